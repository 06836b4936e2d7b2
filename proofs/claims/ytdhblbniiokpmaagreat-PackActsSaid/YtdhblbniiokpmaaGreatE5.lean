/-
  Parts of the proof that the last text states. No condition of their own.
-/
import Derived.KernelRfl
import Derived.Test.YtdhblbniiokpmaaGreatRows
import Derived.Test.YtdhblbniiokpmaaGreatE4
namespace Go.Proofs
open Tryz
open Go Go.Own Go.Sort
set_option maxRecDepth 100000
set_option linter.unusedVariables false
theorem Pp {α:Type}(keep:α->Bool) (val:α->Int) {l:List α}(ak:l.length<=1000):ly (ix keep val l):=by
 refine ⟨λp au=>?_,?_⟩
 all_goals grind [W6,XR]
theorem LY (l:List Row) (ak:l.length<=200) (ao:∀ r∈l,ly r.fB/\r.fB.length<=1000):Tot (xZ l) λr=>r.1=l.map (·.Def)/\∀ a n,rn r.2 a n=some (q9 (l.map (·.fB)) a n):=by
 unfold xZ;refine .aB (Ξ:=λs:List Int × List (List ca)=>s.1=l.map (·.Def)/\s.2=l.map (·.fB)) ?_ λs aC=>?_
 ·refine Tot.upto (λs=>s.2.2) l.length (λk s=>s.1=(l.take k).map (·.Def)/\s.2.1=(l.take k).map (·.fB)) rfl (by omega) ⟨rfl,rfl⟩ λk s hk he bf=>?_;obtain ⟨A,B,i⟩:=s;obtain ⟨h1,af⟩:=bf;simp only at he h1 af ⊢;subst he h1 af;rw [eQ k (by omega)];refine Tot.br (λaT=>?_) (λdU=>.aq ?_)
  ·have aT:k<l.length:=by omega
   rw [eu aT];refine Tot.aV (.aB (Ξ:=λ_=>True) (Tot.ap (by simp [lim]; omega) trivial) λ_ _=>.aB (Ξ:=λ_=>True) (Tot.ap (by simp [lim]; omega) trivial) λ_ _=>.aq ⟨aT,rfl,?_,?_⟩)
   all_goals grind [lV]
  grind
 ·obtain ⟨h1,af⟩:=aC;rw [af];have dd:p9 (l.map (·.fB)):=⟨by simp; omega,λr ec=>by
   grind⟩
  have fj:DU (l.map (·.fB)):=⟨by simp; omega,λr ec=>by
   grind⟩
  refine .aB (R3 _ fj) λc aa=>.aq ⟨h1,λa n=>?_⟩;obtain ⟨ha,o,hO,h7⟩:=aa.2 dd;exact Tx dd hO h7 (h7.inv dd (List.pairwise_reverse.2 hO.Ka)) ha a n
structure A0 (g:bO) (d:gS) (t:Tables):Prop where
 Mg:t.Def=d.cP.map λr=>jy (red r)
 gd:t.km=(List.range g.b1.length).map λa=>jy (pos (ef d a))
 ac:∀ a n,rn t.cP a n=some (q9 (d.cP.map λr=>(lS r).fB) a n)
 go:∀ a n,rn t.gB a n=some (q9 ((List.range g.b1.length).map λa=>(ln (ef d a)).fB) a n)
 le:t.Left=g.bh.map (·.Left)
 nh:t.mJ=g.bh.map λp=>(p.eI.length:Int)
theorem jU (g:bO) (n:Nat) (d:gS) (aS:sr g n d) (hk:uP g):Tot (vK g d) (A0 g d):=by
 have aO:=aS.sB;have aw:=aO.kX;have kO:=aO.dz;have t_:=aO.ia;have k':=aS.gY;have tL:=aS.a;have zu:=aS.o;unfold vK;refine .aB (tx g n d aS) λa8 h1=>?_;subst h1;refine .aB (LY _ (by simp; omega) λr ao=>?_) λx2 af=>.aB (RY g n d aS) λa7 aI=>?_
 ·obtain ⟨q,bg,rfl⟩:=List.mem_map.1 ao;have ak:=(aS.jS q bg).1;have:=vX (lO (jy (red q))) mQ q;exact ⟨Pp _ _ (by omega),by show (ix _ _ q).length<=_; omega⟩
 subst aI;refine .aB (LY _ (by simp; omega) λr ao=>?_) λbq bK=>?_
 ·obtain ⟨a,_,rfl⟩:=List.mem_map.1 ao;have ak:=wO d a;have:=vX (lP (jy (pos (ef d a)))) id (ef d a);exact ⟨Pp _ _ (by omega),by show (ix _ _ (ef d a)).length<=_; omega⟩
 refine .aB (Ξ:=λs:List Int × List Int=>s.1=g.bh.map (·.Left)/\s.2=g.bh.map λp=>(p.eI.length:Int)) ?_ λbB eh=>.aB (RZ g hk (by omega)) λeF _=>.aq ?_
 ·refine Tot.upto (λs=>s.2.2) g.bh.length (λk s=>s.1=(g.bh.take k).map (·.Left)/\s.2.1=(g.bh.take k).map λp=>(p.eI.length:Int)) rfl (by omega) ⟨rfl,rfl⟩ λk s xa he bf=>?_;obtain ⟨A,B,i⟩:=s;obtain ⟨h1,af⟩:=bf;simp only at he h1 af ⊢;subst he h1 af;rw [eQ k (by omega)];refine Tot.br (λaT=>?_) (λdU=>.aq ?_)
  ·have aT:k<g.bh.length:=by omega
   rw [eu aT];refine Tot.aV (.aB (Ξ:=λ_=>True) (Tot.ap (by simp [lim]; omega) trivial) λ_ _=>.aB (Ξ:=λ_=>True) (Tot.ap (by simp [lim]; omega) trivial) λ_ _=>.aq ⟨aT,rfl,?_,?_⟩)
   all_goals grind [lV]
  grind
 ·refine ⟨?_,?_,λa m=>?_,λa m=>?_,eh.1,eh.2⟩
  ·show x2.1=_;rw [af.1,List.map_map];rfl
  ·show bq.1=_;rw [bK.1,List.map_map];rfl
  ·show rn x2.2 a m=_;rw [af.2,List.map_map];rfl
  ·show rn bq.2 a m=_;rw [bK.2,List.map_map];rfl
theorem LX (s:Source) (av:rN s):Tot (s0 s) λr=>r.2.2.2=true->(∃ n,sr r.1 n r.2.1)/\uP r.1:=by
 refine (Par.ji (RT s av) (Ψ:=λr=>r.2.2.2=true->uP r.1) ?_).use λr ao h=>⟨ao.1 h,ao.2 h⟩;have XA:Par (x4 s) λr=>r.2=true->uP r.1:=by
  unfold x4;exact .aB (XB s av) λr ao=>.aq λh=>ao (of_decide_eq_true h)
 have Xz:Par (x1 s) λr=>r.2.2=true->uP r.1:=by
  unfold x1;exact .aB XA λr ao=>Par.bF (λ_=>.aq λh=>by cases h) (λh=>.aB (Ξ:=λ_=>True) (λ_ _=>trivial) λm _=>.aq λ_=>ao (by simpa using h))
 have Xy:Par (vR s) λr=>r.2.2.2=true->uP r.1:=by
  unfold vR;exact .aB Xz λr ao=>Par.bF (λ_=>.aq λh=>by cases h) (λh=>.aB (Ξ:=λ_=>True) (λ_ _=>trivial) λqC _=>.aB (Ξ:=λ_=>True) (λ_ _=>trivial) λcs _=>.aq λ_=>ao (by simpa using h))
 unfold s0;exact .aB Xy λr ao=>Par.bF (λ_=>.aq λh=>by cases h) (λh=>.aB (Ξ:=λ_=>True) (λ_ _=>trivial) λ_ _=>.aB (Ξ:=λ_=>True) (λ_ _=>trivial) λ_ _=>.aq λ_=>ao (by simpa using h))
def Dg (r:List Act) (k:Int):Option Act:=if (lF (lS r).fB k).2=true then Ae (lF (lS r).fB k).1 else some (if jy (red r)<0 then ⟨0,0⟩ else ⟨2,jy (red r)⟩)
theorem Mj {g:bO}{d:gS}{t:Tables}(h:A0 g d t) (s k:Int):pR t s k=match idx d.cP s with | some r=>Dg r k | none=>some ⟨0,0⟩:=by
 unfold pR;rw [h.ac,Option.bind_some];have Nt:t.Def.length=d.cP.length:=by rw [h.Mg]; simp
 cases aC:idx d.cP s with
 | none =>
  grind [idx,q9]
 | some r =>
  have av:=nb aC;have aZ:idx (d.cP.map λr=>(lS r).fB) s=some (lS r).fB:=by
   grind [idx]
  have abS:idx t.Def s=some (jy (red r)):=by
   rw [h.Mg]
   grind [idx]
  grind [q9,Dg]
def FE (c:List Int) (s:Int):Int:=if (lF (ln c).fB s).2=true then (lF (ln c).fB s).1 else jy (pos c)
theorem Mk {g:bO}{d:gS}{t:Tables}(h:A0 g d t) (s a:Int):uv t s a=some (if 0<=a/\a<g.b1.length then FE (ef d a.toNat) s else -1):=by
 unfold uv;rw [h.go,Option.bind_some];have Im:t.km.length=g.b1.length:=by rw [h.gd]; simp
 by_cases aP:0<=a/\a<(g.b1.length:Int)
 ·obtain ⟨k,rfl⟩:∃ k:Nat,a=(k:Int):=⟨a.toNat,by omega⟩;have hk:k<g.b1.length:=by omega
  have aZ:idx ((List.range g.b1.length).map λa=>(ln (ef d a)).fB) (k:Int)=some (ln (ef d k)).fB:=by
   unfold idx;rw [if_pos (by omega),Int.toNat_natCast,List.getElem?_map,List.getElem?_range hk]; rfl
  have jJ:idx t.km (k:Int)=some (jy (pos (ef d k))):=by
   rw [h.gd];unfold idx;rw [if_pos (by omega),Int.toNat_natCast,List.getElem?_map,List.getElem?_range hk]; rfl
  rw [if_pos aP,Int.toNat_natCast];unfold q9 FE;rw [aZ];simp only;by_cases af:(lF (ln (ef d k)).fB s).2=true
  ·simp [af]
  ·have af:(lF (ln (ef d k)).fB s).2=false:=by simpa using af
   have d1:decide ((k:Int)<0)=false:=decide_eq_false (by omega);have d2:decide ((t.km.length:Int)<=(k:Int))=false:=decide_eq_false (by omega);rw [af,d1,d2,jJ];simp
 ·have aZ:idx ((List.range g.b1.length).map λa=>(ln (ef d a)).fB) a=none:=by
   unfold idx;split
   ·rw [List.getElem?_eq_none];simp; omega
   ·rfl
  rw [if_neg aP];unfold q9;rw [aZ];simp only [cond_false];by_cases aR:a<0
  ·simp [aR]
  ·have h1:(t.km.length:Int)<=a:=by omega
   simp [aR,h1]
theorem XV (r:List Act) (k:Int):∃ a,Dg r k=some a:=by
 unfold Dg;split
 ·obtain ⟨a,h,_⟩:=Y8 (lF (lS r).fB k).1
  grind [Ml]
 grind
theorem S5 {g:bO}{d:gS}{t:Tables}(h:A0 g d t) (s k:Int):∃ a,pR t s k=some a:=by
 rw [Mj h];split
 ·exact XV _ k
 grind
theorem S6 {g:bO}{n:Nat}{d:gS}{t:Tables}(jJ:sr g n d) (h:A0 g d t) (s k:Int):vO d (d.cP.map lS) s k=pR t s k:=by
 have aw:=jJ.sB.kX;rw [Mj h];unfold vO;cases aC:idx d.cP s with
 | none =>
  grind [idx]
 | some r =>
  have av:=nb aC;have ak:=(jJ.jS r av.2.2).1;have aZ:idx (d.cP.map lS) s=some (lS r):=by
   grind [idx]
  have d1:decide (s<0)=false:=decide_eq_false (by omega);have d2:decide (((d.cP.map lS).length:Int)<=s)=false:=decide_eq_false (by simp; omega);have tZ:(lS r).fB.length<=100000:=by
   have:=vX (lO (jy (red r))) mQ r;show (ix _ _ r).length<=_;omega
  grind [g19,Dg,lS,Ml]
theorem t4 (x:o6) (aE a2:Int):Ad x aE a2=some true:=by
 suffices h:Tot (Ad x aE a2) λr=>r=true by
  obtain ⟨r,ao,e⟩:=h
  grind
 unfold Ad;rw [Qp];refine Tot.aV (.aB (t10 x) λy av=>.aB (LX y av) λD aS=>Tot.bF (λ_=>.aq rfl) (λh=>?_));obtain ⟨⟨n,jJ⟩,hk⟩:=aS (by simpa using h);generalize D.1=g at *;generalize D.2.1=d at *;have k':=jJ.gY;have aw:=jJ.sB.kX;have tL:=jJ.a;refine .aB (jU g n d jJ hk) λt cx=>.aB (tv g n d jJ) λR aZ=>?_;subst aZ;have key:∀ s k:Int,∃ a,pR t s k=some a/\vO d (d.cP.map lS) s k=some a:=λs k=>by
  obtain ⟨a,aP⟩:=S5 cx s k
  grind [S6]
 refine .aB (Ξ:=hK (λ_=>True) (λ_:Bool=>False)) ?_ λx J=>?_
 ·refine Tot.count (λs=>s) ((d.cP.length:Int)+1) (λs=>-1<=s) (Int.le_refl _) (by show (d.cP.length:Int)+1 - -1<_; omega) λs aC=>?_;refine Tot.br (λhle=>?_) (λ_=>.aq trivial);have I0:aK (s+1)=s+1:=by rw [cI]; omega
  rw [I0];refine .aB (Ξ:=hK (λ_=>True) (λ_:Bool=>False)) ?_ λx J=>?_
  ·have Wg:aK ((g.ba.length:Int)+2)=(g.ba.length:Int)+2:=by rw [cI]; omega
   rw [Wg];refine Tot.count (λs=>s) ((g.ba.length:Int)+3) (λs=>-2<=s) (Int.le_refl _) (by show (g.ba.length:Int)+3 - -2<_; omega) λk fX=>?_;refine Tot.br (λacr=>?_) (λ_=>.aq trivial);have qs:aK (k+1)=k+1:=by rw [cI]; omega
   rw [qs];obtain ⟨a,cA,cf⟩:=key s k;rw [cA,cf];exact ⟨.inl (k+1),by simp,⟨by show -2<=k+1; omega,by show k<k+1; omega,by show k+1<=_; omega⟩⟩
  ·rcases x with x | x
   ·obtain ⟨a,cA,cf⟩:=key s a2;simp only [cA,cf,Option.bind_some];exact ⟨.inl (s+1),by simp,⟨by show -1<=s+1; omega,by show s<s+1; omega,by show s+1<=_; omega⟩⟩
   grind
 ·rcases x with x | x
  ·obtain ⟨a,cA,cf⟩:=key aE a2;simp only [cA,cf,Option.bind_some];exact ⟨true,by simp,rfl⟩
  grind
theorem t5 (x:o6) (aE a2:Int):J5 x aE a2=some true:=by
 suffices h:Tot (J5 x aE a2) λr=>r=true by
  obtain ⟨r,ao,e⟩:=h
  grind
 unfold J5;rw [Qp];refine Tot.aV (.aB (t10 x) λy av=>.aB (LX y av) λD aS=>Tot.bF (λ_=>.aq rfl) (λh=>?_));obtain ⟨⟨n,jJ⟩,hk⟩:=aS (by simpa using h);generalize D.1=g at *;generalize D.2.1=d at *;have k':=jJ.gY;have kO:=jJ.sB.dz;have tL:=jJ.a;have zu:=jJ.o;refine .aB (jU g n d jJ hk) λt cx=>.aB (ny g n d jJ) λR aZ=>?_;subst aZ;have Na:((List.range g.b1.length).map λa=>ln (ef d a)).length=g.b1.length:=by simp
 refine .aB (Ξ:=hK (λ_=>True) (λ_:Bool=>False)) ?_ λx J=>?_
 ·refine Tot.count (λs=>s) ((g.b1.length:Int)+1) (λs=>-1<=s) (Int.le_refl _) (by show (g.b1.length:Int)+1 - -1<_; omega) λs aC=>?_;rw [Na];refine Tot.br (λhle=>?_) (λ_=>.aq trivial);have I0:aK (s+1)=s+1:=by rw [cI]; omega
  rw [I0];refine .aB (Ξ:=λl:List Int=>l.length<=1000) ?_ λl ak=>?_
  ·refine Tot.upto (λs=>s.2) d.cP.length (λk s=>s.1.length=k+3) rfl (by omega) rfl λk s xa he bf=>?_;obtain ⟨L,i⟩:=s;simp only at he bf ⊢;subst he;rw [eQ k (by omega)];refine Tot.br (λaT=>?_) (λ_=>.aq (by show L.length<=1000; omega));refine .aB (Ξ:=λ_=>True) (Tot.ap (by simp [lim]; omega) trivial) λ_ _=>.aq ⟨by omega,rfl,by show (L++[_]).length=_; simp; omega⟩
  ·refine .aB (Ξ:=hK (λ_=>True) (λ_:Bool=>False)) ?_ λx J=>?_
   ·refine Tot.upto (λs=>s) l.length (λ_ _=>True) rfl (by omega) trivial λk i xa he _=>?_;subst he;rw [eQ k (by omega)];refine Tot.br (λaT=>?_) (λ_=>.aq trivial);have aT:k<l.length:=by omega
    rw [eu aT];generalize l[k]=q at *;have e:=Mk cx q s;refine .aB (Ξ:=λc:Bool=>c=decide (0<=s/\s<(g.b1.length:Int))) (Tot.br (λh=>.aq (by simp [h])) (λh=>.aq (by simp [h]))) λc aa=>?_;subst aa;refine .aB (Ξ:=λv:Int=>v=if 0<=s/\s<(g.b1.length:Int) then FE (ef d s.toNat) q else -1) (Tot.br (λh=>?_) (λh=>.aq (if_neg h).symm)) λv hv=>?_
    ·rw [if_pos h];have aZ:idx ((List.range g.b1.length).map λa=>ln (ef d a)) s=some (ln (ef d s.toNat)):=by
      grind [idx]
     have tZ:(ln (ef d s.toNat)).fB.length<=100000:=by
      have h1:=vX (lP (jy (pos (ef d s.toNat)))) id (ef d s.toNat);have af:=wO d s.toNat;show (ix _ _ (ef d s.toNat)).length<=_;omega
     rw [aZ];simp only [Option.bind_some];rw [g19 _ _ tZ];unfold FE;simp only [Option.bind_some];by_cases af:(lF (ln (ef d s.toNat)).fB q).2=true
     ·rw [if_pos af,af];exact .aq rfl
     ·have aI:(lF (ln (ef d s.toNat)).fB q).2=false:=by simpa using af
      rw [if_neg af,aI];exact .aq rfl
    ·subst hv;simp only [Option.bind_some,e];exact ⟨.inl ((k+1:Nat):Int),by simp,aT,rfl,trivial⟩
   ·rcases x with x | x
    ·exact .aq ⟨by show -1<=s+1; omega,by show s<s+1; omega,by show s+1<=_; omega⟩
    grind
 ·rcases x with x | x
  ·rw [Na];have e:=Mk cx aE a2;refine .aB (Ξ:=λc:Bool=>c=true) ?_ λc aa=>.aq aa;refine Tot.br (λh1=>Tot.br (λaf=>.aq rfl) (λaf=>?_)) (λh1=>?_)
   ·rw [e,if_neg (λh=>af h.2)];exact .aq rfl
   ·rw [e,if_neg (λh=>h1 h.1)];exact .aq rfl
  grind
end Go.Proofs
namespace Go.Own
open Go
section
variable {P:Program}{N:c6}{ops:Array Oper}{bd:List (List Nat)}{g g0:aM}{K:aM->Prop}{l:List Oper}{acc:Acc}{d i j t':Nat}{op:Op}{ty:TypeId}{pos:String}{after:Array Edge}{x:ab}{b c:Bool}
theorem gC (av:c=!b) (hk:ar P N ops l (cV g d (.bW [])) K) (h:(ops[j]?).bind (·.dst)=some t':=by rfl) (aO:g t'=some (.lit (.bool c)):=by rfl) (bc:N.ok d=true:=by rfl) (aW:g d=none:=by rfl):ar P N ops (⟨some d,op,ty,pos,after,some (j,b)⟩::l) g K:=.ps h aO av bc aW hk
theorem DT (hk:ar P N ops l (cV g d (.bW [])) K) (h:(ops[j]?).bind (·.dst)=some t':=by rfl) (aO:g t'=some (.bW []):=by rfl) (bc:N.ok d=true:=by rfl) (aW:g d=none:=by rfl):ar P N ops (⟨some d,op,ty,pos,after,some (j,b)⟩::l) g K:=.pu h aO bc aW hk
theorem cm (av:c=b) (au:ch P g op ty x) (hk:ar P N ops l (cV g d x) K) (h:(ops[j]?).bind (·.dst)=some t':=by rfl) (aO:g t'=some (.lit (.bool c)):=by rfl) (bc:N.ok d=true:=by rfl) (aW:g d=none:=by rfl):ar P N ops (⟨some d,op,ty,pos,after,some (j,b)⟩::l) g K:=.v au bc aW (.ft h aO av) hk
theorem Q3 (hk:ar P N ops l (cV g d (.bW [])) K) (h:(ops[j]?).bind (·.dst)=some t':=by rfl) (aO:g t'=some (.lit (.bool c)):=by rfl) (av:c=!b:=by assumption) (bc:N.ok d=true:=by rfl) (aW:g d=none:=by rfl):ar P N ops (⟨some d,op,ty,pos,after,some (j,b)⟩::l) g K:=.ps h aO av bc aW hk
theorem fi (au:ch P g op ty x) (hk:ar P N ops l (cV g d x) K) (h:(ops[j]?).bind (·.dst)=some t':=by rfl) (aO:g t'=some (.lit (.bool c)):=by rfl) (av:c=b:=by assumption) (bc:N.ok d=true:=by rfl) (aW:g d=none:=by rfl):ar P N ops (⟨some d,op,ty,pos,after,some (j,b)⟩::l) g K:=.v au bc aW (.ft h aO av) hk
theorem ih (bG:Nat) (av:c=!b) (hk:bA P N ops bd g0 i ((bG,d,some (.bW []))::acc) l K) (h:(ops[j]?).bind (·.dst)=some t':=by rfl) (aO:jA bd g0 bG acc t'=some (a_ c):=by rfl) (ah:Nat.beq ops.size (bG+l.length+1)=true:=by rfl) (aW:g0 d=none:=by rfl) (aF:acc.all (λe=>!Nat.beq e.2.1 d)=true:=by rfl) (bc:N.ok d=true:=by rfl):bA P N ops bd g0 i acc (⟨some d,op,ty,pos,after,some (j,b)⟩::l) K:=.ps bG h aO av ah aW aF bc hk
theorem k2 (bG:Nat) (hk:bA P N ops bd g0 i ((bG,d,some (.bW []))::acc) l K) (h:(ops[j]?).bind (·.dst)=some t':=by rfl) (aO:jA bd g0 bG acc t'=some (.bW []):=by rfl) (ah:Nat.beq ops.size (bG+l.length+1)=true:=by rfl) (aW:g0 d=none:=by rfl) (aF:acc.all (λe=>!Nat.beq e.2.1 d)=true:=by rfl) (bc:N.ok d=true:=by rfl):bA P N ops bd g0 i acc (⟨some d,op,ty,pos,after,some (j,b)⟩::l) K:=.pu bG h aO ah aW aF bc hk
theorem iW (bG:Nat) (av:c=b) (au:ch P (jA bd g0 bG acc) op ty x) (hk:bA P N ops bd g0 i ((bG,d,some x)::acc) l K) (h:(ops[j]?).bind (·.dst)=some t':=by rfl) (aO:jA bd g0 bG acc t'=some (.lit (.bool c)):=by rfl) (ah:Nat.beq ops.size (bG+l.length+1)=true:=by rfl) (aW:g0 d=none:=by rfl) (aF:acc.all (λe=>!Nat.beq e.2.1 d)=true:=by rfl) (bc:N.ok d=true:=by rfl):bA P N ops bd g0 i acc (⟨some d,op,ty,pos,after,some (j,b)⟩::l) K:=.v bG au ah aW aF bc (.ft h aO av) hk
end
section
variable {P:Program}{N:c6}{ops:Array Oper}{g:aM}{K:aM->Prop}{l:List Oper}{A B:Code}{G G1:List (Nat × ab)}{Φ:Exit->aM->Prop}{t id:Nat}{b:Bool}{α:Type}{X Y o:α}
theorem W.b9 (h:(bif b then X else Y)=o) (aa:get G t=some (a_ b)) (dL:b=true->X=o->W P N A (get G) Φ) (aN:b=false->Y=o->W P N B (get G) Φ):W P N (.cond (.tmp t) A B) (get G) Φ:=W.fG aa (λe=>dL e (Sn e h)) (λe=>aN e (Sm e h))
def pick (g:aM):List Nat->Option (List (Nat × ab))
 | []=>some []
 | k::ks=>match g k with
  | some x=>match pick g ks with
   | some l=>some ((k,x)::l)
   | none=>none
  | none=>none
class iz (l:List (Nat × ab)):Prop where p:∀ e∈l,cU e.2
instance:iz []:=⟨λ_ h=>by cases h⟩
instance {k:Nat}{x:ab}{l:List (Nat × ab)} [h:cg x] [ak:iz l]:iz ((k,x)::l):=⟨λe he=>by
 rcases List.mem_cons.1 he with rfl | he
 ·exact h.bm
 ·exact ak.p e he⟩
theorem uy {c:Bool}{g g2:aM}:∀ {ks:List Nat}{G1:List (Nat × ab)},pick g ks=some G1->(∀ e∈G1,cU e.2)->Trim c g g2 G1
 | [],_,h,_=>by cases h; exact .nil
 | k::ks,G1,h,aF=>by
  unfold pick at h
  split at h
  ·rename_i x J
   split at h
   ·rename_i l ak;cases h;have:cg x:=⟨aF (k,x) (by simp)⟩;exact .n J (uy ak λe he=>aF e (by simp [he]))
   ·cases h
  ·cases h
structure yN (ks:List Nat) (G1:List (Nat × ab)) (g':aM):Prop where p:ko g' (get G1)
theorem bM {ks:List Nat}(h:pick g ks=some G1) [aF:iz G1]:ar P N ops [] g (yN ks G1):=.nil ⟨(uy (c:=true) (g2:=get G1) h aF.p).eY⟩
theorem OC {l:List Oper}{ks:List Nat}(h:ar P N l.toArray l g (yN ks G1)):ar P N l.toArray l g λg'=>ko g' (get G1):=λi hi=>by
 obtain ⟨g',h1,af⟩:=h i hi;exact ⟨g',h1,af.p⟩
theorem ar.bV (ks:List Nat) (h:pick g ks=some G1) [aF:iz G1] (hk:ar P N ops l (get G1) K):ar P N ops l g K:=.Dh (uy h aF.p) hk
theorem W.bV {l:List Oper}(ks:List Nat) (h:ar P N l.toArray l (get G) (yN ks G1)) (hk:aA .normal Φ G1):W P N (.region id l.toArray false) (get G) Φ:=W.rx G1 (OC h) hk
theorem W.rs {l:List Oper}(G1:List (Nat × ab)) (h:ar P N l.toArray l (get G) λg'=>ko g' (get G1)) (hk:W P N B (get G1) Φ):W P N (.seq (.region id l.toArray false) B) (get G) Φ:=W.bC (W.rx G1 h (aA.bw hk))
theorem W.cN {l:List Oper}(ks:List Nat) (h:ar P N l.toArray l (get G) (yN ks G1)) (hk:W P N B (get G1) Φ):W P N (.seq (.region id l.toArray false) B) (get G) Φ:=W.rs G1 (OC h) hk
end
end Go.Own
namespace Go.Own
open Go
class fO (P:Program) (t:TypeId):Prop where p:jq P t=true:=by kernel_rfl
class iX (P:Program) (t:TypeId):Prop where p:oZ P t=true:=by kernel_rfl
class ep (P:Program) (t:TypeId) (e:outParam TypeId) (z:outParam Nat):Prop where p:fr P t e z=true:=by kernel_rfl
class c' (P:Program) (s:TypeId) (f:Nat) (off:outParam Nat) (t:outParam TypeId):Prop where p:hM P s f off t=true:=by kernel_rfl
section
variable {P:Program}{N:c6}{ops:Array Oper}{g:aM}{K:aM->Prop}{l:List Oper}{ty t:TypeId}{a:Operand}{k r z n:Nat}{cs jH:List ab}
theorem O.oT {v:Value}(aC:g r=some (.obj cs)) (J:Rd g a (.ptr ⟨r,[]⟩ k)) (aw:jq P t=true) (aa:cs[k]?=some (.lit v)):ch P g (.load t a) ty (.lit v):=O.mA aC J aw aa rfl
theorem O.zI (aC:g r=some (.obj cs)) (J:Rd g a (.ptr ⟨r,[]⟩ k)) (aw:jq P t=true) (aa:cs[k]?=some (.bj z n jH)):ch P g (.load t a) ty (.bj z n jH):=O.mA aC J aw aa rfl
theorem O.zJ (aC:g r=some (.obj cs)) (J:Rd g a (.ptr ⟨r,[]⟩ k)) (aw:jq P t=true) (aa:cs[k]?=some (.own z n jH)):ch P g (.load t a) ty (.a6 z ⟨r,[k]⟩ n):=O.mA aC J aw aa rfl
end
section
variable {P:Program}{N:c6}{ops:Array Oper}{g:aM}{K:aM->Prop}{l:List Oper}{t0 d:Nat}{t1 t2 ty:TypeId}{aE a2 a3:Operand}{nS:Nat}{v0:Value}{pos:String}{after:Array Edge}{op:Op}{abC:Nat × Bool}
theorem ar.bN (op:Op) (u:Option (Nat × Bool)) (h:ar P N ops (⟨some d,op,ty,pos,after,u⟩::l) g K):ar P N ops (⟨some d,op,ty,pos,after,u⟩::l) g K:=h
theorem ar.nl (h:ar P N ops [] g K):ar P N ops [] g K:=h
theorem ar.bt (h:ar P N ops l g K:=by
(repeat' (first
 | exact gT .nil
 | exact .nil
 | refine .n rfl ?_
 | (first
  | ((with_reducible apply ar.bN (.move (.tmp _)) none); (first | refine b2 rfl ?_ | refine al (O.aX (.bj rfl)) ?_ | refine al (O.aX (.own rfl)) ?_ | refine al (O.aX (.obj rfl)) ?_ | refine al (O.aX (.cH rfl)) ?_ | refine al (O.aX (.ptr rfl)) ?_ | refine al (O.aX (.a6 rfl)) ?_))
  | ((with_reducible apply ar.bN (.load _ _) none); (first | refine al (O.oT rfl (.ptr rfl) fO.p rfl) ?_ | refine al (O.Co (.cH rfl) fO.p rfl) ?_ | refine al (O.zI rfl (.ptr rfl) fO.p rfl) ?_ | refine al (O.oT rfl (.obj rfl) fO.p rfl) ?_ | refine al (O.zI rfl (.obj rfl) fO.p rfl) ?_ | refine al (O.zJ rfl (.ptr rfl) fO.p rfl) ?_ | refine al (O.zJ rfl (.obj rfl) fO.p rfl) ?_))
  | ((with_reducible apply ar.bN (.fieldAddr _ _ _) none); (first | refine al (O.kr rfl (.obj rfl) c'.p rfl) ?_ | refine al (O.Bl (.cH rfl) c'.p) ?_ | refine al (O.kr rfl (.ptr rfl) c'.p rfl) ?_))
  | ((with_reducible apply ar.bN (.assign (.tmp _)) none); (first | refine nv rfl ?_ | refine al (O.az (.bj rfl)) ?_ | refine al (O.az (.own rfl)) ?_ | refine al (O.az (.obj rfl)) ?_ | refine al (O.az (.cH rfl)) ?_ | refine al (O.az (.ptr rfl)) ?_ | refine al (O.az (.a6 rfl)) ?_))
  | ((with_reducible apply ar.bN (.assign (.const _)) none); (first | refine Ln rfl ?_ | refine al (O.az .xE) ?_))
  | ((with_reducible apply ar.bN (.indexAddr _ _ _) none); (first | refine al (O.rj (.bj rfl) (.lit rfl) ep.p (by assumption)) ?_ | refine al (O.rj (.bj rfl) (.k rfl) ep.p (by assumption)) ?_))
  | ((with_reducible apply ar.bN (.binOp .add _ _ _ _) none); (first | refine al (O.add (.lit rfl) (.k rfl)) ?_ | refine al (O.add (.lit rfl) (.lit rfl)) ?_ | refine al (O.add (.k rfl) (.lit rfl)) ?_))
  | ((with_reducible apply ar.bN (.binOp .lss _ _ _ _) none); (first | refine al (O.lss (.lit rfl) (.k rfl)) ?_ | refine al (O.lss (.lit rfl) (.lit rfl)) ?_ | refine al (O.lss (.k rfl) (.lit rfl)) ?_))
  | ((with_reducible apply ar.bN (.binOp .eql _ _ _ _) none); (first | refine al (O.eql (.lit rfl) (.k rfl)) ?_ | refine al (O.eql (.lit rfl) (.lit rfl)) ?_ | refine al (O.eql (.k rfl) (.lit rfl)) ?_ | refine al (O.qh (.lit rfl) (.lit rfl)) ?_ | refine al (O.qh (.lit rfl) (.k rfl)) ?_))
  | ((with_reducible apply ar.bN (.binOp .neq _ _ _ _) none); (first | refine al (O.neq (.lit rfl) (.k rfl)) ?_ | refine al (O.neq (.lit rfl) (.lit rfl)) ?_ | refine al (O.neq (.k rfl) (.lit rfl)) ?_ | refine al (O.oq (.lit rfl) (.lit rfl)) ?_ | refine al (O.oq (.lit rfl) (.k rfl)) ?_))
  | ((with_reducible apply ar.bN (.binOp .geq _ _ _ _) none); (first | refine al (O.geq (.lit rfl) (.k rfl)) ?_ | refine al (O.geq (.lit rfl) (.lit rfl)) ?_ | refine al (O.geq (.k rfl) (.lit rfl)) ?_))
  | ((with_reducible apply ar.bN (.binOp .gtr _ _ _ _) none); (first | refine al (O.gtr (.lit rfl) (.k rfl)) ?_ | refine al (O.gtr (.lit rfl) (.lit rfl)) ?_ | refine al (O.gtr (.k rfl) (.lit rfl)) ?_))
  | ((with_reducible apply ar.bN (.binOp .sub _ _ _ _) none); (first | refine al (O.sub (.lit rfl) (.k rfl)) ?_ | refine al (O.sub (.lit rfl) (.lit rfl)) ?_ | refine al (O.sub (.k rfl) (.lit rfl)) ?_))
  | ((with_reducible apply ar.bN (.binOp .leq _ _ _ _) none); (first | refine al (O.leq (.lit rfl) (.k rfl)) ?_ | refine al (O.leq (.lit rfl) (.lit rfl)) ?_ | refine al (O.leq (.k rfl) (.lit rfl)) ?_))
  | ((with_reducible apply ar.bN (.pick _ _ _) none); (first | refine al (O.hS (.lit rfl) rfl (.lit rfl)) ?_ | refine al (O.dB (.lit rfl) rfl (.lit rfl)) ?_ | refine al (O.hS (.lit rfl) rfl (.k rfl)) ?_ | refine al (O.dB (.lit rfl) rfl (.k rfl)) ?_ | refine al (O.hS (.lit rfl) (by assumption) (.lit rfl)) ?_ | refine al (O.dB (.lit rfl) (by assumption) (.lit rfl)) ?_ | refine al (O.hS (.lit rfl) (by assumption) (.k rfl)) ?_ | refine al (O.dB (.lit rfl) (by assumption) (.k rfl)) ?_))
  | ((with_reducible apply ar.bN (.call { callee:=.builtin .len,args:=#[_],argTypes:=#[_] }) none); (first | refine al (O.ku (.bj rfl) ep.p) ?_ | refine al (O.mB (.a6 rfl) ep.p) ?_ | refine al (O.mB (.own rfl) ep.p) ?_ | refine al (O.um (.lit rfl) iX.p) ?_))
  | ((with_reducible apply ar.bN (.unOp .not _ _) none); (first | refine al (O.not (.lit rfl)) ?_))
  | ((with_reducible apply ar.bN (.nilCheck _) none); (first | refine al (O.eV (.ptr rfl)) ?_ | refine al (O.xK (.cH rfl)) ?_ | refine al (O.eV (.obj rfl)) ?_))
  | ((with_reducible apply ar.bN (.index _ _ _) none); (first | refine al (O.mn (.lit rfl) (.lit rfl) iX.p (by assumption)) ?_))
  | ((with_reducible apply ar.bN (.move (.const _)) none); (first | refine al (O.aX (.k rfl)) ?_ | refine al (O.aX .xE) ?_)))
 | ((with_reducible apply ar.nl); first | exact bM rfl | refine gT ?_)
 | ((with_reducible apply ar.bN _ (some _)); first
  | (first | refine gC rfl ?_ | refine Q3 ?_ | refine DT ?_)
  | ((with_reducible apply ar.bN (.move (.tmp _)) (some _)); (first | refine cm rfl (O.aX (.lit rfl)) ?_ | refine fi (O.aX (.lit rfl)) ?_ | refine cm rfl (O.aX (.bj rfl)) ?_ | refine fi (O.aX (.bj rfl)) ?_ | refine cm rfl (O.aX (.own rfl)) ?_ | refine fi (O.aX (.own rfl)) ?_ | refine cm rfl (O.aX (.obj rfl)) ?_ | refine fi (O.aX (.obj rfl)) ?_ | refine cm rfl (O.aX (.cH rfl)) ?_ | refine fi (O.aX (.cH rfl)) ?_ | refine cm rfl (O.aX (.ptr rfl)) ?_ | refine fi (O.aX (.ptr rfl)) ?_ | refine cm rfl (O.aX (.a6 rfl)) ?_ | refine fi (O.aX (.a6 rfl)) ?_))
  | ((with_reducible apply ar.bN (.load _ _) (some _)); (first | refine cm rfl (O.oT rfl (.ptr rfl) fO.p rfl) ?_ | refine fi (O.oT rfl (.ptr rfl) fO.p rfl) ?_ | refine cm rfl (O.Co (.cH rfl) fO.p rfl) ?_ | refine fi (O.Co (.cH rfl) fO.p rfl) ?_ | refine cm rfl (O.zI rfl (.ptr rfl) fO.p rfl) ?_ | refine fi (O.zI rfl (.ptr rfl) fO.p rfl) ?_ | refine cm rfl (O.oT rfl (.obj rfl) fO.p rfl) ?_ | refine fi (O.oT rfl (.obj rfl) fO.p rfl) ?_ | refine cm rfl (O.zI rfl (.obj rfl) fO.p rfl) ?_ | refine fi (O.zI rfl (.obj rfl) fO.p rfl) ?_ | refine cm rfl (O.zJ rfl (.ptr rfl) fO.p rfl) ?_ | refine fi (O.zJ rfl (.ptr rfl) fO.p rfl) ?_ | refine cm rfl (O.zJ rfl (.obj rfl) fO.p rfl) ?_ | refine fi (O.zJ rfl (.obj rfl) fO.p rfl) ?_))
  | ((with_reducible apply ar.bN (.fieldAddr _ _ _) (some _)); (first | refine cm rfl (O.kr rfl (.obj rfl) c'.p rfl) ?_ | refine fi (O.kr rfl (.obj rfl) c'.p rfl) ?_ | refine cm rfl (O.Bl (.cH rfl) c'.p) ?_ | refine fi (O.Bl (.cH rfl) c'.p) ?_ | refine cm rfl (O.kr rfl (.ptr rfl) c'.p rfl) ?_ | refine fi (O.kr rfl (.ptr rfl) c'.p rfl) ?_))
  | ((with_reducible apply ar.bN (.indexAddr _ _ _) (some _)); (first | refine cm rfl (O.rj (.bj rfl) (.lit rfl) ep.p (by assumption)) ?_ | refine fi (O.rj (.bj rfl) (.lit rfl) ep.p (by assumption)) ?_ | refine cm rfl (O.rj (.bj rfl) (.k rfl) ep.p (by assumption)) ?_ | refine fi (O.rj (.bj rfl) (.k rfl) ep.p (by assumption)) ?_))
  | ((with_reducible apply ar.bN (.binOp .add _ _ _ _) (some _)); (first | refine cm rfl (O.add (.lit rfl) (.k rfl)) ?_ | refine fi (O.add (.lit rfl) (.k rfl)) ?_ | refine cm rfl (O.add (.lit rfl) (.lit rfl)) ?_ | refine fi (O.add (.lit rfl) (.lit rfl)) ?_ | refine cm rfl (O.add (.k rfl) (.lit rfl)) ?_ | refine fi (O.add (.k rfl) (.lit rfl)) ?_))
  | ((with_reducible apply ar.bN (.binOp .lss _ _ _ _) (some _)); (first | refine cm rfl (O.lss (.lit rfl) (.k rfl)) ?_ | refine fi (O.lss (.lit rfl) (.k rfl)) ?_ | refine cm rfl (O.lss (.lit rfl) (.lit rfl)) ?_ | refine fi (O.lss (.lit rfl) (.lit rfl)) ?_ | refine cm rfl (O.lss (.k rfl) (.lit rfl)) ?_ | refine fi (O.lss (.k rfl) (.lit rfl)) ?_))
  | ((with_reducible apply ar.bN (.binOp .eql _ _ _ _) (some _)); (first | refine cm rfl (O.eql (.lit rfl) (.k rfl)) ?_ | refine fi (O.eql (.lit rfl) (.k rfl)) ?_ | refine cm rfl (O.eql (.lit rfl) (.lit rfl)) ?_ | refine fi (O.eql (.lit rfl) (.lit rfl)) ?_ | refine cm rfl (O.eql (.k rfl) (.lit rfl)) ?_ | refine fi (O.eql (.k rfl) (.lit rfl)) ?_ | refine cm rfl (O.qh (.lit rfl) (.lit rfl)) ?_ | refine fi (O.qh (.lit rfl) (.lit rfl)) ?_ | refine cm rfl (O.qh (.lit rfl) (.k rfl)) ?_ | refine fi (O.qh (.lit rfl) (.k rfl)) ?_))
  | ((with_reducible apply ar.bN (.binOp .neq _ _ _ _) (some _)); (first | refine cm rfl (O.neq (.lit rfl) (.k rfl)) ?_ | refine fi (O.neq (.lit rfl) (.k rfl)) ?_ | refine cm rfl (O.neq (.lit rfl) (.lit rfl)) ?_ | refine fi (O.neq (.lit rfl) (.lit rfl)) ?_ | refine cm rfl (O.neq (.k rfl) (.lit rfl)) ?_ | refine fi (O.neq (.k rfl) (.lit rfl)) ?_ | refine cm rfl (O.oq (.lit rfl) (.lit rfl)) ?_ | refine fi (O.oq (.lit rfl) (.lit rfl)) ?_ | refine cm rfl (O.oq (.lit rfl) (.k rfl)) ?_ | refine fi (O.oq (.lit rfl) (.k rfl)) ?_))
  | ((with_reducible apply ar.bN (.binOp .geq _ _ _ _) (some _)); (first | refine cm rfl (O.geq (.lit rfl) (.k rfl)) ?_ | refine fi (O.geq (.lit rfl) (.k rfl)) ?_ | refine cm rfl (O.geq (.lit rfl) (.lit rfl)) ?_ | refine fi (O.geq (.lit rfl) (.lit rfl)) ?_ | refine cm rfl (O.geq (.k rfl) (.lit rfl)) ?_ | refine fi (O.geq (.k rfl) (.lit rfl)) ?_))
  | ((with_reducible apply ar.bN (.binOp .gtr _ _ _ _) (some _)); (first | refine cm rfl (O.gtr (.lit rfl) (.k rfl)) ?_ | refine fi (O.gtr (.lit rfl) (.k rfl)) ?_ | refine cm rfl (O.gtr (.lit rfl) (.lit rfl)) ?_ | refine fi (O.gtr (.lit rfl) (.lit rfl)) ?_ | refine cm rfl (O.gtr (.k rfl) (.lit rfl)) ?_ | refine fi (O.gtr (.k rfl) (.lit rfl)) ?_))
  | ((with_reducible apply ar.bN (.binOp .sub _ _ _ _) (some _)); (first | refine cm rfl (O.sub (.lit rfl) (.k rfl)) ?_ | refine fi (O.sub (.lit rfl) (.k rfl)) ?_ | refine cm rfl (O.sub (.lit rfl) (.lit rfl)) ?_ | refine fi (O.sub (.lit rfl) (.lit rfl)) ?_ | refine cm rfl (O.sub (.k rfl) (.lit rfl)) ?_ | refine fi (O.sub (.k rfl) (.lit rfl)) ?_))
  | ((with_reducible apply ar.bN (.binOp .leq _ _ _ _) (some _)); (first | refine cm rfl (O.leq (.lit rfl) (.k rfl)) ?_ | refine fi (O.leq (.lit rfl) (.k rfl)) ?_ | refine cm rfl (O.leq (.lit rfl) (.lit rfl)) ?_ | refine fi (O.leq (.lit rfl) (.lit rfl)) ?_ | refine cm rfl (O.leq (.k rfl) (.lit rfl)) ?_ | refine fi (O.leq (.k rfl) (.lit rfl)) ?_))
  | ((with_reducible apply ar.bN (.call { callee:=.builtin .len,args:=#[_],argTypes:=#[_] }) (some _)); (first | refine cm rfl (O.ku (.bj rfl) ep.p) ?_ | refine fi (O.ku (.bj rfl) ep.p) ?_ | refine cm rfl (O.mB (.a6 rfl) ep.p) ?_ | refine fi (O.mB (.a6 rfl) ep.p) ?_ | refine cm rfl (O.mB (.own rfl) ep.p) ?_ | refine fi (O.mB (.own rfl) ep.p) ?_ | refine cm rfl (O.um (.lit rfl) iX.p) ?_ | refine fi (O.um (.lit rfl) iX.p) ?_))
  | ((with_reducible apply ar.bN (.unOp .not _ _) (some _)); (first | refine cm rfl (O.not (.lit rfl)) ?_ | refine fi (O.not (.lit rfl)) ?_))
  | ((with_reducible apply ar.bN (.nilCheck _) (some _)); (first | refine cm rfl (O.eV (.ptr rfl)) ?_ | refine fi (O.eV (.ptr rfl)) ?_ | refine cm rfl (O.xK (.cH rfl)) ?_ | refine fi (O.xK (.cH rfl)) ?_ | refine cm rfl (O.eV (.obj rfl)) ?_ | refine fi (O.eV (.obj rfl)) ?_))
  | ((with_reducible apply ar.bN (.index _ _ _) (some _)); (first | refine cm rfl (O.mn (.lit rfl) (.lit rfl) iX.p (by assumption)) ?_ | refine fi (O.mn (.lit rfl) (.lit rfl) iX.p (by assumption)) ?_)))))):ar P N ops l g K:=h
theorem W.Rk {id:Nat}{l:List Oper}{G G1:List (Nat × ab)}{Φ:Exit->aM->Prop}(ks:List Nat) (hk:aA .normal Φ G1) (h:ar P N l.toArray l (get G) (yN ks G1):=by exact ar.bt):W P N (.region id l.toArray false) (get G) Φ:=W.bV ks h hk
theorem W.ct {id:Nat}{l:List Oper}{B:Code}{G G1:List (Nat × ab)}{Φ:Exit->aM->Prop}(ks:List Nat) (hk:W P N B (get G1) Φ) (h:ar P N l.toArray l (get G) (yN ks G1):=by exact ar.bt):W P N (.seq (.region id l.toArray false) B) (get G) Φ:=W.cN ks h hk
end
end Go.Own
namespace Go.Own
open Go
section
variable {P:Program}{N:c6}{G:List (Nat × ab)}{g':aM}
theorem i_ {rs:List ResultVar}{ys xs:List ab}{res:ab}{outs:List (Option ab)}{n:Nat}(h:j4 P (get G) rs ys xs g') (he:qI xs=res:=by rfl) (a1:qZ g' N.pins 0 outs:=by (repeat' first | exact .nil | refine .no ?_)) (fp:(rs.filterMap fun | .cell t _=>some t | _=>none).Nodup:=by exact of_decide_eq_true (by kernel_rfl)) (ak:outs.length=n:=by rfl):aA .ret (p4 P N rs n outs res) G:=aA.fin (Fin.ro h he fp a1 ak (.inr rfl))
end
end Go.Own
namespace Go.Own
open Go
section
variable {P:Program}{N:c6}{G:List (Nat × ab)}{g':aM}{S R:Type}
theorem aL {α β:Type}{x:Option α}{f:α->Option β}{r:β}{G:Prop}(h:x.bind f=some r) (k:∀ a,x=some a->f a=some r->G):G:=by
 obtain ⟨a,h1,af⟩:=k7 h
 grind
theorem Rd.bn {g:aM}{t:Nat}{v:Value}(h:g t=some (.lit v):=by rfl):Rd g (.tmp t) (.lit v):=.lit h
theorem Rd.z2 {g:aM}{t z n:Nat}{cs:List ab}(h:g t=some (.bj z n cs):=by rfl):Rd g (.tmp t) (.bj z n cs):=.bj h
theorem Rd.z3 {g:aM}{t z n:Nat}{cs:List ab}(h:g t=some (.own z n cs):=by rfl):Rd g (.tmp t) (.a6 z ⟨t,[]⟩ n):=.own h
theorem Rd.z4 {g:aM}{t:Nat}{c:ab}{cs:List ab}(h:g t=some (.obj (c::cs)):=by rfl):Rd g (.tmp t) (.ptr ⟨t,[]⟩ 0):=.obj h
theorem Rd.z5 {g:aM}{t k:Nat}{p:Place}(h:g t=some (.ptr p k):=by rfl):Rd g (.tmp t) (.ptr p k):=.ptr h
theorem Rd.dk {g:aM}{t z n:Nat}{p:Place}(h:g t=some (.a6 z p n):=by rfl):Rd g (.tmp t) (.a6 z p n):=.a6 h
theorem Rd.n0 {g:aM}{t:Nat}{cs:List ab}(h:g t=some (.cH cs):=by rfl):Rd g (.tmp t) (.cH cs):=.cH h
theorem Rd.cJ {g:aM}{v:Value}(h:ofConst v=.lit v:=by rfl):Rd g (.const v) (.lit v):=.k h
theorem aA.d_ {G1:List (Nat × ab)}(h:Trim true (get G) (get G1) G1:=by (repeat' first | exact .nil | refine .n rfl ?_)):aA .normal (λe g=>e=.normal/\ig g G1) G:=aA.dF h
theorem aA.gt {s:S}{F:S->List (Nat × ab)}{Ψ:R->Exit->aM->Prop}(h:Trim true (get G) (get (F s)) (F s):=by (repeat' first | exact .nil | refine .n rfl ?_)):aA .normal (k5 F Ψ (.inl s)) G:=aA.go h
theorem aA.t1 {id:Nat}{r:R}{F:S->List (Nat × ab)}{mi:R->List (Nat × ab)}(h:Trim true (get G) (get (mi r)) (mi r):=by (repeat' first | exact .nil | refine .n rfl ?_)):aA (.exit id) (k5 F (λr e g=>e=.exit id/\ig g (mi r)) (.inr r)) G:=aA.a8 h
theorem oz {rs:List ResultVar}{ys xs:List ab}{res:ab}{outs:List (Option ab)}{n:Nat}(h:j4 P (get G) rs ys xs g':=by exact .f rfl rfl .nil) (he:qI xs=res:=by rfl) (a1:qZ g' N.pins 0 outs:=by (repeat' first | exact .nil | refine .no ?_)) (fp:(rs.filterMap fun | .cell t _=>some t | _=>none).Nodup:=by exact of_decide_eq_true (by kernel_rfl)) (ak:outs.length=n:=by rfl):aA .ret (p4 P N rs n outs res) G:=by grind [i_]
end
end Go.Own
namespace Go.Own
open Go
section
variable {α:Type}{P:Program}{g:aM}{ty t:TypeId}{a b:Operand}{k r z n:Nat}{cs cs':List ab}{x y:ab}{p:Place}{m:Int}{sT:IntKind}{e:TypeId}{N:c6}{ops:Array Oper}
theorem O.bx {cT f off:Nat} [h:c' P cT f off t] (J:Rd g a (.ptr ⟨r,[]⟩ k):=by exact .obj rfl) (aC:g r=some (.obj cs):=by rfl) (ak:Nat.blt (k+off) cs.length=true:=by rfl):ch P g (.fieldAddr cT a f) ty (.ptr ⟨r,[]⟩ (k+off)):=O.kr aC J h.p ak
theorem O.y2 {cT f off:Nat} [h:c' P cT f off t] (J:Rd g a (.ptr ⟨r,[]⟩ k):=by exact .ptr rfl) (aC:g r=some (.obj cs):=by rfl) (ak:Nat.blt (k+off) cs.length=true:=by rfl):ch P g (.fieldAddr cT a f) ty (.ptr ⟨r,[]⟩ (k+off)):=O.kr aC J h.p ak
theorem O.ee {v:Value} [h:fO P t] (J:Rd g a (.ptr ⟨r,[]⟩ k):=by exact .ptr rfl) (aC:g r=some (.obj cs):=by rfl) (aa:cs[k]?=some (.lit v):=by rfl):ch P g (.load t a) ty (.lit v):=O.oT aC J h.p aa
theorem O.eS {en:bJ α}{L:List α}{y:α}{bE:Nat}(h:idx L m=some y) [aI:ep P t e bE] (J:Rd g a (.bj en.z L.length (bp en L)):=by exact .bj rfl) (ax:Rd g b (.lit (.int sT m)):=by exact .lit rfl) (aY:bE=en.z:=by rfl):ch P g (.indexAddr t a b) ty (.cH (en.cells y++bp en (L.drop (m.toNat+1)))):=O.rj J ax (aY ▸ aI.p) h
theorem O.c8 [h:fO P t] (J:Rd g a (.ptr ⟨r,[]⟩ k):=by exact .ptr rfl) (aC:g r=some (.obj cs):=by rfl) (aa:cs[k]?=some x:=by rfl) (ax:gv 0 ⟨r,[k]⟩ x=y:=by rfl):ch P g (.load t a) ty y:=O.mA aC J h.p aa ax
theorem O.fN [h:fO P t] (J:Rd g a (.cH cs):=by exact .cH rfl) (aa:cs.head?=some x:=by rfl):ch P g (.load t a) ty x:=O.Co J h.p aa
theorem O.iU {cT f off:Nat} [h:c' P cT f off t] (J:Rd g a (.cH cs):=by exact .cH rfl):ch P g (.fieldAddr cT a f) ty (.cH (cs.drop off)):=O.Bl J h.p
theorem O.iV {bE:Nat} [h:ep P t e bE] (J:Rd g a (.bj z n cs):=by exact .bj rfl):ch P g (.call { callee:=.builtin .len,args:=#[a],argTypes:=#[t] }) ty (ae n):=O.ku J h.p
theorem cz.eU {xs:List Operand}{gm:Array TypeId}{f:FuncId}{ys:List ab}{outs:List (Option ab)}{res:ab}(J:qY g xs ys) (gP:bT P f ys outs res) [ao:cg res] (aW:gM P f=true:=by kernel_rfl) (a1:si outs=true:=by rfl):cz P g (.call { callee:=.value (.func f),args:=xs.toArray,argTypes:=gm }) res:=by grind [cz.go]
theorem cz.pX {xs:List Operand}{gm:Array TypeId}{f:FuncId}{ys args:List ab}{outs:List (Option ab)}{res:ab}(J:gk g xs=some ys) (hv:oC g ys args) (gP:bT P f args outs res) [ao:p5 res] (aW:gM P f=true:=by kernel_rfl) (a1:si outs=true:=by rfl):cz P g (.call { callee:=.value (.func f),args:=xs.toArray,argTypes:=gm }) res:=by grind [cz.vw]
end
section
variable {P:Program}{N:c6}{ops:Array Oper}{bd:List (List Nat)}{K:aM->Prop}{i:Nat}{acc:Acc}{l:List Oper}{d:Nat}
theorem bA.hy (bG:Nat) {G G2:List (Nat × ab)}{o:Oper}(he:bl P N (dh (get G) (λ_=>true) acc) o (get G2)) (hk:bA P N ops bd (get G2) (bG+1) [] l K) (aO:o.guard=none:=by rfl) (gQ:rl ((acc.filterMap j1).map Place.root)=true:=by rfl) (fH:mc G=true:=by rfl) (ah:Nat.beq ops.size (bG+l.length+1)=true:=by rfl) (aP:(List.range bG).all (λk=>(bd.getD bG []).contains k)=true:=by kernel_rfl) (av:(List.range ops.size).all (λk=>Nat.ble k bG||(bd.getD k []).contains bG)=true:=by kernel_rfl):bA P N ops bd (get G) i acc (o::l) K:=.wE bG he aO gQ fH ah aP av hk
theorem bA.D6 (bG:Nat) {G G2:List (Nat × ab)}{o:Oper}{x:ab}(he:bl P N (dh (get G) (λ_=>true) acc) o (cV (get G2) d x)) (hk:bA P N ops bd (get ((d,x)::G2)) (bG+1) [] l K) (aO:o.guard=none:=by rfl) (gQ:rl ((acc.filterMap j1).map Place.root)=true:=by rfl) (fH:mc G=true:=by rfl) (ah:Nat.beq ops.size (bG+l.length+1)=true:=by rfl) (aP:(List.range bG).all (λk=>(bd.getD bG []).contains k)=true:=by kernel_rfl) (av:(List.range ops.size).all (λk=>Nat.ble k bG||(bd.getD k []).contains bG)=true:=by kernel_rfl):bA P N ops bd (get G) i acc (o::l) K:=.bv bG he aO gQ fH ah aP av hk
end
end Go.Own
namespace Go.Own
open Go
set_option linter.unusedVariables false
def oY:List ab->Nat->List ab->Option (List ab)
 | [],0,[]=>some []
 | [],_,_=>none
 | x::l,0,[]=>some (x::l)
 | _::l,0,y::c=>match oY l 0 c with
  | some r=>some (y::r)
  | none=>none
 | x::l,k+1,c=>match oY l k c with
  | some r=>some (x::r)
  | none=>none
theorem lU:∀ {l:List ab}{k:Nat}{c r:List ab},oY l k c=some r->e5 l k c=r/\k+c.length<=l.length
 | [],0,[],r,h=>by cases h; exact ⟨rfl,Nat.le_refl _⟩
 | [],0,_::_,_,h=>by cases h
 | [],_+1,_,_,h=>by cases h
 | x::l,0,[],r,h=>by cases h; exact ⟨by simp [e5],by simp⟩
 | x::l,0,y::c,r,h=>by
  unfold oY at h
  split at h
  ·rename_i dn ao;cases h;obtain ⟨h1,af⟩:=lU ao;subst h1;exact ⟨by simp [e5],by simp at af ⊢; omega⟩
  ·cases h
 | x::l,k+1,c,r,h=>by
  unfold oY at h
  split at h
  ·rename_i dn ao;cases h;obtain ⟨h1,af⟩:=lU ao;subst h1;exact ⟨by simp [e5,Nat.add_right_comm],by simp; omega⟩
  ·cases h
theorem Da {g g2:aM}{r:Nat}{cs2:List ab}:∀ {ks:List Nat}{G1:List (Nat × ab)},pick (cV g r (.obj cs2)) ks=some G1->(∀ e∈G1,cU e.2)->k6 g g2 r cs2 G1
 | [],_,h,_=>by cases h; exact .nil
 | k::ks,G1,h,aF=>by
  unfold pick at h
  split at h
  ·rename_i x J
   split at h
   ·rename_i l ak;cases h;have aw:=Da (g2:=g2) ak λe he=>aF e (by simp [he]);by_cases e:k=r
    ·subst e;have e:x=.obj cs2:=by simpa [cV] using J.symm
     subst e;have J:cU (.obj cs2):=aF (k,.obj cs2) (by simp);have:dq cs2:=⟨by cases J; assumption⟩;exact .b rfl aw
    ·have:cg x:=⟨aF (k,x) (by simp)⟩;exact .n (by rw [<- Bool.not_eq_true,Nat.beq_eq]; exact e) (by simpa [cV,e] using J) aw
   ·cases h
  ·cases h
theorem J9 {g g2:aM}{ex:List Nat}:∀ {ks:List Nat}{G1:List (Nat × ab)},pick g ks=some G1->(ks.all λk=>!ex.elem k)=true->(∀ e∈G1,cU e.2)->mN ex g g2 G1
 | [],_,h,_,_=>by cases h; exact .nil
 | k::ks,G1,h,he,aF=>by
  unfold pick at h;rw [List.all_cons,Bool.and_eq_true] at he
  split at h
  ·rename_i x J
   split at h
   ·rename_i l ak;cases h;have:cg x:=⟨aF (k,x) (by simp)⟩;exact .n (by simpa using he.1) J (J9 ak he.2 λe h=>aF e (by simp [h]))
   ·cases h
  ·cases h
def Fc:List ab->Option (List ab)
 | []=>some []
 | x::l=>match Fc l with
  | some r=>some (x::r)
  | none=>none
theorem OP:∀ {l r:List ab},Fc l=some r->l=r
 | [],r,h=>by cases h; rfl
 | x::l,r,h=>by
  unfold Fc at h
  split at h
  ·rename_i dn ao;cases h; rw [OP ao]
  ·cases h
def Fe:ab->Option ab
 | .obj cs=>match Fc cs with
  | some r=>some (.obj r)
  | none=>none
 | .own z n cs=>some (.own z n cs)
 | _=>none
theorem OQ {x y:ab}(h:Fe x=some y):x=y:=by
 unfold Fe at h
 grind [OP]
theorem J_ {g g2:aM}{r:Nat}{x2:ab}:∀ {ks:List Nat}{G1:List (Nat × ab)},pick (cV g r x2) ks=some G1->(∀ e∈G1,cU e.2)->kF g g2 r x2 G1
 | [],_,h,_=>by cases h; exact .nil
 | k::ks,G1,h,aF=>by
  unfold pick at h
  split at h
  ·rename_i x J
   split at h
   ·rename_i l ak;cases h;have aw:=J_ (g2:=g2) ak λe he=>aF e (by simp [he]);by_cases e:k=r
    ·subst e;have e:x=x2:=by simpa [cV] using J.symm
     subst e;have:cg x:=⟨aF (k,x) (by simp)⟩;exact .b rfl aw
    ·have:cg x:=⟨aF (k,x) (by simp)⟩;exact .n (by rw [<- Bool.not_eq_true,Nat.beq_eq]; exact e) (by simpa [cV,e] using J) aw
   ·cases h
  ·cases h
section
variable {P:Program}{N:c6}{ops:Array Oper}{g:aM}{K:aM->Prop}{l:List Oper}{d r k0:Nat}{ty t:TypeId}{pos:String}{after:Array Edge}{a b x:Operand}{cs cs' cs2:List ab}{y:ab}{G2:List (Nat × ab)}{u:Option (Nat × Bool)}{p q:Place}
theorem Rd.QA {α:Type}{en:bJ α}{L:List α}{t:Nat}(h:g t=some (ag en L)):Rd g (.tmp t) (ag en L):=.bj h
theorem bl.gl (ks:List Nat) (aP:Rd g a (.ptr ⟨r,[]⟩ k0):=by (first | exact .obj rfl | exact .ptr rfl)) (aC:g r=some (.obj cs):=by rfl) (av:Rd g b (.agg cs'):=by (first | exact .da rfl rfl | exact .Jz rfl)) (he:oY cs k0 cs'=some cs2:=by rfl) (au:pick (cV g r (.obj cs2)) ks=some G2:=by rfl) (aY:hl P t cs'.length=true:=by kernel_rfl) (aR:Nat.blt 0 cs'.length=true:=by rfl) (ao:(get G2 r).isSome=true:=by rfl) [aF:dq cs'] [e8:dq cs] [aO:iz G2]:bl P N g ⟨none,.store t a b,ty,pos,after,none⟩ (get G2) :=
 .jh rfl rfl aC aP av rfl aY (Nat.ble_eq_true_of_le (lU he).2) aR (lU he).1 ao (Da au aO.p)
theorem bl.np (ks:List Nat) (aP:Rd g a (.ptr ⟨r,[]⟩ k0):=by (first | exact .ptr rfl | exact .obj rfl)) (aC:g r=some (.obj cs):=by rfl) (av:Rd g b y:=by (first | exact .lit rfl | exact .k rfl | exact .QA rfl | exact .xE | exact .bj rfl)) (aa:oH y=some [y]:=by rfl) (he:oY cs k0 [y]=some cs2:=by rfl) (au:pick (cV g r (.obj cs2)) ks=some G2:=by rfl) (aY:hl P t 1=true:=by kernel_rfl) (ao:(get G2 r).isSome=true:=by rfl) [aF:cg y] [e8:dq cs] [aO:iz G2]:bl P N g ⟨none,.store t a b,ty,pos,after,none⟩ (get G2) :=
 .jh rfl rfl aC aP av aa aY (Nat.ble_eq_true_of_le (lU he).2) rfl (lU he).1 ao (Da au aO.p)
theorem bl.jS {α:Type}{en:bJ α}{L:List α}(ks:List Nat) (J:Rd g x (.a6 en.z p L.length):=by (first | exact .own rfl | exact .a6 rfl)) (au:bD g p=some (aj en L):=by rfl) (hk:pick g ks=some G2:=by rfl) (dr:(ks.all λk=>![p.root].elem k)=true:=by rfl) (aO:get G2 d=none:=by rfl) (bc:N.ok d=true:=by rfl) [aF:iz G2]:bl P N g ⟨some d,.assign x,ty,pos,after,u⟩ (cV (get G2) d (aj en L)) :=
 .yX rfl rfl J au (J9 hk dr aF.p) aO bc
theorem bl.wx {α:Type}{en:bJ α}{L M:List α}{s:Nat}(ks:List Nat) (J:Rd g x (.a6 en.z ⟨s,[]⟩ (L.length+M.length)):=by exact .bL rfl) (aC:g s=some (.bL en.z q L.length M.length (bp en M)):=by rfl) (au:bD g q=some (aj en L):=by rfl) (hk:pick g ks=some G2:=by rfl) (dr:(ks.all λk=>![s,q.root].elem k)=true:=by rfl) (bg:Nat.beq q.root s=false:=by rfl) (aO:get G2 d=none:=by rfl) (bc:N.ok d=true:=by rfl) [aF:iz G2]:bl P N g ⟨some d,.assign x,ty,pos,after,u⟩ (cV (get G2) d (aj en (L++M))) :=
 .Lp rfl rfl J aC au bg (J9 hk dr aF.p) aO bc
theorem bl.sp {α:Type}{en:bJ α}{L M:List α}{s:Nat}{jr:List ab}(ks:List Nat) (av:Rd g b (.a6 en.z ⟨s,[]⟩ (L.length+M.length)):=by exact .bL rfl) (qo:g s=some (.bL en.z q L.length M.length (bp en M)):=by rfl) (au:bD g q=some (aj en L):=by rfl) (aP:Rd g a (.ptr ⟨r,[]⟩ k0):=by (first | exact .ptr rfl | exact .obj rfl)) (aC:cv (cv g ⟨s,[]⟩ .dead) q .dead r=some (.obj jr):=by rfl) (he:oY jr k0 [aj en (L++M)]=some cs2:=by rfl) (hk:pick (cV (cv (cv g ⟨s,[]⟩ .dead) q .dead) r (.obj cs2)) ks=some G2:=by rfl) (bg:Nat.beq q.root s=false:=by rfl) (aY:hl P t 1=true:=by kernel_rfl) (ao:(get G2 r).isSome=true:=by rfl) [e8:dq jr] [aO:iz G2]:bl P N g ⟨none,.store t a b,ty,pos,after,none⟩ (get G2) :=
 .F1 rfl rfl aP av qo au bg .kx .hY rfl rfl aY aC (Nat.ble_eq_true_of_le (lU he).2) (lU he).1 ao (Da hk aO.p)
theorem bl.s' {α:Type}{en:bJ α}{L:List α}{jr:List ab}(ks:List Nat) (av:Rd g b (.a6 en.z p L.length):=by (first | exact .own rfl | exact .a6 rfl)) (au:bD g p=some (aj en L):=by rfl) (aP:Rd g a (.ptr ⟨r,[]⟩ k0):=by (first | exact .ptr rfl | exact .obj rfl)) (aC:cv g p .dead r=some (.obj jr):=by rfl) (he:oY jr k0 [aj en L]=some cs2:=by rfl) (hk:pick (cV (cv g p .dead) r (.obj cs2)) ks=some G2:=by rfl) (aY:hl P t 1=true:=by kernel_rfl) (ao:(get G2 r).isSome=true:=by rfl) [e8:dq jr] [aO:iz G2]:bl P N g ⟨none,.store t a b,ty,pos,after,none⟩ (get G2) :=
 .pW rfl rfl aP av (.r au .nil) .refl rfl aY aC (Nat.ble_eq_true_of_le (lU he).2) rfl (lU he).1 ao (Da hk aO.p)
theorem bl.rD {α:Type}{en:bJ α}{L:List α}{jj y2:α}{m:Int}{o:Nat}{eA x2 y0:ab}(ks:List Nat) (h:idx L m=some jj) (aP:Rd g a (.ptr p (m.toNat * en.z+o)):=by exact .ptr rfl) (au:bD g p=some (aj en L):=by rfl) (av:Rd g b y:=by (first | exact .lit rfl | exact .k rfl | exact .QA rfl | exact .xE | exact .bj rfl | exact .da rfl rfl)) (aa:oH y=some cs':=by rfl) (he:e5 (en.cells jj) o cs'=en.cells y2:=by rfl) (iG:cv g p (aj en (L.set m.toNat y2)) p.root=some eA:=by rfl) (iv:Fe eA=some x2:=by rfl) (hk:pick (cV g p.root x2) ks=some G2:=by rfl) (aY:hl P t cs'.length=true:=by kernel_rfl) (hlen:Nat.ble (o+cs'.length) en.z=true:=by rfl) (aR:Nat.blt 0 cs'.length=true:=by rfl) (ao:(get G2 p.root).isSome=true:=by rfl) (ri:g p.root=some y0:=by rfl) [aF:cg y] [e8:cg y0] [aO:iz G2]:bl P N g ⟨none,.store t a b,ty,pos,after,none⟩ (get G2) :=
 .s_ rfl rfl aP av au h aY aa he hlen aR (by rw [iG,OQ iv]) ao ri (J_ hk aO.p)
theorem ar.eD {o:Oper}(he:bl P N g o (get G2)) (hk:ar P N ops l (get G2) K) (aO:o.guard=none:=by rfl):ar P N ops (o::l) g K:=.kL aO he hk
theorem ar.b' {o:Oper}(he:bl P N g o (cV (get G2) d y)) (hk:ar P N ops l (cV (get G2) d y) K) (aO:o.guard=none:=by rfl):ar P N ops (o::l) g K:=.q8 aO he hk
end
section
variable {S R:Type}{P:Program}{N:c6}{A B c:Code}{G:List (Nat × ab)}{Φ:Exit->aM->Prop}{id:Nat}
theorem W.fZ {G1:List (Nat × ab)}(ks:List Nat) (L:List (Nat × ab)) (h:W P N c (get G) λe g=>e=.normal/\ig g G1) (hk:aA .normal Φ G1) (au:pick (get (L++G)) ks=some G1:=by rfl):W P N c (get G) Φ:=W.dF _ h hk
theorem W.kW {G1:List (Nat × ab)}{l:List Oper}(ks:List Nat) (L:List (Nat × ab)) (h:ar P N l.toArray l (get G) λg'=>ko g' (get G1)) (hk:W P N B (get G1) Φ) (au:pick (get (L++G)) ks=some G1:=by rfl):W P N (.seq (.region id l.toArray false) B) (get G) Φ:=W.rs _ h hk
theorem W.gR {f:S->Option (S ⊕ R)}{r:R}{c9:S->List (Nat × ab)}{mm:R->List (Nat × ab)}(s:S) (F:S->List (Nat × ab)) (ks:List Nat) (id:Nat) (X:R->List (Nat × ab)) (sg:List Nat) (h:b4 f s=some r) (av:∀ s o,f s=some o->W P N c (get (c9 s)) (k5 c9 (λr e g=>e=.exit id/\ig g (mm r)) o)) (hk:aA (.exit id) Φ (mm r))
  (aN:∀ s,pick (get (F s++G)) ks=some (c9 s):=by intro s; rfl) (tK:∀ s,pick (get (X s++G)) sg=some (mm s):=by intro s; rfl) (aw:Trim true (get G) (get (c9 s)) (c9 s):=by (repeat' first | exact .nil | refine .n rfl ?_ | refine .w rfl rfl .pN ?_ | refine .w rfl rfl .pM ?_ | refine .w rfl rfl (j8.obj (by (repeat' first | exact .nil | refine .f ?_ | refine .o ?_ | refine .i ?_))) ?_)):W P N (.loop c) (get G) Φ :=
 W.dC aw (W.zK c9 id mm h av hk)
theorem W.gu {gK:Type}{f:S->Option (S ⊕ (R ⊕ gK))}{r:R ⊕ gK}{c9:S->List (Nat × ab)}{mm:R->List (Nat × ab)}{tm:gK->List (Nat × ab)}(s:S) (F:S->List (Nat × ab)) (ks:List Nat) (id:Nat) (X:R->List (Nat × ab)) (sg:List Nat) (Y:gK->List (Nat × ab)) (Cm:List Nat) (h:b4 f s=some r)
  (av:∀ s o,f s=some o->W P N c (get (c9 s)) (k5 c9 (λ(r:R ⊕ gK) e g=>match r with | .inl r=>e=.exit id/\ig g (mm r) | .inr r=>e=.ret/\ig g (tm r)) o))
  (J:∀ x,r=.inl x->aA (.exit id) Φ (mm x)) (ao:∀ x,r=.inr x->aA .ret Φ (tm x))
  (aN:∀ s,pick (get (F s++G)) ks=some (c9 s):=by intro s; rfl) (tK:∀ s,pick (get (X s++G)) sg=some (mm s):=by intro s; rfl) (wZ:∀ s,pick (get (Y s++G)) Cm=some (tm s):=by intro s; rfl) (aw:Trim true (get G) (get (c9 s)) (c9 s):=by (repeat' first | exact .nil | refine .n rfl ?_ | refine .w rfl rfl .pN ?_ | refine .w rfl rfl .pM ?_ | refine .w rfl rfl (j8.obj (by (repeat' first | exact .nil | refine .f ?_ | refine .o ?_ | refine .i ?_))) ?_)):W P N (.loop c) (get G) Φ :=
 W.dC aw (W.OG c9 id mm tm h av J ao)
end
end Go.Own
namespace Go.Own
open Go
set_option linter.unusedVariables false
inductive lu:Type 1
 | e
 | b (x y:lu)
 | eO {S R:Type}(F:S->List (Nat × ab)) (ks:List Nat) (id:Nat) (X:R->List (Nat × ab)) (sg:List Nat) (x y:lu)
 | gu {S R gK:Type}(F:S->List (Nat × ab)) (ks:List Nat) (id:Nat) (X:R->List (Nat × ab)) (sg:List Nat) (Y:gK->List (Nat × ab)) (Cm:List Nat) (x y z:lu)
 | dF {α:Type}(ks:List Nat) (L:α->List (Nat × ab)) (x y:lu)
 | ev {α:Type}(id:Nat) (ks:List Nat) (L:α->List (Nat × ab)) (y:lu)
 | rd (id:Nat) (bd:List (List Nat)) (y:lu)
 | bV {α:Type}(id:Nat) (bd:List (List Nat)) (ks:List Nat) (L:α->List (Nat × ab)) (y:lu)
 | p (y:lu)
 | dN {α:Type}(id s:Nat) (i:Option Nat) (en:bJ α) (y:lu)
 | sz {α:Type}(s:Nat) (i:Option Nat) (en:bJ α) (y:lu)
def OA:ab->Bool
 | .lit _ | .aJ | .bj .. | .own .. | .obj _ | .cH _ | .cW .. | .mp _ | .imp _=>true
 | .agg cs=>cs.all λx=>match x with | .ptr .. | .a6 .. | .sub .. | .gz _ | .bL .. | .dead=>false | _=>true
 | _=>false
def sU (ex:List Nat):List (Nat × ab)->Option (List Nat)
 | []=>some []
 | (k,x)::l=>match sU (k::ex) l with
  | none=>none
  | some r=>match !ex.elem k&&OA x with
   | true=>some (k::r)
   | false=>some r
def JB (E ex:List Nat):List (Nat × ab)->Option (List Nat)
 | []=>some []
 | (k,x)::l=>match JB E (k::ex) l with
  | none=>none
  | some r=>match E.elem k&&(!ex.elem k&&OA x) with
   | true=>some (k::r)
   | false=>some r
def roots (G:List (Nat × ab)):Operand->List Nat
 | .tmp s=>match get G s with
  | some (.own ..)=>[s]
  | some (.obj _)=>[s]
  | some (.a6 _ p _)=>[s,p.root]
  | some (.ptr p _)=>[s,p.root]
  | some (.bL _ q _ _ _)=>match get G q.root with
   | some (.bL _ Dc _ _ _)=>[s,q.root,Dc.root]
   | _=>[s,q.root]
  | _=>[s]
 | _=>[]
def O9 (F:List (Nat × ab)) (s:Nat):Nat->List ab->Option (List ab)
 | _,[]=>some []
 | i,x::l=>match O9 F s (i+1) l with
  | none=>none
  | some r=>match get F (1000 * (i+1)+s) with
   | some y=>some (y::r)
   | none=>some (x::r)
def pP (F G:List (Nat × ab)):aM:=λs=>match get F s with
 | some x=>some x
 | none=>match get G s with
  | some (.obj cs)=>match O9 F s 0 cs with
   | some r=>some (.obj r)
   | none=>none
  | x=>x
def cM (E:List Nat) (t:lu) (P:Program) (N:c6) (c:Code) (G:List (Nat × ab)) (Φ:Exit->aM->Prop):Prop:=W P N c (get G) Φ
def er (E:List Nat) (t:lu) (e:Exit) (Φ:Exit->aM->Prop) (G:List (Nat × ab)):Prop:=aA e Φ G
def yM (E:List Nat) (t:lu) (Ψ:lu->List (Nat × ab)->Prop) (g':aM):Prop:=∃ G1,ko g' (get G1)/\Ψ t G1
def rK {α:Type}(F:α->List (Nat × ab)) (j:α) (e:Exit) (g:aM):Prop:=e=.normal/\ig g (F j)
def Lc {R:Type}(id:Nat) (X:R->List (Nat × ab)) (r:R) (e:Exit) (g:aM):Prop:=e=.exit id/\ig g (X r)
def AW {R gK:Type}(id:Nat) (X:R->List (Nat × ab)) (Y:gK->List (Nat × ab)) (r:R ⊕ gK) (e:Exit) (g:aM):Prop:=match r with | .inl r=>e=.exit id/\ig g (X r) | .inr r=>e=.ret/\ig g (Y r)
class bz (P:Program) (f:FuncId) (p:Prop) (args:outParam (List ab)) (outs:outParam (List (Option ab))) (res:outParam ab):Prop where go:p->bT P f args outs res
section
variable {P:Program}{N:c6}{E:List Nat}{t x y z:lu}{A B c:Code}{G G1:List (Nat × ab)}{Φ ow:Exit->aM->Prop}{Ψ:aM->Prop}{id k s:Nat}{b:Bool}{α β:Type}{l:List Oper}
theorem cM.rg (h:ar P N l.toArray l (get G) (yM E t λt G1=>cM E t P N B G1 Φ)):cM E t P N (.seq (.region id l.toArray false) B) G Φ :=
 W.seq (W.Ax λi hi=>by
  obtain ⟨g',h1,G1,af,aI⟩:=h i hi;exact ⟨g',h1,W.weaken af aI⟩)
theorem cM.rt (h:ar P N l.toArray l (get G) (yM E t λt G1=>er E t .normal Φ G1)):cM E t P N (.region id l.toArray false) G Φ :=
 W.Ax λi hi=>by
  obtain ⟨g',h1,G1,af,aI⟩:=h i hi;exact ⟨g',h1,aI g' (.eY af .hY)⟩
theorem cM.bw (h:cM E t P N A G (o1 (λg1=>W P N B g1 Φ) Φ)):cM E t P N (.seq A B) G Φ:=W.seq h
theorem cM.b3 (h:cM E t P N A G (mb id Φ)):cM E t P N (.block id A) G Φ:=W.b3 h
theorem cM.wE (h:cM E t P N A G (mb id Φ)):cM E (.p t) P N (.block id A) G Φ:=W.b3 h
theorem cM.c5 (h:er E t .normal Φ G):cM E t P N .skip G Φ:=W.c5 h
theorem cM.fb (h:er E t (.exit k) Φ G):cM E t P N (.exit k) G Φ:=W.fb h
theorem cM.Dh (h:er E t .ret Φ G):cM E t P N .ret G Φ:=W.rt h
theorem cM.b9 {X Y o:α}(h:(bif b then X else Y)=o) (dL:b=true->X=o->cM E x P N A G Φ) (aN:b=false->Y=o->cM E y P N B G Φ) (aa:get G s=some (a_ b):=by rfl):cM E (.b x y) P N (.cond (.tmp s) A B) G Φ:=W.b9 h aa dL aN
theorem cM.ce {X Y o:α}(h:(bif b then X else Y)=o) (dL:b=true->X=o->cM E .e P N A G Φ) (aN:b=false->Y=o->cM E .e P N B G Φ) (aa:get G s=some (a_ b):=by rfl):cM E .e P N (.cond (.tmp s) A B) G Φ:=W.b9 h aa dL aN
theorem cM.Sk (h:cM E t P N A G Φ) (aa:get G s=some (a_ b):=by rfl) (av:b=true:=by (first | rfl | assumption)):cM E t P N (.cond (.tmp s) A B) G Φ:=W.fG aa (λ_=>h) (λe=>by rw [av] at e; cases e)
theorem cM.Sj (h:cM E t P N B G Φ) (aa:get G s=some (a_ b):=by rfl) (av:b=false:=by (first | rfl | assumption)):cM E t P N (.cond (.tmp s) A B) G Φ:=W.fG aa (λe=>by rw [av] at e; cases e) (λ_=>h)
theorem cM.WY {o:Operand}{m:Option α}{f:α->Option β}{r:β}{ks:List Nat}{L c9:α->List (Nat × ab)}(h:m.bind f=some r) (h1:∀ j,m=some j->cM E x P N (.cond o A B) G (rK c9 j)) (af:∀ j,m=some j->f j=some r->er E y .normal Φ (c9 j))
  (aN:∀ j,pick (pP (L j) G) ks=some (c9 j):=by intro j; rfl):cM E (.dF ks L x y) P N (.cond o A B) G Φ:=by
 obtain ⟨j,ah,h⟩:=k7 h;exact W.dF _ (h1 j ah) (af j ah h)
theorem cM.Jx {m:Option α}{f:α->Option β}{r:β}{ks:List Nat}{L c9:α->List (Nat × ab)}(h:m.bind f=some r) (h1:∀ j,m=some j->cM E x P N (.block id A) G (rK c9 j)) (af:∀ j,m=some j->f j=some r->er E y .normal Φ (c9 j))
  (aN:∀ j,pick (pP (L j) G) ks=some (c9 j):=by intro j; rfl):cM E (.dF ks L x y) P N (.block id A) G Φ:=by
 obtain ⟨j,ah,h⟩:=k7 h;exact W.dF _ (h1 j ah) (af j ah h)
theorem cM.eO {S R:Type}{f:S->Option (S ⊕ R)}{s:S}{g:R->Option β}{r:β}{F c9:S->List (Nat × ab)}{ks sg:List Nat}{X mm:R->List (Nat × ab)}(h:(b4 f s).bind g=some r)
  (av:∀ s o,f s=some o->cM E x P N c (c9 s) (k5 c9 (Lc id mm) o)) (hk:∀ dn,b4 f s=some dn->g dn=some r->er E y (.exit id) Φ (mm dn))
  (aN:∀ s,pick (pP (F s) G) ks=some (c9 s):=by intro s; rfl) (tK:∀ s,pick (pP (X s) G) sg=some (mm s):=by intro s; rfl) (aw:Trim true (get G) (get (c9 s)) (c9 s):=by (repeat' first | exact .nil | refine .n rfl ?_ | refine .w rfl rfl .pN ?_ | refine .w rfl rfl .pM ?_ | refine .w rfl rfl (j8.obj (by (repeat' first | exact .nil | refine .f ?_ | refine .o ?_ | refine .i ?_))) ?_)) :
  cM E (.eO F ks id X sg x y) P N (.loop c) G Φ:=by
 obtain ⟨dn,ak,h⟩:=k7 h;exact W.dC aw (W.zK c9 id mm ak av (hk dn ak h))
theorem er.bw (h:cM E t P N B G Φ):er E t .normal (o1 (λg1=>W P N B g1 Φ) ow) G:=aA.bw h
theorem er.fa (h:er E t (.exit k) Φ G):er E t (.exit k) (o1 Ψ Φ) G:=aA.fa h
theorem er.hI (h:er E t .ret Φ G):er E t .ret (o1 Ψ Φ) G:=aA.hI h
theorem er.b3 (h:er E t .normal Φ G):er E t .normal (mb id Φ) G:=aA.b3 h
theorem er.e9 (h:er E t .normal Φ G):er E t (.exit id) (mb id Φ) G:=aA.e9 h
theorem er.GY (h:er E t (.exit k) Φ G) (hk:Nat.beq k id=false:=by rfl):er E t (.exit k) (mb id Φ) G:=aA.GY hk h
theorem er.kH (h:er E t .ret Φ G):er E t .ret (mb id Φ) G:=aA.kH h
theorem er.dF {F:α->List (Nat × ab)}{j v:α}(h:some v=some j) (aw:Trim true (get G) (get (F v)) (F v)):er E t .normal (rK F j) G:=by
 cases h; exact aA.dF aw
theorem er.go {S R:Type}{s:S}{o:S ⊕ R}{F:S->List (Nat × ab)}{Ψ:R->Exit->aM->Prop}(h:some (.inl s)=some o) (aw:Trim true (get G) (get (F s)) (F s)):er E t .normal (k5 F Ψ o) G:=by
 cases h; exact aA.go aw
theorem er.a8 {S R:Type}{r:R}{o:S ⊕ R}{F:S->List (Nat × ab)}{X:R->List (Nat × ab)}(h:some (.inr r)=some o) (aw:Trim true (get G) (get (X r)) (X r)):er E t (.exit id) (k5 F (Lc id X) o) G:=by
 cases h; exact aA.a8 aw
variable {ops:Array Oper}{K:aM->Prop}{d:Nat}{op:Op}{ty:TypeId}{pos:String}{after:Array Edge}{v v2:ab}{ks:List Nat}{g:aM}{j cT:Nat}{cd:Bool}
theorem pj {G:List (Nat × ab)}{d:Nat}{v:ab}:cV (get G) d v=get ((d,v)::G):=sA.symm
theorem ez (au:ch P (get G) op ty v) (hk:ar P N ops l (get ((d,v)::G)) K) (bc:N.ok d=true:=by rfl) (aW:get G d=none:=by rfl):ar P N ops (⟨some d,op,ty,pos,after,none⟩::l) (get G) K:=al au (pj ▸ hk) bc aW
theorem GJ (lK:sU [d] G=some ks) (aO:pick (get G) ks=some G1) [aF:iz G1] (au:ch P (get G1) op ty v) (hk:ar P N ops l (get ((d,v)::G1)) K) (bc:N.ok d=true:=by rfl) (aW:get G1 d=none:=by rfl):ar P N ops (⟨some d,op,ty,pos,after,none⟩::l) (get G) K:=ar.bV ks aO (al au (pj ▸ hk) bc aW)
theorem Lm (au:cz P (get G) op v) (hk:ar P N ops l (get ((d,v)::G)) K) (bc:N.ok d=true:=by rfl) (aW:get G d=none:=by rfl):ar P N ops (⟨some d,op,ty,pos,after,none⟩::l) (get G) K:=gp au (pj ▸ hk) bc aW
theorem eH (au:ch P (get G) op ty v) (hk:ar P N ops l (get ((d,v)::G)) K) (h:(ops[j]?).bind (·.dst)=some cT:=by rfl) (aO:get G cT=some (.lit (.bool cd)):=by rfl) (av:cd=b:=by (first | rfl | assumption)) (bc:N.ok d=true:=by rfl) (aW:get G d=none:=by rfl):ar P N ops (⟨some d,op,ty,pos,after,some (j,b)⟩::l) (get G) K:=.v au bc aW (.ft h aO av) (pj ▸ hk)
theorem K_ (au:cz P (get G) op v) (hk:ar P N ops l (get ((d,v)::G)) K) (h:(ops[j]?).bind (·.dst)=some cT:=by rfl) (aO:get G cT=some (.lit (.bool cd)):=by rfl) (av:cd=b:=by (first | rfl | assumption)) (bc:N.ok d=true:=by rfl) (aW:get G d=none:=by rfl):ar P N ops (⟨some d,op,ty,pos,after,some (j,b)⟩::l) (get G) K:=.c au bc aW (.ft h aO av) (pj ▸ hk)
theorem qU (hk:ar P N ops l (get ((d,.bW [])::G)) K) (h:(ops[j]?).bind (·.dst)=some cT:=by rfl) (aO:get G cT=some (.lit (.bool cd)):=by rfl) (av:cd=!b:=by (first | rfl | assumption)) (bc:N.ok d=true:=by rfl) (aW:get G d=none:=by rfl):ar P N ops (⟨some d,op,ty,pos,after,some (j,b)⟩::l) (get G) K:=.ps h aO av bc aW (pj ▸ hk)
theorem QY (hk:ar P N ops l (get ((d,.bW [])::G)) K) (h:(ops[j]?).bind (·.dst)=some cT:=by rfl) (aO:get G cT=some (.bW []):=by rfl) (bc:N.ok d=true:=by rfl) (aW:get G d=none:=by rfl):ar P N ops (⟨some d,op,ty,pos,after,some (j,b)⟩::l) (get G) K:=.pu h aO bc aW (pj ▸ hk)
theorem He {p:Prop}{X Y o:α}(h:(bif b then X else Y)=o) (dL:b=true->X=o->p) (aN:b=false->Y=o->p):p:=by
 cases b
 ·exact aN rfl h
 ·exact dL rfl h
theorem GC {DG:lu->List (Nat × ab)->Prop}(lK:JB E [] G=some ks) (au:pick (get G) ks=some G1) [aF:iz G1] (hk:DG t G1):ar P N ops [] (get G) (yM E t DG):=.nil ⟨G1,(uy (c:=true) (g2:=get G1) au aF.p).eY,hk⟩
theorem cM.ev {m:Option α}{f:α->Option β}{r:β}{ks:List Nat}{L c9:α->List (Nat × ab)}(h:m.bind f=some r) (h1:∀ j,m=some j->ar P N l.toArray l (get G) (rK c9 j .normal)) (af:∀ j,m=some j->f j=some r->cM E y P N B (c9 j) Φ)
  (aN:∀ j,pick (pP (L j) G) ks=some (c9 j):=by intro j; rfl):cM E (.ev id ks L y) P N (.seq (.region id l.toArray false) B) G Φ:=by
 obtain ⟨j,ah,h⟩:=k7 h;exact W.seq (W.Ax λi hi=>by
  obtain ⟨g',cA,_,fP⟩:=h1 j ah i hi;exact ⟨g',cA,W.be (af j ah h) fP⟩)
theorem QV {F:α->List (Nat × ab)}{j v:α}(h:some v=some j) (aw:Trim true (get G) (get (F v)) (F v)):ar P N ops [] (get G) (rK F j .normal):=by
 cases h; exact .nil ⟨rfl,.eY aw.eY .hY⟩
end
end Go.Own
namespace Go.Own
open Go
set_option linter.unusedVariables false
def JR:ab->Option ab
 | .lit v=>some (.lit v)
 | .aJ=>some .aJ
 | .bj z n cs=>some (.bj z n cs)
 | .own z n cs=>some (.own z n cs)
 | .obj cs=>some (.obj cs)
 | .agg cs=>some (.agg cs)
 | .bW cs=>some (.bW cs)
 | .cH cs=>some (.cH cs)
 | .ptr p k=>some (.ptr p k)
 | .a6 z p n=>some (.a6 z p n)
 | .sub z p l n=>some (.sub z p l n)
 | .bL z p n m c=>some (.bL z p n m c)
 | .cW f a b=>some (.cW f a b)
 | .mp p=>some (.mp p)
 | .gz p=>some (.gz p)
 | .imp p=>some (.imp p)
 | .dead=>some .dead
theorem OS {x y:ab}(h:JR x=some y):x=y:=by cases x <;> (cases h; rfl)
def Ff:List ab->Option (List ab)
 | []=>some []
 | x::l=>match Ff l with
  | none=>none
  | some r=>match JR x with
   | none=>none
   | some y=>some (y::r)
theorem OR:∀ {l r:List ab},Ff l=some r->l=r
 | [],r,h=>by cases h; rfl
 | x::l,r,h=>by
  unfold Ff at h
  split at h
  ·cases h
  ·rename_i dn ao
   split at h
   ·cases h
   ·rename_i y ax;cases h; rw [OR ao,OS ax]
def sX:ab->Option ab
 | .agg cs=>match Ff cs with
  | some r=>some (.agg r)
  | none=>none
 | x=>JR x
theorem vC {x y:ab}(h:sX x=some y):x=y:=by
 unfold sX at h
 split at h
 ·split at h
  ·rename_i ao;cases h; rw [OR ao]
  ·cases h
 ·exact OS h
def lg:List ab->Option (List ab)
 | []=>some []
 | x::l=>match lg l with
  | none=>none
  | some r=>match sX x with
   | none=>none
   | some y=>some (y::r)
theorem xJ:∀ {l r:List ab},lg l=some r->l=r
 | [],r,h=>by cases h; rfl
 | x::l,r,h=>by
  unfold lg at h
  split at h
  ·cases h
  ·rename_i dn ao
   split at h
   ·cases h
   ·rename_i y ax;cases h; rw [xJ ao,vC ax]
def yc (f:Nat->ab->ab):Nat->List Nat->List ab->Option (List ab)
 | _,_,[]=>some []
 | _,[],_::_=>none
 | k,j::eg,x::l=>match yc f (k+1) eg l with
  | none=>none
  | some r=>match Nat.beq j k,sX (f j x) with
   | true,some y=>some (y::r)
   | _,_=>none
theorem Di {f:Nat->ab->ab}:∀ {l:List ab}{eg:List Nat}{k:Nat}{r:List ab},yc f k eg l=some r->(l.mapIdx λi x=>f (k+i) x)=r
 | [],eg,k,r,h=>by cases eg <;> (cases h; rfl)
 | x::l,[],k,r,h=>by cases h
 | x::l,j::eg,k,r,h=>by
  unfold yc at h
  split at h
  ·cases h
  ·rename_i dn ao
   split at h
   ·rename_i y ah ax;cases h;have:=Nat.eq_of_beq_eq_true ah;subst this;rw [List.mapIdx_cons,<- Di ao,<- vC ax];simp [Nat.add_comm,Nat.add_left_comm]
   ·cases h
def num:List Nat:=0::1::2::3::4::5::6::7::8::9::10::11::12::13::14::15::16::17::18::19::20::21::22::23::24::25::26::27::28::29::30::31::32::33::34::35::36::37::38::39::40::41::42::43::44::45::46::47::48::49::50::51::52::53::54::55::56::57::58::59::60::61::62::63::64::65::66::67::68::69::70::71::72::73::74::75::76::77::78::79::[]
def FD (g:aM):Operand->Option ab
 | .tmp t=>match g t with
  | some (.lit v)=>some (.lit v)
  | some .aJ=>some .aJ
  | some (.bj z n cs)=>some (.bj z n cs)
  | some (.own z n _)=>some (.a6 z ⟨t,[]⟩ n)
  | some (.obj (_::_))=>some (.ptr ⟨t,[]⟩ 0)
  | some (.cH cs)=>some (.cH cs)
  | some (.agg cs)=>match yc (λi x=>gv 1 ⟨t,[i]⟩ x) 0 num cs with
   | some r=>some (.agg r)
   | none=>none
  | some (.bW cs)=>match yc (λi x=>gv 1 ⟨t,[i]⟩ x) 0 num cs with
   | some r=>some (.bW r)
   | none=>none
  | some (.ptr p k)=>some (.ptr p k)
  | some (.a6 z p n)=>some (.a6 z p n)
  | some (.sub z p l n)=>some (.sub z p l n)
  | some (.bL z _ n m _)=>some (.a6 z ⟨t,[]⟩ (n+m))
  | some (.cW fn [] cs)=>some (.cW fn [] cs)
  | some (.mp _)=>some (.gz ⟨t,[]⟩)
  | some (.gz p)=>some (.gz p)
  | some (.imp q)=>some (.imp q)
  | _=>none
 | .const v=>match ofConst v with
  | .lit v=>some (.lit v)
  | .agg cs=>some (.agg cs)
  | .aJ=>match v with
   | .slice none 0 0=>some .aJ
   | _=>none
  | _=>none
 | .func f=>some (.cW (.func f) [] [])
 | .global _=>none
theorem Xf {v u:Value}(h:ofConst v=.lit u):u=v:=by
 cases v <;> simp only [ofConst,lQ] at h <;> first | (cases h; rfl) | (split at h <;> cases h <;> rfl) | cases h
theorem Rd.q {g:aM}{a:Operand}{y:ab}(h:FD g a=some y:=by rfl):Rd g a y:=by
 unfold FD at h
 split at h
 ·split at h <;> first | (split at h <;> cases h <;> first | exact .agg ‹_› (by have:=Di ‹_›; simpa [Place.push] using this) | exact .bW ‹_› (by have:=Di ‹_›; simpa [Place.push] using this)) | skip
  all_goals cases h
  all_goals first | exact .lit ‹_› | exact .aJ ‹_› | exact .bj ‹_› | exact .own ‹_› | exact .obj ‹_› | exact .cH ‹_› | exact .ptr ‹_› | exact .a6 ‹_› | exact .sub ‹_› | exact .bL ‹_› | exact .cW ‹_› | exact .mp ‹_› | exact .gz ‹_› | exact .imp ‹_›
 ·split at h
  ·rename_i e; cases h; have:=Xf e; subst this; exact .k e
  ·rename_i e; cases h; exact .Jz e
  ·split at h <;> cases h
   exact .xE
  ·cases h
 ·cases h; exact .func
 ·cases h
def FG (g:aM) (t:Nat):Option ab :=
 match g t with
 | some (.lit v)=>some (.lit v)
 | some .aJ=>some .aJ
 | some (.bj z n cs)=>some (.bj z n cs)
 | some (.cH cs)=>some (.cH cs)
 | some (.cW fn [] cs)=>some (.cW fn [] cs)
 | some (.imp q)=>some (.imp q)
 | _=>none
theorem Rd.Ar {g:aM}{t:Nat}{y:ab}(h:FG g t=some y:=by rfl):Rd g (.tmp t) y:=by
 unfold FG at h
 split at h <;> cases h <;> first | exact .lit ‹_› | exact .aJ ‹_› | exact .bj ‹_› | exact .cH ‹_› | exact .cW ‹_› | exact .imp ‹_›
class ht (P:Program) (t:TypeId) (α:outParam Type) (en:outParam (bJ α)):Prop where p:True:=trivial
class tc {α:Type}(en:bJ α) (cs:List ab) (y:outParam α):Prop where p:en.cells y=cs
instance {a:Int}:tc ai [ae a] a:=⟨rfl⟩
instance {a:Int}:tc qg [q2 a] a:=⟨rfl⟩
instance {a:Bool}:tc cq [a_ a] a:=⟨rfl⟩
instance {a:ByteArray}:tc dx [ay a] a:=⟨rfl⟩
instance {α:Type}{en:bJ α}{l:List α}:tc (bo en) [.bj en.z l.length (bp en l)] l:=⟨rfl⟩
class o8 {α:Type}(en:bJ α) (ys:List ab) (L:outParam (List α)):Prop where p:mo ys=some (bp en L)/\ys.all (λy=>match jT y with | some c=>Nat.beq c.length en.z | none=>false)=true/\L.length=ys.length
instance {α:Type}{en:bJ α}:o8 en [] []:=⟨⟨rfl,rfl,rfl⟩⟩
theorem o8.cons {α:Type}{en:bJ α}{y:ab}{cs:List ab}{ys:List ab}{a:α}{L:List α}(av:jT y=some cs) [h:tc en cs a] [ak:o8 en ys L]:o8 en (y::ys) (a::L):=by
 refine ⟨⟨?_,?_,?_⟩⟩
 ·simp [mo,av,ak.p.1,bp,h.p]
 ·simp only [List.all_cons,av,ak.p.2.1,Bool.and_true];rw [<- h.p,en.len]; exact Nat.beq_refl _
 ·simp [ak.p.2.2]
instance {α:Type}{en:bJ α}{cs ys:List ab}{a:α}{L:List α} [h:tc en cs a] [ak:o8 en ys L]:o8 en (.agg cs::ys) (a::L):=.cons rfl
instance {α:Type}{en:bJ α}{v:Value}{ys:List ab}{a:α}{L:List α} [h:tc en [.lit v] a] [ak:o8 en ys L]:o8 en (.lit v::ys) (a::L):=.cons rfl
instance {α:Type}{en:bJ α}{z n:Nat}{cs:List ab}{ys:List ab}{a:α}{L:List α} [h:tc en [.bj z n cs] a] [ak:o8 en ys L]:o8 en (.bj z n cs::ys) (a::L):=.cons rfl
def v7 (d:Nat):List Oper->Bool
 | []=>false
 | o::l=>(match o.op with
  | .call { callee:=.value _,args:=xs,argTypes:=_ }=>xs.toList.any λx=>match x with | .tmp t=>Nat.beq t d | _=>false
  | .call { callee:=.builtin .append,args:=xs,argTypes:=_ }=>match xs.toList with | [_,.tmp t]=>Nat.beq t d | _=>false
  | .convert _ _ (.tmp t)=>Nat.beq t d
  | .build _ ps=>ps.toList.any λx=>match x.2 with | .tmp t=>Nat.beq t d | _=>false
  | .buildSlice _ _ ps=>ps.toList.any λx=>match x.2 with | .tmp t=>Nat.beq t d | _=>false
  | _=>false)||v7 d l
class AS (P:Program):Prop where p:P.follows .mixedOrders=true:=by kernel_rfl
class kk (P:Program) (t:TypeId) (k:outParam Nat):Prop where p:ik P t k=true:=by kernel_rfl
class h3 (P:Program) (t:TypeId) (z:outParam Value):Prop where p:(P.info? t).bind (·.zero)=some z:=by kernel_rfl
class kl (P:Program) (t:TypeId) (pl:outParam (List (Nat × Nat))):Prop where p:kz P t pl=true:=by kernel_rfl
class jk (P:Program) (t:TypeId) (e z b:outParam Nat):Prop where p:jG P t e z b=true:=by kernel_rfl
class AT (P:Program) (t:TypeId) (k:outParam IntKind):Prop where p:xu P t k=true:=by kernel_rfl
class yF (P:Program) (t:TypeId) (b:outParam Nat):Prop where p:(P.info? t).map (·.bytes)=some b:=by kernel_rfl
section
variable {α β:Type}{P:Program}{g:aM}{ty t t2:TypeId}{a b:Operand}{k r z n:Nat}{cs cs':List ab}{x y:ab}{p q:Place}{m:Int}{sT JA:IntKind}{e:TypeId}{N:c6}{ops:Array Oper}{gL:Nat}
theorem O.F7 (J:Rd g a y:=by exact .q) (aa:(jT y).bind lg=some cs:=by rfl):ch P g (.box e a) ty (.obj cs):=by
 cases av:jT y with
 | none=>rw [av] at aa; cases aa
 | some c=>rw [av] at aa; have:=xJ aa; subst this; exact O.box J av
theorem O.ic {v:Value} [h:fO P t] (J:Rd g a (.ptr ⟨r,[]⟩ k):=by exact .q) (aC:g r=some (.obj cs):=by rfl) (aa:cs[k]?=some (.lit v):=by rfl):ch P g (.load t a) ty (.lit v):=O.oT aC J h.p aa
theorem O.hr [h:fO P t] (J:Rd g a (.cH cs):=by exact .q) (aa:cs.head?.bind sX=some x:=by rfl):ch P g (.load t a) ty x:=by
 cases av:cs.head? with
 | none=>rw [av] at aa; cases aa
 | some c=>rw [av] at aa; have:=vC aa; subst this; exact O.Co J h.p av
theorem O.AF [h:fO P t] (J:Rd g a (.ptr ⟨r,[]⟩ k):=by exact .q) (aC:g r=some (.obj cs):=by rfl) (aa:cs[k]?=some x:=by rfl) (ax:sX (gv 0 ⟨r,[k]⟩ x)=some y:=by rfl):ch P g (.load t a) ty y:=O.mA aC J h.p aa (vC ax)
theorem O.AG [h:kk P t z] (J:Rd g a (.ptr ⟨r,[]⟩ k):=by exact .q) (aC:g r=some (.obj cs):=by rfl) (hk:Nat.ble (k+z) cs.length=true:=by rfl) (aa:yc (λi x=>gv 0 ⟨r,[i]⟩ x) k (num.drop k) ((cs.drop k).take z)=some cs':=by rfl):ch P g (.load t a) ty (.agg cs'):=O.ed aC J h.p hk (Di aa)
theorem O.Gb [h:kk P t z] (J:Rd g a (.cH cs):=by exact .q) (aa:lg (cs.take z)=some cs':=by rfl) (aY:cs'.length=z:=by rfl):ch P g (.load t a) ty (.agg cs'):=O.ng J h.p (xJ aa) aY
theorem O.Gf {en:bJ α}{L:List α}{y:α}{o:Nat}{x x':ab} [aw:fO P t] (J:Rd g a (.ptr p (m.toNat * en.z+o)):=by exact .q) (au:bD g p=some (aj en L):=by rfl) (h:idx L m=some y:=by assumption) (aa:(en.cells y)[o]?=some x:=by rfl) (ao:sX (gv 0 (p.push (m.toNat * en.z+o)) x)=some x':=by rfl):ch P g (.load t a) ty x':=O.iQ au J aw.p h aa (vC ao)
theorem O.Gq {en:bJ α}{L:List α}{y:α}{o:Nat} [aw:kk P t z] (J:Rd g a (.ptr p (m.toNat * en.z+o)):=by exact .q) (au:bD g p=some (aj en L):=by rfl) (h:idx L m=some y:=by assumption) (aY:Nat.ble (o+z) en.z=true:=by rfl) (aa:lg ((((en.cells y).drop o).take z).mapIdx (λi x=>gv 0 (p.push (m.toNat * en.z+o+i)) x))=some cs':=by rfl):ch P g (.load t a) ty (.agg cs'):=O.W2 au J aw.p h aY (xJ aa)
theorem O.F9 {cT f off:Nat} [h:c' P cT f off t] (J:Rd g a (.ptr ⟨r,[]⟩ k):=by exact .q) (aC:g r=some (.obj cs):=by rfl) (ak:Nat.blt (k+off) cs.length=true:=by rfl):ch P g (.fieldAddr cT a f) ty (.ptr ⟨r,[]⟩ (k+off)):=O.kr aC J h.p ak
theorem O.F_ {cT f off:Nat} [h:c' P cT f off t] (J:Rd g a (.cH cs):=by exact .q):ch P g (.fieldAddr cT a f) ty (.cH (cs.drop off)):=O.Bl J h.p
theorem O.wf {en:bJ α}{L:List α}{y:α}{cT f off o gi:Nat} [aW:c' P cT f off t] (J:Rd g a (.ptr p (m.toNat * en.z+o)):=by exact .q) (au:bD g p=some (aj en L):=by rfl) (h:idx L m=some y:=by assumption) (a1:o+off=gi:=by rfl) (aT:Nat.blt gi en.z=true:=by rfl):ch P g (.fieldAddr cT a f) ty (.ptr p (m.toNat * en.z+gi)):=O.j' au J aW.p h a1 aT
theorem O.Ga {en:bJ α}{L:List α}{y:α}{bE:Nat}(h:idx L m=some y) [aI:ep P t e bE] (J:Rd g a (.bj en.z L.length (bp en L)):=by exact .q) (ax:Rd g b (.lit (.int sT m)):=by exact .q) (aY:bE=en.z:=by rfl):ch P g (.indexAddr t a b) ty (.cH (en.cells y++bp en (L.drop (m.toNat+1)))):=O.rj J ax (aY ▸ aI.p) h
theorem O.yr {en:bJ α}{L:List α}{y:α}{bE:Nat}(h:idx L m=some y) [aI:ep P t e bE] (J:Rd g a (.a6 en.z p L.length):=by exact .q) (au:bD g p=some (aj en L):=by rfl) (ax:Rd g b (.lit (.int sT m)):=by exact .q) (aY:bE=en.z:=by rfl) (aR:Nat.blt 0 en.z=true:=by rfl):ch P g (.indexAddr t a b) ty (.ptr p (m.toNat * en.z+0)):=O.gh au J ax (aY ▸ aI.p) h aR
theorem O.Gn {p i:Nat}{cs:List ab}{x y:ab}(J:g p=some (.bW cs):=by rfl) (ax:cs[i]?=some x:=by rfl) (ao:sX (gv 1 (Place.push ⟨p,[]⟩ i) x)=some y:=by rfl):ch P g (.extract (.tmp p) i) ty y:=O.ex J ax (vC ao)
theorem O.Ge [h1:AT P t sT] [af:AT P t2 JA] (J:Rd g a (.lit (.int sT m)):=by exact .q):ch P g (.convert t t2 a) ty (.lit (.int JA (JA.wrap m))):=O.SZ J h1.p af.p
theorem O.Gd {L:List Int}(J:Rd g a (.bj qg.z L.length (bp qg L)):=by exact .q) (aw:wH P t t2=true:=by kernel_rfl):ch P g (.convert t t2 a) ty (ay (strOfNums L)):=O.SY J aw
theorem O.Gc {dJ:Value} [h:h3 P e dJ] (h1:dJ.cells.toList.all Value.oneCell'=true:=by rfl) (aa:lg (dJ.cells.toList.map lQ)=some cs:=by rfl):ch P g (.alloc e) ty (.obj cs):=O.fm h.p h1 (xJ aa)
theorem O.Gm {parts:Array (Nat × Operand)}{pl:List (Nat × Nat)}{dJ:Value}{ps:List (Nat × List ab)} [aw:kl P t pl] [aY:h3 P t dJ] (h1:dJ.cells.toList.all Value.oneCell'=true:=by rfl)
  (au:rm g parts.toList=some ps:=by rfl) (aa:(u0 (λi=>pl[i]?) (dJ.cells.toList.map lQ) ps).bind lg=some cs:=by rfl):ch P g (.build t parts) ty (.agg cs):=by
 cases av:u0 (λi=>pl[i]?) (dJ.cells.toList.map lQ) ps with
 | none=>rw [av] at aa; cases aa
 | some c=>rw [av] at aa; have:=xJ aa; subst this; exact O.ej aw.p aY.p h1 au av
theorem O.wd {cT f off:Nat} [h:c' P cT f off t] [aw:fO P t] (J:Rd g a (.agg cs):=by exact .agg rfl rfl) (ax:cs[off]?.bind sX=some x:=by rfl):ch P g (.field cT a f) ty x:=by
 cases av:cs[off]? with
 | none=>rw [av] at ax; cases ax
 | some c=>rw [av] at ax; have:=vC ax; subst this; exact O.fd J h.p aw.p av
theorem O.wp {en:bJ α}{L M r:List α}{bE:Nat}(h:db L M=some r) [aw:jk P t e bE gL] (aC:Rd g a (.a6 en.z p L.length):=by exact .q) (au:bD g p=some (aj en L):=by rfl) (J:Rd g b y:=by exact .q) (hm:n3 g en y M:=by (first | exact .i | exact .n | exact .o rfl rfl)) (aY:bE=en.z:=by rfl) (av:Nat.ble gL 128=true:=by rfl) [e8:qX g]:ch P g (.call { callee:=.builtin .append,args:=#[a,b],argTypes:=#[t,t] }) ty (.bL en.z p L.length M.length (bp en M)) :=
 O.ap aC au J hm (aY ▸ aw.p) av h
def xG:List ab->Option (List Value)
 | []=>some []
 | .lit v::l=>match xG l with
  | some r=>some (v::r)
  | none=>none
 | _=>none
theorem Cr:∀ {l:List ab}{r:List Value},xG l=some r->l=r.map .lit
 | [],r,h=>by cases h; rfl
 | x::l,r,h=>by
  unfold xG at h
  split at h
  ·rename_i e; cases e
  ·rename_i e;cases e
   split at h
   ·rename_i dn ao;cases h; rw [Cr ao]; rfl
   ·cases h
  ·cases h
def yi:List Value->Option (List n2)
 | []=>some []
 | v::l=>match yi l,mf v with
  | some r,some u=>some (u::r)
  | _,_=>none
theorem Dk:∀ {l:List Value}{r:List n2},yi l=some r->l.map mf=r.map some
 | [],r,h=>by cases h; rfl
 | v::l,r,h=>by
  unfold yi at h
  split at h
  ·rename_i s6 u ao aC;cases h; simp [Dk ao,aC]
  ·cases h
theorem O.ou {Bb j9:List ab}{va vb:List Value}{eP:List n2}(J:Rd g a (.agg Bb):=by exact .q) (ax:Rd g b (.agg j9):=by exact .q) (zB:xG Bb=some va:=by rfl) (B_:xG j9=some vb:=by rfl) (aP:yi va=some eP:=by rfl) (av:yi vb=some eP:=by rfl) (aw:tD P t eP=true:=by kernel_rfl):ch P g (.binOp .eql t a b t2) ty (a_ (lE va vb)):=O.ze (Cr zB ▸ J) (Cr B_ ▸ ax) (Dk aP) (Dk av) aw
theorem O.wn {Bb j9:List ab}{va vb:List Value}{eP:List n2}(J:Rd g a (.agg Bb):=by exact .q) (ax:Rd g b (.agg j9):=by exact .q) (zB:xG Bb=some va:=by rfl) (B_:xG j9=some vb:=by rfl) (aP:yi va=some eP:=by rfl) (av:yi vb=some eP:=by rfl) (aw:tD P t eP=true:=by kernel_rfl):ch P g (.binOp .neq t a b t2) ty (a_ (!lE va vb)):=O.JP (Cr zB ▸ J) (Cr B_ ▸ ax) (Dk aP) (Dk av) aw
theorem O.Gh {en:bJ α}{z0:α}{r:List α}{bE:Nat}{dJ:Value}(h:ni m z0=some r) [het:ht P t α en] [aw:ep P t e bE] [hzero:h3 P e dJ] [iM:yF P e gL] (J:Rd g a (.lit (.int sT m)):=by exact .q) (ax:Rd g b (.lit (.int .i64 m)):=by exact .q) (h1:dJ.cells.toList.all Value.oneCell'=true:=by rfl) (aa:dJ.cells.toList.map lQ=en.cells z0:=by rfl) (aY:bE=en.z:=by rfl) (av:Nat.ble gL 128=true:=by rfl):ch P g (.makeSlice t a b) ty (aj en r) :=
 O.mk (aY ▸ aw.p) J ax hzero.p h1 aa h iM.p av
theorem O.wl {en:bJ α}{bE:Nat} [het:ht P t α en] [aw:ep P t e bE] (aY:bE=en.z:=by rfl) (hzero:ie P e en.z=true:=by kernel_rfl):ch P g (.buildSlice t 0 #[]) ty (aj en ([]:List α)) :=
 O.dg (ys:=[]) en [] (aY ▸ aw.p) rfl rfl rfl rfl rfl rfl hzero (by rw [Nat.zero_mul]; rfl) rfl
theorem O.Gi {en:bJ α}{M r:List α}{bE:Nat}(h:db [] M=some r) [aw:jk P t e bE gL] (aC:Rd g a .aJ:=by exact .q) (J:Rd g b y:=by exact .q) (hm:n3 g en y M:=by (first | exact .i | exact .n | exact .o rfl rfl)) (aY:bE=en.z:=by rfl) (av:Nat.ble gL 128=true:=by rfl):ch P g (.call { callee:=.builtin .append,args:=#[a,b],argTypes:=#[t,t] }) ty (aj en M) :=
 O.Rt aC J hm (aY ▸ aw.p) av h
theorem O.Gj {en:bJ α}{L r:List α}{c:Operand}{n:Int}{k:IntKind}{bE:Nat}(h:nV L 0 n=some r) [aw:ep P t e bE] (J:Rd g a (.bj en.z L.length (bp en L)):=by exact .q) (bY:Rd g c (.lit (.int k n)):=by exact .q) (aY:bE=en.z:=by rfl):ch P g (.slice t a none (some c) none) ty (ag en r):=O.Yu J bY (aY ▸ aw.p) h
theorem O.Gk {en:bJ α}{L r:List α}{k:IntKind}{bE:Nat}(h:nV L m L.length=some r) [aw:ep P t e bE] (J:Rd g a (.bj en.z L.length (bp en L)):=by exact .q) (ak:Rd g b (.lit (.int k m)):=by exact .q) (aY:bE=en.z:=by rfl):ch P g (.slice t a (some b) none none) ty (ag en r):=O.Yv J ak (aY ▸ aw.p) h
theorem O.Gl {en:bJ α}{L r:List α}{c:Operand}{n:Int}{k pL:IntKind}{bE:Nat}(h:nV L m n=some r) [aw:ep P t e bE] (J:Rd g a (.bj en.z L.length (bp en L)):=by exact .q) (ak:Rd g b (.lit (.int k m)):=by exact .q) (bY:Rd g c (.lit (.int pL n)):=by exact .q) (aY:bE=en.z:=by rfl):ch P g (.slice t a (some b) (some c) none) ty (ag en r):=O.Yt J ak bY (aY ▸ aw.p) h
def E5:List Nat->List Nat->Bool
 | [],[]=>true
 | a::l,b::m=>Nat.beq a b&&E5 l m
 | _,_=>false
def FA (p q:Place):Bool:=!(Nat.beq p.root q.root&&E5 p.path q.path)
theorem OE:∀ (l:List Nat),E5 l l=true
 | []=>rfl
 | a::l=>by unfold E5; rw [OE l,Nat.beq_refl]; rfl
theorem Pl {p q:Place}(h:FA p q=true):p≠q:=by
 rintro rfl;unfold FA at h;rw [Nat.beq_refl,OE] at h;cases h
def vE (p:Place):List (Nat × ab)->Bool
 | []=>true
 | (_,.bL _ q _ _ _)::l=>FA p q&&vE p l
 | _::l=>vE p l
theorem JS {p:Place}:∀ {G:List (Nat × ab)},vE p G=true->∀ t z n m new,get G t≠some (.bL z p n m new)
 | [],_,t,z,n,m,new,e=>by cases e
 | (s,x)::G,h,t,z,n,m,new,e=>by
  simp only [get] at e
  split at e
  ·cases e;unfold vE at h;rw [Bool.and_eq_true] at h;exact Pl h.1 rfl
  ·refine JS (G:=G) ?_ t z n m new e;unfold vE at h
   split at h
   ·rename_i cf; cases cf
   ·rename_i cf; cases cf; rw [Bool.and_eq_true] at h; exact h.2
   ·rename_i cf; cases cf; exact h
def xL (p:Place):Acc->Bool
 | []=>true
 | (_,_,some (.bL _ q _ _ _))::l=>FA p q&&xL p l
 | _::l=>xL p l
theorem OT {p:Place}{G:List (Nat × ab)}{A:Nat->Bool}(c_:vE p G=true):∀ {acc:Acc},xL p acc=true->∀ t z n m new,dh (get G) A acc t≠some (.bL z p n m new)
 | [],_,t,z,n,m,new,e=>JS c_ t z n m new e
 | (k,d,r)::acc,h,t,z,n,m,new,e=>by
  have af:xL p acc=true:=by
   unfold xL at h
   split at h
   ·rename_i cf; cases cf
   ·rename_i cf; cases cf; rw [Bool.and_eq_true] at h; exact h.2
   ·rename_i cf; cases cf; exact h
  simp only [dh] at e
  split at e
  ·split at e
   ·subst e;unfold xL at h;rw [Bool.and_eq_true] at h;exact Pl h.1 rfl
   ·cases e
  ·exact OT c_ af t z n m new e
theorem O.wr {en:bJ α}{L M r:List α}{bE:Nat}{G:List (Nat × ab)}(h:db L M=some r) [aw:jk P t e bE gL] (aC:Rd (get G) a (.a6 en.z p L.length):=by exact .q) (au:bD (get G) p=some (aj en L):=by rfl) (J:Rd (get G) b y:=by exact .q) (hm:n3 (get G) en y M:=by (first | exact .i | exact .n | exact .o rfl rfl)) (aY:bE=en.z:=by rfl) (av:Nat.ble gL 128=true:=by rfl) (bg:vE p G=true:=by rfl):ch P (get G) (.call { callee:=.builtin .append,args:=#[a,b],argTypes:=#[t,t] }) ty (.bL en.z p L.length M.length (bp en M)) :=
 O.tp aC au J hm (aY ▸ aw.p) av h (JS bg)
theorem O.Qs {en:bJ α}{L M r:List α}{bE:Nat}{G:List (Nat × ab)}{A:Nat->Bool}{acc:Acc}(h:db L M=some r) [aw:jk P t e bE gL] (aC:Rd (dh (get G) A acc) a (.a6 en.z p L.length):=by exact .q) (au:bD (dh (get G) A acc) p=some (aj en L):=by rfl) (J:Rd (dh (get G) A acc) b y:=by exact .q) (hm:n3 (dh (get G) A acc) en y M:=by (first | exact .i | exact .n | exact .o rfl rfl)) (aY:bE=en.z:=by rfl) (av:Nat.ble gL 128=true:=by rfl) (bg:vE p G=true:=by rfl) (VJ:xL p acc=true:=by rfl):ch P (dh (get G) A acc) (.call { callee:=.builtin .append,args:=#[a,b],argTypes:=#[t,t] }) ty (.bL en.z p L.length M.length (bp en M)) :=
 O.tp aC au J hm (aY ▸ aw.p) av h (OT bg VJ)
instance {s:Nat}{x:ab}{G:List (Nat × ab)} [h:o' s (get G)]:o' s (get ((s,x)::G)):=(pj (G:=G) (d:=s) (v:=x)) ▸ (inferInstance:o' s (cV (get G) s x))
instance {s d:Nat}{x:ab}{G:List (Nat × ab)} [h:o' s (get G)] [J:ns x]:o' s (get ((d,x)::G)):=(pj (G:=G) (d:=d) (v:=x)) ▸ (inferInstance:o' s (cV (get G) d x))
theorem O.F8 {en:bJ α}{L M M2 r:List α}{bE s:Nat}(h:db (L++M) M2=some r) [aw:jk P t e bE gL] (aC:Rd g a (.a6 en.z ⟨s,[]⟩ (L.length+M.length)):=by exact .q) (qo:g s=some (.bL en.z q L.length M.length (bp en M)):=by rfl) (au:bD g q=some (aj en L):=by rfl) (J:Rd g b y:=by exact .q) (hm:n3 g en y M2:=by (first | exact .i | exact .n | exact .o rfl rfl)) (aY:bE=en.z:=by rfl) (av:Nat.ble gL 128=true:=by rfl) [e8:o' s g]:ch P g (.call { callee:=.builtin .append,args:=#[a,b],argTypes:=#[t,t] }) ty (.bL en.z ⟨s,[]⟩ (L.length+M.length) M2.length (bp en M2)) :=
 O.D0 aC qo au J hm (aY ▸ aw.p) av h
theorem O.Gp {en:bJ β}{r:List (List β)}{bE:Nat}{dJ:Value}(h:ni m ([]:List β)=some r) [het:ht P t (List β) (bo en)] [aw:ep P t e bE] [hzero:h3 P e dJ] [iM:yF P e gL] (J:Rd g a (.lit (.int sT m)):=by exact .q) (ax:Rd g b (.lit (.int .i64 m)):=by exact .q) (h1:dJ.cells.toList.all Value.oneCell'=true:=by rfl) (aa:dJ.cells.toList.map lQ=[.aJ]:=by rfl) (aY:bE=(bo en).z:=by rfl) (av:Nat.ble gL 128=true:=by rfl):ch P g (.makeSlice t a b) ty (aj (bo en) r) :=
 O.W9 (aY ▸ aw.p) J ax hzero.p h1 aa h iM.p av
theorem O.eY {en:bJ α}{L:List α}{y:α}{bE:Nat} [aI:ep P t e bE] (J:Rd g a (.bj en.z L.length (bp en L)):=by exact .q) (ax:Rd g b (.lit (.int sT m)):=by exact .q) (aY:bE=en.z:=by rfl) (h:idx L m=some y:=by assumption):ch P g (.indexAddr t a b) ty (.cH (en.cells y++bp en (L.drop (m.toNat+1)))):=O.rj J ax (aY ▸ aI.p) h
theorem O.Gg {en:bJ α}{L:List α}{y:α}{bE:Nat} [aI:ep P t e bE] (J:Rd g a (.a6 en.z p L.length):=by exact .q) (au:bD g p=some (aj en L):=by rfl) (ax:Rd g b (.lit (.int sT m)):=by exact .q) (aY:bE=en.z:=by rfl) (aR:Nat.blt 0 en.z=true:=by rfl) (h:idx L m=some y:=by assumption):ch P g (.indexAddr t a b) ty (.ptr p (m.toNat * en.z+0)):=O.gh au J ax (aY ▸ aI.p) h aR
end
def Cl (GF:List (Nat × ab)) (ex:List Nat) (P5:List Nat):List (Nat × ab)->Option (List Nat)
 | []=>some []
 | (k,x)::l=>match Cl GF ex (k::P5) l with
  | none=>none
  | some r=>match !ex.elem k&&!P5.elem k&&(match x with | .ptr ⟨q,[]⟩ _=>!ex.elem q&&(match get GF q with | some (.obj _)=>true | _=>false) | _=>false) with
   | true=>some (k::r)
   | false=>some r
def oU (g g2:aM) (r:Nat):List (Nat × ab)->Bool
 | []=>true
 | (s,.ptr ⟨q,[]⟩ k)::l=>!Nat.beq s r&&(match g q,g2 q with | some (.obj cs),some (.obj kq)=>Nat.blt k cs.length&&Nat.blt k kq.length | _,_=>false)&&oU g g2 r l
 | _=>false
theorem O4 {g g2:aM}{r:Nat}{s:Nat}{x:ab}{l:List (Nat × ab)}(h:oU g g2 r ((s,x)::l)=true):(∃ q k cs kq,x=.ptr ⟨q,[]⟩ k/\Nat.beq s r=false/\g q=some (.obj cs)/\Nat.blt k cs.length=true/\g2 q=some (.obj kq)/\Nat.blt k kq.length=true)/\oU g g2 r l=true:=by
 unfold oU at h
 split at h
 ·rename_i e; cases e
 ·rename_i cT q k vA e;cases e;rw [Bool.and_eq_true,Bool.and_eq_true] at h;obtain ⟨⟨h1,af⟩,aI⟩:=h
  split at af
  ·rename_i cs kq cA cf;rw [Bool.and_eq_true] at af;exact ⟨⟨q,k,cs,kq,rfl,by simpa using h1,cA,af.1,cf,af.2⟩,aI⟩
  ·cases af
 ·cases h
theorem MO {g:aM}{r s:Nat}{x y:ab}(h:Nat.beq s r=false) (J:cV g r x s=some y):g s=some y:=by
 unfold cV at J;rw [if_neg (by rintro rfl; rw [Nat.beq_refl] at h; cases h)] at J;exact J
theorem C' {g:aM}{k:Nat}{ks:List Nat}{G1:List (Nat × ab)}(h:pick g (k::ks)=some G1):∃ x l,g k=some x/\pick g ks=some l/\G1=(k,x)::l:=by
 unfold pick at h
 split at h
 ·rename_i x J
  split at h
  ·rename_i l ak;cases h; exact ⟨x,l,J,ak,rfl⟩
  ·cases h
 ·cases h
theorem Ao {g g2:aM}{r:Nat}{cs2:List ab}{T:List (Nat × ab)}(dL:k6 g g2 r cs2 T):∀ {ks:List Nat}{G1:List (Nat × ab)},pick (cV g r (.obj cs2)) ks=some G1->(∀ e∈G1,cU e.2)->k6 g g2 r cs2 (G1++T)
 | [],_,h,_=>by cases h; exact dL
 | k::ks,G1,h,aF=>by
  obtain ⟨x,l,J,ak,rfl⟩:=C' h;have aU:=Ao dL ak λe h=>aF e (by simp [h]);have gf:=aF (k,x) (by simp);by_cases e:Nat.beq k r=true
  ·have:=Nat.eq_of_beq_eq_true e;subst this;simp only [cV,if_true] at J;cases J;have:dq cs2:=⟨by cases gf with | obj h=>exact h⟩;exact .b rfl aU
  ·have:cg x:=⟨gf⟩;have e:=Bool.eq_false_iff.2 e;exact .n e (MO e J) aU
theorem Ap {g g2:aM}{r:Nat}{cs2:List ab}:∀ {ks:List Nat}{G1:List (Nat × ab)},pick (cV g r (.obj cs2)) ks=some G1->oU g g2 r G1=true->k6 g g2 r cs2 G1
 | [],_,h,_=>by cases h; exact .nil
 | k::ks,G1,h,aF=>by
  obtain ⟨x,l,J,ak,rfl⟩:=C' h;obtain ⟨⟨q,j,cs,kq,rfl,h1,af,aI,bK,cG⟩,eh⟩:=O4 aF;exact .p h1 (MO h1 J) af aI bK cG (Ap ak eh)
theorem Fx {g g2:aM}{ex:List Nat}{T:List (Nat × ab)}(dL:mN ex g g2 T):∀ {ks:List Nat}{G1:List (Nat × ab)},pick g ks=some G1->(ks.all λk=>!ex.elem k)=true->(∀ e∈G1,cU e.2)->mN ex g g2 (G1++T)
 | [],_,h,_,_=>by cases h; exact dL
 | k::ks,G1,h,he,aF=>by
  obtain ⟨x,l,J,ak,rfl⟩:=C' h;rw [List.all_cons,Bool.and_eq_true] at he;have:cg x:=⟨aF (k,x) (by simp)⟩;exact .n (by simpa using he.1) J (Fx dL ak he.2 λe h=>aF e (by simp [h]))
theorem Fy {g g2:aM}{ex:List Nat}{r:Nat}:∀ {ks:List Nat}{G1:List (Nat × ab)},pick g ks=some G1->(ks.all λk=>!ex.elem k)=true->oU g g2 r G1=true->mN ex g g2 G1
 | [],_,h,_,_=>by cases h; exact .nil
 | k::ks,G1,h,he,aF=>by
  obtain ⟨x,l,J,ak,rfl⟩:=C' h;rw [List.all_cons,Bool.and_eq_true] at he;obtain ⟨⟨q,j,cs,kq,rfl,h1,af,aI,bK,cG⟩,eh⟩:=O4 aF;exact .p (by simpa using he.1) J bK cG (Fy ak he.2 eh)
def rO:List (Nat × ab)->List (Nat × ab)->Option (List (Nat × ab))
 | [],T=>some T
 | p::l,T=>match rO l T with
  | some r=>some (p::r)
  | none=>none
theorem tq:∀ {l T r:List (Nat × ab)},rO l T=some r->r=l++T
 | [],_,_,h=>by cases h; rfl
 | p::l,T,r,h=>by
  unfold rO at h
  split at h
  ·rename_i dn ao;cases h; rw [tq ao]; rfl
  ·cases h
theorem rP {m:Option (List ab)}{ys:List ab}(h:m.bind lg=some ys):m=some ys:=by
 cases av:m with
 | none=>rw [av] at h; cases h
 | some c=>rw [av] at h; rw [xJ h]
theorem cz.mG {P:Program}{g:aM}{xs:List Operand}{gm:Array TypeId}{f:FuncId}{ys args:List ab}{outs:List (Option ab)}{res:ab}(J:(gk g xs).bind lg=some ys) (hv:oC g ys args) (gP:bT P f args outs res) [ao:p5 res] (aW:gM P f=true:=by kernel_rfl) (a1:si outs=true:=by rfl):cz P g (.call { callee:=.value (.func f),args:=xs.toArray,argTypes:=gm }) res:=cz.vw (rP J) hv gP aW a1
def ox (ks hQ:List Nat) (P:Program) (N:c6) (g:aM) (o:Oper) (g':aM):Prop:=bl P N g o g'
section
variable {α:Type}{P:Program}{N:c6}{ops:Array Oper}{g:aM}{K:aM->Prop}{l:List Oper}{d r k0 s:Nat}{ty t:TypeId}{pos:String}{after:Array Edge}{a b x:Operand}{cs cs' jr cs2:List ab}{y:ab}{G2 ij h5:List (Nat × ab)}{u:Option (Nat × Bool)}{p q:Place}{ks hQ:List Nat}{en:bJ α}{L M:List α}
theorem hU.gl (aP:Rd g a (.ptr ⟨r,[]⟩ k0):=by exact .q) (aC:g r=some (.obj cs):=by rfl) (av:Rd g b (.agg cs'):=by exact .q) (he:oY cs k0 cs'=some cs2:=by rfl) (au:pick (cV g r (.obj cs2)) ks=some ij:=by rfl) (bg:pick (cV g r (.obj cs2)) hQ=some h5:=by rfl) (c_:rO ij h5=some G2:=by rfl) (dd:oU g (get G2) r h5=true:=by rfl) (aY:hl P t cs'.length=true:=by kernel_rfl) (aR:Nat.blt 0 cs'.length=true:=by rfl) (ao:(get G2 r).isSome=true:=by rfl) [aF:dq cs'] [e8:dq cs] [aO:iz ij]:ox ks hQ P N g ⟨none,.store t a b,ty,pos,after,none⟩ (get G2) :=
 .jh rfl rfl aC aP av rfl aY (Nat.ble_eq_true_of_le (lU he).2) aR (lU he).1 ao (by have:=tq c_; subst this; exact Ao (Ap bg dd) au aO.p)
theorem hU.np (aP:Rd g a (.ptr ⟨r,[]⟩ k0):=by exact .q) (aC:g r=some (.obj cs):=by rfl) (av:Rd g b y:=by exact .q) (aa:oH y=some [y]:=by rfl) (he:oY cs k0 [y]=some cs2:=by rfl) (au:pick (cV g r (.obj cs2)) ks=some ij:=by rfl) (bg:pick (cV g r (.obj cs2)) hQ=some h5:=by rfl) (c_:rO ij h5=some G2:=by rfl) (dd:oU g (get G2) r h5=true:=by rfl) (aY:hl P t 1=true:=by kernel_rfl) (ao:(get G2 r).isSome=true:=by rfl) [aF:cg y] [e8:dq cs] [aO:iz ij]:ox ks hQ P N g ⟨none,.store t a b,ty,pos,after,none⟩ (get G2) :=
 .jh rfl rfl aC aP av aa aY (Nat.ble_eq_true_of_le (lU he).2) rfl (lU he).1 ao (by have:=tq c_; subst this; exact Ao (Ap bg dd) au aO.p)
theorem hU.jS (J:Rd g x (.a6 en.z p L.length):=by exact .q) (au:bD g p=some (aj en L):=by rfl) (hk:pick g ks=some ij:=by rfl) (dr:(ks.all λk=>![p.root].elem k)=true:=by rfl) (bg:pick g hQ=some h5:=by rfl) (c_:rO ij h5=some G2:=by rfl) (BP:(hQ.all λk=>![p.root].elem k)=true:=by rfl) (dd:oU g (get G2) 1000000 h5=true:=by rfl) (aO:get G2 d=none:=by rfl) (bc:N.ok d=true:=by rfl) [aF:iz ij]:ox ks hQ P N g ⟨some d,.assign x,ty,pos,after,u⟩ (cV (get G2) d (aj en L)) :=
 .yX rfl rfl J au (by have:=tq c_; subst this; exact Fx (Fy bg BP dd) hk dr aF.p) aO bc
theorem hU.Ri (J:Rd g x y:=by exact .q) (hk:pick g ks=some G2:=by rfl) (aO:get G2 d=none:=by rfl) (bc:N.ok d=true:=by rfl) [ax:cg y] [aF:iz G2]:ox ks hQ P N g ⟨some d,.assign x,ty,pos,after,u⟩ (cV (get G2) d y) :=
 .A6 rfl rfl J (.f .nil) .refl (uy hk aF.p) aO bc
theorem hU.wx (J:Rd g x (.a6 en.z ⟨s,[]⟩ (L.length+M.length)):=by exact .q) (aC:g s=some (.bL en.z q L.length M.length (bp en M)):=by rfl) (au:bD g q=some (aj en L):=by rfl) (hk:pick g ks=some ij:=by rfl) (dr:(ks.all λk=>![s,q.root].elem k)=true:=by rfl) (IM:pick g hQ=some h5:=by rfl) (c_:rO ij h5=some G2:=by rfl) (BP:(hQ.all λk=>![s,q.root].elem k)=true:=by rfl) (dd:oU g (get G2) 1000000 h5=true:=by rfl) (bg:Nat.beq q.root s=false:=by rfl) (aO:get G2 d=none:=by rfl) (bc:N.ok d=true:=by rfl) [aF:iz ij]:ox ks hQ P N g ⟨some d,.assign x,ty,pos,after,u⟩ (cV (get G2) d (aj en (L++M))) :=
 .Lp rfl rfl J aC au bg (by have:=tq c_; subst this; exact Fx (Fy IM BP dd) hk dr aF.p) aO bc
theorem hU.rD {jj y2:α}{m:Int}{o:Nat}{eA x2 y0:ab}(aP:Rd g a (.ptr p (m.toNat * en.z+o)):=by exact .q) (au:bD g p=some (aj en L):=by rfl) (h:idx L m=some jj:=by assumption) (av:Rd g b y:=by exact .q) (aa:oH y=some cs':=by rfl) (he:e5 (en.cells jj) o cs'=en.cells y2:=by rfl) (iG:cv g p (aj en (L.set m.toNat y2)) p.root=some eA:=by rfl) (iv:Fe eA=some x2:=by rfl) (hk:pick (cV g p.root x2) ks=some G2:=by rfl) (aY:hl P t cs'.length=true:=by kernel_rfl) (hlen:Nat.ble (o+cs'.length) en.z=true:=by rfl) (aR:Nat.blt 0 cs'.length=true:=by rfl) (ao:(get G2 p.root).isSome=true:=by rfl) (ri:g p.root=some y0:=by rfl) [aF:cg y] [e8:cg y0] [aO:iz G2]:ox ks hQ P N g ⟨none,.store t a b,ty,pos,after,none⟩ (get G2) :=
 .s_ rfl rfl aP av au h aY aa he hlen aR (by rw [iG,OQ iv]) ao ri (J_ hk aO.p)
theorem hU.PX {g1:aM}{bx:ab}(av:Rd g b y) (aw:e6 g [y] [bx] g1) (aP:Rd g a (.ptr ⟨r,[]⟩ k0):=by exact .q) (aa:oH bx=some cs':=by rfl) (aC:g1 r=some (.obj jr):=by rfl) (he:oY jr k0 cs'=some cs2:=by rfl) (hk:pick (cV g1 r (.obj cs2)) ks=some ij:=by rfl) (fX:pick (cV g1 r (.obj cs2)) hQ=some h5:=by rfl) (c_:rO ij h5=some G2:=by rfl) (dd:oU g1 (get G2) r h5=true:=by rfl) (aY:hl P t cs'.length=true:=by kernel_rfl) (aR:Nat.blt 0 cs'.length=true:=by rfl) (ao:(get G2 r).isSome=true:=by rfl) [e8:dq jr] [aO:iz ij]:ox ks hQ P N g ⟨none,.store t a b,ty,pos,after,none⟩ (get G2) :=
 .pW rfl rfl aP av aw .refl aa aY aC (Nat.ble_eq_true_of_le (lU he).2) aR (lU he).1 ao (by have:=tq c_; subst this; exact Ao (Ap fX dd) hk aO.p)
theorem hU.mO {g1:aM}{bx:ab}(av:Rd g x y) (aw:e6 g [y] [bx] g1) (hk:pick g1 ks=some G2:=by rfl) (aO:get G2 d=none:=by rfl) (bc:N.ok d=true:=by rfl) [aF:iz G2]:ox ks hQ P N g ⟨some d,.assign x,ty,pos,after,u⟩ (cV (get G2) d bx) :=
 .A6 rfl rfl av aw .refl (uy hk aF.p) aO bc
theorem hU.D0 {M2:List α}{s2:Nat}(J:Rd g x (.a6 en.z ⟨s,[]⟩ (L.length+M2.length+M.length)):=by exact .q) (aC:g s=some (.bL en.z ⟨s2,[]⟩ (L.length+M2.length) M.length (bp en M)):=by rfl) (lf:g s2=some (.bL en.z q L.length M2.length (bp en M2)):=by rfl) (au:bD g q=some (aj en L):=by rfl) (bg:Nat.beq q.root s=false:=by rfl) (ua:Nat.beq q.root s2=false:=by rfl) (B4:Nat.beq s s2=false:=by rfl) (hk:pick g ks=some ij:=by rfl) (dr:(ks.all λk=>![s,s2,q.root].elem k)=true:=by rfl) (IM:pick g hQ=some h5:=by rfl) (c_:rO ij h5=some G2:=by rfl) (BP:(hQ.all λk=>![s,s2,q.root].elem k)=true:=by rfl) (dd:oU g (get G2) 1000000 h5=true:=by rfl) (aO:get G2 d=none:=by rfl) (bc:N.ok d=true:=by rfl) [aF:iz ij]:ox ks hQ P N g ⟨some d,.assign x,ty,pos,after,u⟩ (cV (get G2) d (aj en (L++M2++M))) :=
 .Re rfl rfl J aC lf au bg ua B4 (by have:=tq c_; subst this; exact Fx (Fy IM BP dd) hk dr aF.p) aO bc
theorem hU.sp (av:Rd g b (.a6 en.z ⟨s,[]⟩ (L.length+M.length)):=by exact .q) (qo:g s=some (.bL en.z q L.length M.length (bp en M)):=by rfl) (au:bD g q=some (aj en L):=by rfl) (aP:Rd g a (.ptr ⟨r,[]⟩ k0):=by exact .q) (aC:cv (cv g ⟨s,[]⟩ .dead) q .dead r=some (.obj jr):=by rfl) (he:oY jr k0 [aj en (L++M)]=some cs2:=by rfl) (hk:pick (cV (cv (cv g ⟨s,[]⟩ .dead) q .dead) r (.obj cs2)) ks=some ij:=by rfl) (fX:pick (cV (cv (cv g ⟨s,[]⟩ .dead) q .dead) r (.obj cs2)) hQ=some h5:=by rfl) (c_:rO ij h5=some G2:=by rfl) (dd:oU (cv (cv g ⟨s,[]⟩ .dead) q .dead) (get G2) r h5=true:=by rfl) (bg:Nat.beq q.root s=false:=by rfl) (aY:hl P t 1=true:=by kernel_rfl) (ao:(get G2 r).isSome=true:=by rfl) [e8:dq jr] [aO:iz ij]:ox ks hQ P N g ⟨none,.store t a b,ty,pos,after,none⟩ (get G2) :=
 .F1 rfl rfl aP av qo au bg .kx .hY rfl rfl aY aC (Nat.ble_eq_true_of_le (lU he).2) (lU he).1 ao (by have:=tq c_; subst this; exact Ao (Ap fX dd) hk aO.p)
theorem hU.s' (av:Rd g b (.a6 en.z p L.length):=by exact .q) (au:bD g p=some (aj en L):=by rfl) (aP:Rd g a (.ptr ⟨r,[]⟩ k0):=by exact .q) (aC:cv g p .dead r=some (.obj jr):=by rfl) (he:oY jr k0 [aj en L]=some cs2:=by rfl) (hk:pick (cV (cv g p .dead) r (.obj cs2)) ks=some ij:=by rfl) (fX:pick (cV (cv g p .dead) r (.obj cs2)) hQ=some h5:=by rfl) (c_:rO ij h5=some G2:=by rfl) (dd:oU (cv g p .dead) (get G2) r h5=true:=by rfl) (aY:hl P t 1=true:=by kernel_rfl) (ao:(get G2 r).isSome=true:=by rfl) [e8:dq jr] [aO:iz ij]:ox ks hQ P N g ⟨none,.store t a b,ty,pos,after,none⟩ (get G2) :=
 .pW rfl rfl aP av (.r au .nil) .refl rfl aY aC (Nat.ble_eq_true_of_le (lU he).2) rfl (lU he).1 ao (by have:=tq c_; subst this; exact Ao (Ap fX dd) hk aO.p)
end
def E7:Nat->List (Option ab)->Option (Nat × List ab)
 | _,[]=>none
 | k,some (.obj cs)::_=>some (k,cs)
 | k,none::l=>E7 (k+1) l
 | _,_=>none
def JF (g:aM) (xs:List Operand) (k:Nat):Option Nat :=
 match xs[k]? with
 | some (.tmp t)=>match g t with
  | some (.ptr ⟨r,[]⟩ 0)=>some r
  | some (.obj _)=>some t
  | _=>none
 | _=>none
theorem hU.nh {P:Program}{N:c6}{g:aM}{d r k0:Nat}{ty:TypeId}{pos:String}{after:Array Edge}{u:Option (Nat × Bool)}{f:FuncId}{xs:List Operand}{gm:Array TypeId}{ys args cs cs':List ab}{outs:List (Option ab)}{res:ab}{ks:List Nat}{G2:List (Nat × ab)}
  (gP:bT P f args outs res) (ak:E7 0 outs=some (k0,cs')) (ao:JF g xs k0=some r) (au:pick (cv g ⟨r,[]⟩ .dead) ks=some G2) (J:(gk g xs).bind lg=some ys) (aP:nr r cs k0 0 ys args) (aC:g r=some (.obj cs):=by rfl) (he:outs=uo args.length k0 (.obj cs'):=by rfl) (lK:Nat.blt k0 ys.length=true:=by rfl) (aW:gM P f=true:=by kernel_rfl) (aO:get G2 d=none:=by rfl) (r8:Nat.beq r d=false:=by rfl) (BX:pick (get ((r,.obj cs')::G2)) ks=some G2:=by rfl) (bc:N.ok d=true:=by rfl) [e8:dq cs] [ec:cg res] [BQ:dq cs'] [aF:iz G2] :
  bl P N g ⟨some d,.call { callee:=.value (.func f),args:=xs.toArray,argTypes:=gm },ty,pos,after,u⟩ (get ((d,res)::(r,.obj cs')::G2)) :=
 .call rfl bc (hJ.nh (A:=[]) rfl rfl (rP J) aC aP lK (he ▸ gP) aW (uy au aF.p) aO r8 (uy BX aF.p) .nil bc)
def q5:Acc->List (Nat × ab)->List (Nat × ab)
 | [],G=>G
 | (_,d,some x)::acc,G=>(d,x)::q5 acc G
 | (_,_,none)::acc,G=>q5 acc G
def cQ (eg:List Nat) (P:Program) (N:c6) (ops:Array Oper) (bd:List (List Nat)) (g0:aM) (i:Nat) (acc:Acc) (l:List Oper) (K:aM->Prop):Prop:=bA P N ops bd g0 i acc l K
section
variable {α β:Type}{P:Program}{N:c6}{ops:Array Oper}{bd:List (List Nat)}{acc:Acc}{E ks:List Nat}{t x y z:lu}{A B c:Code}{G G1 G2:List (Nat × ab)}{g:aM}{g':aM}{Φ ow:Exit->aM->Prop}{Ψ:aM->Prop}{K:aM->Prop}{id k s d i bG j cT:Nat}{b cd:Bool}{l:List Oper}{o:Oper}{op:Op}{ty yo:TypeId}{pos:String}{after:Array Edge}{v y':ab}{u:Option (Nat × Bool)}{a aE a2:Operand}
theorem cM.X_ (h:cM E t P N .ret G Φ):cM E t P N .ret G Φ:=h
theorem ar.ts (h:ar P N ops (⟨none,.store ty aE a2,yo,pos,after,u⟩::l) g K):ar P N ops (⟨none,.store ty aE a2,yo,pos,after,u⟩::l) g K:=h
theorem cQ.ts {eg:List Nat}(h:cQ eg P N ops bd g i acc (⟨none,.store ty aE a2,yo,pos,after,u⟩::l) K):cQ eg P N ops bd g i acc (⟨none,.store ty aE a2,yo,pos,after,u⟩::l) K:=h
theorem cQ.bN (op:Op) (u:Option (Nat × Bool)) {eg:List Nat}(h:cQ eg P N ops bd g i acc (⟨some d,op,ty,pos,after,u⟩::l) K):cQ eg P N ops bd g i acc (⟨some d,op,ty,pos,after,u⟩::l) K:=h
theorem cQ.nl {eg:List Nat}(h:cQ eg P N ops bd g i acc [] K):cQ eg P N ops bd g i acc [] K:=h
def FF (g:aM) (d:Nat):Operand->Option ab
 | .tmp t=>bif Nat.beq t d then none else FG g t
 | .const v=>FD g (.const v)
 | _=>none
theorem Rd.pP {g:aM}{a:Operand}{y:ab}(h:FF g d a=some y):Rd (del g d) a y:=by
 unfold FF at h
 split at h
 ·rename_i t;cases av:Nat.beq t d with
  | true=>rw [av] at h; cases h
  | false =>
   rw [av] at h;have dr:t≠d:=Nat.ne_of_beq_eq_false av;refine Rd.Ar ?_;unfold FG at h ⊢;simpa [del,dr] using h
 ·exact .q (by unfold FD at h ⊢; exact h)
 ·cases h
theorem Q9 {y':ab}(J:FF (get G) d a=some v) (aW:get G d=some y') (ak:leaf y'=true) (hk:ar P N ops l (get ((d,v)::G)) K) (bc:N.ok d=true:=by rfl):ar P N ops (⟨some d,.assign a,ty,pos,after,none⟩::l) (get G) K:=.over (.assign (Rd.pP J).bs) bc aW ak (pj ▸ hk)
theorem Q_ {y':ab}(J:FF (get G) d a=some v) (aW:get G d=some y') (ak:leaf y'=true) (hk:ar P N ops l (get ((d,v)::G)) K) (bc:N.ok d=true:=by rfl):ar P N ops (⟨some d,.move a,ty,pos,after,none⟩::l) (get G) K:=.over (.move (Rd.pP J).bs) bc aW ak (pj ▸ hk)
theorem QU {hQ:List Nat}(lK:sU [] G=some ks) (hb:Cl G [] [] G=some hQ) (he:ox ks hQ P N (get G) o (get G2)) (hk:ar P N ops l (get G2) K) (aO:o.guard=none:=by rfl):ar P N ops (o::l) (get G) K:=.kL aO he hk
theorem QS {f:FuncId}{xs:List Operand}{gm:Array TypeId}{ys args cs cs':List ab}{outs:List (Option ab)}{res:ab}{r k0:Nat}(gP:bT P f args outs res) (ak:E7 0 outs=some (k0,cs')) (ao:JF (get G) xs k0=some r) (hk:sU [r,d] G=some ks) (au:pick (cv (get G) ⟨r,[]⟩ .dead) ks=some G2) (J:(gk (get G) xs).bind lg=some ys) (aP:nr r cs k0 0 ys args) (dj:ar P N ops l (get ((d,res)::(r,.obj cs')::G2)) K) (aC:get G r=some (.obj cs):=by rfl) (he:outs=uo args.length k0 (.obj cs'):=by rfl) (lK:Nat.blt k0 ys.length=true:=by rfl) (aW:gM P f=true:=by kernel_rfl) (aO:get G2 d=none:=by rfl) (r8:Nat.beq r d=false:=by rfl) (BX:pick (get ((r,.obj cs')::G2)) ks=some G2:=by rfl) (bc:N.ok d=true:=by rfl) [e8:dq cs] [ec:cg res] [BQ:dq cs'] [aF:iz G2] :
  ar P N ops (⟨some d,.call { callee:=.value (.func f),args:=xs.toArray,argTypes:=gm },ty,pos,after,none⟩::l) (get G) K:=.kL rfl (hU.nh gP ak ao au J aP aC he lK aW aO r8 BX bc) dj
theorem QL {eg:List Nat}{f:FuncId}{xs:List Operand}{gm:Array TypeId}{ys args cs cs':List ab}{outs:List (Option ab)}{res:ab}{r k0:Nat}(gP:bT P f args outs res) (ak:E7 0 outs=some (k0,cs')) (ao:JF (dh (get G) (λ_=>true) acc) xs k0=some r) (hk:sU [r,d] (q5 acc G)=some ks) (au:pick (cv (dh (get G) (λ_=>true) acc) ⟨r,[]⟩ .dead) ks=some G2) (J:(gk (dh (get G) (λ_=>true) acc) xs).bind lg=some ys) (aP:nr r cs k0 0 ys args) (dj:cQ eg P N ops bd (get ((d,res)::(r,.obj cs')::G2)) (bG+1) [] l K) (aC:dh (get G) (λ_=>true) acc r=some (.obj cs):=by rfl) (he:outs=uo args.length k0 (.obj cs'):=by rfl) (lK:Nat.blt k0 ys.length=true:=by rfl) (aW:gM P f=true:=by kernel_rfl) (aO:get G2 d=none:=by rfl) (r8:Nat.beq r d=false:=by rfl) (BX:pick (get ((r,.obj cs')::G2)) ks=some G2:=by rfl) (bc:N.ok d=true:=by rfl) [e8:dq cs] [ec:cg res] [BQ:dq cs'] [aF:iz G2] (gQ:rl ((acc.filterMap j1).map Place.root)=true:=by rfl) (fH:mc G=true:=by rfl) (ah:Nat.beq ops.size (bG+l.length+1)=true:=by rfl)
  (zk:(List.range bG).all (λk=>(bd.getD bG []).contains k)=true:=by kernel_rfl) (av:(List.range ops.size).all (λk=>Nat.ble k bG||(bd.getD k []).contains bG)=true:=by kernel_rfl) :
  cQ (bG::eg) P N ops bd (get G) i acc (⟨some d,.call { callee:=.value (.func f),args:=xs.toArray,argTypes:=gm },ty,pos,after,none⟩::l) K:=bA.wE bG (hU.nh gP ak ao au J aP aC he lK aW aO r8 BX bc) rfl gQ fH ah zk av dj
theorem QT {hQ:List Nat}(lK:sU (d::roots G a) G=some ks) (hb:Cl G (d::roots G a) [] G=some hQ) (he:ox ks hQ P N (get G) ⟨some d,.assign a,ty,pos,after,none⟩ (cV (get G2) d v)) (hk:ar P N ops l (get ((d,v)::G2)) K):ar P N ops (⟨some d,.assign a,ty,pos,after,none⟩::l) (get G) K:=.q8 rfl he (pj ▸ hk)
theorem Q6 {L:List α}{f:List α->Option β}{Kk:β}{M:List α}{e dz bE:Nat}{hc:TypeId}{parts:Array (Nat × Operand)}{ys:List ab}{en:bJ α}(h:(db L M).bind f=some Kk) [het:ht P hc α en] [aw:ep P hc e bE] (hk:ar P N ops l (get ((d,ag en M)::G)) K) (J:(gk (get G) (parts.toList.map (·.2))).bind lg=some ys:=by rfl) (aa:mo ys=some (bp en M):=by rfl) (aY:ys.all (λy=>match jT y with | some c=>Nat.beq c.length en.z | none=>false)=true:=by rfl) (au:parts.toList=(parts.toList.map (·.2)).mapIdx (λi x=>(i,x)):=by rfl) (kO:(parts.toList.map (·.2)).length=dz:=by rfl) (ak:M.length=dz:=by rfl) (nG:bE=en.z:=by rfl) (hzero:ie P e en.z=true:=by kernel_rfl) (av:Nat.ble (dz * en.z) 16777216=true:=by rfl) (gG:Nat.ble dz 16777216=true:=by rfl) [hv:i' (aj en M) (ag en M)] (bc:N.ok d=true:=by rfl) (aW:get G d=none:=by rfl):ar P N ops (⟨some d,.buildSlice hc dz parts,ty,pos,after,none⟩::l) (get G) K :=
 .fk (O.dg en M (nG ▸ aw.p) (rP J) aa aY au kO ak hzero av gG) bc aW .none (pj ▸ hk)
theorem Lo (M:List α) {e dz bE:Nat}{hc:TypeId}{parts:Array (Nat × Operand)}{ys:List ab}{en:bJ α}(aC:v7 d l=false) [het:ht P hc α en] [aw:ep P hc e bE] (hk:ar P N ops l (get ((d,aj en M)::G)) K) (J:(gk (get G) (parts.toList.map (·.2))).bind lg=some ys:=by rfl) (aa:mo ys=some (bp en M):=by rfl) (aY:ys.all (λy=>match jT y with | some c=>Nat.beq c.length en.z | none=>false)=true:=by rfl) (au:parts.toList=(parts.toList.map (·.2)).mapIdx (λi x=>(i,x)):=by rfl) (kO:(parts.toList.map (·.2)).length=dz:=by rfl) (ak:M.length=dz:=by rfl) (nG:bE=en.z:=by rfl) (hzero:ie P e en.z=true:=by kernel_rfl) (av:Nat.ble (dz * en.z) 16777216=true:=by rfl) (gG:Nat.ble dz 16777216=true:=by rfl) (bc:N.ok d=true:=by rfl) (aW:get G d=none:=by rfl):ar P N ops (⟨some d,.buildSlice hc dz parts,ty,pos,after,none⟩::l) (get G) K :=
 ez (O.dg en M (nG ▸ aw.p) (rP J) aa aY au kO ak hzero av gG) hk bc aW
theorem Q7 {M:List α}{e dz bE:Nat}{hc:TypeId}{parts:Array (Nat × Operand)}{ys:List ab}{en:bJ α}(aC:v7 d l=true) [het:ht P hc α en] [aw:ep P hc e bE] (hk:ar P N ops l (get ((d,ag en M)::G)) K) (J:(gk (get G) (parts.toList.map (·.2))).bind lg=some ys:=by rfl) [aS:o8 en ys M] (au:parts.toList=(parts.toList.map (·.2)).mapIdx (λi x=>(i,x)):=by rfl) (kO:(parts.toList.map (·.2)).length=dz:=by rfl) (ak:ys.length=dz:=by rfl) (nG:bE=en.z:=by rfl) (hzero:ie P e en.z=true:=by kernel_rfl) (av:Nat.ble (dz * en.z) 16777216=true:=by rfl) (gG:Nat.ble dz 16777216=true:=by rfl) [hv:i' (aj en M) (ag en M)] (bc:N.ok d=true:=by rfl) (aW:get G d=none:=by rfl):ar P N ops (⟨some d,.buildSlice hc dz parts,ty,pos,after,none⟩::l) (get G) K :=
 .fk (O.dg en M (nG ▸ aw.p) (rP J) aS.p.1 aS.p.2.1 au kO (aS.p.2.2.trans ak) hzero av gG) bc aW .none (pj ▸ hk)
theorem Q8 {M:List α}{e dz bE:Nat}{hc:TypeId}{parts:Array (Nat × Operand)}{ys:List ab}{en:bJ α}(aC:v7 d l=false) [het:ht P hc α en] [aw:ep P hc e bE] (hk:ar P N ops l (get ((d,aj en M)::G)) K) (J:(gk (get G) (parts.toList.map (·.2))).bind lg=some ys:=by rfl) [aS:o8 en ys M] (au:parts.toList=(parts.toList.map (·.2)).mapIdx (λi x=>(i,x)):=by rfl) (kO:(parts.toList.map (·.2)).length=dz:=by rfl) (ak:ys.length=dz:=by rfl) (nG:bE=en.z:=by rfl) (hzero:ie P e en.z=true:=by kernel_rfl) (av:Nat.ble (dz * en.z) 16777216=true:=by rfl) (gG:Nat.ble dz 16777216=true:=by rfl) (bc:N.ok d=true:=by rfl) (aW:get G d=none:=by rfl):ar P N ops (⟨some d,.buildSlice hc dz parts,ty,pos,after,none⟩::l) (get G) K :=
 ez (O.dg en M (nG ▸ aw.p) (rP J) aS.p.1 aS.p.2.1 au kO (aS.p.2.2.trans ak) hzero av gG) hk bc aW
theorem ey {eg:List Nat}(au:ch P (jA bd g bG acc) op ty v) (hk:cQ eg P N ops bd g i ((bG,d,some v)::acc) l K) (ah:Nat.beq ops.size (bG+l.length+1)=true:=by rfl) (aW:g d=none:=by rfl) (aF:acc.all (λe=>!Nat.beq e.2.1 d)=true:=by rfl) (bc:N.ok d=true:=by rfl):cQ (bG::eg) P N ops bd g i acc (⟨some d,op,ty,pos,after,none⟩::l) K:=aD _ au hk ah aW aF bc
theorem eG {eg:List Nat}(au:ch P (jA bd g bG acc) op ty v) (hk:cQ eg P N ops bd g i ((bG,d,some v)::acc) l K) (h:(ops[j]?).bind (·.dst)=some cT:=by rfl) (aO:jA bd g bG acc cT=some (.lit (.bool cd)):=by rfl) (av:cd=b:=by (first | rfl | assumption)) (ah:Nat.beq ops.size (bG+l.length+1)=true:=by rfl) (aW:g d=none:=by rfl) (aF:acc.all (λe=>!Nat.beq e.2.1 d)=true:=by rfl) (bc:N.ok d=true:=by rfl):cQ (bG::eg) P N ops bd g i acc (⟨some d,op,ty,pos,after,some (j,b)⟩::l) K:=.v _ au ah aW aF bc (.ft h aO av) hk
theorem K3 {eg:List Nat}(au:cz P (jA bd g bG acc) op v) (hk:cQ eg P N ops bd g i ((bG,d,some v)::acc) l K) (ah:Nat.beq ops.size (bG+l.length+1)=true:=by rfl) (aW:g d=none:=by rfl) (aF:acc.all (λe=>!Nat.beq e.2.1 d)=true:=by rfl) (bc:N.ok d=true:=by rfl):cQ (bG::eg) P N ops bd g i acc (⟨some d,op,ty,pos,after,none⟩::l) K:=.c _ au ah aW aF bc .none hk
theorem K2 {eg:List Nat}(au:cz P (jA bd g bG acc) op v) (hk:cQ eg P N ops bd g i ((bG,d,some v)::acc) l K) (h:(ops[j]?).bind (·.dst)=some cT:=by rfl) (aO:jA bd g bG acc cT=some (.lit (.bool cd)):=by rfl) (av:cd=b:=by (first | rfl | assumption)) (ah:Nat.beq ops.size (bG+l.length+1)=true:=by rfl) (aW:g d=none:=by rfl) (aF:acc.all (λe=>!Nat.beq e.2.1 d)=true:=by rfl) (bc:N.ok d=true:=by rfl):cQ (bG::eg) P N ops bd g i acc (⟨some d,op,ty,pos,after,some (j,b)⟩::l) K:=.c _ au ah aW aF bc (.ft h aO av) hk
theorem QP {eg:List Nat}(hk:cQ eg P N ops bd g i ((bG,d,some (.bW []))::acc) l K) (h:(ops[j]?).bind (·.dst)=some cT:=by rfl) (aO:jA bd g bG acc cT=some (.lit (.bool cd)):=by rfl) (av:cd=!b:=by (first | rfl | assumption)) (ah:Nat.beq ops.size (bG+l.length+1)=true:=by rfl) (aW:g d=none:=by rfl) (aF:acc.all (λe=>!Nat.beq e.2.1 d)=true:=by rfl) (bc:N.ok d=true:=by rfl):cQ (bG::eg) P N ops bd g i acc (⟨some d,op,ty,pos,after,some (j,b)⟩::l) K:=.ps _ h aO av ah aW aF bc hk
theorem QR {eg:List Nat}(hk:cQ eg P N ops bd g i ((bG,d,some (.bW []))::acc) l K) (h:(ops[j]?).bind (·.dst)=some cT:=by rfl) (aO:jA bd g bG acc cT=some (.bW []):=by rfl) (ah:Nat.beq ops.size (bG+l.length+1)=true:=by rfl) (aW:g d=none:=by rfl) (aF:acc.all (λe=>!Nat.beq e.2.1 d)=true:=by rfl) (bc:N.ok d=true:=by rfl):cQ (bG::eg) P N ops bd g i acc (⟨some d,op,ty,pos,after,some (j,b)⟩::l) K:=.pu _ h aO ah aW aF bc hk
theorem QJ {eg:List Nat}{L:List α}{f:List α->Option β}{Kk:β}{M:List α}{e dz bE:Nat}{hc:TypeId}{parts:Array (Nat × Operand)}{ys:List ab}{en:bJ α}(h:(db L M).bind f=some Kk) [het:ht P hc α en] [aw:ep P hc e bE] (hk:cQ eg P N ops bd g i ((bG,d,some (ag en M))::acc) l K) (J:(gk (jA bd g bG acc) (parts.toList.map (·.2))).bind lg=some ys:=by rfl) (aa:mo ys=some (bp en M):=by rfl) (aY:ys.all (λy=>match jT y with | some c=>Nat.beq c.length en.z | none=>false)=true:=by rfl) (au:parts.toList=(parts.toList.map (·.2)).mapIdx (λi x=>(i,x)):=by rfl) (kO:(parts.toList.map (·.2)).length=dz:=by rfl) (ak:M.length=dz:=by rfl) (nG:bE=en.z:=by rfl) (hzero:ie P e en.z=true:=by kernel_rfl) (av:Nat.ble (dz * en.z) 16777216=true:=by rfl) (gG:Nat.ble dz 16777216=true:=by rfl) [hv:i' (aj en M) (ag en M)] (ah:Nat.beq ops.size (bG+l.length+1)=true:=by rfl) (aW:g d=none:=by rfl) (aF:acc.all (λe=>!Nat.beq e.2.1 d)=true:=by rfl) (bc:N.ok d=true:=by rfl):cQ (bG::eg) P N ops bd g i acc (⟨some d,.buildSlice hc dz parts,ty,pos,after,none⟩::l) K :=
 bA.fk bG (O.dg en M (nG ▸ aw.p) (rP J) aa aY au kO ak hzero av gG) ah aW aF bc .none hk
theorem QQ {eg:List Nat}(M:List α) {e dz bE:Nat}{hc:TypeId}{parts:Array (Nat × Operand)}{ys:List ab}{en:bJ α}(aC:v7 d l=true) [het:ht P hc α en] [aw:ep P hc e bE] (hk:cQ eg P N ops bd g i ((bG,d,some (ag en M))::acc) l K) (J:(gk (jA bd g bG acc) (parts.toList.map (·.2))).bind lg=some ys:=by rfl) (aa:mo ys=some (bp en M):=by rfl) (aY:ys.all (λy=>match jT y with | some c=>Nat.beq c.length en.z | none=>false)=true:=by rfl) (au:parts.toList=(parts.toList.map (·.2)).mapIdx (λi x=>(i,x)):=by rfl) (kO:(parts.toList.map (·.2)).length=dz:=by rfl) (ak:M.length=dz:=by rfl) (nG:bE=en.z:=by rfl) (hzero:ie P e en.z=true:=by kernel_rfl) (av:Nat.ble (dz * en.z) 16777216=true:=by rfl) (gG:Nat.ble dz 16777216=true:=by rfl) [hv:i' (aj en M) (ag en M)] (ah:Nat.beq ops.size (bG+l.length+1)=true:=by rfl) (aW:g d=none:=by rfl) (aF:acc.all (λe=>!Nat.beq e.2.1 d)=true:=by rfl) (bc:N.ok d=true:=by rfl):cQ (bG::eg) P N ops bd g i acc (⟨some d,.buildSlice hc dz parts,ty,pos,after,none⟩::l) K :=
 bA.fk bG (O.dg en M (nG ▸ aw.p) (rP J) aa aY au kO ak hzero av gG) ah aW aF bc .none hk
theorem K4 {eg:List Nat}(M:List α) {e dz bE:Nat}{hc:TypeId}{parts:Array (Nat × Operand)}{ys:List ab}{en:bJ α}(aC:v7 d l=false) [het:ht P hc α en] [aw:ep P hc e bE] (hk:cQ eg P N ops bd g i ((bG,d,some (aj en M))::acc) l K) (J:(gk (jA bd g bG acc) (parts.toList.map (·.2))).bind lg=some ys:=by rfl) (aa:mo ys=some (bp en M):=by rfl) (aY:ys.all (λy=>match jT y with | some c=>Nat.beq c.length en.z | none=>false)=true:=by rfl) (au:parts.toList=(parts.toList.map (·.2)).mapIdx (λi x=>(i,x)):=by rfl) (kO:(parts.toList.map (·.2)).length=dz:=by rfl) (ak:M.length=dz:=by rfl) (nG:bE=en.z:=by rfl) (hzero:ie P e en.z=true:=by kernel_rfl) (av:Nat.ble (dz * en.z) 16777216=true:=by rfl) (gG:Nat.ble dz 16777216=true:=by rfl) (ah:Nat.beq ops.size (bG+l.length+1)=true:=by rfl) (aW:g d=none:=by rfl) (aF:acc.all (λe=>!Nat.beq e.2.1 d)=true:=by rfl) (bc:N.ok d=true:=by rfl):cQ (bG::eg) P N ops bd g i acc (⟨some d,.buildSlice hc dz parts,ty,pos,after,none⟩::l) K :=
 ey (O.dg en M (nG ▸ aw.p) (rP J) aa aY au kO ak hzero av gG) hk ah aW aF bc
theorem QK {eg:List Nat}{M:List α}{e dz bE:Nat}{hc:TypeId}{parts:Array (Nat × Operand)}{ys:List ab}{en:bJ α}(aC:v7 d l=true) [het:ht P hc α en] [aw:ep P hc e bE] (hk:cQ eg P N ops bd g i ((bG,d,some (ag en M))::acc) l K) (J:(gk (jA bd g bG acc) (parts.toList.map (·.2))).bind lg=some ys:=by rfl) [aS:o8 en ys M] (au:parts.toList=(parts.toList.map (·.2)).mapIdx (λi x=>(i,x)):=by rfl) (kO:(parts.toList.map (·.2)).length=dz:=by rfl) (ak:ys.length=dz:=by rfl) (nG:bE=en.z:=by rfl) (hzero:ie P e en.z=true:=by kernel_rfl) (av:Nat.ble (dz * en.z) 16777216=true:=by rfl) (gG:Nat.ble dz 16777216=true:=by rfl) [hv:i' (aj en M) (ag en M)] (ah:Nat.beq ops.size (bG+l.length+1)=true:=by rfl) (aW:g d=none:=by rfl) (aF:acc.all (λe=>!Nat.beq e.2.1 d)=true:=by rfl) (bc:N.ok d=true:=by rfl):cQ (bG::eg) P N ops bd g i acc (⟨some d,.buildSlice hc dz parts,ty,pos,after,none⟩::l) K :=
 bA.fk bG (O.dg en M (nG ▸ aw.p) (rP J) aS.p.1 aS.p.2.1 au kO (aS.p.2.2.trans ak) hzero av gG) ah aW aF bc .none hk
theorem QN {eg:List Nat}{M:List α}{e dz bE:Nat}{hc:TypeId}{parts:Array (Nat × Operand)}{ys:List ab}{en:bJ α}(aC:v7 d l=false) [het:ht P hc α en] [aw:ep P hc e bE] (hk:cQ eg P N ops bd g i ((bG,d,some (aj en M))::acc) l K) (J:(gk (jA bd g bG acc) (parts.toList.map (·.2))).bind lg=some ys:=by rfl) [aS:o8 en ys M] (au:parts.toList=(parts.toList.map (·.2)).mapIdx (λi x=>(i,x)):=by rfl) (kO:(parts.toList.map (·.2)).length=dz:=by rfl) (ak:ys.length=dz:=by rfl) (nG:bE=en.z:=by rfl) (hzero:ie P e en.z=true:=by kernel_rfl) (av:Nat.ble (dz * en.z) 16777216=true:=by rfl) (gG:Nat.ble dz 16777216=true:=by rfl) (ah:Nat.beq ops.size (bG+l.length+1)=true:=by rfl) (aW:g d=none:=by rfl) (aF:acc.all (λe=>!Nat.beq e.2.1 d)=true:=by rfl) (bc:N.ok d=true:=by rfl):cQ (bG::eg) P N ops bd g i acc (⟨some d,.buildSlice hc dz parts,ty,pos,after,none⟩::l) K :=
 ey (O.dg en M (nG ▸ aw.p) (rP J) aS.p.1 aS.p.2.1 au kO (aS.p.2.2.trans ak) hzero av gG) hk ah aW aF bc
theorem QO {eg:List Nat}{hQ:List Nat}(lK:sU [] (q5 acc G)=some ks) (hb:Cl (q5 acc G) [] [] (q5 acc G)=some hQ) (he:ox ks hQ P N (dh (get G) (λ_=>true) acc) o (get G2)) (hk:cQ eg P N ops bd (get G2) (bG+1) [] l K) (aO:o.guard=none:=by rfl) (gQ:rl ((acc.filterMap j1).map Place.root)=true:=by rfl) (fH:mc G=true:=by rfl) (ah:Nat.beq ops.size (bG+l.length+1)=true:=by rfl)
  (aP:(List.range bG).all (λk=>(bd.getD bG []).contains k)=true:=by kernel_rfl) (av:(List.range ops.size).all (λk=>Nat.ble k bG||(bd.getD k []).contains bG)=true:=by kernel_rfl):cQ (bG::eg) P N ops bd (get G) i acc (o::l) K:=.wE _ he aO gQ fH ah aP av hk
theorem QM {eg:List Nat}{hQ:List Nat}(lK:sU (d::roots (q5 acc G) a) (q5 acc G)=some ks) (hb:Cl (q5 acc G) (d::roots (q5 acc G) a) [] (q5 acc G)=some hQ) (he:ox ks hQ P N (dh (get G) (λ_=>true) acc) ⟨some d,.assign a,ty,pos,after,none⟩ (cV (get G2) d v)) (hk:cQ eg P N ops bd (get ((d,v)::G2)) (bG+1) [] l K) (gQ:rl ((acc.filterMap j1).map Place.root)=true:=by rfl) (fH:mc G=true:=by rfl) (ah:Nat.beq ops.size (bG+l.length+1)=true:=by rfl)
  (aP:(List.range bG).all (λk=>(bd.getD bG []).contains k)=true:=by kernel_rfl) (av:(List.range ops.size).all (λk=>Nat.ble k bG||(bd.getD k []).contains bG)=true:=by kernel_rfl):cQ (bG::eg) P N ops bd (get G) i acc (⟨some d,.assign a,ty,pos,after,none⟩::l) K:=.bv _ he rfl gQ fH ah aP av hk
theorem bA.Ms {K:aM->Prop}(aY:acc.filterMap j1=[]) (fH:mc G=true) (hi:Nat.ble i ops.size=true) (dj:K (dh (get G) (λ_=>true) acc)):bA P N ops bd (get G) i acc [] K:=by
 intro dV j cx kP k_;have ah:j=ops.size:=by
  have h1:ops.size<=j:=by
   have:=congrArg List.length k_;rw [List.length_drop,List.length_nil,Array.length_toList] at this;omega
  have aI:j<=ops.size:=by
   cases kP with
   | nil=>exact Nat.le_of_ble_eq_true hi
   | step _ a1=>have:=(Array.getElem?_eq_some_iff.1 a1).1; omega
  omega
 subst ah;exact ⟨_,.fin kP (by rw [aY]; exact List.nodup_nil) (vF fH),dj⟩
theorem QI {eg:List Nat}{DG:lu->List (Nat × ab)->Prop}(lK:JB E [] (q5 acc G)=some ks) (au:pick (dh (get G) (λ_=>true) acc) ks=some G1) [aF:iz G1] (hk:DG t G1) (aY:acc.filterMap j1=[]:=by rfl) (fH:mc G=true:=by rfl) (hi:Nat.ble i ops.size=true:=by rfl):cQ eg P N ops bd (get G) i acc [] (yM E t DG) :=
 .Ms aY fH hi ⟨G1,(uy (c:=true) (g2:=get G1) au aF.p).eY,hk⟩
theorem QH {eg:List Nat}{F:α->List (Nat × ab)}{j v:α}(h:some v=some j) (aw:Trim true (dh (get G) (λ_=>true) acc) (get (F v)) (F v)) (aY:acc.filterMap j1=[]:=by rfl) (fH:mc G=true:=by rfl) (hi:Nat.ble i ops.size=true:=by rfl):cQ eg P N ops bd (get G) i acc [] (rK F j .normal):=by
 cases h; exact .Ms aY fH hi ⟨rfl,.eY aw.eY .hY⟩
theorem cM.rd [hm:AS P] (h:cQ num P N l.toArray bd (get G) 0 [] l (yM E y λt G1=>cM E t P N B G1 Φ)) (et:pe l.toArray bd=true:=by kernel_rfl):cM E (.rd id bd y) P N (.seq (.region id l.toArray true) B) G Φ:=by
 obtain ⟨g',h1,G1,af,aI⟩:=h [] 0 .nil .nil (by simp);exact W.seq ((gb.draw hm.p et h1).w (W.weaken af aI))
theorem cM.bV {m:Option α}{f:α->Option β}{r:β}{L c9:α->List (Nat × ab)} [hm:AS P] (h:m.bind f=some r) (h1:∀ j,m=some j->cQ num P N l.toArray bd (get G) 0 [] l (rK c9 j .normal)) (af:∀ j,m=some j->f j=some r->cM E y P N B (c9 j) Φ)
  (aN:∀ j,pick (pP (L j) G) ks=some (c9 j):=by intro j; rfl) (et:pe l.toArray bd=true:=by kernel_rfl):cM E (.bV id bd ks L y) P N (.seq (.region id l.toArray true) B) G Φ:=by
 obtain ⟨j,ah,h⟩:=k7 h;obtain ⟨g',cA,_,fP⟩:=h1 j ah [] 0 .nil .nil (by simp);exact W.seq ((gb.draw hm.p et cA).w (W.be (af j ah h) fP))
theorem cM.XX [hm:AS P] (h:cQ num P N l.toArray bd (get G) 0 [] l (yM E y λt G1=>er E t .normal Φ G1)) (et:pe l.toArray bd=true:=by kernel_rfl):cM E (.rd id bd y) P N (.region id l.toArray true) G Φ:=by
 obtain ⟨g',h1,G1,af,aI⟩:=h [] 0 .nil .nil (by simp);exact (gb.draw hm.p et h1).w (aI g' (.eY af .hY))
theorem cM.X2 {m:Option α}{f:α->Option β}{r:β}{L c9:α->List (Nat × ab)} [hm:AS P] (h:m.bind f=some r) (h1:∀ j,m=some j->cQ num P N l.toArray bd (get G) 0 [] l (rK c9 j .normal)) (af:∀ j,m=some j->f j=some r->er E y .normal Φ (c9 j))
  (aN:∀ j,pick (pP (L j) G) ks=some (c9 j):=by intro j; rfl) (et:pe l.toArray bd=true:=by kernel_rfl):cM E (.bV id bd ks L y) P N (.region id l.toArray true) G Φ:=by
 obtain ⟨j,ah,h⟩:=k7 h;obtain ⟨g',cA,_,fP⟩:=h1 j ah [] 0 .nil .nil (by simp);exact (gb.draw hm.p et cA).w (af j ah h _ fP)
theorem cM.X1 {m:Option α}{f:α->Option β}{r:β}{L c9:α->List (Nat × ab)}(h:m.bind f=some r) (h1:∀ j,m=some j->ar P N l.toArray l (get G) (rK c9 j .normal)) (af:∀ j,m=some j->f j=some r->er E y .normal Φ (c9 j))
  (aN:∀ j,pick (pP (L j) G) ks=some (c9 j):=by intro j; rfl):cM E (.ev id ks L y) P N (.region id l.toArray false) G Φ:=by
 obtain ⟨j,ah,h⟩:=k7 h;exact W.Ax λi hi=>by
  obtain ⟨g',cA,_,fP⟩:=h1 j ah i hi;exact ⟨g',cA,af j ah h _ fP⟩
theorem cM.gu {S R gK:Type}{f:S->Option (S ⊕ (R ⊕ gK))}{s:S}{HA:R ⊕ gK->Option β}{r:β}{F c9:S->List (Nat × ab)}{ks sg Cm:List Nat}{X mm:R->List (Nat × ab)}{Y tm:gK->List (Nat × ab)}(h:(b4 f s).bind HA=some r)
  (av:∀ s o,f s=some o->cM E x P N c (c9 s) (k5 c9 (AW id mm tm) o)) (J:∀ dn,HA (.inl dn)=some r->er E y (.exit id) Φ (mm dn)) (ax:∀ dn,HA (.inr dn)=some r->er E z .ret Φ (tm dn))
  (aN:∀ s,pick (pP (F s) G) ks=some (c9 s):=by intro s; rfl) (tK:∀ s,pick (pP (X s) G) sg=some (mm s):=by intro s; rfl) (wZ:∀ s,pick (pP (Y s) G) Cm=some (tm s):=by intro s; rfl) (aw:Trim true (get G) (get (c9 s)) (c9 s):=by (repeat' first | exact .nil | refine .n rfl ?_ | refine .w rfl rfl .pN ?_ | refine .w rfl rfl .pM ?_ | refine .w rfl rfl (j8.obj (by (repeat' first | exact .nil | refine .f ?_ | refine .o ?_ | refine .i ?_))) ?_)) :
  cM E (.gu F ks id X sg Y Cm x y z) P N (.loop c) G Φ:=by
 obtain ⟨dn,ak,h⟩:=k7 h;exact W.dC aw (W.OG c9 id mm tm ak av (λq e=>J q (e ▸ h)) (λq e=>ax q (e ▸ h)))
theorem er.x2 {S R gK:Type}{r:R}{o:S ⊕ (R ⊕ gK)}{F:S->List (Nat × ab)}{X:R->List (Nat × ab)}{Y:gK->List (Nat × ab)}(h:some (.inr (.inl r))=some o) (aw:Trim true (get G) (get (X r)) (X r)):er E t (.exit id) (k5 F (AW id X Y) o) G:=by
 cases h; exact aA.x2 aw
theorem er.jQ {S R gK:Type}{r:gK}{o:S ⊕ (R ⊕ gK)}{F:S->List (Nat × ab)}{X:R->List (Nat × ab)}{Y:gK->List (Nat × ab)}(h:some (.inr (.inr r))=some o) (aw:Trim true (get G) (get (Y r)) (Y r)):er E t .ret (k5 F (AW id X Y) o) G:=by
 cases h; exact aA.jQ aw
end
section
variable {P:Program}{N:c6}{E:List Nat}{t x y z:lu}{A B c:Code}{G:List (Nat × ab)}{Φ:Exit->aM->Prop}{id k s:Nat}{o:Operand}
theorem j7.dN {α:Type}{en:bJ α}{i:Option Nat}(h:cM E (.dN id s i en y) P N c G Φ):cM E (.dN id s i en y) P N c G Φ:=h
theorem j7.sz {α:Type}{en:bJ α}{i:Option Nat}(h:cM E (.sz s i en y) P N c G Φ):cM E (.sz s i en y) P N c G Φ:=h
theorem j7.ev {α:Type}{ks:List Nat}{L:α->List (Nat × ab)}(h:cM E (.ev id ks L y) P N c G Φ):cM E (.ev id ks L y) P N c G Φ:=h
theorem j7.bV {α:Type}{bd:List (List Nat)}{ks:List Nat}{L:α->List (Nat × ab)}(h:cM E (.bV id bd ks L y) P N c G Φ):cM E (.bV id bd ks L y) P N c G Φ:=h
theorem j7.rd {bd:List (List Nat)}(h:cM E (.rd id bd y) P N c G Φ):cM E (.rd id bd y) P N c G Φ:=h
theorem j7.bF (h:cM E t P N (.cond o A B) G Φ):cM E t P N (.cond o A B) G Φ:=h
theorem j7.eO (h:cM E t P N (.loop A) G Φ):cM E t P N (.loop A) G Φ:=h
theorem j7.Jx {α:Type}{ks:List Nat}{L:α->List (Nat × ab)}(h:cM E (.dF ks L x y) P N (.block id A) G Φ):cM E (.dF ks L x y) P N (.block id A) G Φ:=h
theorem j7.rg {ops:Array Oper}{b:Bool}(h:cM E t P N (.region id ops b) G Φ):cM E t P N (.region id ops b) G Φ:=h
theorem j7.XK {S R:Type}{F:S->List (Nat × ab)}{Ψ:R->Exit->aM->Prop}{o:S ⊕ R}{e:Exit}(h:er E t e (k5 F Ψ o) G):er E t e (k5 F Ψ o) G:=h
theorem j7.XN {α:Type}{F:α->List (Nat × ab)}{j:α}{e:Exit}(h:er E t e (rK F j) G):er E t e (rK F j) G:=h
theorem j7.RO (h:er E t (.exit k) (mb id Φ) G):er E t (.exit k) (mb id Φ) G:=h
theorem j7.XJ {rs:List ResultVar}{n:Nat}{outs:List (Option ab)}{res:ab}{e:Exit}(h:er E t e (p4 P N rs n outs res) G):er E t e (p4 P N rs n outs res) G:=h
end
section
variable {P:Program}{N:c6}{E:List Nat}{t:lu}{G:List (Nat × ab)}{g':aM}{rs:List ResultVar}{ys xs:List ab}{res:ab}{outs:List (Option ab)}{n:Nat}
theorem j4.Mc {g wW:aM}{s z:Nat}{hc:TypeId}{cs ys0:List ab}{rs:List ResultVar}{ys xs:List ab}(h:g s=some (.obj cs)) [aw:kk P hc z] (aY:cs.length=z) (aR:Nat.blt 0 z=true) (ax:yc (λi x=>gv 0 ⟨s,[i]⟩ x) 0 num cs=some ys0) (hk:nu s g 0 ys0 cs wW) (ao:j4 P wW rs ys xs g'):j4 P g (.cell s hc::rs) (.agg ys0::ys) (.agg cs::xs) g':=.c h aw.p aY aR (by have:=Di ax; simpa using this) hk ao
theorem er.eT (h:j4 P (get G) rs ys xs g':=by (repeat' first | exact .nil | (apply j4.f rfl rfl) | (apply j4.o rfl) | (apply j4.Mc rfl rfl rfl rfl) | (apply nu.f rfl) | (apply nu.o rfl))) (he:qI xs=res:=by rfl) (a1:qZ g' N.pins 0 outs:=by (repeat' first | exact .nil | refine .no ?_ | refine .aq rfl rfl ?_)) (fp:(rs.filterMap fun | .cell t _=>some t | _=>none).Nodup:=by exact of_decide_eq_true (by kernel_rfl)) (ak:outs.length=n:=by rfl):er E t .ret (p4 P N rs n outs res) G:=i_ h he a1 fp ak
theorem er.fn (h:j4 P (get G) rs ys xs g':=by (repeat' first | exact .nil | (apply j4.f rfl rfl) | (apply j4.o rfl) | (apply j4.Mc rfl rfl rfl rfl) | (apply nu.f rfl) | (apply nu.o rfl))) (he:qI xs=res:=by rfl) (a1:qZ g' N.pins 0 outs:=by (repeat' first | exact .nil | refine .no ?_ | refine .aq rfl rfl ?_)) (fp:(rs.filterMap fun | .cell t _=>some t | _=>none).Nodup:=by exact of_decide_eq_true (by kernel_rfl)) (ak:outs.length=n:=by rfl):er E t .normal (p4 P N rs n outs res) G:=aA.fin (Fin.ro h he fp a1 ak (.inl rfl))
set_option maxRecDepth 1000000 in
/-- The walk: what it meets it does. -/
theorem dH {p:Prop}(h:p:=by
(repeat' (first
 | ((with_reducible apply ar.bN _ none); first
  | ((with_reducible apply ar.bN (.move _) none); first | refine ez (O.aX .q) ?_)
  | ((with_reducible apply ar.bN (.assign (.const _)) none); first | refine ez (O.az .q) ?_)
  | ((with_reducible apply ar.bN (.assign (.tmp _)) none); first | refine ez (O.az .Ar) ?_)
  | ((with_reducible apply ar.bN (.load _ _) none); first | refine ez (O.ic) ?_ | refine ez (O.hr) ?_ | refine ez (O.AF) ?_ | refine ez (O.AG) ?_ | refine ez (O.Gb) ?_ | refine ez (O.Gf) ?_ | refine ez (O.Gq) ?_)
  | ((with_reducible apply ar.bN (.fieldAddr _ _ _) none); first | refine ez (O.F9) ?_ | refine ez (O.F_) ?_ | refine ez (O.wf) ?_)
  | ((with_reducible apply ar.bN (.indexAddr _ _ _) none); first | refine aL h λx J h=>ez (O.Ga J) ?_ | refine aL h λx J h=>ez (O.yr J) ?_ | refine ez (O.eY) ?_ | refine ez (O.Gg) ?_)
  | ((with_reducible apply ar.bN (.binOp .add _ _ _ _) none); first | refine ez (O.add .q .q) ?_ | refine aL h λx J h=>ez (O.cat .q .q J) ?_)
  | ((with_reducible apply ar.bN (.binOp .sub _ _ _ _) none); first | refine ez (O.sub .q .q) ?_)
  | ((with_reducible apply ar.bN (.binOp .mul _ _ _ _) none); first | refine ez (O.mul .q .q) ?_)
  | ((with_reducible apply ar.bN (.binOp .lss _ _ _ _) none); first | refine ez (O.lss .q .q) ?_)
  | ((with_reducible apply ar.bN (.binOp .leq _ _ _ _) none); first | refine ez (O.leq .q .q) ?_)
  | ((with_reducible apply ar.bN (.binOp .gtr _ _ _ _) none); first | refine ez (O.gtr .q .q) ?_)
  | ((with_reducible apply ar.bN (.binOp .geq _ _ _ _) none); first | refine ez (O.geq .q .q) ?_)
  | ((with_reducible apply ar.bN (.binOp .eql _ _ _ _) none); first | refine ez (O.eql .q .q) ?_ | refine ez (O.qh .q .q) ?_ | refine ez (O.Ec .q .q (by kernel_rfl)) ?_ | refine ez (O.ou) ?_)
  | ((with_reducible apply ar.bN (.binOp .neq _ _ _ _) none); first | refine ez (O.neq .q .q) ?_ | refine ez (O.oq .q .q) ?_ | refine ez (O.wn) ?_)
  | ((with_reducible apply ar.bN (.binOp .quo _ _ _ _) none); first | refine aL h λx J h=>ez (O.quo .q .q J) ?_ | refine aL h λx J h=>ez (O.rr .q .q J) ?_)
  | ((with_reducible apply ar.bN (.binOp .rem _ _ _ _) none); first | refine aL h λx J h=>ez (O.rem .q .q J) ?_ | refine aL h λx J h=>ez (O.ry .q .q J) ?_)
  | ((with_reducible apply ar.bN (.unOp .not _ _) none); first | refine ez (O.not .q) ?_)
  | ((with_reducible apply ar.bN (.unOp .neg _ _) none); first | refine ez (O.neg .q) ?_)
  | ((with_reducible apply ar.bN (.pick _ _ _) none); first | refine ez (O.hS .q (by first | rfl | assumption) .q) ?_ | refine ez (O.dB .q (by first | rfl | assumption) .q) ?_)
  | ((with_reducible apply ar.bN (.nilCheck _) none); first | refine ez (O.eV .q) ?_ | refine ez (O.xK .q) ?_)
  | ((with_reducible apply ar.bN (.index _ _ _) none); first | refine aL h λx J h=>ez (O.mn .q .q iX.p J) ?_)
  | ((with_reducible apply ar.bN (.extract _ _) none); first | refine ez (O.Gn) ?_)
  | ((with_reducible apply ar.bN (.convert _ _ _) none); first | refine ez (O.Ge) ?_ | refine ez (O.Gd) ?_)
  | ((with_reducible apply ar.bN (.box _ _) none); first | refine ez (O.F7) ?_)
  | ((with_reducible apply ar.bN (.alloc _) none); first | refine ez (O.Gc) ?_)
  | ((with_reducible apply ar.bN (.build _ _) none); first | refine ez (O.Gm) ?_)
  | ((with_reducible apply ar.bN (.field _ _ _) none); first | refine ez (O.wd) ?_)
  | ((with_reducible apply ar.bN (.makeSlice _ _ _) none); first | refine aL h λx J h=>ez (O.Gh J) ?_ | refine aL h λx J h=>ez (O.Gp J) ?_)
  | ((with_reducible apply ar.bN (.buildSlice _ 0 #[]) none); first | refine ez (O.wl) ?_)
  | ((with_reducible apply ar.bN (.makeFunc _ _ _) none); first | refine ez (O.zM rfl) ?_)
  | ((with_reducible apply ar.bN (.slice _ _ _ _ _) none); first | refine aL h λx J h=>ez (O.yj .q .q .q iX.p J) ?_ | refine aL h λx J h=>ez (O.FU .q .q iX.p J) ?_ | refine aL h λx J h=>ez (O.FV .q .q iX.p J) ?_ | refine aL h λx J h=>ez (O.Gl J) ?_ | refine aL h λx J h=>ez (O.Gj J) ?_ | refine aL h λx J h=>ez (O.Gk J) ?_)
  | ((with_reducible apply ar.bN (.call { callee:=.builtin .len,args:=#[_],argTypes:=#[_] }) none); first | refine ez (O.ku .q ep.p) ?_ | refine ez (O.mB .q ep.p) ?_ | refine ez (O.um .q iX.p) ?_)
  | ((with_reducible apply ar.bN (.call { callee:=.builtin .append,args:=#[_,_],argTypes:=#[_,_] }) none); first | refine aL h λx J h=>ez (O.wp J) ?_ | refine aL h λx J h=>ez (O.Gi J) ?_ | refine aL h λx J h=>ez (O.F8 J) ?_ | refine aL h λx J h=>ez (O.wr J) ?_)
  | ((with_reducible apply ar.bN (.call { callee:=.value _,args:=_,argTypes:=_ }) none); first | (refine aL h λx J h=>Lm (cz.eU ?_ (bz.go J)) ?_; · (repeat' first | exact .nil | refine .cd .q ?_)) | (refine aL h λx J h=>Lm (cz.mG rfl ?_ (bz.go J)) ?_; · (repeat' first | exact .nil | refine .s ?_ | refine .c (View.nT rfl rfl) ?_ | refine .c (.row rfl) ?_ | refine .c (View.mO ?_) ?_ | refine .c (View.cl ?_) ?_)) | (refine aL h λx J h=>QS (bz.go J) rfl rfl rfl rfl rfl (by repeat' first | exact .nil | refine .b rfl ?_ | refine .n rfl ?_) ?_))
  | ((with_reducible apply ar.bN (.buildSlice _ _ _) none); first | refine Q6 h ?_ | refine Q7 rfl ?_ | refine Q8 rfl ?_ | refine Lo [_] rfl ?_ | refine Lo [_,_] rfl ?_)
  | ((with_reducible apply ar.bN (.assign _) none); refine Q9 rfl rfl rfl ?_)
  | ((with_reducible apply ar.bN (.move _) none); refine Q_ rfl rfl rfl ?_)
  | ((with_reducible apply ar.bN (.move _) none); first | refine GJ rfl rfl (O.aX .q) ?_)
  | ((with_reducible apply ar.bN (.assign (.const _)) none); first | refine GJ rfl rfl (O.az .q) ?_)
  | ((with_reducible apply ar.bN (.assign (.tmp _)) none); first | refine GJ rfl rfl (O.az .Ar) ?_)
  | ((with_reducible apply ar.bN (.assign (.tmp _)) none); refine QT rfl rfl (by first | exact hU.jS | exact hU.wx | exact hU.D0 | exact hU.mO .q (by repeat' first | exact e6.nil | (apply e6.f) | (apply e6.r rfl) | (apply e6.mO) | (apply e6.b rfl))) ?_))
 | ((with_reducible apply ar.ts); refine QU rfl rfl (by first | exact hU.gl | exact hU.np | exact hU.s' | exact hU.sp | exact hU.rD | exact hU.PX .q (by repeat' first | exact e6.nil | (apply e6.f) | (apply e6.r rfl) | (apply e6.mO) | (apply e6.b rfl))) ?_)
 | ((with_reducible apply ar.bN _ (some _)); first
  | refine qU ?_
  | refine QY ?_
  | ((with_reducible apply ar.bN (.move _) (some _)); first | refine eH (O.aX .q) ?_)
  | ((with_reducible apply ar.bN (.assign (.const _)) (some _)); first | refine eH (O.az .q) ?_)
  | ((with_reducible apply ar.bN (.assign (.tmp _)) (some _)); first | refine eH (O.az .Ar) ?_)
  | ((with_reducible apply ar.bN (.load _ _) (some _)); first | refine eH (O.ic) ?_ | refine eH (O.hr) ?_ | refine eH (O.AF) ?_ | refine eH (O.AG) ?_ | refine eH (O.Gb) ?_ | refine eH (O.Gf) ?_ | refine eH (O.Gq) ?_)
  | ((with_reducible apply ar.bN (.fieldAddr _ _ _) (some _)); first | refine eH (O.F9) ?_ | refine eH (O.F_) ?_ | refine eH (O.wf) ?_)
  | ((with_reducible apply ar.bN (.indexAddr _ _ _) (some _)); first | refine aL h λx J h=>eH (O.Ga J) ?_ | refine aL h λx J h=>eH (O.yr J) ?_ | refine eH (O.eY) ?_ | refine eH (O.Gg) ?_)
  | ((with_reducible apply ar.bN (.binOp .add _ _ _ _) (some _)); first | refine eH (O.add .q .q) ?_ | refine aL h λx J h=>eH (O.cat .q .q J) ?_)
  | ((with_reducible apply ar.bN (.binOp .sub _ _ _ _) (some _)); first | refine eH (O.sub .q .q) ?_)
  | ((with_reducible apply ar.bN (.binOp .mul _ _ _ _) (some _)); first | refine eH (O.mul .q .q) ?_)
  | ((with_reducible apply ar.bN (.binOp .lss _ _ _ _) (some _)); first | refine eH (O.lss .q .q) ?_)
  | ((with_reducible apply ar.bN (.binOp .leq _ _ _ _) (some _)); first | refine eH (O.leq .q .q) ?_)
  | ((with_reducible apply ar.bN (.binOp .gtr _ _ _ _) (some _)); first | refine eH (O.gtr .q .q) ?_)
  | ((with_reducible apply ar.bN (.binOp .geq _ _ _ _) (some _)); first | refine eH (O.geq .q .q) ?_)
  | ((with_reducible apply ar.bN (.binOp .eql _ _ _ _) (some _)); first | refine eH (O.eql .q .q) ?_ | refine eH (O.qh .q .q) ?_ | refine eH (O.Ec .q .q (by kernel_rfl)) ?_ | refine eH (O.ou) ?_)
  | ((with_reducible apply ar.bN (.binOp .neq _ _ _ _) (some _)); first | refine eH (O.neq .q .q) ?_ | refine eH (O.oq .q .q) ?_ | refine eH (O.wn) ?_)
  | ((with_reducible apply ar.bN (.binOp .quo _ _ _ _) (some _)); first | refine aL h λx J h=>eH (O.quo .q .q J) ?_ | refine aL h λx J h=>eH (O.rr .q .q J) ?_)
  | ((with_reducible apply ar.bN (.binOp .rem _ _ _ _) (some _)); first | refine aL h λx J h=>eH (O.rem .q .q J) ?_ | refine aL h λx J h=>eH (O.ry .q .q J) ?_)
  | ((with_reducible apply ar.bN (.unOp .not _ _) (some _)); first | refine eH (O.not .q) ?_)
  | ((with_reducible apply ar.bN (.unOp .neg _ _) (some _)); first | refine eH (O.neg .q) ?_)
  | ((with_reducible apply ar.bN (.pick _ _ _) (some _)); first | refine eH (O.hS .q (by first | rfl | assumption) .q) ?_ | refine eH (O.dB .q (by first | rfl | assumption) .q) ?_)
  | ((with_reducible apply ar.bN (.nilCheck _) (some _)); first | refine eH (O.eV .q) ?_ | refine eH (O.xK .q) ?_)
  | ((with_reducible apply ar.bN (.index _ _ _) (some _)); first | refine aL h λx J h=>eH (O.mn .q .q iX.p J) ?_)
  | ((with_reducible apply ar.bN (.extract _ _) (some _)); first | refine eH (O.Gn) ?_)
  | ((with_reducible apply ar.bN (.convert _ _ _) (some _)); first | refine eH (O.Ge) ?_ | refine eH (O.Gd) ?_)
  | ((with_reducible apply ar.bN (.box _ _) (some _)); first | refine eH (O.F7) ?_)
  | ((with_reducible apply ar.bN (.alloc _) (some _)); first | refine eH (O.Gc) ?_)
  | ((with_reducible apply ar.bN (.build _ _) (some _)); first | refine eH (O.Gm) ?_)
  | ((with_reducible apply ar.bN (.field _ _ _) (some _)); first | refine eH (O.wd) ?_)
  | ((with_reducible apply ar.bN (.makeSlice _ _ _) (some _)); first | refine aL h λx J h=>eH (O.Gh J) ?_ | refine aL h λx J h=>eH (O.Gp J) ?_)
  | ((with_reducible apply ar.bN (.buildSlice _ 0 #[]) (some _)); first | refine eH (O.wl) ?_)
  | ((with_reducible apply ar.bN (.makeFunc _ _ _) (some _)); first | refine eH (O.zM rfl) ?_)
  | ((with_reducible apply ar.bN (.slice _ _ _ _ _) (some _)); first | refine aL h λx J h=>eH (O.yj .q .q .q iX.p J) ?_ | refine aL h λx J h=>eH (O.FU .q .q iX.p J) ?_ | refine aL h λx J h=>eH (O.FV .q .q iX.p J) ?_ | refine aL h λx J h=>eH (O.Gl J) ?_ | refine aL h λx J h=>eH (O.Gj J) ?_ | refine aL h λx J h=>eH (O.Gk J) ?_)
  | ((with_reducible apply ar.bN (.call { callee:=.builtin .len,args:=#[_],argTypes:=#[_] }) (some _)); first | refine eH (O.ku .q ep.p) ?_ | refine eH (O.mB .q ep.p) ?_ | refine eH (O.um .q iX.p) ?_)
  | ((with_reducible apply ar.bN (.call { callee:=.builtin .append,args:=#[_,_],argTypes:=#[_,_] }) (some _)); first | refine aL h λx J h=>eH (O.wp J) ?_ | refine aL h λx J h=>eH (O.Gi J) ?_ | refine aL h λx J h=>eH (O.F8 J) ?_ | refine aL h λx J h=>eH (O.wr J) ?_)
  | ((with_reducible apply ar.bN (.call { callee:=.value _,args:=_,argTypes:=_ }) (some _)); first | (refine aL h λx J h=>K_ (cz.eU ?_ (bz.go J)) ?_; · (repeat' first | exact .nil | refine .cd .q ?_)) | (refine aL h λx J h=>K_ (cz.mG rfl ?_ (bz.go J)) ?_; · (repeat' first | exact .nil | refine .s ?_ | refine .c (View.nT rfl rfl) ?_ | refine .c (.row rfl) ?_ | refine .c (View.mO ?_) ?_ | refine .c (View.cl ?_) ?_)))
  | refine He h (λav h=>?_) (λav h=>?_))
 | ((with_reducible apply ar.nl); first | refine GC rfl rfl ?_ | refine QV h (by (repeat' first | exact .nil | refine .n rfl ?_ | refine .w rfl rfl .pN ?_ | refine .w rfl rfl .pM ?_ | refine .w rfl rfl (j8.obj (by (repeat' first | exact .nil | refine .f ?_ | refine .o ?_ | refine .i ?_))) ?_)))
 | ((with_reducible apply cQ.bN _ none); first
  | ((with_reducible apply cQ.bN (.move _) none); first | refine ey (O.aX .q) ?_)
  | ((with_reducible apply cQ.bN (.assign (.const _)) none); first | refine ey (O.az .q) ?_)
  | ((with_reducible apply cQ.bN (.assign (.tmp _)) none); first | refine ey (O.az .Ar) ?_)
  | ((with_reducible apply cQ.bN (.load _ _) none); first | refine ey (O.ic) ?_ | refine ey (O.hr) ?_ | refine ey (O.AF) ?_ | refine ey (O.AG) ?_ | refine ey (O.Gb) ?_ | refine ey (O.Gf) ?_ | refine ey (O.Gq) ?_)
  | ((with_reducible apply cQ.bN (.fieldAddr _ _ _) none); first | refine ey (O.F9) ?_ | refine ey (O.F_) ?_ | refine ey (O.wf) ?_)
  | ((with_reducible apply cQ.bN (.indexAddr _ _ _) none); first | refine aL h λx J h=>ey (O.Ga J) ?_ | refine aL h λx J h=>ey (O.yr J) ?_ | refine ey (O.eY) ?_ | refine ey (O.Gg) ?_)
  | ((with_reducible apply cQ.bN (.binOp .add _ _ _ _) none); first | refine ey (O.add .q .q) ?_ | refine aL h λx J h=>ey (O.cat .q .q J) ?_)
  | ((with_reducible apply cQ.bN (.binOp .sub _ _ _ _) none); first | refine ey (O.sub .q .q) ?_)
  | ((with_reducible apply cQ.bN (.binOp .mul _ _ _ _) none); first | refine ey (O.mul .q .q) ?_)
  | ((with_reducible apply cQ.bN (.binOp .lss _ _ _ _) none); first | refine ey (O.lss .q .q) ?_)
  | ((with_reducible apply cQ.bN (.binOp .leq _ _ _ _) none); first | refine ey (O.leq .q .q) ?_)
  | ((with_reducible apply cQ.bN (.binOp .gtr _ _ _ _) none); first | refine ey (O.gtr .q .q) ?_)
  | ((with_reducible apply cQ.bN (.binOp .geq _ _ _ _) none); first | refine ey (O.geq .q .q) ?_)
  | ((with_reducible apply cQ.bN (.binOp .eql _ _ _ _) none); first | refine ey (O.eql .q .q) ?_ | refine ey (O.qh .q .q) ?_ | refine ey (O.Ec .q .q (by kernel_rfl)) ?_ | refine ey (O.ou) ?_)
  | ((with_reducible apply cQ.bN (.binOp .neq _ _ _ _) none); first | refine ey (O.neq .q .q) ?_ | refine ey (O.oq .q .q) ?_ | refine ey (O.wn) ?_)
  | ((with_reducible apply cQ.bN (.binOp .quo _ _ _ _) none); first | refine aL h λx J h=>ey (O.quo .q .q J) ?_ | refine aL h λx J h=>ey (O.rr .q .q J) ?_)
  | ((with_reducible apply cQ.bN (.binOp .rem _ _ _ _) none); first | refine aL h λx J h=>ey (O.rem .q .q J) ?_ | refine aL h λx J h=>ey (O.ry .q .q J) ?_)
  | ((with_reducible apply cQ.bN (.unOp .not _ _) none); first | refine ey (O.not .q) ?_)
  | ((with_reducible apply cQ.bN (.unOp .neg _ _) none); first | refine ey (O.neg .q) ?_)
  | ((with_reducible apply cQ.bN (.pick _ _ _) none); first | refine ey (O.hS .q (by first | rfl | assumption) .q) ?_ | refine ey (O.dB .q (by first | rfl | assumption) .q) ?_)
  | ((with_reducible apply cQ.bN (.nilCheck _) none); first | refine ey (O.eV .q) ?_ | refine ey (O.xK .q) ?_)
  | ((with_reducible apply cQ.bN (.index _ _ _) none); first | refine aL h λx J h=>ey (O.mn .q .q iX.p J) ?_)
  | ((with_reducible apply cQ.bN (.extract _ _) none); first | refine ey (O.Gn) ?_)
  | ((with_reducible apply cQ.bN (.convert _ _ _) none); first | refine ey (O.Ge) ?_ | refine ey (O.Gd) ?_)
  | ((with_reducible apply cQ.bN (.box _ _) none); first | refine ey (O.F7) ?_)
  | ((with_reducible apply cQ.bN (.alloc _) none); first | refine ey (O.Gc) ?_)
  | ((with_reducible apply cQ.bN (.build _ _) none); first | refine ey (O.Gm) ?_)
  | ((with_reducible apply cQ.bN (.field _ _ _) none); first | refine ey (O.wd) ?_)
  | ((with_reducible apply cQ.bN (.makeSlice _ _ _) none); first | refine aL h λx J h=>ey (O.Gh J) ?_ | refine aL h λx J h=>ey (O.Gp J) ?_)
  | ((with_reducible apply cQ.bN (.buildSlice _ 0 #[]) none); first | refine ey (O.wl) ?_)
  | ((with_reducible apply cQ.bN (.makeFunc _ _ _) none); first | refine ey (O.zM rfl) ?_)
  | ((with_reducible apply cQ.bN (.slice _ _ _ _ _) none); first | refine aL h λx J h=>ey (O.yj .q .q .q iX.p J) ?_ | refine aL h λx J h=>ey (O.FU .q .q iX.p J) ?_ | refine aL h λx J h=>ey (O.FV .q .q iX.p J) ?_ | refine aL h λx J h=>ey (O.Gl J) ?_ | refine aL h λx J h=>ey (O.Gj J) ?_ | refine aL h λx J h=>ey (O.Gk J) ?_)
  | ((with_reducible apply cQ.bN (.call { callee:=.builtin .len,args:=#[_],argTypes:=#[_] }) none); first | refine ey (O.ku .q ep.p) ?_ | refine ey (O.mB .q ep.p) ?_ | refine ey (O.um .q iX.p) ?_)
  | ((with_reducible apply cQ.bN (.call { callee:=.builtin .append,args:=#[_,_],argTypes:=#[_,_] }) none); first | refine aL h λx J h=>ey (O.wp J) ?_ | refine aL h λx J h=>ey (O.Gi J) ?_ | refine aL h λx J h=>ey (O.F8 J) ?_ | refine aL h λx J h=>ey (O.Qs J) ?_)
  | ((with_reducible apply cQ.bN (.call { callee:=.value _,args:=_,argTypes:=_ }) none); first | (refine aL h λx J h=>K3 (cz.eU ?_ (bz.go J)) ?_; · (repeat' first | exact .nil | refine .cd .q ?_)) | (refine aL h λx J h=>K3 (cz.mG rfl ?_ (bz.go J)) ?_; · (repeat' first | exact .nil | refine .s ?_ | refine .c (View.nT rfl rfl) ?_ | refine .c (.row rfl) ?_ | refine .c (View.mO ?_) ?_ | refine .c (View.cl ?_) ?_)) | (refine aL h λx J h=>QL (bz.go J) rfl rfl rfl rfl rfl (by repeat' first | exact .nil | refine .b rfl ?_ | refine .n rfl ?_) ?_))
  | ((with_reducible apply cQ.bN (.buildSlice _ _ _) none); first | refine QJ h ?_ | refine QK rfl ?_ | refine QN rfl ?_ | refine QQ [_,_] rfl ?_ | refine K4 [_] rfl ?_ | refine K4 [_,_] rfl ?_)
  | ((with_reducible apply cQ.bN (.assign _) none); refine QM rfl rfl (by first | exact hU.jS | exact hU.wx | exact hU.D0 | exact hU.Ri | exact hU.mO .q (by repeat' first | exact e6.nil | (apply e6.f) | (apply e6.r rfl) | (apply e6.mO) | (apply e6.b rfl))) ?_))
 | ((with_reducible apply cQ.ts); refine QO rfl rfl (by first | exact hU.gl | exact hU.np | exact hU.s' | exact hU.sp | exact hU.rD | exact hU.PX .q (by repeat' first | exact e6.nil | (apply e6.f) | (apply e6.r rfl) | (apply e6.mO) | (apply e6.b rfl))) ?_)
 | ((with_reducible apply cQ.bN _ (some _)); first
  | refine QP ?_
  | refine QR ?_
  | ((with_reducible apply cQ.bN (.move _) (some _)); first | refine eG (O.aX .q) ?_)
  | ((with_reducible apply cQ.bN (.assign (.const _)) (some _)); first | refine eG (O.az .q) ?_)
  | ((with_reducible apply cQ.bN (.assign (.tmp _)) (some _)); first | refine eG (O.az .Ar) ?_)
  | ((with_reducible apply cQ.bN (.load _ _) (some _)); first | refine eG (O.ic) ?_ | refine eG (O.hr) ?_ | refine eG (O.AF) ?_ | refine eG (O.AG) ?_ | refine eG (O.Gb) ?_ | refine eG (O.Gf) ?_ | refine eG (O.Gq) ?_)
  | ((with_reducible apply cQ.bN (.fieldAddr _ _ _) (some _)); first | refine eG (O.F9) ?_ | refine eG (O.F_) ?_ | refine eG (O.wf) ?_)
  | ((with_reducible apply cQ.bN (.indexAddr _ _ _) (some _)); first | refine aL h λx J h=>eG (O.Ga J) ?_ | refine aL h λx J h=>eG (O.yr J) ?_ | refine eG (O.eY) ?_ | refine eG (O.Gg) ?_)
  | ((with_reducible apply cQ.bN (.binOp .add _ _ _ _) (some _)); first | refine eG (O.add .q .q) ?_ | refine aL h λx J h=>eG (O.cat .q .q J) ?_)
  | ((with_reducible apply cQ.bN (.binOp .sub _ _ _ _) (some _)); first | refine eG (O.sub .q .q) ?_)
  | ((with_reducible apply cQ.bN (.binOp .mul _ _ _ _) (some _)); first | refine eG (O.mul .q .q) ?_)
  | ((with_reducible apply cQ.bN (.binOp .lss _ _ _ _) (some _)); first | refine eG (O.lss .q .q) ?_)
  | ((with_reducible apply cQ.bN (.binOp .leq _ _ _ _) (some _)); first | refine eG (O.leq .q .q) ?_)
  | ((with_reducible apply cQ.bN (.binOp .gtr _ _ _ _) (some _)); first | refine eG (O.gtr .q .q) ?_)
  | ((with_reducible apply cQ.bN (.binOp .geq _ _ _ _) (some _)); first | refine eG (O.geq .q .q) ?_)
  | ((with_reducible apply cQ.bN (.binOp .eql _ _ _ _) (some _)); first | refine eG (O.eql .q .q) ?_ | refine eG (O.qh .q .q) ?_ | refine eG (O.Ec .q .q (by kernel_rfl)) ?_ | refine eG (O.ou) ?_)
  | ((with_reducible apply cQ.bN (.binOp .neq _ _ _ _) (some _)); first | refine eG (O.neq .q .q) ?_ | refine eG (O.oq .q .q) ?_ | refine eG (O.wn) ?_)
  | ((with_reducible apply cQ.bN (.binOp .quo _ _ _ _) (some _)); first | refine aL h λx J h=>eG (O.quo .q .q J) ?_ | refine aL h λx J h=>eG (O.rr .q .q J) ?_)
  | ((with_reducible apply cQ.bN (.binOp .rem _ _ _ _) (some _)); first | refine aL h λx J h=>eG (O.rem .q .q J) ?_ | refine aL h λx J h=>eG (O.ry .q .q J) ?_)
  | ((with_reducible apply cQ.bN (.unOp .not _ _) (some _)); first | refine eG (O.not .q) ?_)
  | ((with_reducible apply cQ.bN (.unOp .neg _ _) (some _)); first | refine eG (O.neg .q) ?_)
  | ((with_reducible apply cQ.bN (.pick _ _ _) (some _)); first | refine eG (O.hS .q (by first | rfl | assumption) .q) ?_ | refine eG (O.dB .q (by first | rfl | assumption) .q) ?_)
  | ((with_reducible apply cQ.bN (.nilCheck _) (some _)); first | refine eG (O.eV .q) ?_ | refine eG (O.xK .q) ?_)
  | ((with_reducible apply cQ.bN (.index _ _ _) (some _)); first | refine aL h λx J h=>eG (O.mn .q .q iX.p J) ?_)
  | ((with_reducible apply cQ.bN (.extract _ _) (some _)); first | refine eG (O.Gn) ?_)
  | ((with_reducible apply cQ.bN (.convert _ _ _) (some _)); first | refine eG (O.Ge) ?_ | refine eG (O.Gd) ?_)
  | ((with_reducible apply cQ.bN (.box _ _) (some _)); first | refine eG (O.F7) ?_)
  | ((with_reducible apply cQ.bN (.alloc _) (some _)); first | refine eG (O.Gc) ?_)
  | ((with_reducible apply cQ.bN (.build _ _) (some _)); first | refine eG (O.Gm) ?_)
  | ((with_reducible apply cQ.bN (.field _ _ _) (some _)); first | refine eG (O.wd) ?_)
  | ((with_reducible apply cQ.bN (.makeSlice _ _ _) (some _)); first | refine aL h λx J h=>eG (O.Gh J) ?_ | refine aL h λx J h=>eG (O.Gp J) ?_)
  | ((with_reducible apply cQ.bN (.buildSlice _ 0 #[]) (some _)); first | refine eG (O.wl) ?_)
  | ((with_reducible apply cQ.bN (.makeFunc _ _ _) (some _)); first | refine eG (O.zM rfl) ?_)
  | ((with_reducible apply cQ.bN (.slice _ _ _ _ _) (some _)); first | refine aL h λx J h=>eG (O.yj .q .q .q iX.p J) ?_ | refine aL h λx J h=>eG (O.FU .q .q iX.p J) ?_ | refine aL h λx J h=>eG (O.FV .q .q iX.p J) ?_ | refine aL h λx J h=>eG (O.Gl J) ?_ | refine aL h λx J h=>eG (O.Gj J) ?_ | refine aL h λx J h=>eG (O.Gk J) ?_)
  | ((with_reducible apply cQ.bN (.call { callee:=.builtin .len,args:=#[_],argTypes:=#[_] }) (some _)); first | refine eG (O.ku .q ep.p) ?_ | refine eG (O.mB .q ep.p) ?_ | refine eG (O.um .q iX.p) ?_)
  | ((with_reducible apply cQ.bN (.call { callee:=.builtin .append,args:=#[_,_],argTypes:=#[_,_] }) (some _)); first | refine aL h λx J h=>eG (O.wp J) ?_ | refine aL h λx J h=>eG (O.Gi J) ?_ | refine aL h λx J h=>eG (O.F8 J) ?_ | refine aL h λx J h=>eG (O.Qs J) ?_)
  | ((with_reducible apply cQ.bN (.call { callee:=.value _,args:=_,argTypes:=_ }) (some _)); first | (refine aL h λx J h=>K2 (cz.eU ?_ (bz.go J)) ?_; · (repeat' first | exact .nil | refine .cd .q ?_)) | (refine aL h λx J h=>K2 (cz.mG rfl ?_ (bz.go J)) ?_; · (repeat' first | exact .nil | refine .s ?_ | refine .c (View.nT rfl rfl) ?_ | refine .c (.row rfl) ?_ | refine .c (View.mO ?_) ?_ | refine .c (View.cl ?_) ?_)))
  | refine He h (λav h=>?_) (λav h=>?_))
 | ((with_reducible apply cQ.nl); first | refine QI rfl rfl ?_ | refine QH h (by (repeat' first | exact .nil | refine .n rfl ?_ | refine .w rfl rfl .pN ?_ | refine .w rfl rfl .pM ?_ | refine .w rfl rfl (j8.obj (by (repeat' first | exact .nil | refine .f ?_ | refine .o ?_ | refine .i ?_))) ?_)))
 | ((with_reducible apply j7.dN); refine cM.dN rfl (by first | exact .w | exact .n | exact .c rfl .w rfl | exact .c rfl .n rfl) rfl rfl ?_)
 | ((with_reducible apply j7.sz); refine cM.sz rfl (by first | exact .w | exact .n | exact .c rfl .w rfl | exact .c rfl .n rfl) rfl rfl ?_)
 | ((with_reducible apply j7.ev); first | refine cM.ev h (λj h=>?_) (λj ah h=>?_) | refine cM.X1 h (λj h=>?_) (λj ah h=>?_))
 | ((with_reducible apply j7.bV); first | refine cM.bV h (λj h=>?_) (λj ah h=>?_) | refine cM.X2 h (λj h=>?_) (λj ah h=>?_))
 | ((with_reducible apply j7.rd); first | refine cM.rd ?_ | refine cM.XX ?_)
 | (with_reducible apply cM.rg)
 | (with_reducible apply cM.bw)
 | ((with_reducible apply j7.bF); first
  | refine cM.WY h (λj h=>?_) (λj ah h=>?_)
  | refine cM.b9 h (λav h=>?_) (λav h=>?_)
  | refine cM.ce h (λav h=>?_) (λav h=>?_)
  | refine cM.Sk ?_
  | refine cM.Sj ?_)
 | ((with_reducible apply j7.Jx); refine cM.Jx h (λj h=>?_) (λj ah h=>?_))
 | (with_reducible apply cM.wE)
 | (with_reducible apply cM.b3)
 | (with_reducible apply cM.c5)
 | (with_reducible apply cM.fb)
 | ((with_reducible apply cM.X_); first
  | (refine cM.Kg h (by (repeat' first | exact .nil | refine .z rfl rfl ?_ ?_ | exact .refl | exact .Cy | exact h4.vw | refine fl.obj ?_ | refine .f ?_ | refine .o ?_ | refine .z ?_)) (by (repeat' first | exact .nil | refine .n rfl ?_ | refine .w rfl rfl .pN ?_ | refine .w rfl rfl .pM ?_ | refine .w rfl rfl (j8.obj (by (repeat' first | exact .nil | refine .f ?_ | refine .o ?_ | refine .i ?_))) ?_)))
  | (cases h; refine cM.hY rfl (by (repeat' first | exact .nil | refine .z rfl rfl ?_ ?_ | exact .refl | exact .Cy | exact h4.vw | refine fl.obj ?_ | refine .f ?_ | refine .o ?_ | refine .z ?_)) ?_; exact er.eT)
  | refine cM.Dh ?_)
 | (with_reducible apply er.bw)
 | (with_reducible apply er.fa)
 | (with_reducible apply er.hI)
 | (with_reducible apply er.b3)
 | (with_reducible apply er.e9)
 | (with_reducible apply er.kH)
 | ((with_reducible apply j7.RO); refine er.GY ?_)
 | ((with_reducible apply j7.XK); first
  | refine er.go h (by (repeat' first | exact .nil | refine .n rfl ?_ | refine .w rfl rfl .pN ?_ | refine .w rfl rfl .pM ?_ | refine .w rfl rfl (j8.obj (by (repeat' first | exact .nil | refine .f ?_ | refine .o ?_ | refine .i ?_))) ?_))
  | refine er.a8 h (by (repeat' first | exact .nil | refine .n rfl ?_ | refine .w rfl rfl .pN ?_ | refine .w rfl rfl .pM ?_ | refine .w rfl rfl (j8.obj (by (repeat' first | exact .nil | refine .f ?_ | refine .o ?_ | refine .i ?_))) ?_))
  | refine er.x2 h (by (repeat' first | exact .nil | refine .n rfl ?_ | refine .w rfl rfl .pN ?_ | refine .w rfl rfl .pM ?_ | refine .w rfl rfl (j8.obj (by (repeat' first | exact .nil | refine .f ?_ | refine .o ?_ | refine .i ?_))) ?_))
  | refine er.jQ h (by (repeat' first | exact .nil | refine .n rfl ?_ | refine .w rfl rfl .pN ?_ | refine .w rfl rfl .pM ?_ | refine .w rfl rfl (j8.obj (by (repeat' first | exact .nil | refine .f ?_ | refine .o ?_ | refine .i ?_))) ?_)))
 | ((with_reducible apply j7.XN); refine er.dF h (by (repeat' first | exact .nil | refine .n rfl ?_ | refine .w rfl rfl .pN ?_ | refine .w rfl rfl .pM ?_ | refine .w rfl rfl (j8.obj (by (repeat' first | exact .nil | refine .f ?_ | refine .o ?_ | refine .i ?_))) ?_)))
 | ((with_reducible apply j7.eO); first
  | refine cM.eO h (λs o h=>?_) (λr ao h=>?_)
  | refine cM.gu h (λs o h=>?_) (λr h=>?_) (λr h=>?_))
 | ((with_reducible apply j7.rg); with_reducible apply cM.rt)
 | ((with_reducible apply j7.XJ); cases h; first | exact er.eT | exact er.fn)
 | refine He h (λav h=>?_) (λav h=>?_)))):p:=h
class yT (P:Program) (N:c6) (Φ:Exit->aM->Prop) (rs:outParam (List ResultVar)) (n:outParam Nat) (outs:outParam (List (Option ab))) (res:outParam ab):Prop where p:∀ g,p4 P N rs n outs res .ret g->Φ .ret g
instance:yT P N (p4 P N rs n outs res) rs n outs res:=⟨λ_ h=>h⟩
instance {Ψ:aM->Prop}{Φ:Exit->aM->Prop} [h:yT P N Φ rs n outs res]:yT P N (o1 Ψ Φ) rs n outs res:=⟨λg bY=>h.p g bY⟩
instance {id:Nat}{Φ:Exit->aM->Prop} [h:yT P N Φ rs n outs res]:yT P N (mb id Φ) rs n outs res:=⟨λg bY=>h.p g bY⟩
class yS {S R gK:Type}(Φ:Exit->aM->Prop) (F:outParam (S->List (Nat × ab))) (id:outParam Nat) (X:outParam (R->List (Nat × ab))) (Y:outParam (gK->List (Nat × ab))) (o:outParam (S ⊕ (R ⊕ gK))):Prop where p:∀ g,k5 F (AW id X Y) o .ret g->Φ .ret g
section
variable {S R gK:Type}{F:S->List (Nat × ab)}{id:Nat}{X:R->List (Nat × ab)}{Y:gK->List (Nat × ab)}{o:S ⊕ (R ⊕ gK)}{Φ:Exit->aM->Prop}
instance:yS (k5 F (AW id X Y) o) F id X Y o:=⟨λ_ h=>h⟩
instance {Ψ:aM->Prop} [h:yS Φ F id X Y o]:yS (o1 Ψ Φ) F id X Y o:=⟨λg bY=>h.p g bY⟩
instance {i:Nat} [h:yS Φ F id X Y o]:yS (mb i Φ) F id X Y o:=⟨λg bY=>h.p g bY⟩
theorem cM.Kg {v:gK} [aZ:yS Φ F id X Y o] (h:some (.inr (.inr v))=some o) (aY:n5 ((Y v).map Prod.fst) (get G) (get (Y v)) (Y v)) (au:Trim true (get (Y v)) (get (Y v)) (Y v)):cM E t P N .ret G Φ:=by
 cases h;exact W.dN _ aY (W.rt λg av=>aZ.p g (aA.jQ au g av))
end
def X0:ResultVar->ab->Option (Nat × ab)
 | .tmp t,x=>some (t,x)
 | .cell s _,.agg cs=>some (s,.obj cs)
 | _,_=>none
def Ke:List ResultVar->List ab->List (Nat × ab)->Option (List (Nat × ab))
 | [],[],T=>some T
 | r::rs,x::xs,T=>match Ke rs xs T,X0 r x with
  | some l,some p=>some (p::l)
  | _,_=>none
 | _,_,_=>none
def JV:List Nat->List (Option ab)->Option (List (Nat × ab))
 | _,[]=>some []
 | j::eg,none::l=>JV eg l
 | j::eg,some x::l=>match JV eg l with
  | some r=>some ((j,x)::r)
  | none=>none
 | _,_=>none
def XZ (rs:List ResultVar) (outs:List (Option ab)) (res:ab):Option (List (Nat × ab)) :=
 match JV num outs with
 | none=>none
 | some T=>match rs,res with
  | [r],x=>Ke [r] [x] T
  | rs,.bW xs=>Ke rs xs T
  | _,_=>none
theorem h4.vw {x y:ab} [aF:cg x] [hv:i' x y]:h4 x y:=.pI aF.bm (hv.v _)
inductive qS {α:Type}(en:bJ α):Option Nat->ab->ab->Prop
 | w {Eb:bJ α}{L:List α} [h:i' (aj Eb L) (ag en L)]:qS en none (aj Eb L) (ag en L)
 | n [h:i' .aJ (ag en ([]:List α))]:qS en none .aJ (ag en ([]:List α))
 | c {i:Nat}{cs cs':List ab}{x y:ab}(J:cs[i]?=some x) (h:qS en none x y) (he:oY cs i [y]=some cs'):qS en (some i) (.obj cs) (.obj cs')
theorem qS.one {α:Type}{en:bJ α}{x y:ab}(h:qS en none x y):h4 x y/\ns y:=by
 cases h with
 | @w Eb L h=>exact ⟨.pI (.own (pT Eb L)) (h.v _),⟨by intro _ _ _ _ _ e; cases e⟩⟩
 | @n h=>exact ⟨.pI .aJ (h.v _),⟨by intro _ _ _ _ _ e; cases e⟩⟩
theorem qS.dN {α:Type}{en:bJ α}{i:Option Nat}{x y:ab}(h:qS en i x y):h4 x y/\ns y:=by
 cases h with
 | w=>exact qS.one .w
 | n=>exact qS.one .n
 | @c i cs cs' x y J h he =>
  obtain ⟨h1,af⟩:=lU he;subst h1;refine ⟨.obj (by simp [e5] at af ⊢; omega) λk a b aP av=>?_,⟨by simp⟩⟩;unfold e5 at av;simp only [List.length_singleton] at af av;by_cases hk:k<i
  ·rw [List.append_assoc,List.getElem?_append_left (by simp; omega),List.getElem?_take,if_pos hk,aP] at av;cases av; exact .refl
  ·by_cases fX:k=i
   ·subst fX;rw [List.append_assoc,List.getElem?_append_right (by rw [List.length_take]; exact Nat.min_le_left _ _),List.length_take,Nat.min_eq_left (by omega),Nat.sub_self] at av;simp at av;subst av;rw [J] at aP; cases aP;exact h.one.1
   ·rw [List.getElem?_append_right (by simp; omega)] at av;simp only [List.length_append,List.length_take,List.length_singleton,List.getElem?_drop] at av;rw [show i+1+(k - (min i cs.length+1))=k by omega,aP] at av;cases av; exact .refl
theorem J8 {g g2:aM}{s:Nat}:∀ {ks:List Nat}{G1:List (Nat × ab)},pick g ks=some G1->(ks.all λk=>![s].elem k)=true->(∀ e∈G1,cU e.2)->n5 [s] g g2 G1
 | [],_,h,_,_=>by cases h; exact .nil
 | k::ks,G1,h,he,aF=>by
  obtain ⟨x,l,J,ak,rfl⟩:=C' h;rw [List.all_cons,Bool.and_eq_true] at he;have:cg x:=⟨aF (k,x) (by simp)⟩;exact .n (by simpa using he.1) J (J8 ak he.2 λe h=>aF e (by simp [h]))
def WX (id:Nat):Code->Bool
 | .seq (.region k _ _) _=>Nat.beq k id
 | .region k _ _=>Nat.beq k id
 | _=>false
theorem cM.dN {α:Type}{en:bJ α}{id s:Nat}{i:Option Nat}{B:Code}{Φ:Exit->aM->Prop}{x y:ab}{ks:List Nat}{ij:List (Nat × ab)}(aC:get G s=some x) (ax:qS en i x y) (hk:sU [s] G=some ks) (au:pick (get G) ks=some ij) (h:cM E t P N B ((s,y)::ij) Φ) (acf:WX id B=true:=by rfl) (dr:(ks.all λk=>![s].elem k)=true:=by rfl) [J:cg x] [aF:iz ij]:cM E (.dN id s i en t) P N B G Φ :=
 have:=ax.dN.2
 W.dN [s] (.z (by simp) aC ax.dN.1 (J8 au dr aF.p)) h
theorem cM.sz {α:Type}{en:bJ α}{s:Nat}{i:Option Nat}{c:Code}{Φ:Exit->aM->Prop}{x y:ab}{ks:List Nat}{ij:List (Nat × ab)}(aC:get G s=some x) (ax:qS en i x y) (hk:sU [s] G=some ks) (au:pick (get G) ks=some ij) (h:cM E t P N (.loop c) ((s,y)::ij) Φ) (dr:(ks.all λk=>![s].elem k)=true:=by rfl) [J:cg x] [aF:iz ij]:cM E (.sz s i en t) P N (.loop c) G Φ :=
 have:=ax.dN.2
 W.dN [s] (.z (by simp) aC ax.dN.1 (J8 au dr aF.p)) h
theorem cM.hY {Φ:Exit->aM->Prop}{G1:List (Nat × ab)} [aZ:yT P N Φ rs n outs res] (c_:XZ rs outs res=some G1) (aY:n5 (G1.map Prod.fst) (get G) (get G1) G1) (au:er E t .ret (p4 P N rs n outs res) G1):cM E t P N .ret G Φ :=
 W.dN _ aY (W.rt λg av=>aZ.p g (au g av))
def Fk:List Nat->Nat->List ab->Option (List (Nat × ab))
 | _,_,[]=>some []
 | [],_,_::_=>none
 | j::eg,k,x::l=>match Fk eg (k+1) l with
  | none=>none
  | some r=>match sX x,Nat.beq j k with
   | some y,true=>some ((j,y)::r)
   | _,_=>none
theorem OW:∀ {l:List ab}{eg:List Nat}{k:Nat}{r:List (Nat × ab)},Fk eg k l=some r->xN k l=r
 | [],eg,k,r,h=>by cases eg <;> (cases h; rfl)
 | x::l,[],k,r,h=>by cases h
 | x::l,j::eg,k,r,h=>by
  unfold Fk at h
  split at h
  ·cases h
  ·rename_i dn ao
   split at h
   ·rename_i y ax ah;cases h; rw [<- OW ao,<- vC ax,Nat.eq_of_beq_eq_true ah]; rfl
   ·cases h
def lits:List Nat:=[0,1,2,3,4,5,6,7,8,9,10,11,12]
theorem bT.bt {f:FuncId}{fn:Func}{c:Code}{args:List ab}{outs:List (Option ab)}{res:ab}(E:List Nat) (t:lu) (aW:P.funcs[f]?=some fn) (av:fn.body=some c) (bc:fn.ntmps=N.size) (aP:Nat.ble args.length N.size=true) (hlen:outs.length=args.length) (c_:Fk lits 0 args=some G) (hw:cM E t P N c G (p4 P N fn.results.toList args.length outs res)):bT P f args outs res:=bT.go aW av bc aP hlen (W.fin (by rw [OW c_]; exact hw))
end
end Go.Own
namespace Go.Proofs
open Tryz
open Go Go.Own
set_option maxRecDepth 100000
set_option maxHeartbeats 4000000
set_option linter.unusedVariables false
instance:lv bQ:=⟨λx=>[(.int .i64 x.At),(.int .i64 x.b8)],λ_=>rfl,λx v hv=>by simp only [List.mem_cons,List.not_mem_nil,or_false] at hv; rcases hv with rfl | rfl <;> rfl⟩
theorem za:jq prog 4=true:=by kernel_rfl
theorem wQ:jq prog 9=true:=by kernel_rfl
theorem oI:jq prog 3=true:=by kernel_rfl
theorem Tr:hM prog 83 0 0 3=true:=by kernel_rfl
theorem MC:hM prog 83 2 2 81=true:=by kernel_rfl
theorem SU:jq prog 81=true:=by kernel_rfl
theorem Kw:fr prog 81 70 4=true:=by kernel_rfl
theorem tt:ik prog 70 4=true:=by kernel_rfl
theorem e':prog.follows .mixedOrders=true:=by kernel_rfl
theorem yl:fr prog 73 72 6=true:=by kernel_rfl
theorem y1:ik prog 72 6=true:=by kernel_rfl
theorem qR:(prog.info? 72).bind (·.zero)=some (.agg #[.string ⟨#[]⟩,.bool false,.int .i64 0,.int .i64 0,.string ⟨#[]⟩,.int .i64 0]):=by kernel_rfl
theorem KC:hl prog 72 6=true:=by kernel_rfl
theorem FX:fr prog 22 83 4=true:=by kernel_rfl
theorem GR:ik prog 83 4=true:=by kernel_rfl
theorem uE:fr prog 23 78 3=true:=by kernel_rfl
theorem LJ:ik prog 78 3=true:=by kernel_rfl
theorem DF:(prog.info? 78).bind (·.zero)=some (.agg #[.string ⟨#[]⟩,.slice none 0 0,.int .i64 0]):=by kernel_rfl
theorem Bm:hM prog 78 1 1 76=true:=by kernel_rfl
theorem Hi:jq prog 76=true:=by kernel_rfl
theorem Dl:fr prog 76 75 6=true:=by kernel_rfl
theorem GQ:ik prog 75 6=true:=by kernel_rfl
theorem Th:hM prog 196 4 8 3=true:=by kernel_rfl
theorem uH:hl prog 3 1=true:=by kernel_rfl
theorem Ti:hM prog 196 5 9 3=true:=by kernel_rfl
theorem Tj:hM prog 196 6 10 9=true:=by kernel_rfl
theorem Qe:hl prog 9 1=true:=by kernel_rfl
theorem yk:fr prog 35 203 2=true:=by kernel_rfl
theorem FY:fr prog 34 128 6=true:=by kernel_rfl
theorem Mw:hM prog 128 2 2 3=true:=by kernel_rfl
theorem Gu:(prog.info? 128).bind (·.zero)=some (.agg #[.string ⟨#[]⟩,.bool false,.int .i64 0,.int .i64 0,.int .i64 0,.string ⟨#[]⟩]):=by kernel_rfl
theorem Kp:kz prog 128 [(0,1),(1,1),(2,1),(3,1),(4,1),(5,1)]=true:=by kernel_rfl
theorem call105:gM prog 105=true:=by kernel_rfl
theorem RE:ik prog 128 6=true:=by kernel_rfl
theorem Zs:ie prog 128 6=true:=by kernel_rfl
theorem rE:fr prog 87 4 1=true:=by kernel_rfl
theorem DD:(prog.info? 203).bind (·.zero)=some (.agg #[.string ⟨#[]⟩,.string ⟨#[]⟩]):=by kernel_rfl
theorem FN:kz prog 203 [(0,1),(1,1)]=true:=by kernel_rfl
theorem Gw:ie prog 203 2=true:=by kernel_rfl
theorem GL:jG prog 35 203 2 32=true:=by kernel_rfl
theorem Mz:hM prog 203 1 1 9=true:=by kernel_rfl
theorem call136:gM prog 136=true:=by kernel_rfl
theorem Mx:hM prog 128 3 3 3=true:=by kernel_rfl
theorem Tg:hM prog 128 4 4 3=true:=by kernel_rfl
theorem Qb:hl prog 4 1=true:=by kernel_rfl
theorem Hs:hM prog 128 5 5 9=true:=by kernel_rfl
theorem FW:fr prog 194 9 1=true:=by kernel_rfl
theorem DE:(prog.info? 67).bind (·.zero)=some (.agg #[.int .i64 0,.slice none 0 0,.int .i64 0,.string ⟨#[]⟩,.slice none 0 0,.int .i64 0]):=by kernel_rfl
theorem Ks:kz prog 67 [(0,1),(1,1),(2,1),(3,1),(4,1),(5,1)]=true:=by kernel_rfl
theorem MB:hM prog 67 1 1 27=true:=by kernel_rfl
theorem uZ:jq prog 27=true:=by kernel_rfl
theorem call138:gM prog 138=true:=by kernel_rfl
theorem mh:ie prog 3 1=true:=by kernel_rfl
theorem gJ:fr prog 27 3 1=true:=by kernel_rfl
theorem oD:jG prog 27 3 1 8=true:=by kernel_rfl
theorem Dq:hl prog 27 1=true:=by kernel_rfl
theorem Tq:hM prog 72 2 5 3=true:=by kernel_rfl
theorem KX:ie prog 67 6=true:=by kernel_rfl
theorem FZ:fr prog 36 67 6=true:=by kernel_rfl
theorem Lz:jG prog 36 67 6 88=true:=by kernel_rfl
theorem YR:hl prog 36 1=true:=by kernel_rfl
theorem LI:ik prog 67 6=true:=by kernel_rfl
theorem tb:(prog.info? 38).bind (·.zero)=some (.agg #[.slice none 0 0,.slice none 0 0,.slice none 0 0,.string ⟨#[]⟩,.string ⟨#[]⟩]):=by kernel_rfl
theorem wy:ik prog 25 4=true:=by kernel_rfl
theorem Kr:kz prog 38 [(0,1),(1,1),(2,1),(3,1),(4,1)]=true:=by kernel_rfl
theorem F2:hl prog 38 5=true:=by kernel_rfl
theorem ja:ik prog 38 5=true:=by kernel_rfl
theorem KV:(prog.info? 4).bind (·.zero)=some (.bool false):=by kernel_rfl
theorem GW:(prog.info? 4).map (·.bytes)=some 1:=by kernel_rfl
theorem Zp:(prog.info? 196).bind (·.zero)=some (.agg #[.slice none 0 0,.slice none 0 0,.slice none 0 0,.string ⟨#[]⟩,.string ⟨#[]⟩,.slice none 0 0,.slice none 0 0,.slice none 0 0,.int .i64 0,.int .i64 0,.string ⟨#[]⟩,.int .i64 0,.int .i64 0]):=by kernel_rfl
theorem Yi:kz prog 196 [(0,5),(5,1),(6,1),(7,1),(8,1),(9,1),(10,1),(11,1),(12,1)]=true:=by kernel_rfl
theorem Gv:(prog.info? 83).bind (·.zero)=some (.agg #[.int .i64 0,.string ⟨#[]⟩,.slice none 0 0,.int .i64 0]):=by kernel_rfl
theorem call104:gM prog 104=true:=by kernel_rfl
theorem AK:(prog.info? 70).bind (·.zero)=some (.agg #[.string ⟨#[]⟩,.bool false,.int .i64 0,.int .i64 0]):=by kernel_rfl
theorem FP:kz prog 70 [(0,1),(1,1),(2,1),(3,1)]=true:=by kernel_rfl
theorem Zw:ie prog 9 1=true:=by kernel_rfl
theorem Rn:jG prog 194 9 1 16=true:=by kernel_rfl
theorem call108:gM prog 108=true:=by kernel_rfl
theorem RG:ik prog 203 2=true:=by kernel_rfl
theorem Tk:hM prog 25 3 3 9=true:=by kernel_rfl
theorem RF:ik prog 143 2=true:=by kernel_rfl
theorem Yq:fr prog 138 143 2=true:=by kernel_rfl
theorem Zt:ie prog 143 2=true:=by kernel_rfl
theorem Zn:(prog.info? 143).bind (·.zero)=some (.agg #[.int .i64 0,.int .i64 0]):=by kernel_rfl
theorem Yh:kz prog 143 [(0,1),(1,1)]=true:=by kernel_rfl
theorem uF:fr prog 91 141 2=true:=by kernel_rfl
theorem My:hM prog 141 0 0 138=true:=by kernel_rfl
theorem Md:jq prog 138=true:=by kernel_rfl
theorem Qx:(prog.info? 141).bind (·.zero)=some (.agg #[.slice none 0 0,.slice none 0 0]):=by kernel_rfl
theorem PL:kz prog 141 [(0,1),(1,1)]=true:=by kernel_rfl
theorem QB:ie prog 141 2=true:=by kernel_rfl
theorem Rr:jG prog 91 141 2 48=true:=by kernel_rfl
theorem Ef:hM prog 141 1 1 139=true:=by kernel_rfl
theorem Me:jq prog 139=true:=by kernel_rfl
theorem Qz:(prog.info? 154).bind (·.zero)=some (.agg #[.int .i64 0,.int .i64 0]):=by kernel_rfl
theorem PN:kz prog 154 [(0,1),(1,1)]=true:=by kernel_rfl
theorem QD:ie prog 154 2=true:=by kernel_rfl
theorem PZ:fr prog 139 154 2=true:=by kernel_rfl
theorem Lw:jG prog 139 154 2 16=true:=by kernel_rfl
theorem Qa:hl prog 139 1=true:=by kernel_rfl
theorem RD:ik prog 122 5=true:=by kernel_rfl
theorem Yr:fr prog 26 27 1=true:=by kernel_rfl
theorem Zu:ie prog 27 1=true:=by kernel_rfl
theorem Ro:jG prog 26 27 1 24=true:=by kernel_rfl
theorem call84:gM prog 84=true:=by kernel_rfl
theorem call85:gM prog 85=true:=by kernel_rfl
theorem call83:gM prog 83=true:=by kernel_rfl
theorem call86:gM prog 86=true:=by kernel_rfl
theorem qQ:(prog.info? 55).bind (·.zero)=some (.agg #[.int .i64 0,.int .i64 0]):=by kernel_rfl
theorem Qy:(prog.info? 151).bind (·.zero)=some (.agg #[.int .i64 0,.int .i64 0,.int .i64 0,.int .i64 0]):=by kernel_rfl
theorem PM:kz prog 151 [(0,1),(1,1),(2,1),(3,1)]=true:=by kernel_rfl
theorem QC:ie prog 151 4=true:=by kernel_rfl
theorem P2:fr prog 95 151 4=true:=by kernel_rfl
theorem GN:jG prog 95 151 4 32=true:=by kernel_rfl
theorem uC:kz prog 55 [(0,1),(1,1)]=true:=by kernel_rfl
theorem yn:hl prog 55 2=true:=by kernel_rfl
theorem sw:ik prog 55 2=true:=by kernel_rfl
theorem yv:(prog.info? 41).bind (·.zero)=some (.agg #[.slice none 0 0,.slice none 0 0]):=by kernel_rfl
theorem P1:fr prog 64 55 2=true:=by kernel_rfl
theorem RM:(prog.info? 55).map (·.bytes)=some 16:=by kernel_rfl
theorem KU:(prog.info? 3).bind (·.zero)=some (.int .i64 0):=by kernel_rfl
theorem GV:(prog.info? 3).map (·.bytes)=some 8:=by kernel_rfl
theorem Zv:ie prog 64 1=true:=by kernel_rfl
theorem Ys:fr prog 39 64 1=true:=by kernel_rfl
theorem Rp:jG prog 39 64 1 24=true:=by kernel_rfl
theorem YS:hl prog 39 1=true:=by kernel_rfl
theorem n9:ik prog 41 2=true:=by kernel_rfl
theorem Qc:hl prog 41 2=true:=by kernel_rfl
theorem Yj:kz prog 41 [(0,1),(1,1)]=true:=by kernel_rfl
theorem PY:fr prog 104 47 1=true:=by kernel_rfl
theorem Zo:(prog.info? 178).bind (·.zero)=some (.agg (List.replicate 1000 (Value.bool false)).toArray):=by kernel_rfl
theorem P0:fr prog 47 111 2=true:=by kernel_rfl
theorem GP:ik prog 111 2=true:=by kernel_rfl
theorem KT:(prog.info? 111).bind (·.zero)=some (.agg #[.int .i64 0,.int .i64 0]):=by kernel_rfl
theorem YP:hl prog 111 2=true:=by kernel_rfl
theorem LD:yZ prog 178 4 1000 1=true:=by kernel_rfl
theorem Bf:jq prog 104=true:=by kernel_rfl
theorem call92:gM prog 92=true:=by kernel_rfl
theorem uM:(prog.info? 46).bind (·.zero)=some (.agg #[.slice none 0 0,.slice none 0 0,.slice none 0 0]):=by kernel_rfl
theorem FO:kz prog 46 [(0,1),(1,1),(2,1)]=true:=by kernel_rfl
theorem F3:hl prog 46 3=true:=by kernel_rfl
theorem wz:ik prog 46 3=true:=by kernel_rfl
theorem call70:gM prog 70=true:=by kernel_rfl
theorem call71:gM prog 71=true:=by kernel_rfl
theorem MA:hM prog 46 1 1 27=true:=by kernel_rfl
theorem Tf:hM prog 111 1 1 3=true:=by kernel_rfl
theorem RI:ik prog 62 2=true:=by kernel_rfl
theorem Zq:(prog.info? 62).bind (·.zero)=some (.agg #[.int .i64 0,.slice none 0 0]):=by kernel_rfl
theorem QE:ie prog 47 1=true:=by kernel_rfl
theorem Lv:jG prog 104 47 1 24=true:=by kernel_rfl
theorem Y':prog.underlying 3=some (.int .i64):=by kernel_rfl
noncomputable abbrev sV:AX prog 3 Int:=Q1 Y'
theorem Zx:(prog.info? 3).bind (·.zero)=some (.int .i64 0):=by kernel_rfl
noncomputable abbrev sW:AY prog 3 Int:=Q2 Zx
theorem F6:prog.underlying 157=some (.map 3 3):=by kernel_rfl
theorem Yg:kz prog 111 [(0,1),(1,1)]=true:=by kernel_rfl
theorem Zr:ie prog 111 2=true:=by kernel_rfl
theorem Rq:jG prog 47 111 2 16=true:=by kernel_rfl
theorem call56:gM prog 56=true:=by kernel_rfl
theorem call57:gM prog 57=true:=by kernel_rfl
theorem AJ:(prog.info? 49).bind (·.zero)=some (.agg #[.slice none 0 0,.slice none 0 0,.slice none 0 0,.slice none 0 0,.slice none 0 0,.slice none 0 0,.slice none 0 0,.slice none 0 0,.slice none 0 0,.slice none 0 0,.slice none 0 0]):=by kernel_rfl
theorem qb:ik prog 49 11=true:=by kernel_rfl
theorem YT:hl prog 49 11=true:=by kernel_rfl
theorem vZ:kz prog 72 [(0,4),(4,1),(5,1)]=true:=by kernel_rfl
theorem yx:ie prog 72 6=true:=by kernel_rfl
theorem AL:(prog.info? 75).bind (·.zero)=some (.agg #[.slice none 0 0,.string ⟨#[]⟩,.bool false,.int .i64 0,.int .i64 0,.int .i64 0]):=by kernel_rfl
theorem FQ:kz prog 75 [(0,1),(1,4),(5,1)]=true:=by kernel_rfl
theorem Gx:ie prog 75 6=true:=by kernel_rfl
theorem Kt:kz prog 78 [(0,1),(1,1),(2,1)]=true:=by kernel_rfl
theorem KZ:ie prog 78 3=true:=by kernel_rfl
theorem yu:(prog.info? 25).bind (·.zero)=some (.agg #[.string ⟨#[]⟩,.slice none 0 0,.slice none 0 0,.string ⟨#[]⟩]):=by kernel_rfl
theorem Kq:kz prog 25 [(0,1),(1,1),(2,1),(3,1)]=true:=by kernel_rfl
theorem call11:gM prog 11=true:=by kernel_rfl
theorem call13:gM prog 13=true:=by kernel_rfl
theorem call21:gM prog 21=true:=by kernel_rfl
theorem call16:gM prog 16=true:=by kernel_rfl
theorem wU:tD prog 55 [.i .i64,.i .i64]=true:=by kernel_rfl
theorem call20:gM prog 20=true:=by kernel_rfl
theorem PO:kz prog 83 [(0,1),(1,1),(2,1),(3,1)]=true:=by kernel_rfl
theorem KY:ie prog 70 4=true:=by kernel_rfl
theorem LA:jG prog 81 70 4 40=true:=by kernel_rfl
theorem YU:hl prog 81 1=true:=by kernel_rfl
theorem QF:ie prog 83 4=true:=by kernel_rfl
theorem Lx:jG prog 22 83 4 56=true:=by kernel_rfl
theorem D1:jG prog 73 72 6 64=true:=by kernel_rfl
theorem GM:jG prog 76 75 6 72=true:=by kernel_rfl
theorem Qd:hl prog 76 1=true:=by kernel_rfl
theorem Ly:jG prog 23 78 3 48=true:=by kernel_rfl
theorem YQ:hl prog 23 1=true:=by kernel_rfl
theorem RH:ik prog 29 5=true:=by kernel_rfl
theorem Yz {g:FuncId}{caps:List ab} [dq caps] (aO:gM prog g=true) {l r:List ca}{fU:ca->ca->Option Int}(h:pV fU l=some r) (aa:∀ a b v,fU a b=some v->bT prog g (.agg (bQ.cells a)::.agg (bQ.cells b)::caps) (none::none::caps.map λ_=>none) (ae v)):bT prog 56 [aj bQ l,.cW (.func g) [] caps] [some (aj bQ r),none] (.bW []):=bT.YD (e:=bQ) Tryz.YE Tryz.isAgg111 Tryz.sizeOf111 aO h aa
instance:iX prog 9:={}
instance:c' prog 70 1 1 4:={}
instance:fO prog 4:={}
instance:c' prog 70 0 0 9:={}
instance:fO prog 9:={}
instance:c' prog 70 2 2 3:={}
instance:fO prog 3:={}
instance:c' prog 83 0 0 3:={}
instance:c' prog 83 2 2 81:={}
instance:fO prog 81:={}
instance:ep prog 81 70 4:={}
instance:c' prog 83 1 1 9:={}
instance:kk prog 70 4:={}
instance:AS prog:={}
instance:c' prog 75 0 0 73:={}
instance:fO prog 73:={}
instance:ep prog 73 72 6:={}
instance:kk prog 72 6:={}
instance:h3 prog 72 (.agg #[.string ⟨#[]⟩,.bool false,.int .i64 0,.int .i64 0,.string ⟨#[]⟩,.int .i64 0]):={}
instance:c' prog 72 1 4 9:={}
instance:c' prog 72 0 0 70:={}
instance:c' prog 75 1 1 70:={}
instance:c' prog 25 0 0 9:={}
instance:c' prog 25 1 1 22:={}
instance:fO prog 22:={}
instance:ep prog 22 83 4:={}
instance:kk prog 83 4:={}
instance:c' prog 25 2 2 23:={}
instance:fO prog 23:={}
instance:ep prog 23 78 3:={}
instance:kk prog 78 3:={}
instance:h3 prog 78 (.agg #[.string ⟨#[]⟩,.slice none 0 0,.int .i64 0]):={}
instance:c' prog 78 0 0 9:={}
instance:c' prog 78 1 1 76:={}
instance:fO prog 76:={}
instance:ep prog 76 75 6:={}
instance:kk prog 75 6:={}
instance:c' prog 196 4 8 3:={}
instance:c' prog 196 5 9 3:={}
instance:c' prog 196 6 10 9:={}
instance:c' prog 196 2 6 35:={}
instance:fO prog 35:={}
instance:ep prog 35 203 2:={}
instance:c' prog 203 0 0 9:={}
instance:c' prog 196 0 0 38:={}
instance:c' prog 38 0 0 34:={}
instance:fO prog 34:={}
instance:ep prog 34 128 6:={}
instance:c' prog 128 0 0 9:={}
instance:c' prog 128 1 1 4:={}
instance:c' prog 128 2 2 3:={}
instance:h3 prog 128 (.agg #[.string ⟨#[]⟩,.bool false,.int .i64 0,.int .i64 0,.int .i64 0,.string ⟨#[]⟩]):={}
instance:kl prog 128 [(0,1),(1,1),(2,1),(3,1),(4,1),(5,1)]:={}
instance:AT prog 5 .u8:={}
instance:AT prog 3 .i64:={}
instance:c' prog 70 3 3 3:={}
instance:kk prog 128 6:={}
instance:jk prog 34 128 6 64:={}
instance:c' prog 196 1 5 87:={}
instance:fO prog 87:={}
instance:ep prog 87 4 1:={}
instance:jk prog 87 4 1 1:={}
instance:h3 prog 203 (.agg #[.string ⟨#[]⟩,.string ⟨#[]⟩]):={}
instance:kl prog 203 [(0,1),(1,1)]:={}
instance:jk prog 35 203 2 32:={}
instance:c' prog 203 1 1 9:={}
instance:c' prog 128 3 3 3:={}
instance:c' prog 196 7 11 3:={}
instance:c' prog 128 4 4 3:={}
instance:c' prog 128 5 5 9:={}
instance:c' prog 196 3 7 194:={}
instance:fO prog 194:={}
instance:ep prog 194 9 1:={}
instance:c' prog 75 2 5 3:={}
instance:h3 prog 67 (.agg #[.int .i64 0,.slice none 0 0,.int .i64 0,.string ⟨#[]⟩,.slice none 0 0,.int .i64 0]):={}
instance:kl prog 67 [(0,1),(1,1),(2,1),(3,1),(4,1),(5,1)]:={}
instance:c' prog 67 1 1 27:={}
instance:fO prog 27:={}
instance:ep prog 27 3 1:={}
instance:jk prog 27 3 1 8:={}
instance:c' prog 72 2 5 3:={}
instance:c' prog 67 3 3 9:={}
instance:c' prog 67 5 5 3:={}
instance:c' prog 196 8 12 3:={}
instance:c' prog 38 2 2 36:={}
instance:fO prog 36:={}
instance:ep prog 36 67 6:={}
instance:jk prog 36 67 6 88:={}
instance:c' prog 67 2 2 3:={}
instance:c' prog 67 4 4 27:={}
instance:kk prog 67 6:={}
instance:AT prog 192 .u64:={}
instance:ep prog 114 5 1:={}
instance:h3 prog 38 (.agg #[.slice none 0 0,.slice none 0 0,.slice none 0 0,.string ⟨#[]⟩,.string ⟨#[]⟩]):={}
instance:kk prog 25 4:={}
instance:kl prog 38 [(0,1),(1,1),(2,1),(3,1),(4,1)]:={}
instance:kk prog 38 5:={}
instance:h3 prog 4 (.bool false):={}
instance:yF prog 4 1:={}
instance:h3 prog 196 (.agg #[.slice none 0 0,.slice none 0 0,.slice none 0 0,.string ⟨#[]⟩,.string ⟨#[]⟩,.slice none 0 0,.slice none 0 0,.slice none 0 0,.int .i64 0,.int .i64 0,.string ⟨#[]⟩,.int .i64 0,.int .i64 0]):={}
instance:kl prog 196 [(0,5),(5,1),(6,1),(7,1),(8,1),(9,1),(10,1),(11,1),(12,1)]:={}
instance:h3 prog 83 (.agg #[.int .i64 0,.string ⟨#[]⟩,.slice none 0 0,.int .i64 0]):={}
instance:h3 prog 70 (.agg #[.string ⟨#[]⟩,.bool false,.int .i64 0,.int .i64 0]):={}
instance:kl prog 70 [(0,1),(1,1),(2,1),(3,1)]:={}
instance:c' prog 78 2 2 3:={}
instance:jk prog 194 9 1 16:={}
instance:c' prog 38 1 1 35:={}
instance:kk prog 203 2:={}
instance:c' prog 25 3 3 9:={}
instance:c' prog 38 3 3 9:={}
instance:c' prog 38 4 4 9:={}
instance:c' prog 143 0 0 3:={}
instance:c' prog 143 1 1 3:={}
instance:kk prog 143 2:={}
instance:ep prog 138 143 2:={}
instance:jk prog 138 143 2 16:={}
instance:c' prog 67 0 0 3:={}
instance:h3 prog 143 (.agg #[.int .i64 0,.int .i64 0]):={}
instance:kl prog 143 [(0,1),(1,1)]:={}
instance:ep prog 91 141 2:={}
instance:c' prog 141 0 0 138:={}
instance:fO prog 138:={}
instance:h3 prog 141 (.agg #[.slice none 0 0,.slice none 0 0]):={}
instance:kl prog 141 [(0,1),(1,1)]:={}
instance:jk prog 91 141 2 48:={}
instance:c' prog 141 1 1 139:={}
instance:fO prog 139:={}
instance:h3 prog 154 (.agg #[.int .i64 0,.int .i64 0]):={}
instance:kl prog 154 [(0,1),(1,1)]:={}
instance:ep prog 139 154 2:={}
instance:jk prog 139 154 2 16:={}
instance:c' prog 154 0 0 3:={}
instance:c' prog 154 1 1 3:={}
instance:c' prog 122 4 4 27:={}
instance:c' prog 122 2 2 3:={}
instance:c' prog 122 3 3 4:={}
instance:h3 prog 122 (.agg #[.int .i64 0,.int .i64 0,.int .i64 0,.bool false,.slice none 0 0]):={}
instance:kl prog 122 [(0,1),(1,1),(2,1),(3,1),(4,1)]:={}
instance:ep prog 119 145 3:={}
instance:c' prog 145 0 0 3:={}
instance:c' prog 145 2 2 27:={}
instance:c' prog 145 1 1 3:={}
instance:kk prog 122 5:={}
instance:ep prog 92 122 5:={}
instance:jk prog 92 122 5 56:={}
instance:ep prog 26 27 1:={}
instance:h3 prog 174 (.agg #[.int .i64 0,.int .i64 0]):={}
instance:kl prog 174 [(0,1),(1,1)]:={}
instance:ep prog 171 174 2:={}
instance:jk prog 171 174 2 16:={}
instance:c' prog 174 0 0 3:={}
instance:c' prog 174 1 1 3:={}
instance:jk prog 26 27 1 24:={}
instance:h3 prog 27 (.slice none 0 0):={}
instance:yF prog 27 24:={}
instance:h3 prog 145 (.agg #[.int .i64 0,.int .i64 0,.slice none 0 0]):={}
instance:kl prog 145 [(0,1),(1,1),(2,1)]:={}
instance:kk prog 145 3:={}
instance:jk prog 119 145 3 40:={}
instance:h3 prog 55 (.agg #[.int .i64 0,.int .i64 0]):={}
instance:c' prog 122 0 0 3:={}
instance:c' prog 122 1 1 3:={}
instance:h3 prog 151 (.agg #[.int .i64 0,.int .i64 0,.int .i64 0,.int .i64 0]):={}
instance:kl prog 151 [(0,1),(1,1),(2,1),(3,1)]:={}
instance:ep prog 95 151 4:={}
instance:jk prog 95 151 4 32:={}
instance:kl prog 55 [(0,1),(1,1)]:={}
instance:kk prog 55 2:={}
instance:h3 prog 41 (.agg #[.slice none 0 0,.slice none 0 0]):={}
instance:ep prog 64 55 2:={}
instance:yF prog 55 16:={}
instance:h3 prog 3 (.int .i64 0):={}
instance:yF prog 3 8:={}
instance:c' prog 41 0 0 39:={}
instance:fO prog 39:={}
instance:ep prog 39 64 1:={}
instance:jk prog 39 64 1 24:={}
instance:c' prog 41 1 1 26:={}
instance:fO prog 26:={}
instance:kk prog 41 2:={}
instance:kl prog 41 [(0,1),(1,1)]:={}
instance:ep prog 104 47 1:={}
instance:fO prog 47:={}
instance:h3 prog 178 (.agg (List.replicate 1000 (Value.bool false)).toArray):={}
instance:ep prog 47 111 2:={}
instance:kk prog 111 2:={}
instance:h3 prog 111 (.agg #[.int .i64 0,.int .i64 0]):={}
instance:c' prog 111 0 0 3:={}
instance:fO prog 104:={}
instance:h3 prog 46 (.agg #[.slice none 0 0,.slice none 0 0,.slice none 0 0]):={}
instance:kl prog 46 [(0,1),(1,1),(2,1)]:={}
instance:kk prog 46 3:={}
instance:c' prog 46 2 2 27:={}
instance:c' prog 46 0 0 27:={}
instance:c' prog 46 1 1 27:={}
instance:c' prog 111 1 1 3:={}
instance:ep prog 52 62 2:={}
instance:kk prog 62 2:={}
instance:h3 prog 62 (.agg #[.int .i64 0,.slice none 0 0]):={}
instance:c' prog 62 0 0 3:={}
instance:c' prog 62 1 1 47:={}
instance:jk prog 104 47 1 24:={}
instance:h3 prog 3 (.int .i64 0):={}
instance:c' prog 55 0 0 3:={}
instance:c' prog 55 1 1 3:={}
instance:fO prog 64:={}
instance:kl prog 62 [(0,1),(1,1)]:={}
instance:kl prog 111 [(0,1),(1,1)]:={}
instance:jk prog 47 111 2 16:={}
instance:jk prog 52 62 2 32:={}
instance:h3 prog 49 (.agg #[.slice none 0 0,.slice none 0 0,.slice none 0 0,.slice none 0 0,.slice none 0 0,.slice none 0 0,.slice none 0 0,.slice none 0 0,.slice none 0 0,.slice none 0 0,.slice none 0 0]):={}
instance:c' prog 49 0 0 27:={}
instance:c' prog 49 1 1 46:={}
instance:c' prog 49 2 4 27:={}
instance:c' prog 49 3 5 46:={}
instance:c' prog 49 4 8 27:={}
instance:c' prog 49 5 9 27:={}
instance:c' prog 49 6 10 47:={}
instance:kk prog 49 11:={}
instance:kl prog 72 [(0,4),(4,1),(5,1)]:={}
instance:h3 prog 75 (.agg #[.slice none 0 0,.string ⟨#[]⟩,.bool false,.int .i64 0,.int .i64 0,.int .i64 0]):={}
instance:kl prog 75 [(0,1),(1,4),(5,1)]:={}
instance:kl prog 78 [(0,1),(1,1),(2,1)]:={}
instance:h3 prog 25 (.agg #[.string ⟨#[]⟩,.slice none 0 0,.slice none 0 0,.string ⟨#[]⟩]):={}
instance:kl prog 25 [(0,1),(1,1),(2,1),(3,1)]:={}
instance:c' prog 83 3 3 3:={}
instance:kl prog 83 [(0,1),(1,1),(2,1),(3,1)]:={}
instance:jk prog 81 70 4 40:={}
instance:jk prog 22 83 4 56:={}
instance:jk prog 73 72 6 64:={}
instance:jk prog 76 75 6 72:={}
instance:jk prog 23 78 3 48:={}
instance:c' prog 29 0 0 3:={}
instance:c' prog 29 2 2 27:={}
instance:c' prog 29 1 1 26:={}
instance:c' prog 29 3 3 27:={}
instance:c' prog 29 4 4 4:={}
instance:kk prog 29 5:={}
instance:ep prog 33 25 4:={}
instance:ht prog 22 Decl dA:={}
instance:ht prog 23 fh gN:={}
instance:ht prog 26 (List Int) (bo ai):={}
instance:ht prog 27 Int ai:={}
instance:ht prog 33 Source hh:={}
instance:ht prog 34 bX bZ:={}
instance:ht prog 35 fE bH:={}
instance:ht prog 36 Prod cD:={}
instance:ht prog 39 (List Act) (bo eb):={}
instance:ht prog 47 ca bQ:={}
instance:ht prog 52 Row jI:={}
instance:ht prog 64 Act eb:={}
instance:ht prog 73 Part e7:={}
instance:ht prog 76 Alt e2:={}
instance:ht prog 81 Sym dE:={}
instance:ht prog 87 Bool cq:={}
instance:ht prog 92 Cell iE:={}
instance:ht prog 95 fg e3:={}
instance:ht prog 104 (List ca) (bo bQ):={}
instance:ht prog 114 Int qg:={}
instance:ht prog 119 k3 rU:={}
instance:ht prog 138 Item fV:={}
instance:ht prog 139 Move lD:={}
instance:ht prog 171 Trans qf:={}
instance:ht prog 194 ByteArray dx:={}
instance aac {a0:Int}{r:Bool}:bz prog 149 (CM a0=some r) [q2 a0] [none] (a_ r):=⟨λh=>by unfold CM at h; exact bT.bt (N:=⟨21,[]⟩) [0,2] (.ev 1 [2] (λ(kJ:Bool)=>[(2,a_ kJ)]) .e) func149 rfl rfl rfl rfl rfl dH⟩
instance aae {a0:Int}{r:Bool}:bz prog 150 (CN a0=some r) [q2 a0] [none] (a_ r):=⟨λh=>by unfold CN at h; exact bT.bt (N:=⟨9,[]⟩) [0,2] (.ev 1 [2] (λ(c2:Bool)=>[(2,a_ c2)]) .e) func150 rfl rfl rfl rfl rfl dH⟩
instance Z_ {a0:ByteArray}{aE:Int}{r:Int}:bz prog 144 (CL a0 aE=some r) [ay a0,ae aE] [none,none] (ae r):=⟨λh=>by unfold CL at h; exact bT.bt (N:=⟨43,[]⟩) [0,1,4,5,39] (.eO (λ(s1:Int)=>[(5,ae s1)]) [0,1,5] 0 (λ(x2:Int)=>[(5,ae x2)]) [5] (.ev 2 [0,1,5,39] (λ(jU:Bool)=>[(39,a_ jU)]) .e) .e) func144 rfl rfl rfl rfl rfl dH⟩
instance Z3 {a0:ByteArray}{r:Bool}:bz prog 134 (vL a0=some r) [ay a0] [none] (a_ r):=⟨λh=>by unfold vL at h; exact bT.bt (N:=⟨18,[]⟩) [0,2] (.ev 1 [2] (λ(c4:Bool)=>[(2,a_ c4)]) .e) func134 rfl rfl rfl rfl rfl dH⟩
instance aab {a0:Int}{r:Int × Bool}:bz prog 148 (z7 a0=some r) [q2 a0] [none] (.bW [q2 r.1,a_ r.2]):=⟨λh=>by unfold z7 at h; exact bT.bt (N:=⟨21,[]⟩) [0,2,3,4,5,7,9,11] (.b .e (.b .e (.b .e (.dF [0,11] (λ(Jr:Bool)=>[(11,a_ Jr)]) .e (.b .e (.ev 11 [2,3] (λ(tz:Int × Bool)=>[(2,q2 tz.1),(3,a_ tz.2)]) .e)))))) func148 rfl rfl rfl rfl rfl dH⟩
instance Z9 {a0:Sym}{aE:Bool}{a2:Bool}{r:Bool}:bz prog 143 (ur a0 aE a2=some r) [.agg (dE.cells a0),a_ aE,a_ a2] [none,none,none] (a_ r):=⟨λh=>by unfold ur at h; exact bT.bt (N:=⟨53,[]⟩) [1,2,3,6,8,10,23] (.b (.ev 2 [3,23] (λ(c4:Bool)=>[(23,a_ c4)]) .e) (.ev 6 [6] (λ(jU:Bool)=>[(6,a_ jU)]) .e)) func143 rfl rfl rfl rfl rfl dH⟩
instance Z2 {a0:Decl}{r:Bool}:bz prog 133 (xU a0=some r) [.agg (dA.cells a0)] [none] (a_ r):=⟨λh=>by unfold xU at h; exact bT.bt (N:=⟨75,[]⟩) [1,2,3,54,59,74] (.ev 1 [1,54] (λ(tv:Bool)=>[(54,a_ tv)]) (.b .e (.gu (λ(lT:Int)=>[(3,ae lT)]) [1,3] 0 (λ(eR:Unit)=>[]) [] (λ(dP:Bool)=>[(2,a_ dP)]) [2] (.b (.rd 6 [[],[0],[],[0,1,2],[0,1,2,3],[],[5],[5,6],[],[8],[8,9],aH 0 11 [],aH 0 12 []] .e) .e) .e .e))) func133 rfl rfl rfl rfl rfl dH⟩
instance Z' {a0:Sym}{r:Bool}:bz prog 145 (uu a0=some r) [.agg (dE.cells a0)] [none] (a_ r):=⟨λh=>by unfold uu at h; exact bT.bt (N:=⟨16,[]⟩) [1,2] (.ev 1 [2] (λ(jV:Bool)=>[(2,a_ jV)]) .e) func145 rfl rfl rfl rfl rfl dH⟩
instance aag {a0:ByteArray}{aE:Int}{a2:ByteArray}{r:Bool}:bz prog 152 (xW a0 aE a2=some r) [ay a0,ae aE,ay a2] [none,none,none] (a_ r):=⟨λh=>by unfold xW at h; exact bT.bt (N:=⟨25,[]⟩) [0,1,2,6] (.ev 1 [6] (λ(jV:Bool)=>[(6,a_ jV)]) .e) func152 rfl rfl rfl rfl rfl dH⟩
instance aaf {a0:ByteArray}{aE:Int}{r:Int}:bz prog 151 (CO a0 aE=some r) [ay a0,ae aE] [none,none] (ae r):=⟨λh=>by unfold CO at h; exact bT.bt (N:=⟨114,[]⟩) [0,1,4,5,6,7,8,9,31,40,46,58,59,69,75,78,92,96,105,110] (.ev 1 [0,1,9] (λ(c4:Bool)=>[(9,a_ c4)]) (.b (.gu (λ(dc:Int)=>[(5,ae dc)]) [0,1,5] 1 (λ(b6:Unit)=>[]) [] (λ(cw:Int)=>[(4,ae cw)]) [4] (.ev 3 [0,1,5,31] (λ(wI:Bool)=>[(31,a_ wI)]) (.b (.rd 5 [[],[],[0,1],[],[],[3,4],aH 0 6 []] (.b .e (.b (.ev 9 [0,1,5,58] (λ(q6:Bool)=>[(58,a_ q6)]) .e) .e))) .e)) .e .e) (.b (.gu (λ(kg:Int)=>[(6,ae kg)]) [0,6] 3 (λ(ea:Unit)=>[]) [] (λ(cY:Int)=>[(4,ae cY)]) [4] .e .e .e) (.b (.eO (λ(dZ:Int)=>[(7,ae dZ)]) [0,7] 5 (λ(eo:Int)=>[(7,ae eo)]) [7] (.ev 21 [0,7,92] (λ(wL:Bool)=>[(92,a_ wL)]) .e) .e) (.b (.gu (λ(Az:Int)=>[(8,ae Az)]) [0,8] 7 (λ(p0:Unit)=>[]) [] (λ(ov:Int)=>[(4,ae ov)]) [4] .e .e .e) .e))))) func151 rfl rfl rfl rfl rfl dH⟩
instance aaa {a0:ByteArray}{aE:Int}{r:Int}:bz prog 146 (z6 a0 aE=some r) [ay a0,ae aE] [none,none] (ae r):=⟨λh=>by unfold z6 at h; exact bT.bt (N:=⟨53,[]⟩) [0,1,4,5,6,7,21,26,31,34,39,45,51] (.ev 1 [0,1,21] (λ(c4:Bool)=>[(21,a_ c4)]) (.b .e (.gu (λ(dc:Int × Int)=>[(5,ae dc.1),(6,ae dc.2)]) [0,5,6] 0 (λ(b6:Unit)=>[]) [] (λ(cw:Int)=>[(4,ae cw)]) [4] (.b (.b .e (.b .e (.dF [0,5,6] (λ(oj:Int)=>[(5,ae oj)]) .e (.dF [0,5,6] (λ(E2:Int)=>[(5,ae E2)]) .e .e)))) .e) .e .e))) func146 rfl rfl rfl rfl rfl dH⟩
instance Z4 {a0:Alt}{r:Bool}:bz prog 135 (xV a0=some r) [.agg (e2.cells a0)] [none] (a_ r):=⟨λh=>by unfold xV at h; exact bT.bt (N:=⟨54,[]⟩) [1,2,3,4,9,45] (.gu (λ(s1:Int)=>[(3,ae s1)]) [1,3] 0 (λ(a7:Unit)=>[]) [1] (λ(bq:Bool)=>[(2,a_ bq)]) [2] (.b (.bV 5 [[],[0],[0,1],[0,1,2],[0,1,2,3],aH 0 5 [],aH 0 6 [],aH 0 7 [],aH 0 8 [],aH 0 9 [],aH 0 10 [],aH 0 11 [],aH 0 12 [],aH 0 13 [],aH 0 14 [],aH 0 15 [],aH 0 16 [],aH 0 17 [],aH 0 18 [],aH 0 19 [],aH 0 20 [],aH 0 21 [],aH 0 19 [],aH 0 19 [22],aH 0 19 [22,23],aH 0 25 [],aH 0 26 [],aH 0 27 [],aH 0 28 []] [1,3,45] (λ(ny:Bool)=>[(45,a_ ny)]) .e) .e) (.ev 7 [2] (λ(G8:Bool)=>[(2,a_ G8)]) .e) .e) func135 rfl rfl rfl rfl rfl dH⟩
instance ZJ {a0:Source}{r:Bool}:bz prog 103 (xS a0=some r) [.agg (hh.cells a0)] [none] (a_ r):=⟨λh=>by unfold xS at h; exact bT.bt (N:=⟨77,[]⟩) [1,2,3,4,5,6,7,13,22,27,36,41,58,63,72] (.gu (λ(s1:Int)=>[(3,ae s1)]) [1,3] 0 (λ(a7:Unit)=>[]) [1] (λ(bq:Bool)=>[(2,a_ bq)]) [2] .e (.gu (λ(dw:Int)=>[(4,ae dw)]) [1,4] 2 (λ(bI:Unit)=>[]) [1] (λ(cp:Bool)=>[(2,a_ cp)]) [2] .e (.gu (λ(nn:Int)=>[(5,ae nn)]) [1,5] 4 (λ(dM:Unit)=>[]) [1] (λ(eR:Bool)=>[(2,a_ eR)]) [2] (.b (.ev 15 [1,5,6,58] (λ(qc:Bool)=>[(58,a_ qc)]) (.b .e (.gu (λ(oX:Int)=>[(7,ae oX)]) [1,5,6,7] 6 (λ(cY:Unit)=>[]) [1,5] (λ(ei:Bool)=>[(2,a_ ei)]) [2] .e .e .e))) .e) .e .e) .e) .e) func103 rfl rfl rfl rfl rfl dH⟩
instance ZL {a0:dv}{aE:Int}{a2:ByteArray}{r:dv}:bz prog 105 (nU a0 aE a2=some r) [.obj (dR.cells a0),ae aE,ay a2] [some (.obj [aj bZ r.aG.ba,aj bH r.aG.b1,aj cD r.aG.bh,ay r.aG.cC,ay r.aG.cK,aj cq r.cu,aj bH r.cL,aj dx r.cb,ae r.cZ,ae r.dp,ay r.dm,ae r.cr,ae r.b_]),none,none] (.bW []):=⟨λh=>by unfold nU at h; exact bT.bt (N:=⟨22,[0]⟩) [0,1,2,10] (.dF [0] (λ(jt:dv)=>[(0,.obj (dR.cells jt))]) .e .e) func105 rfl rfl rfl rfl rfl dH⟩
instance ZP {a0:dv}{aE:ByteArray}{r:Int}:bz prog 109 (zW a0 aE=some r) [.cH ([ag bZ a0.aG.ba,ag bH a0.aG.b1,ag cD a0.aG.bh,ay a0.aG.cC,ay a0.aG.cK,ag cq a0.cu,ag bH a0.cL,ag dx a0.cb,ae a0.cZ,ae a0.dp,ay a0.dm,ae a0.cr,ae a0.b_]),ay aE] [none,none] (ae r):=⟨λh=>by unfold zW at h; exact bT.bt (N:=⟨26,[]⟩) [0,1,4,5,12,24] (.gu (λ(s1:Int)=>[(5,ae s1)]) [0,1,5] 0 (λ(a7:Unit)=>[]) [] (λ(bq:Int)=>[(4,ae bq)]) [4] .e .e .e) func109 rfl rfl rfl rfl rfl dH⟩
instance ZM {a0:dv}{aE:Sym}{r:Int}:bz prog 106 (uq a0 aE=some r) [.cH ([ag bZ a0.aG.ba,ag bH a0.aG.b1,ag cD a0.aG.bh,ay a0.aG.cC,ay a0.aG.cK,ag cq a0.cu,ag bH a0.cL,ag dx a0.cb,ae a0.cZ,ae a0.dp,ay a0.dm,ae a0.cr,ae a0.b_]),.agg (dE.cells aE)] [none,none] (ae r):=⟨λh=>by unfold uq at h; exact bT.bt (N:=⟨47,[]⟩) [0,3,4,5,13,45] (.gu (λ(s1:Int)=>[(5,ae s1)]) [0,3,5] 0 (λ(a7:Unit)=>[]) [] (λ(bq:Int)=>[(4,ae bq)]) [4] (.b (.bV 4 [[],[0],[0,1],[0,1,2],[0,1,2,3],[],aH 0 6 [],aH 0 7 [],aH 0 8 [],[],[9],aH 0 11 [],aH 0 12 [],aH 0 13 [],aH 0 14 [],aH 0 15 [],aH 0 16 [],aH 0 17 [],aH 0 13 [],aH 0 19 [],aH 0 20 [],aH 0 21 [],aH 0 13 [],aH 0 13 [22],aH 0 24 [],aH 0 25 [],aH 0 26 [],aH 0 27 [],aH 0 28 [],aH 0 29 []] [0,3,5,45] (λ(il:Bool)=>[(45,a_ il)]) .e) .e) .e .e) func106 rfl rfl rfl rfl rfl dH⟩
instance Z6 {a0:dv}{aE:Int}{r:Int}:bz prog 137 (vN a0 aE=some r) [.cH ([ag bZ a0.aG.ba,ag bH a0.aG.b1,ag cD a0.aG.bh,ay a0.aG.cC,ay a0.aG.cK,ag cq a0.cu,ag bH a0.cL,ag dx a0.cb,ae a0.cZ,ae a0.dp,ay a0.dm,ae a0.cr,ae a0.b_]),ae aE] [none,none] (ae r):=⟨λh=>by unfold vN at h; exact bT.bt (N:=⟨28,[]⟩) [0,1,4,5,13,26] (.gu (λ(s1:Int)=>[(5,ae s1)]) [0,1,5] 0 (λ(a7:Unit)=>[]) [] (λ(bq:Int)=>[(4,ae bq)]) [4] .e .e .e) func137 rfl rfl rfl rfl rfl dH⟩
instance Z5 {a0:dv}{aE:Sym}{r:Int × dv}:bz prog 136 (vM a0 aE=some r) [.obj (dR.cells a0),.agg (dE.cells aE)] [some (.obj [aj bZ r.2.aG.ba,aj bH r.2.aG.b1,aj cD r.2.aG.bh,ay r.2.aG.cC,ay r.2.aG.cK,aj cq r.2.cu,aj bH r.2.cL,aj dx r.2.cb,ae r.2.cZ,ae r.2.dp,ay r.2.dm,ae r.2.cr,ae r.2.b_]),none] (ae r.1):=⟨λh=>by unfold vM at h; exact bT.bt (N:=⟨66,[0]⟩) [0,3,4,5,6,11,19,29] (.b .e (.dF [0,3,6] (λ(iw:dv × Int)=>[(0,.obj (dR.cells iw.1)),(3006,ae iw.2)]) (.b (.dF [0,3,6] (λ(kS:dv)=>[(0,.obj (dR.cells kS))]) .e .e) .e) (.rd 9 [[],[],[1],[1,2],[1,2,3],[1,2,3,4],[],[6],aH 1 7 [],aH 0 9 [],aH 0 10 [],aH 0 11 [],aH 0 12 []] (.rd 10 [[],[],[1],[1,2],[1,2,3],[],[5],[5,6],aH 1 7 [],aH 0 9 [],aH 0 10 [],aH 0 11 []] .e)))) func136 rfl rfl rfl rfl rfl dH⟩
theorem Hh (v:Value) (a0:dv) (aE:Int) (a2:ByteArray) (r:dv) (h:nU a0 aE a2=some r):bT prog 105 [.obj [.lit v,aj bH a0.aG.b1,aj cD a0.aG.bh,ay a0.aG.cC,ay a0.aG.cK,aj cq a0.cu,aj bH a0.cL,aj dx a0.cb,ae a0.cZ,ae a0.dp,ay a0.dm,ae a0.cr,ae a0.b_],ae aE,ay a2] [some (.obj [.lit v,aj bH r.aG.b1,aj cD r.aG.bh,ay r.aG.cC,ay r.aG.cK,aj cq r.cu,aj bH r.cL,aj dx r.cb,ae r.cZ,ae r.dp,ay r.dm,ae r.cr,ae r.b_]),none,none] (.bW []):=by
 unfold nU at h;refine bT.go (N:=⟨22,[0]⟩) func105 q q q q (W.fin ?_);refine W.st [(0,.obj [.lit v,aj bH a0.aG.b1,aj cD a0.aG.bh,ay a0.aG.cC,ay a0.aG.cK,aj cq a0.cu,aj bH a0.cL,aj dx a0.cb,ae a0.cZ,ae a0.dp,ay a0.dm,ae a0.cr,ae a0.b_]),(1,ae aE),(2,ay a2)] ?_;refine W.ct [0,1,2,10] ?_;refine aL h λjt ah h=>W.fZ [0] [(0,.obj [.lit v,aj bH jt.aG.b1,aj cD jt.aG.bh,ay jt.aG.cC,ay jt.aG.cK,aj cq jt.cu,aj bH jt.cL,aj dx jt.cb,ae jt.cZ,ae jt.dp,ay jt.dm,ae jt.cr,ae jt.b_])] ?_ ?_
 ·clear h; have h:=ah; clear ah;refine W.b9 h q (λgG h=>?_) (λgG h=>?_)
  ·refine W.bV [0] (al (O.aX .z4)<|al (O.aX .z4)<|al (O.aX .z4)<|b2 q<|b2 q<|al (O.eV .z5)<|al O.y2<|ar.jh (G2:=[(0,_),(12,.ptr ⟨0,[]⟩ 0),(13,.ptr ⟨0,[]⟩ 0),(14,_),(15,_)]) (cs2:=[.lit v,aj bH a0.aG.b1,aj cD a0.aG.bh,ay a0.aG.cC,ay a0.aG.cK,aj cq a0.cu,aj bH a0.cL,aj dx a0.cb,ae 3,ae a0.dp,ay a0.dm,ae a0.cr,ae a0.b_]) q (.ptr q) (.k q) q uH q q q q (.b q (.p q q q q q q (.p q q q q q q (.n q q (.n q q .nil)))))<|al (O.eV .z5)<|al O.y2<|ar.jh (G2:=[(0,_),(13,.ptr ⟨0,[]⟩ 0),(15,_)]) (cs2:=[.lit v,aj bH a0.aG.b1,aj cD a0.aG.bh,ay a0.aG.cC,ay a0.aG.cK,aj cq a0.cu,aj bH a0.cL,aj dx a0.cb,ae 3,ae aE,ay a0.dm,ae a0.cr,ae a0.b_]) q (.ptr q) (.lit q) q uH q q q q (.b q (.p q q q q q q (.n q q .nil)))<|al (O.eV .z5)<|al O.y2<|ar.eD (bl.np [0])<|bM q) ?_;exact aV h ▸ aA.d_
  ·exact W.c5<|aV h ▸ aA.d_
 exact aV h ▸ aA.fin (Fin.ro .nil q (CC (by kernel_rfl)) (.aq q q (.no (.no .nil))) q (.inl q))
theorem Sq (a0:dv) (aE:Decl) (a2:Sym) (r:dv) (h:vI a0 aE a2=some r):bT prog 104 [.obj (dR.cells a0),.agg (dA.cells aE),.agg (dE.cells a2)] [some (.obj [aj bZ r.aG.ba,aj bH r.aG.b1,aj cD r.aG.bh,ay r.aG.cC,ay r.aG.cK,aj cq r.cu,aj bH r.cL,aj dx r.cb,ae r.cZ,ae r.dp,ay r.dm,ae r.cr,ae r.b_]),none,none] (.bW []):=by
 unfold vI at h;refine bT.go (N:=⟨152,[0]⟩) func104 q q q q (W.fin ?_);refine W.st [(0,.obj (dR.cells a0)),(1,.agg (dA.cells aE)),(2,.agg (dE.cells a2))] ?_;refine W.cN [0,4,5] (al (O.box (.da q q) q)<|al (O.box (.da q q) q)<|bM q) ?_;refine W.bC<|W.ct [0,4,5,11] ?_;refine W.b9 h q (λnA h=>?_) (λnA h=>?_)
 ·refine aL h λx2 iv h=>W.cN [0,4,5,6] (al (O.aX .z4)<|al O.bx<|al O.ee<|gp (cz.pX (ys:=[.ptr ⟨0,[]⟩ 0,ay a2.Name]) q (.c (View.nT q q) (.s .nil)) (bz.go iv))<|ar.bt) ?_;refine W.bC<|W.ct [0,4,5,6,17] ?_;refine aL h λiw ah h=>W.fZ [0] [(0,.obj (dR.cells iw))] ?_ ?_
  ·clear h; have h:=ah; clear ah;refine W.b9 h q (λoM h=>?_) (λoM h=>?_)
   ·refine aL h λbS qy h=>W.rd [[],[],[1],[1,2],[1,2,3],[],[5],[],[7],[5,6,7,8],aH 5 5 [],aH 1 10 [],aH 0 12 [],aH 0 13 [],aH 0 14 []] [(0,_)] e' (by kernel_rfl) (aD 0 (O.aX .z4)<|aD 1 (O.aX .z4)<|aD 2 (O.eV .z5)<|aD 3 O.y2<|aD 4 (O.c8 (y:=.a6 bH.z ⟨0,[6]⟩ a0.cL.length))<|aD 5 O.bx<|aD 6 O.ee<|aD 7 O.bx<|aD 8 O.ee<|aD 9 (O.ej (cs:=[ay a2.Name,ay aE.Tag]) FN DD q q q)<|bA.fk 10 (x:=ag bH [(⟨a2.Name,aE.Tag⟩:fE)]) (O.dg (ys:=[.agg [ay a2.Name,ay aE.Tag]]) bH [(⟨a2.Name,aE.Tag⟩:fE)] yk q q q q q q Gw q q) q q q q .none<|aD 11 (O.ap (en:=bH) (r:=bS) .dk q .z2 .i GL q qy)<|aD 12 (O.eV .z5)<|aD 13 O.y2<|bA.hy 14 (bl.sp [0])<|bA.fin q q q (.n q .nil)) ?_;exact aV h ▸ aA.d_
   ·refine W.bC<|aL h λbB ma h=>W.rd [[],[0],[0,1],[0,1,2],[],aH 0 5 [],aH 0 6 [],aH 0 7 [],[],[8],aH 0 10 []] [(0,_),(5,_),(42,_)] e' (by kernel_rfl) (aD 0 (O.aX .z4)<|aD 1 (O.eV .z5)<|aD 2 O.y2<|aD 3 (O.c8 (y:=.a6 bH.z ⟨0,[6]⟩ a0.cL.length))<|aD 4 (O.aX (.lit q))<|aD 5 (O.gh (en:=bH) q .dk .bn yk ma q)<|aD 6 (O.j' (en:=bH) q .z5 Mz ma q q)<|aD 7 (O.iQ (en:=bH) (x':=ay bB.Tag) q .z5 wQ ma q q)<|aD 8 O.bx<|aD 9 O.ee<|aD 10 (O.oq .bn .bn)<|bA.fin q q q (o2 q q q)) ?_;refine aA.bw<|aL h λkS ah h=>W.fZ [0] [(0,.obj (dR.cells kS))] ?_ ?_
    ·clear h; have h:=ah; clear ah;refine W.b9 h q (λtQ h=>?_) (λtQ h=>?_)
     ·refine aL h λcw pG h=>W.bV [0] (al (O.aX .z4)<|al O.bx<|al O.ee<|al O.bx<|al O.ee<|ar.kL q (bl.call q q (hJ.nh (G2:=[]) (A:=[]) (ys:=[.ptr ⟨0,[]⟩ 0,ae a2.At,ay a2.Name]) (args:=[.obj (dR.cells a0),ae a2.At,ay a2.Name]) (cs':=dR.cells cw) (k0:=0) q q q q (.b q (.n q (.n q .nil))) q (bz.go pG) call105 .nil q q .nil .nil q))<|bM q) ?_;exact aV h ▸ aA.d_
     ·exact W.c5<|aV h ▸ aA.d_
    exact aV h ▸ aA.d_
  exact aA.bw<|W.rt<|aA.hI<|aV h ▸ aA.fin (Fin.ro .nil q (CC (by kernel_rfl)) (.aq q q (.no (.no .nil))) q (.inr q))
 ·refine W.c5<|aA.bw<|aL h λbI qt h=>W.cN [0,4,5,7] (al (O.aX .z4)<|al (O.ed (cs':=dE.cells a2) q .z4 tt q q)<|ar.kL q (bl.call q q (hJ.nh (G2:=[(4,.obj (dA.cells aE)),(5,.obj (dE.cells a2))]) (A:=[]) (ys:=[.ptr ⟨0,[]⟩ 0,.agg (dE.cells a2)]) (args:=[.obj (dR.cells a0),.agg (dE.cells a2)]) (cs':=dR.cells bI.2) (k0:=0) q q q q (.b q (.n q .nil)) q (bz.go qt) call136 (kY q q) q q (kY q q) .nil q))<|ar.bt) ?_;refine aL h λcp lM h=>W.rs [(0,_),(4,_),(5,_),(7,_),(8,.ptr ⟨0,[0]⟩ (bI.1.toNat * bZ.z+0))] (al (O.aX .z4)<|al (O.eV .z5)<|al O.y2<|al O.y2<|al (O.c8 (y:=.a6 bZ.z ⟨0,[0]⟩ bI.2.aG.ba.length))<|b2 q<|al (O.gh (en:=bZ) q .dk .bn FY lM q)<|al (O.az .z5)<|gT (.n q (.n q (.n q (.n q (.r q (di.el (en:=bZ) q lM q) jx .nil)))))) ?_;refine W.bC<|W.rs [(0,_),(4,_),(5,_),(7,_),(8,.ptr ⟨0,[0]⟩ (bI.1.toNat * bZ.z+0)),(61,_)] (al O.bx<|al O.ee<|al (O.neq .bn .cJ)<|gT (.n q (.n q (.n q (.n q (.r q (di.el (en:=bZ) q lM q) jx (.n q .nil))))))) ?_;refine aL h λeN ah h=>W.fZ [0,4,5,7,8] [(0,.obj (dR.cells eN))] ?_ ?_
  ·clear h; have h:=ah; clear ah;refine W.b9 h q (λoK h=>?_) (λoK h=>?_)
   ·refine W.bC<|W.rs [(0,_),(4,_),(5,_),(7,_),(8,.ptr ⟨0,[0]⟩ (bI.1.toNat * bZ.z+0)),(66,_)] (al (O.aX .z5)<|al (O.eV .z5)<|al (O.j' (en:=bZ) q .z5 Mx lM q q)<|al (O.iQ (en:=bZ) (x':=ae cp.Level) q .z5 oI lM q q)<|al (O.gtr .bn .cJ)<|gT (.n q (.n q (.n q (.n q (.r q (di.el (en:=bZ) q lM q) jx (.n q .nil))))))) ?_;refine aL h λde ah h=>W.fZ [0,4,5,7,8] [(0,.obj (dR.cells de))] ?_ ?_
    ·clear h; have h:=ah; clear ah;refine W.b9 h q (λkc h=>?_) (λkc h=>?_)
     ·refine aL h λcc pD h=>W.rx [(0,_),(4,_),(5,_),(7,_),(8,.ptr ⟨0,[0]⟩ (bI.1.toNat * bZ.z+0))] (al (O.aX .z4)<|al O.bx<|al O.ee<|al O.bx<|al O.ee<|ar.kL (G2:=[(8,.ptr ⟨0,[0]⟩ (bI.1.toNat * bZ.z+0))]++[(72,.bW []),(0,.obj [aj bZ bI.2.aG.ba,aj bH cc.aG.b1,aj cD cc.aG.bh,ay cc.aG.cC,ay cc.aG.cK,aj cq cc.cu,aj bH cc.cL,aj dx cc.cb,ae cc.cZ,ae cc.dp,ay cc.dm,ae cc.cr,ae cc.b_]),(4,.obj (dA.cells aE)),(5,.obj (dE.cells a2)),(7,ae bI.1)]) q (bl.eT (r:=0) (k0:=0) (y:=aj bZ bI.2.aG.ba) (cs5:=[aj bZ bI.2.aG.ba,aj bH cc.aG.b1,aj cD cc.aG.bh,ay cc.aG.cC,ay cc.aG.cK,aj cq cc.cu,aj bH cc.cL,aj dx cc.cb,ae cc.cZ,ae cc.dp,ay cc.dm,ae cc.cr,ae cc.b_]) (G1:=λv=>[(0,.obj [.lit v,aj bH bI.2.aG.b1,aj cD bI.2.aG.bh,ay bI.2.aG.cC,ay bI.2.aG.cK,aj cq bI.2.cu,aj bH bI.2.cL,aj dx bI.2.cb,ae bI.2.cZ,ae bI.2.dp,ay bI.2.dm,ae bI.2.cr,ae bI.2.b_]),(4,.obj (dA.cells aE)),(5,.obj (dE.cells a2)),(7,ae bI.1),(67,.ptr ⟨0,[]⟩ 0),(69,ae a2.At),(71,ay a2.Name)]) (G4:=λv=>[(72,.bW []),(0,.obj [.lit v,aj bH cc.aG.b1,aj cD cc.aG.bh,ay cc.aG.cC,ay cc.aG.cK,aj cq cc.cu,aj bH cc.cL,aj dx cc.cb,ae cc.cZ,ae cc.dp,ay cc.dm,ae cc.cr,ae cc.b_]),(4,.obj (dA.cells aE)),(5,.obj (dE.cells a2)),(7,ae bI.1)]) (c4:=λv=>[.lit v,aj bH cc.aG.b1,aj cD cc.aG.bh,ay cc.aG.cC,ay cc.aG.cK,aj cq cc.cu,aj bH cc.cL,aj dx cc.cb,ae cc.cZ,ae cc.dp,ay cc.dm,ae cc.cr,ae cc.b_]) (G5:=[(72,.bW []),(0,.obj [aj bZ bI.2.aG.ba,aj bH cc.aG.b1,aj cD cc.aG.bh,ay cc.aG.cC,ay cc.aG.cK,aj cq cc.cu,aj bH cc.cL,aj dx cc.cb,ae cc.cZ,ae cc.dp,ay cc.dm,ae cc.cr,ae cc.b_]),(4,.obj (dA.cells aE)),(5,.obj (dE.cells a2)),(7,ae bI.1)]) (A:=[(8,.ptr ⟨0,[0]⟩ (bI.1.toNat * bZ.z+0))]) q q q q (λv=>(.b q (.n q q (.n q q (.n q q (.p q q q q q q (.n q q (.n q q .nil)))))))) (λv=>hJ.nh (G2:=[(4,.obj (dA.cells aE)),(5,.obj (dE.cells a2)),(7,ae bI.1)]) (A:=[]) (ys:=[.ptr ⟨0,[]⟩ 0,ae a2.At,ay a2.Name]) (args:=[.obj [.lit v,aj bH bI.2.aG.b1,aj cD bI.2.aG.bh,ay bI.2.aG.cC,ay bI.2.aG.cK,aj cq bI.2.cu,aj bH bI.2.cL,aj dx bI.2.cb,ae bI.2.cZ,ae bI.2.dp,ay bI.2.dm,ae bI.2.cr,ae bI.2.b_],ae a2.At,ay a2.Name]) (cs':=[.lit v,aj bH cc.aG.b1,aj cD cc.aG.bh,ay cc.aG.cC,ay cc.aG.cK,aj cq cc.cu,aj bH cc.cL,aj dx cc.cb,ae cc.cZ,ae cc.dp,ay cc.dm,ae cc.cr,ae cc.b_]) (k0:=0) q q q q (.b q (.n q (.n q .nil))) q (Hh v bI.2 a2.At a2.Name _ pD) call105 (o2 q q q) q q (o2 q q q) .nil q) (λv=>q) (λv=>q) (λv=>q) (λv=>(.n q q (.b q (.n q q (.n q q (.n q q .nil)))))) q (.c (en:=bZ) (L:=bI.2.aG.ba) q q lM q q q .nil))<|gT (.n q (.n q (.n q (.n q (.r q (di.el (en:=bZ) q lM q) jx .nil)))))) ?_;exact aV h ▸ aA.dF (.n q (.n q (.n q (.n q (.r q (di.el (en:=bZ) q lM q) jx .nil)))))
     ·exact W.c5<|aV h ▸ aA.dF (.n q (.n q (.n q (.n q (.r q (di.el (en:=bZ) q lM q) jx .nil)))))
    refine aL h λbU l_ h=>aA.bw<|W.rd [[],[],[],[2],[2,3],[2,3,4],[],[6],[6,7],[0,2,3,4,5],[0,2,3,4,5,9],[0,2,3,4,5,9,10],aH 0 12 [],aH 0 13 [],aH 0 14 []] [(0,_),(4,_),(5,_),(7,_),(8,.ptr ⟨0,[0]⟩ (bI.1.toNat * bZ.z+0))] e' (by kernel_rfl) (aD 0 (O.aX .z5)<|aD 1 (O.aX .z5)<|aD 2 (O.aX .z4)<|aD 3 (O.eV .z5)<|aD 4 O.y2<|aD 5 O.ee<|aD 6 O.bx<|aD 7 O.ee<|aD 8 (O.sub .bn .cJ)<|aD 9 (O.eV .z5)<|aD 10 (O.j' (en:=bZ) q .z5 Mx l_ q q)<|bA.ej 11 (G2:=[(0,.obj [aj bZ (de.aG.ba.set bI.1.toNat (⟨bU.Name,bU.Lit,bU.bR,de.cr,bU.fu,bU.Tag⟩:bX)),aj bH de.aG.b1,aj cD de.aG.bh,ay de.aG.cC,ay de.aG.cK,aj cq de.cu,aj bH de.cL,aj dx de.cb,ae de.cZ,ae de.dp,ay de.dm,ae de.cr,ae de.b_]),(4,.obj (dA.cells aE)),(5,.obj (dE.cells a2)),(7,ae bI.1),(8,.ptr ⟨0,[0]⟩ (bI.1.toNat * bZ.z+0))]) (U:=[(8,81,some (ae (aK (aE.Kind - 1)))),(7,80,some (ae aE.Kind)),(6,79,some (.ptr ⟨4,[]⟩ 0)),(1,74,some (.ptr ⟨0,[0]⟩ (bI.1.toNat * bZ.z+0)))]) (iy.v (bl.j_ (bl.s_ (en:=bZ) (y2:=(⟨bU.Name,bU.Lit,bU.bR,de.cr,bU.fu,bU.Tag⟩:bX)) (cs':=[ae de.cr]) (x2:=.obj [aj bZ (de.aG.ba.set bI.1.toNat (⟨bU.Name,bU.Lit,bU.bR,de.cr,bU.fu,bU.Tag⟩:bX)),aj bH de.aG.b1,aj cD de.aG.bh,ay de.aG.cC,ay de.aG.cK,aj cq de.cu,aj bH de.cL,aj dx de.cb,ae de.cZ,ae de.dp,ay de.dm,ae de.cr,ae de.b_]) q q (.ptr q) (.lit q) q l_ uH q q q q q q q (.b q (.n q q (.n q q (.n q q (.e q q (.mk (en:=bZ) q l_ q (oh l_) q) q .nil)))))))) q q (by kernel_rfl) q q q (.c (.inr (.inl ⟨_,q⟩)) q q q q q (fv.wanted .none) (O.sub .bn .cJ) (.c (.inr (.inl ⟨_,q⟩)) q q q q q (fv.wanted .none) (O.oT q .z5 oI q) (.c (.inr (.inr (.inr (.inl ⟨4,_,_,q,q,hX q,by simp,_,q,hX q⟩)))) q q q q q (fv.wanted .none) (O.kr q .z4 Tr q) (.c (.inr (.inr (.inl ⟨8,_,_,q,q,q,by simp⟩))) q q q q q (fv.wanted .none) (O.aX .z5) .nil)))) (by kernel_rfl)<|aD 12 (O.eV .z5)<|aD 13 (O.j' (en:=bZ) q .z5 Tg (oh l_) q q)<|bA.hy 14 (G2:=[(0,.obj [aj bZ ((de.aG.ba.set bI.1.toNat (⟨bU.Name,bU.Lit,bU.bR,de.cr,bU.fu,bU.Tag⟩:bX)).set bI.1.toNat (⟨(⟨bU.Name,bU.Lit,bU.bR,de.cr,bU.fu,bU.Tag⟩:bX).Name,(⟨bU.Name,bU.Lit,bU.bR,de.cr,bU.fu,bU.Tag⟩:bX).Lit,(⟨bU.Name,bU.Lit,bU.bR,de.cr,bU.fu,bU.Tag⟩:bX).bR,(⟨bU.Name,bU.Lit,bU.bR,de.cr,bU.fu,bU.Tag⟩:bX).Level,aK (aE.Kind - 1),(⟨bU.Name,bU.Lit,bU.bR,de.cr,bU.fu,bU.Tag⟩:bX).Tag⟩:bX)),aj bH de.aG.b1,aj cD de.aG.bh,ay de.aG.cC,ay de.aG.cK,aj cq de.cu,aj bH de.cL,aj dx de.cb,ae de.cZ,ae de.dp,ay de.dm,ae de.cr,ae de.b_]),(4,.obj (dA.cells aE)),(5,.obj (dE.cells a2)),(7,ae bI.1),(8,.ptr ⟨0,[0]⟩ (bI.1.toNat * bZ.z+0))]) (bl.s_ (en:=bZ) (y2:=(⟨(⟨bU.Name,bU.Lit,bU.bR,de.cr,bU.fu,bU.Tag⟩:bX).Name,(⟨bU.Name,bU.Lit,bU.bR,de.cr,bU.fu,bU.Tag⟩:bX).Lit,(⟨bU.Name,bU.Lit,bU.bR,de.cr,bU.fu,bU.Tag⟩:bX).bR,(⟨bU.Name,bU.Lit,bU.bR,de.cr,bU.fu,bU.Tag⟩:bX).Level,aK (aE.Kind - 1),(⟨bU.Name,bU.Lit,bU.bR,de.cr,bU.fu,bU.Tag⟩:bX).Tag⟩:bX)) (cs':=[ae (aK (aE.Kind - 1))]) (x2:=.obj [aj bZ ((de.aG.ba.set bI.1.toNat (⟨bU.Name,bU.Lit,bU.bR,de.cr,bU.fu,bU.Tag⟩:bX)).set bI.1.toNat (⟨(⟨bU.Name,bU.Lit,bU.bR,de.cr,bU.fu,bU.Tag⟩:bX).Name,(⟨bU.Name,bU.Lit,bU.bR,de.cr,bU.fu,bU.Tag⟩:bX).Lit,(⟨bU.Name,bU.Lit,bU.bR,de.cr,bU.fu,bU.Tag⟩:bX).bR,(⟨bU.Name,bU.Lit,bU.bR,de.cr,bU.fu,bU.Tag⟩:bX).Level,aK (aE.Kind - 1),(⟨bU.Name,bU.Lit,bU.bR,de.cr,bU.fu,bU.Tag⟩:bX).Tag⟩:bX)),aj bH de.aG.b1,aj cD de.aG.bh,ay de.aG.cC,ay de.aG.cK,aj cq de.cu,aj bH de.cL,aj dx de.cb,ae de.cZ,ae de.dp,ay de.dm,ae de.cr,ae de.b_]) q q (.ptr q) (.lit q) q (oh l_) uH q q q q q q q (.b q (.n q q (.n q q (.n q q (.e q q (.mk (en:=bZ) q (oh l_) q (oh (oh l_)) q) q .nil))))))<|bA.fin q q q (.n q (.n q (.n q (.n q (.r q (di.el (en:=bZ) q (oh (oh l_)) q) jx .nil)))))) ?_;exact aV h ▸ aA.dF (.n q (.n q (.n q (.n q (.r q (di.el (en:=bZ) q (oh (oh l_)) q) jx .nil)))))
   ·exact W.c5<|aV h ▸ aA.dF (.n q (.n q (.n q (.n q (.r q (di.el (en:=bZ) q lM q) jx .nil)))))
  refine aL h λdM l' h=>aA.bw<|W.bC<|W.rs [(0,_),(4,_),(5,_),(7,_),(8,.ptr ⟨0,[0]⟩ (bI.1.toNat * bZ.z+0)),(88,_)] (al O.bx<|al O.ee<|al (O.gtr .bn .cJ)<|gT (.n q (.n q (.n q (.n q (.r q (di.el (en:=bZ) q l' q) jx (.n q .nil))))))) ?_;refine aL h λe_ ah h=>W.fZ [0,4,5,8] [(0,.obj (dR.cells e_))] ?_ ?_
  ·clear h; have h:=ah; clear ah;refine W.b9 h q (λoL h=>?_) (λoL h=>?_)
   ·refine W.bC<|aL h λG9 ah h=>W.kW [0,4,5,7,8,106] [(106,a_ G9)] ?_ ?_
    ·refine b2 q<|al (O.eql .bn .cJ)<|al (O.aX (.lit q)) ?_;rcases fG ah with ⟨lH,ah⟩ | ⟨lH,ah⟩
     ·exact aV ah ▸ (gC lH<|gC lH<|gC lH<|gC lH<|gC lH<|gC lH<|gC lH<|al (O.hS .bn lH .cJ)<|b2 q<|gC q<|gC q<|gC q<|gC q<|gC q<|al (O.hS .bn q .cJ)<|gT (.n q (.n q (.n q (.n q (.r q (di.el (en:=bZ) q l' q) jx (.n q .nil)))))))
     ·refine cm lH (O.aX .z4)<|cm lH (O.eV .z5)<|cm lH O.y2<|cm lH (O.c8 (y:=.a6 cq.z ⟨0,[5]⟩ eN.cu.length))<|cm lH (O.aX (.lit q)) ?_;refine aL ah λfI vr ah=>cm lH (O.gh (en:=cq) q .dk .bn rE vr q)<|cm lH (O.iQ (en:=cq) (x':=a_ fI) q .z5 za vr q q)<|al (O.dB .bn lH .bn)<|al (O.aX (.lit q)) ?_;rcases fG ah with ⟨lI,ah⟩ | ⟨lI,ah⟩
      ·exact aV ah ▸ (gC lI<|gC lI<|gC lI<|gC lI<|gC lI<|al (O.hS .bn lI .cJ)<|gT (.n q (.n q (.n q (.n q (.r q (di.el (en:=bZ) q l' q) jx (.n q .nil)))))))
      ·refine cm lI (O.aX .z4)<|cm lI O.bx<|cm lI O.ee ?_;exact aL ah λfL qu ah=>aV ah ▸ (ar.c (cz.pX (ys:=[.ptr ⟨0,[]⟩ 0,ae a2.bR]) q (.c (View.nT q q) (.s .nil)) (bz.go qu)) q q (.ft q q lI)<|cm lI (O.geq .bn .cJ)<|al (O.dB .bn lI .bn)<|gT (.n q (.n q (.n q (.n q (.r q (di.el (en:=bZ) q l' q) jx (.n q .nil)))))))
    refine aL h λdY ah h=>W.fZ [0,4,5,7,8] [(0,.obj (dR.cells dY))] ?_ ?_
    ·clear h; have h:=ah; clear ah;refine W.b9 h q (λUD h=>?_) (λUD h=>?_)
     ·refine aL h λcY I3 h=>W.rx [(0,_),(4,_),(5,_),(7,_),(8,.ptr ⟨0,[0]⟩ (bI.1.toNat * bZ.z+0))] (al (O.aX .z4)<|al O.bx<|al O.ee<|al O.bx<|al O.ee<|ar.kL (G2:=[(8,.ptr ⟨0,[0]⟩ (bI.1.toNat * bZ.z+0))]++[(112,.bW []),(0,.obj [aj bZ eN.aG.ba,aj bH cY.aG.b1,aj cD cY.aG.bh,ay cY.aG.cC,ay cY.aG.cK,aj cq cY.cu,aj bH cY.cL,aj dx cY.cb,ae cY.cZ,ae cY.dp,ay cY.dm,ae cY.cr,ae cY.b_]),(4,.obj (dA.cells aE)),(5,.obj (dE.cells a2)),(7,ae bI.1)]) q (bl.eT (r:=0) (k0:=0) (y:=aj bZ eN.aG.ba) (cs5:=[aj bZ eN.aG.ba,aj bH cY.aG.b1,aj cD cY.aG.bh,ay cY.aG.cC,ay cY.aG.cK,aj cq cY.cu,aj bH cY.cL,aj dx cY.cb,ae cY.cZ,ae cY.dp,ay cY.dm,ae cY.cr,ae cY.b_]) (G1:=λv=>[(0,.obj [.lit v,aj bH eN.aG.b1,aj cD eN.aG.bh,ay eN.aG.cC,ay eN.aG.cK,aj cq eN.cu,aj bH eN.cL,aj dx eN.cb,ae eN.cZ,ae eN.dp,ay eN.dm,ae eN.cr,ae eN.b_]),(4,.obj (dA.cells aE)),(5,.obj (dE.cells a2)),(7,ae bI.1),(107,.ptr ⟨0,[]⟩ 0),(109,ae a2.At),(111,ay a2.Name)]) (G4:=λv=>[(112,.bW []),(0,.obj [.lit v,aj bH cY.aG.b1,aj cD cY.aG.bh,ay cY.aG.cC,ay cY.aG.cK,aj cq cY.cu,aj bH cY.cL,aj dx cY.cb,ae cY.cZ,ae cY.dp,ay cY.dm,ae cY.cr,ae cY.b_]),(4,.obj (dA.cells aE)),(5,.obj (dE.cells a2)),(7,ae bI.1)]) (c4:=λv=>[.lit v,aj bH cY.aG.b1,aj cD cY.aG.bh,ay cY.aG.cC,ay cY.aG.cK,aj cq cY.cu,aj bH cY.cL,aj dx cY.cb,ae cY.cZ,ae cY.dp,ay cY.dm,ae cY.cr,ae cY.b_]) (G5:=[(112,.bW []),(0,.obj [aj bZ eN.aG.ba,aj bH cY.aG.b1,aj cD cY.aG.bh,ay cY.aG.cC,ay cY.aG.cK,aj cq cY.cu,aj bH cY.cL,aj dx cY.cb,ae cY.cZ,ae cY.dp,ay cY.dm,ae cY.cr,ae cY.b_]),(4,.obj (dA.cells aE)),(5,.obj (dE.cells a2)),(7,ae bI.1)]) (A:=[(8,.ptr ⟨0,[0]⟩ (bI.1.toNat * bZ.z+0))]) q q q q (λv=>(.b q (.n q q (.n q q (.n q q (.p q q q q q q (.n q q (.n q q .nil)))))))) (λv=>hJ.nh (G2:=[(4,.obj (dA.cells aE)),(5,.obj (dE.cells a2)),(7,ae bI.1)]) (A:=[]) (ys:=[.ptr ⟨0,[]⟩ 0,ae a2.At,ay a2.Name]) (args:=[.obj [.lit v,aj bH eN.aG.b1,aj cD eN.aG.bh,ay eN.aG.cC,ay eN.aG.cK,aj cq eN.cu,aj bH eN.cL,aj dx eN.cb,ae eN.cZ,ae eN.dp,ay eN.dm,ae eN.cr,ae eN.b_],ae a2.At,ay a2.Name]) (cs':=[.lit v,aj bH cY.aG.b1,aj cD cY.aG.bh,ay cY.aG.cC,ay cY.aG.cK,aj cq cY.cu,aj bH cY.cL,aj dx cY.cb,ae cY.cZ,ae cY.dp,ay cY.dm,ae cY.cr,ae cY.b_]) (k0:=0) q q q q (.b q (.n q (.n q .nil))) q (Hh v eN a2.At a2.Name _ I3) call105 (o2 q q q) q q (o2 q q q) .nil q) (λv=>q) (λv=>q) (λv=>q) (λv=>(.n q q (.b q (.n q q (.n q q (.n q q .nil)))))) q (.c (en:=bZ) (L:=eN.aG.ba) q q l' q q q .nil))<|gT (.n q (.n q (.n q (.n q (.r q (di.el (en:=bZ) q l' q) jx .nil)))))) ?_;exact aV h ▸ aA.dF (.n q (.n q (.n q (.n q (.r q (di.el (en:=bZ) q l' q) jx .nil)))))
     ·exact W.c5<|aV h ▸ aA.dF (.n q (.n q (.n q (.n q (.r q (di.el (en:=bZ) q l' q) jx .nil)))))
    refine aL h λei qw h=>aA.bw<|W.rs [(0,_),(4,_),(5,_),(7,_),(8,.ptr ⟨0,[0]⟩ (bI.1.toNat * bZ.z+0))] (al (O.aX .z5)<|al O.bx<|al O.ee<|al (O.eV .z5)<|al (O.j' (en:=bZ) q .z5 Mw qw q q)<|ar.kL (G2:=[(0,.obj [aj bZ (dY.aG.ba.set bI.1.toNat (⟨ei.Name,ei.Lit,a2.bR,ei.Level,ei.fu,ei.Tag⟩:bX)),aj bH dY.aG.b1,aj cD dY.aG.bh,ay dY.aG.cC,ay dY.aG.cK,aj cq dY.cu,aj bH dY.cL,aj dx dY.cb,ae dY.cZ,ae dY.dp,ay dY.dm,ae dY.cr,ae dY.b_]),(4,.obj (dA.cells aE)),(5,.obj (dE.cells a2)),(7,ae bI.1),(8,.ptr ⟨0,[0]⟩ (bI.1.toNat * bZ.z+0))]) q (bl.s_ (en:=bZ) (y2:=(⟨ei.Name,ei.Lit,a2.bR,ei.Level,ei.fu,ei.Tag⟩:bX)) (cs':=[ae a2.bR]) (x2:=.obj [aj bZ (dY.aG.ba.set bI.1.toNat (⟨ei.Name,ei.Lit,a2.bR,ei.Level,ei.fu,ei.Tag⟩:bX)),aj bH dY.aG.b1,aj cD dY.aG.bh,ay dY.aG.cC,ay dY.aG.cK,aj cq dY.cu,aj bH dY.cL,aj dx dY.cb,ae dY.cZ,ae dY.dp,ay dY.dm,ae dY.cr,ae dY.b_]) q q (.ptr q) (.lit q) q qw uH q q q q q q q (.b q (.n q q (.n q q (.n q q (.e q q (.mk (en:=bZ) q qw q (oh qw) q) q .nil))))))<|gT (.n q (.n q (.n q (.n q (.r q (di.el (en:=bZ) q (oh qw) q) jx .nil)))))) ?_;refine aL h λhT sa h=>W.rx [(0,_),(4,_),(5,_),(8,.ptr ⟨0,[0]⟩ (bI.1.toNat * bZ.z+0))] (al (O.aX .z4)<|al (O.eV .z5)<|al O.y2<|al (O.c8 (y:=.a6 cq.z ⟨0,[5]⟩ dY.cu.length))<|b2 q<|al (O.gh (en:=cq) q .dk .bn rE sa q)<|ar.kL (G2:=[(0,.obj [aj bZ (dY.aG.ba.set bI.1.toNat (⟨ei.Name,ei.Lit,a2.bR,ei.Level,ei.fu,ei.Tag⟩:bX)),aj bH dY.aG.b1,aj cD dY.aG.bh,ay dY.aG.cC,ay dY.aG.cK,aj cq (dY.cu.set bI.1.toNat true),aj bH dY.cL,aj dx dY.cb,ae dY.cZ,ae dY.dp,ay dY.dm,ae dY.cr,ae dY.b_]),(4,.obj (dA.cells aE)),(5,.obj (dE.cells a2)),(8,.ptr ⟨0,[0]⟩ (bI.1.toNat * bZ.z+0))]) q (bl.s_ (en:=cq) (y2:=true) (cs':=[a_ true]) (x2:=.obj [aj bZ (dY.aG.ba.set bI.1.toNat (⟨ei.Name,ei.Lit,a2.bR,ei.Level,ei.fu,ei.Tag⟩:bX)),aj bH dY.aG.b1,aj cD dY.aG.bh,ay dY.aG.cC,ay dY.aG.cK,aj cq (dY.cu.set bI.1.toNat true),aj bH dY.cL,aj dx dY.cb,ae dY.cZ,ae dY.dp,ay dY.dm,ae dY.cr,ae dY.b_]) q q (.ptr q) (.k q) q sa Qb q q q q q q q (.b q (.n q q (.n q q (.e q q (.mk (en:=bZ) q (oh qw) q (oh qw) q) q .nil)))))<|gT (.n q (.n q (.n q (.r q (di.el (en:=bZ) q (oh qw) q) jx .nil))))) ?_;exact aV h ▸ aA.dF (.n q (.n q (.n q (.r q (di.el (en:=bZ) q (oh qw) q) jx .nil))))
   ·exact W.c5<|aV h ▸ aA.dF (.n q (.n q (.n q (.r q (di.el (en:=bZ) q l' q) jx .nil))))
  refine aL h λkZ nN h=>aA.bw<|W.rs [(0,_),(4,_),(5,_),(8,.ptr ⟨0,[0]⟩ (bI.1.toNat * bZ.z+0)),(126,_)] (al O.bx<|al O.ee<|al (O.oq .bn .cJ)<|gT (.n q (.n q (.n q (.r q (di.el (en:=bZ) q nN q) jx (.n q .nil)))))) ?_;refine aL h λpK ah h=>W.fZ [0] [(0,.obj (dR.cells pK))] ?_ ?_
  ·clear h; have h:=ah; clear ah;refine W.b9 h q (λnC h=>?_) (λnC h=>?_)
   ·refine W.bC<|W.bC<|aL h λtx ah h=>W.rd [[],[0],[0,1],[0,1,2],[0,1,2,3],aH 0 5 [],aH 0 6 [],aH 0 7 [],aH 0 8 [],aH 0 9 [],aH 0 6 [],aH 0 6 [10],aH 0 12 [],aH 0 13 []] [(0,.obj (dR.cells e_)),(4,.obj (dA.cells aE)),(5,.obj (dE.cells a2)),(8,.ptr ⟨0,[0]⟩ (bI.1.toNat * bZ.z+0)),(140,a_ tx)] e' (by kernel_rfl) ?_ ?_
    ·refine aD 0 (O.aX .z5)<|aD 1 (O.eV .z5)<|aD 2 (O.j' (en:=bZ) q .z5 Hs nN q q)<|aD 3 (O.iQ (en:=bZ) (x':=ay kZ.Tag) q .z5 wQ nN q q)<|aD 4 (O.oq .bn .cJ)<|aD 5 (O.aX (.lit q)) ?_;rcases fG ah with ⟨jM,ah⟩ | ⟨jM,ah⟩
     ·exact aV ah ▸ (iW 6 jM (O.aX .z5)<|iW 7 jM (O.eV .z5)<|iW 8 jM (O.j' (en:=bZ) q .z5 Hs nN q q)<|iW 9 jM (O.iQ (en:=bZ) (x':=ay kZ.Tag) q .z5 wQ nN q q)<|iW 10 jM O.bx<|iW 11 jM O.ee<|iW 12 jM (O.oq .bn .bn)<|aD 13 (O.hS .bn jM .bn)<|bA.fin q q q (.n q (.n q (.n q (.r q (di.el (en:=bZ) q nN q) jx (.n q .nil))))))
     ·exact aV ah ▸ (ih 6 jM<|ih 7 jM<|ih 8 jM<|ih 9 jM<|ih 10 jM<|ih 11 jM<|ih 12 jM<|aD 13 (O.dB .bn jM .cJ)<|bA.fin q q q (.n q (.n q (.n q (.r q (di.el (en:=bZ) q nN q) jx (.n q .nil))))))
    refine aA.bw<|aL h λnf ah h=>W.fZ [0,4,8] [(0,.obj (dR.cells nf))] ?_ ?_
    ·clear h; have h:=ah; clear ah;refine W.b9 h q (λu7 h=>?_) (λu7 h=>?_)
     ·refine aL h λc0 Ca h=>W.rx [(0,_),(4,_),(8,.ptr ⟨0,[0]⟩ (bI.1.toNat * bZ.z+0))] (al (O.aX .z4)<|al O.bx<|al O.ee<|al O.bx<|al O.ee<|ar.kL (G2:=[(8,.ptr ⟨0,[0]⟩ (bI.1.toNat * bZ.z+0))]++[(146,.bW []),(0,.obj [aj bZ e_.aG.ba,aj bH c0.aG.b1,aj cD c0.aG.bh,ay c0.aG.cC,ay c0.aG.cK,aj cq c0.cu,aj bH c0.cL,aj dx c0.cb,ae c0.cZ,ae c0.dp,ay c0.dm,ae c0.cr,ae c0.b_]),(4,.obj (dA.cells aE))]) q (bl.eT (r:=0) (k0:=0) (y:=aj bZ e_.aG.ba) (cs5:=[aj bZ e_.aG.ba,aj bH c0.aG.b1,aj cD c0.aG.bh,ay c0.aG.cC,ay c0.aG.cK,aj cq c0.cu,aj bH c0.cL,aj dx c0.cb,ae c0.cZ,ae c0.dp,ay c0.dm,ae c0.cr,ae c0.b_]) (G1:=λv=>[(0,.obj [.lit v,aj bH e_.aG.b1,aj cD e_.aG.bh,ay e_.aG.cC,ay e_.aG.cK,aj cq e_.cu,aj bH e_.cL,aj dx e_.cb,ae e_.cZ,ae e_.dp,ay e_.dm,ae e_.cr,ae e_.b_]),(4,.obj (dA.cells aE)),(141,.ptr ⟨0,[]⟩ 0),(143,ae a2.At),(145,ay a2.Name)]) (G4:=λv=>[(146,.bW []),(0,.obj [.lit v,aj bH c0.aG.b1,aj cD c0.aG.bh,ay c0.aG.cC,ay c0.aG.cK,aj cq c0.cu,aj bH c0.cL,aj dx c0.cb,ae c0.cZ,ae c0.dp,ay c0.dm,ae c0.cr,ae c0.b_]),(4,.obj (dA.cells aE))]) (c4:=λv=>[.lit v,aj bH c0.aG.b1,aj cD c0.aG.bh,ay c0.aG.cC,ay c0.aG.cK,aj cq c0.cu,aj bH c0.cL,aj dx c0.cb,ae c0.cZ,ae c0.dp,ay c0.dm,ae c0.cr,ae c0.b_]) (G5:=[(146,.bW []),(0,.obj [aj bZ e_.aG.ba,aj bH c0.aG.b1,aj cD c0.aG.bh,ay c0.aG.cC,ay c0.aG.cK,aj cq c0.cu,aj bH c0.cL,aj dx c0.cb,ae c0.cZ,ae c0.dp,ay c0.dm,ae c0.cr,ae c0.b_]),(4,.obj (dA.cells aE))]) (A:=[(8,.ptr ⟨0,[0]⟩ (bI.1.toNat * bZ.z+0))]) q q q q (λv=>(.b q (.n q q (.p q q q q q q (.n q q (.n q q .nil)))))) (λv=>hJ.nh (G2:=[(4,.obj (dA.cells aE))]) (A:=[]) (ys:=[.ptr ⟨0,[]⟩ 0,ae a2.At,ay a2.Name]) (args:=[.obj [.lit v,aj bH e_.aG.b1,aj cD e_.aG.bh,ay e_.aG.cC,ay e_.aG.cK,aj cq e_.cu,aj bH e_.cL,aj dx e_.cb,ae e_.cZ,ae e_.dp,ay e_.dm,ae e_.cr,ae e_.b_],ae a2.At,ay a2.Name]) (cs':=[.lit v,aj bH c0.aG.b1,aj cD c0.aG.bh,ay c0.aG.cC,ay c0.aG.cK,aj cq c0.cu,aj bH c0.cL,aj dx c0.cb,ae c0.cZ,ae c0.dp,ay c0.dm,ae c0.cr,ae c0.b_]) (k0:=0) q q q q (.b q (.n q (.n q .nil))) q (Hh v e_ a2.At a2.Name _ Ca) call105 (.n q .nil) q q (.n q .nil) .nil q) (λv=>q) (λv=>q) (λv=>q) (λv=>(.n q q (.b q (.n q q .nil)))) q (.c (en:=bZ) (L:=e_.aG.ba) q q nN q q q .nil))<|gT (.n q (.n q (.r q (di.el (en:=bZ) q nN q) jx .nil)))) ?_;exact aV h ▸ aA.dF (.n q (.n q (.r q (di.el (en:=bZ) q nN q) jx .nil)))
     ·exact W.c5<|aV h ▸ aA.dF (.n q (.n q (.r q (di.el (en:=bZ) q nN q) jx .nil)))
    refine aL h λgn sb h=>aA.bw<|W.bV [0] (al (O.aX .z5)<|al O.bx<|al O.ee<|al (O.eV .z5)<|al (O.j' (en:=bZ) q .z5 Hs sb q q)<|ar.eD (bl.rD (en:=bZ) (y2:=(⟨gn.Name,gn.Lit,gn.bR,gn.Level,gn.fu,aE.Tag⟩:bX)) [0] sb)<|bM q) ?_;exact aV h ▸ aA.d_
   ·exact W.c5<|aV h ▸ aA.d_
  exact aV h ▸ aA.fin (Fin.ro .nil q (CC (by kernel_rfl)) (.aq q q (.no (.no .nil))) q (.inl q))
instance ZK {a0:dv}{aE:Decl}{a2:Sym}{r:dv}:bz prog 104 (vI a0 aE a2=some r) [.obj (dR.cells a0),.agg (dA.cells aE),.agg (dE.cells a2)] [some (.obj [aj bZ r.aG.ba,aj bH r.aG.b1,aj cD r.aG.bh,ay r.aG.cC,ay r.aG.cK,aj cq r.cu,aj bH r.cL,aj dx r.cb,ae r.cZ,ae r.dp,ay r.dm,ae r.cr,ae r.b_]),none,none] (.bW []):=⟨Sq a0 aE a2 _⟩
instance ZN {a0:dv}{aE:ByteArray}{r:Int}:bz prog 107 (sZ a0 aE=some r) [.cH ([ag bZ a0.aG.ba,ag bH a0.aG.b1,ag cD a0.aG.bh,ay a0.aG.cC,ay a0.aG.cK,ag cq a0.cu,ag bH a0.cL,ag dx a0.cb,ae a0.cZ,ae a0.dp,ay a0.dm,ae a0.cr,ae a0.b_]),ay aE] [none,none] (ae r):=⟨λh=>by unfold sZ at h; exact bT.bt (N:=⟨25,[]⟩) [0,1,4,5,12,23] (.gu (λ(s1:Int)=>[(5,ae s1)]) [0,1,5] 0 (λ(a7:Unit)=>[]) [] (λ(bq:Int)=>[(4,ae bq)]) [4] .e .e .e) func107 rfl rfl rfl rfl rfl dH⟩
instance Z7 {a0:dv}{aE:Sym}{r:Int × dv}:bz prog 138 (s3 a0 aE=some r) [.obj (dR.cells a0),.agg (dE.cells aE)] [some (.obj [aj bZ r.2.aG.ba,aj bH r.2.aG.b1,aj cD r.2.aG.bh,ay r.2.aG.cC,ay r.2.aG.cK,aj cq r.2.cu,aj bH r.2.cL,aj dx r.2.cb,ae r.2.cZ,ae r.2.dp,ay r.2.dm,ae r.2.cr,ae r.2.b_]),none] (ae r.1):=⟨λh=>by unfold s3 at h; exact bT.bt (N:=⟨32,[0]⟩) [0,3,4,5,6,8,17,24] .e func138 rfl rfl rfl rfl rfl dH⟩
theorem Sr (a0:dv) (aE:ByteArray) (a2:Alt) (r:dv) (h:vJ a0 aE a2=some r):bT prog 108 [.obj (dR.cells a0),ay aE,.agg (e2.cells a2)] [some (.obj [aj bZ r.aG.ba,aj bH r.aG.b1,aj cD r.aG.bh,ay r.aG.cC,ay r.aG.cK,aj cq r.cu,aj bH r.cL,aj dx r.cb,ae r.cZ,ae r.dp,ay r.dm,ae r.cr,ae r.b_]),none,none] (.bW []):=by
 unfold vJ at h;refine bT.go (N:=⟨173,[0]⟩) func108 q q q q (W.fin ?_);refine W.st [(0,.obj (dR.cells a0)),(1,ay aE),(2,.agg (e2.cells a2))] ?_;refine W.cN [0,1,5] (al (O.box (.da q q) q)<|bM q) ?_;refine W.bC<|aL h λa8 hW h=>W.rd [[],[],[0,1],[0,1,2],[],[4],aH 0 6 [],[],aH 0 8 []] [(0,_),(5,_),(6,_)] e' (by kernel_rfl) (aD 0 (O.aX .z4)<|aD 1 (O.aX (.lit q))<|h2 2 (cz.pX (ys:=[.ptr ⟨0,[]⟩ 0,ay aE]) q (.c (View.nT q q) (.s .nil)) (bz.go hW))<|aD 3 (O.add .cJ .bn)<|aD 4 O.bx<|aD 5 O.ee<|aD 6 (O.ej (cs:=[ae (aK (1+a8)),.aJ,ae (-1),ay a',.aJ,ae a2.At]) Ks DE q q q)<|aD 7 (O.fm (cs:=[ae 0,.aJ,ae 0,ay a',.aJ,ae 0]) DE q q)<|bA.hy 8 (bl.gl [0,5,6])<|bA.fin q q q (o2 q q q)) ?_;refine aA.bw<|W.bC<|W.ct [0,5,6,7] ?_;refine W.b3<|aL h λa7 ak h=>W.gR (a0,([]:List Int),a',a2.At,0) (λ(s2:dv × List Int × ByteArray × Int × Int)=>[(0,.obj (dR.cells s2.1)),(6,.obj [ae (aK (1+a8)),aj ai s2.2.1,ae (-1),ay s2.2.2.1,.aJ,ae s2.2.2.2.1]),(7,ae s2.2.2.2.2)]) [0,5,6,7] 0 (λ(a7:dv × List Int × ByteArray × Int)=>[(0,.obj (dR.cells a7.1)),(6,.obj [ae (aK (1+a8)),aj ai a7.2.1,ae (-1),ay a7.2.2.1,.aJ,ae a7.2.2.2])]) [0,5,6] ak (λs2 o h=>?_) ?_
 ·clear ak;refine W.bC<|W.ct [0,5,6,7,21] ?_;refine W.b9 h q (λnD h=>?_) (λnD h=>?_)
  ·refine W.c5<|aA.bw<|W.bC<|aL h λkR ah h=>W.fZ [0,5,6,7] [(0,.obj (dR.cells kR.1)),(6,.obj [ae (aK (1+a8)),aj ai kR.2.1,ae (-1),ay kR.2.2.1,.aJ,ae kR.2.2.2])] ?_ ?_
   ·clear h; have h:=ah; clear ah;refine W.b3<|aL h λbP na h=>W.cN [0,5,6,7,8] (al O.bx<|al (O.c8 (y:=ag e7 a2.hx))<|b2 q<|al (O.eS na)<|al (O.ng (cs':=e7.cells bP) .n0 y1 q q)<|al (O.fm (cs:=[ay a',a_ false,ae 0,ae 0,ay a',ae 0]) qR q q)<|ar.eD (bl.gl [0,5,6,7,8])<|bM q) ?_;refine aL h λfe ah h=>W.fZ [0,5,6,7] [(0,.obj (dR.cells fe.1)),(6,.obj [ae (aK (1+a8)),aj ai fe.2.1,ae (-1),ay fe.2.2.1,.aJ,ae fe.2.2.2])] ?_ ?_
    ·clear h; have h:=ah; clear ah;refine W.b3<|W.ct [0,5,6,7,8,82] ?_;refine aL h λqA ah h=>W.fZ [0,5,6,7] [(0,.obj (dR.cells qA.1)),(6,.obj [ae (aK (1+a8)),aj ai qA.2.1,ae (-1),ay qA.2.2.1,.aJ,ae qA.2.2.2])] ?_ ?_
     ·clear h; have h:=ah; clear ah;refine W.b9 h q (λBF h=>?_) (λBF h=>?_)
      ·refine aL h λcp lM h=>aL h λeF ud h=>W.rd [[],[0],[],[],[3],[2,3,4],[2,3,4,5],aH 0 7 [],aH 0 8 [],aH 0 9 []] [(0,_),(5,_),(6,_),(7,_)] e' (by kernel_rfl) (aD 0 O.bx<|aD 1 (O.c8 (y:=.a6 ai.z ⟨6,[1]⟩ s2.2.1.length))<|aD 2 (O.aX .z4)<|aD 3 O.bx<|aD 4 (O.ed (cs':=dE.cells bP.Sym) q .z5 tt q q)<|bA.ej 5 (G2:=(6,.obj [ae (aK (1+a8)),aj ai s2.2.1,ae (-1),ay s2.2.2.1,.aJ,ae s2.2.2.2.1])::[(91,ae cp.1),(0,.obj (dR.cells cp.2)),(5,.obj (e2.cells a2)),(7,ae s2.2.2.2.2)]) (U:=[(1,87,some (.a6 ai.z ⟨6,[1]⟩ s2.2.1.length)),(0,86,some (.ptr ⟨6,[]⟩ 1))]) (o9.box (r:=6) (G1:=[(0,.obj (dR.cells s2.1)),(5,.obj (e2.cells a2)),(7,ae s2.2.2.2.2),(88,.ptr ⟨0,[]⟩ 0),(90,.agg (dE.cells bP.Sym))]) (G2:=[(91,ae cp.1),(0,.obj (dR.cells cp.2)),(5,.obj (e2.cells a2)),(7,ae s2.2.2.2.2)]) (bl.call q q (hJ.nh (G2:=[(5,.obj (e2.cells a2)),(7,ae s2.2.2.2.2)]) (A:=[]) (ys:=[.ptr ⟨0,[]⟩ 0,.agg (dE.cells bP.Sym)]) (args:=[.obj (dR.cells s2.1),.agg (dE.cells bP.Sym)]) (cs':=dR.cells cp.2) (k0:=0) q q q q (.b q (.n q .nil)) q (bz.go lM) call138 (kY q q) q q (kY q q) .nil q)) q (.n q (.n q (.n q (.q q q q (.n q .nil))))) q q q) q q (by kernel_rfl) q q q (.c (.inl ⟨6,[1],_,_,_,_,q,by simp [sk],q,q,Nat.le_refl _⟩) q q q q q (fv.wanted .none) (O.mA (y:=.a6 ai.z ⟨6,[1]⟩ s2.2.1.length) q .z5 uZ q q) (.c (.inr (.inr (.inr (.inl ⟨6,_,_,q,q,hX q,by simp,_,q,hX q⟩)))) q q q q q (fv.wanted .none) (O.kr q .z4 MB q) .nil)) (by kernel_rfl)<|bA.fk 6 (x:=ag ai [cp.1]) (O.dg (ys:=[ae cp.1]) ai [cp.1] gJ q q q q q q mh q q) q q q q .none<|aD 7 (O.ap (en:=ai) (r:=eF) .dk q .z2 .i oD q ud)<|aD 8 O.bx<|bA.hy 9 (bl.sp [0,5,6,7])<|bA.fin q q q (o3 q q q q)) ?_;exact aV h ▸ aA.d_
      ·refine W.ct [0,5,6,7,8,95] ?_;refine aL h λiH ah h=>W.fZ [0,5,6,7] [(0,.obj [aj bZ s2.1.aG.ba,aj bH s2.1.aG.b1,aj cD iH.1,ay s2.1.aG.cC,ay s2.1.aG.cK,aj cq s2.1.cu,aj bH s2.1.cL,aj dx s2.1.cb,ae s2.1.cZ,ae s2.1.dp,ay s2.1.dm,ae s2.1.cr,ae iH.2.1]),(6,.obj [ae (aK (1+a8)),aj ai iH.2.2.1,ae (-1),ay iH.2.2.2.1,.aJ,ae iH.2.2.2.2])] ?_ ?_
       ·clear h; have h:=ah; clear ah;refine W.b9 h q (λkN h=>?_) (λkN h=>?_)
        ·refine W.rd [[],[0],[],[2],[0,1],[0,1,4],aH 0 6 [],aH 0 7 []] [(0,_),(5,_),(6,_),(7,_)] e' (by kernel_rfl) (aD 0 O.bx<|aD 1 O.ee<|aD 2 O.bx<|aD 3 O.ee<|aD 4 O.bx<|bA.ej 5 (G2:=[(0,.obj (dR.cells s2.1)),(5,.obj (e2.cells a2)),(6,.obj [ae (aK (1+a8)),aj ai s2.2.1,ae (-1),ay bP.Code,.aJ,ae s2.2.2.2.1]),(7,ae s2.2.2.2.2),(8,.obj (e7.cells bP))]) (U:=[(3,105,some (ae bP.At)),(2,104,some (.ptr ⟨8,[]⟩ 5))]) (iy.v (bl.j_ (bl.jh (G2:=[(0,.obj (dR.cells s2.1)),(5,.obj (e2.cells a2)),(6,.obj [ae (aK (1+a8)),aj ai s2.2.1,ae (-1),ay bP.Code,.aJ,ae s2.2.2.2.1]),(7,ae s2.2.2.2.2),(8,.obj (e7.cells bP))]) (cs2:=[ae (aK (1+a8)),aj ai s2.2.1,ae (-1),ay bP.Code,.aJ,ae s2.2.2.2.1]) q q q (.ptr q) (.lit q) q Qe q q q q (.n q q (.n q q (.b q (.n q q (.n q q .nil)))))))) q q (by kernel_rfl) q q q (.c (.inr (.inl ⟨_,q⟩)) q q q q q (fv.wanted .none) (O.oT q .z5 oI q) (.c (.inr (.inr (.inr (.inl ⟨8,_,_,q,q,hX q,by simp,_,q,hX q⟩)))) q q q q q (fv.wanted .none) (O.kr q .z4 Tq q) .nil)) (by kernel_rfl)<|aD 6 O.bx<|bA.hy 7 (bl.np [0,5,6,7])<|bA.fin q q q (o3 q q q q)) ?_;exact aV h ▸ aA.d_
        ·refine W.cN [0,5,6,7,8] (al (O.aX .z4)<|al (O.eV .z5)<|al O.y2<|al O.ee<|al (O.add .bn .cJ)<|al (O.eV .z5)<|al O.y2<|ar.eD (bl.np [0,5,6,7,8])<|bM q) ?_;refine W.bC<|aL h λcO mx h=>aL h λcc pD h=>W.rd [[],[],[1],[1,2],[1,2,3],[1,2,3,4],[],[6],[6,7],[6,7,8],[6,7,8,9],[],[11],[11,12],[11,12,13],aH 6 9 [],[],[16],[],[],[19],[18,19,20],[],[22],aH 6 18 [],aH 6 19 [],aH 1 25 [],aH 0 27 [],aH 0 28 [],aH 0 29 [],aH 0 30 []] [(0,_),(5,_),(6,_),(7,_)] e' (by kernel_rfl) (aD 0 (O.aX .z4)<|aD 1 (O.aX .z4)<|aD 2 (O.eV .z5)<|aD 3 O.y2<|aD 4 O.y2<|aD 5 (O.c8 (y:=.a6 cD.z ⟨0,[2]⟩ s2.1.aG.bh.length))<|aD 6 (O.aX .z4)<|aD 7 (O.eV .z5)<|aD 8 O.y2<|aD 9 (O.c8 (y:=.a6 dx.z ⟨0,[7]⟩ s2.1.cb.length))<|aD 10 (O.mB .dk FW)<|aD 11 (O.aX .z4)<|aD 12 (O.eV .z5)<|aD 13 O.y2<|aD 14 O.ee<|aD 15 (O.add .bn .bn)<|aD 16 O.bx<|aD 17 O.ee<|aD 18 (O.dg (ys:=[]) ai ([]:List Int) gJ q q q q q q mh q q)<|aD 19 O.bx<|aD 20 (O.c8 (y:=.a6 ai.z ⟨6,[1]⟩ s2.2.1.length))<|aD 21 (O.ap (en:=ai) (r:=cO) .z3 q .dk (.flat ai q) oD q mx)<|aD 22 O.bx<|aD 23 O.ee<|aD 24 (O.ej (cs:=[ae (aK ((s2.1.cb.length:Int)+(aK (s2.1.b_+1)))),.aJ,ae (-1),ay bP.Code,.a6 ai.z ⟨57,[]⟩ (([]:List Int).length+s2.2.1.length),ae bP.At]) Ks DE q q q)<|aD 25 (O.wF (ys:=[.agg [ae (aK ((s2.1.cb.length:Int)+(aK (s2.1.b_+1)))),.aJ,ae (-1),ay bP.Code,.a6 ai.z ⟨57,[]⟩ (([]:List Int).length+s2.2.1.length),ae bP.At]]) (cs:=[ae (aK ((s2.1.cb.length:Int)+(aK (s2.1.b_+1)))),.aJ,ae (-1),ay bP.Code,.a6 ai.z ⟨57,[]⟩ (([]:List Int).length+s2.2.1.length),ae bP.At]) FZ q q q q q KX q q)<|aD 26 (O.Rs (en:=cD) (M:=[(⟨aK ((s2.1.cb.length:Int)+(aK (s2.1.b_+1))),([]:List Int),(-1),bP.Code,([]:List Int)++s2.2.1,bP.At⟩:Prod)]) (r:=cc) .dk q .z3 q q q q Lz q pD (vD (by kernel_rfl) (by kernel_rfl)))<|aD 27 (O.eV .z5)<|aD 28 O.y2<|aD 29 O.y2<|bA.hy 30 (G2:=[(0,.obj [aj bZ s2.1.aG.ba,aj bH s2.1.aG.b1,aj cD (s2.1.aG.bh++[(⟨aK ((s2.1.cb.length:Int)+(aK (s2.1.b_+1))),([]:List Int),(-1),bP.Code,([]:List Int)++s2.2.1,bP.At⟩:Prod)]),ay s2.1.aG.cC,ay s2.1.aG.cK,aj cq s2.1.cu,aj bH s2.1.cL,aj dx s2.1.cb,ae s2.1.cZ,ae s2.1.dp,ay s2.1.dm,ae s2.1.cr,ae (aK (s2.1.b_+1))]),(5,.obj (e2.cells a2)),(6,.obj [ae (aK (1+a8)),aj ai s2.2.1,ae (-1),ay s2.2.2.1,.aJ,ae s2.2.2.2.1]),(7,ae s2.2.2.2.2)]) (bl.F1 (g1:=_) (en:=cD) (M:=[(⟨aK ((s2.1.cb.length:Int)+(aK (s2.1.b_+1))),([]:List Int),(-1),bP.Code,([]:List Int)++s2.2.1,bP.At⟩:Prod)]) (cs2:=[aj bZ s2.1.aG.ba,aj bH s2.1.aG.b1,aj cD (s2.1.aG.bh++[(⟨aK ((s2.1.cb.length:Int)+(aK (s2.1.b_+1))),([]:List Int),(-1),bP.Code,([]:List Int)++s2.2.1,bP.At⟩:Prod)]),ay s2.1.aG.cC,ay s2.1.aG.cK,aj cq s2.1.cu,aj bH s2.1.cL,aj dx s2.1.cb,ae s2.1.cZ,ae s2.1.dp,ay s2.1.dm,ae s2.1.cr,ae (aK (s2.1.b_+1))]) q q (.ptr q) (.bL q) q q q (.f (.f (.f (.f (.ia q q q .kx (.f .nil)))))) (.f (.z (.f (.f (.z (hv:=i'.ia q q) (.f .nil)))))) q q YR q q q q (.b q (.n q q (.n q q (.n q q .nil)))))<|bA.fin q q q (o3 q q q q)) ?_;refine aA.bw<|aL h λbU l_ h=>W.rd [[],[0],[],[2],[2,3],[2,3,4],[2,3,4,5],aH 2 5 [],[],[8],[8,9],[8,9,10],aH 2 10 [],aH 2 11 [],aH 0 14 [],aH 0 15 [],aH 0 16 []] [(0,_),(5,_),(6,_),(7,_)] e' (by kernel_rfl) (aD 0 O.bx<|aD 1 (O.c8 (y:=.a6 ai.z ⟨6,[1]⟩ s2.2.1.length))<|aD 2 (O.aX .z4)<|aD 3 (O.eV .z5)<|aD 4 O.y2<|aD 5 (O.c8 (y:=.a6 dx.z ⟨0,[7]⟩ s2.1.cb.length))<|aD 6 (O.mB .dk FW)<|aD 7 (O.add .cJ .bn)<|aD 8 (O.aX .z4)<|aD 9 (O.eV .z5)<|aD 10 O.y2<|aD 11 O.ee<|aD 12 (O.add .bn .bn)<|bA.fk 13 (x:=ag ai [aK ((aK (1000+(s2.1.cb.length:Int)))+(aK (s2.1.b_+1)))]) (O.dg (ys:=[ae (aK ((aK (1000+(s2.1.cb.length:Int)))+(aK (s2.1.b_+1))))]) ai [aK ((aK (1000+(s2.1.cb.length:Int)))+(aK (s2.1.b_+1)))] gJ q q q q q q mh q q) q q q q .none<|aD 14 (O.ap (en:=ai) (r:=bU) .dk q .z2 .i oD q l_)<|aD 15 O.bx<|bA.hy 16 (bl.sp [0,5,6,7])<|bA.fin q q q (o3 q q q q)) ?_;exact aV h ▸ aA.d_
       exact aV h ▸ aA.d_
     exact aA.b3<|aV h ▸ aA.d_
    exact aA.b3<|aV h ▸ aA.d_
   refine aA.bw<|W.bV [0,5,6,7] (b2 q<|al (O.add .bn .cJ)<|ar.bV [0,5,6,23] q<|ar.bt) ?_;exact aV h ▸ aA.gt
  ·exact W.fb<|aA.fa<|aV h ▸ aA.t1
 refine aA.e9<|aA.bw<|W.bC<|W.ct [0,5,6,9] ?_;refine W.b3<|aL h λeR ak h=>W.gR ((-1),0) (λ(oW:Int × Int)=>[(6,.obj [ae (aK (1+a8)),aj ai a7.2.1,ae oW.1,ay a7.2.2.1,.aJ,ae a7.2.2.2]),(9,ae oW.2)]) [0,5,6,9] 3 (λ(eR:Int)=>[(6,.obj [ae (aK (1+a8)),aj ai a7.2.1,ae eR,ay a7.2.2.1,.aJ,ae a7.2.2.2])]) [0,5,6] ak (λoW o h=>?_) ?_
 ·clear ak;refine W.bC<|W.ct [0,5,6,9,112] ?_;refine W.b9 h q (λlH h=>?_) (λlH h=>?_)
  ·refine W.c5<|aA.bw<|W.bC<|aL h λmz ah h=>W.fZ [0,5,6,9] [(6,.obj [ae (aK (1+a8)),aj ai a7.2.1,ae mz,ay a7.2.2.1,.aJ,ae a7.2.2.2])] ?_ ?_
   ·clear h; have h:=ah; clear ah;refine W.b3<|aL h λfz r' h=>W.cN [0,5,6,9,120] (al O.bx<|al (O.c8 (y:=.a6 ai.z ⟨6,[1]⟩ a7.2.1.length))<|b2 q<|al (O.gh (en:=ai) q .dk .bn gJ r' q)<|al (O.iQ (en:=ai) (x':=ae fz) q .z5 oI r' q q)<|ar.bt) ?_;refine aL h λxy ah h=>W.fZ [0,5,6,9] [(6,.obj [ae (aK (1+a8)),aj ai a7.2.1,ae xy,ay a7.2.2.1,.aJ,ae a7.2.2.2])] ?_ ?_
    ·clear h; have h:=ah; clear ah;refine W.b9 h q (λH3 h=>?_) (λH3 h=>?_)
     ·refine aL h λgA sQ h=>W.bV [0,5,6,9] (al O.bx<|al (O.c8 (y:=.a6 ai.z ⟨6,[1]⟩ a7.2.1.length))<|b2 q<|al (O.gh (en:=ai) q .dk .bn gJ sQ q)<|al (O.iQ (en:=ai) (x':=ae gA) q .z5 oI sQ q q)<|al O.bx<|ar.eD (bl.np [0,5,6,9])<|bM q) ?_;exact aV h ▸ aA.d_
     ·exact W.c5<|aV h ▸ aA.d_
    exact aA.b3<|aV h ▸ aA.d_
   refine aA.bw<|W.bV [0,5,6,9] (b2 q<|al (O.add .bn .cJ)<|ar.bV [0,5,6,114] q<|ar.bt) ?_;exact aV h ▸ aA.gt
  ·exact W.fb<|aA.fa<|aV h ▸ aA.t1
 refine aA.e9<|aA.bw<|W.bC<|W.ct [0,5,6,130] ?_;refine aL h λjZ ah h=>W.fZ [0,6] [(0,.obj (dR.cells jZ.1)),(6,.obj [ae (aK (1+a8)),aj ai a7.2.1,ae jZ.2,ay a7.2.2.1,.aJ,ae a7.2.2.2])] ?_ ?_
 ·clear h; have h:=ah; clear ah;refine W.b9 h q (λBG h=>?_) (λBG h=>?_)
  ·refine W.cN [0,5,6] (al O.bx<|ar.eD (bl.np [0,5,6])<|bM q) ?_;refine aL h λtw ah h=>W.kW [0,5,6,142] [(142,a_ tw)] ?_ ?_
   ·refine al O.bx<|al O.y2<|al O.ee<|al (O.aX (.lit q)) ?_;rcases fG ah with ⟨zl,ah⟩ | ⟨zl,ah⟩
    ·exact aV ah ▸ ar.bt
    ·refine cm zl (O.aX .z4)<|cm zl O.bx<|cm zl O.y2<|cm zl O.ee ?_;exact aL ah λhT sa ah=>aV ah ▸ (ar.c (cz.pX (ys:=[.ptr ⟨0,[]⟩ 0,ay a2.Prec.Name]) q (.c (View.nT q q) (.s .nil)) (bz.go sa)) q q (.ft q q zl)<|ar.bt)
   refine aL h λpK ah h=>W.fZ [0,6] [(0,.obj (dR.cells pK.1)),(6,.obj [ae (aK (1+a8)),aj ai a7.2.1,ae pK.2,ay a7.2.2.1,.aJ,ae a7.2.2.2])] ?_ ?_
   ·clear h; have h:=ah; clear ah;refine W.b9 h q (λnC h=>?_) (λnC h=>?_)
    ·refine aL h λki uf h=>W.bV [0,6] (al (O.aX .z4)<|al O.bx<|al (O.ed (cs':=dE.cells a2.Prec) q .z5 tt q q)<|ar.kL q (bl.call q q (hJ.nh (G2:=[(6,.obj [ae (aK (1+a8)),aj ai a7.2.1,ae (-1),ay a7.2.2.1,.aJ,ae a7.2.2.2])]) (A:=[]) (ys:=[.ptr ⟨0,[]⟩ 0,.agg (dE.cells a2.Prec)]) (args:=[.obj (dR.cells a7.1),.agg (dE.cells a2.Prec)]) (cs':=dR.cells ki.2) (k0:=0) q q q q (.b q (.n q .nil)) q (bz.go uf) call138 (.n q .nil) q q (.n q .nil) .nil q))<|al O.bx<|ar.eD (bl.np [0,6])<|bM q) ?_;exact aV h ▸ aA.d_
    ·refine aL h λeo I4 h=>W.bV [0,6] (al (O.aX .z4)<|al O.bx<|al O.y2<|al O.ee<|al O.bx<|al O.y2<|al O.ee<|ar.kL q (bl.call q q (hJ.nh (G2:=[(6,.obj [ae (aK (1+a8)),aj ai a7.2.1,ae (-1),ay a7.2.2.1,.aJ,ae a7.2.2.2])]) (A:=[]) (ys:=[.ptr ⟨0,[]⟩ 0,ae a2.Prec.At,ay a2.Prec.Name]) (args:=[.obj (dR.cells a7.1),ae a2.Prec.At,ay a2.Prec.Name]) (cs':=dR.cells eo) (k0:=0) q q q q (.b q (.n q (.n q .nil))) q (bz.go I4) call105 (.n q .nil) q q (.n q .nil) .nil q))<|bM q) ?_;exact aV h ▸ aA.d_
   exact aV h ▸ aA.d_
  ·exact W.c5<|aV h ▸ aA.d_
 refine aA.bw<|aL h λpZ xo h=>W.cN [0,6] (al (O.dg (ys:=[]) ai ([]:List Int) gJ q q q q q q mh q q)<|al O.bx<|al (O.c8 (y:=.a6 ai.z ⟨6,[1]⟩ a7.2.1.length))<|al (O.ap (en:=ai) (r:=pZ) .z3 q .dk (.flat ai q) oD q xo)<|al O.bx<|ar.eD (bl.sp [0,6])<|bM q) ?_;refine W.dN (G1:=[(0,_),(6,.obj [ae (aK (1+a8)),ag ai a7.2.1,ae jZ.2,ay a7.2.2.1,aj ai (([]:List Int)++a7.2.1),ae a7.2.2.2])]) [6] (.n q q (.z q q (fl.obj (.f (.z (.f (.f (.f (.f .nil))))))) .nil)) ?_;refine W.dN (G1:=[(0,_),(6,.obj [ae (aK (1+a8)),ag ai a7.2.1,ae jZ.2,ay a7.2.2.1,ag ai (([]:List Int)++a7.2.1),ae a7.2.2.2])]) [6] (.n q q (.z q q (fl.obj (.f (.f (.f (.f (.z (.f .nil))))))) .nil)) ?_;refine aL h λj2 pE h=>W.rd [[],[],[1],[1,2],[1,2,3],[1,2,3,4],[],[6],aH 1 7 [],aH 0 9 [],aH 0 10 [],aH 0 11 [],aH 0 12 []] [(0,_)] e' (by kernel_rfl) (aD 0 (O.aX .z4)<|aD 1 (O.aX .z4)<|aD 2 (O.eV .z5)<|aD 3 O.y2<|aD 4 O.y2<|aD 5 (O.c8 (y:=.a6 cD.z ⟨0,[2]⟩ jZ.1.aG.bh.length))<|aD 6 (O.ed (cs':=[ae (aK (1+a8)),ag ai a7.2.1,ae jZ.2,ay a7.2.2.1,ag ai (([]:List Int)++a7.2.1),ae a7.2.2.2]) q .z4 LI q q)<|bA.fk 7 (x:=ag cD [(⟨aK (1+a8),a7.2.1,jZ.2,a7.2.2.1,([]:List Int)++a7.2.1,a7.2.2.2⟩:Prod)]) (O.dg (ys:=[.agg [ae (aK (1+a8)),ag ai a7.2.1,ae jZ.2,ay a7.2.2.1,ag ai (([]:List Int)++a7.2.1),ae a7.2.2.2]]) cD [(⟨aK (1+a8),a7.2.1,jZ.2,a7.2.2.1,([]:List Int)++a7.2.1,a7.2.2.2⟩:Prod)] FZ q q q q q q KX q q) q q q q .none<|aD 8 (O.ap (en:=cD) (r:=j2) .dk q .z2 .i Lz q pE)<|aD 9 (O.eV .z5)<|aD 10 O.y2<|aD 11 O.y2<|bA.hy 12 (bl.sp [0])<|bA.fin q q q (.n q .nil)) ?_;exact aV h ▸ aA.fin (Fin.ro .nil q (CC (by kernel_rfl)) (.aq q q (.no (.no .nil))) q (.inl q))
instance ZO {a0:dv}{aE:ByteArray}{a2:Alt}{r:dv}:bz prog 108 (vJ a0 aE a2=some r) [.obj (dR.cells a0),ay aE,.agg (e2.cells a2)] [some (.obj [aj bZ r.aG.ba,aj bH r.aG.b1,aj cD r.aG.bh,ay r.aG.cC,ay r.aG.cK,aj cq r.cu,aj bH r.cL,aj dx r.cb,ae r.cZ,ae r.dp,ay r.dm,ae r.cr,ae r.b_]),none,none] (.bW []):=⟨Sr a0 aE a2 _⟩
instance ZR {a0:Int}{r:ByteArray}:bz prog 110 (CH a0=some r) [ae a0] [none] (ay r):=⟨λh=>by unfold CH at h; exact bT.bt (N:=⟨32,[]⟩) [0,2,3,4,8,16,28] (.dF [0,3] (λ(jt:Int)=>[(3,.lit (.int .u64 jt))]) .e (.eO (λ(d':Int × ByteArray)=>[(3,.lit (.int .u64 d'.1)),(4,ay d'.2)]) [0,3,4] 0 (λ(bq:ByteArray)=>[(4,ay bq)]) [0,4] (.ev 5 [0,3,4,16] (λ(kJ:Bool)=>[(16,a_ kJ)]) .e) .e)) func110 rfl rfl rfl rfl rfl dH⟩
theorem SM (a0:Source) (r:bO × Int × Int × ByteArray) (h:vW a0=some r):bT prog 77 [.agg (hh.cells a0)] [none] (.bW [.agg (dt.cells r.1),ae r.2.1,ae r.2.2.1,ay r.2.2.2]):=by
 unfold vW at h;refine bT.go (N:=⟨435,[]⟩) func77 q q q q (W.fin ?_);refine W.st [(0,.agg (hh.cells a0))] ?_;refine W.cN [1,2] (al (O.box (.da q q) q)<|al (O.fm (cs:=[.aJ,.aJ,.aJ,ay a',ay a']) tb q q)<|ar.bt) ?_;refine W.bC<|aL h λa8 hW h=>W.cN [1,2,28] (al (O.ed (cs':=hh.cells a0) q .z4 wy q q)<|gp (cz.eU (.cd (.da q q) .nil) (bz.go hW))<|ar.bt) ?_;refine W.b9 h q (λgG h=>?_) (λgG h=>?_)
 ·refine W.cN [2,3,4,5] (al (O.ej (cs:=[.aJ,.aJ,.aJ,ay a',ay a']) Kr tb q q q)<|ar.eD (bl.gl [2])<|ar.bt) ?_;refine W.dN (G1:=[(2,.obj [ag bZ ([]:List bX),ag bH ([]:List fE),ag cD ([]:List Prod),ay a',ay a']),(3,_),(4,_),(5,_)]) [2] (.z q q (fl.obj (.z (.z (.z (.f (.f .nil)))))) (.n q q (.n q q (.n q q .nil)))) ?_;exact W.rt<|aA.hI<|aV h ▸ i_ (.c (ys0:=[ag bZ ([]:List bX),ag bH ([]:List fE),ag cD ([]:List Prod),ay a',ay a']) q ja q q q (.f q (.f q (.f q (.f q (.f q .nil))))) (.f q q (.f q q (.f q q .nil))))
 ·refine W.c5<|aA.bw<|aL h λa7 js h=>W.cN [1,2,6] (al (O.mk (en:=cq) (z0:=false) rE .cJ .cJ KV q q js GW q)<|al (O.ej (cs:=[.aJ,.aJ,.aJ,ay a',ay a',.a6 cq.z ⟨30,[]⟩ a7.length,.aJ,.aJ,ae 0,ae 0,ay a',ae 0,ae 0]) Yi Zp q q q)<|al (O.box (.da q q) q)<|ar.q8 (G2:=[(1,.obj (hh.cells a0)),(2,.obj [.aJ,.aJ,.aJ,ay a',ay a'])]) q (bl.A6 (y':=.obj [.aJ,.aJ,.aJ,ay a',ay a',aj cq a7,.aJ,.aJ,ae 0,ae 0,ay a',ae 0,ae 0]) q q (.obj q) (.b q (.f (.f (.f (.f (.f (.r q (.f (.f (.f (.f (.f (.f (.f .nil))))))))))))) .nil) .refl (kY q q) q q)<|bM q) ?_;refine W.cN [1,2,6] (al (O.aX .z4)<|al (O.ej (cs:=[ay (⟨#[36,101,110,100]⟩),a_ false,ae 0,ae 0,ae 0,ay a']) Kp Gu q q q)<|al (O.ej (cs:=[ay (⟨#[101,114,114,111,114]⟩),a_ false,ae (-1),ae 0,ae 0,ay a']) Kp Gu q q q)<|al (O.ej (cs:=[ay (⟨#[36,117,110,107]⟩),a_ false,ae (-1),ae 0,ae 0,ay a']) Kp Gu q q q)<|al (O.dg (ys:=[.agg [ay (⟨#[36,101,110,100]⟩),a_ false,ae 0,ae 0,ae 0,ay a'],.agg [ay (⟨#[101,114,114,111,114]⟩),a_ false,ae (-1),ae 0,ae 0,ay a'],.agg [ay (⟨#[36,117,110,107]⟩),a_ false,ae (-1),ae 0,ae 0,ay a']]) bZ [(⟨⟨#[36,101,110,100]⟩,false,0,0,0,a'⟩:bX),(⟨⟨#[101,114,114,111,114]⟩,false,(-1),0,0,a'⟩:bX),(⟨⟨#[36,117,110,107]⟩,false,(-1),0,0,a'⟩:bX)] FY q q q q q q Zs q q)<|al (O.eV .z5)<|al O.y2<|al O.y2<|ar.eD (bl.s' [1,2,6])<|bM q) ?_;refine W.ct [1,2,6,7] ?_;refine W.bC<|W.ct [1,2,6,7,8] ?_;refine W.b3<|aL h λbS ak h=>W.gR ((⟨(⟨[(⟨⟨#[36,101,110,100]⟩,false,0,0,0,a'⟩:bX),(⟨⟨#[101,114,114,111,114]⟩,false,(-1),0,0,a'⟩:bX),(⟨⟨#[36,117,110,107]⟩,false,(-1),0,0,a'⟩:bX)],[],[],a',a'⟩:bO),a7,[],[],0,0,a',0,0⟩:dv),a',0) (λ(cX:dv × ByteArray × Int)=>[(6,.obj (dR.cells cX.1)),(7,ay cX.2.1),(8,ae cX.2.2)]) [1,2,6,7,8] 0 (λ(bS:dv × ByteArray)=>[(6,.obj (dR.cells bS.1)),(7,ay bS.2)]) [1,2,6,7] ak (λcX o h=>?_) ?_
  ·clear ak;refine W.bC<|W.ct [1,2,6,7,8,45] ?_;refine W.b9 h q (λnE h=>?_) (λnE h=>?_)
   ·refine W.c5<|aA.bw<|W.bC<|W.b3<|aL h λb6 oQ h=>W.cN [1,2,6,7,8,9] (al O.bx<|al (O.c8 (y:=ag dA a0.Decls))<|b2 q<|al (O.eS oQ)<|al (O.ng (cs':=dA.cells b6) .n0 GR q q)<|al (O.fm (cs:=[ae 0,ay a',.aJ,ae 0]) Gv q q)<|ar.eD (bl.gl [1,2,6,7,8,9])<|bM q) ?_;refine W.bC<|aL h λil ah h=>W.kW [1,2,6,7,8,9,60] [(60,a_ il)] ?_ ?_
    ·refine al O.bx<|al O.ee<|al (O.geq .bn .cJ)<|al (O.aX (.lit q)) ?_;rcases fG ah with ⟨nF,ah⟩ | ⟨nF,ah⟩
     ·exact aV ah ▸ ar.bt
     ·exact aV ah ▸ ar.bt
    refine aL h λju ah h=>W.fZ [1,2,6,7,8,9] [(6,.obj [aj bZ cX.1.aG.ba,aj bH cX.1.aG.b1,aj cD cX.1.aG.bh,ay cX.1.aG.cC,ay cX.1.aG.cK,aj cq cX.1.cu,aj bH cX.1.cL,aj dx cX.1.cb,ae cX.1.cZ,ae cX.1.dp,ay cX.1.dm,ae ju,ae cX.1.b_])] ?_ ?_
    ·clear h; have h:=ah; clear ah;refine W.b9 h q (λim h=>?_) (λim h=>?_)
     ·refine W.bV [1,2,6,7,8,9] (al (O.aX .z4)<|al (O.eV .z5)<|al O.y2<|al O.ee<|al (O.add .bn .cJ)<|al (O.eV .z5)<|al O.y2<|ar.eD (bl.np [1,2,6,7,8,9])<|bM q) ?_;exact aV h ▸ aA.d_
     ·exact W.c5<|aV h ▸ aA.d_
    refine aA.bw<|W.ct [1,2,6,7,8,9,10] ?_;refine W.b3<|aL h λek ak h=>W.gR ((⟨cX.1.aG,cX.1.cu,cX.1.cL,cX.1.cb,cX.1.cZ,cX.1.dp,cX.1.dm,ju,cX.1.b_⟩:dv),cX.2.1,0) (λ(fq:dv × ByteArray × Int)=>[(6,.obj (dR.cells fq.1)),(7,ay fq.2.1),(10,ae fq.2.2)]) [1,2,6,7,8,9,10] 2 (λ(ek:dv × ByteArray)=>[(6,.obj (dR.cells ek.1)),(7,ay ek.2)]) [1,2,6,7,8] ak (λfq o h=>?_) ?_
    ·clear ak;refine W.bC<|W.ct [1,2,6,7,8,9,10,72] ?_;refine W.b9 h q (λnB h=>?_) (λnB h=>?_)
     ·refine W.c5<|aA.bw<|W.bC<|aL h λCi ah h=>W.fZ [1,2,6,7,8,9,10] [(6,.obj (dR.cells Ci.1)),(7,ay Ci.2)] ?_ ?_
      ·clear h; have h:=ah; clear ah;refine W.b3<|W.bC<|W.ct [1,2,6,7,8,9,10,77] ?_;refine W.b9 h q (λgr h=>?_) (λgr h=>?_)
       ·refine W.bC<|aL h λeR m_ h=>aL h λdP ue h=>W.rd [[],[],[],[2],[],[2,3,4],[2,3,4,5],aH 0 7 []] [(1,_),(2,_),(6,_),(7,_),(8,_),(9,_),(10,_)] e' (by kernel_rfl) (aD 0 (O.aX .z4)<|aD 1 (O.ed (cs':=dA.cells b6) q .z4 GR q q)<|aD 2 O.bx<|aD 3 (O.c8 (y:=ag dE b6.eL))<|aD 4 (O.aX (.lit q))<|aD 5 (O.eS m_)<|aD 6 (O.ng (cs':=dE.cells eR) .n0 tt q q)<|bA.hy 7 (G2:=[(85,.bW []),(6,.obj (dR.cells dP)),(1,.obj (hh.cells a0)),(2,.obj [.aJ,.aJ,.aJ,ay a',ay a']),(7,ay fq.2.1),(8,ae cX.2.2),(9,.obj (dA.cells b6)),(10,ae fq.2.2)]) (bl.call q q (hJ.nh (G2:=[(1,.obj (hh.cells a0)),(2,.obj [.aJ,.aJ,.aJ,ay a',ay a']),(7,ay fq.2.1),(8,ae cX.2.2),(9,.obj (dA.cells b6)),(10,ae fq.2.2)]) (A:=[]) (ys:=[.ptr ⟨6,[]⟩ 0,.agg (dA.cells b6),.agg (dE.cells eR)]) (args:=[.obj (dR.cells fq.1),.agg (dA.cells b6),.agg (dE.cells eR)]) (cs':=dR.cells dP) (k0:=0) q q q q (.b q (.n q (.n q .nil))) q (bz.go ue) call104 (nW q q q q q q) q q (nW q q q q q q) .nil q))<|bA.fin q q q (rG q q q q q q q)) ?_;exact aA.bw<|W.fb<|aA.fa<|aA.e9<|aV h ▸ aA.d_
       ·refine W.c5<|aA.bw<|W.bC<|W.ct [1,2,6,8,9,10,87] ?_;refine aL h λnQ ah h=>W.fZ [1,2,6,8,9,10] [(6,.obj (dR.cells nQ))] ?_ ?_
        ·clear h; have h:=ah; clear ah;refine W.b9 h q (λr1 h=>?_) (λr1 h=>?_)
         ·refine aL h λfz r' h=>aL h λfL qu h=>aL h λhs qv h=>W.rd [[],[],[1],[],[1,2,3],[1,2,3,4],aH 1 5 [],[],[7],[],[7,8,9],[7,8,9,10],aH 7 5 [],aH 0 13 []] [(1,_),(2,_),(6,_),(8,_),(9,_),(10,_)] e' (by kernel_rfl) (aD 0 (O.aX .z4)<|aD 1 O.bx<|aD 2 (O.c8 (y:=ag dE b6.eL))<|aD 3 (O.aX (.lit q))<|aD 4 (O.eS r')<|aD 5 O.iU<|aD 6 (O.fN (x:=ae fz.At))<|aD 7 O.bx<|aD 8 (O.c8 (y:=ag dE b6.eL))<|aD 9 (O.aX (.lit q))<|aD 10 (O.eS qu)<|aD 11 O.iU<|aD 12 (O.fN (x:=ay fL.Name))<|bA.hy 13 (G2:=[(101,.bW []),(6,.obj (dR.cells hs)),(1,.obj (hh.cells a0)),(2,.obj [.aJ,.aJ,.aJ,ay a',ay a']),(8,ae cX.2.2),(9,.obj (dA.cells b6)),(10,ae fq.2.2)]) (bl.call q q (hJ.nh (G2:=[(1,.obj (hh.cells a0)),(2,.obj [.aJ,.aJ,.aJ,ay a',ay a']),(8,ae cX.2.2),(9,.obj (dA.cells b6)),(10,ae fq.2.2)]) (A:=[]) (ys:=[.ptr ⟨6,[]⟩ 0,ae fz.At,ay fL.Name]) (args:=[.obj (dR.cells fq.1),ae fz.At,ay fL.Name]) (cs':=dR.cells hs) (k0:=0) q q q q (.b q (.n q (.n q .nil))) q (bz.go qv) call105 (jR q q q q q) q q (jR q q q q q) .nil q))<|bA.fin q q q (nW q q q q q q)) ?_;exact aV h ▸ aA.d_
         ·exact W.c5<|aV h ▸ aA.d_
        refine aA.bw<|aL h λgA sQ h=>W.Rk [1,2,6,7,8,9,10] ?_;exact aA.b3<|aV h ▸ aA.d_
      refine aA.bw<|W.bV [1,2,6,7,8,9,10] (b2 q<|al (O.add .bn .cJ)<|ar.bV [1,2,6,7,8,9,74] q<|ar.bt) ?_;exact aV h ▸ aA.gt
     ·exact W.fb<|aA.fa<|aV h ▸ aA.t1
    refine aA.e9<|aA.b3<|aA.bw<|W.bV [1,2,6,7,8] (b2 q<|al (O.add .bn .cJ)<|ar.bV [1,2,6,7,47] q<|ar.bt) ?_;exact aV h ▸ aA.gt
   ·exact W.fb<|aA.fa<|aV h ▸ aA.t1
  refine aA.e9<|aA.bw<|W.bC<|W.ct [1,2,6,7,11] ?_;refine W.b3<|aL h λcY ak h=>W.gR (bS.1,0) (λ(qK:dv × Int)=>[(6,.obj (dR.cells qK.1)),(11,ae qK.2)]) [1,2,6,7,11] 4 (λ(cY:dv)=>[(6,.obj (dR.cells cY))]) [1,2,6,7] ak (λqK o h=>?_) ?_
  ·clear ak;refine W.bC<|W.ct [1,2,6,7,11,112] ?_;refine W.b9 h q (λH5 h=>?_) (λH5 h=>?_)
   ·refine W.c5<|aA.bw<|W.bC<|aL h λuj ah h=>W.fZ [1,2,6,7,11] [(6,.obj (dR.cells uj))] ?_ ?_
    ·clear h; have h:=ah; clear ah;refine W.b3<|aL h λcR xn h=>W.cN [1,2,6,7,11,12] (al O.bx<|al (O.c8 (y:=ag gN a0.dG))<|b2 q<|al (O.eS xn)<|al (O.ng (cs':=gN.cells cR) .n0 LJ q q)<|al (O.fm (cs:=[ay a',.aJ,ae 0]) DF q q)<|ar.eD (bl.gl [1,2,6,7,11,12])<|bM q) ?_;refine W.bC<|aL h λff qx h=>W.cN [1,2,6,7,11,12,125] (al (O.aX .z4)<|al O.bx<|al O.ee<|al (O.ej (cs:=[ay cR.Left,a_ false,ae 0,ae 0]) FP AK q q q)<|gp (cz.pX (ys:=[.ptr ⟨6,[]⟩ 0,.agg [ay cR.Left,a_ false,ae 0,ae 0]]) q (.c (View.nT q q) (.c (.mO (.s (.s (.s (.s .nil))))) .nil)) (bz.go qx))<|ar.bt) ?_;refine aL h λiP ah h=>W.fZ [1,2,6,7,11,12] [(6,.obj (dR.cells iP))] ?_ ?_
     ·clear h; have h:=ah; clear ah;refine W.b9 h q (λUE h=>?_) (λUE h=>?_)
      ·refine aL h λpZ xo h=>W.bV [1,2,6,7,11,12] (al (O.aX .z4)<|al O.bx<|al O.ee<|al O.bx<|al O.ee<|ar.kL q (bl.call q q (hJ.nh (G2:=[(1,.obj (hh.cells a0)),(2,.obj [.aJ,.aJ,.aJ,ay a',ay a']),(7,ay bS.2),(11,ae qK.2),(12,.obj (gN.cells cR))]) (A:=[]) (ys:=[.ptr ⟨6,[]⟩ 0,ae cR.At,ay cR.Left]) (args:=[.obj (dR.cells qK.1),ae cR.At,ay cR.Left]) (cs':=dR.cells pZ) (k0:=0) q q q q (.b q (.n q (.n q .nil))) q (bz.go xo) call105 (jR q q q q q) q q (jR q q q q q) .nil q))<|bM q) ?_;exact aV h ▸ aA.d_
      ·exact W.c5<|aV h ▸ aA.d_
     refine aA.bw<|aL h λj2 pE h=>W.cN [1,2,6,7,11,12,136] (al (O.aX .z4)<|al O.bx<|al O.ee<|gp (cz.pX (ys:=[.ptr ⟨6,[]⟩ 0,ay cR.Left]) q (.c (View.nT q q) (.s .nil)) (bz.go pE))<|ar.bt) ?_;refine aL h λJq ah h=>W.fZ [1,2,6,7,11] [(6,.obj [aj bZ iP.aG.ba,aj bH iP.aG.b1,aj cD iP.aG.bh,ay iP.aG.cC,ay iP.aG.cK,aj cq iP.cu,aj bH iP.cL,aj dx Jq,ae iP.cZ,ae iP.dp,ay iP.dm,ae iP.cr,ae iP.b_])] ?_ ?_
     ·clear h; have h:=ah; clear ah;refine W.b9 h q (λUF h=>?_) (λUF h=>?_)
      ·refine aL h λrI ug h=>W.rd [[],[],[1],[1,2],[1,2,3],[],[5],[5,6],aH 1 7 [],aH 0 9 [],aH 0 10 [],aH 0 11 []] [(1,_),(2,_),(6,_),(7,_),(11,_)] e' (by kernel_rfl) (aD 0 (O.aX .z4)<|aD 1 (O.aX .z4)<|aD 2 (O.eV .z5)<|aD 3 O.y2<|aD 4 (O.c8 (y:=.a6 dx.z ⟨6,[7]⟩ iP.cb.length))<|aD 5 O.bx<|aD 6 O.ee<|bA.fk 7 (x:=ag dx [cR.Left]) (O.dg (ys:=[ay cR.Left]) dx [cR.Left] FW q q q q q q Zw q q) q q q q .none<|aD 8 (O.ap (en:=dx) (r:=rI) .dk q .z2 .i Rn q ug)<|aD 9 (O.eV .z5)<|aD 10 O.y2<|bA.hy 11 (bl.sp [1,2,6,7,11])<|bA.fin q q q (jR q q q q q)) ?_;exact aV h ▸ aA.d_
      ·exact W.c5<|aV h ▸ aA.d_
     exact aA.b3<|aV h ▸ aA.d_
    refine aA.bw<|W.bV [1,2,6,7,11] (b2 q<|al (O.add .bn .cJ)<|ar.bV [1,2,6,7,114] q<|ar.bt) ?_;exact aV h ▸ aA.gt
   ·exact W.fb<|aA.fa<|aV h ▸ aA.t1
  refine aA.e9<|aA.bw<|W.bC<|W.ct [1,2,6,7,13] ?_;refine W.b3<|aL h λhd ak h=>W.gR (cY,0) (λ(qL:dv × Int)=>[(6,.obj (dR.cells qL.1)),(13,ae qL.2)]) [1,2,6,7,13] 6 (λ(hd:dv)=>[(6,.obj (dR.cells hd))]) [1,2,6,7] ak (λqL o h=>?_) ?_
  ·clear ak;refine W.bC<|W.ct [1,2,6,7,13,152] ?_;refine W.b9 h q (λUI h=>?_) (λUI h=>?_)
   ·refine W.c5<|aA.bw<|W.bC<|W.b3<|W.ct [1,2,6,7,13,14] ?_;refine W.b3<|aL h λov ak h=>W.gR (qL.1,0) (λ(qM:dv × Int)=>[(6,.obj (dR.cells qM.1)),(14,ae qM.2)]) [1,2,6,7,13,14] 8 (λ(ov:dv)=>[(6,.obj (dR.cells ov))]) [1,2,6,7,13] ak (λqM o h=>?_) ?_
    ·clear ak;refine W.bC<|aL h λwc Od h=>W.ct [1,2,6,7,13,14,163] ?_;refine W.b9 h q (λUJ h=>?_) (λUJ h=>?_)
     ·refine W.c5<|aA.bw<|W.bC<|aL h λJt ah h=>W.fZ [1,2,6,7,13,14] [(6,.obj (dR.cells Jt))] ?_ ?_
      ·clear h; have h:=ah; clear ah;refine W.b3<|aL h λwe zD h=>aL h λp1 vt h=>W.cN [1,2,6,7,13,14,15] (al O.bx<|al (O.c8 (y:=ag dA a0.Decls))<|b2 q<|al (O.eS zD)<|al O.iU<|al (O.fN (x:=ag dE we.eL))<|b2 q<|al (O.eS vt)<|al (O.ng (cs':=dE.cells p1) .n0 tt q q)<|al (O.fm (cs:=[ay a',a_ false,ae 0,ae 0]) AK q q)<|ar.eD (bl.gl [1,2,6,7,13,14,15])<|bM q) ?_;refine aL h λHb ah h=>W.kW [1,2,6,7,13,14,15,188] [(188,a_ Hb)] ?_ ?_
       ·refine al O.bx<|al (O.c8 (y:=ag dA a0.Decls))<|al (O.aX (.lit q)) ?_;refine aL ah λKM Wl ah=>al (O.eS Wl)<|al O.iU<|al (O.fN (x:=ae KM.Kind))<|al (O.geq .bn .cJ)<|al (O.aX (.lit q)) ?_;rcases fG ah with ⟨BH,ah⟩ | ⟨BH,ah⟩
        ·refine cm BH (O.aX .z4)<|cm BH O.bx<|cm BH O.ee ?_;exact aL ah λkA pF ah=>aV ah ▸ (ar.c (cz.pX (ys:=[.ptr ⟨6,[]⟩ 0,ay p1.Name]) q (.c (View.nT q q) (.s .nil)) (bz.go pF)) q q (.ft q q BH)<|ar.bt)
        ·exact aV ah ▸ ar.bt
       refine aL h λJu ah h=>W.fZ [1,2,6,7,13,14] [(6,.obj (dR.cells Ju))] ?_ ?_
       ·clear h; have h:=ah; clear ah;refine W.b9 h q (λUM h=>?_) (λUM h=>?_)
        ·refine aL h λAI I_ h=>W.bV [1,2,6,7,13,14] (al (O.aX .z4)<|al O.bx<|al O.ee<|al O.bx<|al O.ee<|ar.kL q (bl.call q q (hJ.nh (G2:=[(1,.obj (hh.cells a0)),(2,.obj [.aJ,.aJ,.aJ,ay a',ay a']),(7,ay bS.2),(13,ae qL.2),(14,ae qM.2)]) (A:=[]) (ys:=[.ptr ⟨6,[]⟩ 0,ae p1.At,ay p1.Name]) (args:=[.obj (dR.cells qM.1),ae p1.At,ay p1.Name]) (cs':=dR.cells AI) (k0:=0) q q q q (.b q (.n q (.n q .nil))) q (bz.go I_) call105 (jR q q q q q) q q (jR q q q q q) .nil q))<|bM q) ?_;exact aV h ▸ aA.d_
        ·exact W.c5<|aV h ▸ aA.d_
       exact aA.b3<|aV h ▸ aA.d_
      refine aA.bw<|W.bV [1,2,6,7,13,14] (b2 q<|al (O.add .bn .cJ)<|ar.bV [1,2,6,7,13,165] q<|ar.bt) ?_;exact aV h ▸ aA.gt
     ·exact W.fb<|aA.fa<|aV h ▸ aA.t1
    refine aA.e9<|aA.b3<|aA.bw<|W.bV [1,2,6,7,13] (b2 q<|al (O.add .bn .cJ)<|ar.bV [1,2,6,7,154] q<|ar.bt) ?_;exact aV h ▸ aA.gt
   ·exact W.fb<|aA.fa<|aV h ▸ aA.t1
  refine aA.e9<|aA.bw<|W.bC<|W.ct [1,2,6,7,196] ?_;refine aL h λxA ah h=>W.fZ [1,2,6,7] [(7,ay xA)] ?_ ?_
  ·clear h; have h:=ah; clear ah;refine W.b9 h q (λUO h=>?_) (λUO h=>?_)
   ·refine aL h λwg Cc h=>W.bV [1,2,6,7] (al O.bx<|al (O.c8 (y:=ag gN a0.dG))<|al (O.rj .z2 .cJ uE Cc)<|al O.iU<|al (O.fN (x:=ay wg.Left))<|ar.bV [1,2,6,201] q<|ar.bt) ?_;exact aV h ▸ aA.d_
   ·exact W.c5<|aV h ▸ aA.d_
  refine aA.bw<|aL h λmH Wr h=>W.cN [1,2,6] (al (O.aX .z4)<|al (O.aX .z4)<|b2 q<|gp (cz.pX (ys:=[.ptr ⟨6,[]⟩ 0,ay xA]) q (.c (View.nT q q) (.s .nil)) (bz.go Wr))<|al (O.add .cJ .bn)<|ar.fk (x:=ag ai [aK (1001+mH)]) (O.dg (ys:=[ae (aK (1001+mH))]) ai [aK (1001+mH)] gJ q q q q q q mh q q) q q .none<|ar.fk (x:=.agg [ae 0,ag ai [aK (1001+mH)],ae (-1),ay a',ag ai ([]:List Int),ae 0]) (O.ej (cs:=[ae 0,ag ai [aK (1001+mH)],ae (-1),ay a',.aJ,ae 0]) Ks DE q q q) q q .none<|al (O.dg (ys:=[.agg [ae 0,ag ai [aK (1001+mH)],ae (-1),ay a',ag ai ([]:List Int),ae 0]]) cD [(⟨0,[aK (1001+mH)],(-1),a',([]:List Int),0⟩:Prod)] FZ q q q q q q KX q q)<|al (O.eV .z5)<|al O.y2<|al O.y2<|ar.eD (bl.s' [1,2,6])<|bM q) ?_;refine W.bC<|W.ct [1,2,6,16] ?_;refine W.b3<|aL h λbu ak h=>W.gR ((⟨(⟨hd.aG.ba,hd.aG.b1,[(⟨0,[aK (1001+mH)],(-1),a',([]:List Int),0⟩:Prod)],hd.aG.cC,hd.aG.cK⟩:bO),hd.cu,hd.cL,hd.cb,hd.cZ,hd.dp,hd.dm,hd.cr,hd.b_⟩:dv),0) (λ(pU:dv × Int)=>[(6,.obj (dR.cells pU.1)),(16,ae pU.2)]) [1,2,6,16] 10 (λ(bu:dv)=>[(6,.obj (dR.cells bu))]) [1,2,6] ak (λpU o h=>?_) ?_
  ·clear ak;refine W.bC<|W.ct [1,2,6,16,217] ?_;refine W.b9 h q (λUP h=>?_) (λUP h=>?_)
   ·refine W.c5<|aA.bw<|W.bC<|W.b3<|W.ct [1,2,6,16,17] ?_;refine W.b3<|aL h λkB ak h=>W.gR (pU.1,0) (λ(rB:dv × Int)=>[(6,.obj (dR.cells rB.1)),(17,ae rB.2)]) [1,2,6,16,17] 12 (λ(kB:dv)=>[(6,.obj (dR.cells kB))]) [1,2,6,16] ak (λrB o h=>?_) ?_
    ·clear ak;refine W.bC<|aL h λDz Og h=>W.ct [1,2,6,16,17,228] ?_;refine W.b9 h q (λUR h=>?_) (λUR h=>?_)
     ·refine W.c5<|aA.bw<|W.bC<|W.b3<|aL h λDA Wt h=>aL h λKP Wu h=>aL h λDB Wv h=>aL h λGr Ww h=>W.rd [[],[],[1],[],[1,2,3],[1,2,3,4],aH 1 5 [],[],[7],[],[7,8,9],[7,8,9,10],aH 7 5 [],[],aH 7 7 [],aH 7 8 [],aH 0 16 []] [(1,_),(2,_),(6,_),(16,_),(17,_)] e' (by kernel_rfl) (aD 0 (O.aX .z4)<|aD 1 O.bx<|aD 2 (O.c8 (y:=ag gN a0.dG))<|aD 3 (O.aX (.lit q))<|aD 4 (O.eS Wt)<|aD 5 O.iU<|aD 6 (O.fN (x:=ay DA.Left))<|aD 7 O.bx<|aD 8 (O.c8 (y:=ag gN a0.dG))<|aD 9 (O.aX (.lit q))<|aD 10 (O.eS Wu)<|aD 11 O.iU<|aD 12 (O.fN (x:=ag e2 KP.eK))<|aD 13 (O.aX (.lit q))<|aD 14 (O.eS Wv)<|aD 15 (O.ng (cs':=e2.cells DB) .n0 GQ q q)<|bA.hy 16 (G2:=[(247,.bW []),(6,.obj (dR.cells Gr)),(1,.obj (hh.cells a0)),(2,.obj [.aJ,.aJ,.aJ,ay a',ay a']),(16,ae pU.2),(17,ae rB.2)]) (bl.call q q (hJ.nh (G2:=[(1,.obj (hh.cells a0)),(2,.obj [.aJ,.aJ,.aJ,ay a',ay a']),(16,ae pU.2),(17,ae rB.2)]) (A:=[]) (ys:=[.ptr ⟨6,[]⟩ 0,ay DA.Left,.agg (e2.cells DB)]) (args:=[.obj (dR.cells rB.1),ay DA.Left,.agg (e2.cells DB)]) (cs':=dR.cells Gr) (k0:=0) q q q q (.b q (.n q (.n q .nil))) q (bz.go Ww) call108 (o3 q q q q) q q (o3 q q q q) .nil q))<|bA.fin q q q (jR q q q q q)) ?_;refine aA.b3<|aA.bw<|W.bV [1,2,6,16,17] (b2 q<|al (O.add .bn .cJ)<|ar.bV [1,2,6,16,230] q<|ar.bt) ?_;exact aV h ▸ aA.gt
     ·exact W.fb<|aA.fa<|aV h ▸ aA.t1
    refine aA.e9<|aA.b3<|aA.bw<|W.bV [1,2,6,16] (b2 q<|al (O.add .bn .cJ)<|ar.bV [1,2,6,219] q<|ar.bt) ?_;exact aV h ▸ aA.gt
   ·exact W.fb<|aA.fa<|aV h ▸ aA.t1
  refine aA.e9<|aA.bw<|W.bC<|W.ct [1,2,6,252] ?_;refine W.b9 h q (λUS h=>?_) (λUS h=>?_)
  ·refine W.bC<|W.rd [[],[],[1],[1,2],[1,2,3],[],[5],[5,6],[5,6,7],[],[9],[9,10],[9,10,11],[0],aH 0 5 [13],aH 0 9 [13,14],aH 0 16 []] [(2,_),(3,_),(4,_),(5,_)] e' (by kernel_rfl) (aD 0 (O.ej (cs:=[.aJ,.aJ,.aJ,ay a',ay a']) Kr tb q q q)<|aD 1 (O.aX .z4)<|aD 2 (O.eV .z5)<|aD 3 O.y2<|aD 4 O.ee<|aD 5 (O.aX .z4)<|aD 6 (O.eV .z5)<|aD 7 O.y2<|aD 8 O.ee<|aD 9 (O.aX .z4)<|aD 10 (O.eV .z5)<|aD 11 O.y2<|aD 12 O.ee<|bA.ej 13 (G2:=[(2,.obj [.aJ,.aJ,.aJ,ay a',ay a']),(6,.obj (dR.cells bu))]) (U:=[(12,265,some (ay bu.dm)),(11,264,some (.ptr ⟨6,[]⟩ 10)),(10,263,some (.ptr ⟨6,[]⟩ 0)),(9,262,some (.ptr ⟨6,[]⟩ 0)),(8,261,some (ae bu.dp)),(7,260,some (.ptr ⟨6,[]⟩ 9)),(6,259,some (.ptr ⟨6,[]⟩ 0)),(5,258,some (.ptr ⟨6,[]⟩ 0)),(4,257,some (ae bu.cZ)),(3,256,some (.ptr ⟨6,[]⟩ 8)),(2,255,some (.ptr ⟨6,[]⟩ 0)),(1,254,some (.ptr ⟨6,[]⟩ 0))]) (iy.v (bl.j_ (bl.jh (G2:=[(2,.obj [.aJ,.aJ,.aJ,ay a',ay a']),(6,.obj (dR.cells bu))]) (cs2:=[.aJ,.aJ,.aJ,ay a',ay a']) q q q (.obj q) (.da q q) q F2 q q q q (.b q (.n q q .nil))))) q q (by kernel_rfl) q q q (.c (.inr (.inl ⟨_,q⟩)) q q q q q (fv.wanted .none) (O.oT q .z5 wQ q) (.c (.inr (.inr (.inr (.inl ⟨6,_,_,q,q,hX q,by simp,_,q,hX q⟩)))) q q q q q (fv.wanted .none) (O.kr q .z5 Tj q) (.c (.inr (.inr (.inr (.inl ⟨6,_,_,q,q,hX q,by simp,_,q,hX q⟩)))) q q q q q (fv.wanted .none) (O.eV .z5) (.c (.inr (.inr (.inr (.inl ⟨6,_,_,q,q,hX q,by simp,_,q,hX q⟩)))) q q q q q (fv.wanted .none) (O.aX .z4) (.c (.inr (.inl ⟨_,q⟩)) q q q q q (fv.wanted .none) (O.oT q .z5 oI q) (.c (.inr (.inr (.inr (.inl ⟨6,_,_,q,q,hX q,by simp,_,q,hX q⟩)))) q q q q q (fv.wanted .none) (O.kr q .z5 Ti q) (.c (.inr (.inr (.inr (.inl ⟨6,_,_,q,q,hX q,by simp,_,q,hX q⟩)))) q q q q q (fv.wanted .none) (O.eV .z5) (.c (.inr (.inr (.inr (.inl ⟨6,_,_,q,q,hX q,by simp,_,q,hX q⟩)))) q q q q q (fv.wanted .none) (O.aX .z4) (.c (.inr (.inl ⟨_,q⟩)) q q q q q (fv.wanted .none) (O.oT q .z5 oI q) (.c (.inr (.inr (.inr (.inl ⟨6,_,_,q,q,hX q,by simp,_,q,hX q⟩)))) q q q q q (fv.wanted .none) (O.kr q .z5 Th q) (.c (.inr (.inr (.inr (.inl ⟨6,_,_,q,q,hX q,by simp,_,q,hX q⟩)))) q q q q q (fv.wanted .none) (O.eV .z5) (.c (.inr (.inr (.inr (.inl ⟨6,_,_,q,q,hX q,by simp,_,q,hX q⟩)))) q q q q q (fv.wanted .none) (O.aX .z4) .nil)))))))))))) (by kernel_rfl)<|aD 14 (O.az (.lit q))<|aD 15 (O.az (.lit q))<|aD 16 (O.az (.lit q))<|bA.fin q q q (o3 q q q q)) ?_;refine aA.bw<|W.dN (G1:=[(2,.obj [ag bZ ([]:List bX),ag bH ([]:List fE),ag cD ([]:List Prod),ay a',ay a']),(3,_),(4,_),(5,_)]) [2] (.z q q (fl.obj (.z (.z (.z (.f (.f .nil)))))) (.n q q (.n q q (.n q q .nil)))) ?_;exact W.rt<|aA.hI<|aV h ▸ i_ (.c (ys0:=[ag bZ ([]:List bX),ag bH ([]:List fE),ag cD ([]:List Prod),ay a',ay a']) q ja q q q (.f q (.f q (.f q (.f q (.f q .nil))))) (.f q q (.f q q (.f q q .nil))))
  ·refine W.c5<|aA.bw<|W.cN [1,2,6] (al (O.aX .z4)<|al (O.ej (cs:=[ay (⟨#[36,97,99,99,101,112,116]⟩),ay a']) FN DD q q q)<|al (O.dg (ys:=[.agg [ay (⟨#[36,97,99,99,101,112,116]⟩),ay a']]) bH [(⟨⟨#[36,97,99,99,101,112,116]⟩,a'⟩:fE)] yk q q q q q q Gw q q)<|al (O.eV .z5)<|al O.y2<|al O.y2<|ar.eD (bl.s' [1,2,6])<|bM q) ?_;refine W.bC<|W.ct [1,2,6,18] ?_;refine W.b3<|aL h λuK ak h=>W.gR ([(⟨⟨#[36,97,99,99,101,112,116]⟩,a'⟩:fE)],0) (λ(rC:List fE × Int)=>[(6,.obj [aj bZ bu.aG.ba,aj bH rC.1,aj cD bu.aG.bh,ay bu.aG.cC,ay bu.aG.cK,aj cq bu.cu,aj bH bu.cL,aj dx bu.cb,ae bu.cZ,ae bu.dp,ay bu.dm,ae bu.cr,ae bu.b_]),(18,ae rC.2)]) [1,2,6,18] 14 (λ(uK:List fE)=>[(6,.obj [aj bZ bu.aG.ba,aj bH uK,aj cD bu.aG.bh,ay bu.aG.cC,ay bu.aG.cK,aj cq bu.cu,aj bH bu.cL,aj dx bu.cb,ae bu.cZ,ae bu.dp,ay bu.dm,ae bu.cr,ae bu.b_])]) [1,2,6] ak (λrC o h=>?_) ?_
   ·clear ak;refine W.bC<|W.ct [1,2,6,18,278] ?_;refine W.b9 h q (λUT h=>?_) (λUT h=>?_)
    ·refine W.c5<|aA.bw<|W.bC<|W.b3<|aL h λqP Oh h=>W.cN [1,2,6,18,19] (al (O.aX .z4)<|al (O.eV .z5)<|al O.y2<|al (O.c8 (y:=.a6 dx.z ⟨6,[7]⟩ bu.cb.length))<|b2 q<|al (O.gh (en:=dx) q .dk .bn FW Oh q)<|al (O.iQ (en:=dx) (x':=ay qP) q .z5 wQ Oh q q)<|al (O.ej (cs:=[ay qP,ay a']) FN DD q q q)<|al (O.fm (cs:=[ay a',ay a']) DD q q)<|ar.eD (bl.gl [1,2,6,18,19])<|bM q) ?_;refine W.bC<|aL h λyt Wx h=>W.cN [1,2,6,18,19,20] (al (O.aX .z4)<|al O.bx<|al O.ee<|gp (cz.pX (ys:=[.ptr ⟨6,[]⟩ 0,ay qP]) q (.c (View.nT q q) (.s .nil)) (bz.go Wx))<|ar.bt) ?_;refine W.ct [1,2,6,18,19,20,294] ?_;refine aL h λuk ah h=>W.fZ [1,2,6,18,19] [(19,.obj [ay qP,ay uk])] ?_ ?_
     ·clear h; have h:=ah; clear ah;refine W.b9 h q (λUU h=>?_) (λUU h=>?_)
      ·refine aL h λKQ Ja h=>W.bV [1,2,6,18,19] (al (O.aX .z4)<|al (O.eV .z5)<|al O.y2<|al (O.c8 (y:=.a6 bH.z ⟨6,[6]⟩ bu.cL.length))<|b2 q<|al (O.gh (en:=bH) q .dk .bn yk Ja q)<|al (O.j' (en:=bH) q .z5 Mz Ja q q)<|al (O.iQ (en:=bH) (x':=ay KQ.Tag) q .z5 wQ Ja q q)<|al O.bx<|ar.eD (bl.np [1,2,6,18,19])<|bM q) ?_;exact aV h ▸ aA.d_
      ·exact W.c5<|aV h ▸ aA.d_
     refine aA.bw<|aL h λQv Wy h=>W.rd [[],[],[1],[1,2],[1,2,3],[1,2,3,4],[],[6],aH 1 7 [],aH 0 9 [],aH 0 10 [],aH 0 11 [],aH 0 12 []] [(1,_),(2,_),(6,_),(18,_)] e' (by kernel_rfl) (aD 0 (O.aX .z4)<|aD 1 (O.aX .z4)<|aD 2 (O.eV .z5)<|aD 3 O.y2<|aD 4 O.y2<|aD 5 (O.c8 (y:=.a6 bH.z ⟨6,[1]⟩ rC.1.length))<|aD 6 (O.ed (cs':=[ay qP,ay uk]) q .z4 RG q q)<|bA.fk 7 (x:=ag bH [(⟨qP,uk⟩:fE)]) (O.dg (ys:=[.agg [ay qP,ay uk]]) bH [(⟨qP,uk⟩:fE)] yk q q q q q q Gw q q) q q q q .none<|aD 8 (O.ap (en:=bH) (r:=Qv) .dk q .z2 .i GL q Wy)<|aD 9 (O.eV .z5)<|aD 10 O.y2<|aD 11 O.y2<|bA.hy 12 (bl.sp [1,2,6,18])<|bA.fin q q q (o3 q q q q)) ?_;refine aA.b3<|aA.bw<|W.bV [1,2,6,18] (b2 q<|al (O.add .bn .cJ)<|ar.bV [1,2,6,280] q<|ar.bt) ?_;exact aV h ▸ aA.gt
    ·exact W.fb<|aA.fa<|aV h ▸ aA.t1
   refine aA.e9<|aA.bw<|W.bC<|W.ct [1,2,6,21] ?_;refine W.b3<|aL h λk1 ak h=>W.gR (uK,1) (λ(sl:List fE × Int)=>[(6,.obj [aj bZ bu.aG.ba,aj bH sl.1,aj cD bu.aG.bh,ay bu.aG.cC,ay bu.aG.cK,aj cq bu.cu,aj bH bu.cL,aj dx bu.cb,ae bu.cZ,ae bu.dp,ay bu.dm,ae bu.cr,ae bu.b_]),(21,ae sl.2)]) [1,2,6,21] 16 (λ(k1:List fE)=>[(6,.obj [aj bZ bu.aG.ba,aj bH k1,aj cD bu.aG.bh,ay bu.aG.cC,ay bu.aG.cK,aj cq bu.cu,aj bH bu.cL,aj dx bu.cb,ae bu.cZ,ae bu.dp,ay bu.dm,ae bu.cr,ae bu.b_])]) [1,2,6] ak (λsl o h=>?_) ?_
   ·clear ak;refine W.bC<|W.ct [1,2,6,21,321] ?_;refine W.b9 h q (λUW h=>?_) (λUW h=>?_)
    ·refine W.c5<|aA.bw<|W.bC<|W.b3<|aL h λGs Wz h=>aL h λwh WA h=>aL h λQw WB h=>W.rd [[],[],[1],[1,2],[1,2,3],[1,2,3,4],[],[6],[6,7],[6,7,8],[6,7,8,9],aH 1 10 [],aH 0 12 [],aH 0 13 [],aH 0 14 [],aH 0 15 []] [(1,_),(2,_),(6,_),(21,_)] e' (by kernel_rfl) (aD 0 (O.aX .z4)<|aD 1 (O.aX .z4)<|aD 2 (O.eV .z5)<|aD 3 O.y2<|aD 4 O.y2<|aD 5 (O.c8 (y:=.a6 bH.z ⟨6,[1]⟩ sl.1.length))<|aD 6 (O.aX (.lit q))<|h2 7 (cz.eU (.cd (.lit q) .nil) (bz.go Wz))<|aD 8 (O.cat .cJ .bn WA)<|aD 9 (O.ej (cs:=[ay wh,ay a']) FN DD q q q)<|bA.fk 10 (x:=ag bH [(⟨wh,a'⟩:fE)]) (O.dg (ys:=[.agg [ay wh,ay a']]) bH [(⟨wh,a'⟩:fE)] yk q q q q q q Gw q q) q q q q .none<|aD 11 (O.ap (en:=bH) (r:=Qw) .dk q .z2 .i GL q WB)<|aD 12 (O.eV .z5)<|aD 13 O.y2<|aD 14 O.y2<|bA.hy 15 (bl.sp [1,2,6,21])<|bA.fin q q q (o3 q q q q)) ?_;refine aA.b3<|aA.bw<|W.bV [1,2,6,21] (b2 q<|al (O.add .bn .cJ)<|ar.bV [1,2,6,323] q<|ar.bt) ?_;exact aV h ▸ aA.gt
    ·exact W.fb<|aA.fa<|aV h ▸ aA.t1
   refine aA.e9<|aA.bw<|W.ct [1,2,6,22] ?_;refine W.bC<|W.ct [1,2,6,22,23] ?_;refine W.b3<|aL h λmg ak h=>W.gR (bu.aG.ba,57346,3) (λ(me:List bX × Int × Int)=>[(6,.obj [aj bZ me.1,aj bH k1,aj cD bu.aG.bh,ay bu.aG.cC,ay bu.aG.cK,aj cq bu.cu,aj bH bu.cL,aj dx bu.cb,ae bu.cZ,ae bu.dp,ay bu.dm,ae bu.cr,ae bu.b_]),(22,ae me.2.1),(23,ae me.2.2)]) [1,2,6,22,23] 18 (λ(mg:List bX)=>[(6,.obj [aj bZ mg,aj bH k1,aj cD bu.aG.bh,ay bu.aG.cC,ay bu.aG.cK,aj cq bu.cu,aj bH bu.cL,aj dx bu.cb,ae bu.cZ,ae bu.dp,ay bu.dm,ae bu.cr,ae bu.b_])]) [1,2,6] ak (λme o h=>?_) ?_
   ·clear ak;refine W.bC<|W.ct [1,2,6,22,23,346] ?_;refine W.b9 h q (λUX h=>?_) (λUX h=>?_)
    ·refine W.c5<|aA.bw<|W.bC<|aL h λCj ah h=>W.fZ [1,2,6,22,23] [(6,.obj [aj bZ Cj.1,aj bH k1,aj cD bu.aG.bh,ay bu.aG.cC,ay bu.aG.cK,aj cq bu.cu,aj bH bu.cL,aj dx bu.cb,ae bu.cZ,ae bu.dp,ay bu.dm,ae bu.cr,ae bu.b_]),(22,ae Cj.2)] ?_ ?_
     ·clear h; have h:=ah; clear ah;refine W.b3<|aL h λKK Oc h=>W.cN [1,2,6,22,23,356] (al (O.aX .z4)<|al (O.eV .z5)<|al O.y2<|al (O.c8 (y:=.a6 cq.z ⟨6,[5]⟩ bu.cu.length))<|b2 q<|al (O.gh (en:=cq) q .dk .bn rE Oc q)<|al (O.iQ (en:=cq) (x':=a_ KK) q .z5 za Oc q q)<|ar.bt) ?_;refine aL h λCh ah h=>W.fZ [1,2,6,22,23] [(6,.obj [aj bZ Ch.1,aj bH k1,aj cD bu.aG.bh,ay bu.aG.cC,ay bu.aG.cK,aj cq bu.cu,aj bH bu.cL,aj dx bu.cb,ae bu.cZ,ae bu.dp,ay bu.dm,ae bu.cr,ae bu.b_]),(22,ae Ch.2)] ?_ ?_
      ·clear h; have h:=ah; clear ah;refine W.b9 h q (λUy h=>?_) (λUy h=>?_)
       ·refine aL h λsn I1 h=>W.cN [1,2,6,22,23] (al (O.aX .z4)<|al (O.eV .z5)<|al O.y2<|al O.y2<|al (O.c8 (y:=.a6 bZ.z ⟨6,[0]⟩ me.1.length))<|b2 q<|b2 q<|al (O.gh (en:=bZ) q .dk .bn FY I1 q)<|al (O.j' (en:=bZ) q .z5 Mw I1 q q)<|ar.eD (bl.rD (en:=bZ) (y2:=(⟨sn.Name,sn.Lit,me.2.1,sn.Level,sn.fu,sn.Tag⟩:bX)) [1,2,6,22,23] I1)<|bM q) ?_;refine W.bV [1,2,6,22,23] (b2 q<|al (O.add .bn .cJ)<|ar.bV [1,2,6,23,367] q<|ar.bt) ?_;exact aV h ▸ aA.d_
       ·exact W.c5<|aV h ▸ aA.d_
      exact aA.b3<|aV h ▸ aA.d_
     refine aA.bw<|W.bV [1,2,6,22,23] (b2 q<|al (O.add .bn .cJ)<|ar.bV [1,2,6,22,348] q<|ar.bt) ?_;exact aV h ▸ aA.gt
    ·exact W.fb<|aA.fa<|aV h ▸ aA.t1
   refine aA.e9<|aA.bw<|aL h λuY ah h=>W.kW [1,2,6,24] [(24,a_ uY)] ?_ ?_
   ·refine al (O.aX .z4)<|al (O.eV .z5)<|al O.y2<|al O.y2<|al (O.c8 (y:=.a6 bZ.z ⟨6,[0]⟩ mg.length))<|al (O.mB .dk FY)<|al (O.gtr .bn .cJ)<|al (O.aX (.lit q)) ?_;rcases fG ah with ⟨tM,ah⟩ | ⟨tM,ah⟩
    ·exact aV ah ▸ ar.bt
    ·refine cm tM (O.aX .z4)<|cm tM (O.eV .z5)<|cm tM O.y2<|cm tM O.y2<|cm tM (O.c8 (y:=.a6 bH.z ⟨6,[1]⟩ k1.length))<|cm tM (O.mB .dk yk)<|cm tM (O.gtr .bn .cJ)<|al (O.dB .bn tM .bn)<|al (O.aX (.lit q)) ?_;rcases fG ah with ⟨Ni,ah⟩ | ⟨Ni,ah⟩
     ·exact aV ah ▸ ar.bt
     ·exact aV ah ▸ (cm Ni (O.aX .z4)<|ar.bt)
   refine W.bC<|W.ct [1,2,6,24,25] ?_;refine W.b3<|aL h λAH ak h=>W.gR (uY,0) (λ(s7:Bool × Int)=>[(24,a_ s7.1),(25,ae s7.2)]) [1,2,6,24,25] 20 (λ(AH:Bool)=>[(24,a_ AH)]) [1,2,6,24] ak (λs7 o h=>?_) ?_
   ·clear ak;refine W.bC<|W.ct [1,2,6,24,25,400] ?_;refine W.b9 h q (λUz h=>?_) (λUz h=>?_)
    ·refine W.c5<|aA.bw<|W.bC<|W.b3<|aL h λG3 ah h=>W.rx [(1,.obj (hh.cells a0)),(2,.obj [.aJ,.aJ,.aJ,ay a',ay a']),(6,.obj [aj bZ mg,aj bH k1,aj cD bu.aG.bh,ay bu.aG.cC,ay bu.aG.cK,aj cq bu.cu,aj bH bu.cL,aj dx bu.cb,ae bu.cZ,ae bu.dp,ay bu.dm,ae bu.cr,ae bu.b_]),(24,a_ G3),(25,ae s7.2)] ?_ ?_
     ·refine b2 q<|al (O.aX (.lit q)) ?_;rcases fG ah with ⟨kb,ah⟩ | ⟨kb,ah⟩
      ·exact aV ah ▸ (gC kb<|gC kb<|gC kb<|gC kb<|gC kb<|gC kb<|gC kb<|gC kb<|gC kb<|gC kb<|gC kb<|al (O.hS .bn kb .cJ)<|ar.bV [1,2,6,25,416] q<|ar.bt)
      ·refine cm kb (O.aX .z4)<|cm kb (O.eV .z5)<|cm kb O.y2<|cm kb O.y2<|cm kb (O.c8 (y:=.a6 cD.z ⟨6,[2]⟩ bu.aG.bh.length))<|cm kb (O.aX (.lit q)) ?_;exact aL ah λKL I2 ah=>aV ah ▸ (cm kb (O.gh (en:=cD) q .dk .bn FZ I2 q)<|cm kb (O.j' (en:=cD) q .z5 MB I2 q q)<|cm kb (O.iQ (en:=cD) (x':=ag ai KL.eI) q .z5 uZ I2 q q)<|cm kb O.iV<|cm kb (O.gtr .bn .cJ)<|al (O.dB .bn kb .bn)<|ar.bV [1,2,6,25,416] q<|ar.bt)
     refine aA.b3<|aA.bw<|W.bV [1,2,6,24,25] (b2 q<|al (O.add .bn .cJ)<|ar.bV [1,2,6,24,402] q<|ar.bt) ?_;exact aV h ▸ aA.gt
    ·exact W.fb<|aA.fa<|aV h ▸ aA.t1
   refine aA.e9<|aA.bw<|W.bC<|W.ct [1,2,6,417] ?_;refine W.b9 h q (λUA h=>?_) (λUA h=>?_)
   ·refine W.cN [2,3,4,5] (al (O.ej (cs:=[.aJ,.aJ,.aJ,ay a',ay a']) Kr tb q q q)<|ar.eD (bl.gl [2])<|ar.bt) ?_;refine W.dN (G1:=[(2,.obj [ag bZ ([]:List bX),ag bH ([]:List fE),ag cD ([]:List Prod),ay a',ay a']),(3,_),(4,_),(5,_)]) [2] (.z q q (fl.obj (.z (.z (.z (.f (.f .nil)))))) (.n q q (.n q q (.n q q .nil)))) ?_;exact W.rt<|aA.hI<|aV h ▸ i_ (.c (ys0:=[ag bZ ([]:List bX),ag bH ([]:List fE),ag cD ([]:List Prod),ay a',ay a']) q ja q q q (.f q (.f q (.f q (.f q (.f q .nil))))) (.f q q (.f q q (.f q q .nil))))
   ·refine W.c5<|aA.bw<|W.bC<|W.rd [[],[],[],[2],[],[4],[0,2,3],[0,2,3,6],[0,2,3,6,7],[0,2,3,6,7,8],aH 0 10 [],aH 0 11 [],aH 0 12 [],aH 0 13 []] [(2,_),(6,_)] e' (by kernel_rfl) (aD 0 (O.aX .z4)<|aD 1 (O.aX .z4)<|aD 2 O.bx<|aD 3 O.ee<|aD 4 O.bx<|aD 5 O.ee<|aD 6 (O.eV .z5)<|aD 7 O.y2<|aD 8 O.y2<|bA.ej 9 (G2:=[(1,.obj (hh.cells a0)),(2,.obj [.aJ,.aJ,.aJ,ay a',ay a']),(6,.obj [aj bZ mg,aj bH k1,aj cD bu.aG.bh,ay a0.cC,ay bu.aG.cK,aj cq bu.cu,aj bH bu.cL,aj dx bu.cb,ae bu.cZ,ae bu.dp,ay bu.dm,ae bu.cr,ae bu.b_])]) (U:=[(5,424,some (ay a0.cK)),(4,423,some (.ptr ⟨1,[]⟩ 3)),(1,420,some (.ptr ⟨6,[]⟩ 0))]) (iy.v (bl.j_ (bl.jh (G2:=[(1,.obj (hh.cells a0)),(2,.obj [.aJ,.aJ,.aJ,ay a',ay a']),(6,.obj [aj bZ mg,aj bH k1,aj cD bu.aG.bh,ay a0.cC,ay bu.aG.cK,aj cq bu.cu,aj bH bu.cL,aj dx bu.cb,ae bu.cZ,ae bu.dp,ay bu.dm,ae bu.cr,ae bu.b_])]) (cs2:=[aj bZ mg,aj bH k1,aj cD bu.aG.bh,ay a0.cC,ay bu.aG.cK,aj cq bu.cu,aj bH bu.cL,aj dx bu.cb,ae bu.cZ,ae bu.dp,ay bu.dm,ae bu.cr,ae bu.b_]) q q q (.ptr q) (.lit q) q Qe q q q q (.n q q (.n q q (.b q .nil)))))) q q (by kernel_rfl) q q q (.c (.inr (.inl ⟨_,q⟩)) q q q q q (fv.wanted .none) (O.oT q .z5 wQ q) (.c (.inr (.inr (.inr (.inl ⟨1,_,_,q,q,hX q,by simp,_,q,hX q⟩)))) q q q q q (fv.wanted .none) (O.kr q .z4 Tk q) (.c (.inr (.inr (.inr (.inl ⟨6,_,_,q,q,hX q,by simp,_,q,hX q⟩)))) q q q q q (fv.wanted .none) (O.aX .z4) .nil))) (by kernel_rfl)<|aD 10 (O.eV .z5)<|aD 11 O.y2<|aD 12 O.y2<|bA.hy 13 (bl.np [2,6])<|bA.fin q q q (kY q q)) ?_;refine aA.bw<|W.bC<|W.dN (G1:=[(2,_),(6,.obj [ag bZ mg,ag bH k1,ag cD bu.aG.bh,ay a0.cC,ay a0.cK,aj cq bu.cu,aj bH bu.cL,aj dx bu.cb,ae bu.cZ,ae bu.dp,ay bu.dm,ae bu.cr,ae bu.b_])]) [6] (.n q q (.z q q (fl.obj (.z (.z (.z (.f (.f (.f (.f (.f (.f (.f (.f (.f (.f .nil)))))))))))))) .nil)) ?_;refine W.bV [2,3,4,5] (al (O.aX .z4)<|al (O.eV .z5)<|al O.y2<|al (O.ed (cs':=[ag bZ mg,ag bH k1,ag cD bu.aG.bh,ay a0.cC,ay a0.cK]) q .z5 ja q q)<|ar.eD (bl.gl [2])<|ar.bt) ?_;exact aA.bw<|W.rt<|aV h ▸ i_ (.c (ys0:=[ag bZ mg,ag bH k1,ag cD bu.aG.bh,ay a0.cC,ay a0.cK]) q ja q q q (.f q (.f q (.f q (.f q (.f q .nil))))) (.f q q (.f q q (.f q q .nil))))
instance abb {a0:Source}{r:bO × Int × Int × ByteArray}:bz prog 77 (vW a0=some r) [.agg (hh.cells a0)] [none] (.bW [.agg (dt.cells r.1),ae r.2.1,ae r.2.2.1,ay r.2.2.2]):=⟨SM a0 _⟩
instance aa1 {a0:Source}{r:bO × Bool}:bz prog 62 (x4 a0=some r) [.agg (hh.cells a0)] [none] (.bW [.agg (dt.cells r.1),a_ r.2]):=⟨λh=>by unfold x4 at h; exact bT.bt (N:=⟨18,[]⟩) [1,2,3,4,5] .e func62 rfl rfl rfl rfl rfl dH⟩
instance aa0 {a0:(List Int)}{aE:Int}{r:(List Int)}:bz prog 61 (pS a0 aE=some r) [ag ai a0,ae aE] [none,none] (ag ai r):=⟨λh=>by unfold pS at h; exact bT.bt (N:=⟨47,[]⟩) [0,1,4,5,6,19,32] (.eO (λ(s1:Int)=>[(5,ae s1)]) [0,1,5] 0 (λ(x2:Int)=>[(5,ae x2)]) [0,1,5] (.ev 2 [0,1,5,19] (λ(oF:Bool)=>[(19,a_ oF)]) .e) (.ev 4 [0,1,5,32] (λ(il:Bool)=>[(32,a_ il)]) (.b .e (.rd 7 [[],[],[1],[0,1,2],[],[],[4,5],aH 0 7 [],aH 0 8 []] .e)))) func61 rfl rfl rfl rfl rfl dH⟩
end Go.Proofs
