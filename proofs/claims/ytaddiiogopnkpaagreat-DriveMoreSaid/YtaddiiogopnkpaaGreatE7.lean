/- Parts of the proof that the last text states. -/
import Derived.Test.YtaddiiogopnkpaaGreatRows
import Derived.Test.YtaddiiogopnkpaaGreatE5
set_option linter.unusedVariables false
namespace Go.Proofs
open Go Go.Own
set_option maxRecDepth 100000
def wk (a0:Int):Option (Bool) :=
 some (!decide (a0=a0))
def tC (a0:Int) (aw:Int):Option (Int) :=
 (wk a0).bind λaS =>
 (wk aw).bind λx2 =>
 (bif aS then
 (bif x2 then
 some 0
 else
 some (-1))
 else
 (bif x2 then
 some 1
 else
 (bif decide (a0<aw) then
 some (-1)
 else
 (bif decide (aw<a0) then
 some 1
 else
 some 0))))
structure cH where
 At:Int
 cc:Int
 deriving DecidableEq,Inhabited
def AR (a0:cH) (aw:Int):Option (Int) :=
 (tC a0.At aw).bind λaS =>
 some aS
def cp:bO cH:=⟨2,λx=>[ae x.At,ae x.cc],λ_=>rfl,λ_=>dm.bq⟩
instance:Bo cp:=⟨λx=>(inferInstance:q8 [ae x.At,ae x.cc])⟩
instance:ik cp cp:=⟨rfl,λx=>(inferInstance:f_ [ae x.At,ae x.cc] [ae x.At,ae x.cc])⟩
def DU (a0:(List cH)) (aw:Int):Option (Int × Bool) :=
 (cg (R:=Int) (λ(s1:Int × Int) =>
 (bif decide (s1.1<s1.2) then
 ((idx a0 (aG (yE .u64 (IntKind.u64.wrap (aG (s1.1+s1.2))) 1))).bind λbA =>
 (AR bA aw).bind λbn =>
 ((bif decide (bn<0) then
 some (aG ((aG (yE .u64 (IntKind.u64.wrap (aG (s1.1+s1.2))) 1))+1),s1.2)
 else
 some (s1.1,aG (yE .u64 (IntKind.u64.wrap (aG (s1.1+s1.2))) 1)))).bind λd_ =>
 some (d_.1,d_.2)).bind λiy =>
 some (.inl (iy.1,iy.2))
 else
 some (.inr s1.1))) (0,(a0.length:Int))).bind λx2 =>
 ((bif decide (x2<(a0.length:Int)) then ((idx a0 x2).bind λaY=>((AR aY aw).bind λdL=>some (x2,decide (dL=0)))) else some (x2,false))).bind λiU =>
 some (iU.1,iU.2)
def wh (a0:(List cH)) (aw:Int):Option (Int) :=
 (bif decide (aw<=0) then
 some 0
 else
 (DU a0 aw).bind λx2 =>
 (bif !x2.2 then
 some 2
 else
 (idx a0 x2.1).bind λbk =>
 some bk.cc))
structure h2 where
 cX:(List Int)
 cc:(List Int)
 b':(List Int)
 deriving DecidableEq,Inhabited
def ue:bO h2:=⟨3,λx=>[ak ai x.cX,ak ai x.cc,ak ai x.b'],λ_=>rfl,λ_=>dm.bq⟩
def rN (a0:h2) (aw:Int) (a2:Int):Option (Int × Bool) :=
 ((bif decide (aw<0) then some true else (bif decide ((a0.cX.length:Int)<=aw) then some true else (bif decide (a2<0) then some true else some (decide ((a0.b'.length:Int)<=a2)))))).bind λc4 =>
 (bif c4 then
 some (0,false)
 else
 (idx a0.cX aw).bind λbA =>
 ((bif decide ((a0.b'.length:Int)<=aG (bA+a2)) then some true else ((idx a0.b' (aG (bA+a2))).bind λbL=>some (!decide (bL=aG (aw+1)))))).bind λsb =>
 (bif sb then
 some (0,false)
 else
 (idx a0.cc (aG (bA+a2))).bind λaY =>
 some (aY,true)))
structure Act where
 Kind:Int
 N:Int
 deriving DecidableEq,Inhabited
def yg (a0:Int):Option (Act) :=
 ((bif decide (0<a0) then some (decide (a0<=20000)) else some false)).bind λc2 =>
 (bif c2 then
 some (⟨1,aG (a0 - 1)⟩:Act)
 else
 ((bif decide (a0<0) then some (decide ((-20000)<a0)) else some false)).bind λjJ =>
 (bif jJ then
 some (⟨2,aG (-a0)⟩:Act)
 else
 (bif decide (a0=20001) then
 some (⟨3,0⟩:Act)
 else
 (bif decide (a0=20002) then
 some (⟨4,0⟩:Act)
 else
 some (⟨0,0⟩:Act)))))
structure Tables where
 Def:(List Int)
 cA:h2
 jC:(List Int)
 ej:h2
 Left:(List Int)
 kD:(List Int)
 jl:(List cH)
 deriving DecidableEq,Inhabited
abbrev T4 (x:Tables):List ab:=[ak ai x.Def,ak ai x.cA.cX,ak ai x.cA.cc,ak ai x.cA.b',ak ai x.jC,ak ai x.ej.cX,ak ai x.ej.cc,ak ai x.ej.b',ak ai x.Left,ak ai x.kD,ak cp x.jl]
def mM:bO Tables:=⟨11,λx=>T4 x,λ_=>rfl,λ_=>dm.bq⟩
def wm (a0:Tables) (aw:Int) (a2:Int):Option (Act) :=
 (rN a0.cA aw a2).bind λaS =>
 (bif aS.2 then
 (yg aS.1).bind λa8 =>
 some a8
 else
 ((bif decide (aw<0) then some true else (bif decide ((a0.Def.length:Int)<=aw) then some true else ((idx a0.Def aw).bind λbA=>some (decide (bA<0)))))).bind λnW =>
 (bif nW then
 some (⟨0,0⟩:Act)
 else
 (idx a0.Def aw).bind λcw =>
 some (⟨2,cw⟩:Act)))
structure Node where
 Sym:Int
 Prod:Int
 At:Int
 Kids:s5
 deriving Inhabited
structure qi where
 At:Int
 Told:Bool
 deriving DecidableEq,Inhabited
structure eH where
 Kind:Int
 At:Int
 Steps:Int
 Deep:Int
 bu:(List Int)
 eo:(List qi)
 e2:(List Int)
 Tree:Node
 deriving Inhabited
structure dA where
 b1:Tables
 iY:(List Int)
 jr:Int
 js:Int
 dt:(List Int)
 fh:(List Node)
 h6:Int
 bb:eH
 deriving Inhabited
def dn:bO Node:=⟨4,λx=>[ae x.Sym,ae x.Prod,ae x.At,h' 4 x.Kids],λ_=>rfl,λ_=>dm.bq⟩
theorem Sr {z n:Nat}{cs:List ab}(h:cE (.bc z n cs)):∀ x∈cs,cE x:=by cases h; assumption
def BQ:(l:List ab)->(∀ x∈l,cE x)->Option (List Node)
 | [],_=>some []
 | .lit (.int .i64 y0)::.lit (.int .i64 bz)::.lit (.int .i64 y2)::.bc 4 n cs::l,h=>(BQ l λx J=>h x (by simp [J])).map λL=>⟨y0,bz,y2,⟨n,cs,Sr (h (.bc 4 n cs) (by simp))⟩⟩::L
 | _,_=>none
def BP (x:s5):Option (List Node):=(BQ x.cs x.bq).bind λL=>if x.n=L.length then some L else none
theorem U0:∀ (l:List ab) (h:∀ x∈l,cE x) (L:List Node),BQ l h=some L->l=bC dn L:=by
 intro l h
 fun_induction BQ l h with
 | case1=>intro L e; cases e; rfl
 | case2 y0 bz y2 n cs l h aM =>
  intro L e;obtain ⟨M,h1,rfl⟩:=Option.map_eq_some_iff.1 e;exact congrArg (λt=>_::_::_::_::t) (aM M h1)
 | case3=>intro L e; cases e
theorem Nn {x:s5}{L:List Node}(h:BP x=some L):x=nf dn L:=by
 obtain ⟨n,cs,bq⟩:=x;unfold BP at h;obtain ⟨M,h1,af⟩:=Option.bind_eq_some_iff.1 h
 split at af
 ·cases af;have:=U0 _ _ _ h1;rename_i e;simp only at this e;subst this e;rfl
 ·cases af
theorem U1 (L:List Node):BP (nf dn L)=some L:=by
 have key:∀ (L:List Node) (h:∀ x∈bC dn L,cE x),BQ (bC dn L) h=some L:=by
  intro L
  induction L with
  | nil=>intro h; rfl
  | cons x L aM =>
   intro h;exact congrArg (Option.map _) (aM _)
 exact (congrArg (λo=>Option.bind o _) (key L _)).trans (if_pos rfl)
instance:ik dn dn:=⟨rfl,λx=>(inferInstance:f_ [ae x.Sym,ae x.Prod,ae x.At,h' 4 x.Kids] [ae x.Sym,ae x.Prod,ae x.At,h' 4 x.Kids])⟩
def iX:bO qi:=⟨2,λx=>[ae x.At,bd x.Told],λ_=>rfl,λ_=>dm.bq⟩
instance:ik iX iX:=⟨rfl,λx=>(inferInstance:f_ [ae x.At,bd x.Told] [ae x.At,bd x.Told])⟩
abbrev T3 (x:eH):List ab:=[ae x.Kind,ae x.At,ae x.Steps,ae x.Deep,ak ai x.bu,ak iX x.eo,ak ai x.e2,ae x.Tree.Sym,ae x.Tree.Prod,ae x.Tree.At,h' 4 x.Tree.Kids]
def pG:bO eH:=⟨11,λx=>T3 x,λ_=>rfl,λ_=>dm.bq⟩
abbrev w4 (x:dA):List ab:=[ak ai x.b1.Def,ak ai x.b1.cA.cX,ak ai x.b1.cA.cc,ak ai x.b1.cA.b',ak ai x.b1.jC,ak ai x.b1.ej.cX,ak ai x.b1.ej.cc,ak ai x.b1.ej.b',ak ai x.b1.Left,ak ai x.b1.kD,ak cp x.b1.jl,ak ai x.iY,ae x.jr,ae x.js,ak ai x.dt,ak dn x.fh,ae x.h6,ae x.bb.Kind,ae x.bb.At,ae x.bb.Steps,ae x.bb.Deep,ak ai x.bb.bu,ak iX x.bb.eo,ak ai x.bb.e2,ae x.bb.Tree.Sym,ae x.bb.Tree.Prod,ae x.bb.Tree.At,h' 4 x.bb.Tree.Kids]
def Vi:bO dA:=⟨28,λx=>w4 x,λ_=>rfl,λ_=>dm.bq⟩
def yt (a0:dA) (aw:Int):Option (Act) :=
 (idx a0.dt (aG ((a0.dt.length:Int) - 1))).bind λaS =>
 (wm a0.b1 aS aw).bind λx2 =>
 some x2
def yu (a0:dA):Option (Int) :=
 (bif decide ((a0.iY.length:Int)<=a0.bb.At) then
 some 0
 else
 (idx a0.iY a0.bb.At).bind λx2 =>
 some x2)
abbrev k8 (x:dA):List ab:=[ak ai x.b1.Def,ak ai x.b1.cA.cX,ak ai x.b1.cA.cc,ak ai x.b1.cA.b',ak ai x.b1.jC,ak ai x.b1.ej.cX,ak ai x.b1.ej.cc,ak ai x.b1.ej.b',ak ai x.b1.Left,ak ai x.b1.kD,ak cp x.b1.jl,aC ai x.iY,ae x.jr,ae x.js,aC ai x.dt,aC dn x.fh,ae x.h6,ae x.bb.Kind,ae x.bb.At,ae x.bb.Steps,ae x.bb.Deep,aC ai x.bb.bu,aC iX x.bb.eo,aC ai x.bb.e2,ae x.bb.Tree.Sym,ae x.bb.Tree.Prod,ae x.bb.Tree.At,h' 4 x.bb.Tree.Kids]
def ic:bO dA:=⟨28,λx=>k8 x,λ_=>rfl,λ_=>dm.bq⟩
instance {x:dA}:f_ (ic.cells x) (w4 x):=(inferInstance:f_ (k8 x) (w4 x))
def yb (a0:dA) (aw:Int):Option (Bool × dA) :=
 ((bif decide (a0.bb.Steps=a0.js) then some true else some (decide (a0.jr<aw)))).bind λc2 =>
 (bif c2 then
 some (false,(⟨a0.b1,a0.iY,a0.jr,a0.js,a0.dt,a0.fh,a0.h6,(⟨3,a0.bb.At,a0.bb.Steps,a0.bb.Deep,a0.bb.bu,a0.bb.eo,a0.bb.e2,a0.bb.Tree⟩:eH)⟩:dA))
 else
 some (true,(⟨a0.b1,a0.iY,a0.jr,a0.js,a0.dt,a0.fh,a0.h6,(⟨a0.bb.Kind,a0.bb.At,aG (a0.bb.Steps+1),a0.bb.Deep,a0.bb.bu,a0.bb.eo,a0.bb.e2,a0.bb.Tree⟩:eH)⟩:dA)))
def uR (a0:dA) (aw:Int) (a2:Int) (a3:Node):Option (Bool × dA) :=
 (yb a0 (aG ((a0.dt.length:Int) - a2))).bind λaS =>
 (bif !aS.1 then
 some (false,aS.2)
 else
 (l4 aS.2.dt (aG ((aS.2.dt.length:Int) - a2))).bind λa8 =>
 (c8 (aS.2.dt.take ((aG ((aS.2.dt.length:Int) - a2)).toNat)) [aw]).bind λbk =>
 (l4 aS.2.fh (aG ((aS.2.fh.length:Int) - a2))).bind λbV =>
 (c8 (aS.2.fh.take ((aG ((aS.2.fh.length:Int) - a2)).toNat)) [a3]).bind λbA =>
 some (true,(⟨aS.2.b1,aS.2.iY,aS.2.jr,aS.2.js,bk,bA,aS.2.h6,(⟨aS.2.bb.Kind,aS.2.bb.At,aS.2.bb.Steps,max aS.2.bb.Deep (aG ((bk.length:Int) - 1)),aS.2.bb.bu,aS.2.bb.eo,aS.2.bb.e2,aS.2.bb.Tree⟩:eH)⟩:dA)))
def uS (a0:dA) (aw:Int):Option (Node) :=
 some (⟨aw,(-1),a0.bb.At,(nf dn ([]:List Node))⟩:Node)
def Ll (a0:List Node):Option (List Node):=Fb a0
def Aw (a0:Tables) (aw:Int) (a2:Int):Option (Int) :=
 (rN a0.ej a2 aw).bind λaS =>
 (bif aS.2 then
 some aS.1
 else
 ((bif decide (a2<0) then some true else some (decide ((a0.jC.length:Int)<=a2)))).bind λc4 =>
 (bif c4 then
 some (-1)
 else
 (idx a0.jC a2).bind λbA =>
 some bA))
def AT (a0:dA) (aw:Int):Option (dA) :=
 (idx a0.b1.kD aw).bind λaS =>
 (idx a0.b1.Left aw).bind λx2 =>
 (l4 a0.fh (aG ((a0.fh.length:Int) - aS))).bind λa8 =>
 (Ll (a0.fh.drop ((aG ((a0.fh.length:Int) - aS)).toNat))).bind λbk =>
 (idx a0.dt (aG ((aG ((a0.dt.length:Int) - 1)) - aS))).bind λbV =>
 (Aw a0.b1 bV x2).bind λbA =>
 (uR a0 bA aS (⟨aG (1000+x2),aw,(-1),(nf dn bk)⟩:Node)).bind λbn =>
 ((bif bn.1 then
 (c8 bn.2.bb.bu [aw]).bind λch =>
 some (bn.2.bb.bu++[aw])
 else
 some bn.2.bb.bu)).bind λd_ =>
 some (⟨bn.2.b1,bn.2.iY,bn.2.jr,bn.2.js,bn.2.dt,bn.2.fh,bn.2.h6,(⟨bn.2.bb.Kind,bn.2.bb.At,bn.2.bb.Steps,bn.2.bb.Deep,d_,bn.2.bb.eo,bn.2.bb.e2,bn.2.bb.Tree⟩:eH)⟩:dA)
def Dv (a0:dA):Option (dA) :=
 (yu a0).bind λaS =>
 ((bif decide (aS=0) then
 some (⟨a0.b1,a0.iY,a0.jr,a0.js,a0.dt,a0.fh,a0.h6,(⟨2,a0.bb.At,a0.bb.Steps,a0.bb.Deep,a0.bb.bu,a0.bb.eo,a0.bb.e2,a0.bb.Tree⟩:eH)⟩:dA)
 else
 (yb a0 (aG ((a0.dt.length:Int) - 1))).bind λbk =>
 ((bif bk.1 then
 (c8 bk.2.bb.e2 [bk.2.bb.At]).bind λbn =>
 some (aG (bk.2.bb.At+1),bk.2.bb.e2++[bk.2.bb.At])
 else
 some (bk.2.bb.At,bk.2.bb.e2))).bind λiy =>
 some (⟨bk.2.b1,bk.2.iY,bk.2.jr,bk.2.js,bk.2.dt,bk.2.fh,bk.2.h6,(⟨bk.2.bb.Kind,iy.1,bk.2.bb.Steps,bk.2.bb.Deep,bk.2.bb.bu,bk.2.bb.eo,iy.2,bk.2.bb.Tree⟩:eH)⟩:dA))).bind λxS =>
 some xS
def AU (a0:dA):Option (dA) :=
 (bif decide (a0.h6=3) then
 (Dv a0).bind λx2 =>
 some x2
 else
 (c8 a0.bb.eo [(⟨a0.bb.At,decide (a0.h6=0)⟩:qi)]).bind λa8 =>
 (yt (⟨a0.b1,a0.iY,a0.jr,a0.js,a0.dt,a0.fh,3,(⟨a0.bb.Kind,a0.bb.At,a0.bb.Steps,a0.bb.Deep,a0.bb.bu,a0.bb.eo++[(⟨a0.bb.At,decide (a0.h6=0)⟩:qi)],a0.bb.e2,a0.bb.Tree⟩:eH)⟩:dA) 1).bind λbk =>
 (cg (R:=(dA × Int × Int) ⊕ (dA)) (λ(b3:dA × Int × Int) =>
 (bif !decide (b3.2.1=1) then
 (bif decide (aG ((b3.1.dt.length:Int) - 1)=0) then
 some (.inr (.inr (⟨b3.1.b1,b3.1.iY,b3.1.jr,b3.1.js,b3.1.dt,b3.1.fh,b3.1.h6,(⟨2,b3.1.bb.At,b3.1.bb.Steps,b3.1.bb.Deep,b3.1.bb.bu,b3.1.bb.eo,b3.1.bb.e2,b3.1.bb.Tree⟩:eH)⟩:dA)))
 else
 (yb b3.1 (aG ((aG ((b3.1.dt.length:Int) - 1)) - 1))).bind λaY =>
 (bif !aY.1 then
 some (.inr (.inr aY.2))
 else
 (l4 aY.2.dt (aG ((b3.1.dt.length:Int) - 1))).bind λcu =>
 (l4 aY.2.fh (aG ((aG ((b3.1.dt.length:Int) - 1)) - 1))).bind λeF =>
 (yt (⟨aY.2.b1,aY.2.iY,aY.2.jr,aY.2.js,aY.2.dt.take ((aG ((b3.1.dt.length:Int) - 1)).toNat),aY.2.fh.take ((aG ((aG ((b3.1.dt.length:Int) - 1)) - 1)).toNat),aY.2.h6,aY.2.bb⟩:dA) 1).bind λcL =>
 some (.inl ((⟨aY.2.b1,aY.2.iY,aY.2.jr,aY.2.js,aY.2.dt.take ((aG ((b3.1.dt.length:Int) - 1)).toNat),aY.2.fh.take ((aG ((aG ((b3.1.dt.length:Int) - 1)) - 1)).toNat),aY.2.h6,aY.2.bb⟩:dA),cL.Kind,cL.N))))
 else
 some (.inr (.inl (b3.1,b3.2.1,b3.2.2))))) ((⟨a0.b1,a0.iY,a0.jr,a0.js,a0.dt,a0.fh,3,(⟨a0.bb.Kind,a0.bb.At,a0.bb.Steps,a0.bb.Deep,a0.bb.bu,a0.bb.eo++[(⟨a0.bb.At,decide (a0.h6=0)⟩:qi)],a0.bb.e2,a0.bb.Tree⟩:eH)⟩:dA),bk.Kind,bk.N)).bind λbA =>
 (match bA with
 | .inl bn =>
 (uS bn.1 1).bind λdr =>
 (uR bn.1 bn.2.2 0 dr).bind λcY =>
 some cY.2
 | .inr bL =>
 some bL))
def yp (a0:dA):Option (dA) :=
 (yu a0).bind λaS =>
 (yt a0 aS).bind λx2 =>
 (((bif decide (x2.Kind=1) then
 (yu a0).bind λbA =>
 (uS a0 bA).bind λbn =>
 (uR a0 x2.N 0 bn).bind λbL =>
 ((bif bL.1 then
 some (max (aG (bL.2.h6 - 1)) 0,aG (bL.2.bb.At+1))
 else
 some (bL.2.h6,bL.2.bb.At))).bind λm_ =>
 some (⟨bL.2.b1,bL.2.iY,bL.2.jr,bL.2.js,bL.2.dt,bL.2.fh,m_.1,(⟨bL.2.bb.Kind,m_.2,bL.2.bb.Steps,bL.2.bb.Deep,bL.2.bb.bu,bL.2.bb.eo,bL.2.bb.e2,bL.2.bb.Tree⟩:eH)⟩:dA)
 else
 ((bif decide (x2.Kind=2) then
 (AT a0 x2.N).bind λcu =>
 some cu
 else
 ((bif decide (x2.Kind=3) then
 (idx a0.fh (aG ((a0.fh.length:Int) - 1))).bind λdr =>
 some (⟨a0.b1,a0.iY,a0.jr,a0.js,a0.dt,a0.fh,a0.h6,(⟨1,a0.bb.At,a0.bb.Steps,a0.bb.Deep,a0.bb.bu,a0.bb.eo,a0.bb.e2,dr⟩:eH)⟩:dA)
 else
 (AU a0).bind λcY =>
 some cY)).bind λfX =>
 some fX)).bind λjc =>
 some jc)).bind λxV =>
 some xV).bind λhF =>
 some hF
def pj (a0:Tables) (aw:(List Int)) (a2:Int) (a3:Int):Option (eH) :=
 ((cg (R:=List Int) (λ(s2:List Int × Int) =>
 (bif decide (s2.2<(aw.length:Int)) then
 (idx aw s2.2).bind λbA =>
 (bif decide (bA<=0) then
 some (.inr s2.1)
 else
 (wh a0.jl bA).bind λbL =>
 (c8 s2.1 [bL]).bind λcw =>
 some (.inl (s2.1++[bL],aG (s2.2+1))))
 else
 some (.inr s2.1))) (([]:List Int),0)).bind λa8 =>
 some a8).bind λlE =>
 (cg (R:=dA) (λ(eX:dA) =>
 (bif decide (eX.bb.Kind=0) then
 (yp eX).bind λeF =>
 some (.inl eF)
 else
 some (.inr eX))) (⟨a0,lE,min (max a2 0) 100000,min (max a3 0) 1000000,[0],[],0,(⟨0,0,0,0,[],[],[],(⟨0,0,0,GR⟩:Node)⟩:eH)⟩:dA)).bind λaY =>
 some aY.bb
def DT (a0:cH) (aw:cH):Option (Int) :=
 (tC a0.At aw.At).bind λaS =>
 some aS
structure b5 where
 Name:ByteArray
 Lit:Bool
 cf:Int
 Level:Int
 ji:Int
 Tag:ByteArray
 deriving DecidableEq,Inhabited
structure fJ where
 Name:ByteArray
 Tag:ByteArray
 deriving DecidableEq,Inhabited
structure Prod where
 Left:Int
 dF:(List Int)
 Prec:Int
 Code:ByteArray
 R4:(List Int)
 At:Int
 deriving DecidableEq,Inhabited
structure bD where
 br:(List b5)
 dE:(List fJ)
 bu:(List Prod)
 hl:ByteArray
 j7:ByteArray
 deriving DecidableEq,Inhabited
abbrev Il (x:b5):List ab:=[a6 x.Name,bd x.Lit,ae x.cf,ae x.Level,ae x.ji,a6 x.Tag]
def cv:bO b5:=⟨6,λx=>Il x,λ_=>rfl,λ_=>dm.bq⟩
instance:ik cv cv:=⟨rfl,λx=>(inferInstance:f_ (Il x) (Il x))⟩
def e4:bO fJ:=⟨2,λx=>[a6 x.Name,a6 x.Tag],λ_=>rfl,λ_=>dm.bq⟩
instance:ik e4 e4:=⟨rfl,λx=>(inferInstance:f_ [a6 x.Name,a6 x.Tag] [a6 x.Name,a6 x.Tag])⟩
abbrev Ik (x:Prod):List ab:=[ae x.Left,ak ai x.dF,ae x.Prec,a6 x.Code,ak ai x.R4,ae x.At]
def hK:bO Prod:=⟨6,λx=>Ik x,λ_=>rfl,λ_=>dm.bq⟩
instance:ik hK hK:=⟨rfl,λx=>(inferInstance:f_ (Ik x) (Ik x))⟩
abbrev BH (x:bD):List ab:=[ak cv x.br,ak e4 x.dE,ak hK x.bu,a6 x.hl,a6 x.j7]
def c9:bO bD:=⟨5,λx=>BH x,λ_=>rfl,λ_=>dm.bq⟩
def AK (a0:bD):Option ((List cH)) :=
 (cg (R:=List cH) (λ(s1:List cH × Int) =>
 (bif decide (s1.2<(a0.br.length:Int)) then
 ((idx a0.br s1.2).bind λbA =>
 ((bif decide (0<bA.cf) then
 (c8 s1.1 [(⟨bA.cf,s1.2⟩:cH)]).bind λcw =>
 some (s1.1++[(⟨bA.cf,s1.2⟩:cH)])
 else
 some s1.1)).bind λll =>
 some ll).bind λiy =>
 some (.inl (iy,aG (s1.2+1)))
 else
 some (.inr s1.1))) (([]:List cH),0)).bind λx2 =>
 (p7 (λa b=>DT a b) x2).bind λch =>
 some ch
def Ay (a0:(List (List cH))):Option (Bool) :=
 (bif decide (400<(a0.length:Int)) then
 some false
 else
 (cg (R:=(Unit) ⊕ (Bool)) (λ(s2:Int) =>
 (bif decide (s2<(a0.length:Int)) then
 (idx a0 s2).bind λbn =>
 (cg (R:=(Unit) ⊕ (Bool)) (λ(ei:List Bool × Int) =>
 (bif decide (ei.2<(bn.length:Int)) then
 (idx bn ei.2).bind λcu =>
 ((bif decide (cu.At<0) then some true else (bif decide (1000<=cu.At) then some true else ((xP 1000 ei.1 cu.At).bind λdr=>some dr)))).bind λwW =>
 (bif wW then
 some (.inr (.inr false))
 else
 (xP 1000 ei.1 cu.At).bind λfQ =>
 some (.inl (ei.1.set cu.At.toNat true,aG (ei.2+1))))
 else
 some (.inr (.inl ())))) ((List.replicate 1000 false),0)).bind λcw =>
 (match cw with
 | .inl ch =>
 some (.inl (aG (s2+1)))
 | .inr aY =>
 some (.inr (.inr aY)))
 else
 some (.inr (.inl ())))) 0).bind λa8 =>
 (match a8 with
 | .inl bk =>
 some true
 | .inr bV =>
 some bV))
def Dx (a0:(List Int)):Option (Int) :=
 (cg (R:=(Unit) ⊕ (Int)) (λ(s1:Int) =>
 (bif decide (s1<(a0.length:Int)) then
 (idx a0 s1).bind λbA =>
 (bif !decide (bA=0) then
 some (.inr (.inr bA))
 else
 some (.inl (aG (s1+1))))
 else
 some (.inr (.inl ())))) 0).bind λx2 =>
 (match x2 with
 | .inl a8 =>
 some 0
 | .inr bk =>
 some bk)
def v_ (a0:Int) (aw:Int) (c0:(List (List cH))):Option (Int) :=
 (idx c0 aw).bind λaS =>
 (idx c0 a0).bind λx2 =>
 (tC (aS.length:Int) (x2.length:Int)).bind λa8 =>
 (tC a0 aw).bind λbk =>
 (Dx [a8,bk]).bind λbV =>
 some bV
def DG (a0:cH) (c0:Int) (c1:(List Int)):Option (Bool) :=
 ((bif decide (aG (c0+a0.At)<(c1.length:Int)) then ((idx c1 (aG (c0+a0.At))).bind λx2=>some (!decide (x2=0))) else some false)).bind λkG =>
 some kG
def Gv (a0:(List cH)) (q':Int) (ra:(List Int)):Option (Int) :=
 (cg (R:=(Unit) ⊕ (Int)) (λ(s1:Int) =>
 (bif decide (s1<(a0.length:Int)) then
 (idx a0 s1).bind λbA =>
 (DG bA q' ra).bind λbn =>
 (bif bn then
 some (.inr (.inr s1))
 else
 some (.inl (aG (s1+1))))
 else
 some (.inr (.inl ())))) 0).bind λx2 =>
 (match x2 with
 | .inl a8 =>
 some (-1)
 | .inr bk =>
 some bk)
def Gu (a0:(List cH)) (q':Int) (ra:(List Int)):Option (Bool) :=
 (Gv a0 q' ra).bind λaS =>
 some (decide (0<=aS))
def yd (a0:(List Int)) (aw:(List cH)) (a2:Int):Option (Bool) :=
 (Gu aw a2 a0).bind λaS =>
 some (!aS)
def vn:bO h2:=⟨3,λx=>[aC ai x.cX,aC ai x.cc,aC ai x.b'],λ_=>rfl,λ_=>dm.bq⟩
instance:Bo vn:=⟨λx=>(inferInstance:q8 [aC ai x.cX,aC ai x.cc,aC ai x.b'])⟩
def AV (a0:(List (List cH))):Option (h2) :=
 (Ay a0).bind λaS =>
 (bif !aS then
 some (⟨([]:List Int),([]:List Int),([]:List Int)⟩:h2)
 else
 (oO (a0.length:Int) 0).bind λa8 =>
 (cg (R:=List Int) (λ(da:List Int × Int) =>
 (bif decide (da.2<(a0.length:Int)) then
 ((idx a0 da.2).bind λcw =>
 ((bif decide (0<(cw.length:Int)) then
 (c8 da.1 [da.2]).bind λdL =>
 some (da.1++[da.2])
 else
 some da.1)).bind λjU =>
 some jU).bind λd_ =>
 some (.inl (d_,aG (da.2+1)))
 else
 some (.inr da.1))) (([]:List Int),0)).bind λbV =>
 (p7 (λa b=>v_ a b a0) bV).bind λcu =>
 (cg (R:=h2) (λ(er:h2 × Int) =>
 (bif decide (er.2<(cu.length:Int)) then
 (idx cu er.2).bind λdM =>
 (cg (R:=List Int) (λ(di:List Int) =>
 (idx a0 dM).bind λiC =>
 (idx di dM).bind λfF =>
 (yd er.1.b' iC fF).bind λhS =>
 (bif !hS then
 (idx di dM).bind λiS =>
 some (.inl (di.set dM.toNat (aG (iS+1))))
 else
 some (.inr di))) er.1.cX).bind λeN =>
 (idx a0 dM).bind λfG =>
 (cg (R:=List Int × List Int) (λ(kR:List Int × List Int × Int) =>
 (bif decide (kR.2.2<(fG.length:Int)) then
 (idx fG kR.2.2).bind λcZ =>
 (idx eN dM).bind λhT =>
 (cg (R:=List Int × List Int) (λ(hj:List Int × List Int) =>
 (bif decide ((hj.2.length:Int)<=aG (hT+cZ.At)) then
 (c8 hj.2 [0]).bind λgQ =>
 (c8 hj.1 [0]).bind λkT =>
 some (.inl (hj.1++[0],hj.2++[0]))
 else
 some (.inr (hj.1,hj.2)))) (kR.1,kR.2.1)).bind λfp =>
 (idx fp.2 (aG (hT+cZ.At))).bind λwC =>
 (idx fp.1 (aG (hT+cZ.At))).bind λHl =>
 some (.inl (fp.1.set (aG (hT+cZ.At)).toNat cZ.cc,fp.2.set (aG (hT+cZ.At)).toNat (aG (dM+1)),aG (kR.2.2+1)))
 else
 some (.inr (kR.1,kR.2.1)))) (er.1.cc,er.1.b',0)).bind λee =>
 some (.inl ((⟨eN,ee.1,ee.2⟩:h2),aG (er.2+1)))
 else
 some (.inr er.1))) ((⟨a8,([]:List Int),([]:List Int)⟩:h2),0)).bind λcL =>
 some cL)
structure Row where
 Def:Int
 hd:(List cH)
 deriving DecidableEq,Inhabited
def pH:bO Row:=⟨2,λx=>[ae x.Def,ak cp x.hd],λ_=>rfl,λ_=>dm.bq⟩
instance:ik pH pH:=⟨rfl,λx=>(inferInstance:f_ [ae x.Def,ak cp x.hd] [ae x.Def,ak cp x.hd])⟩
def yq (a0:(List Row)):Option ((List Int) × h2) :=
 (cg (R:=List Int × List (List cH)) (λ(s1:List Int × List (List cH) × Int) =>
 (bif decide (s1.2.2<(a0.length:Int)) then
 (idx a0 s1.2.2).bind λbV =>
 (c8 s1.1 [bV.Def]).bind λbA =>
 (c8 s1.2.1 [bV.hd]).bind λbn =>
 some (.inl (s1.1++[bV.Def],s1.2.1++[bV.hd],aG (s1.2.2+1)))
 else
 some (.inr (s1.1,s1.2.1)))) (([]:List Int),([]:List (List cH)),0)).bind λx2 =>
 (AV x2.2).bind λbL =>
 some (x2.1,bL)
def wj (a0:(List Int)):Option (Int) :=
 (cg (R:=Int) (λ(s1:(List (Int × Int)) × Int × Int) =>
 (bif decide (s1.2.2<(a0.length:Int)) then
 ((idx a0 s1.2.2).bind λbA =>
 (uK sE 0 s1.1 bA).bind λbn =>
 (Ah sE s1.1 bA (aG (bn+1))).bind λbL =>
 (uK sE 0 bL bA).bind λcw =>
 (uK sE 0 bL s1.2.1).bind λch =>
 ((bif decide (s1.2.1<0) then some true else (bif decide (0<aG (cw - ch)) then some true else (bif decide (aG (cw - ch)=0) then some (decide (bA<s1.2.1)) else some false)))).bind λsa =>
 ((bif sa then
 some bA
 else
 some s1.2.1)).bind λrE =>
 some (bL,rE)).bind λiy =>
 some (.inl (iy.1,iy.2,aG (s1.2.2+1)))
 else
 some (.inr s1.2.1))) (([]:List (Int × Int)),(-1),0)).bind λx2 =>
 some x2
def AW (a0:Act):Option (Int) :=
 ((bif decide (a0.Kind=1) then (bif decide (0<=a0.N) then some (decide (a0.N<20000)) else some false) else some false)).bind λkG =>
 (bif kG then
 some (aG (a0.N+1))
 else
 ((bif decide (a0.Kind=2) then (bif decide (0<a0.N) then some (decide (a0.N<20000)) else some false) else some false)).bind λnW =>
 (bif nW then
 some (aG (-a0.N))
 else
 ((bif decide (a0.Kind=3) then some (decide (a0.N=0)) else some false)).bind λiI =>
 (bif iI then
 some 20001
 else
 ((bif decide (a0.Kind=4) then some (decide (a0.N=0)) else some false)).bind λiU =>
 (bif iU then
 some 20002
 else
 some 0))))
structure hc where
 cA:(List (List Act))
 eD:(List (List Int))
 deriving DecidableEq,Inhabited
def dV:bO Act:=⟨2,λx=>[ae x.Kind,ae x.N],λ_=>rfl,λ_=>dm.bq⟩
instance:ik dV dV:=⟨rfl,λx=>(inferInstance:f_ [ae x.Kind,ae x.N] [ae x.Kind,ae x.N])⟩
def DR (a0:hc):Option ((List Row)) :=
 (cg (R:=List Row) (λ(s1:List Row × Int) =>
 (bif decide (s1.2<(a0.cA.length:Int)) then
 (idx a0.cA s1.2).bind λbV =>
 (cg (R:=List Int) (λ(cK:List Int × Int) =>
 (bif decide (cK.2<(bV.length:Int)) then
 ((idx bV cK.2).bind λaY =>
 ((bif decide (aY.Kind=2) then
 (c8 cK.1 [aY.N]).bind λeF =>
 some (cK.1++[aY.N])
 else
 some cK.1)).bind λha =>
 some ha).bind λjU =>
 some (.inl (jU,aG (cK.2+1)))
 else
 some (.inr cK.1))) (([]:List Int),0)).bind λbn =>
 (wj bn).bind λcL =>
 (cg (R:=List cH) (λ(nL:List cH × Int) =>
 (bif decide (nL.2<(bV.length:Int)) then
 ((idx bV nL.2).bind λfR =>
 ((bif !decide (fR.Kind=0) then (bif !decide (fR.Kind=2) then some true else some (!decide (fR.N=cL))) else some false)).bind λwY =>
 ((bif wY then
 (AW fR).bind λfG =>
 (c8 nL.1 [(⟨nL.2,fG⟩:cH)]).bind λgD =>
 some (nL.1++[(⟨nL.2,fG⟩:cH)])
 else
 some nL.1)).bind λKE =>
 some KE).bind λxT =>
 some (.inl (xT,aG (nL.2+1)))
 else
 some (.inr nL.1))) (([]:List cH),0)).bind λcY =>
 (c8 s1.1 [(⟨cL,cY⟩:Row)]).bind λee =>
 some (.inl (s1.1++[(⟨cL,cY⟩:Row)],aG (s1.2+1)))
 else
 some (.inr s1.1))) (([]:List Row),0)).bind λx2 =>
 some x2
def DS (a0:hc):Option ((List Row)) :=
 (bif decide ((a0.eD.length:Int)=0) then
 some ([]:List Row)
 else
 (idx a0.eD 0).bind λx2 =>
 (cg (R:=List Row) (λ(eE:List Row × Int) =>
 (bif decide (eE.2<(x2.length:Int)) then
 (cg (R:=List Int) (λ(gh:List Int × Int) =>
 (bif decide (gh.2<(a0.eD.length:Int)) then
 ((idx a0.eD gh.2).bind λdL =>
 (idx dL eE.2).bind λcu =>
 ((bif decide (0<=cu) then
 (idx dL eE.2).bind λdr =>
 (c8 gh.1 [dr]).bind λcY =>
 some (gh.1++[dr])
 else
 some gh.1)).bind λfX =>
 some fX).bind λjc =>
 some (.inl (jc,aG (gh.2+1)))
 else
 some (.inr gh.1))) (([]:List Int),0)).bind λbL =>
 (wj bL).bind λdM =>
 (cg (R:=List cH) (λ(di:List cH × Int) =>
 (bif decide (di.2<(a0.eD.length:Int)) then
 ((idx a0.eD di.2).bind λhS =>
 (((idx hS eE.2).bind λkB=>(bif decide (0<=kB) then ((idx hS eE.2).bind λfG=>some (!decide (fG=dM))) else some false))).bind λw0 =>
 ((bif w0 then
 (idx hS eE.2).bind λoT =>
 (c8 di.1 [(⟨di.2,oT⟩:cH)]).bind λcZ =>
 some (di.1++[(⟨di.2,oT⟩:cH)])
 else
 some di.1)).bind λuH =>
 some uH).bind λKC =>
 some (.inl (KC,aG (di.2+1)))
 else
 some (.inr di.1))) (([]:List cH),0)).bind λeN =>
 (c8 eE.1 [(⟨dM,eN⟩:Row)]).bind λhT =>
 some (.inl (eE.1++[(⟨dM,eN⟩:Row)],aG (eE.2+1)))
 else
 some (.inr eE.1))) (([]:List Row),0)).bind λbk =>
 some bk)
def ym (a0:bD) (aw:hc):Option (Tables) :=
 (DR aw).bind λaS =>
 (yq aS).bind λx2 =>
 (DS aw).bind λa8 =>
 (yq a8).bind λbk =>
 (cg (R:=List Int × List Int) (λ(b3:List Int × List Int × Int) =>
 (bif decide (b3.2.2<(a0.bu.length:Int)) then
 (idx a0.bu b3.2.2).bind λcw =>
 (c8 b3.1 [cw.Left]).bind λch =>
 (c8 b3.2.1 [(cw.dF.length:Int)]).bind λaY =>
 some (.inl (b3.1++[cw.Left],b3.2.1++[(cw.dF.length:Int)],aG (b3.2.2+1)))
 else
 some (.inr (b3.1,b3.2.1)))) (([]:List Int),([]:List Int),0)).bind λbA =>
 (AK a0).bind λdL =>
 some (⟨x2.1,x2.2,bk.1,bk.2,bA.1,bA.2,dL⟩:Tables)
def rP (a0:(List Int)) (aw:(List Int)):Option (Bool) :=
 (bif !decide ((a0.length:Int)=(aw.length:Int)) then
 some false
 else
 (cg (R:=(Unit) ⊕ (Bool)) (λ(s2:Int) =>
 (bif decide (s2<(a0.length:Int)) then
 (idx a0 s2).bind λbn =>
 (idx aw s2).bind λbL =>
 (bif !decide (bn=bL) then
 some (.inr (.inr false))
 else
 some (.inl (aG (s2+1))))
 else
 some (.inr (.inl ())))) 0).bind λa8 =>
 (match a8 with
 | .inl bk =>
 some true
 | .inr bV =>
 some bV))
def DM (a0:Int):Option (Bool) :=
 ((bif decide (97<=a0) then (bif decide (a0<=122) then some true else (bif decide (65<=a0) then (bif decide (a0<=90) then some true else some (decide (a0=95))) else some (decide (a0=95)))) else (bif decide (65<=a0) then (bif decide (a0<=90) then some true else some (decide (a0=95))) else some (decide (a0=95))))).bind λnW =>
 some nW
def DN (a0:Int):Option (Bool) :=
 ((bif decide (48<=a0) then some (decide (a0<=57)) else some false)).bind λc2 =>
 some c2
def DL (a0:ByteArray) (aw:Int):Option (Int) :=
 (cg (R:=Int) (λ(s1:Int) =>
 ((bif decide (aG (aw+s1)<(a0.size:Int)) then ((kF a0 (aG (aw+s1))).bind λbV=>((DM bV).bind λbA=>(bif bA then some true else (bif decide (0<s1) then ((kF a0 (aG (aw+s1))).bind λcw=>((DN cw).bind λch=>(bif ch then some true else ((kF a0 (aG (aw+s1))).bind λdL=>some (decide (dL=46)))))) else some false)))) else some false)).bind λiU =>
 (bif iU then
 some (.inl (aG (s1+1)))
 else
 some (.inr s1))) 0).bind λx2 =>
 some x2
def wc (a0:ByteArray):Option (Bool) :=
 ((bif decide (1<=(a0.size:Int)) then (bif decide ((a0.size:Int)<=20) then ((DL a0 0).bind λa8=>some (decide (a8=(a0.size:Int)))) else some false) else some false)).bind λc4 =>
 some c4
def AI (a0:Int):Option (Int × Bool) :=
 (bif decide (a0=10) then
 some (110,true)
 else
 (bif decide (a0=9) then
 some (116,true)
 else
 (bif decide (a0=13) then
 some (114,true)
 else
 ((bif decide (a0=92) then
 some (decide (a0=92))
 else
 some (decide (a0=39)))).bind λxV =>
 (bif xV then
 some (a0,true)
 else
 ((bif decide (32<=a0) then some (0,decide (a0<=126)) else some (0,false))).bind λuc =>
 some (uc.1,uc.2)))))
structure Sym where
 Name:ByteArray
 Lit:Bool
 cf:Int
 At:Int
 deriving DecidableEq,Inhabited
def fw:bO Sym:=⟨4,λx=>[a6 x.Name,bd x.Lit,ae x.cf,ae x.At],λ_=>rfl,λ_=>dm.bq⟩
instance:ik fw fw:=⟨rfl,λx=>(inferInstance:f_ [a6 x.Name,bd x.Lit,ae x.cf,ae x.At] [a6 x.Name,bd x.Lit,ae x.cf,ae x.At])⟩
def uP (a0:Sym) (aw:Bool) (a2:Bool):Option (Bool) :=
 (bif a0.Lit then
 ((bif !a2 then some true else (bif !decide ((a0.Name.size:Int)=1) then some true else some (!decide (a0.cf=0))))).bind λc4 =>
 (bif c4 then
 some false
 else
 (kF a0.Name 0).bind λbA =>
 (AI bA).bind λbn =>
 some bn.2)
 else
 (((wc a0.Name).bind λbL=>(bif bL then (bif decide (a0.cf=0) then some true else (bif aw then (bif decide (1<=a0.cf) then some (decide (a0.cf<=50000)) else some false) else some false)) else some false))).bind λiU =>
 some iU)
structure Decl where
 Kind:Int
 Tag:ByteArray
 ff:(List Sym)
 At:Int
 deriving DecidableEq,Inhabited
def eS:bO Decl:=⟨4,λx=>[ae x.Kind,a6 x.Tag,ak fw x.ff,ae x.At],λ_=>rfl,λ_=>dm.bq⟩
def yk (a0:Decl):Option (Bool) :=
 ((bif decide (a0.Kind<1) then some true else (bif decide (6<a0.Kind) then some true else (bif decide ((a0.ff.length:Int)=0) then some true else (bif decide (a0.Kind=6) then (bif !decide ((a0.ff.length:Int)=1) then some true else (bif !decide (a0.Tag=⟨#[]⟩) then some true else (bif decide (a0.Kind=5) then (bif decide (a0.Tag=⟨#[]⟩) then some true else some false) else some false))) else (bif decide (a0.Kind=5) then (bif decide (a0.Tag=⟨#[]⟩) then some true else (bif !decide (a0.Tag=⟨#[]⟩) then ((wc a0.Tag).bind λdL=>some (!dL)) else some false)) else (bif !decide (a0.Tag=⟨#[]⟩) then ((wc a0.Tag).bind λeF=>some (!eF)) else some false))))))).bind λwV =>
 (bif wV then
 some false
 else
 (cg (R:=(Unit) ⊕ (Bool)) (λ(l7:Int) =>
 (bif decide (l7<(a0.ff.length:Int)) then
 (idx a0.ff l7).bind λiC =>
 (uP iC (decide (a0.Kind=1)) (decide (a0.Kind<5))).bind λfF =>
 (bif !fF then
 some (.inr (.inr false))
 else
 some (.inl (aG (l7+1))))
 else
 some (.inr (.inl ())))) 0).bind λdM =>
 (match dM with
 | .inl fQ =>
 some true
 | .inr eN =>
 some eN))
def uQ (a0:Sym):Option (Bool) :=
 ((bif decide (a0.Name=⟨#[]⟩) then (bif !a0.Lit then some (decide (a0.cf=0)) else some false) else some false)).bind λkG =>
 some kG
def yn (a0:ByteArray) (aw:Int) (a2:ByteArray):Option (Bool) :=
 ((bif decide ((a2.size:Int)<=aG ((a0.size:Int) - aw)) then ((w8 a0 aw (aG (aw+(a2.size:Int)))).bind λx2=>some (decide (x2=a2))) else some false)).bind λkG =>
 some kG
def DO (a0:ByteArray) (aw:Int):Option (Int) :=
 (((kF a0 aw).bind λaS=>(bif decide (aS=34) then some true else ((kF a0 aw).bind λa8=>some (decide (a8=39)))))).bind λc4 =>
 (bif c4 then
 (cg (R:=(Unit) ⊕ (Int)) (λ(cK:Int) =>
 ((bif decide (cK<(a0.size:Int)) then ((kF a0 cK).bind λaY=>some (!decide (aY=10))) else some false)).bind λr' =>
 (bif r' then
 (kF a0 cK).bind λeF =>
 (kF a0 aw).bind λcL =>
 (bif decide (eF=cL) then
 some (.inr (.inr (aG (cK+1))))
 else
 (kF a0 cK).bind λcY =>
 (bif decide (cY=92) then
 ((bif decide (aG (cK+1)<(a0.size:Int)) then ((kF a0 (aG (cK+1))).bind λeN=>some (decide (eN=10))) else some false)).bind λs9 =>
 (bif s9 then
 some (.inr (.inr (-1)))
 else
 some (.inl (aG ((aG (cK+1))+1))))
 else
 some (.inl (aG (cK+1)))))
 else
 some (.inr (.inl ())))) (aG (aw+1))).bind λbn =>
 (match bn with
 | .inl bL =>
 some (-1)
 | .inr cw =>
 some cw)
 else
 (kF a0 aw).bind λfF =>
 (bif decide (fF=96) then
 (cg (R:=(Unit) ⊕ (Int)) (λ(A5:Int) =>
 (bif decide (A5<(a0.size:Int)) then
 (kF a0 A5).bind λiD =>
 (bif decide (iD=96) then
 some (.inr (.inr (aG (A5+1))))
 else
 some (.inl (aG (A5+1))))
 else
 some (.inr (.inl ())))) (aG (aw+1))).bind λiS =>
 (match iS with
 | .inl fG =>
 some (-1)
 | .inr gD =>
 some gD)
 else
 (yn a0 aw (⟨#[47,47]⟩)).bind λcZ =>
 (bif cZ then
 (cg (R:=Int) (λ(hj:Int) =>
 ((bif decide (hj<(a0.size:Int)) then ((kF a0 hj).bind λgQ=>some (!decide (gQ=10))) else some false)).bind λIa =>
 (bif Ia then
 some (.inl (aG (hj+1)))
 else
 some (.inr hj))) aw).bind λfp =>
 some fp
 else
 (yn a0 aw (⟨#[47,42]⟩)).bind λHl =>
 (bif Hl then
 (cg (R:=(Unit) ⊕ (Int)) (λ(A6:Int) =>
 (bif decide (A6<(a0.size:Int)) then
 (yn a0 A6 (⟨#[42,47]⟩)).bind λHn =>
 (bif Hn then
 some (.inr (.inr (aG (A6+2))))
 else
 some (.inl (aG (A6+1))))
 else
 some (.inr (.inl ())))) (aG (aw+2))).bind λHm =>
 (match Hm with
 | .inl abY =>
 some (-1)
 | .inr qX =>
 some qX)
 else
 some aw))))
def AH (a0:ByteArray) (aw:Int):Option (Int) :=
 ((bif decide (aw<0) then some true else (bif decide ((a0.size:Int)<=aw) then some true else ((kF a0 aw).bind λa8=>some (!decide (a8=123)))))).bind λc4 =>
 (bif c4 then
 some (-1)
 else
 (cg (R:=(Unit) ⊕ (Int)) (λ(cK:Int × Int) =>
 (bif decide (cK.2<(a0.size:Int)) then
 (DO a0 cK.2).bind λaY =>
 (bif decide (aY<0) then
 some (.inr (.inr (-1)))
 else
 (bif decide (cK.2<aY) then
 some (.inl (cK.1,aY))
 else
 (kF a0 cK.2).bind λeF =>
 ((bif decide (eF=123) then
 some (aG (cK.1+1))
 else
 some cK.1)).bind λrE =>
 (kF a0 cK.2).bind λcY =>
 ((bif decide (cY=125) then
 some (aG (rE - 1))
 else
 some rE)).bind λF3 =>
 (bif decide (F3=0) then
 some (.inr (.inr (aG (cK.2+1))))
 else
 some (.inl (F3,aG (cK.2+1))))))
 else
 some (.inr (.inl ())))) (0,aw)).bind λbn =>
 (match bn with
 | .inl bL =>
 some (-1)
 | .inr cw =>
 some cw))
structure Part where
 Sym:Sym
 Code:ByteArray
 At:Int
 deriving DecidableEq,Inhabited
structure Alt where
 Parts:(List Part)
 Prec:Sym
 At:Int
 deriving DecidableEq,Inhabited
abbrev Ij (x:Part):List ab:=[a6 x.Sym.Name,bd x.Sym.Lit,ae x.Sym.cf,ae x.Sym.At,a6 x.Code,ae x.At]
def e_:bO Part:=⟨6,λx=>Ij x,λ_=>rfl,λ_=>dm.bq⟩
instance:ik e_ e_:=⟨rfl,λx=>(inferInstance:f_ (Ij x) (Ij x))⟩
abbrev Ih (x:Alt):List ab:=[ak e_ x.Parts,a6 x.Prec.Name,bd x.Prec.Lit,ae x.Prec.cf,ae x.Prec.At,ae x.At]
def gH:bO Alt:=⟨6,λx=>Ih x,λ_=>rfl,λ_=>dm.bq⟩
instance:ik gH gH:=⟨rfl,λx=>(inferInstance:f_ (Ih x) (Ih x))⟩
def yl (a0:Alt):Option (Bool) :=
 (cg (R:=(Unit) ⊕ (Bool)) (λ(s1:Int) =>
 (bif decide (s1<(a0.Parts.length:Int)) then
 (idx a0.Parts s1).bind λbA =>
 ((bif decide (bA.Code=⟨#[]⟩) then ((uP bA.Sym false true).bind λbL=>(bif !bL then some true else (bif !decide (bA.Code=⟨#[]⟩) then ((uQ bA.Sym).bind λaY=>(bif !aY then some true else ((AH bA.Code 0).bind λcu=>some (!decide (cu=(bA.Code.size:Int)))))) else some false))) else (bif !decide (bA.Code=⟨#[]⟩) then ((uQ bA.Sym).bind λcL=>(bif !cL then some true else ((AH bA.Code 0).bind λcY=>some (!decide (cY=(bA.Code.size:Int)))))) else some false))).bind λqn =>
 (bif qn then
 some (.inr (.inr false))
 else
 some (.inl (aG (s1+1))))
 else
 some (.inr (.inl ())))) 0).bind λx2 =>
 (match x2 with
 | .inl a8 =>
 (((uQ a0.Prec).bind λeN=>(bif eN then some true else ((uP a0.Prec false true).bind λiC=>some iC)))).bind λH9 =>
 some H9
 | .inr bk =>
 some bk)
structure fK where
 Left:ByteArray
 gi:(List Alt)
 At:Int
 deriving DecidableEq,Inhabited
structure Source where
 hl:ByteArray
 Decls:(List Decl)
 eP:(List fK)
 j7:ByteArray
 deriving DecidableEq,Inhabited
def oB:bO fK:=⟨3,λx=>[a6 x.Left,ak gH x.gi,ae x.At],λ_=>rfl,λ_=>dm.bq⟩
instance:ik oB oB:=⟨rfl,λx=>(inferInstance:f_ [a6 x.Left,ak gH x.gi,ae x.At] [a6 x.Left,ak gH x.gi,ae x.At])⟩
def lR:bO Source:=⟨4,λx=>[a6 x.hl,ak eS x.Decls,ak oB x.eP,a6 x.j7],λ_=>rfl,λ_=>dm.bq⟩
def yh (a0:Source):Option (Bool) :=
 (cg (R:=(Unit) ⊕ (Bool)) (λ(s1:Int) =>
 (bif decide (aG (s1+1)<(a0.hl.size:Int)) then
 (w8 a0.hl s1 (aG (s1+2))).bind λbA =>
 (bif decide (bA=⟨#[37,125]⟩) then
 some (.inr (.inr false))
 else
 some (.inl (aG (s1+1))))
 else
 some (.inr (.inl ())))) 0).bind λx2 =>
 (match x2 with
 | .inl a8 =>
 (cg (R:=(Unit) ⊕ (Bool)) (λ(ei:Int) =>
 (bif decide (ei<(a0.Decls.length:Int)) then
 (idx a0.Decls ei).bind λcu =>
 (yk cu).bind λeF =>
 (bif !eF then
 some (.inr (.inr false))
 else
 some (.inl (aG (ei+1))))
 else
 some (.inr (.inl ())))) 0).bind λcw =>
 (match cw with
 | .inl ch =>
 (cg (R:=(Unit) ⊕ (Bool)) (λ(nL:Int) =>
 (bif decide (nL<(a0.eP.length:Int)) then
 (idx a0.eP nL).bind λfR =>
 (((wc fR.Left).bind λiC=>(bif !iC then some true else some (decide ((fR.gi.length:Int)=0))))).bind λwY =>
 (bif wY then
 some (.inr (.inr false))
 else
 (cg (R:=(Unit) ⊕ (Bool)) (λ(Eb:Int) =>
 (bif decide (Eb<(fR.gi.length:Int)) then
 (idx fR.gi Eb).bind λoT =>
 (yl oT).bind λcZ =>
 (bif !cZ then
 some (.inr (.inr false))
 else
 some (.inl (aG (Eb+1))))
 else
 some (.inr (.inl ())))) 0).bind λfG =>
 (match fG with
 | .inl gD =>
 some (.inl (aG (nL+1)))
 | .inr ee =>
 some (.inr (.inr ee))))
 else
 some (.inr (.inl ())))) 0).bind λcY =>
 (match cY with
 | .inl dM =>
 some (decide (0<(a0.eP.length:Int)))
 | .inr fQ =>
 some fQ)
 | .inr aY =>
 some aY)
 | .inr bk =>
 some bk)
structure db where
 ba:bD
 eb:(List Bool)
 fx:(List fJ)
 dw:(List ByteArray)
 eK:Int
 kn:Int
 ko:ByteArray
 fg:Int
 dc:Int
 deriving DecidableEq,Inhabited
abbrev zz (x:db):List ab:=[ak cv x.ba.br,ak e4 x.ba.dE,ak hK x.ba.bu,a6 x.ba.hl,a6 x.ba.j7,ak e3 x.eb,ak e4 x.fx,ak nX x.dw,ae x.eK,ae x.kn,a6 x.ko,ae x.fg,ae x.dc]
abbrev ep (x:db):List ab:=[aC cv x.ba.br,aC e4 x.ba.dE,aC hK x.ba.bu,a6 x.ba.hl,a6 x.ba.j7,aC e3 x.eb,aC e4 x.fx,aC nX x.dw,ae x.eK,ae x.kn,a6 x.ko,ae x.fg,ae x.dc]
def eT:bO db:=⟨13,λx=>ep x,λ_=>rfl,λ_=>dm.bq⟩
instance {x:db}:f_ (eT.cells x) (zz x):=(inferInstance:f_ (ep x) (zz x))
def od (a0:db) (aw:Int) (a2:ByteArray):Option (db) :=
 ((bif decide (a0.eK=0) then
 some (⟨a0.ba,a0.eb,a0.fx,a0.dw,3,aw,a2,a0.fg,a0.dc⟩:db)
 else
 some a0)).bind λlE =>
 some lE
def AB (a0:db) (aw:ByteArray):Option (Int) :=
 (cg (R:=(Unit) ⊕ (Int)) (λ(s1:Int) =>
 (bif decide (s1<(a0.fx.length:Int)) then
 (idx a0.fx s1).bind λbA =>
 (bif decide (bA.Name=aw) then
 some (.inr (.inr s1))
 else
 some (.inl (aG (s1+1))))
 else
 some (.inr (.inl ())))) 0).bind λx2 =>
 (match x2 with
 | .inl a8 =>
 some (-1)
 | .inr bk =>
 some bk)
def uO (a0:db) (aw:Sym):Option (Int) :=
 (cg (R:=(Unit) ⊕ (Int)) (λ(s1:Int) =>
 (bif decide (s1<(a0.ba.br.length:Int)) then
 (((idx a0.ba.br s1).bind λbA=>(bif decide (bA.Name=aw.Name) then ((idx a0.ba.br s1).bind λbL=>(bif (bL.Lit == aw.Lit) then some (!decide (s1=2)) else some false)) else some false))).bind λiI =>
 (bif iI then
 some (.inr (.inr s1))
 else
 some (.inl (aG (s1+1))))
 else
 some (.inr (.inl ())))) 1).bind λx2 =>
 (match x2 with
 | .inl a8 =>
 some (-1)
 | .inr bk =>
 some bk)
def wg (a0:db) (aw:Int):Option (Int) :=
 (cg (R:=(Unit) ⊕ (Int)) (λ(s1:Int) =>
 (bif decide (s1<(a0.ba.br.length:Int)) then
 (idx a0.ba.br s1).bind λbA =>
 (bif decide (bA.cf=aw) then
 some (.inr (.inr s1))
 else
 some (.inl (aG (s1+1))))
 else
 some (.inr (.inl ())))) 3).bind λx2 =>
 (match x2 with
 | .inl a8 =>
 some (-1)
 | .inr bk =>
 some bk)
def we (a0:db) (aw:Sym):Option (Int × db) :=
 (uO a0 aw).bind λaS =>
 (bif decide (0<=aS) then
 some (aS,a0)
 else
 ((bif aw.Lit then
 (kF aw.Name 0).bind λbV =>
 (wg a0 (aG bV)).bind λbA =>
 ((bif decide (0<=bA) then
 (od a0 aw.At aw.Name).bind λcw =>
 some cw
 else
 some a0)).bind λll =>
 some (ll,aG bV)
 else
 some (a0,0))).bind λhF =>
 (c8 hF.1.ba.br [(⟨aw.Name,aw.Lit,hF.2,0,0,⟨#[]⟩⟩:b5)]).bind λch =>
 (c8 hF.1.eb [aw.Lit]).bind λaY =>
 some (aG (((hF.1.ba.br++[(⟨aw.Name,aw.Lit,hF.2,0,0,⟨#[]⟩⟩:b5)]).length:Int) - 1),(⟨(⟨hF.1.ba.br++[(⟨aw.Name,aw.Lit,hF.2,0,0,⟨#[]⟩⟩:b5)],hF.1.ba.dE,hF.1.ba.bu,hF.1.ba.hl,hF.1.ba.j7⟩:bD),hF.1.eb++[aw.Lit],hF.1.fx,hF.1.dw,hF.1.eK,hF.1.kn,hF.1.ko,hF.1.fg,hF.1.dc⟩:db)))
def wa (a0:db) (aw:Decl) (a2:Sym):Option (db) :=
 (bif decide (aw.Kind=5) then
 (AB a0 a2.Name).bind λx2 =>
 ((bif decide (x2<0) then
 (c8 a0.fx [(⟨a2.Name,aw.Tag⟩:fJ)]).bind λbV =>
 some (⟨a0.ba,a0.eb,a0.fx++[(⟨a2.Name,aw.Tag⟩:fJ)],a0.dw,a0.eK,a0.kn,a0.ko,a0.fg,a0.dc⟩:db)
 else
 (idx a0.fx x2).bind λbA =>
 ((bif !decide (bA.Tag=aw.Tag) then
 (od a0 a2.At a2.Name).bind λcw =>
 some cw
 else
 some a0)).bind λll =>
 some ll)).bind λhF =>
 some hF
 else
 (we a0 a2).bind λch =>
 (idx ch.2.ba.br ch.1).bind λaY =>
 ((bif !decide (aw.Kind=1) then
 ((bif decide (0<aY.Level) then
 (od ch.2 a2.At a2.Name).bind λdr =>
 some (⟨(⟨ch.2.ba.br,dr.ba.dE,dr.ba.bu,dr.ba.hl,dr.ba.j7⟩:bD),dr.eb,dr.fx,dr.dw,dr.eK,dr.kn,dr.ko,dr.fg,dr.dc⟩:db)
 else
 some ch.2)).bind λfX =>
 (idx fX.ba.br ch.1).bind λcY =>
 some (⟨(⟨(fX.ba.br.set ch.1.toNat (⟨cY.Name,cY.Lit,cY.cf,fX.fg,cY.ji,cY.Tag⟩:b5)).set ch.1.toNat (⟨cY.Name,cY.Lit,cY.cf,fX.fg,aG (aw.Kind - 1),cY.Tag⟩:b5),fX.ba.dE,fX.ba.bu,fX.ba.hl,fX.ba.j7⟩:bD),fX.eb,fX.fx,fX.dw,fX.eK,fX.kn,fX.ko,fX.fg,fX.dc⟩:db)
 else
 some ch.2)).bind λha =>
 (idx ha.ba.br ch.1).bind λdM =>
 ((bif decide (0<a2.cf) then
 ((bif decide (ch.1=1) then some true else ((idx ha.eb ch.1).bind λiC=>(bif iC then some true else ((wg ha a2.cf).bind λhS=>some (decide (0<=hS))))))).bind λua =>
 ((bif ua then
 (od ha a2.At a2.Name).bind λgD =>
 some (⟨(⟨ha.ba.br,gD.ba.dE,gD.ba.bu,gD.ba.hl,gD.ba.j7⟩:bD),gD.eb,gD.fx,gD.dw,gD.eK,gD.kn,gD.ko,gD.fg,gD.dc⟩:db)
 else
 some ha)).bind λhY =>
 (idx hY.ba.br ch.1).bind λee =>
 (idx hY.eb ch.1).bind λiD =>
 some (⟨(⟨hY.ba.br.set ch.1.toNat (⟨ee.Name,ee.Lit,a2.cf,ee.Level,ee.ji,ee.Tag⟩:b5),hY.ba.dE,hY.ba.bu,hY.ba.hl,hY.ba.j7⟩:bD),hY.eb.set ch.1.toNat true,hY.fx,hY.dw,hY.eK,hY.kn,hY.ko,hY.fg,hY.dc⟩:db)
 else
 some ha)).bind λiM =>
 (idx iM.ba.br ch.1).bind λoT =>
 ((bif !decide (aw.Tag=⟨#[]⟩) then
 ((bif !decide (oT.Tag=⟨#[]⟩) then some (!decide (oT.Tag=aw.Tag)) else some false)).bind λub =>
 ((bif ub then
 (od iM a2.At a2.Name).bind λgQ =>
 some (⟨(⟨iM.ba.br,gQ.ba.dE,gQ.ba.bu,gQ.ba.hl,gQ.ba.j7⟩:bD),gQ.eb,gQ.fx,gQ.dw,gQ.eK,gQ.kn,gQ.ko,gQ.fg,gQ.dc⟩:db)
 else
 some iM)).bind λnH =>
 (idx nH.ba.br ch.1).bind λkT =>
 some (⟨(⟨nH.ba.br.set ch.1.toNat (⟨kT.Name,kT.Lit,kT.cf,kT.Level,kT.ji,aw.Tag⟩:b5),nH.ba.dE,nH.ba.bu,nH.ba.hl,nH.ba.j7⟩:bD),nH.eb,nH.fx,nH.dw,nH.eK,nH.kn,nH.ko,nH.fg,nH.dc⟩:db)
 else
 some iM)).bind λpY =>
 some pY)
def tA (a0:db) (aw:ByteArray):Option (Int) :=
 (cg (R:=(Unit) ⊕ (Int)) (λ(s1:Int) =>
 (bif decide (s1<(a0.dw.length:Int)) then
 (idx a0.dw s1).bind λbA =>
 (bif decide (bA=aw) then
 some (.inr (.inr s1))
 else
 some (.inl (aG (s1+1))))
 else
 some (.inr (.inl ())))) 0).bind λx2 =>
 (match x2 with
 | .inl a8 =>
 some (-1)
 | .inr bk =>
 some bk)
def tB (a0:db) (aw:Sym):Option (Int × db) :=
 (bif aw.Lit then
 (we a0 aw).bind λx2 =>
 some (x2.1,x2.2)
 else
 (tA a0 aw.Name).bind λa8 =>
 (bif decide (0<=a8) then
 some (aG (1001+a8),a0)
 else
 (uO a0 aw).bind λbV =>
 (bif decide (bV<0) then
 (od a0 aw.At aw.Name).bind λbn =>
 some (0,bn)
 else
 some (bV,a0))))
def wb (a0:db) (aw:ByteArray) (a2:Alt):Option (db) :=
 (tA a0 aw).bind λaS =>
 (cg (R:=db × List Int × ByteArray × Int) (λ(s2:db × List Int × ByteArray × Int × Int) =>
 (bif decide (s2.2.2.2.2<(a2.Parts.length:Int)) then
 ((idx a2.Parts s2.2.2.2.2).bind λbn =>
 (((bif decide (bn.Code=⟨#[]⟩) then
 (tB s2.1 bn.Sym).bind λaY =>
 (c8 s2.2.1 [aY.1]).bind λdL =>
 some (aY.2,s2.2.1++[aY.1],s2.2.2.1,s2.2.2.2.1)
 else
 ((bif decide (aG (s2.2.2.2.2+1)=(a2.Parts.length:Int)) then
 some (s2.1.ba.bu,s2.1.dc,s2.2.1,bn.Code,bn.At)
 else
 (c8 ([]:List Int) s2.2.1).bind λcL =>
 (c8 s2.1.ba.bu [(⟨aG ((s2.1.dw.length:Int)+(aG (s2.1.dc+1))),([]:List Int),(-1),bn.Code,([]:List Int)++s2.2.1,bn.At⟩:Prod)]).bind λdr =>
 (c8 s2.2.1 [aG ((aG (1000+(s2.1.dw.length:Int)))+(aG (s2.1.dc+1)))]).bind λcY =>
 some (s2.1.ba.bu++[(⟨aG ((s2.1.dw.length:Int)+(aG (s2.1.dc+1))),([]:List Int),(-1),bn.Code,([]:List Int)++s2.2.1,bn.At⟩:Prod)],aG (s2.1.dc+1),s2.2.1++[aG ((aG (1000+(s2.1.dw.length:Int)))+(aG (s2.1.dc+1)))],s2.2.2.1,s2.2.2.2.1))).bind λlj =>
 some ((⟨(⟨s2.1.ba.br,s2.1.ba.dE,lj.1,s2.1.ba.hl,s2.1.ba.j7⟩:bD),s2.1.eb,s2.1.fx,s2.1.dw,s2.1.eK,s2.1.kn,s2.1.ko,s2.1.fg,lj.2.1⟩:db),lj.2.2.1,lj.2.2.2.1,lj.2.2.2.2))).bind λm_ =>
 some (m_.1,m_.2.1,m_.2.2.1,m_.2.2.2)).bind λd_ =>
 some (d_.1,d_.2.1,d_.2.2.1,d_.2.2.2)).bind λlk =>
 some (.inl (lk.1,lk.2.1,lk.2.2.1,lk.2.2.2,aG (s2.2.2.2.2+1)))
 else
 some (.inr (s2.1,s2.2.1,s2.2.2.1,s2.2.2.2.1)))) (a0,([]:List Int),⟨#[]⟩,a2.At,0)).bind λa8 =>
 (cg (R:=Int) (λ(tF:Int × Int) =>
 (bif decide (tF.2<(a8.2.1.length:Int)) then
 ((idx a8.2.1 tF.2).bind λfF =>
 ((bif decide (fF<1000) then
 (idx a8.2.1 tF.2).bind λiS =>
 some iS
 else
 some tF.1)).bind λKD =>
 some KD).bind λsD =>
 some (.inl (sD,aG (tF.2+1)))
 else
 some (.inr tF.1))) ((-1),0)).bind λfQ =>
 ((bif !decide (a2.Prec.Name=⟨#[]⟩) then
 ((bif a2.Prec.Lit then some true else ((tA a8.1 a2.Prec.Name).bind λiD=>some (decide (iD<0))))).bind λw1 =>
 ((bif w1 then
 (tB a8.1 a2.Prec).bind λlr =>
 some (lr.2,lr.1)
 else
 (od a8.1 a2.Prec.At a2.Prec.Name).bind λfp =>
 some (fp,(-1)))).bind λpY =>
 some (pY.1,pY.2)
 else
 some (a8.1,fQ))).bind λkc =>
 (c8 ([]:List Int) a8.2.1).bind λqW =>
 (c8 kc.1.ba.bu [(⟨aG (1+aS),a8.2.1,kc.2,a8.2.2.1,([]:List Int)++a8.2.1,a8.2.2.2⟩:Prod)]).bind λnk =>
 some (⟨(⟨kc.1.ba.br,kc.1.ba.dE,kc.1.ba.bu++[(⟨aG (1+aS),a8.2.1,kc.2,a8.2.2.1,([]:List Int)++a8.2.1,a8.2.2.2⟩:Prod)],kc.1.ba.hl,kc.1.ba.j7⟩:bD),kc.1.eb,kc.1.fx,kc.1.dw,kc.1.eK,kc.1.kn,kc.1.ko,kc.1.fg,kc.1.dc⟩:db)
def DH (a0:Int):Option (ByteArray) :=
 ((bif decide (a0<0) then
 some (IntKind.u64.wrap (-(IntKind.u64.wrap a0)))
 else
 some (IntKind.u64.wrap a0))).bind λlE =>
 (cg (R:=ByteArray) (λ(eE:Int × ByteArray) =>
 ((bif decide (0<eE.1) then some true else some (decide (eE.2=⟨#[]⟩)))).bind λnW =>
 (bif nW then
 (uY eE.1 10).bind λcw =>
 (w3 (strOfNums [Hk (IntKind.u64.wrap (48+cw))]) eE.2).bind λch =>
 (uU eE.1 10).bind λaY =>
 some (.inl (aY,ch))
 else
 some (.inr eE.2))) (lE,⟨#[]⟩)).bind λbk =>
 (bif decide (a0<0) then
 (w3 (⟨#[45]⟩) bk).bind λcu =>
 some cu
 else
 some bk)
def v' (a0:Source):Option (bD × Int × Int × ByteArray) :=
 (yh a0).bind λaS =>
 (bif !aS then
 some ((⟨([]:List b5),([]:List fJ),([]:List Prod),⟨#[]⟩,⟨#[]⟩⟩:bD),1,0,⟨#[]⟩)
 else
 (oO 3 false).bind λa8 =>
 (cg (R:=db × ByteArray) (λ(da:db × ByteArray × Int) =>
 (bif decide (da.2.2<(a0.Decls.length:Int)) then
 (idx a0.Decls da.2.2).bind λbL =>
 ((bif decide (2<=bL.Kind) then some (decide (bL.Kind<=4)) else some false)).bind λiI =>
 ((bif iI then
 some (aG (da.1.fg+1))
 else
 some da.1.fg)).bind λjc =>
 (cg (R:=db × ByteArray) (λ(nK:db × ByteArray × Int) =>
 (bif decide (nK.2.2<(bL.ff.length:Int)) then
 ((bif !decide (bL.Kind=6) then
 (idx bL.ff nK.2.2).bind λfQ =>
 (wa nK.1 bL fQ).bind λeN =>
 some (eN,nK.2.1)
 else
 ((bif !decide (nK.2.1=⟨#[]⟩) then
 (idx bL.ff nK.2.2).bind λfF =>
 (idx bL.ff nK.2.2).bind λhS =>
 (od nK.1 fF.At hS.Name).bind λkB =>
 some kB
 else
 some nK.1)).bind λpX =>
 (idx bL.ff nK.2.2).bind λiS =>
 some (pX,iS.Name))).bind λC9 =>
 some (.inl (C9.1,C9.2,aG (nK.2.2+1)))
 else
 some (.inr (nK.1,nK.2.1)))) ((⟨da.1.ba,da.1.eb,da.1.fx,da.1.dw,da.1.eK,da.1.kn,da.1.ko,jc,da.1.dc⟩:db),da.2.1,0)).bind λeF =>
 some (.inl (eF.1,eF.2,aG (da.2.2+1)))
 else
 some (.inr (da.1,da.2.1)))) ((⟨(⟨[(⟨⟨#[36,101,110,100]⟩,false,0,0,0,⟨#[]⟩⟩:b5),(⟨⟨#[101,114,114,111,114]⟩,false,(-1),0,0,⟨#[]⟩⟩:b5),(⟨⟨#[36,117,110,107]⟩,false,(-1),0,0,⟨#[]⟩⟩:b5)],[],[],⟨#[]⟩,⟨#[]⟩⟩:bD),a8,[],[],0,0,⟨#[]⟩,0,0⟩:db),⟨#[]⟩,0)).bind λbV =>
 (cg (R:=db) (λ(sN:db × Int) =>
 (bif decide (sN.2<(a0.eP.length:Int)) then
 ((idx a0.eP sN.2).bind λcZ =>
 (uO sN.1 (⟨cZ.Left,false,0,0⟩:Sym)).bind λhT =>
 ((bif decide (0<=hT) then
 (od sN.1 cZ.At cZ.Left).bind λqW =>
 some qW
 else
 some sN.1)).bind λmZ =>
 (tA mZ cZ.Left).bind λnk =>
 ((bif decide (nk<0) then
 (c8 mZ.dw [cZ.Left]).bind λwC =>
 some (mZ.dw++[cZ.Left])
 else
 some mZ.dw)).bind λKH =>
 some (⟨mZ.ba,mZ.eb,mZ.fx,KH,mZ.eK,mZ.kn,mZ.ko,mZ.fg,mZ.dc⟩:db)).bind λxU =>
 some (.inl (xU,aG (sN.2+1)))
 else
 some (.inr sN.1))) (bV.1,0)).bind λgD =>
 (cg (R:=db) (λ(rT:db × Int) =>
 (bif decide (rT.2<(a0.Decls.length:Int)) then
 (cg (R:=db) (λ(sO:db × Int) =>
 (idx a0.Decls rT.2).bind λHn =>
 (bif decide (sO.2<(Hn.ff.length:Int)) then
 ((idx a0.Decls rT.2).bind λA9 =>
 (idx A9.ff sO.2).bind λtK =>
 (((idx a0.Decls rT.2).bind λL5=>(bif decide (5<=L5.Kind) then ((tA sO.1 tK.Name).bind λmA=>some (decide (mA<0))) else some false))).bind λIe =>
 ((bif Ie then
 (od sO.1 tK.At tK.Name).bind λRN =>
 some RN
 else
 some sO.1)).bind λKK =>
 some KK).bind λKJ =>
 some (.inl (KJ,aG (sO.2+1)))
 else
 some (.inr sO.1))) (rT.1,0)).bind λqX =>
 some (.inl (qX,aG (rT.2+1)))
 else
 some (.inr rT.1))) (gD,0)).bind λhI =>
 ((bif decide (bV.2=⟨#[]⟩) then
 (idx a0.eP 0).bind λwE =>
 some wE.Left
 else
 some bV.2)).bind λxW =>
 (tA hI xW).bind λmB =>
 (cg (R:=db) (λ(rU:db × Int) =>
 (bif decide (rU.2<(a0.eP.length:Int)) then
 (cg (R:=db) (λ(uZ:db × Int) =>
 (idx a0.eP rU.2).bind λEw =>
 (bif decide (uZ.2<(Ew.gi.length:Int)) then
 (idx a0.eP rU.2).bind λL7 =>
 (idx a0.eP rU.2).bind λL8 =>
 (idx L8.gi uZ.2).bind λL9 =>
 (wb uZ.1 L7.Left L9).bind λRO =>
 some (.inl (RO,aG (uZ.2+1)))
 else
 some (.inr uZ.1))) (rU.1,0)).bind λkU =>
 some (.inl (kU,aG (rU.2+1)))
 else
 some (.inr rU.1))) ((⟨(⟨hI.ba.br,hI.ba.dE,[(⟨0,[aG (1001+mB)],(-1),⟨#[]⟩,([]:List Int),0⟩:Prod)],hI.ba.hl,hI.ba.j7⟩:bD),hI.eb,hI.fx,hI.dw,hI.eK,hI.kn,hI.ko,hI.fg,hI.dc⟩:db),0)).bind λcn =>
 (bif !decide (cn.eK=0) then
 some ((⟨([]:List b5),([]:List fJ),([]:List Prod),⟨#[]⟩,⟨#[]⟩⟩:bD),cn.eK,cn.kn,cn.ko)
 else
 (cg (R:=List fJ) (λ(rV:List fJ × Int) =>
 (bif decide (rV.2<(cn.dw.length:Int)) then
 (idx cn.dw rV.2).bind λqY =>
 (AB (⟨(⟨cn.ba.br,rV.1,cn.ba.bu,cn.ba.hl,cn.ba.j7⟩:bD),cn.eb,cn.fx,cn.dw,cn.eK,cn.kn,cn.ko,cn.fg,cn.dc⟩:db) qY).bind λyO =>
 ((bif decide (0<=yO) then
 (idx cn.fx yO).bind λL_ =>
 some L_.Tag
 else
 some (⟨#[]⟩))).bind λuI =>
 (c8 rV.1 [(⟨qY,uI⟩:fJ)]).bind λRP =>
 some (.inl (rV.1++[(⟨qY,uI⟩:fJ)],aG (rV.2+1)))
 else
 some (.inr rV.1))) ([(⟨⟨#[36,97,99,99,101,112,116]⟩,⟨#[]⟩⟩:fJ)],0)).bind λwF =>
 (cg (R:=List fJ) (λ(sP:List fJ × Int) =>
 (bif decide (sP.2<=cn.dc) then
 (DH sP.2).bind λHo =>
 (w3 (⟨#[64]⟩) Ho).bind λwG =>
 (c8 sP.1 [(⟨wG,⟨#[]⟩⟩:fJ)]).bind λRQ =>
 some (.inl (sP.1++[(⟨wG,⟨#[]⟩⟩:fJ)],aG (sP.2+1)))
 else
 some (.inr sP.1))) (wF,1)).bind λlI =>
 (cg (R:=List b5) (λ(mv:List b5 × Int × Int) =>
 (bif decide (mv.2.2<(mv.1.length:Int)) then
 ((idx cn.eb mv.2.2).bind λL3 =>
 ((bif !L3 then
 (idx mv.1 mv.2.2).bind λsX =>
 some (mv.1.set mv.2.2.toNat (⟨sX.Name,sX.Lit,mv.2.1,sX.Level,sX.ji,sX.Tag⟩:b5),aG (mv.2.1+1))
 else
 some (mv.1,mv.2.1))).bind λC8 =>
 some (C8.1,C8.2)).bind λC_ =>
 some (.inl (C_.1,C_.2,aG (mv.2.2+1)))
 else
 some (.inr mv.1))) (cn.ba.br,57346,3)).bind λmC =>
 ((bif decide (40<(mC.length:Int)) then some true else (bif decide (24<(lI.length:Int)) then some true else some (decide (60<(cn.ba.bu.length:Int)))))).bind λvl =>
 (cg (R:=Bool) (λ(tE:Bool × Int) =>
 (bif decide (tE.2<(cn.ba.bu.length:Int)) then
 ((bif tE.1 then some true else ((idx cn.ba.bu tE.2).bind λL4=>some (decide (8<(L4.dF.length:Int)))))).bind λH6 =>
 some (.inl (H6,aG (tE.2+1)))
 else
 some (.inr tE.1))) (vl,0)).bind λA8 =>
 (bif A8 then
 some ((⟨([]:List b5),([]:List fJ),([]:List Prod),⟨#[]⟩,⟨#[]⟩⟩:bD),4,0,⟨#[]⟩)
 else
 some ((⟨mC,lI,cn.ba.bu,a0.hl,a0.j7⟩:bD),0,0,⟨#[]⟩))))
def yv (a0:Source):Option (bD × Bool) :=
 (v' a0).bind λaS =>
 some (aS.1,decide (aS.2.1=0))
def AJ (a0:(List Int)) (aw:Int):Option (Bool) :=
 (cg (R:=(Unit) ⊕ (Bool)) (λ(s1:Int) =>
 (bif decide (s1<(a0.length:Int)) then
 (idx a0 s1).bind λbA =>
 (bif decide (bA=aw) then
 some (.inr (.inr true))
 else
 some (.inl (aG (s1+1))))
 else
 some (.inr (.inl ())))) 0).bind λx2 =>
 (match x2 with
 | .inl a8 =>
 some false
 | .inr bk =>
 some bk)
def qN (a0:(List Int)) (aw:Int):Option ((List Int)) :=
 (cg (R:=Int) (λ(s1:Int) =>
 ((bif decide (0<s1) then ((idx a0 (aG (s1 - 1))).bind λbV=>some (decide (aw<bV))) else some false)).bind λw2 =>
 (bif w2 then
 some (.inl (aG (s1 - 1)))
 else
 some (.inr s1))) (a0.length:Int)).bind λx2 =>
 ((bif decide (0<x2) then ((idx a0 (aG (x2 - 1))).bind λcw=>some (decide (cw=aw))) else some false)).bind λiI =>
 (bif iI then
 some a0
 else
 (og a0 0 x2).bind λdL =>
 (c8 ([]:List Int) dL).bind λcu =>
 (c8 (([]:List Int)++dL) [aw]).bind λeF =>
 (og a0 x2 a0.length).bind λcL =>
 (c8 ((([]:List Int)++dL)++[aw]) cL).bind λdr =>
 some ((([]:List Int)++dL)++[aw]++cL))
def Dy (a0:bD):Option ((List Int)) :=
 (cg (R:=List Int) (λ(s1:List Int × Int) =>
 (bif decide (s1.2<(a0.br.length:Int)) then
 (c8 s1.1 [s1.2]).bind λbV =>
 some (.inl (s1.1++[s1.2],aG (s1.2+1)))
 else
 some (.inr s1.1))) (([]:List Int),0)).bind λx2 =>
 (cg (R:=List Int) (λ(cK:List Int × Int) =>
 (bif decide (cK.2<(a0.dE.length:Int)) then
 (c8 cK.1 [aG (1000+cK.2)]).bind λch =>
 some (.inl (cK.1++[aG (1000+cK.2)],aG (cK.2+1)))
 else
 some (.inr cK.1))) (x2,0)).bind λbn =>
 some bn
structure Item where
 Prod:Int
 ec:Int
 deriving DecidableEq,Inhabited
def AD (a0:bD) (aw:Item):Option (Bool) :=
 ((bif decide (0<=aw.Prod) then (bif decide (aw.Prod<(a0.bu.length:Int)) then (bif decide (0<=aw.ec) then ((idx a0.bu aw.Prod).bind λbk=>some (decide (aw.ec<=(bk.dF.length:Int)))) else some false) else some false) else some false)).bind λjJ =>
 some jJ
def yf (a0:bD) (aw:Item):Option (Int) :=
 (((AD a0 aw).bind λaS=>(bif !aS then some true else ((idx a0.bu aw.Prod).bind λa8=>some (decide (aw.ec=(a8.dF.length:Int))))))).bind λc4 =>
 (bif c4 then
 some (-1)
 else
 (idx a0.bu aw.Prod).bind λbA =>
 (idx bA.dF aw.ec).bind λbn =>
 some bn)
def gb:bO Item:=⟨2,λx=>[ae x.Prod,ae x.ec],λ_=>rfl,λ_=>dm.bq⟩
instance:ik gb gb:=⟨rfl,λx=>(inferInstance:f_ [ae x.Prod,ae x.ec] [ae x.Prod,ae x.ec])⟩
def yj (a0:(List Item)) (aw:Item):Option ((List Item)) :=
 (cg (R:=Int) (λ(s1:Int) =>
 ((bif decide (0<s1) then ((idx a0 (aG (s1 - 1))).bind λbV=>(bif decide (aw.Prod<bV.Prod) then some true else ((idx a0 (aG (s1 - 1))).bind λbn=>(bif decide (bn.Prod=aw.Prod) then ((idx a0 (aG (s1 - 1))).bind λcw=>some (decide (aw.ec<cw.ec))) else some false)))) else some false)).bind λiI =>
 (bif iI then
 some (.inl (aG (s1 - 1)))
 else
 some (.inr s1))) (a0.length:Int)).bind λx2 =>
 ((bif decide (0<x2) then ((idx a0 (aG (x2 - 1))).bind λcu=>some (decide (cu.Prod=aw.Prod)&&(decide (cu.ec=aw.ec)&&true))) else some false)).bind λsa =>
 (bif sa then
 some a0
 else
 (og a0 0 x2).bind λdr =>
 (c8 ([]:List Item) dr).bind λcY =>
 (c8 (([]:List Item)++dr) [aw]).bind λdM =>
 (og a0 x2 a0.length).bind λfQ =>
 (c8 ((([]:List Item)++dr)++[aw]) fQ).bind λeN =>
 some ((([]:List Item)++dr)++[aw]++fQ))
def DI (a0:bD) (aw:(List Item)):Option ((List Item)) :=
 (cg (R:=List Item) (λ(s1:List Item × Int) =>
 (bif decide (s1.2<(aw.length:Int)) then
 ((idx aw s1.2).bind λbA =>
 (AD a0 bA).bind λbn =>
 ((bif bn then
 (idx aw s1.2).bind λch =>
 (yj s1.1 ch).bind λaY =>
 some aY
 else
 some s1.1)).bind λd_ =>
 some d_).bind λiy =>
 some (.inl (iy,aG (s1.2+1)))
 else
 some (.inr s1.1))) (([]:List Item),0)).bind λx2 =>
 some x2
def ye (a0:bD) (aw:(List Item)):Option ((List Item)) :=
 (DI a0 aw).bind λaS =>
 (cg (R:=List Item) (λ(s2:List Item × Int) =>
 (bif !decide (s2.2=(s2.1.length:Int)) then
 (((cg (R:=List Item) (λ(ei:List Item × Int) =>
 (bif decide (ei.2<(s2.1.length:Int)) then
 (idx ei.1 ei.2).bind λdL =>
 (yf a0 dL).bind λcu =>
 (cg (R:=List Item) (λ(er:List Item × Int) =>
 ((bif decide (er.2<(a0.bu.length:Int)) then some (decide (1000<=cu)) else some false)).bind λqn =>
 (bif qn then
 ((idx a0.bu er.2).bind λfR =>
 ((bif decide (fR.Left=aG (cu - 1000)) then
 (yj er.1 (⟨er.2,0⟩:Item)).bind λhS =>
 some hS
 else
 some er.1)).bind λsD =>
 some sD).bind λxT =>
 some (.inl (xT,aG (er.2+1)))
 else
 some (.inr er.1))) (ei.1,0)).bind λcL =>
 (bif !decide ((cL.length:Int)=(s2.1.length:Int)) then
 some (.inr cL)
 else
 some (.inl (cL,aG (ei.2+1))))
 else
 some (.inr ei.1))) (s2.1,0)).bind λcw =>
 some cw).bind λll =>
 some (ll,(s2.1.length:Int))).bind λlk =>
 some (.inl (lk.1,lk.2))
 else
 some (.inr s2.1))) (aS,(-1))).bind λa8 =>
 some a8
def Dz (a0:bD) (aw:(List Item)) (a2:Int):Option ((List Item)) :=
 (ye a0 aw).bind λaS =>
 (cg (R:=List Item) (λ(s2:List Item × Int) =>
 (bif decide (s2.2<(aS.length:Int)) then
 ((idx aS s2.2).bind λbn =>
 (yf a0 bn).bind λbL =>
 ((bif decide (0<=bL) then some (decide (bL=a2)) else some false)).bind λiI =>
 ((bif iI then
 (idx aS s2.2).bind λcu =>
 (idx aS s2.2).bind λeF =>
 (yj s2.1 (⟨cu.Prod,aG (eF.ec+1)⟩:Item)).bind λcL =>
 some cL
 else
 some s2.1)).bind λjc =>
 some jc).bind λlk =>
 some (.inl (lk,aG (s2.2+1)))
 else
 some (.inr s2.1))) (([]:List Item),0)).bind λa8 =>
 some a8
def DJ (a0:(List Item)) (aw:(List Item)):Option (Bool) :=
 (bif !decide ((a0.length:Int)=(aw.length:Int)) then
 some false
 else
 (cg (R:=(Unit) ⊕ (Bool)) (λ(s2:Int) =>
 (bif decide (s2<(a0.length:Int)) then
 (idx a0 s2).bind λbn =>
 (idx aw s2).bind λbL =>
 (bif !(decide (bn.Prod=bL.Prod)&&(decide (bn.ec=bL.ec)&&true)) then
 some (.inr (.inr false))
 else
 some (.inl (aG (s2+1))))
 else
 some (.inr (.inl ())))) 0).bind λa8 =>
 (match a8 with
 | .inl bk =>
 some true
 | .inr bV =>
 some bV))
structure Move where
 Sym:Int
 r8:Int
 deriving DecidableEq,Inhabited
structure State where
 Kernel:(List Item)
 dX:(List Move)
 deriving DecidableEq,Inhabited
def oA:bO Move:=⟨2,λx=>[ae x.Sym,ae x.r8],λ_=>rfl,λ_=>dm.bq⟩
instance:ik oA oA:=⟨rfl,λx=>(inferInstance:f_ [ae x.Sym,ae x.r8] [ae x.Sym,ae x.r8])⟩
def gY:bO State:=⟨2,λx=>[ak gb x.Kernel,ak oA x.dX],λ_=>rfl,λ_=>dm.bq⟩
def DA (a0:(List State)) (aw:(List Item)):Option (Int) :=
 (cg (R:=(Unit) ⊕ (Int)) (λ(s1:Int) =>
 (bif decide (s1<(a0.length:Int)) then
 (idx a0 s1).bind λbA =>
 (DJ bA.Kernel aw).bind λbn =>
 (bif bn then
 some (.inr (.inr s1))
 else
 some (.inl (aG (s1+1))))
 else
 some (.inr (.inl ())))) 0).bind λx2 =>
 (match x2 with
 | .inl a8 =>
 some (-1)
 | .inr bk =>
 some bk)
def gR:bO State:=⟨2,λx=>[ak gb x.Kernel,aC oA x.dX],λ_=>rfl,λ_=>dm.bq⟩
instance:ik gR gY:=⟨rfl,λx=>(inferInstance:f_ [ak gb x.Kernel,aC oA x.dX] [ak gb x.Kernel,ak oA x.dX])⟩
def AX (a0:bD):Option ((List State) × Int) :=
 (Dy a0).bind λaS =>
 (cg (R:=(List State) ⊕ (List State × Int)) (λ(s2:List State × Int) =>
 (bif decide (s2.2<(s2.1.length:Int)) then
 (idx s2.1 s2.2).bind λbn =>
 (ye a0 bn.Kernel).bind λbL =>
 (cg (R:=List Int) (λ(oR:List Int × Int) =>
 (bif decide (oR.2<(bL.length:Int)) then
 ((idx bL oR.2).bind λeF =>
 (yf a0 eF).bind λcL =>
 ((bif decide (0<=cL) then
 (qN oR.1 cL).bind λdM =>
 some dM
 else
 some oR.1)).bind λn9 =>
 some n9).bind λlj =>
 some (.inl (lj,aG (oR.2+1)))
 else
 some (.inr oR.1))) (([]:List Int),0)).bind λch =>
 (cg (R:=(List State) ⊕ (List State × Int)) (λ(di:List State × Int) =>
 (bif decide (di.2<(aS.length:Int)) then
 (idx aS di.2).bind λhS =>
 (AJ ch hS).bind λkB =>
 (bif !kB then
 some (.inl (di.1,aG (di.2+1)))
 else
 (idx di.1 s2.2).bind λfG =>
 (idx aS di.2).bind λgD =>
 (Dz a0 fG.Kernel gD).bind λee =>
 (DA di.1 ee).bind λiD =>
 (bif decide (iD<0) then
 (bif decide ((di.1.length:Int)=150) then
 some (.inr (.inr (([]:List State),4)))
 else
 (c8 di.1 [(⟨ee,([]:List Move)⟩:State)]).bind λhT =>
 (idx (di.1++[(⟨ee,([]:List Move)⟩:State)]) s2.2).bind λlr =>
 (idx aS di.2).bind λfp =>
 (c8 lr.dX [(⟨fp,(di.1.length:Int)⟩:Move)]).bind λqW =>
 some (.inl ((di.1++[(⟨ee,([]:List Move)⟩:State)]).set s2.2.toNat (⟨lr.Kernel,lr.dX++[(⟨fp,(di.1.length:Int)⟩:Move)]⟩:State),aG (di.2+1))))
 else
 (idx di.1 s2.2).bind λnk =>
 (idx aS di.2).bind λgQ =>
 (c8 nk.dX [(⟨gQ,iD⟩:Move)]).bind λkT =>
 some (.inl (di.1.set s2.2.toNat (⟨nk.Kernel,nk.dX++[(⟨gQ,iD⟩:Move)]⟩:State),aG (di.2+1)))))
 else
 some (.inr (.inl di.1)))) (s2.1,0)).bind λeN =>
 (match eN with
 | .inl fR =>
 some (.inl (fR,aG (s2.2+1)))
 | .inr iC =>
 some (.inr (.inr (iC.1,iC.2))))
 else
 some (.inr (.inl s2.1)))) ([(⟨[(⟨0,0⟩:Item)],([]:List Move)⟩:State)],0)).bind λa8 =>
 (match a8 with
 | .inl bk =>
 some (bk,0)
 | .inr bV =>
 some (bV.1,bV.2))
def Gy (a0:Source):Option (bD × (List State) × Bool) :=
 (yv a0).bind λaS =>
 (bif !aS.2 then
 some (aS.1,([]:List State),false)
 else
 (AX aS.1).bind λa8 =>
 some (aS.1,a8.1,decide (a8.2=0)))
def rQ (a0:(List State)) (aw:Int) (a2:Int):Option (Int) :=
 (cg (R:=(Unit) ⊕ (Int)) (λ(s1:Int) =>
 ((bif decide (0<=aw) then (bif decide (aw<(a0.length:Int)) then ((idx a0 aw).bind λbn=>some (decide (s1<(bn.dX.length:Int)))) else some false) else some false)).bind λuc =>
 (bif uc then
 (idx a0 aw).bind λch =>
 (idx ch.dX s1).bind λaY =>
 (bif decide (aY.Sym=a2) then
 (idx a0 aw).bind λcu =>
 (idx cu.dX s1).bind λeF =>
 some (.inr (.inr eF.r8))
 else
 some (.inl (aG (s1+1))))
 else
 some (.inr (.inl ())))) 0).bind λx2 =>
 (match x2 with
 | .inl a8 =>
 some (-1)
 | .inr bk =>
 some bk)
structure Cell where
 State:Int
 b5:Int
 k3:Int
 nN:Bool
 bu:(List Int)
 deriving DecidableEq,Inhabited
abbrev Ii (x:Cell):List ab:=[ae x.State,ae x.b5,ae x.k3,bd x.nN,ak ai x.bu]
def iW:bO Cell:=⟨5,λx=>Ii x,λ_=>rfl,λ_=>dm.bq⟩
instance:ik iW iW:=⟨rfl,λx=>(inferInstance:f_ (Ii x) (Ii x))⟩
def AS (a0:Cell):Option (Int) :=
 ((bif decide (0<=a0.k3) then
 some (aG ((a0.bu.length:Int)+1))
 else
 some (a0.bu.length:Int))).bind λlE =>
 ((bif a0.nN then
 some (aG (lE+1))
 else
 some lE)).bind λhF =>
 some hF
structure lM where
 State:Int
 Prod:Int
 br:(List Int)
 deriving DecidableEq,Inhabited
def uf:bO lM:=⟨3,λx=>[ae x.State,ae x.Prod,ak ai x.br],λ_=>rfl,λ_=>dm.bq⟩
instance:ik uf uf:=⟨rfl,λx=>(inferInstance:f_ [ae x.State,ae x.Prod,ak ai x.br] [ae x.State,ae x.Prod,ak ai x.br])⟩
def DX (a0:bD) (aw:(List State)) (a2:(List lM)):Option ((List Cell)) :=
 (cg (R:=List Cell) (λ(s1:List Cell × Int) =>
 (bif decide (s1.2<(aw.length:Int)) then
 (cg (R:=List Cell) (λ(b3:List Cell × Int) =>
 (bif decide (b3.2<(a0.br.length:Int)) then
 ((rQ aw s1.2 b3.2).bind λch =>
 (cg (R:=Bool) (λ(nJ:Bool × Int) =>
 (idx aw s1.2).bind λeF =>
 (bif decide (nJ.2<(eF.Kernel.length:Int)) then
 (idx aw s1.2).bind λdr =>
 (idx dr.Kernel nJ.2).bind λcY =>
 ((bif nJ.1 then some true else (bif decide (b3.2=0) then (bif decide (cY.Prod=0) then some (decide (cY.ec=1)) else some false) else some false))).bind λs9 =>
 some (.inl (s9,aG (nJ.2+1)))
 else
 some (.inr nJ.1))) (false,0)).bind λdL =>
 (cg (R:=List Int) (λ(iA:List Int × Int) =>
 (bif decide (iA.2<(a2.length:Int)) then
 ((((idx a2 iA.2).bind λfG=>(bif decide (fG.State=s1.2) then ((idx a2 iA.2).bind λee=>((AJ ee.br b3.2).bind λiD=>some iD)) else some false))).bind λw1 =>
 ((bif w1 then
 (idx a2 iA.2).bind λlr =>
 (qN iA.1 lr.Prod).bind λfp =>
 some fp
 else
 some iA.1)).bind λpY =>
 some pY).bind λhY =>
 some (.inl (hY,aG (iA.2+1)))
 else
 some (.inr iA.1))) (([]:List Int),0)).bind λfF =>
 (AS (⟨s1.2,b3.2,ch,dL,fF⟩:Cell)).bind λqW =>
 ((bif decide (0<qW) then
 (c8 b3.1 [(⟨s1.2,b3.2,ch,dL,fF⟩:Cell)]).bind λkT =>
 some (b3.1++[(⟨s1.2,b3.2,ch,dL,fF⟩:Cell)])
 else
 some b3.1)).bind λKG =>
 some KG).bind λm_ =>
 some (.inl (m_,aG (b3.2+1)))
 else
 some (.inr b3.1))) (s1.1,0)).bind λbA =>
 some (.inl (bA,aG (s1.2+1)))
 else
 some (.inr s1.1))) (([]:List Cell),0)).bind λx2 =>
 some x2
def Az (a0:(List (List Int))) (aw:(List (List Int))):Option ((List (List Int))) :=
 (cg (R:=List (List Int)) (λ(s1:List (List Int) × Bool) =>
 (bif s1.2 then
 (cg (R:=List (List Int) × Bool) (λ(b3:List (List Int) × Bool × Int) =>
 (bif decide (b3.2.2<(b3.1.length:Int)) then
 (idx aw b3.2.2).bind λcw =>
 (idx b3.1 b3.2.2).bind λch =>
 (cg (R:=List (List Int)) (λ(nJ:List (List Int) × Int) =>
 (bif decide (nJ.2<(cw.length:Int)) then
 (cg (R:=List (List Int)) (λ(l6:List (List Int) × Int) =>
 (idx cw nJ.2).bind λdM =>
 (idx l6.1 dM).bind λfQ =>
 (bif decide (l6.2<(fQ.length:Int)) then
 (idx l6.1 b3.2.2).bind λfR =>
 (idx cw nJ.2).bind λiC =>
 (idx l6.1 iC).bind λfF =>
 (idx fF l6.2).bind λhS =>
 (qN fR hS).bind λkB =>
 some (.inl (l6.1.set b3.2.2.toNat kB,aG (l6.2+1)))
 else
 some (.inr l6.1))) (nJ.1,0)).bind λdr =>
 some (.inl (dr,aG (nJ.2+1)))
 else
 some (.inr nJ.1))) (b3.1,0)).bind λdL =>
 ((bif b3.2.1 then some true else ((idx dL b3.2.2).bind λfG=>some (!decide ((fG.length:Int)=(ch.length:Int)))))).bind λw0 =>
 some (.inl (dL,w0,aG (b3.2.2+1)))
 else
 some (.inr (b3.1,b3.2.1)))) (s1.1,false,0)).bind λbA =>
 some (.inl (bA.1,bA.2))
 else
 some (.inr s1.1))) (a0,true)).bind λx2 =>
 some x2
structure Trans where
 State:Int
 fJ:Int
 deriving DecidableEq,Inhabited
def sd:bO Trans:=⟨2,λx=>[ae x.State,ae x.fJ],λ_=>rfl,λ_=>dm.bq⟩
instance:ik sd sd:=⟨rfl,λx=>(inferInstance:f_ [ae x.State,ae x.fJ] [ae x.State,ae x.fJ])⟩
def qM (a0:(List State)):Option ((List Trans)) :=
 (cg (R:=List Trans) (λ(s1:List Trans × Int) =>
 (bif decide (s1.2<(a0.length:Int)) then
 (cg (R:=List Trans) (λ(b3:List Trans × Int) =>
 (idx a0 s1.2).bind λbL =>
 (bif decide (b3.2<(bL.dX.length:Int)) then
 ((idx a0 s1.2).bind λaY =>
 (idx aY.dX b3.2).bind λdL =>
 ((bif decide (1000<=dL.Sym) then
 (idx a0 s1.2).bind λcL =>
 (idx cL.dX b3.2).bind λdr =>
 (c8 b3.1 [(⟨s1.2,dr.Sym⟩:Trans)]).bind λcY =>
 some (b3.1++[(⟨s1.2,dr.Sym⟩:Trans)])
 else
 some b3.1)).bind λlj =>
 some lj).bind λjU =>
 some (.inl (jU,aG (b3.2+1)))
 else
 some (.inr b3.1))) (s1.1,0)).bind λbA =>
 some (.inl (bA,aG (s1.2+1)))
 else
 some (.inr s1.1))) (([]:List Trans),0)).bind λx2 =>
 some x2
def DK (a0:(List Item)):Option (Bool) :=
 (cg (R:=(Unit) ⊕ (Bool)) (λ(s1:Int) =>
 (bif decide (s1<(a0.length:Int)) then
 (((idx a0 s1).bind λbA=>(bif decide (bA.Prod=0) then ((idx a0 s1).bind λbL=>some (decide (bL.ec=1))) else some false))).bind λsb =>
 (bif sb then
 some (.inr (.inr true))
 else
 some (.inl (aG (s1+1))))
 else
 some (.inr (.inl ())))) 0).bind λx2 =>
 (match x2 with
 | .inl a8 =>
 some false
 | .inr bk =>
 some bk)
def DC (a0:(List State)):Option ((List (List Int))) :=
 (qM a0).bind λaS =>
 (cg (R:=List (List Int)) (λ(s2:List (List Int) × Int) =>
 (bif decide (s2.2<(aS.length:Int)) then
 (idx aS s2.2).bind λbA =>
 (idx aS s2.2).bind λbn =>
 (rQ a0 bA.State bn.fJ).bind λbL =>
 (idx a0 bL).bind λcw =>
 (DK cw.Kernel).bind λch =>
 ((bif ch then
 (c8 ([]:List Int) [0]).bind λcu =>
 some [0]
 else
 some ([]:List Int))).bind λjc =>
 (cg (R:=List Int) (λ(er:List Int × Int) =>
 (idx a0 bL).bind λcY =>
 (bif decide (er.2<(cY.dX.length:Int)) then
 ((idx a0 bL).bind λeN =>
 (idx eN.dX er.2).bind λfR =>
 ((bif decide (fR.Sym<1000) then
 (idx a0 bL).bind λhS =>
 (idx hS.dX er.2).bind λkB =>
 (qN er.1 kB.Sym).bind λiS =>
 some iS
 else
 some er.1)).bind λsD =>
 some sD).bind λiM =>
 some (.inl (iM,aG (er.2+1)))
 else
 some (.inr er.1))) (jc,0)).bind λcL =>
 (c8 s2.1 [cL]).bind λfG =>
 some (.inl (s2.1++[cL],aG (s2.2+1)))
 else
 some (.inr s2.1))) (([]:List (List Int)),0)).bind λa8 =>
 some a8
def AG (a0:(List Bool)) (aw:(List Int)):Option (Bool) :=
 (cg (R:=(Unit) ⊕ (Bool)) (λ(s1:Int) =>
 (bif decide (s1<(aw.length:Int)) then
 (((idx aw s1).bind λbA=>(bif decide (bA<1000) then some true else ((idx aw s1).bind λbL=>((idx a0 (aG (bL - 1000))).bind λcw=>some (!cw)))))).bind λiI =>
 (bif iI then
 some (.inr (.inr false))
 else
 some (.inl (aG (s1+1))))
 else
 some (.inr (.inl ())))) 0).bind λx2 =>
 (match x2 with
 | .inl a8 =>
 some true
 | .inr bk =>
 some bk)
def AE (a0:bD):Option ((List Bool)) :=
 (oO (a0.dE.length:Int) false).bind λaS =>
 (cg (R:=List Bool) (λ(s2:List Bool × Bool) =>
 (bif s2.2 then
 (cg (R:=List Bool × Bool) (λ(cK:List Bool × Bool × Int) =>
 (bif decide (cK.2.2<(a0.bu.length:Int)) then
 ((idx a0.bu cK.2.2).bind λaY =>
 (((idx cK.1 aY.Left).bind λdL=>(bif !dL then ((AG cK.1 aY.dF).bind λeF=>some eF) else some false))).bind λwV =>
 ((bif wV then
 (idx cK.1 aY.Left).bind λdM =>
 some (cK.1.set aY.Left.toNat true,true)
 else
 some (cK.1,cK.2.1))).bind λn9 =>
 some (n9.1,n9.2)).bind λjU =>
 some (.inl (jU.1,jU.2,aG (cK.2.2+1)))
 else
 some (.inr (cK.1,cK.2.1)))) (s2.1,false,0)).bind λbn =>
 some (.inl (bn.1,bn.2))
 else
 some (.inr s2.1))) (aS,true)).bind λa8 =>
 some a8
def AF (a0:(List Trans)) (aw:Int) (a2:Int):Option (Int) :=
 (cg (R:=(Unit) ⊕ (Int)) (λ(s1:Int) =>
 (bif decide (s1<(a0.length:Int)) then
 (((idx a0 s1).bind λbA=>(bif decide (bA.State=aw) then ((idx a0 s1).bind λbL=>some (decide (bL.fJ=a2))) else some false))).bind λsb =>
 (bif sb then
 some (.inr (.inr s1))
 else
 some (.inl (aG (s1+1))))
 else
 some (.inr (.inl ())))) 0).bind λx2 =>
 (match x2 with
 | .inl a8 =>
 some (-1)
 | .inr bk =>
 some bk)
def DD (a0:bD) (aw:(List State)):Option ((List (List Int))) :=
 (qM aw).bind λaS =>
 (AE a0).bind λx2 =>
 (cg (R:=List (List Int)) (λ(eE:List (List Int) × Int) =>
 (bif decide (eE.2<(aS.length:Int)) then
 (idx aS eE.2).bind λbn =>
 (idx aS eE.2).bind λbL =>
 (rQ aw bn.State bL.fJ).bind λcw =>
 (cg (R:=List Int) (λ(eX:List Int × Int) =>
 (idx aw cw).bind λcu =>
 (bif decide (eX.2<(cu.dX.length:Int)) then
 ((idx aw cw).bind λdr =>
 (idx dr.dX eX.2).bind λcY =>
 ((bif decide (1000<=cY.Sym) then ((idx x2 (aG (cY.Sym - 1000))).bind λfQ=>some fQ) else some false)).bind λwX =>
 ((bif wX then
 (AF aS cw cY.Sym).bind λfF =>
 (qN eX.1 fF).bind λhS =>
 some hS
 else
 some eX.1)).bind λpX =>
 some pX).bind λrE =>
 some (.inl (rE,aG (eX.2+1)))
 else
 some (.inr eX.1))) (([]:List Int),0)).bind λaY =>
 (c8 eE.1 [aY]).bind λkB =>
 some (.inl (eE.1++[aY],aG (eE.2+1)))
 else
 some (.inr eE.1))) (([]:List (List Int)),0)).bind λbk =>
 some bk
def AA (a0:(List State)) (aw:Int) (a2:(List Int)):Option (Int) :=
 (cg (R:=Int) (λ(s1:Int × Int) =>
 ((bif decide (s1.2<(a2.length:Int)) then some (decide (0<=s1.1)) else some false)).bind λjJ =>
 (bif jJ then
 (idx a2 s1.2).bind λbn =>
 (rQ a0 s1.1 bn).bind λbL =>
 some (.inl (bL,aG (s1.2+1)))
 else
 some (.inr s1.1))) (aw,0)).bind λx2 =>
 some x2
def DE (a0:bD) (aw:(List State)):Option ((List (List Int))) :=
 (qM aw).bind λaS =>
 (AE a0).bind λx2 =>
 (oO (aS.length:Int) ([]:List Int)).bind λa8 =>
 (cg (R:=List (List Int)) (λ(da:List (List Int) × Int) =>
 (bif decide (da.2<(aS.length:Int)) then
 (cg (R:=List (List Int)) (λ(ei:List (List Int) × Int) =>
 (bif decide (ei.2<(a0.bu.length:Int)) then
 ((idx a0.bu ei.2).bind λcu =>
 (idx a0.bu ei.2).bind λeF =>
 (idx aS da.2).bind λcL =>
 (bif !decide (aG (1000+eF.Left)=cL.fJ) then
 some ei.1
 else
 (cg (R:=List (List Int)) (λ(l7:List (List Int) × Int) =>
 (bif decide (l7.2<(cu.dF.length:Int)) then
 ((((idx cu.dF l7.2).bind λiC=>(bif decide (iC<1000) then some true else ((og cu.dF (aG (l7.2+1)) cu.dF.length).bind λhS=>((AG x2 hS).bind λkB=>some (!kB)))))).bind λH_ =>
 (bif H_ then
 some l7.1
 else
 (idx aS da.2).bind λgD =>
 (og cu.dF 0 l7.2).bind λee =>
 (AA aw gD.State ee).bind λiD =>
 ((bif decide (0<=iD) then
 (idx cu.dF l7.2).bind λhT =>
 (AF aS iD hT).bind λlr =>
 ((bif decide (0<=lr) then
 (idx l7.1 lr).bind λnk =>
 (qN nk da.2).bind λgQ =>
 some (l7.1.set lr.toNat gQ)
 else
 some l7.1)).bind λKF =>
 some KF
 else
 some l7.1)).bind λxU =>
 some xU)).bind λpX =>
 some (.inl (pX,aG (l7.2+1)))
 else
 some (.inr l7.1))) (ei.1,0)).bind λdM =>
 some dM)).bind λha =>
 some (.inl (ha,aG (ei.2+1)))
 else
 some (.inr ei.1))) (da.1,0)).bind λcw =>
 some (.inl (cw,aG (da.2+1)))
 else
 some (.inr da.1))) (a8,0)).bind λbV =>
 some bV
def AY (a0:bD) (aw:(List State)):Option ((List (List Int))) :=
 (DC aw).bind λaS =>
 (DD a0 aw).bind λx2 =>
 (Az aS x2).bind λa8 =>
 (DE a0 aw).bind λbk =>
 (Az a8 bk).bind λbV =>
 some bV
def D0 (a0:bD) (aw:(List Item)):Option ((List Int)) :=
 (ye a0 aw).bind λaS =>
 (cg (R:=List Int) (λ(s2:List Int × Int) =>
 (bif decide (s2.2<(aS.length:Int)) then
 ((((idx aS s2.2).bind λbn=>(bif decide (0<bn.Prod) then ((idx aS s2.2).bind λcw=>((idx aS s2.2).bind λch=>((idx a0.bu ch.Prod).bind λaY=>some (decide (cw.ec=(aY.dF.length:Int)))))) else some false))).bind λr' =>
 ((bif r' then
 (idx aS s2.2).bind λcL =>
 (c8 s2.1 [cL.Prod]).bind λdr =>
 some (s2.1++[cL.Prod])
 else
 some s2.1)).bind λlj =>
 some lj).bind λlk =>
 some (.inl (lk,aG (s2.2+1)))
 else
 some (.inr s2.1))) (([]:List Int),0)).bind λa8 =>
 some a8
def D1 (a0:bD) (aw:(List State)) (a2:Int) (a3:Int):Option ((List Int)) :=
 ((bif decide (a2<0) then some true else (bif decide ((aw.length:Int)<=a2) then some true else (bif decide (a3<1) then some true else some (decide ((a0.bu.length:Int)<=a3)))))).bind λc4 =>
 (bif c4 then
 some ([]:List Int)
 else
 (qM aw).bind λbA =>
 (cg (R:=List Int) (λ(gh:List Int × Int) =>
 (bif decide (gh.2<(bA.length:Int)) then
 ((((idx bA gh.2).bind λdL=>((idx a0.bu a3).bind λcu=>(bif decide (dL.fJ=aG (1000+cu.Left)) then ((idx bA gh.2).bind λcL=>((idx a0.bu a3).bind λdr=>((AA aw cL.State dr.dF).bind λcY=>some (decide (cY=a2))))) else some false)))).bind λqn =>
 ((bif qn then
 (c8 gh.1 [gh.2]).bind λfR =>
 some (gh.1++[gh.2])
 else
 some gh.1)).bind λiM =>
 some iM).bind λjc =>
 some (.inl (jc,aG (gh.2+1)))
 else
 some (.inr gh.1))) (([]:List Int),0)).bind λbL =>
 some bL)
def DY (a0:bD) (aw:(List State)):Option ((List lM)) :=
 (AY a0 aw).bind λaS =>
 (cg (R:=List lM) (λ(s2:List lM × Int) =>
 (bif decide (s2.2<(aw.length:Int)) then
 (idx aw s2.2).bind λbA =>
 (D0 a0 bA.Kernel).bind λbn =>
 (cg (R:=List lM) (λ(ei:List lM × Int) =>
 (bif decide (ei.2<(bn.length:Int)) then
 (idx bn ei.2).bind λdL =>
 (idx bn ei.2).bind λcu =>
 (D1 a0 aw s2.2 cu).bind λeF =>
 (cg (R:=List Int) (λ(l6:List Int × Int) =>
 (bif decide (l6.2<(eF.length:Int)) then
 (cg (R:=List Int) (λ(di:List Int × Int) =>
 (idx eF l6.2).bind λiC =>
 (idx aS iC).bind λfF =>
 (bif decide (di.2<(fF.length:Int)) then
 (idx eF l6.2).bind λkB =>
 (idx aS kB).bind λiS =>
 (idx iS di.2).bind λfG =>
 (qN di.1 fG).bind λgD =>
 some (.inl (gD,aG (di.2+1)))
 else
 some (.inr di.1))) (l6.1,0)).bind λeN =>
 some (.inl (eN,aG (l6.2+1)))
 else
 some (.inr l6.1))) (([]:List Int),0)).bind λdr =>
 (c8 ei.1 [(⟨s2.2,dL,dr⟩:lM)]).bind λee =>
 some (.inl (ei.1++[(⟨s2.2,dL,dr⟩:lM)],aG (ei.2+1)))
 else
 some (.inr ei.1))) (s2.1,0)).bind λcw =>
 some (.inl (cw,aG (s2.2+1)))
 else
 some (.inr s2.1))) (([]:List lM),0)).bind λa8 =>
 some a8
def AN (a0:Source):Option (bD × (List State) × (List Cell) × Bool) :=
 (Gy a0).bind λaS =>
 (bif !aS.2.2 then
 some (aS.1,([]:List State),([]:List Cell),false)
 else
 (DY aS.1 aS.2.1).bind λa8 =>
 (DX aS.1 aS.2.1 a8).bind λbk =>
 some (aS.1,aS.2.1,bk,true))
def DF (a0:bD) (aw:Int):Option (Int × Int) :=
 ((bif decide (aw<0) then some true else (bif decide ((a0.bu.length:Int)<=aw) then some true else ((idx a0.bu aw).bind λa8=>some (decide (a8.Prec<0)))))).bind λc4 =>
 (bif c4 then
 some (0,0)
 else
 (idx a0.bu aw).bind λbA =>
 (idx a0.br bA.Prec).bind λbn =>
 some (bn.Level,bn.ji))
def D2 (a0:bD) (aw:Int) (a2:Int):Option (Int) :=
 (DF a0 aw).bind λaS =>
 ((bif decide (aS.1=0) then some true else (bif decide (a2<0) then some true else (bif decide ((a0.br.length:Int)<=a2) then some true else ((idx a0.br a2).bind λbV=>some (decide (bV.Level=0))))))).bind λw2 =>
 (bif w2 then
 some 0
 else
 (idx a0.br a2).bind λbL =>
 (bif decide (aS.1<bL.Level) then
 some 1
 else
 (bif decide (bL.Level<aS.1) then
 some 2
 else
 (bif decide (bL.ji=1) then
 some 2
 else
 (bif decide (bL.ji=2) then
 some 1
 else
 some 3)))))
structure e1 where
 State:Int
 b5:Int
 iE:Int
 Drop:Int
 deriving DecidableEq,Inhabited
def eJ:bO e1:=⟨4,λx=>[ae x.State,ae x.b5,ae x.iE,ae x.Drop],λ_=>rfl,λ_=>dm.bq⟩
instance:ik eJ eJ:=⟨rfl,λx=>(inferInstance:f_ [ae x.State,ae x.b5,ae x.iE,ae x.Drop] [ae x.State,ae x.b5,ae x.iE,ae x.Drop])⟩
def yr (a0:bD) (aw:Cell):Option (Act × (List e1)) :=
 (cg (R:=List e1) (λ(s1:List e1 × Int) =>
 (bif decide (s1.2<(aw.bu.length:Int)) then
 (idx aw.bu 0).bind λbV =>
 (idx aw.bu s1.2).bind λbA =>
 (c8 s1.1 [(⟨aw.State,aw.b5,bV,bA⟩:e1)]).bind λbn =>
 some (.inl (s1.1++[(⟨aw.State,aw.b5,bV,bA⟩:e1)],aG (s1.2+1)))
 else
 some (.inr s1.1))) (([]:List e1),1)).bind λx2 =>
 ((bif aw.nN then
 some (3,0)
 else
 some (1,aw.k3))).bind λd_ =>
 (bif decide ((aw.bu.length:Int)=0) then
 some ((⟨d_.1,d_.2⟩:Act),x2)
 else
 (idx aw.bu 0).bind λaY =>
 ((bif decide (aw.k3<0) then some (!aw.nN) else some false)).bind λiU =>
 (bif iU then
 some ((⟨2,aY⟩:Act),x2)
 else
 (D2 a0 aY aw.b5).bind λcL =>
 ((bif aw.nN then some true else some (decide (cL=0)))).bind λwW =>
 (bif wW then
 (c8 x2 [(⟨aw.State,aw.b5,(-1),aY⟩:e1)]).bind λfQ =>
 some ((⟨d_.1,d_.2⟩:Act),x2++[(⟨aw.State,aw.b5,(-1),aY⟩:e1)])
 else
 (bif decide (cL=2) then
 some ((⟨2,aY⟩:Act),x2)
 else
 (bif decide (cL=3) then
 some ((⟨4,0⟩:Act),x2)
 else
 some ((⟨d_.1,d_.2⟩:Act),x2))))))
def AO (a0:bD) (aw:(List State)) (a2:(List Cell)):Option (hc × (List e1)) :=
 (cg (R:=List (List Act) × List (List Int) × List e1) (λ(s1:List (List Act) × List (List Int) × List e1 × Int) =>
 (bif decide (s1.2.2.2<(aw.length:Int)) then
 (oO (a0.br.length:Int) (⟨0,0⟩:Act)).bind λbV =>
 (cg (R:=List e1 × List Act) (λ(cK:List e1 × List Act × Int) =>
 (bif decide (cK.2.2<(a2.length:Int)) then
 ((idx a2 cK.2.2).bind λaY =>
 ((bif decide (aY.State=s1.2.2.2) then
 (idx a2 cK.2.2).bind λeF =>
 (yr a0 eF).bind λcL =>
 (idx a2 cK.2.2).bind λdr =>
 (idx cK.2.1 dr.b5).bind λcY =>
 (c8 cK.1 cL.2).bind λdM =>
 some (cK.1++cL.2,cK.2.1.set dr.b5.toNat cL.1)
 else
 some (cK.1,cK.2.1))).bind λha =>
 some (ha.1,ha.2)).bind λjU =>
 some (.inl (jU.1,jU.2,aG (cK.2.2+1)))
 else
 some (.inr (cK.1,cK.2.1)))) (s1.2.2.1,bV,0)).bind λbn =>
 (oO (a0.dE.length:Int) 0).bind λfQ =>
 (cg (R:=List Int) (λ(qR:List Int × Int) =>
 (bif decide (qR.2<(qR.1.length:Int)) then
 (rQ aw s1.2.2.2 (aG (1000+qR.2))).bind λhS =>
 (idx qR.1 qR.2).bind λkB =>
 some (.inl (qR.1.set qR.2.toNat hS,aG (qR.2+1)))
 else
 some (.inr qR.1))) (fQ,0)).bind λfR =>
 (c8 s1.1 [bn.2]).bind λiS =>
 (c8 s1.2.1 [fR]).bind λfG =>
 some (.inl (s1.1++[bn.2],s1.2.1++[fR],bn.1,aG (s1.2.2.2+1)))
 else
 some (.inr (s1.1,s1.2.1,s1.2.2.1)))) (([]:List (List Act)),([]:List (List Int)),([]:List e1),0)).bind λx2 =>
 some ((⟨x2.1,x2.2.1⟩:hc),x2.2.2)
def DQ (a0:(List Cell)):Option (Int) :=
 (cg (R:=Int) (λ(s1:Int × Int) =>
 (bif decide (s1.2<(a0.length:Int)) then
 ((idx a0 s1.2).bind λbA =>
 (AS bA).bind λbn =>
 ((bif decide (1<bn) then
 some (aG (s1.1+1))
 else
 some s1.1)).bind λd_ =>
 some d_).bind λiy =>
 some (.inl (iy,aG (s1.2+1)))
 else
 some (.inr s1.1))) (0,0)).bind λx2 =>
 some x2
def yc (a0:Source):Option (bD × hc × Int × Bool) :=
 (AN a0).bind λaS =>
 (bif !aS.2.2.2 then
 some (aS.1,(⟨([]:List (List Act)),([]:List (List Int))⟩:hc),0,false)
 else
 (AO aS.1 aS.2.1 aS.2.2.1).bind λa8 =>
 (DQ aS.2.2.1).bind λbk =>
 some (aS.1,a8.1,bk,true))
def DV (a0:ByteArray):Option (Part) :=
 some (⟨(⟨a0,false,0,0⟩:Sym),⟨#[]⟩,0⟩:Part)
def DW (a0:ByteArray):Option (Part) :=
 some (⟨(⟨a0,true,0,0⟩:Sym),⟨#[]⟩,0⟩:Part)
def Gw :Option (bD × hc × Bool) :=
 (DV (⟨#[115]⟩)).bind λaS =>
 (DV (⟨#[108]⟩)).bind λx2 =>
 (DW (⟨#[120]⟩)).bind λa8 =>
 (DW (⟨#[59]⟩)).bind λbk =>
 (DV (⟨#[101,114,114,111,114]⟩)).bind λbV =>
 (DW (⟨#[59]⟩)).bind λbA =>
 (yc (⟨⟨#[]⟩,([]:List Decl),[(⟨⟨#[115]⟩,[(⟨([]:List Part),(⟨⟨#[]⟩,false,0,0⟩:Sym),0⟩:Alt),(⟨[aS,x2],(⟨⟨#[]⟩,false,0,0⟩:Sym),0⟩:Alt)],0⟩:fK),(⟨⟨#[108]⟩,[(⟨[a8,bk],(⟨⟨#[]⟩,false,0,0⟩:Sym),0⟩:Alt),(⟨[bV,bA],(⟨⟨#[]⟩,false,0,0⟩:Sym),0⟩:Alt)],0⟩:fK)],⟨#[]⟩⟩:Source)).bind λbn =>
 some (bn.1,bn.2.1,bn.2.2.2)
def DZ :Option (Bool) :=
 (Gw ).bind λaS =>
 (ym aS.1 aS.2.1).bind λx2 =>
 ((bif !aS.2.2 then some true else some (decide ((x2.Def.length:Int)=0)))).bind λc4 =>
 (bif c4 then
 some false
 else
 (pj x2 [120,120,59,120,59] 50 50).bind λbA =>
 (pj x2 [120,59,0,120] 50 50).bind λbn =>
 (pj x2 [59,59] 50 3).bind λbL =>
 ((bif decide (bA.Kind=1) then (bif decide (bA.At=5) then (bif decide ((bA.eo.length:Int)=1) then ((idx bA.eo 0).bind λdL=>(bif decide (dL.At=1) then ((idx bA.eo 0).bind λeF=>(bif eF.Told then ((rP bA.e2 [1]).bind λdr=>(bif dr then (bif decide (bA.Tree.Sym=1001) then ((rP bA.bu [1,4,2,3,2]).bind λfQ=>(bif fQ then (bif decide (bA.Steps=12) then (bif decide (bA.Deep=3) then (bif decide (bn.Kind=1) then (bif decide (bn.At=2) then some (decide (bL.Kind=3)) else some false) else some false) else some false) else some false) else some false)) else some false) else some false)) else some false)) else some false)) else some false) else some false) else some false)).bind λua =>
 some ua)
def rO (a0:Int) (aw:Int):Option (Int) :=
 (rS a0 aw).bind λaS =>
 ((bif decide (aS<0) then
 some (aG (aS+aw))
 else
 some aS)).bind λxS =>
 some xS
def Lm :Option (ByteArray) :=
 some (⟨#[112,113,114,115]⟩)
def wi (a0:Int):Option (Sym) :=
 (Lm ).bind λaS =>
 (rS a0 4).bind λx2 =>
 (rS a0 4).bind λa8 =>
 (w8 aS x2 (aG (a8+1))).bind λbk =>
 some (⟨bk,true,0,0⟩:Sym)
def nw:bO Decl:=⟨4,λx=>[ae x.Kind,a6 x.Tag,aC fw x.ff,ae x.At],λ_=>rfl,λ_=>dm.bq⟩
instance:ik nw eS:=⟨rfl,λx=>(inferInstance:f_ [ae x.Kind,a6 x.Tag,aC fw x.ff,ae x.At] [ae x.Kind,a6 x.Tag,ak fw x.ff,ae x.At])⟩
def AL (a0:(List Int)):Option ((List Decl)) :=
 (cg (R:=List Decl) (λ(s1:List Decl × Int) =>
 ((bif decide (s1.2<(a0.length:Int)) then some (decide (s1.2<4)) else some false)).bind λjJ =>
 (bif jJ then
 ((idx a0 s1.2).bind λbL =>
 (rO bL 8).bind λcw =>
 (rS cw 4).bind λch =>
 (bif decide (ch=0) then
 some s1.1
 else
 ((bif decide (4<cw) then some (decide (0<(s1.1.length:Int))) else some false)).bind λiU =>
 (bif iU then
 (idx s1.1 (aG ((s1.1.length:Int) - 1))).bind λcL =>
 (wi s1.2).bind λdr =>
 (c8 cL.ff [dr]).bind λcY =>
 some (s1.1.set (aG ((s1.1.length:Int) - 1)).toNat (⟨cL.Kind,cL.Tag,cL.ff++[dr],cL.At⟩:Decl))
 else
 (rS cw 4).bind λdM =>
 (wi s1.2).bind λfQ =>
 (c8 s1.1 [(⟨aG (1+dM),⟨#[]⟩,[fQ],0⟩:Decl)]).bind λeN =>
 some (s1.1++[(⟨aG (1+dM),⟨#[]⟩,[fQ],0⟩:Decl)])))).bind λll =>
 some (.inl (ll,aG (s1.2+1)))
 else
 some (.inr s1.1))) (([]:List Decl),0)).bind λx2 =>
 some x2
def AM (a0:Int):Option (ByteArray) :=
 some (strOfNums [Hk (aG (97+a0))])
def DP (a0:Int) (aw:Int):Option (Sym) :=
 (rO a0 14).bind λaS =>
 (bif decide (aS<5) then
 (rS aS aw).bind λa8 =>
 (AM a8).bind λbk =>
 some (⟨bk,false,0,0⟩:Sym)
 else
 (bif decide (aS=13) then
 some (⟨⟨#[101,114,114,111,114]⟩,false,0,0⟩:Sym)
 else
 (wi (aG (aS - 5))).bind λbA =>
 some bA))
structure qZ where
 dE:Int
 eP:(List (List Int))
 wJ:(List Int)
 q6:(List Int)
 Bd:Bool
 deriving DecidableEq,Inhabited
abbrev UX (x:qZ):List ab:=[ae x.dE,ak (bE ai) x.eP,ak ai x.wJ,ak ai x.q6,bd x.Bd]
def ta:bO qZ:=⟨5,λx=>UX x,λ_=>rfl,λ_=>dm.bq⟩
def fv:bO fK:=⟨3,λx=>[a6 x.Left,aC gH x.gi,ae x.At],λ_=>rfl,λ_=>dm.bq⟩
instance:ik fv oB:=⟨rfl,λx=>(inferInstance:f_ [a6 x.Left,aC gH x.gi,ae x.At] [a6 x.Left,ak gH x.gi,ae x.At])⟩
def Av (a0:qZ):Option (Source) :=
 (rO a0.dE 4).bind λaS =>
 (AL a0.wJ).bind λx2 =>
 (oO (aG (1+aS)) false).bind λa8 =>
 (cg (R:=List fK) (λ(da:List fK × Int) =>
 (bif decide (da.2<aG (1+aS)) then
 (AM da.2).bind λbL =>
 (c8 da.1 [(⟨bL,([]:List Alt),0⟩:fK)]).bind λcw =>
 some (.inl (da.1++[(⟨bL,([]:List Alt),0⟩:fK)],aG (da.2+1)))
 else
 some (.inr da.1))) (([]:List fK),0)).bind λbV =>
 (cg (R:=List fK × List Bool) (λ(eX:List fK × List Bool × Int) =>
 ((bif decide (eX.2.2<(a0.eP.length:Int)) then some (decide (eX.2.2<9)) else some false)).bind λsa =>
 (bif sa then
 ((idx a0.eP eX.2.2).bind λcY =>
 (bif decide ((cY.length:Int)=0) then
 some (eX.1,eX.2.1)
 else
 (idx a0.eP eX.2.2).bind λfQ =>
 (idx fQ 0).bind λeN =>
 (rO eN (aG (1+aS))).bind λfR =>
 (cg (R:=List Part × Bool) (λ(iA:List Part × Bool × Int) =>
 (((idx a0.eP eX.2.2).bind λkB=>(bif decide (iA.2.2<(kB.length:Int)) then some (decide (iA.2.2<5)) else some false))).bind λwZ =>
 (bif wZ then
 ((idx a0.eP eX.2.2).bind λiD =>
 (idx iD iA.2.2).bind λoT =>
 (DP oT (aG (1+aS))).bind λcZ =>
 ((bif iA.2.1 then (bif cZ.Lit then some true else some (decide (cZ.Name=⟨#[101,114,114,111,114]⟩))) else some false)).bind λub =>
 (c8 iA.1 [(⟨cZ,⟨#[]⟩,0⟩:Part)]).bind λqW =>
 ((bif decide (eX.2.2<(a0.q6.length:Int)) then (bif decide (iA.2.2=1) then ((idx a0.q6 eX.2.2).bind λkT=>((rS kT 3).bind λwC=>some (decide (wC=1)))) else some false) else some false)).bind λIb =>
 ((bif Ib then
 (c8 (iA.1++[(⟨cZ,⟨#[]⟩,0⟩:Part)]) [(⟨(⟨⟨#[]⟩,false,0,0⟩:Sym),⟨#[123,36,36,32,61,32,36,49,125]⟩,0⟩:Part)]).bind λHm =>
 some ((iA.1++[(⟨cZ,⟨#[]⟩,0⟩:Part)])++[(⟨(⟨⟨#[]⟩,false,0,0⟩:Sym),⟨#[123,36,36,32,61,32,36,49,125]⟩,0⟩:Part)])
 else
 some (iA.1++[(⟨cZ,⟨#[]⟩,0⟩:Part)]))).bind λKI =>
 some (KI,ub)).bind λuH =>
 some (.inl (uH.1,uH.2,aG (iA.2.2+1)))
 else
 some (.inr (iA.1,iA.2.1)))) (([]:List Part),true,1)).bind λfF =>
 ((bif decide (eX.2.2<(a0.q6.length:Int)) then ((idx a0.q6 eX.2.2).bind λqX=>((rS qX 2).bind λRL=>some (!decide (RL=0)))) else some false)).bind λzv =>
 ((bif zv then
 (c8 fF.1 [(⟨(⟨⟨#[]⟩,false,0,0⟩:Sym),⟨#[123,102,40,36,36,41,125]⟩,0⟩:Part)]).bind λA9 =>
 some (fF.1++[(⟨(⟨⟨#[]⟩,false,0,0⟩:Sym),⟨#[123,102,40,36,36,41,125]⟩,0⟩:Part)])
 else
 some fF.1)).bind λpd =>
 (((idx eX.2.1 fR).bind λtK=>(bif tK then some (eX.2.1.set fR.toNat true) else some (eX.2.1.set fR.toNat fF.2)))).bind λE_ =>
 (idx eX.1 fR).bind λmA =>
 (c8 mA.gi [(⟨pd,(⟨⟨#[]⟩,false,0,0⟩:Sym),0⟩:Alt)]).bind λRM =>
 some (eX.1.set fR.toNat (⟨mA.Left,mA.gi++[(⟨pd,(⟨⟨#[]⟩,false,0,0⟩:Sym),0⟩:Alt)],mA.At⟩:fK),E_))).bind λn9 =>
 some (.inl (n9.1,n9.2,aG (eX.2.2+1)))
 else
 some (.inr (eX.1,eX.2.1)))) (bV,a8,0)).bind λaY =>
 (cg (R:=List fK) (λ(jf:List fK × Int) =>
 (bif decide (jf.2<aG (1+aS)) then
 ((((idx jf.1 jf.2).bind λwE=>(bif decide ((wE.gi.length:Int)=0) then some true else ((idx aY.2 jf.2).bind λL6=>(bif !L6 then some (!a0.Bd) else some false))))).bind λIg =>
 ((bif Ig then
 (idx jf.1 jf.2).bind λkU =>
 (wi jf.2).bind λkV =>
 (c8 kU.gi [(⟨[(⟨kV,⟨#[]⟩,0⟩:Part)],(⟨⟨#[]⟩,false,0,0⟩:Sym),0⟩:Alt)]).bind λEw =>
 some (jf.1.set jf.2.toNat (⟨kU.Left,kU.gi++[(⟨[(⟨kV,⟨#[]⟩,0⟩:Part)],(⟨⟨#[]⟩,false,0,0⟩:Sym),0⟩:Alt)],kU.At⟩:fK))
 else
 some jf.1)).bind λKM =>
 some KM).bind λKL =>
 some (.inl (KL,aG (jf.2+1)))
 else
 some (.inr jf.1))) (aY.1,0)).bind λwD =>
 some (⟨⟨#[]⟩,x2,wD,⟨#[]⟩⟩:Source)
def Gz (a0:(List Int)):Option (Int) :=
 (cg (R:=List Int) (λ(s1:List Int × Int) =>
 (bif decide (s1.2<(a0.length:Int)) then
 (idx a0 s1.2).bind λbV =>
 (qN s1.1 bV).bind λbA =>
 some (.inl (bA,aG (s1.2+1)))
 else
 some (.inr s1.1))) (([]:List Int),0)).bind λx2 =>
 (cg (R:=Int) (λ(gh:Int × Int × Int) =>
 (bif decide (gh.2.2<(x2.length:Int)) then
 ((cg (R:=Int) (λ(A4:Int × Int) =>
 (bif decide (A4.2<(a0.length:Int)) then
 ((idx a0 A4.2).bind λcY =>
 (idx x2 gh.2.2).bind λdM =>
 ((bif decide (cY=dM) then
 some (aG (A4.1+1))
 else
 some A4.1)).bind λiM =>
 some iM).bind λn9 =>
 some (.inl (n9,aG (A4.2+1)))
 else
 some (.inr A4.1))) (0,0)).bind λcu =>
 ((bif decide (gh.2.1<cu) then
 (idx x2 gh.2.2).bind λfF =>
 some (fF,cu)
 else
 some (gh.1,gh.2.1))).bind λpX =>
 some (pX.1,pX.2)).bind λjc =>
 some (.inl (jc.1,jc.2,aG (gh.2.2+1)))
 else
 some (.inr gh.1))) ((-1),0,0)).bind λbL =>
 some bL
def oP (a0:Act):Option (Int) :=
 ((bif decide (a0.Kind=1) then (bif decide (0<=a0.N) then some (decide (a0.N<=19999)) else some false) else some false)).bind λkG =>
 (bif kG then
 some (aG (a0.N+1))
 else
 ((bif decide (a0.Kind=2) then (bif decide (1<=a0.N) then some (decide (a0.N<=19999)) else some false) else some false)).bind λnW =>
 (bif nW then
 some (aG (-a0.N))
 else
 ((bif decide (a0.Kind=3) then some (decide (a0.N=0)) else some false)).bind λiI =>
 (bif iI then
 some 20001
 else
 ((bif decide (a0.Kind=4) then some (decide (a0.N=0)) else some false)).bind λiU =>
 (bif iU then
 some 20002
 else
 some 0))))
def DB (a0:bD) (aw:(List Int)) (a2:Int):Option ((List Int)) :=
 (cg (R:=List Int) (λ(s1:List Int × Int) =>
 ((bif decide (s1.2<(aw.length:Int)) then some (decide (s1.2<a2)) else some false)).bind λjJ =>
 (bif jJ then
 ((idx aw s1.2).bind λbL =>
 (rO bL (aG ((a0.br.length:Int) - 2))).bind λcw =>
 ((bif decide (0<cw) then
 (idx a0.br (aG (cw+2))).bind λdL =>
 (c8 s1.1 [dL.cf]).bind λcu =>
 some (s1.1++[dL.cf])
 else
 (c8 s1.1 [999]).bind λeF =>
 some (s1.1++[999]))).bind λjU =>
 some jU).bind λll =>
 some (.inl (ll,aG (s1.2+1)))
 else
 some (.inr s1.1))) (([]:List Int),0)).bind λx2 =>
 some x2
def AQ (a0:(List qi)) (aw:(List qi)):Option (Bool) :=
 (bif !decide ((a0.length:Int)=(aw.length:Int)) then
 some false
 else
 (cg (R:=(Unit) ⊕ (Bool)) (λ(s2:Int) =>
 (bif decide (s2<(a0.length:Int)) then
 (idx a0 s2).bind λbn =>
 (idx aw s2).bind λbL =>
 (bif !(decide (bn.At=bL.At)&&((bn.Told == bL.Told)&&true)) then
 some (.inr (.inr false))
 else
 some (.inl (aG (s2+1))))
 else
 some (.inr (.inl ())))) 0).bind λa8 =>
 (match a8 with
 | .inl bk =>
 some true
 | .inr bV =>
 some bV))
def yo:Nat->(Node)->(Node)->Option (Bool)
 | 0,_,_=>none
 | n+1,a0,aw =>
  ((bif !decide (a0.Sym=aw.Sym) then some true else (bif !decide (a0.Prod=aw.Prod) then some true else (bif !decide (a0.At=aw.At) then some true else some (!decide ((a0.Kids.n:Int)=(aw.Kids.n:Int))))))).bind λc4 =>
  (bif c4 then
  some false
  else
  (cg (R:=(Unit) ⊕ (Bool)) (λ(cK:Int) =>
  (bif decide (cK<(a0.Kids.n:Int)) then
  (BP a0.Kids).bind λaY =>
  (idx aY cK).bind λdL =>
  (BP aw.Kids).bind λcu =>
  (idx cu cK).bind λeF =>
  (yo n dL eF).bind λcL =>
  (bif !cL then
  some (.inr (.inr false))
  else
  some (.inl (aG (cK+1))))
  else
  some (.inr (.inl ())))) 0).bind λbn =>
  (match bn with
  | .inl bL =>
  some true
  | .inr cw =>
  some cw))
def Gx (a0:Node) (aw:Node):Option (Bool):=yo fuel a0 aw
def yi (a0:eH) (aw:eH):Option (Bool) :=
 ((bif decide (a0.Kind=aw.Kind) then (bif decide (a0.At=aw.At) then (bif decide (a0.Steps=aw.Steps) then (bif decide (a0.Deep=aw.Deep) then ((rP a0.bu aw.bu).bind λbV=>(bif bV then ((AQ a0.eo aw.eo).bind λbn=>(bif bn then ((rP a0.e2 aw.e2).bind λcw=>(bif cw then ((Gx a0.Tree aw.Tree).bind λaY=>some aY) else some false)) else some false)) else some false)) else some false) else some false) else some false) else some false)).bind λr' =>
 some r'
def Ax (a0:(List cH)) (aw:Int):Option (Int × Bool) :=
 (cg (R:=(Unit) ⊕ (Int × Bool)) (λ(s1:Int) =>
 (bif decide (s1<(a0.length:Int)) then
 (idx a0 s1).bind λbA =>
 (bif decide (bA.At=aw) then
 (idx a0 s1).bind λbL =>
 some (.inr (.inr (bL.cc,true)))
 else
 some (.inl (aG (s1+1))))
 else
 some (.inr (.inl ())))) 0).bind λx2 =>
 (match x2 with
 | .inl a8 =>
 some (0,false)
 | .inr bk =>
 some (bk.1,bk.2))
def Dw (a0:Int):Option (Act) :=
 ((bif decide (1<=a0) then some (decide (a0<=20000)) else some false)).bind λc2 =>
 (bif c2 then
 some (⟨1,aG (a0 - 1)⟩:Act)
 else
 ((bif decide (a0<=(-1)) then some (decide ((-19999)<=a0)) else some false)).bind λjJ =>
 (bif jJ then
 some (⟨2,aG (-a0)⟩:Act)
 else
 (bif decide (a0=20001) then
 some (⟨3,0⟩:Act)
 else
 (bif decide (a0=20002) then
 some (⟨4,0⟩:Act)
 else
 some (⟨0,0⟩:Act)))))
def AP (a0:qZ) (aw:(List Int)) (a2:Int) (a3:Int) (a4:Int):Option (Bool) :=
 (DZ ).bind λaS =>
 (bif !aS then
 some false
 else
 (Av a0).bind λa8 =>
 (yc a8).bind λbk =>
 (bif !bk.2.2.2 then
 some true
 else
 (ym bk.1 bk.2.1).bind λbA =>
 (DB bk.1 aw 30).bind λbn =>
 (rO a2 60).bind λbL =>
 (rO a3 200).bind λcw =>
 (rO a4 500).bind λch =>
 (pj bA bn bL cw).bind λaY =>
 (pj bA bn (aG (bL+ch)) (aG (cw+ch))).bind λdL =>
 (bif decide (aY.Kind=3) then
 ((bif decide (aY.Steps<=dL.Steps) then (bif decide (aY.Steps<=cw) then (bif decide (aY.Deep<=bL) then (bif decide ((aY.bu.length:Int)<=(dL.bu.length:Int)) then ((og dL.bu 0 (aY.bu.length:Int)).bind λdM=>((rP aY.bu dM).bind λfQ=>(bif fQ then (bif decide ((aY.eo.length:Int)<=(dL.eo.length:Int)) then some (decide ((aY.e2.length:Int)<=(dL.e2.length:Int))) else some false) else some false))) else some false) else some false) else some false) else some false)).bind λBG =>
 some BG
 else
 (((yi aY dL).bind λfF=>(bif !fF then some true else ((pj bA bn aY.Deep aY.Steps).bind λkB=>((yi kB aY).bind λiS=>some (!iS)))))).bind λwZ =>
 (bif wZ then
 some false
 else
 ((bif decide (aY.Steps=0) then some true else ((pj bA bn aY.Deep (aG (aY.Steps - 1))).bind λiD=>(bif decide (iD.Kind=3) then ((pj bA bn (aG (aY.Deep - 1)) aY.Steps).bind λcZ=>some (decide (cZ.Kind=3))) else some false)))).bind λH' =>
 some H'))))
end Go.Proofs
namespace Go.Own
open Go
variable {α β S R:Type}
abbrev h4 (p:S->Prop) (q:R->Prop) (x:S ⊕ R):Prop:=Sum.elim p q x
def Tot (x:Option α) (Φ:α->Prop):Prop:=∃ a,x=some a/\Φ a
namespace Tot
variable {Φ Ψ:α->Prop}
theorem al {a:α}(h:Φ a):Tot (some a) Φ:=⟨a,rfl,h⟩
theorem bi {x:Option β}{f:β->Option α}(h:Tot x λa=>Tot (f a) Φ):Tot (x.bind f) Φ:=by
 obtain ⟨a,rfl,b,ar,qH⟩:=h;exact ⟨b,ar,qH⟩
theorem aT {f:β->Option α}{a:β}(h:Tot (f a) Φ):Tot ((some a).bind f) Φ:=h
theorem use {x:Option α}(h:Tot x Ψ) (hi:∀ a,Ψ a->Φ a):Tot x Φ:=by
 obtain ⟨a,aJ,YI⟩:=h;exact ⟨a,aJ,hi a YI⟩
theorem aA {x:Option β}{f:β->Option α}{Ξ:β->Prop}(h:Tot x Ξ) (hk:∀ a,Ξ a->Tot (f a) Φ):Tot (x.bind f) Φ:=bi (h.use hk)
theorem bN {c:Bool}{a b:Option α}(au:c=true->Tot a Φ) (aV:c=false->Tot b Φ):Tot (cond c a b) Φ:=by
 grind
theorem bs {p:Prop} [Decidable p] {a b:Option α}(au:p->Tot a Φ) (aV:¬ p->Tot b Φ):Tot (cond (decide p) a b) Φ:=by grind
theorem pF {p:Prop} [Decidable p] {a b:Option α}(au:¬ p->Tot a Φ) (aV:p->Tot b Φ):Tot (cond (!decide p) a b) Φ:=by grind
theorem hs {l:List α}{i:Int}(aK:0<=i) (h1:i<l.length) (hk:∀ y,idx l i=some y->y∈l->Φ y):Tot (idx l i) Φ:=by
 have aN:i.toNat<l.length:=by omega
 have:idx l i=some l[i.toNat]:=by simp [idx,aK,aN]
 exact ⟨_,this,hk _ this (List.getElem_mem aN)⟩
theorem ap {Φ:List α->Prop}{l m:List α}(h:l.length+m.length<=lim) (hk:Φ (l++m)):Tot (c8 l m) Φ:=by
 refine ⟨l++m,?_,hk⟩
 grind [c8]
theorem bK {Φ:β->Prop}{l m:List α}{f:List α->Option β}(hk:Tot (f (l++m)) Φ) (h:l.length+m.length<=lim:=by simp [lim]; omega):Tot ((c8 l m).bind f) Φ:=bi (ap h hk)
theorem loop {f:S->Option (S ⊕ R)}{e6:S}{Ψ:R->Prop}(Inv:S->Prop) (Hw:S->Nat) (aK:Inv e6) (YJ:Hw e6<fuel)
  (ax:∀ s,Inv s->Tot (f s) (h4 (λcz=>Inv cz/\Hw cz<Hw s) Ψ)):Tot (cg f e6) Ψ:=by
 have key:∀ n s,Inv s->Hw s<n->Tot (iter f n s) Ψ:=by
  intro n
  induction n with
  | zero=>intro s _ h; omega
  | succ n aM =>
   intro s bf hm;obtain ⟨x,J,bI⟩:=ax s bf;cases x with
   | inl cz =>
    grind [iter]
   | inr r =>
    simp only [iter,J];exact ⟨r,rfl,bI⟩
 exact key fuel e6 aK YJ
theorem count {f:S->Option (S ⊕ R)}{e6:S}{Ψ:R->Prop}(i:S->Int) (n:Int) (Inv:S->Prop) (aK:Inv e6) (aB:n - i e6<1000000000000000000)
  (ax:∀ s,Inv s->Tot (f s) (h4 (λcz=>Inv cz/\i s<i cz/\i cz<=n) Ψ)):Tot (cg f e6) Ψ:=by
 refine loop Inv (λs=>(n - i s).toNat) aK (by show (n - i e6).toNat<1000000000000000000; omega) λs bf=>(ax s bf).use λx J=>?_
 grind
end Tot
theorem kA {n:Int}(aK:-9223372036854775808<=n) (h1:n<=9223372036854775807):aG n=n:=by
 grind [IntKind.wrap_i64]
theorem cC (n:Int):aG n=(n+9223372036854775808) % 18446744073709551616 - 9223372036854775808:=IntKind.wrap_i64 n
namespace Tot
theorem cat {Φ:ByteArray->Prop}{s u:ByteArray}(h:s.size+u.size<=4611686018427387904) (hk:Φ (s++u)):Tot (w3 s u) Φ:=by
 refine ⟨s++u,?_,hk⟩
 grind [w3]
theorem cut {Φ:ByteArray->Prop}{s:ByteArray}{m n:Int}(h:0<=m/\m<=n/\n<=s.size) (hk:Φ (BO s m n)):Tot (w8 s m n) Φ:=by
 refine ⟨_,?_,hk⟩
 grind [w8]
theorem oz {Φ:Int->Prop}{s:ByteArray}{m:Int}(h:0<=m/\m<s.size) (hk:Φ (lQ s m)):Tot (kF s m) Φ:=by
 refine ⟨_,?_,hk⟩
 grind [kF]
theorem sub {Φ:List α->Prop}{l:List α}{m n:Int}(h:0<=m/\m<=n/\n<=l.length) (hk:Φ ((l.drop m.toNat).take (n - m).toNat)):Tot (og l m n) Φ:=by
 refine ⟨_,?_,hk⟩
 grind [og]
theorem rem {Φ:Int->Prop}{m n:Int}(h:n≠0) (hk:Φ (m.tmod n)):Tot (rS m n) Φ:=by
 refine ⟨_,?_,hk⟩
 grind [rS]
theorem uY {Φ:Int->Prop}{m n:Int}(h:n≠0) (hk:Φ (m.tmod n)):Tot (Own.uY m n) Φ:=by
 refine ⟨_,?_,hk⟩
 grind [Own.uY]
theorem uU {Φ:Int->Prop}{m n:Int}(h:n≠0) (hk:Φ (IntKind.u64.wrap (m.tdiv n))):Tot (Own.uU m n) Φ:=by
 refine ⟨_,?_,hk⟩
 grind [Own.uU]
theorem mk {Φ:List α->Prop}{m:Int}{z:α}(h:0<=m/\m<=lim) (hk:Φ (List.replicate m.toNat z)):Tot (oO m z) Φ:=by
 refine ⟨_,?_,hk⟩
 grind [oO]
theorem eq {x:Option α}{Φ:α->Prop}{a:α}(h:Tot x Φ) (e:x=some a):Φ a:=by
 obtain ⟨b,ar,qH⟩:=h
 grind
end Tot
namespace Tot
theorem scan {f:Int->Option (Int ⊕ (Unit ⊕ R))}(l:List β) (P:β->Prop) (Q:R->Prop) (ah:l.length<=100000000000000000)
  (ax:∀ (s:Int) (y:β),0<=s->s<l.length->idx l s=some y->y∈l->Tot (f s) (h4 (λcz=>cz=s+1/\P y) (h4 (λ_=>False) Q)))
  (he:∀ s:Int,¬ s<l.length->f s=some (.inr (.inl ()))):Tot (cg f 0) (h4 (λ_=>∀ y∈l,P y) Q):=by
 refine count (λs=>s) l.length (λs=>0<=s/\s<=l.length/\∀ (j:Nat) (y:β),(j:Int)<s->l[j]?=some y->P y) ⟨by omega,by omega,λj y h=>by omega⟩ (by show (l.length:Int) - 0<_; omega) λs bf=>?_;obtain ⟨aK,h1,af⟩:=bf;by_cases aN:s<l.length
 ·have pR:s.toNat<l.length:=by omega
  have hi:idx l s=some l[s.toNat]:=by simp [idx,aK,pR]
  refine (ax s _ aK aN hi (List.getElem_mem pR)).use λx J=>?_;rcases x with cz | ⟨⟨⟩⟩ | r
  ·obtain ⟨rfl,bI⟩:=J
   grind
  ·grind
  grind
 ·rw [he s aN];refine al λy ao=>?_;obtain ⟨j,ag,rfl⟩:=List.mem_iff_getElem.1 ao;exact af j _ (by omega) (List.getElem?_eq_getElem ag)
end Tot
def Par (x:Option α) (Φ:α->Prop):Prop:=∀ a,x=some a->Φ a
namespace Par
variable {Φ Ψ:α->Prop}
theorem al {a:α}(h:Φ a):Par (some a) Φ:=λb e=>by cases e; exact h
theorem no:Par (none:Option α) Φ:=λb e=>by cases e
theorem use {x:Option α}(h:Par x Ψ) (hi:∀ a,Ψ a->Φ a):Par x Φ:=λa e=>hi a (h a e)
theorem aA {x:Option β}{f:β->Option α}{Ξ:β->Prop}(h:Par x Ξ) (hk:∀ a,Ξ a->Par (f a) Φ):Par (x.bind f) Φ:=λa e=>by
 cases x with
 | none=>cases e
 | some b=>exact hk b (h b rfl) a e
theorem go {x:Option β}{f:β->Option α}(hk:∀ a,x=some a->Par (f a) Φ):Par (x.bind f) Φ:=λa e=>by
 cases x with
 | none=>cases e
 | some b=>exact hk b rfl a e
theorem bN {c:Bool}{a b:Option α}(au:c=true->Par a Φ) (aV:c=false->Par b Φ):Par (cond c a b) Φ:=by
 cases c
 ·exact aV rfl
 ·exact au rfl
theorem bs {p:Prop} [Decidable p] {a b:Option α}(au:p->Par a Φ) (aV:¬ p->Par b Φ):Par (cond (decide p) a b) Φ :=
 bN (λh=>au (of_decide_eq_true h)) (λh=>aV (of_decide_eq_false h))
theorem pF {p:Prop} [Decidable p] {a b:Option α}(au:¬ p->Par a Φ) (aV:p->Par b Φ):Par (cond (!decide p) a b) Φ :=
 bN (λh=>au (of_decide_eq_false (by simpa using h))) (λh=>aV (of_decide_eq_true (by simpa using h)))
theorem ap {l m:List β}{f:List β->Option α}(hk:l.length+m.length<=lim->Par (f (l++m)) Φ):Par ((c8 l m).bind f) Φ:=by
 unfold c8;split
 ·rename_i h; exact hk h
 ·exact no
theorem loop {f:S->Option (S ⊕ R)}{e6:S}{Ψ:R->Prop}(Inv:S->Prop) (aK:Inv e6) (ax:∀ s,Inv s->Par (f s) (h4 Inv Ψ)):Par (cg f e6) Ψ:=by
 have key:∀ n s,Inv s->Par (iter f n s) Ψ:=by
  intro n
  induction n with
  | zero=>intro s _ a e; cases e
  | succ n aM =>
   intro s bf a e;simp only [iter] at e;cases J:f s with
   | none=>rw [J] at e; cases e
   | some x =>
    have bI:=ax s bf x J;rw [J] at e;cases x with
    | inl cz=>exact aM cz bI a e
    | inr r=>cases e; exact bI
 exact key fuel e6 aK
theorem jB {x:Option α}(h:Tot x Φ) (aI:Par x Ψ):Tot x λa=>Φ a/\Ψ a:=by
 obtain ⟨a,aJ,qH⟩:=h;exact ⟨a,aJ,qH,aI a aJ⟩
theorem of {x:Option α}(h:Tot x Φ):Par x Φ:=λa e=>h.eq e
theorem scan {f:Int->Option (Int ⊕ (Unit ⊕ R))}(l:List β) (ah:l.length<=100000000000000000) (P:β->Prop) (Q:R->Prop)
  (ax:∀ (s:Int) (y:β),0<=s->s<l.length->idx l s=some y->y∈l->Par (f s) (h4 (λcz=>cz=s+1/\P y) (h4 (λ_=>False) Q)))
  (he:∀ s:Int,¬ s<l.length->f s=some (.inr (.inl ()))):Par (cg f 0) (h4 (λ_=>∀ y∈l,P y) Q):=by
 refine loop (λs=>0<=s/\s<=l.length/\∀ (j:Nat) (y:β),(j:Int)<s->l[j]?=some y->P y) ⟨by omega,by omega,λj y h=>by omega⟩ λs bf=>?_;obtain ⟨aK,h1,af⟩:=bf;by_cases aN:s<l.length
 ·have pR:s.toNat<l.length:=by omega
  have hi:idx l s=some l[s.toNat]:=by simp [idx,aK,pR]
  refine (ax s _ aK aN hi (List.getElem_mem pR)).use λx J=>?_;rcases x with cz | ⟨⟨⟩⟩ | r
  ·obtain ⟨rfl,bI⟩:=J;refine ⟨by omega,by omega,λj y ag ao=>?_⟩;by_cases FD:(j:Int)<s
   ·exact af j y FD ao
   ·have:j=s.toNat:=by omega
    subst this;rw [List.getElem?_eq_getElem pR] at ao;cases ao; exact bI
  ·exact J.elim
  ·exact J
 ·rw [he s aN];refine al λy ao=>?_;obtain ⟨j,ag,rfl⟩:=List.mem_iff_getElem.1 ao;exact af j _ (by omega) (List.getElem?_eq_getElem ag)
end Par
namespace Tot
theorem upto {f:S->Option (S ⊕ R)}{e6:S}{Ψ:R->Prop}(i:S->Int) (n:Nat) (Inv:Nat->S->Prop) (hi:i e6=0) (aB:n<=100000000000000000) (aK:Inv 0 e6)
  (ax:∀ (k:Nat) (s:S),k<=n->i s=(k:Int)->Inv k s->Tot (f s) (h4 (λcz=>k<n/\i cz=((k+1:Nat):Int)/\Inv (k+1) cz) Ψ)):Tot (cg f e6) Ψ:=by
 refine count i n (λs=>∃ k:Nat,k<=n/\i s=(k:Int)/\Inv k s) ⟨0,Nat.zero_le _,hi,aK⟩ (by rw [hi]; omega) λs ⟨k,hk,he,bf⟩=>(ax k s hk he bf).use λx J=>?_;rcases x with cz | r
 ·obtain ⟨h1,af,aF⟩:=J;exact ⟨⟨k+1,by omega,af,aF⟩,by omega,by omega⟩
 ·exact J
end Tot
namespace Par
end Par
theorem et (k:Nat) (h:k<=1000000000000000000):aG ((k:Int)+1)=((k+1:Nat):Int):=by rw [cC]; omega
end Go.Own
namespace Go.Own
open Go
variable {α β afS afT S T R Q:Type}
namespace Rel
variable {Φ Ψ:α->β->Prop}
end Rel
end Go.Own

namespace Go.Proofs
open Go Go.Own
set_option maxRecDepth 100000
theorem t187 (c:Int):Tot (DM c) λ_=>True:=by
 unfold DM
 repeat' first | apply Tot.bi | refine Tot.bN (λ_=>?_) (λ_=>?_) | exact Tot.al trivial | apply Tot.al
theorem t188 (c:Int):Tot (DN c) λ_=>True:=by
 unfold DN
 repeat' first | apply Tot.bi | refine Tot.bN (λ_=>?_) (λ_=>?_) | exact Tot.al trivial | apply Tot.al
theorem t186 (c:Int):Tot (AI c) λ_=>True:=by
 unfold AI
 repeat' first | apply Tot.bi | refine Tot.bN (λ_=>?_) (λ_=>?_) | exact Tot.al trivial | apply Tot.al
theorem t183 (x:Sym):Tot (uQ x) λr=>r=true->x.Name=⟨#[]⟩/\x.Lit=false:=by
 unfold uQ;apply Tot.bi;refine Tot.bs (λh=>Tot.bN (λaf=>?_) (λaf=>?_)) (λh=>?_) <;> apply Tot.al <;> apply Tot.al
 ·exact λ_=>⟨h,by simpa using af⟩
 ·exact λh=>by cases h
 ·exact λh=>by cases h
abbrev ef:Nat:=1000000000000
theorem t182 (s:ByteArray) (h:s.size<=ef):Tot (DL s 0) λn=>0<=n/\n<=s.size:=by
 unfold DL;refine Tot.aA (Ξ:=λn=>0<=n/\n<=s.size) ?_ λa aJ=>.al aJ;refine Tot.count (λi=>i) s.size (λi=>0<=i/\i<=s.size) ⟨by omega,by omega⟩ (by show (s.size:Int) - 0<_; simp only [ef] at h; omega) λi ⟨aK,h1⟩=>?_;simp only [ef] at h;have e:aG (0+i)=i:=by rw [cC]; omega
 rw [e];have go:∀ c:Bool,(c=true->i<s.size)->Tot (bif c then some (.inl (aG (i+1))) else some (.inr i)) (h4 (λcz:Int=>(0<=cz/\cz<=s.size)/\i<cz/\cz<=s.size) (λr:Int=>0<=r/\r<=s.size)):=by
  intro c aa;refine Tot.bN (λaf=>.al ?_) (λ_=>.al ⟨aK,h1⟩);have:=aa af;have e:aG (i+1)=i+1:=by rw [cC]; omega
  show (0<=aG (i+1)/\aG (i+1)<=s.size)/\i<aG (i+1)/\aG (i+1)<=s.size;rw [e]; omega
 apply Tot.bi;refine Tot.bs (λaf=>?_) (λaf=>.al (go false (by simp)));apply Tot.bi;refine Tot.oz ⟨aK,af⟩ (Tot.aA (t187 _) λc _=>?_);refine Tot.bN (λ_=>.al (go _ λ_=>af)) (λ_=>Tot.bN (λ_=>?_) (λ_=>.al (go _ λ_=>af)));apply Tot.bi;refine Tot.oz ⟨aK,af⟩ (Tot.aA (t188 _) λc _=>?_);refine Tot.bN (λ_=>.al (go _ λ_=>af)) (λ_=>?_);apply Tot.bi;exact Tot.oz ⟨aK,af⟩ (.al (go _ λ_=>af))
theorem t173 (s:ByteArray) (h:s.size<=ef):Tot (wc s) λr=>r=true->1<=s.size/\s.size<=20:=by
 unfold wc;apply Tot.bi;refine Tot.bs (λh1=>Tot.bs (λaf=>?_) (λaf=>?_)) (λh1=>?_)
 ·exact .aA (t182 s h) λn aB=>.al (.al λ_=>by omega)
 ·exact .al (.al λh=>by cases h)
 ·exact .al (.al λh=>by cases h)
theorem t190 (s:ByteArray) (i:Int) (t:ByteArray) (h:s.size<=ef) (aK:0<=i) (h1:i<=4 * ef) (au:t.size<=ef):Tot (yn s i t) λr=>r=true->i+t.size<=s.size:=by
 unfold yn;simp only [ef] at *;apply Tot.bi;refine Tot.bs (λaf=>?_) (λaf=>.al (.al λh=>by cases h));apply Tot.bi;rw [cC] at af;have e:aG (i+t.size)=i+t.size:=by rw [cC]; omega
 refine Tot.cut (by rw [e]; omega) (.al (.al λ_=>by omega))
theorem t189 (s:ByteArray) (i:Int) (h:s.size<=ef) (aK:0<=i) (h1:i<s.size):Tot (DO s i) λr=>r<=s.size:=by
 unfold DO;have ar:(s.size:Int)<=1000000000000:=by simp only [ef] at h; omega
 have ca:aG (i+1)=i+1:=by rw [cC]; omega
 have b6:aG (i+2)=i+2:=by rw [cC]; omega
 rw [ca,b6];have xq:=Tot.oz (Φ:=λ_=>True) (s:=s) (m:=i) ⟨aK,h1⟩ trivial;refine Tot.aA (Ξ:=λ_=>True) ?_ λc _=>Tot.bN (λ_=>?_) (λ_=>?_)
 ·refine Tot.aA xq λ_ _=>Tot.bN (λ_=>.al trivial) (λ_=>Tot.aA xq λ_ _=>.al trivial)
 ·refine Tot.aA (Ξ:=h4 (λ_=>True) (λr=>r<=s.size)) ?_ λx J=>?_
  ·refine Tot.count (λj=>j) (s.size+1) (λj=>0<=j) (by show (0:Int)<=i+1; omega) (by show (s.size:Int)+1 - (i+1)<_; omega) λj ag=>?_;refine Tot.aA (Ξ:=λc=>c=true->j<s.size) ?_ λc aa=>Tot.bN (λaf=>?_) (λ_=>.al trivial)
   ·refine Tot.bs (λaf=>?_) (λ_=>.al λh=>by cases h);exact .aA (Ξ:=λ_=>True) (Tot.oz ⟨ag,af⟩ trivial) λ_ _=>.al λ_=>af
   ·have Xu:=aa af;have xo:=Tot.oz (Φ:=λ_=>True) (s:=s) (m:=j) ⟨ag,Xu⟩ trivial;have eI:aG (j+1)=j+1:=by rw [cC]; omega
    have k_:aG (j+1+1)=j+1+1:=by rw [cC]; omega
    rw [eI,k_];refine .aA xo λ_ _=>.aA xq λ_ _=>Tot.bN (λ_=>.al ?_) (λ_=>.aA xo λ_ _=>Tot.bN (λ_=>?_) (λ_=>.al ?_))
    ·show j+1<=s.size; omega
    ·refine Tot.aA (Ξ:=λ_=>True) ?_ λc _=>Tot.bN (λ_=>.al ?_) (λ_=>.al ?_)
     ·refine Tot.bs (λaF=>?_) (λ_=>.al trivial);exact .aA (Ξ:=λ_=>True) (Tot.oz ⟨by omega,aF⟩ trivial) λ_ _=>.al trivial
     ·show (-1:Int)<=s.size; omega
     ·show (0:Int)<=j+1+1/\j<j+1+1/\j+1+1<=s.size+1; omega
    ·show (0:Int)<=j+1/\j<j+1/\j+1<=s.size+1; omega
  ·rcases x with _ | r
   ·exact .al (by show (-1:Int)<=s.size; omega)
   ·exact .al J
 ·refine .aA xq λ_ _=>Tot.bN (λ_=>?_) (λ_=>?_)
  ·refine Tot.aA (Ξ:=h4 (λ_=>True) (λr=>r<=s.size)) ?_ λx J=>?_
   ·refine Tot.count (λj=>j) (s.size+1) (λj=>0<=j) (by show (0:Int)<=i+1; omega) (by show (s.size:Int)+1 - (i+1)<_; omega) λj ag=>?_;refine Tot.bs (λaf=>?_) (λ_=>.al trivial);have eI:aG (j+1)=j+1:=by rw [cC]; omega
    rw [eI];refine .aA (Ξ:=λ_=>True) (Tot.oz ⟨ag,af⟩ trivial) λ_ _=>Tot.bN (λ_=>.al ?_) (λ_=>.al ?_)
    ·show j+1<=s.size; omega
    ·show (0:Int)<=j+1/\j<j+1/\j+1<=s.size+1; omega
   ·rcases x with _ | r
    ·exact .al (by show (-1:Int)<=s.size; omega)
    ·exact .al J
  ·refine .aA (t190 s i _ h aK (by simp only [ef]; omega) (by decide)) λc _=>Tot.bN (λ_=>?_) (λ_=>?_)
   ·refine Tot.aA (Ξ:=λr=>r<=s.size) ?_ λx J=>.al J;refine Tot.count (λj=>j) s.size (λj=>0<=j/\j<=s.size) ⟨aK,by omega⟩ (by show (s.size:Int) - i<_; omega) λj ag=>?_;refine Tot.aA (Ξ:=λc=>c=true->j<s.size) ?_ λc aa=>Tot.bN (λaf=>?_) (λ_=>.al ag.2)
    ·refine Tot.bs (λaf=>?_) (λ_=>.al λh=>by cases h);exact .aA (Ξ:=λ_=>True) (Tot.oz ⟨ag.1,af⟩ trivial) λ_ _=>.al λ_=>af
    ·have:=aa af;have eI:aG (j+1)=j+1:=by rw [cC]; omega
     rw [eI];exact .al (by show ((0:Int)<=j+1/\j+1<=s.size)/\j<j+1/\j+1<=s.size; omega)
   ·refine .aA (t190 s i _ h aK (by simp only [ef]; omega) (by decide)) λc aa=>Tot.bN (λkt=>?_) (λ_=>.al (by omega));refine Tot.aA (Ξ:=h4 (λ_=>True) (λr=>r<=s.size)) ?_ λx J=>?_
    ·refine Tot.count (λj=>j) (s.size+1) (λj=>0<=j) (by show (0:Int)<=i+2; omega) (by show (s.size:Int)+1 - (i+2)<_; omega) λj ag=>?_;refine Tot.bs (λaf=>?_) (λ_=>.al trivial);have eI:aG (j+1)=j+1:=by rw [cC]; omega
     have k_:aG (j+2)=j+2:=by rw [cC]; omega
     rw [eI,k_];refine .aA (t190 s j _ h ag (by simp only [ef]; omega) (by decide)) λc aa=>Tot.bN (λqy=>.al ?_) (λ_=>.al ?_)
     ·have:=aa qy;have s_:(⟨#[42,47]⟩:ByteArray).size=2:=rfl;rw [s_] at this;show j+2<=s.size; omega
     ·show (0:Int)<=j+1/\j<j+1/\j+1<=s.size+1; omega
    ·rcases x with _ | r
     ·exact .al (by show (-1:Int)<=s.size; omega)
     ·exact .al J
theorem t184 (s:ByteArray) (h:s.size<=ef):Tot (AH s 0) λ_=>True:=by
 unfold AH;have ar:(s.size:Int)<=1000000000000:=by simp only [ef] at h; omega
 refine Tot.aA (Ξ:=λ_=>True) ?_ λc _=>Tot.bN (λ_=>.al trivial) (λ_=>?_)
 ·refine Tot.bs (λh=>.al trivial) (λaK=>Tot.bs (λh=>.al trivial) (λaf=>?_));exact .aA (Ξ:=λ_=>True) (Tot.oz (by omega) trivial) λ_ _=>.al trivial
 ·refine Tot.aA (Ξ:=λ_=>True) ?_ λx _=>by rcases x with _ | r <;> exact .al trivial
  refine Tot.count (λj=>j.2) s.size (λj=>0<=j.2/\j.2<=s.size) ⟨by show (0:Int)<=0; omega,by show (0:Int)<=s.size; omega⟩ (by show (s.size:Int) - 0<_; omega) λj ag=>?_;refine Tot.bs (λaf=>?_) (λ_=>.al trivial);refine .aA (t189 s j.2 h ag.1 af) λn aB=>Tot.bs (λ_=>.al trivial) (λaF=>Tot.bs (λbh=>.al ?_) (λbh=>?_))
  ·show ((0:Int)<=n/\n<=s.size)/\j.2<n/\n<=s.size; omega
  ·have xq:=Tot.oz (Φ:=λ_=>True) (s:=s) (m:=j.2) ⟨ag.1,af⟩ trivial;have eI:aG (j.2+1)=j.2+1:=by rw [cC]; omega
   rw [eI];refine .aA xq λ_ _=>.aA (Ξ:=λ_=>True) (Tot.bN (λ_=>.al trivial) (λ_=>.al trivial)) λ_ _=>.aA xq λ_ _=>.aA (Ξ:=λ_=>True) (Tot.bN (λ_=>.al trivial) (λ_=>.al trivial)) λ_ _=>Tot.bN (λ_=>.al trivial) (λ_=>.al ?_);show ((0:Int)<=j.2+1/\j.2+1<=s.size)/\j.2<j.2+1/\j.2+1<=s.size; omega
def me (x:Sym):Prop:=x.Lit=true->x.Name.size=1
structure Mh (d:Decl):Prop where
 tag:d.Tag.size<=ef
 n:d.ff.length<=1000
 syms:∀ x∈d.ff,x.Name.size<=ef
structure Bb (a:Alt):Prop where
 n:a.Parts.length<=1000
 parts:∀ p∈a.Parts,p.Sym.Name.size<=ef/\p.Code.size<=ef
 prec:a.Prec.Name.size<=ef
structure Sw (r:fK):Prop where
 left:r.Left.size<=ef
 n:r.gi.length<=1000
 alts:∀ a∈r.gi,Bb a
structure ve (s:Source):Prop where
 ZY:s.hl.size<=ef
 qo:s.Decls.length<=1000
 decls:∀ d∈s.Decls,Mh d
 aD:s.eP.length<=1000
 rules:∀ r∈s.eP,Sw r
theorem t181 (x:Sym) (a b:Bool) (h:x.Name.size<=ef):Tot (uP x a b) λr=>r=true->me x:=by
 unfold uP;refine Tot.bN (λah=>?_) (λah=>?_)
 ·refine Tot.aA (Ξ:=λc=>c=false->x.Name.size=1) ?_ λc aa=>Tot.bN (λ_=>.al λh=>by cases h) (λaf=>?_)
  ·refine Tot.bN (λ_=>.al λh=>by cases h) (λ_=>Tot.pF (λ_=>.al λh=>by cases h) (λh1=>.al λ_=>by omega))
  ·have h1:=aa af;refine .aA (Ξ:=λ_=>True) (Tot.oz (by omega) trivial) λ_ _=>.aA (t186 _) λ_ _=>.al λ_ _=>h1
 ·have c7:me x:=λh=>by rw [ah] at h; cases h
  refine Tot.aA (Ξ:=λ_=>True) ?_ λc aa=>.al λ_=>c7;refine .aA (t173 _ h) λc _=>?_
  repeat' first | refine Tot.bN (λ_=>?_) (λ_=>?_) | exact Tot.al trivial
theorem t172 (d:Decl) (h:Mh d):Tot (yk d) λr=>r=true->∀ x∈d.ff,me x:=by
 unfold yk;refine Tot.aA (Ξ:=λ_=>True) ?_ λc _=>Tot.bN (λ_=>.al λh=>by cases h) (λ_=>?_)
 ·have au:=(t173 _ h.tag).use (Φ:=λ_=>True) λ_ _=>trivial
  repeat' first | refine Tot.bN (λ_=>?_) (λ_=>?_) | exact Tot.al trivial | refine .aA au λ_ _=>?_
 ·refine Tot.aA (Tot.scan d.ff (λx=>me x) (λr=>r=false) (by have:=h.n; omega) (λs y aK h1 hi hm=>?_) (λs ax=>by simp [ax])) λx J=>?_
  ·refine Tot.bs (λ_=>?_) (λh=>absurd h1 h);rw [hi];refine Tot.aT ?_;refine .aA (t181 _ _ _ (h.syms _ hm)) λc aa=>Tot.bN (λ_=>.al rfl) (λaf=>.al ⟨?_,aa (by simpa using af)⟩);have:=h.n;rw [cC]; omega
  ·rcases x with _ | r
   ·exact .al λ_=>J
   ·exact .al λh=>by have:r=false:=J; rw [this] at h; cases h
theorem t174 (a:Alt) (h:Bb a):Tot (yl a) λr=>r=true->(∀ p∈a.Parts,me p.Sym)/\me a.Prec:=by
 unfold yl;refine Tot.aA (Tot.scan a.Parts (λp=>me p.Sym) (λr=>r=false) (by have:=h.n; omega) (λs y aK h1 hi hm=>?_) (λs ax=>by simp [ax])) λx J=>?_
 ·refine Tot.bs (λ_=>?_) (λh=>absurd h1 h);rw [hi];refine Tot.aT ?_;have aq:=h.parts _ hm;have t1:=t181 y.Sym false true aq.1;have t2:=t183 y.Sym;have Rs:=t184 y.Code aq.2;have hw:aG (s+1)=s+1:=by have:=h.n; rw [cC]; omega
  rw [hw];have n118:(y.Sym.Name=⟨#[]⟩/\y.Sym.Lit=false)->me y.Sym:=λh ah=>by rw [h.2] at ah; cases ah
  refine Tot.aA (Ξ:=λc=>c=false->me y.Sym) ?_ λc aa=>Tot.bN (λ_=>.al rfl) (λaf=>.al ⟨rfl,aa af⟩);refine Tot.bs (λ_=>?_) (λcQ=>?_)
  ·refine .aA t1 λc aa=>Tot.bN (λ_=>.al λh=>by cases h) (λaf=>?_);have c7:=aa (by simpa using af);refine Tot.bN (λ_=>?_) (λ_=>.al λ_=>c7);refine .aA t2 λc _=>Tot.bN (λ_=>.al λ_=>c7) (λ_=>?_);exact .aA Rs λ_ _=>.al λ_=>c7
  ·refine Tot.pF (λ_=>?_) (λh=>.al λ_=>?_)
   ·refine .aA t2 λc aa=>Tot.bN (λ_=>.al λh=>by cases h) (λaf=>?_);have c7:=n118 (aa (by simpa using af));exact .aA Rs λ_ _=>.al λ_=>c7
   ·exact absurd h cQ
 ·rcases x with _ | r
  ·have J:∀ p∈a.Parts,me p.Sym:=J;refine Tot.aA (Ξ:=λc=>c=true->me a.Prec) ?_ λc aa=>.al λh=>⟨J,aa h⟩;refine .aA (t183 _) λc aa=>Tot.bN (λaf=>.al λ_=>?_) (λ_=>.aA (t181 _ _ _ h.prec) λc aa=>.al aa);intro ah; rw [(aa af).2] at ah; cases ah
  ·exact .al λh=>by have:r=false:=J; rw [this] at h; cases h
structure EE (a:Alt):Prop where
 parts:∀ p∈a.Parts,me p.Sym
 prec:me a.Prec
structure My (s:Source):Prop where
 decls:∀ d∈s.Decls,∀ x∈d.ff,me x
 rules:∀ r∈s.eP,∀ a∈r.gi,EE a
 pos:0<s.eP.length
theorem t146 (s:Source) (h:ve s):Tot (yh s) λr=>r=true->My s:=by
 unfold yh;refine Tot.aA (Ξ:=h4 (λ_=>True) (λr=>r=false)) ?_ λx J=>?_
 ·have aq:(s.hl.size:Int)<=1000000000000:=by have:=h.ZY; simp only [ef] at this; omega
  refine Tot.count (λj=>j) s.hl.size (λj=>0<=j/\j<=s.hl.size) ⟨by omega,by omega⟩ (by show (s.hl.size:Int) - 0<_; omega) λj ag=>?_;have ca:aG (j+1)=j+1:=by rw [cC]; omega
  have b6:aG (j+2)=j+2:=by rw [cC]; omega
  rw [ca,b6];refine Tot.bs (λaf=>?_) (λ_=>.al trivial);refine .aA (Ξ:=λ_=>True) (Tot.cut (by omega) trivial) λ_ _=>Tot.bN (λ_=>.al rfl) (λ_=>.al ?_);show ((0:Int)<=j+1/\j+1<=s.hl.size)/\j<j+1/\j+1<=s.hl.size; omega
 ·rcases x with _ | r
  ·refine Tot.aA (Tot.scan s.Decls (λd=>∀ x∈d.ff,me x) (λr=>r=false) (by have:=h.qo; omega) (λi y aK h1 hi hm=>?_) (λs ax=>by simp [ax])) λx J=>?_
   ·refine Tot.bs (λ_=>?_) (λh=>absurd h1 h);rw [hi];refine Tot.aT ?_;refine .aA (t172 _ (h.decls _ hm)) λc aa=>Tot.bN (λ_=>.al rfl) (λaf=>.al ⟨?_,aa (by simpa using af)⟩);have:=h.qo;rw [cC]; omega
   ·rcases x with _ | r
    ·have J:∀ d∈s.Decls,∀ x∈d.ff,me x:=J;refine Tot.aA (Tot.scan s.eP (λr=>∀ a∈r.gi,EE a) (λr=>r=false) (by have:=h.aD; omega) (λi y aK h1 hi hm=>?_) (λs ax=>by simp [ax])) λx gL=>?_
     ·refine Tot.bs (λ_=>?_) (λh=>absurd h1 h);rw [hi];refine Tot.aT ?_;have hr:=h.rules _ hm;have hw:aG (i+1)=i+1:=by have:=h.aD; rw [cC]; omega
      rw [hw];refine .aA (Ξ:=λ_=>True) (.aA (t173 _ hr.left) λc _=>Tot.bN (λ_=>.al trivial) (λ_=>.al trivial)) λc _=>Tot.bN (λ_=>.al rfl) (λ_=>?_);refine Tot.aA (Tot.scan y.gi EE (λr=>r=false) (by have:=hr.n; omega) (λk a aK h1 hi hm=>?_) (λs ax=>by simp [ax])) λx hg=>?_
      ·refine Tot.bs (λ_=>?_) (λh=>absurd h1 h);rw [hi];refine Tot.aT ?_;refine .aA (t174 _ (hr.alts _ hm)) λc aa=>Tot.bN (λ_=>.al rfl) (λaf=>.al ⟨?_,⟨(aa (by simpa using af)).1,(aa (by simpa using af)).2⟩⟩);have:=hr.n;rw [cC]; omega
      ·rcases x with _ | r
       ·exact .al ⟨rfl,hg⟩
       ·exact .al hg
     ·rcases x with _ | r
      ·exact .al λh=>⟨J,gL,by have:=of_decide_eq_true h; omega⟩
      ·exact .al λh=>by have:r=false:=gL; rw [this] at h; cases h
    ·exact .al λh=>by have:r=false:=J; rw [this] at h; cases h
  ·exact .al λh=>by have:r=false:=J; rw [this] at h; cases h
abbrev fe:=db
structure r7 (m m':fe):Prop where
 g:m'.ba=m.ba
 gq:m'.eb=m.eb
 ty:m'.fx=m.fx
 hG:m'.dw=m.dw
 jy:m'.fg=m.fg
 hq:m'.dc=m.dc
theorem t148 (m:fe) (a:Int) (n:ByteArray):Tot (od m a n) λm'=>r7 m m'/\m'.eK≠0:=by
 unfold od;apply Tot.bi;refine Tot.bs (λ_=>.al (.al ⟨⟨rfl,rfl,rfl,rfl,rfl,rfl⟩,?_⟩)) (λh=>.al (.al ⟨⟨rfl,rfl,rfl,rfl,rfl,rfl⟩,h⟩))
 grind
theorem t152 (m:fe) (n:ByteArray) (h:m.fx.length<=ef):Tot (AB m n) λr=>r=-1\/(0<=r/\r<m.fx.length):=by
 unfold AB;simp only [ef] at h;refine Tot.aA (Tot.scan m.fx (λ_=>True) (λr:Int=>0<=r/\r<m.fx.length) (by omega) (λs y aK h1 hi hm=>?_) (λs ax=>by simp [ax])) λx J=>?_
 ·refine Tot.bs (λ_=>?_) (λh=>absurd h1 h);rw [hi];refine Tot.aT ?_;refine Tot.bN (λ_=>.al ⟨aK,h1⟩) (λ_=>.al ⟨?_,trivial⟩)
  grind [cC]
 ·rcases x with _ | r
  ·exact .al (.inl rfl)
  ·exact .al (.inr J)
theorem t150 (m:fe) (n:ByteArray) (h:m.dw.length<=ef):Tot (tA m n) λr=>(r=-1/\∀ x∈m.dw,x≠n)\/(0<=r/\r<m.dw.length/\m.dw[r.toNat]?=some n):=by
 unfold tA;simp only [ef] at h;refine Tot.aA (Tot.scan m.dw (λx=>x≠n) (λr:Int=>0<=r/\r<m.dw.length/\m.dw[r.toNat]?=some n) (by omega) (λs y aK h1 hi hm=>?_) (λs ax=>by simp [ax])) λx J=>?_
 ·refine Tot.bs (λ_=>?_) (λh=>absurd h1 h);rw [hi];refine Tot.aT ?_;refine Tot.bs (λe=>.al ⟨aK,h1,by rw [<- e]; exact (mq hi).2.2⟩) (λe=>.al ⟨?_,e⟩)
  grind [cC]
 ·rcases x with _ | r
  ·exact .al (.inl ⟨rfl,J⟩)
  ·exact .al (.inr J)
theorem t149 (m:fe) (x:Sym) (h:m.ba.br.length<=ef):Tot (uO m x) λr=>r=-1\/(1<=r/\r<m.ba.br.length):=by
 unfold uO;simp only [ef] at h;refine Tot.aA (Ξ:=h4 (λ_=>True) (λr=>1<=r/\r<m.ba.br.length)) ?_ λx J=>?_
 ·refine Tot.count (λj=>j) m.ba.br.length (λj=>1<=j) (by omega) (by show (m.ba.br.length:Int) - 1<_; omega) λj ag=>?_;refine Tot.bs (λaf=>?_) (λ_=>.al trivial);have e:aG (j+1)=j+1:=by rw [cC]; omega
  rw [e];refine .aA (Ξ:=λ_=>True) ?_ λc _=>Tot.bN (λ_=>.al ⟨ag,af⟩) (λ_=>.al ?_)
  ·refine .aA (Ξ:=λ_=>True) (Tot.hs (by omega) af λ_ _ _=>trivial) λ_ _=>Tot.bN (λ_=>?_) (λ_=>.al trivial);exact .aA (Ξ:=λ_=>True) (Tot.hs (by omega) af λ_ _ _=>trivial) λ_ _=>Tot.bN (λ_=>.al trivial) (λ_=>.al trivial)
  grind
 ·rcases x with _ | r
  ·exact .al (.inl rfl)
  ·exact .al (.inr J)
theorem t176 (m:fe) (n:Int) (h:m.ba.br.length<=ef):Tot (wg m n) λ_=>True:=by
 unfold wg;simp only [ef] at h;refine Tot.aA (Ξ:=λ_=>True) ?_ λx J=>?_
 ·refine Tot.count (λj=>j) m.ba.br.length (λj=>1<=j) (by decide) (by show (m.ba.br.length:Int) - 3<_; omega) λj ag=>?_;refine Tot.bs (λaf=>?_) (λ_=>.al trivial);have e:aG (j+1)=j+1:=by rw [cC]; omega
  rw [e];refine .aA (Ξ:=λ_=>True) (Tot.hs (by omega) af λ_ _ _=>trivial) λc _=>Tot.bN (λ_=>.al trivial) (λ_=>.al ?_)
  grind
 ·rcases x with _ | r <;> exact .al trivial
structure Grow (m m':fe) (k:Nat):Prop where
 gq:m'.eb.length=m'.ba.br.length
 lo:m.ba.br.length<=m'.ba.br.length
 hi:m'.ba.br.length<=m.ba.br.length+k
 ty:m'.fx.length<=m.fx.length+k
 hG:m'.dw=m.dw
 gC:m'.ba.bu=m.ba.bu
 hq:m'.dc=m.dc
 lvl:m'.fg=m.fg
 jy:0<=m.fg->(∀ t∈m.ba.br,0<=t.Level)->∀ t∈m'.ba.br,0<=t.Level
theorem r7.grow {m m':fe}(h:r7 m m') (aQ:m.eb.length=m.ba.br.length) (k:Nat):Grow m m' k:=by
 obtain ⟨h1,af,aF,bh,b7,dp⟩:=h;exact ⟨by rw [h1,af]; exact aQ,by rw [h1]; omega,by rw [h1]; omega,by rw [aF]; omega,bh,by rw [h1],dp,b7,by rw [h1]; exact λ_ h=>h⟩
theorem t175 (m:fe) (x:Sym) (aQ:m.eb.length=m.ba.br.length) (h:m.ba.br.length<=100000000000) (J:me x) :
  Tot (we m x) λr=>(Grow m r.2 1/\0<=r.1/\r.1<r.2.ba.br.length)/\(r.2.eK=0->m.eK=0)/\(1<=m.ba.br.length->1<=r.1):=by
 unfold we;refine .aA (t149 m x (by simp only [ef]; omega)) λt au=>Tot.bs (λaK=>.al ⟨⟨⟨aQ,Nat.le_refl _,Nat.le_succ _,Nat.le_succ _,rfl,rfl,rfl,rfl,λ_ h=>h⟩,aK,?_⟩,id,λ_=>by show 1<=t; omega⟩) (λ_=>?_)
 ·grind
 ·refine Tot.aA (Ξ:=λj=>r7 m j.1/\(j.1.eK=0->m.eK=0)) ?_ λj ag=>?_
  ·refine Tot.bN (λah=>?_) (λ_=>.al ⟨⟨rfl,rfl,rfl,rfl,rfl,rfl⟩,id⟩);have:=J ah;refine .aA (Ξ:=λ_=>True) (Tot.oz (by omega) trivial) λb _=>.aA (t176 m _ (by simp only [ef]; omega)) λo _=>?_;refine Tot.aA (Ξ:=λj=>r7 m j/\(j.eK=0->m.eK=0)) ?_ λj ag=>.al ag;exact Tot.bN (λ_=>.aA (t148 m _ _) λm' hm=>.al ⟨hm.1,λe=>absurd e hm.2⟩) (λ_=>.al ⟨⟨rfl,rfl,rfl,rfl,rfl,rfl⟩,id⟩)
  ·obtain ⟨⟨h1,af,aF,bh,b7,dp⟩,Xm⟩:=ag;have aN:j.1.ba.br.length=m.ba.br.length:=by rw [h1]
   have XE:j.1.eb.length=m.eb.length:=by rw [af]
   refine .aA (Ξ:=λ_=>True) (Tot.ap (by rw [aN]; simp [lim]; omega) trivial) λ_ _=>.aA (Ξ:=λ_=>True) (Tot.ap (by rw [XE]; simp [lim]; omega) trivial) λ_ _=>.al ?_;refine ⟨⟨⟨?_,?_,?_,?_,bh,by show j.1.ba.bu=_; rw [h1],dp,b7,?_⟩,?_,?_⟩,Xm,λh1=>?_⟩
   all_goals grind [cC]
structure ow (m m':fe):Prop where
 tk:m'.ba.br.length=m.ba.br.length
 gq:m'.eb.length=m.eb.length
 ty:m'.fx=m.fx
 hG:m'.dw=m.dw
 gC:m'.ba.bu=m.ba.bu
 hq:m'.dc=m.dc
 lvl:m'.fg=m.fg
 jy:0<=m.fg->(∀ t∈m.ba.br,0<=t.Level)->∀ t∈m'.ba.br,0<=t.Level
theorem ow.refl (m:fe):ow m m:=⟨rfl,rfl,rfl,rfl,rfl,rfl,rfl,λ_ h=>h⟩
theorem ow.trans {m m' Di:fe}(h:ow m m') (aI:ow m' Di):ow m Di:=⟨aI.tk.trans h.tk,aI.gq.trans h.gq,aI.ty.trans h.ty,aI.hG.trans h.hG,aI.gC.trans h.gC,aI.hq.trans h.hq,aI.lvl.trans h.lvl,λaK ah=>aI.jy (by rw [h.lvl]; exact aK) (h.jy aK ah)⟩
theorem r7.tk {m m':fe}(h:r7 m m'):ow m m':=⟨by rw [h.g],by rw [h.gq],h.ty,h.hG,by rw [h.g],h.hq,h.jy,by rw [h.g]; exact λ_ h=>h⟩
theorem Grow.tk {m m' Di:fe}{k:Nat}(h:Grow m m' k) (aI:ow m' Di):Grow m Di k :=
 ⟨by rw [aI.gq,aI.tk]; exact h.gq,by rw [aI.tk]; exact h.lo,by rw [aI.tk]; exact h.hi,by rw [aI.ty]; exact h.ty,aI.hG.trans h.hG,aI.gC.trans h.gC,aI.hq.trans h.hq,aI.lvl.trans h.lvl,λaK ah=>aI.jy (by rw [h.lvl]; exact aK) (h.jy aK ah)⟩
theorem PS {α:Type}{l:List α}{i:Nat}{x y:α}(h:y∈l.set i x):y∈l\/y=x:=List.mem_or_eq_of_mem_set h
theorem t147 (m:fe) (d:Decl) (x:Sym) (aQ:m.eb.length=m.ba.br.length) (h:m.ba.br.length<=100000000000) (au:m.fx.length<=100000000000) (J:me x) :
  Tot (wa m d x) λm'=>Grow m m' 1:=by
 unfold wa;refine Tot.bN (λ_=>?_) (λ_=>?_)
 ·refine .aA (t152 m x.Name (by simp only [ef]; omega)) λk hk=>Tot.aA (Ξ:=λm'=>Grow m m' 1) ?_ λm' hm=>.al hm;refine Tot.bs (λ_=>?_) (λaK=>?_)
  ·refine .bK<|.al ⟨aQ,Nat.le_refl _,Nat.le_succ _,?_,rfl,rfl,rfl,rfl,λ_ h=>h⟩
   grind
  ·refine .aA (Ξ:=λ_=>True) (Tot.hs (by omega) (by omega) λ_ _ _=>trivial) λ_ _=>Tot.aA (Ξ:=λm'=>Grow m m' 1) ?_ λm' hm=>.al hm;exact Tot.bN (λ_=>.aA (t148 m _ _) λm' hm=>.al (hm.1.grow aQ 1)) (λ_=>.al ⟨aQ,Nat.le_refl _,Nat.le_succ _,Nat.le_succ _,rfl,rfl,rfl,rfl,λ_ h=>h⟩)
 ·refine .aA (t175 m x aQ h J) λr ⟨⟨hr,aK,h1⟩,_⟩=>?_;have hs:∀ {m':fe},ow r.2 m'->Tot (idx m'.ba.br r.1) λy=>y∈m'.ba.br:=λhm=>Tot.hs aK (by rw [hm.tk]; exact h1) λ_ _ h=>h;have PB:∀ {m':fe},ow r.2 m'->Tot (idx m'.eb r.1) λ_=>True:=λhm=>Tot.hs aK (by rw [hm.gq,hr.gq]; exact h1) λ_ _ _=>trivial;refine .aA (hs (.refl _)) λy _=>?_;refine Tot.aA (Ξ:=λm'=>ow r.2 m') ?_ λha pK=>?_
  ·refine Tot.bN (λ_=>?_) (λ_=>.al (.refl _));refine Tot.aA (Ξ:=λm'=>ow r.2 m') ?_ λfX xc=>?_
   ·exact Tot.bN (λ_=>.aA (t148 r.2 _ _) λm' hm=>.al ⟨rfl,hm.1.tk.gq,hm.1.tk.ty,hm.1.tk.hG,hm.1.tk.gC,hm.1.tk.hq,hm.1.tk.lvl,λ_ h=>h⟩) (λ_=>.al (.refl _))
   ·refine .aA (hs xc) λ_ _=>.al (xc.trans ⟨?_,rfl,rfl,rfl,rfl,rfl,rfl,λah au t bQ=>?_⟩)
    ·grind
    grind
  ·refine .aA (hs pK) λ_ _=>?_;refine Tot.aA (Ξ:=λm'=>ow r.2 m') ?_ λiM vt=>?_
   ·refine Tot.bN (λ_=>?_) (λ_=>.al pK);refine .aA (Ξ:=λ_=>True) ?_ λc _=>?_
    ·refine Tot.bN (λ_=>.al trivial) (λ_=>.aA (PB pK) λ_ _=>Tot.bN (λ_=>.al trivial) (λ_=>.aA (t176 ha _ ?_) λ_ _=>.al trivial));have:=pK.tk;have:=hr.hi
     grind
    ·refine Tot.aA (Ξ:=λm'=>ow r.2 m') ?_ λhY vu=>?_
     ·exact Tot.bN (λ_=>.aA (t148 ha _ _) λm' hm=>.al (pK.trans ⟨rfl,hm.1.tk.gq,hm.1.tk.ty,hm.1.tk.hG,hm.1.tk.gC,hm.1.tk.hq,hm.1.tk.lvl,λ_ h=>h⟩)) (λ_=>.al pK)
     ·refine .aA (hs vu) λy ao=>.aA (PB vu) λ_ _=>.al (vu.trans ⟨?_,?_,rfl,rfl,rfl,rfl,rfl,λah au t bQ=>?_⟩)
      all_goals grind
   ·refine .aA (hs vt) λ_ _=>?_;refine Tot.aA (Ξ:=λm'=>ow r.2 m') ?_ λpY N2=>.al (hr.tk N2);refine Tot.bN (λ_=>?_) (λ_=>.al vt);refine .aA (Ξ:=λ_=>True) (Tot.bN (λ_=>.al trivial) (λ_=>.al trivial)) λc _=>?_;refine Tot.aA (Ξ:=λm'=>ow r.2 m') ?_ λnH Fq=>?_
    ·exact Tot.bN (λ_=>.aA (t148 iM _ _) λm' hm=>.al (vt.trans ⟨rfl,hm.1.tk.gq,hm.1.tk.ty,hm.1.tk.hG,hm.1.tk.gC,hm.1.tk.hq,hm.1.tk.lvl,λ_ h=>h⟩)) (λ_=>.al vt)
    ·refine .aA (hs Fq) λy ao=>.al (Fq.trans ⟨?_,rfl,rfl,rfl,rfl,rfl,rfl,λah au t bQ=>?_⟩)
     ·grind
     grind
def wN (T:Nat) (N:Int) (s:Int):Prop:=(0<=s/\s<T)\/(1000<=s/\s<=1000+N)
theorem wN.mono {T T':Nat}{N kE s:Int}(h:wN T N s) (cV:T<=T') (bt:N<=kE):wN T' kE s:=by
 rcases h with h | h
 ·exact .inl (by omega)
 ·exact .inr (by omega)
theorem t177 (m:fe) (x:Sym) (aQ:m.eb.length=m.ba.br.length) (aF:3<=m.ba.br.length) (h:m.ba.br.length<=100000000000) (ah:m.dw.length<=100000000000) (J:me x) :
  Tot (tB m x) λr=>Grow m r.2 1/\wN r.2.ba.br.length m.dw.length r.1/\(r.2.eK=0->m.eK=0/\r.1≠0):=by
 unfold tB;have sl:Grow m m 1:=⟨aQ,Nat.le_refl _,Nat.le_succ _,Nat.le_succ _,rfl,rfl,rfl,rfl,λ_ h=>h⟩;refine Tot.bN (λ_=>?_) (λ_=>?_)
 ·exact .aA (t175 m x aQ h J) λr ⟨⟨hr,aK,h1⟩,he,aq⟩=>.al ⟨hr,.inl ⟨aK,h1⟩,λe=>⟨he e,by have:=aq (by omega); show r.1≠0; omega⟩⟩
 ·refine .aA (t150 m x.Name (by simp only [ef]; omega)) λk hk=>Tot.bs (λaK=>.al ⟨sl,.inr ?_,λe=>⟨e,?_⟩⟩) (λ_=>?_)
  ·grind [cC]
  ·show aG (1001+k)≠0;rcases hk with hk | hk
   ·rw [cC]; omega
   ·rw [cC]; omega
  ·refine .aA (t149 m x (by simp only [ef]; omega)) λt au=>Tot.bs (λ_=>?_) (λaK=>.al ⟨sl,.inl ?_,λe=>⟨e,by show t≠0; omega⟩⟩)
   ·refine .aA (t148 m _ _) λm' hm=>.al ⟨hm.1.grow aQ 1,.inl ⟨Int.le_refl 0,?_⟩,λe=>absurd e hm.2⟩;show (0:Int)<(m'.ba.br.length:Int);rw [hm.1.g];omega
   grind
end Go.Proofs
set_option linter.unusedSectionVars false
namespace Go.Proofs
open Go Go.Own
set_option maxRecDepth 100000
theorem abb (m:fe) (x:Sym) (aQ:m.eb.length=m.ba.br.length) (aF:3<=m.ba.br.length) (h:m.ba.br.length<=100000000000) (ah:m.dw.length<=100000000000) (J:me x) (au:x.Lit=true\/∀ y∈m.dw,y≠x.Name) :
  Tot (tB m x) λr=>Grow m r.2 1/\(0<=r.1/\r.1<r.2.ba.br.length)/\(r.2.eK=0->m.eK=0):=by
 unfold tB;have sl:Grow m m 1:=⟨aQ,Nat.le_refl _,Nat.le_succ _,Nat.le_succ _,rfl,rfl,rfl,rfl,λ_ h=>h⟩;refine Tot.bN (λ_=>?_) (λoE=>?_)
 ·exact .aA (t175 m x aQ h J) λr ⟨⟨hr,aK,h1⟩,he,_⟩=>.al ⟨hr,⟨aK,h1⟩,he⟩
 ·have au:∀ y∈m.dw,y≠x.Name:=au.resolve_left (by rw [oE]; decide);refine .aA (t150 m x.Name (by simp only [ef]; omega)) λk hk=>Tot.bs (λaK=>?_) (λ_=>?_)
  ·rcases hk with ⟨rfl,_⟩ | ⟨h1,af,aF⟩
   ·exact absurd aK (by decide)
   ·exact absurd rfl (au _ (List.mem_of_getElem? aF))
  ·refine .aA (t149 m x (by simp only [ef]; omega)) λt au=>Tot.bs (λ_=>?_) (λaK=>.al ⟨sl,?_,id⟩)
   ·refine .aA (t148 m _ _) λm' hm=>.al ⟨hm.1.grow aQ 1,⟨Int.le_refl 0,?_⟩,λe=>absurd e hm.2⟩;show (0:Int)<(m'.ba.br.length:Int);rw [hm.1.g]; omega
   ·show 0<=t/\t<(m.ba.br.length:Int);rcases au with au | au <;> omega
structure Bq (T:Nat) (N:Int) (p:Prod):Prop where
 left:0<=p.Left/\p.Left<=N
 right:∀ s∈p.dF,wN T N s
 prec:-1<=p.Prec/\p.Prec<T
theorem Bq.mono {T T':Nat}{N kE:Int}{p:Prod}(h:Bq T N p) (cV:T<=T') (bt:N<=kE):Bq T' kE p :=
 ⟨⟨h.left.1,by have:=h.left.2; omega⟩,λs ax=>(h.right s ax).mono cV bt,⟨h.prec.1,by have:=h.prec.2; omega⟩⟩
def ER (P:List Prod):Prop:=∀ p∈P,∀ s∈p.dF,s≠0
def zh (m:fe) (N s:Int):Prop:=wN m.ba.br.length N s/\(m.eK=0->s≠0)
structure lv (m:fe) (T L I Q:Nat):Prop where
 gq:m.eb.length=m.ba.br.length
 lo:3<=m.ba.br.length
 hi:m.ba.br.length<=T
 ty:m.fx.length<=T
 hG:m.dw.length=L
 hq:0<=m.dc/\m.dc<=I
 AZ:m.ba.bu.length<=Q
 gC:∀ p∈m.ba.bu,Bq m.ba.br.length (L+m.dc) p
 lvl:0<=m.fg
 jy:∀ t∈m.ba.br,0<=t.Level
 yx:m.eK=0->ER m.ba.bu
theorem lv.mono {m:fe}{T L I Q T' I' Mv:Nat}(h:lv m T L I Q) (cV:T<=T') (bf:I<=I') (eu:Q<=Mv):lv m T' L I' Mv :=
 ⟨h.gq,h.lo,by have:=h.hi; omega,by have:=h.ty; omega,h.hG,⟨h.hq.1,by have:=h.hq.2; omega⟩,by have:=h.AZ; omega,h.gC,h.lvl,h.jy,h.yx⟩
theorem lv.grow {m m':fe}{T L I Q k:Nat}(h:lv m T L I Q) (g:Grow m m' k) (Vx:m'.eK=0->m.eK=0):lv m' (T+k) L I Q :=
 ⟨g.gq,by have:=h.lo; have:=g.lo; omega,by have:=h.hi; have:=g.hi; omega,by have:=h.ty; have:=g.ty; omega,by rw [g.hG]; exact h.hG,by rw [g.hq]; exact h.hq,by rw [g.gC]; exact h.AZ,
  by rw [g.gC,g.hq]; exact λp aq=>(h.gC p aq).mono g.lo (by omega),by rw [g.lvl]; exact h.lvl,g.jy h.lvl h.jy,λe=>by rw [g.gC]; exact h.yx (Vx e)⟩
theorem Lr {P:List Prod}{p:Prod}(h:ER P) (aq:∀ s∈p.dF,s≠0):ER (P++[p]):=λq a_=>by
 rcases List.mem_append.1 a_ with a_ | a_
 ·exact h q a_
 ·rw [List.mem_singleton.1 a_]; exact aq
theorem t151 (m:fe) (left:ByteArray) (a:Alt) {T L I Q:Nat}(hm:lv m T L I Q) (cV:T<=10000000000) (fM:L<=10000000000) (bf:I<=10000000000) (eu:Q<=10000000000) (ar:Bb a) (c7:EE a) :
  Tot (wb m left a) λm'=>lv m' (T+1001) L (I+1000) (Q+1001)/\1<=m'.ba.bu.length:=by
 unfold wb;have aB:=ar.n;refine .aA (t150 m left (by rw [hm.hG]; simp only [ef]; omega)) λaS gK=>?_;have afn:-1<=aS/\aS<L:=by rw [<- hm.hG]; rcases gK with h | h <;> omega
 refine Tot.aA (Ξ:=λa8=>lv a8.1 (T+1000) L (I+1000) (Q+1000)/\(∀ s∈a8.2.1,zh a8.1 (L+a8.1.dc) s)/\a8.2.1.length<=1000) ?_ λa8 hg=>?_
 ·refine Tot.count (λs=>s.2.2.2.2) a.Parts.length (λs=>0<=s.2.2.2.2/\s.2.2.2.2<=a.Parts.length/\lv s.1 (T+s.2.2.2.2.toNat) L (I+s.2.2.2.2.toNat) (Q+s.2.2.2.2.toNat)/\(∀ y∈s.2.1,zh s.1 (L+s.1.dc) y)/\s.2.1.length<=s.2.2.2.2.toNat) ⟨by show (0:Int)<=0; omega,by show (0:Int)<=_; omega,hm,by simp,Nat.le_refl 0⟩ (by show (a.Parts.length:Int) - 0<_; omega) λs ax=>?_;obtain ⟨m1,rt,bN,at_,i⟩:=s;obtain ⟨aK,h1,ag,hr,ah⟩:=ax;simp only at aK h1 ag hr ah ⊢;have hw:aG (i+1)=i+1:=by rw [cC]; omega
  have ca:(i+1).toNat=i.toNat+1:=by omega
  refine Tot.bs (λaN=>?_) (λ_=>.al ⟨ag.mono (by omega) (by omega) (by omega),hr,by show rt.length<=1000; omega⟩);refine Tot.aA (Ξ:=λj=>lv j.1 (T+(i.toNat+1)) L (I+(i.toNat+1)) (Q+(i.toNat+1))/\(∀ y∈j.2.1,zh j.1 (L+j.1.dc) y)/\j.2.1.length<=i.toNat+1) ?_ λj JL=>?_
  ·refine Tot.aA (Tot.hs (Φ:=λy=>y∈a.Parts) aK aN λy _ ao=>ao) λy ao=>?_;refine Tot.aA (Ξ:=λj=>lv j.1 (T+(i.toNat+1)) L (I+(i.toNat+1)) (Q+(i.toNat+1))/\(∀ y∈j.2.1,zh j.1 (L+j.1.dc) y)/\j.2.1.length<=i.toNat+1) ?_ λj JM=>.al JM;refine Tot.aA (Ξ:=λj=>lv j.1 (T+(i.toNat+1)) L (I+(i.toNat+1)) (Q+(i.toNat+1))/\(∀ y∈j.2.1,zh j.1 (L+j.1.dc) y)/\j.2.1.length<=i.toNat+1) ?_ λj JM=>.al JM;refine Tot.bN (λ_=>?_) (λ_=>?_)
   ·have bQ:=ag.hi;refine .aA (t177 m1 y.Sym ag.gq ag.lo (by omega) (by rw [ag.hG]; omega) (c7.parts y ao)) λr ⟨aQ,O4,C4⟩=>?_;refine .bK<|.al ⟨(ag.grow aQ λe=>(C4 e).1).mono (by omega) (by omega) (by omega),λz aX=>?_,by simp; omega⟩;rcases List.mem_append.1 aX with aX | aX
    ·exact ⟨(hr z aX).1.mono aQ.lo (by show (L:Int)+m1.dc<=L+r.2.dc; rw [aQ.hq]; omega),λe=>(hr z aX).2 (C4 e).1⟩
    ·rw [List.mem_singleton.1 aX];rw [ag.hG] at O4;exact ⟨O4.mono (Nat.le_refl _) (by show (L:Int)<=L+r.2.dc; rw [aQ.hq]; have:=ag.hq.1; omega),λe=>(C4 e).2⟩
   ·refine Tot.aA (Ξ:=λj=>lv (⟨(⟨m1.ba.br,m1.ba.dE,j.1,m1.ba.hl,m1.ba.j7⟩:bD),m1.eb,m1.fx,m1.dw,m1.eK,m1.kn,m1.ko,m1.fg,j.2.1⟩:db) (T+(i.toNat+1)) L (I+(i.toNat+1)) (Q+(i.toNat+1))/\(∀ y∈j.2.2.1,zh m1 (L+j.2.1) y)/\j.2.2.1.length<=i.toNat+1) ?_ λj Xv=>.al Xv;refine Tot.bN (λ_=>.al ⟨⟨ag.gq,ag.lo,by have:=ag.hi; show m1.ba.br.length<=_; omega,by have:=ag.ty; show m1.fx.length<=_; omega,ag.hG,⟨ag.hq.1,by have:=ag.hq.2; show m1.dc<=_; omega⟩,by have:=ag.AZ; show m1.ba.bu.length<=_; omega,ag.gC,ag.lvl,ag.jy,ag.yx⟩,hr,by show rt.length<=_; omega⟩) (λ_=>?_);have zO:=ag.hq;have zS:=ag.hG;have sr:=ag.AZ;have ij:aG (m1.dc+1)=m1.dc+1:=by rw [cC]; omega
    have hz:aG (((m1.dw.length:Int))+(m1.dc+1))=L+(m1.dc+1):=by rw [cC,zS]; omega
    have L0:aG (1000+(m1.dw.length:Int))=1000+L:=by rw [cC,zS]; omega
    have L1:aG (1000+(L:Int)+(m1.dc+1))=1000+(L:Int)+(m1.dc+1):=by rw [cC]; omega
    rw [ij,hz,L0,L1];refine .bK<|.bK<|.bK<|.al ⟨⟨ag.gq,ag.lo,?_,?_,ag.hG,?_,?_,?_,ag.lvl,ag.jy,λe=>Lr (ag.yx e) λs h=>by cases h⟩,?_,?_⟩
    ·have:=ag.hi; show m1.ba.br.length<=_; omega
    ·have:=ag.ty; show m1.fx.length<=_; omega
    ·show 0<=m1.dc+1/\m1.dc+1<=((I+(i.toNat+1):Nat):Int); omega
    ·show (m1.ba.bu++[_]).length<=_; simp; omega
    ·intro p aq;rcases List.mem_append.1 aq with aq | aq
     ·exact (ag.gC p aq).mono (Nat.le_refl _) (by show (L:Int)+m1.dc<=L+(m1.dc+1); omega)
     ·rw [List.mem_singleton.1 aq];refine ⟨?_,by simp,?_⟩
      ·show 0<=(L:Int)+(m1.dc+1)/\(L:Int)+(m1.dc+1)<=L+(m1.dc+1); omega
      ·have:=ag.lo; show (-1:Int)<=-1/\(-1:Int)<(m1.ba.br.length:Int); omega
    ·intro z aX;rcases List.mem_append.1 aX with aX | aX
     ·exact ⟨(hr z aX).1.mono (Nat.le_refl _) (by show (L:Int)+m1.dc<=L+(m1.dc+1); omega),(hr z aX).2⟩
     ·rw [List.mem_singleton.1 aX];exact ⟨.inr (by show 1000<=1000+(L:Int)+(m1.dc+1)/\1000+(L:Int)+(m1.dc+1)<=1000+((L:Int)+(m1.dc+1)); omega),λ_=>by show 1000+(L:Int)+(m1.dc+1)≠0; omega⟩
    ·show (rt++[_]).length<=_; simp; omega
  ·rw [hw];refine .al ⟨⟨?_,?_,?_,JL.2.1,?_⟩,?_,?_⟩
   ·show (0:Int)<=i+1; omega
   ·show i+1<=(a.Parts.length:Int); omega
   ·show lv j.1 (T+(i+1).toNat) L (I+(i+1).toNat) (Q+(i+1).toNat);rw [ca]; exact JL.1
   ·show j.2.1.length<=(i+1).toNat;rw [ca]; exact JL.2.2
   ·show i<i+1; omega
   ·show i+1<=(a.Parts.length:Int); omega
 ·obtain ⟨ag,hr,ah⟩:=hg;have ml:=ag.lo;have zO:=ag.hq;refine Tot.aA (Ξ:=λp=>-1<=p/\p<(a8.1.ba.br.length:Int)) ?_ λgC FL=>?_
  ·refine Tot.count (λs=>s.2) a8.2.1.length (λs=>0<=s.2/\s.2<=a8.2.1.length/\-1<=s.1/\s.1<(a8.1.ba.br.length:Int)) ⟨by show (0:Int)<=0; omega,by show (0:Int)<=_; omega,by show (-1:Int)<=-1; omega,by show (-1:Int)<_; omega⟩ (by show (a8.2.1.length:Int) - 0<_; omega) λs ax=>?_;obtain ⟨aK,h1,af,aF⟩:=ax;have hw:aG (s.2+1)=s.2+1:=by rw [cC]; omega
   rw [hw];refine Tot.bs (λaN=>?_) (λ_=>.al ⟨af,aF⟩);refine Tot.aA (Ξ:=λp=>-1<=p/\p<(a8.1.ba.br.length:Int)) ?_ λp aq=>.al ⟨⟨?_,?_,aq.1,aq.2⟩,?_,?_⟩
   ·refine .aA (Tot.hs (Φ:=λy=>idx a8.2.1 s.2=some y/\y∈a8.2.1) aK aN λy h1 af=>⟨h1,af⟩) λy ao=>?_;refine .aA (Ξ:=λp=>-1<=p/\p<(a8.1.ba.br.length:Int)) ?_ λp aq=>.al aq;refine Tot.bs (λaN=>?_) (λ_=>.al ⟨af,aF⟩);rw [ao.1];refine Tot.aT (.al ?_);rcases (hr y ao.2).1 with h | h
    ·omega
    ·omega
   ·show (0:Int)<=s.2+1; omega
   ·show s.2+1<=(a8.2.1.length:Int); omega
   ·show s.2<s.2+1; omega
   ·show s.2+1<=(a8.2.1.length:Int); omega
  ·refine Tot.aA (Ξ:=λj=>Grow a8.1 j.1 1/\(-1<=j.2/\j.2<(j.1.ba.br.length:Int))/\(j.1.eK=0->a8.1.eK=0)) ?_ λj zP=>?_
   ·have sl:Grow a8.1 a8.1 1:=⟨ag.gq,Nat.le_refl _,Nat.le_succ _,Nat.le_succ _,rfl,rfl,rfl,rfl,λ_ h=>h⟩;refine Tot.bN (λ_=>?_) (λ_=>.al ⟨sl,FL,id⟩);refine Tot.aA (Ξ:=λc=>c=true->a.Prec.Lit=true\/∀ y∈a8.1.dw,y≠a.Prec.Name) ?_ λc aa=>?_
    ·refine Tot.bN (λh=>.al λ_=>.inl h) (λ_=>?_);refine .aA (t150 a8.1 a.Prec.Name (by rw [ag.hG]; simp only [ef]; omega)) λk hk=>.al λaN=>?_;have aN:=of_decide_eq_true aN;rcases hk with ⟨_,h⟩ | h
     ·exact .inr h
     ·omega
    ·refine Tot.aA (Ξ:=λj=>Grow a8.1 j.1 1/\(-1<=j.2/\j.2<(j.1.ba.br.length:Int))/\(j.1.eK=0->a8.1.eK=0)) ?_ λj ag=>.al ag;have bQ:=ag.hi;refine Tot.bN (λh=>?_) (λ_=>?_)
     ·refine .aA (abb a8.1 a.Prec ag.gq ag.lo (by omega) (by rw [ag.hG]; omega) c7.prec (aa h)) λr hr=>.al ⟨hr.1,⟨?_,hr.2.1.2⟩,hr.2.2⟩;have:=hr.2.1.1; show -1<=r.1; omega
     ·refine .aA (t148 a8.1 _ _) λm' hW=>.al ⟨hW.1.grow ag.gq 1,⟨by show (-1:Int)<=-1; omega,?_⟩,λe=>absurd e hW.2⟩;show (-1:Int)<(m'.ba.br.length:Int); omega
   ·have hW:=ag.grow zP.1 zP.2.2;have sr:=hW.AZ;refine .bK<|.bK<|.al ⟨⟨hW.gq,hW.lo,?_,?_,hW.hG,⟨hW.hq.1,?_⟩,?_,?_,hW.lvl,hW.jy,λe=>Lr (hW.yx e) λs ax=>(hr s ax).2 (zP.2.2 e)⟩,by simp⟩
    ·have:=hW.hi; show j.1.ba.br.length<=_; omega
    ·have:=hW.ty; show j.1.fx.length<=_; omega
    ·have:=hW.hq.2; show j.1.dc<=_; omega
    ·show (j.1.ba.bu++[_]).length<=_; simp; omega
    ·intro p aq;rcases List.mem_append.1 aq with aq | aq
     ·exact hW.gC p aq
     ·rw [List.mem_singleton.1 aq];have ae6:=hW.hq;refine ⟨?_,λz aX=>?_,zP.2.1⟩
      ·show 0<=aG (1+aS)/\aG (1+aS)<=(L:Int)+j.1.dc;rw [cC]; omega
      ·exact (hr z aX).1.mono zP.1.lo (by show (L:Int)+a8.1.dc<=L+j.1.dc; rw [zP.1.hq]; omega)
theorem LK (l:List Int):(strOfNums l).size=l.length:=strOfNums_size ..
theorem t153 (n:Int) (aK:0<=n) (h1:n<=1000000000000):Tot (DH n) λs=>s.size<=2000000000000:=by
 unfold DH;have hu:IntKind.u64.wrap n=n:=by rw [IntKind.wrap_u64]; omega
 refine Tot.aA (Ξ:=λj=>j=n) (Tot.bs (λh=>absurd h (by omega)) (λ_=>.al hu)) λj ag=>?_;subst ag;refine Tot.aA (Ξ:=λs=>s.size<=1000000000001) ?_ λs ax=>Tot.bs (λh=>absurd h (by omega)) (λ_=>.al (by omega));refine Tot.loop (λs=>0<=s.1/\s.1+s.2.size<=1000000000000+1/\(s.2.size=0->s.1<=1000000000000)) (λs=>s.1.toNat+(if s.2.size=0 then 1 else 0)) ⟨aK,by show j+((0:Nat):Int)<=_; omega,λ_=>h1⟩ (by show j.toNat+(if (0:Nat)=0 then 1 else 0)<1000000000000000000; simp; omega) λs ax=>?_
 obtain ⟨m,t⟩:=s;obtain ⟨g0,g1,g2⟩:=ax;simp only at g0 g1 g2 ⊢;refine Tot.aA (Ξ:=λc=>c=true->0<m\/t.size=0) ?_ λc aa=>Tot.bN (λkt=>?_) (λ_=>.al ?_)
 ·refine Tot.bs (λh=>.al λ_=>.inl h) (λ_=>.al λh=>.inr ?_);have:=of_decide_eq_true h;rw [this]; rfl
 ·have aa:=aa kt;refine .aA (Ξ:=λx=>x=m.tmod 10) (Tot.uY (by decide) rfl) λx J=>?_;refine .aA (Ξ:=λy=>y.size=t.size+1) (Tot.cat ?_ ?_) λy ao=>.aA (Ξ:=λz=>z=m / 10) (Tot.uU (by decide) ?_) λz aX=>.al ?_
  ·rw [LK]; simp; omega
  ·rw [ByteArray.size_append,LK]; simp; omega
  ·rw [Int.tdiv_eq_ediv_of_nonneg g0,IntKind.wrap_u64]; omega
  ·subst aX;refine ⟨⟨?_,?_,?_⟩,?_⟩
   ·show 0<=m / 10; omega
   ·show m / 10+(y.size:Int)<=_; rw [ao]; omega
   ·intro h; have h:y.size=0:=h; omega
   ·show (m / 10).toNat+(if y.size=0 then 1 else 0)<m.toNat+(if t.size=0 then 1 else 0);rw [if_neg (by omega)]
    split <;> omega
 ·show t.size<=1000000000001; omega
structure fZ (g:bD):Prop where
 lq:3<=g.br.length/\g.br.length<=40
 eZ:1<=g.dE.length/\g.dE.length<=24
 jA:1<=g.bu.length/\g.bu.length<=60
 gC:∀ p∈g.bu,Bq g.br.length (g.dE.length - 1) p
 aD:∀ p∈g.bu,p.dF.length<=8
 jy:∀ t∈g.br,0<=t.Level
 yx:ER g.bu
structure iF (m:fe) (T L:Nat):Prop where
 gq:m.eb.length=m.ba.br.length
 lo:3<=m.ba.br.length
 hi:m.ba.br.length<=3+T
 ty:m.fx.length<=T
 hG:m.dw.length<=L
 gC:m.ba.bu=[]
 hq:m.dc=0
 lvl:0<=m.fg
 jy:∀ t∈m.ba.br,0<=t.Level
theorem iF.mono {m:fe}{T L T' L':Nat}(h:iF m T L) (cV:T<=T') (fM:L<=L'):iF m T' L' :=
 ⟨h.gq,h.lo,by have:=h.hi; omega,by have:=h.ty; omega,by have:=h.hG; omega,h.gC,h.hq,h.lvl,h.jy⟩
theorem iF.grow {m m':fe}{T L k:Nat}(h:iF m T L) (g:Grow m m' k):iF m' (T+k) L :=
 ⟨g.gq,by have:=h.lo; have:=g.lo; omega,by have:=h.hi; have:=g.hi; omega,by have:=h.ty; have:=g.ty; omega,by rw [g.hG]; exact h.hG,g.gC.trans h.gC,g.hq.trans h.hq,by rw [g.lvl]; exact h.lvl,g.jy h.lvl h.jy⟩
theorem iF.same {m m':fe}{T L:Nat}(h:iF m T L) (g:r7 m m'):iF m' T L:=by
 have:=h.grow (g.grow h.gq 0);exact this
theorem t19 (a n:Int) (h:0<n) (aB:n<=9223372036854775807):Tot (rO a n) λr=>0<=r/\r<n:=by
 unfold rO;have h1:-n<a.tmod n:=by
  by_cases aJ:0<=a
  ·have:=Int.tmod_nonneg n aJ;omega
  ·have af:(-a).tmod n<n:=Int.tmod_lt_of_pos _ h;rw [Int.neg_tmod] at af;omega
 have af:a.tmod n<n:=Int.tmod_lt_of_pos a h;refine .aA (Ξ:=λx=>x=a.tmod n) (Tot.rem (by omega) rfl) λx J=>?_;subst J;refine Tot.aA (Ξ:=λr=>0<=r/\r<n) (Tot.bs (λaF=>.al ?_) (λaF=>.al (by omega))) λr hr=>.al hr
 grind [cC]
theorem t33 (k:Int) (h:0<=k):Tot (wi k) λx=>x.Name.size=1/\x.Lit=true/\x.cf=0:=by
 unfold wi;refine .aA (Ξ:=λx=>x.size=4) (.al rfl) λaS h1=>.aA (Ξ:=λr=>r=k.tmod 4) (Tot.rem (by decide) rfl) λx2 af=>.aA (Ξ:=λr=>r=k.tmod 4) (Tot.rem (by decide) rfl) λa8 aF=>?_;subst af aF;have e:k.tmod 4=k % 4:=Int.tmod_eq_emod_of_nonneg h;rw [e];have hw:aG (k % 4+1)=k % 4+1:=by rw [cC]; omega
 rw [hw];refine .aA (Ξ:=λx=>x.size=1) (Tot.cut (by rw [h1]; omega) ?_) λbk bh=>.al ⟨bh,rfl,rfl⟩
 grind [UU]
theorem t31 (k:Int):Tot (AM k) λx=>x.size=1:=by
 unfold AM;exact .al (by rw [LK]; rfl)
theorem t32 (k n:Int) (h:0<n) (aB:n<=100):Tot (DP k n) λx=>x.Name.size<=5:=by
 unfold DP;refine .aA (t19 k 14 (by decide) (by decide)) λaS h1=>Tot.bs (λb7=>?_) (λb7=>Tot.bN (λ_=>.al ?_) (λ_=>?_))
 ·refine .aA (Ξ:=λ_=>True) (Tot.rem (by omega) trivial) λa8 _=>.aA (t31 a8) λbk bh=>.al ?_
  grind
 ·show (5:Nat)<=5;omega
 ·refine .aA (t33 _ ?_) λx J=>.al (by omega)
  grind [cC]
structure Bf (n:Nat) (d:Decl):Prop where
 tag:d.Tag.size=0
 n:d.ff.length<=n
 syms:∀ x∈d.ff,x.Name.size<=ef
theorem t30 (l:List Int):Tot (AL l) λr=>r.length<=4/\∀ d∈r,Bf 10 d:=by
 unfold AL;refine Tot.aA (Ξ:=λr=>r.length<=4/\∀ d∈r,Bf 10 d) ?_ λr hr=>.al hr;refine Tot.count (λs=>s.2) 4 (λs=>0<=s.2/\s.2<=4/\s.1.length<=s.2.toNat/\∀ d∈s.1,Bf (1+s.2.toNat) d) ⟨Int.le_refl 0,by decide,Nat.le_refl 0,λd aR=>absurd aR (by simp)⟩ (by decide) λs ax=>?_;obtain ⟨r,i⟩:=s;obtain ⟨aK,bh,ah,aR⟩:=ax;simp only at aK bh ah aR ⊢;have hw:aG (i+1)=i+1:=by rw [cC]; omega
 rw [hw];refine .aA (Ξ:=λc=>c=true->i<l.length/\i<4) (Tot.bs (λh=>.al λaf=>⟨h,of_decide_eq_true af⟩) (λ_=>.al λh=>by cases h)) λc aa=>Tot.bN (λkt=>?_) (λ_=>.al ⟨by omega,λd lh=>⟨(aR d lh).tag,by have:=(aR d lh).n; omega,(aR d lh).syms⟩⟩);obtain ⟨hi,ae2⟩:=aa kt;refine Tot.aA (Ξ:=λj=>j.length<=i.toNat+1/\∀ d∈j,Bf (1+(i.toNat+1)) d) ?_ λj ag=>.al ⟨⟨?_,?_,?_,?_⟩,?_,?_⟩
 ·refine .aA (Tot.hs (Φ:=λ_=>True) aK hi λ_ _ _=>trivial) λbL _=>.aA (t19 bL 8 (by decide) (by decide)) λcw B3=>.aA (Ξ:=λ_=>True) (Tot.rem (by decide) trivial) λch _=>?_;have o7:∀ d∈r,Bf (1+(i.toNat+1)) d:=λd lh=>⟨(aR d lh).tag,by have:=(aR d lh).n; omega,(aR d lh).syms⟩;refine Tot.bN (λ_=>.al ⟨by omega,o7⟩) (λ_=>?_);refine .aA (Ξ:=λc=>c=true->0<(r.length:Int)) (Tot.bN (λ_=>.al λh=>of_decide_eq_true h) (λ_=>.al λh=>by cases h)) λc aa=>Tot.bN (λqy=>?_) (λ_=>?_)
  ·have pU:=aa qy;have Yi:aG ((r.length:Int) - 1)=(r.length:Int) - 1:=by rw [cC]; omega
   rw [Yi];refine .aA (Tot.hs (Φ:=λy=>y∈r) (by omega) (by omega) λ_ _ h=>h) λd lh=>.aA (t33 i aK) λx J=>.aA (Ξ:=λ_=>True) (Tot.ap (by have:=(aR d lh).n; simp [lim]; omega) trivial) λ_ _=>.al ⟨by simp; omega,λNl zL=>?_⟩;rcases PS zL with h | rfl
   ·grind
   ·refine ⟨(aR d lh).tag,?_,λy ao=>?_⟩
    ·have:=(aR d lh).n
     grind
    ·rcases List.mem_append.1 ao with ao | ao
     ·exact (aR d lh).syms y ao
     grind
  ·refine .aA (Ξ:=λ_=>True) (Tot.rem (by decide) trivial) λdM _=>.aA (t33 i aK) λx J=>.bK<|.al ⟨by simp; omega,λNl zL=>?_⟩;rcases List.mem_append.1 zL with h | h
   ·grind
   ·rw [List.mem_singleton.1 h];refine ⟨rfl,by show 1<=_; omega,λy ao=>?_⟩
    grind
 all_goals grind
structure mJ (n:Nat) (r:fK):Prop where
 left:r.Left.size<=ef
 n:r.gi.length<=n
 alts:∀ a∈r.gi,Bb a
theorem mJ.mono {n m:Nat}{r:fK}(h:mJ n r) (hm:n<=m):mJ m r:=⟨h.left,Nat.le_trans h.n hm,h.alts⟩
theorem mJ.add {n:Nat}{r:fK}{a:Alt}(h:mJ n r) (aJ:Bb a):mJ (n+1) (⟨r.Left,r.gi++[a],r.At⟩:fK):=by
 refine ⟨h.left,by have:=h.n; show (r.gi++[a]).length<=_; simp; omega,λb ar=>?_⟩;rcases List.mem_append.1 ar with ar | ar
 ·exact h.alts b ar
 grind
theorem MI {l:List fK}{i n:Nat}{r:fK}(h:∀ x∈l,mJ n x) (hr:mJ n r):∀ x∈l.set i r,mJ n x:=by grind
theorem t10 (x:qZ):Tot (Av x) ve:=by
 unfold Av;refine .aA (t19 x.dE 4 (by decide) (by decide)) λaS h1=>.aA (t30 x.wJ) λx2 af=>?_;have Kj:aG (1+aS)=1+aS:=by rw [cC]; omega
 rw [Kj];refine .aA (Ξ:=λl=>l=List.replicate (1+aS).toNat false) (Tot.mk (by simp [lim]; omega) rfl) λa8 aF=>?_;have aeu:a8.length=(1+aS).toNat:=by rw [aF]; simp
 refine Tot.aA (Ξ:=λl=>(l.length:Int)=1+aS/\∀ r∈l,mJ 0 r) ?_ λbV b7=>?_
 ·refine Tot.count (λs=>s.2) (1+aS) (λs=>0<=s.2/\s.2<=1+aS/\(s.1.length:Int)=s.2/\∀ r∈s.1,mJ 0 r) ⟨Int.le_refl 0,by show 0<=1+aS; omega,rfl,λd aR=>absurd aR (by simp)⟩ (by show 1+aS - 0<_; omega) λs ax=>?_;obtain ⟨l,i⟩:=s;obtain ⟨g0,g1,ah,bI⟩:=ax;simp only at g0 g1 ah bI ⊢;have hw:aG (i+1)=i+1:=by rw [cC]; omega
  rw [hw];refine Tot.bs (λaN=>?_) (λ_=>.al ⟨by omega,bI⟩);refine .aA (t31 i) λbL xd=>.bK<|.al ⟨⟨?_,?_,?_,λr hr=>?_⟩,?_,?_⟩
  ·grind
  ·grind
  ·grind
  ·rcases List.mem_append.1 hr with hr | hr
   ·grind
   ·rw [List.mem_singleton.1 hr];exact ⟨by show bL.size<=_; rw [xd]; decide,Nat.le_refl 0,λa aJ=>absurd aJ (by simp)⟩
  ·grind
  grind
 refine Tot.aA (Ξ:=λr=>(r.1.length:Int)=1+aS/\(r.2.length:Int)=1+aS/\∀ y∈r.1,mJ 9 y) ?_ λaY B1=>?_
 ·refine Tot.count (λs=>s.2.2) 9 (λs=>0<=s.2.2/\s.2.2<=9/\(s.1.length:Int)=1+aS/\(s.2.1.length:Int)=1+aS/\∀ y∈s.1,mJ s.2.2.toNat y) ⟨Int.le_refl 0,by show (0:Int)<=9; decide,b7.1,by show (a8.length:Int)=_; omega,b7.2⟩ (by show (9:Int) - 0<_; decide) λs ax=>?_;obtain ⟨l,ar,i⟩:=s;obtain ⟨g0,g1,ah,JJ,bI⟩:=ax;simp only at g0 g1 ah JJ bI ⊢;have hw:aG (i+1)=i+1:=by rw [cC]; omega
  rw [hw];refine .aA (Ξ:=λc=>c=true->i<x.eP.length/\i<9) (Tot.bs (λh=>.al λaf=>⟨h,of_decide_eq_true af⟩) (λ_=>.al λh=>by cases h)) λc aa=>Tot.bN (λkt=>?_) (λ_=>.al ⟨ah,JJ,λy ao=>(bI y ao).mono (by omega)⟩);obtain ⟨hi,ae3⟩:=aa kt;have pR:i.toNat<x.eP.length:=by omega
  have Cu:idx x.eP i=some x.eP[i.toNat]:=by simp [idx,g0,pR]
  rw [Cu];generalize x.eP[i.toNat]=d;have B8:∀ y∈l,mJ (i.toNat+1) y:=λy ao=>(bI y ao).mono (by omega);refine Tot.aA (Ξ:=λj=>(j.1.length:Int)=1+aS/\(j.2.length:Int)=1+aS/\∀ y∈j.1,mJ (i.toNat+1) y) ?_ λj ag=>.al ⟨⟨?_,?_,ag.1,ag.2.1,?_⟩,?_,?_⟩
  ·refine Tot.aT (Tot.bs (λ_=>.al ⟨ah,JJ,B8⟩) (λcQ=>Tot.aT ?_));refine .aA (Tot.hs (Φ:=λ_=>True) (by decide) (by omega) λ_ _ _=>trivial) λeN _=>.aA (t19 eN (1+aS) (by omega) (by omega)) λfR N1=>?_;have oz:∀ c:ByteArray,c.size<=ef->((⟨(⟨⟨#[]⟩,false,0,0⟩:Sym),c,0⟩:Part).Sym.Name.size<=ef/\(⟨(⟨⟨#[]⟩,false,0,0⟩:Sym),c,0⟩:Part).Code.size<=ef):=λc aa=>⟨by show 0<=_; exact Nat.zero_le _,aa⟩;refine Tot.aA (Ξ:=λr=>r.1.length<=10/\∀ p∈r.1,p.Sym.Name.size<=ef/\p.Code.size<=ef) ?_ λfF VM=>?_
   ·refine Tot.count (λs=>s.2.2) 5 (λs=>1<=s.2.2/\s.2.2<=5/\(s.1.length:Int)<=2 * (s.2.2 - 1)/\∀ p∈s.1,p.Sym.Name.size<=ef/\p.Code.size<=ef) ⟨Int.le_refl 1,by decide,by decide,λp aq=>absurd aq (by simp)⟩ (by decide) λs ax=>?_;obtain ⟨ps,pl,k⟩:=s;obtain ⟨k0,tv,Y0,PD⟩:=ax;simp only at k0 tv Y0 PD ⊢;have sx:aG (k+1)=k+1:=by rw [cC]; omega
    rw [sx];refine .aA (Ξ:=λc=>c=true->k<d.length/\k<5) (Tot.aT (Tot.bs (λh=>.al λaf=>⟨h,of_decide_eq_true af⟩) (λ_=>.al λh=>by cases h))) λc aa=>Tot.bN (λkt=>?_) (λ_=>.al ⟨by show ps.length<=10; omega,PD⟩);obtain ⟨hk,ae8⟩:=aa kt;refine Tot.aA (Ξ:=λj=>(j.1.length:Int)<=2 * k/\∀ p∈j.1,p.Sym.Name.size<=ef/\p.Code.size<=ef) ?_ λj ag=>.al ⟨⟨?_,?_,?_,ag.2⟩,?_,?_⟩
    ·refine Tot.aT (.aA (Tot.hs (Φ:=λ_=>True) (by omega) hk λ_ _ _=>trivial) λoT _=>.aA (t32 oT (1+aS) (by omega) (by omega)) λcZ N2=>?_);refine .aA (Ξ:=λ_=>True) (Tot.bN (λ_=>Tot.bN (λ_=>.al trivial) (λ_=>.al trivial)) (λ_=>.al trivial)) λ_ _=>.bK<|?_;have a_:∀ p∈ps++[(⟨cZ,⟨#[]⟩,0⟩:Part)],p.Sym.Name.size<=ef/\p.Code.size<=ef:=λp aq=>by
      grind
     refine .aA (Ξ:=λ_=>True) ?_ λNc _=>?_
     ·refine Tot.bs (λh=>Tot.bN (λ_=>.aA (Tot.hs (Φ:=λ_=>True) g0 h λ_ _ _=>trivial) λ_ _=>.aA (Ξ:=λ_=>True) (Tot.rem (by decide) trivial) λ_ _=>.al trivial) (λ_=>.al trivial)) (λ_=>.al trivial)
     ·refine Tot.aA (Ξ:=λl=>(l.length:Int)<=2 * k/\∀ p∈l,p.Sym.Name.size<=ef/\p.Code.size<=ef) ?_ λj ag=>.al ag;refine Tot.bN (λ_=>?_) (λ_=>.al ⟨by simp; omega,a_⟩);refine .bK<|.al ⟨by simp; omega,λp aq=>?_⟩;rcases List.mem_append.1 aq with aq | aq
      ·grind
      ·rw [List.mem_singleton.1 aq];exact oz _ (by decide)
    all_goals grind
   ·refine .aA (Ξ:=λ_=>True) (Tot.bs (λh=>.aA (Tot.hs (Φ:=λ_=>True) g0 h λ_ _ _=>trivial) λ_ _=>.aA (Ξ:=λ_=>True) (Tot.rem (by decide) trivial) λ_ _=>.al trivial) (λ_=>.al trivial)) λacr _=>?_;refine Tot.aA (Ξ:=λl=>l.length<=20/\∀ p∈l,p.Sym.Name.size<=ef/\p.Code.size<=ef) ?_ λpd VQ=>?_
    ·refine Tot.bN (λ_=>?_) (λ_=>.al ⟨by omega,VM.2⟩);refine .bK<|.al ⟨by simp; omega,λp aq=>?_⟩;rcases List.mem_append.1 aq with aq | aq
     ·grind
     ·rw [List.mem_singleton.1 aq];exact oz _ (by decide)
    ·refine Tot.aA (Ξ:=λl=>(l.length:Int)=1+aS) ?_ λM9 VS=>?_
     ·refine .aA (Tot.hs (Φ:=λ_=>True) N1.1 (by omega) λ_ _ _=>trivial) λ_ _=>Tot.bN (λ_=>.al (by simp; omega)) (λ_=>.al (by simp; omega))
     ·refine .aA (Tot.hs (Φ:=λy=>y∈l) N1.1 (by omega) λ_ _ h=>h) λmA VT=>?_;have rB:=bI mA VT;refine .aA (Ξ:=λ_=>True) (Tot.ap (by have:=rB.n; simp [lim]; omega) trivial) λ_ _=>.al ⟨by show ((l.set _ _).length:Int)=_; simp; omega,VS,MI B8 (rB.add ⟨by show pd.length<=_; omega,VQ.2,Nat.zero_le _⟩)⟩
  all_goals grind
 refine Tot.aA (Ξ:=λl=>(l.length:Int)=1+aS/\∀ y∈l,mJ 20 y) ?_ λwD VV=>.al ⟨Nat.zero_le _,?_,λd aR=>?_,?_,λr hr=>?_⟩
 ·refine Tot.count (λs=>s.2) (1+aS) (λs=>0<=s.2/\s.2<=1+aS/\(s.1.length:Int)=1+aS/\∀ y∈s.1,mJ (9+s.2.toNat) y) ⟨Int.le_refl 0,by show 0<=1+aS; omega,B1.1,B1.2.2⟩ (by show 1+aS - 0<_; omega) λs ax=>?_;obtain ⟨l,i⟩:=s;obtain ⟨g0,g1,ah,bI⟩:=ax;simp only at g0 g1 ah bI ⊢;have hw:aG (i+1)=i+1:=by rw [cC]; omega
  rw [hw];refine Tot.bs (λaN=>?_) (λ_=>.al ⟨ah,λy ao=>(bI y ao).mono (by omega)⟩);refine Tot.aA (Ξ:=λl=>(l.length:Int)=1+aS/\∀ y∈l,mJ (9+i.toNat+1) y) ?_ λj ag=>.al ⟨⟨?_,?_,ag.1,?_⟩,?_,?_⟩
  ·refine .aA (Ξ:=λ_=>True) ?_ λacs _=>?_
   ·refine .aA (Tot.hs (Φ:=λ_=>True) g0 (by omega) λ_ _ _=>trivial) λwE _=>Tot.bN (λ_=>.al trivial) (λ_=>.aA (Tot.hs (Φ:=λ_=>True) g0 (by omega) λ_ _ _=>trivial) λ_ _=>Tot.bN (λ_=>.al trivial) (λ_=>.al trivial))
   ·refine Tot.aA (Ξ:=λl=>(l.length:Int)=1+aS/\∀ y∈l,mJ (9+i.toNat+1) y) ?_ λj ag=>.al ag;refine Tot.bN (λ_=>?_) (λ_=>.al ⟨ah,λy ao=>(bI y ao).mono (by omega)⟩);refine .aA (Tot.hs (Φ:=λy=>y∈l) g0 (by omega) λ_ _ h=>h) λkU Ft=>.aA (t33 i g0) λkV aeB=>?_;have J:=bI kU Ft;refine .aA (Ξ:=λ_=>True) (Tot.ap (by have:=J.n; simp [lim]; omega) trivial) λ_ _=>.al ⟨by simp; omega,MI (λy ao=>(bI y ao).mono (by omega)) (J.add ⟨by show 1<=_; omega,λp aq=>?_,Nat.zero_le _⟩)⟩;have aq:p∈[(⟨kV,⟨#[]⟩,0⟩:Part)]:=aq;rw [List.mem_singleton.1 aq];exact ⟨by show kV.Name.size<=1000000000000; omega,Nat.zero_le _⟩
  all_goals grind
 ·grind
 ·have:=af.2 d aR;exact ⟨by rw [this.tag]; exact Nat.zero_le _,by have:=this.n; omega,this.syms⟩
 ·grind
 ·have:=VV.2 r hr;exact ⟨this.left,by have:=this.n; omega,this.alts⟩
end Go.Proofs
namespace Go.Own
open Go Go.Sort
variable [cG]
variable {α:Type} [DecidableEq α]
structure Ord (lt:α->α->Bool):Prop where
 swo:SWO lt
 jB:∀ x y,lt x y=false->lt y x=false->x=y
def fc (lt:α->α->Bool) (l:List α):Prop:=l.Pairwise λa b=>lt a b=true
omit [DecidableEq α] in
theorem fc.nd {lt:α->α->Bool}(h:Ord lt) {l:List α}(ah:fc lt l):l.Nodup:=ah.imp λ{a b} Cf e=>by
 subst e;rw [h.swo.irrefl] at Cf; cases Cf
omit [DecidableEq α] in
theorem fc.uniq {lt:α->α->Bool}(h:Ord lt) {l m:List α}(ah:fc lt l) (hm:fc lt m) (he:∀ x,x∈l↔x∈m):l=m :=
 List.Perm.eq_of_pairwise (le:=λa b=>lt a b=true) (λa b _ _ h1 af=>by have:=h.swo.trans _ _ _ h1 af; rw [h.swo.irrefl] at this; cases this) ah hm ((List.perm_ext_iff_of_nodup (ah.nd h) (hm.nd h)).2 he)
omit [DecidableEq α] in
theorem Ai {l m:List α}(aR:l.Nodup) (hm:∀ x∈l,x∈m):l.length<=m.length:=by
 classical
 induction l generalizing m with
 | nil=>exact Nat.zero_le _
 | cons x l aM =>
  have J:=hm x (by simp);have o7:=List.nodup_cons.1 aR;have:=aM (m:=m.erase x) o7.2 λy ao=>(List.mem_erase_of_ne (λe=>o7.1 (by rw [<- e]; exact ao))).2 (hm y (by simp [ao]));have ah:=List.length_erase_of_mem J;have aq:=List.length_pos_of_mem J;simp only [List.length_cons];omega
theorem aaZ {lt:α->α->Bool}(h:Ord lt) {fC:α->α->Option Int}{l:List α}(aa:∀ a∈l,∀ b∈l,∃ v,fC a b=some v/\(v<0↔lt a b=true)) (aB:l.length<4611686018427387904):p7 fC l=some (h_ (kN fC) l)/\∀ a∈l,∀ b∈l,kN fC a b=lt a b:=by
 have aN:∀ a∈l,∀ b∈l,kN fC a b=lt a b:=by
  intro a aJ b ar;obtain ⟨v,hv,h⟩:=aa a aJ b ar;unfold kN;simp only [hv,Option.getD_some];cases hk:lt a b with
  | true=>exact decide_eq_true (h.2 hk)
  | false=>exact decide_eq_false λbQ=>by rw [h.1 bQ] at hk; cases hk
 refine ⟨?_,aN⟩;unfold p7;rw [if_pos];simp only [Bool.and_eq_true,decide_eq_true_eq,List.all_eq_true];refine ⟨⟨λa aJ b ar=>?_,?_⟩,aB⟩
 ·obtain ⟨v,hv,_⟩:=aa a aJ b ar;rw [hv]; rfl
 ·unfold Aq;simp only [List.all_eq_true,Bool.and_eq_true,Bool.or_eq_true,Bool.not_eq_true',decide_eq_true_eq];intro a aJ;refine ⟨by rw [aN a aJ a aJ]; exact h.swo.irrefl a,λb ar=>⟨?_,λc aa=>⟨?_,?_⟩⟩⟩
  ·rw [aN a aJ b ar,aN b ar a aJ];cases h1:lt a b with
   | true=>exact .inl (.inl rfl)
   | false =>
    cases af:lt b a with
    | true=>exact .inl (.inr rfl)
    | false=>exact .inr (h.jB _ _ h1 af)
  ·rw [aN a aJ b ar,aN b ar c aa,aN a aJ c aa];cases h1:lt a b with
   | false=>exact .inl rfl
   | true =>
    cases af:lt b c with
    | false=>exact .inl rfl
    | true=>exact .inr (h.swo.trans _ _ _ h1 af)
  ·rw [aN a aJ b ar,aN b ar c aa,aN a aJ c aa];cases h1:lt a b with
   | true=>exact .inl (.inl rfl)
   | false =>
    cases af:lt b c with
    | true=>exact .inl (.inr rfl)
    | false=>exact .inr (h.swo.ntrans _ _ _ h1 af)
omit [DecidableEq α] in
theorem Po {lt lt':α->α->Bool}(x:α):∀ l:List α,(∀ y∈l,lt y x=lt' y x)->ins lt x l=ins lt' x l
 | [],_=>rfl
 | y::l,h=>by
  simp only [ins,h y (by simp)];rw [Po x l λz aX=>h z (by simp [aX])]
omit [DecidableEq α] in
theorem Pw {lt lt':α->α->Bool}:∀ l:List α,(∀ a∈l,∀ b∈l,lt a b=lt' a b)->h_ lt l=h_ lt' l
 | [],_=>rfl
 | x::l,h=>by
  simp only [h_];rw [Pw l λa aJ b ar=>h a (by simp [aJ]) b (by simp [ar])];exact Po x _ λy ao=>h y (by simp [(tu lt' l).mem_iff.1 ao]) x (by simp)
theorem aaY {lt:α->α->Bool}(h:Ord lt) {fC:α->α->Option Int}{l:List α}(aa:∀ a∈l,∀ b∈l,∃ v,fC a b=some v/\(v<0↔lt a b=true)) (aB:l.length<4611686018427387904):p7 fC l=some (h_ lt l):=by
 obtain ⟨h1,af⟩:=aaZ h aa aB;rw [h1,Pw l af]
end Go.Own
namespace Go.Proofs
open Go Go.Own Go.Sort
set_option maxRecDepth 100000
def gO (a b:Item):Bool:=decide (a.Prod<b.Prod\/(a.Prod=b.Prod/\a.ec<b.ec))
theorem KW {a b:Item}:gO a b=true↔(a.Prod<b.Prod\/(a.Prod=b.Prod/\a.ec<b.ec)):=by simp [gO]
theorem Dh {a b:Item}:gO a b=false↔¬ (a.Prod<b.Prod\/(a.Prod=b.Prod/\a.ec<b.ec)):=by simp [gO]
theorem vZ:Ord gO where
 swo:=⟨λx=>by rw [Dh]; omega,λx y z h1 af=>by rw [KW] at *; omega,λx y z h1 af=>by rw [Dh] at *; omega⟩
 jB x y h1 af:=by
  rw [Dh] at h1 af;obtain ⟨aS,x2⟩:=x;obtain ⟨bz,y2⟩:=y;simp only at h1 af;have:aS=bz:=by omega
  have:x2=y2:=by omega
  subst_vars; rfl
def iL (g:bD) (x:Item):Prop:=∃ q,idx g.bu x.Prod=some q/\0<=x.ec/\x.ec<=q.dF.length
def gz (g:bD) (x:Item):Int:=match idx g.bu x.Prod with
 | some q=>(idx q.dF x.ec).getD (-1)
 | none=>-1
theorem kM {α:Type}{l:List α}{i:Int}{y:α}(h:idx l i=some y):0<=i/\i<l.length/\y∈l:=by
 unfold idx at h
 split at h
 ·rename_i aK;obtain ⟨h1,af⟩:=List.getElem?_eq_some_iff.1 h;exact ⟨aK,by omega,List.mem_of_getElem? h⟩
 ·cases h
theorem Ky {α:Type}{l:List α}{i:Int}(h:i<0\/(l.length:Int)<=i):idx l i=none:=by
 unfold idx;split
 ·exact List.getElem?_eq_none (by omega)
 ·rfl
theorem nG {α:Type}{l:List α}{i:Int}(aK:0<=i) (h1:i<l.length):∃ y,idx l i=some y/\y∈l:=by
 have aN:i.toNat<l.length:=by omega
 exact ⟨l[i.toNat],by simp [idx,aK,aN],List.getElem_mem aN⟩
theorem dR {α:Type}{l:List α}{k:Nat}(h:k<l.length):idx l (k:Int)=some l[k]:=by simp [idx,h]
theorem Ns (g:bD) (x:Item):∃ c,AD g x=some c/\(c=true↔iL g x):=by
 unfold AD;by_cases aK:0<=x.Prod
 ·by_cases h1:x.Prod<g.bu.length
  ·obtain ⟨q,a_,_⟩:=nG aK h1;by_cases af:0<=x.ec
   ·refine ⟨decide (x.ec<=(q.dF.length:Int)),by simp [aK,h1,af,a_],?_⟩;rw [decide_eq_true_eq];exact ⟨λh=>⟨q,a_,af,h⟩,λ⟨fB,zW,_,h⟩=>by rw [a_] at zW; cases zW; exact h⟩
   ·exact ⟨false,by simp [aK,h1,af],λh=>(by cases h),λ⟨_,_,h,_⟩=>absurd h af⟩
  ·exact ⟨false,by simp [aK,h1],λh=>(by cases h),λ⟨_,h,_⟩=>absurd (kM h).2.1 h1⟩
 ·exact ⟨false,by simp [aK],λh=>(by cases h),λ⟨_,h,_⟩=>absurd (kM h).1 aK⟩
theorem ID (g:bD) (x:Item):yf g x=some (gz g x):=by
 unfold yf gz;obtain ⟨c,aa,hi⟩:=Ns g x;rw [aa];simp only [Option.bind_some];cases c with
 | false =>
  have aB:¬ iL g x:=λh=>by have:=hi.2 h; cases this
  simp only [Bool.not_false,cond_true,Option.bind_some];cases a_:idx g.bu x.Prod with
  | none=>rfl
  | some q =>
   have:idx q.dF x.ec=none:=Ky (by
    by_cases aK:0<=x.ec
    ·right;by_cases h1:x.ec<=q.dF.length
     ·exact absurd ⟨q,a_,aK,h1⟩ aB
     ·omega
    ·left; omega)
   simp [this]
 | true =>
  obtain ⟨q,a_,aK,h1⟩:=hi.1 rfl;simp only [Bool.not_true,cond_false,a_,Option.bind_some];by_cases he:x.ec=q.dF.length
  ·rw [Ky (.inr (by omega))];simp [he]
  ·obtain ⟨s,ax,_⟩:=nG (l:=q.dF) (i:=x.ec) aK (by omega);simp [he,ax]
theorem K' {g:bD}(aQ:fZ g) {x:Item}(h:0<=gz g x):iL g x/\wN g.br.length (g.dE.length - 1) (gz g x)/\∃ q,idx g.bu x.Prod=some q/\idx q.dF x.ec=some (gz g x):=by
 cases a_:idx g.bu x.Prod with
 | none =>
  have:gz g x=-1:=by unfold gz; rw [a_]
  rw [this] at h; exact absurd h (by decide)
 | some q =>
  cases ax:idx q.dF x.ec with
  | none =>
   have:gz g x=-1:=by unfold gz; rw [a_]; simp [ax]
   rw [this] at h; exact absurd h (by decide)
  | some s =>
   have e:gz g x=s:=by unfold gz; rw [a_]; simp [ax]
   rw [e];obtain ⟨aK,h1,hm⟩:=kM ax;exact ⟨⟨q,a_,aK,by omega⟩,(aQ.gC q (kM a_).2.2).right s hm,q,rfl,ax⟩
inductive mb (g:bD) (l:List Item):Item->Prop
 | base {x:Item}(h:x∈l) (hi:iL g x):mb g l x
 | step {x:Item}{q:Prod}{p:Nat}(h:mb g l x) (aq:g.bu[p]?=some q) (aB:gz g x=1000+q.Left) (aK:1000<=gz g x):mb g l ⟨p,0⟩
theorem Pu {g:bD}{p:Nat}{q:Prod}(aq:g.bu[p]?=some q):iL g ⟨p,0⟩:=⟨q,by simp [idx,aq],Int.le_refl _,by show (0:Int)<=_; omega⟩
theorem mb.iL {g:bD}{l:List Item}{x:Item}(h:mb g l x):iL g x:=by
 cases h with
 | base _ hi=>exact hi
 | step _ aq _ _=>exact Pu aq
theorem Zh {g:bD}(aQ:fZ g) (x:Item):-1<=gz g x/\gz g x<=1023:=by
 by_cases h:0<=gz g x
 ·obtain ⟨_,ax,_⟩:=K' aQ h;have:=aQ.eZ;have:=aQ.lq;rcases ax with ax | ax <;> omega
 ·refine ⟨?_,by omega⟩;revert h;unfold gz;cases a_:idx g.bu x.Prod with
  | none=>intro _; exact Int.le_refl _
  | some q =>
   cases ax:idx q.dF x.ec with
   | none=>intro _; simp [ax]
   | some s =>
    intro h;have hm:=(aQ.gC q (kM a_).2.2).right s (kM ax).2.2;simp only [ax,Option.getD_some] at h ⊢;rcases hm with hm | hm <;> omega
def iV (m:List Bool):Nat:=(m.filter λb=>b).length
theorem Ng:∀ (m:List Bool) (i:Nat),i<m.length->m.getD i false=false->iV (m.set i true)=iV m+1
 | [],i,h,_=>by simp at h
 | b::m,0,_,h=>by
  have:b=false:=by simpa using h
  subst this;simp [iV]
 | b::m,i+1,h,aK=>by
  have:=Ng m i (by simpa using h) (by simpa using aK);unfold iV at this ⊢;simp only [List.set_cons_succ,List.filter_cons];cases b <;> simp [this]
theorem Uc (m:List Bool):iV m<=m.length:=List.length_filter_le _ _
theorem l9 {α:Type}{r:List α}{k:Nat}(h:k<r.length):r.take (k+1)=r.take k++[r[k]]:=by
 simp_all
theorem Hj (k:Nat) (h:k<=1000000000000):aG ((k:Int)+1)=((k+1:Nat):Int):=by
 grind [cC]
def allI (g:bD):List Item:=(List.range g.bu.length).flatMap λp=>(List.range 9).map λd=>(⟨(p:Nat),(d:Nat)⟩:Item)
theorem SP (g:bD):(allI g).length=g.bu.length * 9:=by
 have:∀ l:List Nat,(l.map λ_=>9).sum=l.length * 9:=λl=>by
  induction l with
  | nil=>rfl
  | cons a l aM=>simp only [List.map_cons,List.sum_cons,aM,List.length_cons]; omega
 simp [allI,List.length_flatMap,this]
theorem Y7 {g:bD}(aQ:fZ g) {x:Item}(h:iL g x):x∈allI g:=by
 obtain ⟨q,a_,aK,h1⟩:=h;obtain ⟨af,aF,bh⟩:=kM a_;have:=aQ.aD q bh;refine List.mem_flatMap.2 ⟨x.Prod.toNat,by simp; omega,List.mem_map.2 ⟨x.ec.toNat,by simp; omega,?_⟩⟩;obtain ⟨a,b⟩:=x;simp only at aK af ⊢;congr 1 <;> omega
theorem tZ {g:bD}(aQ:fZ g) {l:List Item}(ah:fc gO l) (hi:∀ x∈l,iL g x):l.length<=540:=by
 have:=Ai (ah.nd vZ) λx J=>Y7 aQ (hi x J);rw [SP] at this;have:=aQ.jA;omega
theorem Tc {l:List Item}(ah:fc gO l) {i j:Nat}(hi:i<l.length) (ag:j<l.length) (h:i<j):gO l[i] l[j]=true:=List.pairwise_iff_getElem.1 ah i j hi ag h
theorem H8 (l:List Item) (x:Item) (ah:fc gO l) (aB:l.length<=100000):Tot (yj l x) λr=>fc gO r/\(∀ y,y∈r↔y∈l\/y=x):=by
 unfold yj;refine .aA (Ξ:=λz:Int=>∃ k:Nat,z=(k:Int)/\k<=l.length/\(∀ (i:Nat) (h:i<l.length),k<=i->gO x l[i]=true)/\∀ (h:0<k),gO x (l[k - 1]?.getD default)=false) ?_ λz aX=>?_
 ·refine Tot.count (λs=>-s) 1 (λs=>∃ k:Nat,s=(k:Int)/\k<=l.length/\∀ (i:Nat) (h:i<l.length),k<=i->gO x l[i]=true) ⟨l.length,rfl,Nat.le_refl _,λi h hk=>by omega⟩ (by show 1 - -(l.length:Int)<_; omega) λs ax=>?_;obtain ⟨k,rfl,hk,uB⟩:=ax;refine .aA (Ξ:=λc:Bool=>(c=true->0<k/\gO x (l[k - 1]?.getD default)=true)/\(c=false->∀ (h:0<k),gO x (l[k - 1]?.getD default)=false)) ?_ λc aa=>Tot.bN (λh=>?_) (λh=>.al ⟨k,rfl,hk,uB,aa.2 h⟩)
  ·refine Tot.bs (λh=>?_) (λh=>.al ⟨λaI=>(by cases aI),λ_ aI=>by omega⟩);have gy:k - 1<l.length:=by omega
   have hw:aG ((k:Int) - 1)=((k - 1:Nat):Int):=by rw [cC]; omega
   rw [hw,dR gy,List.getElem?_eq_getElem gy];simp only [Option.bind_some,Option.getD_some];generalize l[k - 1]=y;refine Tot.bs (λh1=>.al ⟨λ_=>⟨by omega,KW.2 (.inl h1)⟩,λaI=>(by cases aI)⟩) (λh1=>Tot.bs (λaf=>.al ⟨λaF=>⟨by omega,KW.2 (.inr ⟨af.symm,of_decide_eq_true aF⟩)⟩,λaF _=>?_⟩) (λaf=>.al ⟨λaI=>(by cases aI),λ_ _=>?_⟩))
   ·have:=of_decide_eq_false aF;rw [Dh]; omega
   ·rw [Dh]; omega
  ·obtain ⟨aK,h1⟩:=aa.1 h;refine .al ⟨⟨k - 1,by rw [cC]; omega,by omega,λi hi XB=>?_⟩,by show -(k:Int) < -aG _; rw [cC]; omega,by show -aG _<=1; rw [cC]; omega⟩;by_cases e:i=k - 1
   ·subst e;rw [List.getElem?_eq_getElem hi] at h1;exact h1
   ·exact uB i hi (by omega)
 ·obtain ⟨k,rfl,hk,uB,ml⟩:=aX;refine .aA (Ξ:=λc:Bool=>(c=true↔(0<k/\l[k - 1]?.getD default=x))) ?_ λc aa=>Tot.bN (λh=>?_) (λh=>?_)
  ·refine Tot.bs (λh=>?_) (λh=>.al ⟨λaI=>(by cases aI),λaI=>by omega⟩);have gy:k - 1<l.length:=by omega
   have hw:aG ((k:Int) - 1)=((k - 1:Nat):Int):=by rw [cC]; omega
   rw [hw,dR gy,List.getElem?_eq_getElem gy];simp only [Option.bind_some,Option.getD_some];generalize l[k - 1]=y;refine .al ?_;obtain ⟨bz,y2⟩:=y;obtain ⟨aS,x2⟩:=x;simp only [Bool.and_true,Bool.and_eq_true,decide_eq_true_eq,Item.mk.injEq];exact ⟨λaI=>⟨by omega,aI⟩,λaI=>aI.2⟩
  ·obtain ⟨aK,h1⟩:=aa.1 h;have gy:k - 1<l.length:=by omega
   rw [List.getElem?_eq_getElem gy] at h1;have J:x∈l:=by rw [<- h1]; exact List.getElem_mem gy
   exact .al ⟨ah,λy=>⟨.inl,λh=>h.elim id λe=>e ▸ J⟩⟩
  ·have cQ:∀ (i:Nat) (hi:i<l.length),i<k->gO l[i] x=true:=by
    intro i hi vG;have gy:k - 1<l.length:=by omega
    have ml:=ml (by omega);have aB:l[k - 1]?.getD default≠x:=λe=>by rw [aa.2 ⟨by omega,e⟩] at h; cases h
    rw [List.getElem?_eq_getElem gy] at ml aB;simp only [Option.getD_some] at ml aB;have fz:gO l[k - 1] x=true:=by
     cases bQ:gO l[k - 1] x with
     | true=>rfl
     | false=>exact absurd (vZ.jB _ _ bQ ml) aB
    by_cases e:i=k - 1
    ·subst e; exact fz
    ·exact vZ.swo.trans _ _ _ (Tc ah hi gy (by omega)) fz
   refine .aA (Ξ:=λz=>z=l.take k) (Tot.sub ⟨by omega,by omega,by omega⟩ (by simp)) λz aX=>?_;subst aX;refine .bK<|.bK<|?_;refine .aA (Ξ:=λz=>z=l.drop k) (Tot.sub ⟨by omega,by omega,by omega⟩ ?_) λz aX=>?_
   ·rw [List.take_of_length_le]
    ·congr 1
    ·rw [List.length_drop]; omega
   subst aX;refine .bK<|.al ?_;rw [List.nil_append];constructor
   ·have h1:∀ a∈l.take k,gO a x=true:=by
     intro a aJ;obtain ⟨i,hi,rfl⟩:=List.mem_iff_getElem.1 aJ;rw [List.length_take] at hi;rw [List.getElem_take];exact cQ i (by omega) (by omega)
    have af:∀ a∈l.drop k,gO x a=true:=by
     intro a aJ;obtain ⟨i,hi,rfl⟩:=List.mem_iff_getElem.1 aJ;rw [List.length_drop] at hi;rw [List.getElem_drop];exact uB (k+i) (by omega) (by omega)
    unfold fc;rw [List.append_assoc,List.pairwise_append];refine ⟨List.Pairwise.sublist (List.take_sublist k l) ah,?_,λa aJ b ar=>?_⟩
    ·rw [List.singleton_append,List.pairwise_cons];exact ⟨af,List.Pairwise.sublist (List.drop_sublist k l) ah⟩
    ·rcases List.mem_append.1 ar with ar | ar
     ·rw [List.mem_singleton.1 ar]; exact h1 a aJ
     ·exact vZ.swo.trans _ _ _ (h1 a aJ) (af b ar)
   ·intro y;rw [List.append_assoc,List.mem_append,List.mem_append,List.mem_singleton];have hm:y∈l↔y∈l.take k\/y∈l.drop k:=by
     rw [<- List.mem_append,List.take_append_drop]
    rw [hm];constructor
    ·rintro (h | h | h)
     ·exact .inl (.inl h)
     ·exact .inr h
     ·exact .inl (.inr h)
    ·rintro ((h | h) | h)
     ·exact .inl h
     ·exact .inr (.inr h)
     ·exact .inr (.inl h)
theorem TM (g:bD) (aQ:fZ g) (l:List Item) (ah:l.length<=1000000):Tot (DI g l) λr=>fc gO r/\∀ x,x∈r↔x∈l/\iL g x:=by
 unfold DI;refine .aA (Ξ:=λr=>fc gO r/\∀ x,x∈r↔x∈l/\iL g x) ?_ λr hr=>.al hr;refine Tot.count (λs=>s.2) l.length (λs=>∃ k:Nat,k<=l.length/\s.2=(k:Int)/\fc gO s.1/\∀ x,x∈s.1↔x∈l.take k/\iL g x) ⟨0,Nat.zero_le _,rfl,List.Pairwise.nil,λx=>by simp⟩ (by show (l.length:Int) - 0<_; omega) λs ax=>?_;obtain ⟨out,kd⟩:=s;obtain ⟨k,hk,rfl,aJ,hm⟩:=ax;simp only at aJ hm ⊢;rw [Hj k (by omega)];refine Tot.bs (λaN=>?_) (λdH=>.al ?_)
 ·have aN:k<l.length:=by omega
  rw [dR aN];refine .aA (Ξ:=λo:List Item=>fc gO o/\∀ x,x∈o↔x∈l.take (k+1)/\iL g x) ?_ λo aW=>.al ⟨⟨k+1,by omega,rfl,aW⟩,by show (k:Int)<((k+1:Nat):Int); omega,by show ((k+1:Nat):Int)<=_; omega⟩;obtain ⟨c,aa,hi⟩:=Ns g l[k];rw [l9 aN];refine Tot.aT ?_;rw [aa];refine Tot.aT (.aA (Ξ:=λo:List Item=>fc gO o/\∀ x,x∈o↔x∈l.take k++[l[k]]/\iL g x) (Tot.bN (λh=>?_) (λh=>.al ⟨aJ,λx=>?_⟩)) λo aW=>.al aW)
  ·have CD:=tZ aQ aJ λx J=>((hm x).1 J).2;refine Tot.aT (.aA (H8 out _ aJ (by omega)) λo aW=>.al ⟨aW.1,λx=>?_⟩);rw [aW.2 x,List.mem_append,List.mem_singleton,hm x];constructor
   ·rintro (⟨h1,af⟩ | rfl)
    ·exact ⟨.inl h1,af⟩
    ·exact ⟨.inr rfl,hi.1 h⟩
   ·rintro ⟨h1 | rfl,af⟩
    ·exact .inl ⟨h1,af⟩
    ·exact .inr rfl
  ·rw [List.mem_append,List.mem_singleton,hm x];constructor
   ·rintro ⟨h1,af⟩;exact ⟨.inl h1,af⟩
   ·rintro ⟨h1 | rfl,af⟩
    ·exact ⟨h1,af⟩
    ·rw [hi.2 af] at h; cases h
 ·have:k=l.length:=by omega
  subst this;rw [List.take_length] at hm;exact ⟨aJ,hm⟩
def wH (g:bD) (out:List Item) (x:Item):Prop:=1000<=gz g x->∀ (p:Nat) (q:Prod),g.bu[p]?=some q->q.Left=gz g x - 1000->(⟨p,0⟩:Item)∈out
theorem H7 (g:bD) (aQ:fZ g) (l:List Item) (ah:l.length<=1000000):Tot (ye g l) λr=>fc gO r/\∀ x,x∈r↔mb g l x:=by
 have sr:=aQ.jA;unfold ye;refine .aA (TM g aQ l ah) λaS h1=>.aA (Ξ:=λr=>fc gO r/\∀ x,x∈r↔mb g l x) ?_ λr hr=>.al hr;obtain ⟨WE,vH⟩:=h1;refine Tot.loop (λs=>fc gO s.1/\(∀ x∈s.1,mb g l x)/\(∀ x∈l,iL g x->x∈s.1)/\(s.2=(s.1.length:Int)->∀ x∈s.1,wH g s.1 x)) (λs=>2 * (1000 - s.1.length)+(if s.2=(s.1.length:Int) then 0 else 1)) ⟨WE,λx J=>.base ((vH x).1 J).1 ((vH x).1 J).2,λx J hi=>(vH x).2 ⟨J,hi⟩,λh=>by have h:(-1:Int)=_:=h; omega⟩ (by
  show 2 * (1000 - aS.length)+(if (-1:Int)=_ then 0 else 1)<1000000000000000000
  split <;> omega) λs ax=>?_
 obtain ⟨out,n⟩:=s;obtain ⟨aJ,hD,vB,hN⟩:=ax;simp only at aJ hD vB hN ⊢;have CD:=tZ aQ aJ λx J=>(hD x J).iL;refine Tot.pF (λcQ=>?_) (λhe=>.al ⟨aJ,λx=>⟨hD x,λJ=>?_⟩⟩)
 ·refine .aA (Ξ:=λj:List Item × Int=>j.2=(out.length:Int)/\fc gO j.1/\(∀ x∈j.1,mb g l x)/\(∀ x∈out,x∈j.1)/\(j.1.length=out.length->∀ x∈j.1,wH g j.1 x)) ?_ λj ag=>?_
  ·refine .aA (Ξ:=λr:List Item=>fc gO r/\(∀ x∈r,mb g l x)/\(∀ x∈out,x∈r)/\(r.length=out.length->∀ x∈r,wH g r x)) ?_ λr hr=>.al ⟨rfl,hr⟩;refine .aA (Ξ:=λr:List Item=>fc gO r/\(∀ x∈r,mb g l x)/\(∀ x∈out,x∈r)/\(r.length=out.length->∀ x∈r,wH g r x)) ?_ λr hr=>.al hr;refine Tot.count (λs=>s.2) out.length (λs=>∃ k:Nat,k<=out.length/\s.2=(k:Int)/\s.1=out/\∀ (j:Nat) (h:j<out.length),j<k->wH g out out[j]) ⟨0,Nat.zero_le _,rfl,rfl,λj _ ag=>absurd ag (Nat.not_lt_zero _)⟩ (by show (out.length:Int) - 0<_; omega) λs ax=>?_;obtain ⟨cur,kd⟩:=s;obtain ⟨k,hk,rfl,rfl,Ox⟩:=ax;simp only;rw [Hj k (by omega)];refine Tot.bs (λaN=>?_) (λdH=>.al ⟨aJ,hD,λ_ h=>h,λ_ x J=>?_⟩)
   ·have aN:k<cur.length:=by omega
    rw [dR aN];have C3:=hD _ (List.getElem_mem aN);have C1:∀ P:Item->Prop,P cur[k]->∀ (j:Nat) (h:j<cur.length),j=k->P cur[j]:=λP bI j h e=>by subst e; exact bI
    generalize J:cur[k]=x at *;have afd:=Zh aQ x;have hw:aG (gz g x - 1000)=gz g x - 1000:=by rw [cC]; omega
    simp only [Option.bind_some,ID g x,hw];refine (.aA (Ξ:=λr:List Item=>fc gO r/\(∀ x∈r,mb g l x)/\(∀ x∈cur,x∈r)/\wH g r x) ?_ λr hr=>?_)
    ·refine Tot.count (λs=>s.2) g.bu.length (λs=>∃ i:Nat,i<=g.bu.length/\s.2=(i:Int)/\fc gO s.1/\(∀ x∈s.1,mb g l x)/\(∀ x∈cur,x∈s.1)/\∀ (p:Nat) (q:Prod),p<i->g.bu[p]?=some q->q.Left=gz g x - 1000->(⟨p,0⟩:Item)∈s.1) ⟨0,Nat.zero_le _,rfl,aJ,hD,λ_ h=>h,λp q aq=>absurd aq (Nat.not_lt_zero _)⟩ (by show (g.bu.length:Int) - 0<_; omega) λs ax=>?_;obtain ⟨o,sC⟩:=s;obtain ⟨i,hi,rfl,sq,CC,FI,vK⟩:=ax;simp only at sq CC FI vK ⊢;rw [Hj i (by omega)];refine .aA (Ξ:=λc:Bool=>(c=true->i<g.bu.length/\1000<=gz g x)/\(c=false->g.bu.length<=i\/gz g x<1000)) (Tot.bs (λh=>.al ⟨λaI=>⟨by omega,of_decide_eq_true aI⟩,λaI=>.inr (by have:=of_decide_eq_false aI; omega)⟩) (λh=>.al ⟨λaI=>(by cases aI),λ_=>.inl (by omega)⟩)) λc aa=>Tot.bN (λh=>?_) (λh=>.al ⟨sq,CC,FI,λaK p q aq=>?_⟩)
     ·obtain ⟨JV,aK⟩:=aa.1 h;have OX:g.bu[i]?=some g.bu[i]:=List.getElem?_eq_getElem JV;rw [dR JV];refine .aA (Ξ:=λo:List Item=>fc gO o/\(∀ x∈o,mb g l x)/\(∀ x∈cur,x∈o)/\∀ (p:Nat) (q:Prod),p<i+1->g.bu[p]?=some q->q.Left=gz g x - 1000->(⟨p,0⟩:Item)∈o) ?_ λo aW=>.al ⟨⟨i+1,by omega,rfl,aW⟩,by show (i:Int)<((i+1:Nat):Int); omega,by show ((i+1:Nat):Int)<=_; omega⟩;refine Tot.aT (.aA (Ξ:=λo:List Item=>fc gO o/\(∀ x∈o,mb g l x)/\(∀ x∈cur,x∈o)/\∀ (p:Nat) (q:Prod),p<i+1->g.bu[p]?=some q->q.Left=gz g x - 1000->(⟨p,0⟩:Item)∈o) (Tot.bs (λh=>?_) (λh=>.al ⟨sq,CC,FI,λp q aq CI a_=>?_⟩)) λo aW=>.al aW)
      ·have afa:=tZ aQ sq λx J=>(CC x J).iL;refine .aA (H8 o ⟨(i:Nat),0⟩ sq (by omega)) λr hr=>.al ⟨hr.1,λy ao=>?_,λy ao=>(hr.2 y).2 (.inl (FI y ao)),λp q aq CI a_=>?_⟩
       ·rcases (hr.2 y).1 ao with ao | rfl
        ·exact CC y ao
        ·exact .step C3 OX (by omega) aK
       ·by_cases ca:p=i
        ·subst ca; exact (hr.2 _).2 (.inr rfl)
        ·exact (hr.2 _).2 (.inl (vK p q (by omega) CI a_))
      ·by_cases ca:p=i
       ·subst ca;rw [OX] at CI; cases CI;exact absurd a_ h
       ·exact vK p q (by omega) CI a_
     ·rcases aa.2 h with h1 | h1
      ·exact vK p q (by have:=(List.getElem?_eq_some_iff.1 aq).1; omega) aq
      ·omega
    ·obtain ⟨vM,XT,lC,XZ⟩:=hr;have hle:cur.length<=r.length:=Ai (aJ.nd vZ) lC;refine Tot.pF (λJ4=>.al ⟨vM,XT,lC,λe=>absurd (by omega) J4⟩) (λheq=>?_);have oH:r.length=cur.length:=by omega
     have CN:r=cur:=by
      have mT:∀ y,y∈cur↔y∈r:=by
       intro y;refine ⟨lC y,λao=>Classical.byContradiction λaB=>?_⟩;have:=Ai (l:=y::cur) (m:=r) (List.nodup_cons.2 ⟨aB,aJ.nd vZ⟩) λz aX=>by
        rcases List.mem_cons.1 aX with rfl | aX
        ·exact ao
        ·exact lC z aX
       simp at this;omega
      exact (fc.uniq vZ aJ vM mT).symm
     subst CN;refine .al ⟨⟨k+1,by omega,rfl,rfl,λj ag gI=>?_⟩,by show (k:Int)<((k+1:Nat):Int); omega,by show ((k+1:Nat):Int)<=_; omega⟩;by_cases ca:j=k
     ·exact C1 (wH g r) XZ j ag ca
     ·exact Ox j ag (by omega)
   ·obtain ⟨j,ag,rfl⟩:=List.mem_iff_getElem.1 J;exact Ox j ag (by omega)
  ·obtain ⟨h1,af,aF,bh,b7⟩:=ag;have hle:out.length<=j.1.length:=Ai (aJ.nd vZ) bh;have ez:=tZ aQ af λx J=>(aF x J).iL;refine .al ⟨⟨af,aF,λx J hi=>bh x (vB x J hi),λe=>b7 (by show j.1.length=_; have e:j.2=(j.1.length:Int):=e; omega)⟩,?_⟩;show 2 * (1000 - j.1.length)+(if j.2=(j.1.length:Int) then 0 else 1)<2 * (1000 - out.length)+(if n=(out.length:Int) then 0 else 1)
   rw [if_neg cQ];split
   ·omega
   ·have:j.1.length≠out.length:=λe=>by omega
    omega
 ·have aa:=hN he
  induction J with
  | base h hi=>exact vB _ h hi
  | @step x q p h aq aB aK aM=>exact aa x aM aK p q aq (by omega)
def qd (g:bD) (l:List Item) (a:Int) (y:Item):Prop:=∃ x,mb g l x/\gz g x=a/\0<=a/\y=⟨x.Prod,x.ec+1⟩
theorem Pt {g:bD}(aQ:fZ g) {x:Item}(h:0<=gz g x):iL g ⟨x.Prod,x.ec+1⟩:=by
 obtain ⟨_,_,q,a_,ax⟩:=K' aQ h;obtain ⟨aK,h1,_⟩:=kM ax;exact ⟨q,a_,by show 0<=x.ec+1; omega,by show x.ec+1<=_; omega⟩
theorem YW {g:bD}(aQ:fZ g) {x:Item}(h:iL g x):0<=x.ec/\x.ec<=8:=by
 obtain ⟨q,a_,aK,h1⟩:=h;have:=aQ.aD q (kM a_).2.2;omega
theorem qd.iL {g:bD}(aQ:fZ g) {l:List Item}{a:Int}{y:Item}(h:qd g l a y):iL g y:=by
 obtain ⟨x,_,h1,af,rfl⟩:=h;exact Pt aQ (by omega)
theorem TG (g:bD) (aQ:fZ g) (l:List Item) (a:Int) (ah:l.length<=1000000):Tot (Dz g l a) λr=>fc gO r/\∀ y,y∈r↔qd g l a y:=by
 unfold Dz;refine .aA (H7 g aQ l ah) λc aa=>.aA (Ξ:=λr=>fc gO r/\∀ y,y∈r↔qd g l a y) ?_ λr hr=>.al hr;have hN:=tZ aQ aa.1 λx J=>((aa.2 x).1 J).iL;refine Tot.count (λs=>s.2) c.length (λs=>∃ k:Nat,k<=c.length/\s.2=(k:Int)/\fc gO s.1/\∀ y,y∈s.1↔∃ x∈c.take k,gz g x=a/\0<=a/\y=⟨x.Prod,x.ec+1⟩) ⟨0,Nat.zero_le _,rfl,List.Pairwise.nil,λy=>by simp⟩ (by show (c.length:Int) - 0<_; omega) λs ax=>?_;obtain ⟨o,kd⟩:=s;obtain ⟨k,hk,rfl,sq,CE⟩:=ax;simp only at sq CE ⊢;rw [Hj k (by omega)];refine Tot.bs (λaN=>?_) (λdH=>.al ⟨sq,λy=>?_⟩)
 ·have aN:k<c.length:=by omega
  have YD:=((aa.2 _).1 (List.getElem_mem aN)).iL;have fO:c.take (k+1)=c.take k++[c[k]]:=l9 aN;rw [dR aN];generalize c[k]=x at *;have aR:=YW aQ YD;have hw:aG (x.ec+1)=x.ec+1:=by rw [cC]; omega
  refine .aA (Ξ:=λo:List Item=>fc gO o/\∀ y,y∈o↔∃ x∈c.take (k+1),gz g x=a/\0<=a/\y=⟨x.Prod,x.ec+1⟩) ?_ λo aW=>.al ⟨⟨k+1,by omega,rfl,aW⟩,by show (k:Int)<((k+1:Nat):Int); omega,by show ((k+1:Nat):Int)<=_; omega⟩;have mT:∀ y,(∃ z∈c.take (k+1),gz g z=a/\0<=a/\y=(⟨z.Prod,z.ec+1⟩:Item))↔(y∈o\/(gz g x=a/\0<=a/\y=⟨x.Prod,x.ec+1⟩)):=by
   intro y;rw [CE y,fO];constructor
   ·rintro ⟨z,aX,h⟩;rcases List.mem_append.1 aX with aX | aX
    ·exact .inl ⟨z,aX,h⟩
    ·rw [List.mem_singleton.1 aX] at h; exact .inr h
   ·rintro (⟨z,aX,h⟩ | h)
    ·exact ⟨z,by simp [aX],h⟩
    ·exact ⟨x,by simp,h⟩
  simp only [Option.bind_some,ID g x,hw];refine (.aA (Ξ:=λb:Bool=>b=decide (0<=gz g x/\gz g x=a)) (Tot.bs (λh=>.al (by simp [h])) (λh=>.al (by simp [h]))) λb ar=>?_);subst ar;refine .aA (Ξ:=λo:List Item=>fc gO o/\∀ y,y∈o↔∃ x∈c.take (k+1),gz g x=a/\0<=a/\y=⟨x.Prod,x.ec+1⟩) (Tot.bs (λh=>?_) (λh=>.al ⟨sq,λy=>?_⟩)) λo aW=>.al aW
  ·have CD:=tZ aQ sq λy ao=>by
    obtain ⟨z,_,h1,af,rfl⟩:=(CE y).1 ao;exact Pt aQ (by omega)
   refine (.aA (H8 o _ sq (by omega)) λr hr=>.al ⟨hr.1,λy=>?_⟩);rw [hr.2 y,mT y];constructor
   ·rintro (h1 | h1)
    ·exact .inl h1
    ·exact .inr ⟨h.2,by omega,h1⟩
   ·rintro (h1 | h1)
    ·exact .inl h1
    ·exact .inr h1.2.2
  ·rw [mT y];exact ⟨.inl,λaI=>aI.elim id λaI=>absurd ⟨by omega,aI.1⟩ h⟩
 ·have:k=c.length:=by omega
  subst this;rw [List.take_length] at CE;rw [CE y];constructor
  ·rintro ⟨x,J,h⟩;exact ⟨x,(aa.2 x).1 J,h⟩
  ·rintro ⟨x,J,h⟩;exact ⟨x,(aa.2 x).2 J,h⟩
def iO (a b:Int):Bool:=decide (a<b)
theorem PR {a b:Int}:iO a b=true↔a<b:=by simp [iO]
theorem KZ {a b:Int}:iO a b=false↔¬ a<b:=by simp [iO]
theorem Gr:Ord iO where
 swo:=⟨λx=>by rw [KZ]; omega,λx y z h1 af=>by rw [PR] at *; omega,λx y z h1 af=>by rw [KZ] at *; omega⟩
 jB:=λx y h1 af=>by rw [KZ] at *; omega
theorem MR {l:List Int}(ah:fc iO l) {i j:Nat}(hi:i<l.length) (ag:j<l.length) (h:i<j):iO l[i] l[j]=true:=List.pairwise_iff_getElem.1 ah i j hi ag h
theorem Fa (l:List Int) (x:Int) (ah:fc iO l) (aB:l.length<=100000):Tot (qN l x) λr=>fc iO r/\r.length<=l.length+1/\(∀ y,y∈r↔y∈l\/y=x):=by
 unfold qN;refine .aA (Ξ:=λz:Int=>∃ k:Nat,z=(k:Int)/\k<=l.length/\(∀ (i:Nat) (h:i<l.length),k<=i->iO x l[i]=true)/\∀ (h:0<k),iO x (l[k - 1]?.getD default)=false) ?_ λz aX=>?_
 ·refine Tot.count (λs=>-s) 1 (λs=>∃ k:Nat,s=(k:Int)/\k<=l.length/\∀ (i:Nat) (h:i<l.length),k<=i->iO x l[i]=true) ⟨l.length,rfl,Nat.le_refl _,λi h hk=>by omega⟩ (by show 1 - -(l.length:Int)<_; omega) λs ax=>?_;obtain ⟨k,rfl,hk,uB⟩:=ax;refine .aA (Ξ:=λc:Bool=>(c=true->0<k/\iO x (l[k - 1]?.getD default)=true)/\(c=false->∀ (h:0<k),iO x (l[k - 1]?.getD default)=false)) ?_ λc aa=>Tot.bN (λh=>?_) (λh=>.al ⟨k,rfl,hk,uB,aa.2 h⟩)
  ·refine Tot.bs (λh=>?_) (λh=>.al ⟨λaI=>(by cases aI),λ_ aI=>by omega⟩);have gy:k - 1<l.length:=by omega
   have hw:aG ((k:Int) - 1)=((k - 1:Nat):Int):=by rw [cC]; omega
   rw [hw,dR gy,List.getElem?_eq_getElem gy];simp only [Option.bind_some,Option.getD_some];exact .al ⟨λaI=>⟨by omega,aI⟩,λaI _=>aI⟩
  ·obtain ⟨aK,h1⟩:=aa.1 h;refine .al ⟨⟨k - 1,by rw [cC]; omega,by omega,λi hi XB=>?_⟩,by show -(k:Int) < -aG _; rw [cC]; omega,by show -aG _<=1; rw [cC]; omega⟩
   grind
 ·obtain ⟨k,rfl,hk,uB,ml⟩:=aX;refine .aA (Ξ:=λc:Bool=>(c=true↔(0<k/\l[k - 1]?.getD default=x))) ?_ λc aa=>Tot.bN (λh=>?_) (λh=>?_)
  ·refine Tot.bs (λh=>?_) (λh=>.al ⟨λaI=>(by cases aI),λaI=>by omega⟩);have gy:k - 1<l.length:=by omega
   have hw:aG ((k:Int) - 1)=((k - 1:Nat):Int):=by rw [cC]; omega
   rw [hw,dR gy,List.getElem?_eq_getElem gy];simp only [Option.bind_some,Option.getD_some];generalize l[k - 1]=y;refine .al ?_
   grind
  ·obtain ⟨aK,h1⟩:=aa.1 h;have gy:k - 1<l.length:=by omega
   rw [List.getElem?_eq_getElem gy] at h1;have J:x∈l:=by rw [<- h1]; exact List.getElem_mem gy
   exact .al ⟨ah,by omega,λy=>⟨.inl,λh=>h.elim id λe=>e ▸ J⟩⟩
  ·have cQ:∀ (i:Nat) (hi:i<l.length),i<k->iO l[i] x=true:=by
    intro i hi vG;have gy:k - 1<l.length:=by omega
    have ml:=ml (by omega);have aB:l[k - 1]?.getD default≠x:=λe=>by rw [aa.2 ⟨by omega,e⟩] at h; cases h
    rw [List.getElem?_eq_getElem gy] at ml aB;simp only [Option.getD_some] at ml aB;have fz:iO l[k - 1] x=true:=by
     grind [iO]
    by_cases e:i=k - 1
    ·grind
    ·exact Gr.swo.trans _ _ _ (MR ah hi gy (by omega)) fz
   refine .aA (Ξ:=λz=>z=l.take k) (Tot.sub ⟨by omega,by omega,by omega⟩ (by simp)) λz aX=>?_;subst aX;refine .bK<|.bK<|?_;refine .aA (Ξ:=λz=>z=l.drop k) (Tot.sub ⟨by omega,by omega,by omega⟩ ?_) λz aX=>?_
   ·grind [List.take_of_length_le]
   subst aX;refine .bK<|.al ?_;rw [List.nil_append];refine ⟨?_,?_,?_⟩
   ·have h1:∀ a∈l.take k,iO a x=true:=by
     grind [List.mem_iff_getElem]
    have af:∀ a∈l.drop k,iO x a=true:=by
     grind [List.mem_iff_getElem]
    unfold fc;rw [List.append_assoc,List.pairwise_append];refine ⟨List.Pairwise.sublist (List.take_sublist k l) ah,?_,λa aJ b ar=>?_⟩
    ·rw [List.singleton_append,List.pairwise_cons];exact ⟨af,List.Pairwise.sublist (List.drop_sublist k l) ah⟩
    ·rcases List.mem_append.1 ar with ar | ar
     ·grind
     ·exact Gr.swo.trans _ _ _ (h1 a aJ) (af b ar)
   ·grind
   grind [List.take_append_drop]
theorem p6 {α:Type}{l:List α}{k:Nat}{x:α}(hk:k<l.length) (i:Nat):(l.set k x)[i]?=if i=k then some x else l[i]?:=by
 rw [List.getElem?_set];by_cases e:k=i
 ·subst e; simp [hk]
 ·simp [e,Ne.symm e]
theorem Vk (x y:Item):(decide (x.Prod=y.Prod)&&(decide (x.ec=y.ec)&&true))=decide (x=y):=by
 obtain ⟨aS,x2⟩:=x;obtain ⟨bz,y2⟩:=y;simp
theorem TN (a b:List Item) (h:a.length<=1000000):Tot (DJ a b) λc=>(c=true↔a=b):=by
 unfold DJ;refine Tot.pF (λcQ=>.al ⟨λh=>(by cases h),λe=>absurd (by rw [e]) cQ⟩) (λhe=>?_);have ah:a.length=b.length:=by omega
 refine Tot.aA (Ξ:=h4 (λ_=>a=b) (λx:Bool=>x=false/\a≠b)) ?_ λx J=>?_
 ·refine Tot.count (λs=>s) a.length (λs=>∃ k:Nat,k<=a.length/\s=(k:Int)/\∀ (j:Nat) (h:j<a.length),j<k->a[j]=b[j]) ⟨0,Nat.zero_le _,rfl,λj _ ag=>absurd ag (Nat.not_lt_zero _)⟩ (by show (a.length:Int) - 0<_; omega) λs ax=>?_;obtain ⟨k,hk,rfl,lz⟩:=ax;rw [et k (by omega)];refine Tot.bs (λaN=>?_) (λdH=>.al ?_)
  ·have aN:k<a.length:=by omega
   have zU:k<b.length:=by omega
   rw [dR aN,dR zU];simp only [Option.bind_some,Vk];refine Tot.pF (λcQ=>.al ⟨rfl,λe=>cQ (by subst e; rfl)⟩) (λheq=>.al ⟨⟨k+1,by omega,rfl,λj ag gI=>?_⟩,by show (k:Int)<((k+1:Nat):Int); omega,by show ((k+1:Nat):Int)<=_; omega⟩);by_cases e:j=k
   ·subst e; exact heq
   ·exact lz j ag (by omega)
  ·exact List.ext_getElem ah λi h1 af=>lz i h1 (by omega)
 ·rcases x with _ | x
  ·exact .al ⟨λ_=>J,λ_=>rfl⟩
  ·obtain ⟨rfl,cQ⟩:x=false/\a≠b:=J;exact .al ⟨λh=>(by cases h),λh=>absurd h cQ⟩
def syms (g:bD):List Int:=(List.range g.br.length).map (λk:Nat=>(k:Int))++(List.range g.dE.length).map (λk:Nat=>1000+(k:Int))
theorem M9 (g:bD) (aW:fZ g):Tot (Dy g) λl=>l=syms g:=by
 have cV:=aW.lq;have bt:=aW.eZ;unfold Dy;refine .aA (Ξ:=λl:List Int=>l=(List.range g.br.length).map (λk:Nat=>(k:Int))) ?_ λl ah=>?_
 ·refine Tot.upto (λs=>s.2) g.br.length (λk s=>s.1=(List.range k).map (λk:Nat=>(k:Int))) rfl (by omega) rfl λk s hk he bf=>?_;obtain ⟨l,i⟩:=s;simp only at he bf ⊢;subst he bf;rw [et k (by omega)];refine Tot.bs (λaN=>?_) (λdH=>.al ?_)
  ·refine .bK<|.al ⟨by omega,rfl,?_⟩;show _=(List.range (k+1)).map _;rw [List.range_succ,List.map_append]; rfl
  ·have:k=g.br.length:=by omega
   subst this; rfl
 ·subst ah;refine .aA (Ξ:=λl:List Int=>l=syms g) ?_ λr hr=>.al hr;refine Tot.upto (λs=>s.2) g.dE.length (λk s=>s.1=(List.range g.br.length).map (λk:Nat=>(k:Int))++(List.range k).map (λk:Nat=>1000+(k:Int))) rfl (by omega) (by simp) λk s hk he bf=>?_;obtain ⟨l,i⟩:=s;simp only at he bf ⊢;subst he bf;rw [et k (by omega)];refine Tot.bs (λaN=>?_) (λdH=>.al ?_)
  ·refine .bK<|.al ⟨by omega,rfl,?_⟩;have hw:aG (1000+(k:Int))=1000+(k:Int):=by rw [cC]; omega
   show _=_++(List.range (k+1)).map _;rw [hw,List.range_succ,List.map_append,List.append_assoc]; rfl
  ·have:k=g.dE.length:=by omega
   subst this; rfl
theorem aa5 (g:bD):(syms g).length=g.br.length+g.dE.length:=by simp [syms]
theorem PT {g:bD}{s:Int}:s∈syms g↔(0<=s/\s<g.br.length)\/(1000<=s/\s<1000+g.dE.length):=by
 unfold syms;rw [List.mem_append,List.mem_map,List.mem_map];constructor
 ·rintro (⟨k,hk,rfl⟩ | ⟨k,hk,rfl⟩)
  ·rw [List.mem_range] at hk; exact .inl (by omega)
  ·rw [List.mem_range] at hk; exact .inr (by omega)
 ·rintro (h | h)
  ·exact .inl ⟨s.toNat,by rw [List.mem_range]; omega,by omega⟩
  ·exact .inr ⟨(s - 1000).toNat,by rw [List.mem_range]; omega,by omega⟩
theorem LS {g:bD}(aW:fZ g):(syms g).Nodup:=by
 have au:=aW.lq;unfold syms;rw [List.nodup_append];refine ⟨List.pairwise_map.2 ((List.nodup_range (n:=g.br.length)).imp λ{a b} h e=>h (by omega)),List.pairwise_map.2 ((List.nodup_range (n:=g.dE.length)).imp λ{a b} h e=>h (by omega)),λa aJ b ar=>?_⟩;obtain ⟨i,hi,rfl⟩:=List.mem_map.1 aJ;obtain ⟨j,ag,rfl⟩:=List.mem_map.1 ar;rw [List.mem_range] at hi;omega
structure y8 (g:bD) (K:List Item):Prop where
 a:fc gO K
 i:∀ x∈K,iL g x
theorem y8.len {g:bD}(aW:fZ g) {K:List Item}(h:y8 g K):K.length<=540:=tZ aW h.a h.i
theorem s9 (l:List Int) (x:Int) (h:l.length<=1000000):Tot (AJ l x) λc=>(c=true↔x∈l):=by
 unfold AJ;refine .aA (Ξ:=h4 (λ_=>x∉l) (λr:Bool=>r=true/\x∈l)) ?_ λr hr=>?_
 ·refine Tot.upto (λs=>s) l.length (λk s=>x∉l.take k) rfl (by omega) (by simp) λk s hk he bf=>?_;subst he;rw [et k (by omega)];refine Tot.bs (λaN=>?_) (λdH=>.al ?_)
  ·have aN:k<l.length:=by omega
   rw [dR aN];simp only [Option.bind_some];refine Tot.bs (λe=>.al ⟨rfl,by rw [<- e]; exact List.getElem_mem aN⟩) (λe=>.al ⟨aN,rfl,?_⟩);rw [l9 aN,List.mem_append,List.mem_singleton];exact λh=>h.elim bf λh=>e h.symm
  ·rw [List.take_of_length_le (by omega)] at bf;exact bf
 ·rcases r with r | r
  ·exact .al ⟨λh=>(by cases h),λh=>absurd h hr⟩
  ·obtain ⟨rfl,h⟩:=hr;exact .al ⟨λ_=>h,λ_=>rfl⟩
structure zb (g:bD) (n:Nat) (v:Move):Prop where
 s:v.Sym∈syms g
 t0:0<=v.r8
 t1:v.r8<n
structure nO (g:bD) (m:List State) (q j:Nat):Prop where
 gP:0<m.length
 nI:m.length<=150
 pZ:∀ st∈m,y8 g st.Kernel
 ms:∀ (i:Nat) (st:State),m[i]?=some st->(st.dX.map (·.Sym)).Sublist (if i<q then syms g else if i=q then (syms g).take j else [])
 aO:∀ st∈m,∀ v∈st.dX,zb g m.length v
structure nq (g:bD) (m:List State):Prop where
 gP:0<m.length
 nI:m.length<=150
 pZ:∀ st∈m,y8 g st.Kernel
 x3:∀ st∈m,st.dX.length<=64
 nd:∀ st∈m,(st.dX.map (·.Sym)).Nodup
 aO:∀ st∈m,∀ v∈st.dX,zb g m.length v
theorem zb.up {g:bD}{n cq:Nat}{v:Move}(h:zb g n v) (aB:n<=cq):zb g cq v:=⟨h.s,h.t0,by have:=h.t1; omega⟩
theorem nO.put {g:bD}{m:List State}{q j:Nat}(h:nO g m q j) {st:State}(a_:m[q]?=some st) {v:Move}(hv:zb g m.length v) (ag:(syms g)[j]?=some v.Sym):nO g (m.set q ⟨st.Kernel,st.dX++[v]⟩) q (j+1):=by
 have kL:=(List.getElem?_eq_some_iff.1 a_).1;have hm:=List.mem_of_getElem? a_;refine ⟨by rw [List.length_set]; exact h.gP,by rw [List.length_set]; exact h.nI,λs ax=>?_,λi s ax=>?_,λs ax w hw=>?_⟩
 ·rcases List.mem_or_eq_of_mem_set ax with aI | aI
  ·exact h.pZ s aI
  ·rw [aI]; exact h.pZ st hm
 ·rw [p6 kL] at ax;by_cases e:i=q
  ·subst e;rw [if_pos rfl] at ax; cases ax;have:=h.ms i st a_;rw [if_neg (by omega),if_pos rfl] at this ⊢;rw [List.map_append,List.take_add_one,ag];exact this.append (List.Sublist.refl _)
  ·rw [if_neg e] at ax;have:=h.ms i s ax;rw [if_neg e] at this ⊢;exact this
 ·rw [List.length_set];rcases List.mem_or_eq_of_mem_set ax with aI | aI
  ·exact h.aO s aI w hw
  ·rw [aI] at hw;rcases List.mem_append.1 hw with hw | hw
   ·exact h.aO st hm w hw
   ·rw [List.mem_singleton.1 hw]; exact hv
theorem nO.more {g:bD}{m:List State}{q j:Nat}(h:nO g m q j) (ah:m.length<150) {K:List Item}(hk:y8 g K):nO g (m++[⟨K,[]⟩]) q j:=by
 refine ⟨by simp,by simp; omega,λs ax=>?_,λi s ax=>?_,λs ax w hw=>?_⟩
 ·rcases List.mem_append.1 ax with ax | ax
  ·exact h.pZ s ax
  ·rw [List.mem_singleton.1 ax]; exact hk
 ·by_cases e:i<m.length
  ·rw [List.getElem?_append_left e] at ax; exact h.ms i s ax
  ·rw [List.getElem?_append_right (by omega)] at ax;have:s=⟨K,[]⟩:=by
    have:=List.mem_of_getElem? ax;simpa using this
   rw [this]; exact List.nil_sublist _
 ·rcases List.mem_append.1 ax with ax | ax
  ·exact (h.aO s ax w hw).up (by simp)
  ·rw [List.mem_singleton.1 ax] at hw; cases hw
theorem nO.mono {g:bD}{m:List State}{q j vW:Nat}(h:nO g m q j) (ag:j<=vW):nO g m q vW:=by
 refine ⟨h.gP,h.nI,h.pZ,λi s ax=>?_,h.aO⟩;have:=h.ms i s ax;split
 ·rename_i e; rw [if_pos e] at this; exact this
 ·rename_i e; rw [if_neg e] at this;split
  ·rename_i b4; rw [if_pos b4] at this;exact this.trans (List.take_sublist_take_left ag)
  ·rename_i b4; rw [if_neg b4] at this; exact this
theorem nO.next {g:bD}{m:List State}{q j:Nat}(h:nO g m q j):nO g m (q+1) 0:=by
 refine ⟨h.gP,h.nI,h.pZ,λi s ax=>?_,h.aO⟩;have:=h.ms i s ax;by_cases e:i<q+1
 ·rw [if_pos e]
  split at this
  ·exact this
  ·split at this
   ·exact this.trans (List.take_sublist _ _)
   ·exact this.trans (List.nil_sublist _)
 ·rw [if_neg (by omega),if_neg (by omega)] at this;rw [if_neg e];exact this.trans (List.nil_sublist _)
theorem Pl {α:Type}{m:List α}{q:Nat}{x:α}(h:m[q]?=some x):idx m (q:Int)=some x:=by simp [idx,h]
def GoTo (m:List State) (a s r:Int):Prop:=(r=-1/\∀ st,idx m a=some st->∀ v∈st.dX,v.Sym≠s)\/∃ st v,idx m a=some st/\v∈st.dX/\v.Sym=s/\r=v.r8
theorem E' (m:List State) (a s:Int) (hm:∀ st∈m,st.dX.length<=64):Tot (rQ m a s) (GoTo m a s):=by
 unfold rQ;by_cases aK:0<=a/\a<(m.length:Int)
 ·obtain ⟨st,bU,mT⟩:=nG aK.1 aK.2;have ah:=hm st mT;have d1:decide (0<=a)=true:=decide_eq_true aK.1;have d2:decide (a<(m.length:Int))=true:=decide_eq_true aK.2;rw [d1,d2];simp only [cond_true,bU,Option.bind_some];refine .aA (Ξ:=h4 (λ_=>∀ v∈st.dX,v.Sym≠s) (λr:Int=>∃ v,v∈st.dX/\v.Sym=s/\r=v.r8)) ?_ λx J=>?_
  ·refine Tot.upto (λs=>s) st.dX.length (λk _=>∀ v∈st.dX.take k,v.Sym≠s) rfl (by omega) (by simp) λk i hk he bf=>?_;subst he;rw [et k (by omega)];refine Tot.bs (λaN=>?_) (λdH=>.al (by
    show ∀ v∈st.dX,v.Sym≠s;rw [List.take_of_length_le (by omega)] at bf; exact bf))
   have aN:k<st.dX.length:=by omega
   rw [dR aN];simp only [Option.bind_some];refine Tot.bs (λe=>.al ⟨_,List.getElem_mem aN,e,rfl⟩) (λe=>.al ⟨aN,rfl,λv hv=>?_⟩);rw [l9 aN,List.mem_append,List.mem_singleton] at hv;rcases hv with hv | rfl
   ·exact bf v hv
   ·exact e
  ·rcases x with x | x
   ·exact .al (.inl ⟨rfl,λyI aI=>by rw [bU] at aI; cases aI; exact J⟩)
   ·obtain ⟨v,h1,af,aF⟩:=J;exact .al (.inr ⟨st,v,bU,h1,af,aF⟩)
 ·refine .aA (Ξ:=h4 (λ_=>True) (λ_:Int=>False)) (Tot.loop (λ_=>True) (λ_=>0) trivial (by show 0<1000000000000000000; omega) λi _=>?_) λx J=>?_
  ·refine .aA (Ξ:=λc=>c=false) ?_ λc aa=>by subst aa; exact .al trivial
   refine Tot.bs (λh1=>Tot.bs (λaf=>absurd ⟨h1,af⟩ aK) (λ_=>.al rfl)) (λ_=>.al rfl)
  ·rcases x with x | x
   ·refine .al (.inl ⟨rfl,λst aI=>absurd ⟨(kM aI).1,(kM aI).2.1⟩ aK⟩)
   ·exact J.elim
theorem GoTo.aU {g:bD}{m:List State}(hm:nq g m) {a s r:Int}(h:GoTo m a s r):-1<=r/\r<m.length:=by
 rcases h with ⟨rfl,_⟩ | ⟨st,v,h1,af,_,rfl⟩
 ·have:=hm.gP; exact ⟨by omega,by omega⟩
 ·have:=hm.aO st (kM h1).2.2 v af;exact ⟨by have:=this.t0; omega,this.t1⟩
theorem GoTo.yes {g:bD}{m:List State}(hm:nq g m) {a s r:Int}(h:GoTo m a s r) {st:State}{v:Move}(ax:idx m a=some st) (hv:v∈st.dX) (e:v.Sym=s):0<=r/\r<m.length:=by
 rcases h with ⟨rfl,h⟩ | ⟨st,v,h1,af,_,rfl⟩
 ·exact absurd e (h st ax v hv)
 ·have:=hm.aO st (kM h1).2.2 v af;exact ⟨this.t0,this.t1⟩
theorem M' {g:bD}{m:List State}(hm:nq g m) (a:Int) (l:List Int) (aJ:-1<=a/\a<m.length) (ah:l.length<=1000):Tot (AA m a l) λr=>-1<=r/\r<m.length:=by
 unfold AA;refine .aA (Ξ:=λr:Int=>-1<=r/\r<m.length) ?_ λr hr=>.al hr;refine Tot.upto (λs=>s.2) l.length (λ_ s=>-1<=s.1/\s.1<m.length) rfl (by omega) aJ λk s hk he bf=>?_;obtain ⟨r,i⟩:=s;simp only at he bf ⊢;subst he;rw [et k (by omega)];refine .aA (Ξ:=λc=>c=true->k<l.length) (Tot.bs (λh=>.al λ_=>by omega) (λ_=>.al λh=>by cases h)) λc aa=>Tot.bN (λh=>?_) (λ_=>.al bf);have aN:=aa h;rw [dR aN];exact Tot.aT (.aA (E' m r _ hm.x3) λz aX=>.al ⟨aN,rfl,aX.aU hm⟩)
def vf (m:List State) (t:Trans):Prop:=∃ st v,idx m t.State=some st/\v∈st.dX/\v.Sym=t.fJ/\1000<=t.fJ
structure wO (m:List State) (l:List Trans):Prop where
 n:l.length<=9600
 ok:∀ t∈l,vf m t
 dz:∀ (q:Nat) (st:State) (v:Move),m[q]?=some st->v∈st.dX->1000<=v.Sym->(⟨q,v.Sym⟩:Trans)∈l
theorem TK {g:bD}{m:List State}(hm:nq g m):Tot (qM m) (wO m):=by
 have aB:=hm.nI;unfold qM;refine .aA (Ξ:=wO m) ?_ λr hr=>.al hr;refine Tot.upto (λs=>s.2) m.length (λk s=>s.1.length<=64 * k/\(∀ t∈s.1,vf m t)/\∀ (q:Nat) (st:State) (v:Move),q<k->m[q]?=some st->v∈st.dX->1000<=v.Sym->(⟨q,v.Sym⟩:Trans)∈s.1) rfl (by omega) ⟨Nat.le_refl 0,λt h=>(by cases h),λq _ _ h=>absurd h (Nat.not_lt_zero _)⟩ λk s hk he bf=>?_;obtain ⟨l,i⟩:=s;obtain ⟨h1,af,aF⟩:=bf;simp only at he h1 af aF ⊢;subst he;rw [et k (by omega)];refine Tot.bs (λaN=>?_) (λdH=>.al ⟨?_,af,λq st v a_=>aF q st v ?_ a_⟩)
 ·have aN:k<m.length:=by omega
  have mS:m[k]?=some m[k]:=List.getElem?_eq_getElem aN;have mT:=List.getElem_mem aN;rw [dR aN];generalize m[k]=st at *;have vJ:=hm.x3 st mT;simp only [Option.bind_some];refine .aA (Ξ:=λAa:List Trans=>Aa.length<=64 * (k+1)/\(∀ t∈Aa,vf m t)/\(∀ t∈l,t∈Aa)/\∀ v∈st.dX,1000<=v.Sym->(⟨k,v.Sym⟩:Trans)∈Aa) ?_ λAa hP=>.al ⟨aN,rfl,hP.1,hP.2.1,λq yI v a_ bh b7 dp=>?_⟩
  ·refine Tot.upto (λs=>s.2) st.dX.length (λj s=>s.1.length<=64 * k+j/\(∀ t∈s.1,vf m t)/\(∀ t∈l,t∈s.1)/\∀ v∈st.dX.take j,1000<=v.Sym->(⟨k,v.Sym⟩:Trans)∈s.1) rfl (by omega) ⟨h1,af,λ_ h=>h,λv hv=>by simp at hv⟩ λj s ag he bf=>?_;obtain ⟨o,i⟩:=s;obtain ⟨g1,g2,g3,g4⟩:=bf;simp only at he g1 g2 g3 g4 ⊢;subst he;rw [et j (by omega)];refine Tot.bs (λaN=>?_) (λdH=>.al ⟨by show o.length<=_; omega,g2,g3,by
    rw [List.take_of_length_le (by omega)] at g4; exact g4⟩)
   have aN:j<st.dX.length:=by omega
   have fO:=l9 aN;have FQ:=List.getElem_mem aN;rw [dR aN];generalize st.dX[j]=v at *;simp only [Option.bind_some];refine .aA (Ξ:=λo:List Trans=>o.length<=64 * k+(j+1)/\(∀ t∈o,vf m t)/\(∀ t∈l,t∈o)/\∀ v∈st.dX.take (j+1),1000<=v.Sym->(⟨k,v.Sym⟩:Trans)∈o) ?_ λo aW=>.al ⟨aN,rfl,aW⟩;refine .aA (Ξ:=λo:List Trans=>o.length<=64 * k+(j+1)/\(∀ t∈o,vf m t)/\(∀ t∈l,t∈o)/\∀ v∈st.dX.take (j+1),1000<=v.Sym->(⟨k,v.Sym⟩:Trans)∈o) (Tot.bs (λh=>?_) (λh=>.al ⟨by omega,g2,g3,λw hw ax=>?_⟩)) λo aW=>.al aW
   ·refine .bK<|.al ⟨by simp; omega,λt au=>?_,λt au=>List.mem_append_left _ (g3 t au),λw hw ax=>?_⟩
    ·rcases List.mem_append.1 au with au | au
     ·exact g2 t au
     ·rw [List.mem_singleton.1 au];exact ⟨st,v,Pl mS,FQ,rfl,h⟩
    ·rw [fO,List.mem_append,List.mem_singleton] at hw;rcases hw with hw | rfl
     ·exact List.mem_append_left _ (g4 w hw ax)
     ·simp
   ·rw [fO,List.mem_append,List.mem_singleton] at hw;rcases hw with hw | rfl
    ·exact g4 w hw ax
    ·exact absurd ax h
  ·by_cases e:q=k
   ·subst e;rw [mS] at bh; cases bh;exact hP.2.2.2 v b7 dp
   ·exact hP.2.2.1 _ (aF q yI v (by omega) bh b7 dp)
 ·show l.length<=9600;omega
 ·have:=(List.getElem?_eq_some_iff.1 a_).1;omega
theorem BF (l:List Trans) (a n:Int) (ah:l.length<=9600):Tot (AF l a n) λr=>-1<=r/\r<l.length/\((⟨a,n⟩:Trans)∈l->0<=r):=by
 unfold AF;refine .aA (Ξ:=h4 (λ_=>(⟨a,n⟩:Trans)∉l) (λr:Int=>0<=r/\r<l.length)) ?_ λx J=>?_
 ·refine Tot.upto (λs=>s) l.length (λk _=>(⟨a,n⟩:Trans)∉l.take k) rfl (by omega) (by simp) λk i hk he bf=>?_;subst he;rw [et k (by omega)];refine Tot.bs (λaN=>?_) (λdH=>.al (by
   show (⟨a,n⟩:Trans)∉l;rw [List.take_of_length_le (by omega)] at bf; exact bf))
  have aN:k<l.length:=by omega
  have fO:=l9 aN;rw [dR aN];generalize l[k]=y at *;simp only [Option.bind_some];refine .aA (Ξ:=λc:Bool=>c=false->y≠⟨a,n⟩) (Tot.bs (λh=>.al λaI e=>?_) (λh=>.al λ_ e=>h (by rw [e]))) λc aa=>Tot.bN (λh=>.al ⟨by show (0:Int)<=k; omega,by show (k:Int)<_; omega⟩) (λh=>.al ⟨aN,rfl,?_⟩)
  ·have:=of_decide_eq_false aI;exact this (by rw [e])
  ·rw [fO,List.mem_append,List.mem_singleton];exact λaI=>aI.elim bf λe=>aa h e.symm
 ·rcases x with x | x
  ·refine .al ⟨by omega,by omega,λh=>absurd h J⟩
  ·have J:0<=x/\x<l.length:=J;exact .al ⟨by omega,J.2,λ_=>J.1⟩
theorem TO (l:List Item) (ah:l.length<=1000000):Tot (DK l) λ_=>True:=by
 unfold DK;refine .aA (Ξ:=λ_=>True) ?_ λx J=>by
  rcases x with x | x
  ·exact .al trivial
  ·exact .al trivial
 refine Tot.upto (λs=>s) l.length (λ_ _=>True) rfl (by omega) trivial λk i hk he _=>?_;subst he;rw [et k (by omega)];refine Tot.bs (λaN=>?_) (λ_=>.al trivial);have aN:k<l.length:=by omega
 rw [dR aN];simp only [Option.bind_some];refine .aA (Ξ:=λ_=>True) (Tot.bs (λ_=>.al trivial) (λ_=>.al trivial)) λc _=>Tot.bN (λ_=>.al trivial) (λ_=>.al ⟨aN,rfl,trivial⟩)
theorem Nb (B:List Bool) (l:List Int) (ah:l.length<=1000) (h:∀ s∈l,s<1000\/(1000<=s/\s - 1000<B.length)) (eY:B.length<=1000):Tot (AG B l) λ_=>True:=by
 unfold AG;refine .aA (Ξ:=λ_=>True) ?_ λx J=>by
  rcases x with x | x
  ·exact .al trivial
  ·exact .al trivial
 refine Tot.upto (λs=>s) l.length (λ_ _=>True) rfl (by omega) trivial λk i hk he _=>?_;subst he;rw [et k (by omega)];refine Tot.bs (λaN=>?_) (λ_=>.al trivial);have aN:k<l.length:=by omega
 have ao:=h _ (List.getElem_mem aN);rw [dR aN];generalize l[k]=y at *;simp only [Option.bind_some];refine .aA (Ξ:=λ_=>True) (Tot.bs (λ_=>.al trivial) (λh1=>?_)) λc _=>Tot.bN (λ_=>.al trivial) (λ_=>.al ⟨aN,rfl,trivial⟩);have hw:aG (y - 1000)=y - 1000:=by rw [cC]; omega
 rw [hw];obtain ⟨b,ar,_⟩:=nG (l:=B) (i:=y - 1000) (by omega) (by omega);rw [ar];exact .al trivial
theorem QJ {g:bD}(aQ:fZ g) {q:Prod}(a_:q∈g.bu) {B:List Bool}(eY:B.length=g.dE.length):∀ s∈q.dF,s<1000\/(1000<=s/\s - 1000<B.length):=λs ax=>by
 have au:=aQ.lq;have aB:=aQ.eZ;rcases (aQ.gC q a_).right s ax with h | h <;> omega
theorem Na (g:bD) (aQ:fZ g):Tot (AE g) λB=>B.length=g.dE.length:=by
 have au:=aQ.lq;have aB:=aQ.eZ;have aq:=aQ.jA;unfold AE;refine .aA (Ξ:=λB=>B=List.replicate g.dE.length false) (Tot.mk (by simp [lim]; omega) (by simp)) λach V6=>?_;subst V6;refine .aA (Ξ:=λB:List Bool=>B.length=g.dE.length) ?_ λB eY=>.al eY;refine Tot.loop (λs=>s.1.length=g.dE.length) (λs=>2 * (g.dE.length - iV s.1)+s.2.toNat) (by simp) (by
  show 2 * (g.dE.length - iV _)+1<1000000000000000000; omega) λs ax=>?_
 obtain ⟨B,f⟩:=s;simp only at ax ⊢;refine Tot.bN (λaV=>?_) (λ_=>.al ax);subst aV;refine .aA (Ξ:=λr:List Bool × Bool=>r.1.length=g.dE.length/\iV B<=iV r.1/\(r.2=true->iV B<iV r.1)) ?_ λr hr=>?_
 ·refine Tot.upto (λs=>s.2.2) g.bu.length (λ_ s=>s.1.length=g.dE.length/\iV B<=iV s.1/\(s.2.1=true->iV B<iV s.1)) rfl (by omega) ⟨ax,Nat.le_refl _,λh=>by cases h⟩ λk s hk he bf=>?_;obtain ⟨C,f,i⟩:=s;obtain ⟨h1,af,aF⟩:=bf;simp only at he h1 af aF ⊢;subst he;rw [et k (by omega)];refine Tot.bs (λaN=>?_) (λdH=>.al ⟨h1,af,aF⟩);have aN:k<g.bu.length:=by omega
  have kL:=List.getElem_mem aN;rw [dR aN];generalize g.bu[k]=q at *;have a_:=aQ.gC q kL;have OZ:=a_.left;obtain ⟨b,ar,_⟩:=nG (l:=C) (i:=q.Left) OZ.1 (by omega);simp only [Option.bind_some,ar];refine .aA (Ξ:=λr:List Bool × Bool=>r.1.length=g.dE.length/\iV B<=iV r.1/\(r.2=true->iV B<iV r.1)) ?_ λr hr=>.al ⟨aN,rfl,hr⟩;refine .aA (Ξ:=λc:Bool=>c=true->b=false) ?_ λc aa=>?_
  ·cases b with
   | true=>exact .al λh=>by cases h
   | false =>
    refine .aA (Nb C q.dF (by have:=aQ.aD q kL; omega) (QJ aQ kL h1) (by omega)) λ_ _=>.al λ_=>rfl
  ·refine .aA (Ξ:=λr:List Bool × Bool=>r.1.length=g.dE.length/\iV B<=iV r.1/\(r.2=true->iV B<iV r.1)) (Tot.bN (λh=>.al ?_) (λh=>.al ⟨h1,af,aF⟩)) λr hr=>.al hr;have W6:=aa h;subst W6;have zT:q.Left.toNat<C.length:=by omega
   have mS:C.getD q.Left.toNat false=false:=by
    unfold idx at ar;rw [if_pos OZ.1] at ar;rw [List.getD_eq_getElem?_getD,ar]; rfl
   have:=Ng C q.Left.toNat zT mS;exact ⟨by rw [List.length_set]; exact h1,by show iV B<=iV (C.set _ _); omega,λ_=>by show iV B<iV (C.set _ _); omega⟩
 ·obtain ⟨h1,af,aF⟩:=hr;refine .al ⟨h1,?_⟩;have aa:=Uc r.1;show 2 * (g.dE.length - iV r.1)+r.2.toNat<2 * (g.dE.length - iV B)+true.toNat;cases hC:r.2 with
  | false=>simp only [Bool.toNat_false,Bool.toNat_true]; omega
  | true =>
   have:=aF hC;simp only [Bool.toNat_true]; omega
structure jm (T:Nat) (r:List Int):Prop where
 a:fc iO r
 i:∀ x∈r,0<=x/\x<T
theorem jm.len {T:Nat}{r:List Int}(h:jm T r):r.length<=T:=by
 have:=Ai (m:=(List.range T).map λk:Nat=>(k:Int)) (h.a.nd Gr) λx J=>by
  have:=h.i x J;exact List.mem_map.2 ⟨x.toNat,by rw [List.mem_range]; omega,by omega⟩
 grind
theorem jm.nil {T:Nat}:jm T []:=⟨.nil,λx h=>by cases h⟩
theorem jm.put {T:Nat}(cV:T<=100000) {r:List Int}(h:jm T r) {x:Int}(J:0<=x/\x<T):Tot (qN r x) λc'=>jm T c'/\r.length<=c'.length:=by
 have ah:=h.len;refine (Fa r x h.a (by omega)).use λc' dI=>⟨⟨dI.1,λy ao=>?_⟩,Ai (h.a.nd Gr) λy ao=>(dI.2.2 y).2 (.inl ao)⟩;rcases (dI.2.2 y).1 ao with aI | rfl
 ·exact h.i y aI
 grind
def ng (L:List (List Int)) (i:Nat):Nat:=(L.getD i []).length
def jB (L:List (List Int)):Nat:=(L.map List.length).sum
theorem Ry:∀ (L L':List (List Int)),L.length=L'.length->(∀ i,ng L i<=ng L' i)->jB L<=jB L'/\((∃ i,ng L i<ng L' i)->jB L<jB L')
 | [],[],_,_=>⟨Nat.le_refl _,λ⟨i,h⟩=>absurd h (Nat.lt_irrefl _)⟩
 | a::L,b::L',ah,h=>by
  obtain ⟨h1,af⟩:=Ry L L' (by simpa using ah) λi=>by simpa [ng] using h (i+1)
  have aK:a.length<=b.length:=by simpa [ng] using h 0
  have ca:jB (a::L)=a.length+jB L:=by simp [jB]
  have b6:jB (b::L')=b.length+jB L':=by simp [jB]
  rw [ca,b6];refine ⟨by omega,λ⟨i,hi⟩=>?_⟩;cases i with
  | zero =>
   have:a.length<b.length:=by simpa [ng] using hi
   omega
  | succ i =>
   have:=af ⟨i,by simpa [ng] using hi⟩;omega
def Sets (T:Nat) (L:List (List Int)):Prop:=∀ r∈L,jm T r
theorem Rx {T:Nat}:∀ {L:List (List Int)},Sets T L->jB L<=L.length * T
 | [],_=>by simp [jB]
 | a::L,h=>by
  have h1:=(h a (by simp)).len;have af:=Rx (L:=L) λr hr=>h r (by simp [hr]);have ca:jB (a::L)=a.length+jB L:=by simp [jB]
  rw [ca,List.length_cons,Nat.succ_mul]; omega
structure pD (T:Nat) (L L':List (List Int)):Prop where
 n:L'.length=L.length
 s:Sets T L'
 u:∀ i,ng L i<=ng L' i
theorem pD.refl {T:Nat}{L:List (List Int)}(h:Sets T L):pD T L L:=⟨rfl,h,λ_=>Nat.le_refl _⟩
theorem pD.trans {T:Nat}{A B C:List (List Int)}(h:pD T A B) (aI:pD T B C):pD T A C:=⟨aI.n.trans h.n,aI.s,λi=>Nat.le_trans (h.u i) (aI.u i)⟩
theorem pD.set {T:Nat}{L:List (List Int)}{k:Nat}{r c':List Int}(ax:Sets T L) (hk:L[k]?=some r) (h:jm T c') (ah:r.length<=c'.length):pD T L (L.set k c'):=by
 have du:=(List.getElem?_eq_some_iff.1 hk).1;refine ⟨List.length_set ..,λx J=>?_,λi=>?_⟩
 ·rcases List.mem_or_eq_of_mem_set J with aI | aI
  ·exact ax x aI
  grind
 grind [ng]
theorem YN {L:List (List Int)}{k:Nat}{r:List Int}(h:L[k]?=some r):ng L k=r.length:=by
 grind [ng]
theorem YL {α:Type}{l:List α}{i:Int}{y:α}(h:idx l i=some y):l[i.toNat]?=some y:=by
 grind [idx]
theorem M_ (T:Nat) (cV:T<=1000) (a0 aw:List (List Int)) (aB:a0.length<=9600) (he:aw.length=a0.length) (aK:Sets T a0) (h1:Sets a0.length aw):Tot (Az a0 aw) λr=>r.length=a0.length/\Sets T r:=by
 unfold Az;refine .aA (Ξ:=λr:List (List Int)=>r.length=a0.length/\Sets T r) ?_ λr hr=>.al hr;have ar:a0.length * T<=9600 * 1000:=Nat.mul_le_mul aB cV;refine Tot.loop (λs=>s.1.length=a0.length/\Sets T s.1) (λs=>2 * (a0.length * T - jB s.1)+s.2.toNat) ⟨rfl,aK⟩ (by
  show 2 * (a0.length * T - jB _)+1<1000000000000000000;omega) λs ax=>?_
 obtain ⟨L,f⟩:=s;obtain ⟨ah,ax⟩:=ax;simp only at ah ax ⊢;refine Tot.bN (λaV=>?_) (λ_=>.al ⟨ah,ax⟩);subst aV;refine .aA (Ξ:=λr:List (List Int) × Bool=>pD T L r.1/\(r.2=true->∃ i,ng L i<ng r.1 i)) ?_ λr hr=>?_
 ·refine Tot.upto (λs=>s.2.2) L.length (λ_ s=>pD T L s.1/\(s.2.1=true->∃ i,ng L i<ng s.1 i)) rfl (by omega) ⟨.refl ax,λh=>by cases h⟩ λk s hk h8 bf=>?_;obtain ⟨C,f,i⟩:=s;obtain ⟨hu,mR⟩:=bf;simp only at h8 hu mR ⊢;subst h8;rw [et k (by omega)];have O7:=hu.n;refine Tot.bs (λaN=>?_) (λdH=>.al ⟨hu,mR⟩);have OH:k<C.length:=by omega
  have gy:k<aw.length:=by omega
  have aeX:C[k]?=some C[k]:=List.getElem?_eq_getElem OH;have ru:=h1 _ (List.getElem_mem gy);rw [dR gy,dR OH];generalize aw[k]=row at *;generalize C[k]=nc at *;simp only [Option.bind_some];have oH:=ru.len;refine .aA (Ξ:=λD:List (List Int)=>pD T C D) ?_ λD h7=>?_
  ·refine Tot.upto (λs=>s.2) row.length (λ_ s=>pD T C s.1) rfl (by omega) (.refl hu.s) λj s ag h8 bf=>?_;obtain ⟨D,i⟩:=s;simp only at h8 bf ⊢;subst h8;rw [et j (by omega)];have V':=bf.n;refine Tot.bs (λaN=>?_) (λ_=>.al bf);have aN:j<row.length:=by omega
   have ao:=ru.i _ (List.getElem_mem aN);rw [dR aN];generalize row[j]=y at *;simp only [Option.bind_some];refine .aA (Ξ:=λE:List (List Int)=>pD T C E) ?_ λE lz=>.al ⟨aN,rfl,lz⟩;refine Tot.count (λs=>s.2) T (λs=>∃ n:Nat,s.2=(n:Int)/\pD T C s.1) ⟨0,rfl,bf⟩ (by show (T:Int) - 0<_; omega) λs ax=>?_;obtain ⟨E,i⟩:=s;obtain ⟨n,FG,lz⟩:=ax;simp only at FG lz ⊢;subst FG;have aeK:=lz.n;obtain ⟨z,aX,Ku⟩:=nG (l:=E) (i:=y) ao.1 (by omega);have l2:=lz.s z Ku;have uF:=l2.len;have JP:k<E.length:=by omega
   have Xp:E[k]?=some E[k]:=List.getElem?_eq_getElem JP;rw [aX];simp only [Option.bind_some];refine Tot.bs (λaN=>?_) (λ_=>.al lz);have aN:n<z.length:=by omega
   rw [et n (by omega),dR JP,dR aN];simp only [Option.bind_some];refine .aA ((lz.s _ (List.getElem_mem JP)).put (by omega) (l2.i _ (List.getElem_mem aN))) λc' dI=>.al ⟨⟨n+1,rfl,?_⟩,by show (n:Int)<((n+1:Nat):Int); omega,by show ((n+1:Nat):Int)<=T; omega⟩;exact lz.trans (.set lz.s Xp dI.1 dI.2)
  ·have V':=h7.n;have OI:k<D.length:=by omega
   have aeY:D[k]?=some D[k]:=List.getElem?_eq_getElem OI;have z6:=hu.trans h7;refine .aA (Ξ:=λc:Bool=>c=true->∃ i,ng L i<ng D i) ?_ λc aa=>.al ⟨by omega,rfl,z6,aa⟩;refine Tot.bN (λaV=>.al λ_=>?_) (λ_=>?_)
   ·obtain ⟨i,hi⟩:=mR aV;exact ⟨i,Nat.lt_of_lt_of_le hi (h7.u i)⟩
   ·rw [dR OI];refine Tot.aT (.al λh=>⟨k,?_⟩);have aF:=h7.u k;have bh:=hu.u k
    grind [YN]
 ·obtain ⟨hu,aV⟩:=hr;have CL:=hu.n;obtain ⟨aF,bh⟩:=Ry L r.1 CL.symm hu.u;have b7:=Rx hu.s;rw [show r.1.length=a0.length by omega] at b7;refine .al ⟨⟨by show r.1.length=_; omega,hu.s⟩,?_⟩;show 2 * (a0.length * T - jB r.1)+r.2.toNat<2 * (a0.length * T - jB L)+true.toNat;cases hC:r.2 with
  | false=>simp only [Bool.toNat_false,Bool.toNat_true]; omega
  | true =>
   grind
theorem nq.sym {g:bD}(aQ:fZ g) {m:List State}(hm:nq g m) {st:State}(bU:st∈m) {v:Move}(hv:v∈st.dX):0<=v.Sym/\(v.Sym<1000->v.Sym<g.br.length)/\(1000<=v.Sym->v.Sym - 1000<g.dE.length):=by
 have au:=aQ.lq;rcases PT.1 (hm.aO st bU v hv).s with h | h
 ·exact ⟨h.1,λ_=>h.2,λaI=>by omega⟩
 ·exact ⟨by omega,λaI=>by omega,λ_=>by omega⟩
theorem vf.go {g:bD}{m:List State}(hm:nq g m) {t:Trans}(h:vf m t):Tot (rQ m t.State t.fJ) λr=>0<=r/\r<m.length:=by
 obtain ⟨st,v,h1,af,aF,_⟩:=h;exact (E' m t.State t.fJ hm.x3).use λr hr=>hr.yes hm h1 af aF
theorem Q' {T:Nat}{L:List (List Int)}{r:List Int}(h:Sets T L) (hr:jm T r):Sets T (L++[r]):=λx J=>by
 rcases List.mem_append.1 J with J | J
 ·exact h x J
 ·rw [List.mem_singleton.1 J]; exact hr
theorem TH (g:bD) (aQ:fZ g) {m:List State}(hm:nq g m):Tot (DC m) λr=>∃ c3,qM m=some c3/\wO m c3/\r.length=c3.length/\Sets g.br.length r:=by
 have au:=aQ.lq;obtain ⟨c3,qp,hQ⟩:=TK hm;have xH:=hQ.n;unfold DC;rw [qp];refine Tot.aT (.aA (Ξ:=λr:List (List Int)=>r.length=c3.length/\Sets g.br.length r) ?_ λr hr=>.al ⟨c3,rfl,hQ,hr⟩);refine Tot.upto (λs=>s.2) c3.length (λk s=>s.1.length=k/\Sets g.br.length s.1) rfl (by omega) ⟨rfl,λr h=>by cases h⟩ λk s hk he bf=>?_;obtain ⟨L,i⟩:=s;obtain ⟨h1,af⟩:=bf;simp only at he h1 af ⊢;subst he;rw [et k (by omega)];refine Tot.bs (λaN=>?_) (λdH=>.al ⟨by show L.length=_; omega,af⟩);have aN:k<c3.length:=by omega
 have fO:=hQ.ok _ (List.getElem_mem aN);rw [dR aN];generalize c3[k]=t at *;simp only [Option.bind_some];refine .aA (fO.go hm) λto CS=>?_;obtain ⟨st,bU,qB⟩:=nG CS.1 CS.2;have c6:=hm.pZ st qB;have vJ:=hm.x3 st qB;rw [bU];simp only [Option.bind_some];refine .aA (TO _ (by have:=c6.len aQ; omega)) λc _=>?_;refine .aA (Ξ:=jm g.br.length) (Tot.bN (λ_=>?_) (λ_=>.al .nil)) λA1 zX=>?_
 ·refine .aA (Ξ:=λ_=>True) (Tot.ap (by simp [lim]) trivial) λ_ _=>.al ⟨List.pairwise_singleton ..,λx J=>?_⟩;rw [List.mem_singleton.1 J]; omega
 refine .aA (Ξ:=jm g.br.length) ?_ λr hr=>?_
 ·refine Tot.upto (λs=>s.2) st.dX.length (λk s=>jm g.br.length s.1) rfl (by omega) zX λj s ag he bf=>?_;obtain ⟨r,i⟩:=s;simp only at he bf ⊢;subst he;rw [et j (by omega)];refine Tot.bs (λaN=>?_) (λ_=>.al bf);have aN:j<st.dX.length:=by omega
  have hv:=hm.sym aQ qB (List.getElem_mem aN);rw [dR aN];generalize st.dX[j]=v at *;simp only [Option.bind_some];refine .aA (Ξ:=jm g.br.length) ?_ λr hr=>.al ⟨aN,rfl,hr⟩;refine .aA (Ξ:=jm g.br.length) (Tot.bs (λh=>?_) (λ_=>.al bf)) λr hr=>.al hr;exact .aA (bf.put (by omega) ⟨hv.1,hv.2.1 h⟩) λr hr=>.al hr.1
 ·refine .bK<|.al ⟨aN,rfl,by simp; omega,Q' af hr⟩
theorem TI (g:bD) (aQ:fZ g) {m:List State}(hm:nq g m) {c3:List Trans}(qp:qM m=some c3) (hQ:wO m c3):Tot (DD g m) λr=>r.length=c3.length/\Sets c3.length r:=by
 have au:=aQ.lq;have rp:=aQ.eZ;have xH:=hQ.n;unfold DD;rw [qp];refine Tot.aT (.aA (Na g aQ) λB eY=>.aA (Ξ:=λr:List (List Int)=>r.length=c3.length/\Sets c3.length r) ?_ λr hr=>.al hr);refine Tot.upto (λs=>s.2) c3.length (λk s=>s.1.length=k/\Sets c3.length s.1) rfl (by omega) ⟨rfl,λr h=>by cases h⟩ λk s hk he bf=>?_;obtain ⟨L,i⟩:=s;obtain ⟨h1,af⟩:=bf;simp only at he h1 af ⊢;subst he;rw [et k (by omega)];refine Tot.bs (λaN=>?_) (λdH=>.al ⟨by show L.length=_; omega,af⟩);have aN:k<c3.length:=by omega
 have fO:=hQ.ok _ (List.getElem_mem aN);rw [dR aN];generalize c3[k]=t at *;simp only [Option.bind_some];refine .aA (fO.go hm) λto CS=>?_;obtain ⟨st,bU,qB⟩:=nG CS.1 CS.2;have o':=YL bU;have vJ:=hm.x3 st qB;rw [bU];simp only [Option.bind_some];refine .aA (Ξ:=jm c3.length) ?_ λr hr=>?_
 ·refine Tot.upto (λs=>s.2) st.dX.length (λk s=>jm c3.length s.1) rfl (by omega) .nil λj s ag he bf=>?_;obtain ⟨r,i⟩:=s;simp only at he bf ⊢;subst he;rw [et j (by omega)];refine Tot.bs (λaN=>?_) (λ_=>.al bf);have aN:j<st.dX.length:=by omega
  have FQ:=List.getElem_mem aN;have hv:=hm.sym aQ qB FQ;rw [dR aN];generalize st.dX[j]=v at *;simp only [Option.bind_some];refine .aA (Ξ:=jm c3.length) ?_ λr hr=>.al ⟨aN,rfl,hr⟩;refine .aA (Ξ:=λc:Bool=>c=true->1000<=v.Sym) (Tot.bs (λh=>?_) (λ_=>.al λh=>by cases h)) λc aa=>?_
  ·have hw:aG (v.Sym - 1000)=v.Sym - 1000:=by
    have:=hv.2.2 h;rw [cC]; omega
   rw [hw];obtain ⟨b,ar,_⟩:=nG (l:=B) (i:=v.Sym - 1000) (by omega) (by have:=hv.2.2 h; omega);rw [ar];exact Tot.aT (.al λ_=>h)
  ·refine .aA (Ξ:=jm c3.length) (Tot.bN (λh=>?_) (λ_=>.al bf)) λr hr=>.al hr;have zO:=hQ.dz to.toNat st v o' FQ (aa h);rw [show ((to.toNat:Nat):Int)=to by omega] at zO;refine .aA (BF c3 to v.Sym xH) λz aX=>?_;exact .aA (bf.put (by omega) ⟨aX.2.2 zO,aX.2.1⟩) λr hr=>.al hr.1
 ·refine .bK<|.al ⟨aN,rfl,by simp; omega,Q' af hr⟩
theorem TJ (g:bD) (aQ:fZ g) {m:List State}(hm:nq g m) {c3:List Trans}(qp:qM m=some c3) (hQ:wO m c3):Tot (DE g m) λr=>r.length=c3.length/\Sets c3.length r:=by
 have au:=aQ.lq;have rp:=aQ.eZ;have sr:=aQ.jA;have xH:=hQ.n;unfold DE;rw [qp];refine Tot.aT (.aA (Na g aQ) λB eY=>.aA (Ξ:=λr=>r=List.replicate c3.length ([]:List Int)) (Tot.mk (by simp [lim]; omega) (by simp)) λacn Wj=>.aA (Ξ:=λr:List (List Int)=>r.length=c3.length/\Sets c3.length r) ?_ λr hr=>.al hr);subst Wj;have acg:∀ {L:List (List Int)},(L.length=c3.length/\Sets c3.length L)->∀ {z:Int}{r c':List Int},idx L z=some r->jm c3.length c'->(L.set z.toNat c').length=c3.length/\Sets c3.length (L.set z.toNat c'):=λ{L} fM {z r c'} _ dI=>⟨by rw [List.length_set]; exact fM.1,λx J=>by
  rcases List.mem_or_eq_of_mem_set J with aI | aI
  ·exact fM.2 x aI
  ·rw [aI]; exact dI⟩
 refine Tot.upto (λs=>s.2) c3.length (λk s=>s.1.length=c3.length/\Sets c3.length s.1) rfl (by omega) ⟨by simp,λr h=>by rw [List.eq_of_mem_replicate h]; exact .nil⟩ λk s hk he bf=>?_;obtain ⟨L,i⟩:=s;simp only at he bf ⊢;subst he;rw [et k (by omega)];refine Tot.bs (λaN=>?_) (λdH=>.al bf);have aN:k<c3.length:=by omega
 have fO:=hQ.ok _ (List.getElem_mem aN);rw [dR aN];generalize c3[k]=t at *;simp only [Option.bind_some];refine .aA (Ξ:=λr:List (List Int)=>r.length=c3.length/\Sets c3.length r) ?_ λr hr=>.al ⟨aN,rfl,hr⟩;refine Tot.upto (λs=>s.2) g.bu.length (λk s=>s.1.length=c3.length/\Sets c3.length s.1) rfl (by omega) bf λp s aq he bf=>?_;obtain ⟨L,i⟩:=s;simp only at he bf ⊢;subst he;rw [et p (by omega)];refine Tot.bs (λFF=>?_) (λdH=>.al bf);have FF:p<g.bu.length:=by omega
 have kL:=List.getElem_mem FF;rw [dR FF];generalize g.bu[p]=q at *;have a_:=aQ.gC q kL;have CL:=aQ.aD q kL;have l0:=QJ aQ kL eY;simp only [Option.bind_some];refine .aA (Ξ:=λr:List (List Int)=>r.length=c3.length/\Sets c3.length r) ?_ λr hr=>.al ⟨FF,rfl,hr⟩;refine Tot.bN (λ_=>.al bf) (λ_=>.aA (Ξ:=λr:List (List Int)=>r.length=c3.length/\Sets c3.length r) ?_ λr hr=>.al hr);refine Tot.upto (λs=>s.2) q.dF.length (λk s=>s.1.length=c3.length/\Sets c3.length s.1) rfl (by omega) bf λj s ag he bf=>?_;obtain ⟨L,i⟩:=s;simp only at he bf ⊢;subst he;rw [et j (by omega)];refine Tot.bs (λfW=>?_) (λdH=>.al bf);have fW:j<q.dF.length:=by omega
 rw [dR fW];generalize q.dF[j]=y at *;simp only [Option.bind_some];refine .aA (Ξ:=λr:List (List Int)=>r.length=c3.length/\Sets c3.length r) ?_ λr hr=>.al ⟨fW,rfl,hr⟩;refine .aA (Ξ:=λ_=>True) (Tot.bs (λ_=>.al trivial) (λ_=>?_)) λc _=>Tot.bN (λ_=>.al bf) (λ_=>?_)
 ·refine .aA (Ξ:=λr=>r=q.dF.drop (j+1)) (Tot.sub ⟨by omega,by omega,by omega⟩ ?_) λr hr=>?_
  ·rw [List.take_of_length_le]
   ·congr 1
   ·rw [List.length_drop]; omega
  ·subst hr;exact .aA (Nb B _ (by rw [List.length_drop]; omega) (λs ax=>l0 s (List.mem_of_mem_drop ax)) (by omega)) λ_ _=>.al trivial
 refine .aA (Ξ:=λr=>r.length<=8) (Tot.sub ⟨by omega,by omega,by omega⟩ (by rw [List.length_take,List.length_drop]; omega)) λr hr=>?_;obtain ⟨st,_,bU,_⟩:=fO;have Ka:=kM bU;refine .aA (M' hm t.State r ⟨by omega,Ka.2.1⟩ (by omega)) λz aX=>?_;refine .aA (Ξ:=λr:List (List Int)=>r.length=c3.length/\Sets c3.length r) (Tot.bN (λ_=>?_) (λ_=>.al bf)) λr hr=>.al hr;refine .aA (BF c3 z y xH) λn aB=>?_;refine .aA (Ξ:=λr:List (List Int)=>r.length=c3.length/\Sets c3.length r) (Tot.bs (λaK=>?_) (λ_=>.al bf)) λr hr=>.al hr;obtain ⟨A1,zX,zZ⟩:=nG (l:=L) aK (by rw [bf.1]; exact aB.2.1);rw [zX];refine Tot.aT (.aA ((bf.2 A1 zZ).put (by omega) ⟨by omega,by omega⟩) λc' dI=>.al (acg bf zX dI.1))
theorem T1 (g:bD) (aQ:fZ g) {m:List State}(hm:nq g m):Tot (AY g m) λr=>∃ c3,qM m=some c3/\wO m c3/\r.length=c3.length/\Sets g.br.length r:=by
 have au:=aQ.lq;unfold AY;refine .aA (TH g aQ hm) λuV h1=>?_;obtain ⟨c3,qp,hQ,zR,xE⟩:=h1;have xH:=hQ.n;refine .aA (TI g aQ hm qp hQ) λiQ af=>.aA (M_ g.br.length (by omega) uV iQ (by omega) (by omega) xE (by rw [zR]; exact af.2)) λwq aF=>?_;refine .aA (TJ g aQ hm qp hQ) λuW bh=>.aA (M_ g.br.length (by omega) wq uW (by omega) (by omega) aF.2 (by rw [aF.1,zR]; exact bh.2)) λGH b7=>?_;exact .al ⟨c3,qp,hQ,by omega,b7.2⟩
def oX (g:bD) (p:Int):Prop:=0<p/\p<g.bu.length
theorem T2 (g:bD) (aQ:fZ g) {m:List State}(hm:nq g m) {c3:List Trans}(qp:qM m=some c3) (hQ:wO m c3) (q p:Int):Tot (D1 g m q p) λr=>r.length<=9600/\∀ x∈r,0<=x/\x<c3.length:=by
 have xH:=hQ.n;have sr:=aQ.jA;have rp:=aQ.eZ;unfold D1;refine .aA (Ξ:=λc:Bool=>c=false->0<=p/\p<g.bu.length) (Tot.bs (λ_=>.al λh=>by cases h) (λ_=>Tot.bs (λ_=>.al λh=>by cases h) (λ_=>Tot.bs (λ_=>.al λh=>by cases h) (λh=>.al λaI=>by have:=of_decide_eq_false aI; omega)))) λc aa=>Tot.bN (λ_=>.al ⟨Nat.zero_le _,λx h=>by cases h⟩) (λh=>?_);obtain ⟨aK,h1⟩:=aa h;rw [qp];refine Tot.aT ?_;refine .aA (Ξ:=λr:List Int=>r.length<=9600/\∀ x∈r,0<=x/\x<c3.length) ?_ λr hr=>.al hr;obtain ⟨gC,FL,J8⟩:=nG aK h1;have CL:=aQ.aD gC J8;refine Tot.upto (λs=>s.2) c3.length (λk s=>s.1.length<=k/\∀ x∈s.1,0<=x/\x<c3.length) rfl (by omega) ⟨Nat.le_refl 0,λp h=>by cases h⟩ λk s hk he bf=>?_;obtain ⟨L,i⟩:=s;obtain ⟨af,aF⟩:=bf;simp only at he af aF ⊢;subst he;rw [et k (by omega)];refine Tot.bs (λaN=>?_) (λdH=>.al ⟨by show L.length<=_; omega,aF⟩);have aN:k<c3.length:=by omega
 have fO:=hQ.ok _ (List.getElem_mem aN);rw [dR aN,FL];generalize c3[k]=t at *;obtain ⟨st,_,bU,_⟩:=fO;have Ka:=kM bU;simp only [Option.bind_some];refine .aA (Ξ:=λL:List Int=>L.length<=k+1/\∀ x∈L,0<=x/\x<c3.length) ?_ λr hr=>.al ⟨aN,rfl,hr⟩;refine .aA (Ξ:=λ_=>True) (Tot.bs (λh=>?_) (λ_=>.al trivial)) λc aa=>?_
 ·exact .aA (M' hm t.State gC.dF ⟨by omega,Ka.2.1⟩ (by omega)) λ_ _=>.al trivial
 refine .aA (Ξ:=λL:List Int=>L.length<=k+1/\∀ x∈L,0<=x/\x<c3.length) (Tot.bN (λh=>?_) (λ_=>.al ⟨by omega,aF⟩)) λr hr=>.al hr;refine .bK<|.al ⟨by simp; omega,λp aq=>?_⟩;rcases List.mem_append.1 aq with aq | aq
 ·exact aF p aq
 ·rw [List.mem_singleton.1 aq]; exact ⟨by omega,by omega⟩
structure za (g:bD) (l:lM):Prop where
 p:oX g l.Prod
 t:jm g.br.length l.br
def oh (c:Cell):Nat:=c.bu.length+(if 0<=c.k3 then 1 else 0)+(if c.nN then 1 else 0)
theorem abh {x:Option Int}{c:Cell}(ah:c.bu.length<=1000) (e:x=(((bif decide (0<=c.k3) then
some (aG ((c.bu.length:Int)+1))
else
some (c.bu.length:Int))).bind λlE =>
((bif c.nN then
some (aG (lE+1))
else
some lE)).bind λhF =>
some hF)):x=some (oh c:Int):=by
 subst e;have hw:aG ((c.bu.length:Int)+1)=(c.bu.length:Int)+1:=by rw [cC]; omega
 have Kk:aG ((c.bu.length:Int)+1+1)=(c.bu.length:Int)+1+1:=by rw [cC]; omega
 unfold oh;by_cases h:0<=c.k3
 ·cases af:c.nN <;> simp [h,hw,Kk]
 ·cases af:c.nN <;> simp [h,hw]
theorem Nt (c:Cell) (ah:c.bu.length<=1000):AS c=some (oh c:Int):=abh ah (by unfold AS; rfl)
structure py (g:bD) (n:Nat) (c:Cell):Prop where
 s:0<=c.State/\c.State<n
 t:0<=c.b5/\c.b5<g.br.length
 f:-1<=c.k3/\c.k3<n
 p:fc iO c.bu
 q:∀ p∈c.bu,oX g p
 Rw:0<oh c
theorem py.len {g:bD}(aQ:fZ g) {n:Nat}{c:Cell}(h:py g n c):c.bu.length<=60:=by
 have:=aQ.jA;have:=jm.len (T:=g.bu.length) ⟨h.p,λx J=>⟨by have:=(h.q x J).1; omega,(h.q x J).2⟩⟩;omega
def yX (a b:Cell):Prop:=a.State<b.State\/(a.State=b.State/\a.b5<b.b5)
structure Be (g:bD) (n:Nat) (l:List Cell):Prop where
 ok:∀ c∈l,py g n c
 afx:l.Pairwise yX
 n:l.length<=6000
theorem f128 (m:List State) (k:List Item) (aK:m.length<=1000) (h1:∀ st∈m,st.Kernel.length<=1000000):Tot (DA m k) λr=>-1<=r/\r<m.length/\(0<=r->∃ st,m[r.toNat]?=some st/\st.Kernel=k):=by
 unfold DA;refine .aA (Ξ:=h4 (λ_=>True) (λr:Int=>0<=r/\r<m.length/\∃ st,m[r.toNat]?=some st/\st.Kernel=k)) ?_ λx J=>?_
 ·refine Tot.upto (λs=>s) m.length (λ_ _=>True) rfl (by omega) trivial λj s ag he _=>?_;subst he;rw [et j (by omega)];refine Tot.bs (λaN=>?_) (λdH=>.al trivial);have aN:j<m.length:=by omega
  rw [dR aN];refine Tot.aT (.aA (TN _ k (h1 _ (List.getElem_mem aN))) λc aa=>Tot.bN (λh=>.al ⟨by omega,by omega,m[j],?_,aa.1 h⟩) (λh=>.al ⟨aN,rfl,trivial⟩));rw [Int.toNat_natCast]; exact List.getElem?_eq_getElem aN
 ·rcases x with x | x
  ·exact .al ⟨by omega,by omega,λh=>by omega⟩
  ·have J:0<=x/\x<m.length/\∃ st,m[x.toNat]?=some st/\st.Kernel=k:=J;exact .al ⟨by omega,by omega,λ_=>J.2.2⟩
structure j6 (g:bD) (m:List State) (q j:Nat):Prop where
 k0:∃ st,m[0]?=some st/\st.Kernel=[(⟨0,0⟩:Item)]
 aO:∀ (i:Nat) (st:State),m[i]?=some st->∀ v∈st.dX,(∃ (t:Nat) (u:State),v.r8=(t:Int)/\m[t]?=some u/\∀ y,y∈u.Kernel↔qd g st.Kernel v.Sym y)/\∃ y,qd g st.Kernel v.Sym y
 dz:∀ (i:Nat) (st:State),m[i]?=some st->∀ (k:Nat) (s:Int),(syms g)[k]?=some s->(i<q\/(i=q/\k<j))->∀ y,qd g st.Kernel s y->∃ v∈st.dX,v.Sym=s
theorem j6.skip {g:bD}{m:List State}{q j:Nat}(h:j6 g m q j) {st:State}{s:Int}(a_:m[q]?=some st) (ax:(syms g)[j]?=some s) (aB:∀ y,¬ qd g st.Kernel s y):j6 g m q (j+1):=by
 refine ⟨h.k0,h.aO,λi u hu k cz hk aa y ao=>?_⟩;by_cases e:i=q/\k=j
 ·obtain ⟨rfl,rfl⟩:=e;rw [a_] at hu; cases hu;rw [ax] at hk; cases hk;exact absurd ao (aB y)
 ·exact h.dz i u hu k cz hk (by omega) y ao
theorem j6.more {g:bD}{m:List State}{q j:Nat}(h:j6 g m q j) (ah:q<m.length) (K:List Item):j6 g (m++[⟨K,[]⟩]) q j:=by
 have up:∀ {i:Nat}{u:State},m[i]?=some u->(m++[(⟨K,[]⟩:State)])[i]?=some u:=λ{i u} hu=>by
  rw [List.getElem?_append_left (List.getElem?_eq_some_iff.1 hu).1]; exact hu
 have qo:∀ {i:Nat}{u:State},(m++[(⟨K,[]⟩:State)])[i]?=some u->m[i]?=some u\/(m.length<=i/\u=⟨K,[]⟩):=λ{i u} hu=>by
  by_cases e:i<m.length
  ·rw [List.getElem?_append_left e] at hu; exact .inl hu
  ·rw [List.getElem?_append_right (by omega)] at hu;have:=List.mem_of_getElem? hu;exact .inr ⟨by omega,by simpa using this⟩
 refine ⟨?_,λi st hi v hv=>?_,λi st hi k s hk aa y ao=>?_⟩
 ·obtain ⟨st,h1,af⟩:=h.k0;exact ⟨st,up h1,af⟩
 ·rcases qo hi with hi | ⟨_,rfl⟩
  ·obtain ⟨⟨t,u,h1,af,aF⟩,bh⟩:=h.aO i st hi v hv;exact ⟨⟨t,u,h1,up af,aF⟩,bh⟩
  ·cases hv
 ·rcases qo hi with hi | ⟨aI,rfl⟩
  ·exact h.dz i st hi k s hk aa y ao
  ·omega
theorem j6.put {g:bD}{m:List State}{q j:Nat}(h:j6 g m q j) {st u:State}{s:Int}{t:Nat}(a_:m[q]?=some st) (ax:(syms g)[j]?=some s) (eA:(syms g).Nodup) (au:m[t]?=some u) (hu:∀ y,y∈u.Kernel↔qd g st.Kernel s y) (cQ:∃ y,qd g st.Kernel s y):j6 g (m.set q ⟨st.Kernel,st.dX++[⟨s,(t:Int)⟩]⟩) q (j+1):=by
 have kL:=(List.getElem?_eq_some_iff.1 a_).1;have Fm:∀ {i:Nat}{w:State},m[i]?=some w->∃ w',(m.set q ⟨st.Kernel,st.dX++[⟨s,(t:Int)⟩]⟩)[i]?=some w'/\w'.Kernel=w.Kernel:=λ{i w} hw=>by
  rw [p6 kL];by_cases e:i=q
  ·subst e;rw [a_] at hw; cases hw;exact ⟨_,if_pos rfl,rfl⟩
  ·exact ⟨w,by rw [if_neg e]; exact hw,rfl⟩
 refine ⟨?_,λi w hi v hv=>?_,λi w hi k cz hk aa y ao=>?_⟩
 ·obtain ⟨w,h1,af⟩:=h.k0;obtain ⟨w',aF,bh⟩:=Fm h1;exact ⟨w',aF,bh.trans af⟩
 ·rw [p6 kL] at hi;by_cases e:i=q
  ·subst e;rw [if_pos rfl] at hi; cases hi;rcases List.mem_append.1 hv with hv | hv
   ·obtain ⟨⟨t',sU,h1,af,aF⟩,bh⟩:=h.aO i st a_ v hv;obtain ⟨sV,b7,dp⟩:=Fm af;exact ⟨⟨t',sV,h1,b7,dp ▸ aF⟩,bh⟩
   ·rw [List.mem_singleton.1 hv];obtain ⟨sV,b7,dp⟩:=Fm au;exact ⟨⟨t,sV,rfl,b7,dp ▸ hu⟩,cQ⟩
  ·rw [if_neg e] at hi;obtain ⟨⟨t',sU,h1,af,aF⟩,bh⟩:=h.aO i w hi v hv;obtain ⟨sV,b7,dp⟩:=Fm af;exact ⟨⟨t',sV,h1,b7,dp ▸ aF⟩,bh⟩
 ·rw [p6 kL] at hi;by_cases e:i=q
  ·subst e;rw [if_pos rfl] at hi; cases hi;by_cases IM:k=j
   ·subst IM;rw [ax] at hk; cases hk;exact ⟨_,List.mem_append.2 (.inr (List.mem_singleton.2 rfl)),rfl⟩
   ·obtain ⟨v,hv,e⟩:=h.dz i st a_ k cz hk (by omega) y ao;exact ⟨v,List.mem_append.2 (.inl hv),e⟩
  ·rw [if_neg e] at hi;exact h.dz i w hi k cz hk (by omega) y ao
theorem j6.next {g:bD}{m:List State}{q:Nat}(h:j6 g m q (syms g).length):j6 g m (q+1) 0 :=
 ⟨h.k0,h.aO,λi st hi k s hk aa y ao=>h.dz i st hi k s hk (by have:=(List.getElem?_eq_some_iff.1 hk).1; omega) y ao⟩
theorem ZG (g:bD) (aW:fZ g):Tot (AX g) λr=>(r.2=0/\nq g r.1/\j6 g r.1 r.1.length 0)\/r.2=4:=by
 have cV:=aW.lq;have bt:=aW.eZ;have bI:=aW.jA;unfold AX;refine Tot.aA (M9 g aW) λaS h1=>?_;subst h1;have fM:=aa5 g;refine Tot.aA (Ξ:=h4 (λm=>nO g m m.length 0/\j6 g m m.length 0) (λr:List State × Int=>r.2=4)) ?_ λx J=>?_
 ·refine Tot.loop (λs=>∃ q:Nat,s.2=(q:Int)/\q<=s.1.length/\nO g s.1 q 0/\j6 g s.1 q 0) (λs=>151 - s.2.toNat) ⟨0,rfl,Nat.zero_le _,⟨by simp,by simp,λs ax=>?_,λi s ax=>?_,λs ax v hv=>?_⟩,⟨_,rfl,rfl⟩,λi s ax v hv=>?_,λi s ax k cz hk aa=>?_⟩ (by show 151 - 0<1000000000000000000; omega) λs bU=>?_
  ·rw [List.mem_singleton.1 ax];refine ⟨List.pairwise_singleton ..,λx J=>?_⟩;rw [List.mem_singleton.1 J];obtain ⟨q,a_⟩:∃ q,g.bu[0]?=some q:=⟨g.bu[0]'(by omega),List.getElem?_eq_getElem _⟩;exact Pu (p:=0) a_
  ·have:=List.mem_of_getElem? ax;rw [List.mem_singleton.1 this]; exact List.nil_sublist _
  ·rw [List.mem_singleton.1 ax] at hv; cases hv
  ·have:=List.mem_of_getElem? ax;rw [List.mem_singleton.1 this] at hv; cases hv
  ·omega
  obtain ⟨q,he,a_,zG,jN⟩:=bU;obtain ⟨m,i⟩:=s;simp only at he a_ zG jN ⊢;subst he;have xz:=zG.nI;rw [et q (by omega)];refine Tot.bs (λaN=>?_) (λdH=>.al ?_)
  ·have aN:q<m.length:=by omega
   rw [dR aN];have c6:=zG.pZ _ (List.getElem_mem aN);obtain ⟨Sm,Jd⟩:∃ K,K=m[q].Kernel:=⟨_,rfl⟩;refine Tot.aT (Tot.aA (H7 g aW _ (by have:=c6.len aW; omega)) λc aa=>?_);have hN:=tZ aW aa.1 λx J=>((aa.2 x).1 J).iL;refine Tot.aA (Ξ:=λl:List Int=>l.length<=1000/\∀ a,a∈l↔∃ x∈c,gz g x=a/\0<=a) ?_ λSM Og=>?_
   ·refine Tot.upto (λs=>s.2) c.length (λk s=>fc iO s.1/\s.1.length<=k/\∀ a,a∈s.1↔∃ x∈c.take k,gz g x=a/\0<=a) rfl (by omega) ⟨.nil,Nat.le_refl 0,λa=>by simp⟩ λk s hk he bf=>?_;obtain ⟨l,i⟩:=s;obtain ⟨g1,g2,g3⟩:=bf;simp only at he g1 g2 g3 ⊢;subst he;rw [et k (by omega)];refine Tot.bs (λaN=>?_) (λdH=>.al ⟨by omega,λa=>by rw [List.take_of_length_le (by omega)] at g3; exact g3 a⟩);have aN:k<c.length:=by omega
    have fO:=l9 aN;rw [dR aN];generalize c[k]=x at *;refine .aA (Ξ:=λl:List Int=>fc iO l/\l.length<=k+1/\∀ a,a∈l↔∃ x∈c.take (k+1),gz g x=a/\0<=a) ?_ λo aW=>.al ⟨aN,rfl,aW⟩;refine Tot.aT ?_;rw [ID g _];refine Tot.aT (.aA (Ξ:=λl:List Int=>fc iO l/\l.length<=k+1/\∀ a,a∈l↔∃ x∈c.take (k+1),gz g x=a/\0<=a) ?_ λo aW=>.al aW);refine Tot.bs (λaq=>.aA (Fa l (gz g x) g1 (by omega)) λr hr=>.al ⟨hr.1,by have:=hr.2.1; omega,λa=>?_⟩) (λaq=>.al ⟨g1,by omega,λa=>?_⟩)
    ·rw [hr.2.2,g3,fO];constructor
     ·rintro (⟨z,aX,h⟩ | rfl)
      ·exact ⟨z,List.mem_append.2 (.inl aX),h⟩
      ·exact ⟨x,List.mem_append.2 (.inr (by simp)),rfl,aq⟩
     ·rintro ⟨z,aX,h⟩;rcases List.mem_append.1 aX with aX | aX
      ·exact .inl ⟨z,aX,h⟩
      ·rw [List.mem_singleton.1 aX] at h;exact .inr h.1.symm
    ·rw [g3,fO];constructor
     ·rintro ⟨z,aX,h⟩;exact ⟨z,List.mem_append.2 (.inl aX),h⟩
     ·rintro ⟨z,aX,h⟩;rcases List.mem_append.1 aX with aX | aX
      ·exact ⟨z,aX,h⟩
      ·rw [List.mem_singleton.1 aX] at h;omega
   ·refine Tot.aA (Ξ:=h4 (λm=>nO g m q (syms g).length/\q<m.length/\j6 g m q (syms g).length) (λr:List State × Int=>r.2=4)) ?_ λx J=>?_
    ·refine Tot.upto (λs=>s.2) (syms g).length (λk s=>nO g s.1 q k/\q<s.1.length/\j6 g s.1 q k/\∃ u,s.1[q]?=some u/\u.Kernel=Sm) rfl (by omega) ⟨zG,aN,jN,_,List.getElem?_eq_getElem aN,Jd.symm⟩ λk s hk he bf=>?_;obtain ⟨m,i⟩:=s;obtain ⟨uj,kL,B_,RB,CT,CU⟩:=bf;simp only at he uj kL B_ CT ⊢;subst he;rw [et k (by omega)];have vJ:=uj.nI;refine Tot.bs (λaN=>?_) (λdH=>.al ?_)
     ·have aN:k<(syms g).length:=by omega
      have qB:=List.getElem_mem aN;have n3:(syms g)[k]?=some (syms g)[k]:=List.getElem?_eq_getElem aN;rw [dR aN];generalize (syms g)[k]=s at *;refine Tot.aT (Tot.aA (s9 SM s (by omega)) λbY xr=>?_);refine Tot.bN (λCo=>.al ⟨aN,rfl,uj.mono (by omega),kL,B_.skip CT n3 λy ao=>?_,RB,CT,CU⟩) (λCo=>?_)
      ·obtain ⟨x,gK,gL,hg,_⟩:=ao;rw [CU,Jd] at gK;have:=xr.2 ((Og.2 s).2 ⟨x,(aa.2 x).2 gK,gL,hg⟩);simp [this] at Co
      have mS:m[q]?=some m[q]:=List.getElem?_eq_getElem kL;have c6:=uj.pZ _ (List.getElem_mem kL);rw [dR kL];generalize m[q]=st at *;obtain rfl:st=RB:=by rw [mS] at CT; exact Option.some.inj CT
      have cQ:∃ y,qd g st.Kernel s y:=by
       have:bY=true:=by simpa using Co
       obtain ⟨x,gK,gL,hg⟩:=(Og.2 s).1 (xr.1 this);exact ⟨_,x,by rw [CU,Jd]; exact (aa.2 x).1 gK,gL,hg,rfl⟩
      refine Tot.aT (Tot.aT (Tot.aA (TG g aW st.Kernel s (by have:=c6.len aW; omega)) λy7 zF=>?_));have ig:y8 g y7:=⟨zF.1,λy ao=>((zF.2 y).1 ao).iL aW⟩;refine Tot.aA (f128 m y7 (by omega) λt au=>by have:=(uj.pZ t au).len aW; omega) λz aX=>?_;have X6:=(uj.ms q st mS).length_le;rw [if_neg (by omega),if_pos rfl,List.length_map,List.length_take] at X6;refine Tot.bs (λCB=>Tot.bs (λ_=>.al rfl) (λOQ=>?_)) (λpU=>?_)
      ·refine .bK<|?_;have Wl:=uj.more (by omega) ig;have JH:(m++[(⟨y7,[]⟩:State)])[q]?=some st:=by rw [List.getElem?_append_left kL]; exact mS
       have Ct:idx (m++[(⟨y7,[]⟩:State)]) (q:Int)=some st:=by simp only [idx,if_pos (show (0:Int)<=(q:Int) by omega),Int.toNat_natCast]; exact JH
       rw [Ct];refine Tot.aT (Tot.aT ?_);refine .bK<|.al ⟨aN,rfl,?_⟩;rw [Int.toNat_natCast];refine ⟨Wl.put JH ⟨qB,by show (0:Int)<=(m.length:Int); omega,by show (m.length:Int)<_; simp; omega⟩ n3,by show q<(List.set _ _ _).length; rw [List.length_set]; simp; omega,?_,⟨st.Kernel,st.dX++[⟨s,(m.length:Int)⟩]⟩,?_,CU⟩
       ·exact (B_.more kL y7).put (u:=⟨y7,[]⟩) (t:=m.length) JH n3 (LS aW) (by rw [List.getElem?_append_right (Nat.le_refl _),Nat.sub_self]; rfl) zF.2 cQ
       ·rw [p6 (by simp; omega),if_pos rfl]
      ·refine Tot.aT (Tot.aT ?_);refine .bK<|.al ⟨aN,rfl,?_⟩;rw [Int.toNat_natCast];obtain ⟨w,Kj,Kk⟩:=aX.2.2 (by omega);refine ⟨uj.put mS ⟨qB,by show 0<=z; omega,aX.2.1⟩ n3,by show q<(List.set _ _ _).length; rw [List.length_set]; exact kL,?_,⟨st.Kernel,st.dX++[⟨s,z⟩]⟩,?_,CU⟩
       ·have:=B_.put (u:=w) (t:=z.toNat) mS n3 (LS aW) Kj (by rw [Kk]; exact zF.2) cQ
        rwa [show ((z.toNat:Nat):Int)=z by omega] at this
       ·rw [p6 kL,if_pos rfl]
     ·have:k=(syms g).length:=by omega
      subst this;exact ⟨uj,kL,B_⟩
    ·rcases x with x | x
     ·obtain ⟨h1,af,aF⟩:=J;refine .al ⟨⟨q+1,rfl,af,h1.next,aF.next⟩,?_⟩;show 151 - ((q+1:Nat):Int).toNat<151 - (q:Int).toNat;omega
     ·exact .al J
  ·have:q=m.length:=by omega
   subst this;exact ⟨zG,jN⟩
 ·rcases x with x | x
  ·have Wq:j6 g x x.length 0:=J.2;have J:nO g x x.length 0:=J.1;have key:∀ st∈x,(st.dX.map (·.Sym)).Sublist (syms g):=λst bU=>by
    obtain ⟨i,hi⟩:=List.getElem?_of_mem bU;have:=J.ms i st hi;rw [if_pos (List.getElem?_eq_some_iff.1 hi).1] at this;exact this
   refine .al (.inl ⟨rfl,⟨J.gP,J.nI,J.pZ,λst bU=>?_,λst bU=>(key st bU).nodup (LS aW),J.aO⟩,Wq⟩);have:=(key st bU).length_le;rw [List.length_map] at this; omega
  ·exact .al (.inr J)
def yY (g:bD) (K:List Item) (p:Int):Prop:=∃ r,idx g.bu p=some r/\mb g K ⟨p,r.dF.length⟩
def oi (g:bD) (m:List State) (q p:Int):Prop:=∃ st,idx m q=some st/\yY g st.Kernel p
structure tL (g:bD) (m:List State) (c:Cell):Prop where
 T_:∀ p∈c.bu,oi g m c.State p
 dS:GoTo m c.State c.b5 c.k3
 ac:c.nN=true->∃ st,idx m c.State=some st/\(⟨0,1⟩:Item)∈st.Kernel
theorem ZH (g:bD) (aQ:fZ g) (K:List Item) (ah:K.length<=1000000):Tot (D0 g K) λr=>r.length<=540/\∀ p∈r,oX g p/\yY g K p:=by
 unfold D0;refine .aA (H7 g aQ K ah) λc Cn=>?_;have hN:=tZ aQ Cn.1 λx J=>((Cn.2 x).1 J).iL;refine .aA (Ξ:=λr:List Int=>r.length<=540/\∀ p∈r,oX g p/\yY g K p) ?_ λr hr=>.al hr;refine Tot.upto (λs=>s.2) c.length (λk s=>s.1.length<=k/\∀ p∈s.1,oX g p/\yY g K p) rfl (by omega) ⟨Nat.le_refl 0,λp h=>by cases h⟩ λk s hk he bf=>?_;obtain ⟨L,i⟩:=s;obtain ⟨h1,af⟩:=bf;simp only at he h1 af ⊢;subst he;rw [et k (by omega)];refine Tot.bs (λaN=>?_) (λdH=>.al ⟨by show L.length<=_; omega,af⟩);have aN:k<c.length:=by omega
 have Ot:=(Cn.2 _).1 (List.getElem_mem aN);have hi:=Ot.iL;rw [dR aN];generalize c[k]=x at *;obtain ⟨q,a_,aF,bh⟩:=hi;simp only [Option.bind_some];refine .aA (Ξ:=λL:List Int=>L.length<=k+1/\∀ p∈L,oX g p/\yY g K p) ?_ λr hr=>.al ⟨aN,rfl,hr⟩;refine .aA (Ξ:=λc:Bool=>c=true->0<x.Prod/\x.ec=(q.dF.length:Int)) (Tot.bs (λh=>?_) (λ_=>.al λh=>by cases h)) λc aa=>?_
 ·rw [a_]; exact Tot.aT (.al λaI=>⟨h,of_decide_eq_true aI⟩)
 refine .aA (Ξ:=λL:List Int=>L.length<=k+1/\∀ p∈L,oX g p/\yY g K p) (Tot.bN (λh=>?_) (λ_=>.al ⟨by omega,af⟩)) λr hr=>.al hr;refine .bK<|.al ⟨by simp; omega,λp aq=>?_⟩;rcases List.mem_append.1 aq with aq | aq
 ·exact af p aq
 ·rw [List.mem_singleton.1 aq];have aR:=aa h;refine ⟨⟨aR.1,(kM a_).2.1⟩,q,a_,?_⟩;rw [<- aR.2]; exact Ot
theorem ZF (g:bD) (aQ:fZ g) {m:List State}(hm:nq g m):Tot (DY g m) λr=>r.length<=81000/\∀ l∈r,za g l/\oi g m l.State l.Prod:=by
 have au:=aQ.lq;have xz:=hm.nI;unfold DY;refine .aA (T1 g aQ hm) λF aH=>?_;obtain ⟨c3,qp,hQ,aeL,ju⟩:=aH;have xH:=hQ.n;refine .aA (Ξ:=λr:List lM=>r.length<=81000/\∀ l∈r,za g l/\oi g m l.State l.Prod) ?_ λr hr=>.al hr;refine Tot.upto (λs=>s.2) m.length (λk s=>s.1.length<=540 * k/\∀ l∈s.1,za g l/\oi g m l.State l.Prod) rfl (by omega) ⟨Nat.le_refl 0,λp h=>by cases h⟩ λk s hk he bf=>?_;obtain ⟨L,i⟩:=s;obtain ⟨h1,af⟩:=bf;simp only at he h1 af ⊢;subst he;rw [et k (by omega)];refine Tot.bs (λaN=>?_) (λdH=>.al ⟨by show L.length<=_; omega,af⟩);have aN:k<m.length:=by omega
 have c6:=hm.pZ _ (List.getElem_mem aN);have Cv:=dR aN;rw [Cv];generalize m[k]=st at *;refine Tot.aT (.aA (ZH g aQ st.Kernel (by have:=c6.len aQ; omega)) λE lz=>?_);obtain ⟨aeJ,Wa⟩:=lz;refine .aA (Ξ:=λL:List lM=>L.length<=540 * (k+1)/\∀ l∈L,za g l/\oi g m l.State l.Prod) ?_ λr hr=>.al ⟨aN,rfl,hr⟩;refine Tot.upto (λs=>s.2) E.length (λj s=>s.1.length<=540 * k+j/\∀ l∈s.1,za g l/\oi g m l.State l.Prod) rfl (by omega) ⟨h1,af⟩ λj s ag he bf=>?_;obtain ⟨L,i⟩:=s;obtain ⟨h1,af⟩:=bf;simp only at he h1 af ⊢;subst he;rw [et j (by omega)];refine Tot.bs (λfW=>?_) (λdH=>.al ⟨by show L.length<=_; omega,af⟩);have fW:j<E.length:=by omega
 have aq:=Wa _ (List.getElem_mem fW);rw [dR fW];generalize E[j]=p at *;simp only [Option.bind_some];refine .aA (T2 g aQ hm qp hQ k p) λB eY=>?_;obtain ⟨aeG,V9⟩:=eY;refine .aA (Ξ:=jm g.br.length) ?_ λS bg=>?_
 ·refine Tot.upto (λs=>s.2) B.length (λ_ s=>jm g.br.length s.1) rfl (by omega) .nil λb s ar he bf=>?_;obtain ⟨S,i⟩:=s;simp only at he bf ⊢;subst he;rw [et b (by omega)];refine Tot.bs (λzU=>?_) (λdH=>.al bf);have zU:b<B.length:=by omega
  have J:=V9 _ (List.getElem_mem zU);rw [dR zU];generalize B[b]=x at *;obtain ⟨row,ru,zZ⟩:=nG (l:=F) J.1 (by omega);have lC:=ju row zZ;have oH:=lC.len;simp only [Option.bind_some,ru];refine .aA (Ξ:=jm g.br.length) ?_ λS bg=>.al ⟨zU,rfl,bg⟩;refine Tot.upto (λs=>s.2) row.length (λ_ s=>jm g.br.length s.1) rfl (by omega) bf λz s aX he bf=>?_;obtain ⟨S,i⟩:=s;simp only at he bf ⊢;subst he;rw [et z (by omega)];refine Tot.bs (λpS=>?_) (λdH=>.al bf);have pS:z<row.length:=by omega
  rw [dR pS];exact Tot.aT (.aA (bf.put (by omega) (lC.i _ (List.getElem_mem pS))) λr hr=>.al ⟨pS,rfl,hr.1⟩)
 ·refine .bK<|.al ⟨fW,rfl,by simp; omega,λl ah=>?_⟩;rcases List.mem_append.1 ah with ah | ah
  ·exact af l ah
  ·rw [List.mem_singleton.1 ah]; exact ⟨⟨aq.1,bg⟩,st,Cv,aq.2⟩
theorem ZE (g:bD) (aQ:fZ g) {m:List State}(hm:nq g m) (rG:List lM) (ah:rG.length<=81000) (hk:∀ l∈rG,za g l/\oi g m l.State l.Prod):Tot (DX g m rG) λl=>Be g m.length l/\∀ c∈l,tL g m c:=by
 have au:=aQ.lq;have xz:=hm.nI;have sr:=aQ.jA;unfold DX;refine .aA (Ξ:=λl=>Be g m.length l/\∀ c∈l,tL g m c) ?_ λr hr=>.al hr;refine Tot.upto (λs=>s.2) m.length (λk s=>s.1.length<=40 * k/\(∀ c∈s.1,py g m.length c/\tL g m c)/\s.1.Pairwise yX/\∀ c∈s.1,c.State<k) rfl (by omega) ⟨Nat.le_refl 0,λp h=>(by cases h),.nil,λp h=>by cases h⟩ λk s JS he bf=>?_;obtain ⟨L,i⟩:=s;obtain ⟨h1,af,aF,bh⟩:=bf;simp only at he h1 af aF bh ⊢;subst he;rw [et k (by omega)];refine Tot.bs (λaN=>?_) (λdH=>.al ⟨⟨λc aa=>(af c aa).1,aF,by show L.length<=_; omega⟩,λc aa=>(af c aa).2⟩);have aN:k<m.length:=by omega
 have c6:=hm.pZ _ (List.getElem_mem aN);have Cv:=dR aN;rw [Cv];generalize m[k]=st at *;have aeN:=c6.len aQ;refine .aA (Ξ:=λL:List Cell=>L.length<=40 * (k+1)/\(∀ c∈L,py g m.length c/\tL g m c)/\L.Pairwise yX/\∀ c∈L,c.State<(k+1:Nat)) ?_ λr hr=>.al ⟨aN,rfl,hr⟩;refine Tot.upto (λs=>s.2) g.br.length (λj s=>s.1.length<=40 * k+j/\(∀ c∈s.1,py g m.length c/\tL g m c)/\s.1.Pairwise yX/\∀ c∈s.1,c.State<k\/(c.State=k/\c.b5<j)) rfl (by omega) ⟨h1,af,aF,λc aa=>.inl (bh c aa)⟩ λj s ag he bf=>?_;obtain ⟨L,i⟩:=s;obtain ⟨h1,af,aF,bh⟩:=bf;simp only at he h1 af aF bh ⊢;subst he;rw [et j (by omega)];refine Tot.bs (λfW=>?_) (λdH=>.al ⟨by show L.length<=_; omega,af,aF,λc aa=>by rcases bh c aa with h | h <;> omega⟩);refine .aA (Ξ:=λL:List Cell=>L.length<=40 * k+(j+1)/\(∀ c∈L,py g m.length c/\tL g m c)/\L.Pairwise yX/\∀ c∈L,c.State<k\/(c.State=k/\c.b5<(j+1:Nat))) ?_ λr hr=>.al ⟨by omega,rfl,hr⟩;refine .aA (E' m k j hm.x3) λdS CO=>?_;have X4:=CO.aU hm;refine .aA (Ξ:=λb:Bool=>b=true->(⟨0,1⟩:Item)∈st.Kernel) ?_ λac Fz=>?_
 ·refine Tot.upto (λs=>s.2) st.Kernel.length (λ_ s=>s.1=true->(⟨0,1⟩:Item)∈st.Kernel) rfl (by omega) (λh=>by cases h) λz s aX he bf=>?_;obtain ⟨b,i⟩:=s;simp only at he bf ⊢;subst he;rw [et z (by omega)];simp only [Option.bind_some];refine Tot.bs (λpS=>?_) (λ_=>.al bf);have pS:z<st.Kernel.length:=by omega
  have Ku:=List.getElem_mem pS;rw [dR pS];generalize st.Kernel[z]=y at *;simp only [Option.bind_some];refine .aA (Ξ:=λb:Bool=>b=true->(⟨0,1⟩:Item)∈st.Kernel) (Tot.bN (λar=>.al λ_=>bf ar) (λ_=>Tot.bs (λ_=>Tot.bs (λaK=>.al λh1=>?_) (λ_=>.al λh=>by cases h)) (λ_=>.al λh=>by cases h))) λ_ h=>.al ⟨pS,rfl,h⟩;have h1:y.ec=1:=of_decide_eq_true h1;have:y=⟨0,1⟩:=by cases y; simp only at aK h1; rw [aK,h1]
  rw [<- this]; exact Ku
 refine .aA (Ξ:=λP:List Int=>fc iO P/\∀ p∈P,oX g p/\oi g m k p) ?_ λP bI=>?_
 ·refine Tot.upto (λs=>s.2) rG.length (λ_ s=>fc iO s.1/\∀ p∈s.1,oX g p/\oi g m k p) rfl (by omega) ⟨.nil,λp h=>by cases h⟩ λz s aX he bf=>?_;obtain ⟨P,i⟩:=s;obtain ⟨g1,g2⟩:=bf;simp only at he g1 g2 ⊢;subst he;rw [et z (by omega)];refine Tot.bs (λpS=>?_) (λdH=>.al ⟨g1,g2⟩);have pS:z<rG.length:=by omega
  have fM:=hk _ (List.getElem_mem pS);rw [dR pS];generalize rG[z]=l at *;have CR:=fM.1.t.len;have Wp:=jm.len (T:=g.bu.length) ⟨g1,λx J=>⟨by have:=(g2 x J).1.1; omega,(g2 x J).1.2⟩⟩;simp only [Option.bind_some];refine .aA (Ξ:=λP:List Int=>fc iO P/\∀ p∈P,oX g p/\oi g m k p) ?_ λr hr=>.al ⟨pS,rfl,hr⟩;refine .aA (Ξ:=λb:Bool=>b=true->l.State=(k:Int)) (Tot.bs (λh=>.aA (s9 l.br j (by omega)) λ_ _=>.al λ_=>h) (λ_=>.al λh=>by cases h)) λc eV=>?_;refine .aA (Ξ:=λP:List Int=>fc iO P/\∀ p∈P,oX g p/\oi g m k p) (Tot.bN (λxr=>?_) (λ_=>.al ⟨g1,g2⟩)) λr hr=>.al hr;refine .aA (Fa P l.Prod g1 (by omega)) λr hr=>.al ⟨hr.1,λp aq=>?_⟩;rcases (hr.2.2 p).1 aq with h | rfl
  ·exact g2 p h
  ·exact ⟨fM.1.p,by have:=fM.2; rwa [eV xr] at this⟩
 ·have Wp:=jm.len (T:=g.bu.length) ⟨bI.1,λx J=>⟨by have:=(bI.2 x J).1.1; omega,(bI.2 x J).1.2⟩⟩;rw [Nt _ (by show P.length<=_; omega)];refine Tot.aT (.aA (Ξ:=λL:List Cell=>L.length<=40 * k+(j+1)/\(∀ c∈L,py g m.length c/\tL g m c)/\L.Pairwise yX/\∀ c∈L,c.State<k\/(c.State=k/\c.b5<(j+1:Nat))) (Tot.bs (λaK=>?_) (λ_=>.al ⟨by omega,af,aF,λc aa=>by rcases bh c aa with h | h <;> omega⟩)) λr hr=>.al hr);refine .bK<|.al ⟨by simp; omega,λc aa=>?_,List.pairwise_append.2 ⟨aF,List.pairwise_singleton ..,λa aJ b ar=>?_⟩,λc aa=>?_⟩
  ·rcases List.mem_append.1 aa with aa | aa
   ·exact af c aa
   ·rw [List.mem_singleton.1 aa];exact ⟨⟨⟨by show (0:Int)<=k; omega,by show (k:Int)<_; omega⟩,⟨by show (0:Int)<=j; omega,by show (j:Int)<_; omega⟩,X4,bI.1,λp aq=>(bI.2 p aq).1,by omega⟩,λp aq=>(bI.2 p aq).2,CO,λh=>⟨st,Cv,Fz h⟩⟩
  ·rw [List.mem_singleton.1 ar];rcases bh a aJ with h | h
   ·exact .inl h
   ·exact .inr h
  ·rcases List.mem_append.1 aa with aa | aa
   ·rcases bh c aa with h | h
    ·exact .inl h
    ·exact .inr ⟨h.1,by omega⟩
   ·rw [List.mem_singleton.1 aa];exact .inr ⟨rfl,by show (j:Int)<_; omega⟩
def oj (m:List State) (s x cz:Int):Prop:=∃ st v,idx m s=some st/\v∈st.dX/\v.Sym=x/\v.r8=cz
def r5 (g:bD) (m:List State) (s:Int) (x:Item):Prop:=∃ st,idx m s=some st/\mb g st.Kernel x
theorem Kz {α:Type}{m:List α}{s:Int}{x:α}(h:idx m s=some x):∃ i:Nat,s=(i:Int)/\m[i]?=some x:=by
 obtain ⟨aK,h1,af⟩:=mq h;exact ⟨s.toNat,by omega,af⟩
theorem mb.dot {g:bD}{K:List Item}{x:Item}(h:mb g K x) (aR:x.ec≠0):x∈K:=by
 cases h with
 | base h _=>exact h
 | step _ _ _ _=>exact absurd rfl aR
theorem oj.PF {g:bD}{m:List State}{n:Nat}(jN:j6 g m n 0) {s x cz:Int}(h:oj m s x cz):∃ st u,idx m s=some st/\idx m cz=some u/\∀ y,y∈u.Kernel↔qd g st.Kernel x y:=by
 obtain ⟨st,v,h1,af,rfl,rfl⟩:=h;obtain ⟨i,rfl,hi⟩:=Kz h1;obtain ⟨⟨t,u,aF,bh,b7⟩,_⟩:=jN.aO i st hi v af;exact ⟨st,u,h1,by rw [aF]; simp [idx,bh],b7⟩
theorem oj.back {g:bD}{m:List State}{n:Nat}(jN:j6 g m n 0) {s x cz p k:Int}(h:oj m s x cz) (aa:r5 g m cz ⟨p,k⟩) (hk:1<=k):gz g ⟨p,k - 1⟩=x/\r5 g m s ⟨p,k - 1⟩:=by
 obtain ⟨st,u,h1,af,aF⟩:=h.PF jN;obtain ⟨sU,bh,b7⟩:=aa;rw [af] at bh; cases bh;obtain ⟨y,ao,aB,_,e⟩:=(aF _).1 (b7.dot (show k≠0 by omega));have ca:p=y.Prod:=congrArg Item.Prod e;have b6:k=y.ec+1:=congrArg Item.ec e;have:(⟨p,k - 1⟩:Item)=y:=by
  cases y; simp only at ca b6; rw [ca,b6]; congr 1; omega
 rw [this];exact ⟨aB,st,h1,ao⟩
theorem r5.zero {g:bD}{m:List State}{n:Nat}(jN:j6 g m n 0) {x:Item}(h:r5 g m 0 x):x.ec=0:=by
 obtain ⟨st,h1,af⟩:=h;obtain ⟨yI,aF,bh⟩:=jN.k0;have:idx m 0=some yI:=by simp [idx,aF]
 rw [h1] at this; cases this;cases af with
 | base h _=>rw [bh,List.mem_singleton] at h; rw [h]
 | step _ _ _ _=>rfl
theorem r5.VH {g:bD}(aQ:fZ g) {m:List State}(jN:j6 g m m.length 0) {s p:Int}(ax:s=0\/∃ a x,oj m a x s) (h:r5 g m s ⟨p,0⟩) (aq:p≠0) {r:Prod}(hr:idx g.bu p=some r):∃ cz,oj m s (1000+r.Left) cz:=by
 obtain ⟨st,h1,af⟩:=h;obtain ⟨i,rfl,hi⟩:=Kz h1;generalize J:(⟨p,0⟩:Item)=x at af;cases af with
 | base h _ =>
  exfalso;rcases ax with ax | ⟨a,y,ax⟩
  ·obtain ⟨yI,aF,bh⟩:=jN.k0;have:i=0:=by omega
   subst this;rw [aF] at hi; cases hi;rw [bh,List.mem_singleton] at h;rw [h] at J;exact aq (congrArg Item.Prod J)
  ·obtain ⟨yI,u,aF,bh,b7⟩:=ax.PF jN;rw [h1] at bh; cases bh;obtain ⟨z,aX,_,_,e⟩:=(b7 _).1 h;rw [<- J] at e;have b6:(0:Int)=z.ec+1:=congrArg Item.ec e;obtain ⟨q,_,dp,_⟩:=aX.iL;omega
 | @step y q k h a_ aB aK =>
  have ca:p=(k:Int):=congrArg Item.Prod J;have:r=q:=by
   rw [ca] at hr;have:idx g.bu (k:Int)=some q:=by simp [idx,a_]
   rw [hr] at this; exact Option.some.inj this
  subst this;have mU:qd g st.Kernel (1000+r.Left) ⟨y.Prod,y.ec+1⟩:=⟨y,h,aB,by omega,rfl⟩;obtain ⟨_,ka,_⟩:=K' aQ (x:=y) (by omega);have mT:(1000+r.Left)∈syms g:=by
   rw [PT];have:=aQ.eZ;have:=aQ.lq;rw [aB] at ka;rcases ka with aI | aI
   ·omega
   ·exact .inr (by omega)
  obtain ⟨j,ag⟩:=List.getElem?_of_mem mT;obtain ⟨v,hv,e⟩:=jN.dz i st hi j _ ag (.inl (List.getElem?_eq_some_iff.1 hi).1) _ mU;exact ⟨v.r8,st,v,h1,hv,e,rfl⟩
structure mI (m:List State) (st xs:List Int):Prop where
 len:st.length=xs.length+1
 z:st[0]?=some 0
 e:∀ (i:Nat) (a x b:Int),st[i]?=some a->xs[i]?=some x->st[i+1]?=some b->oj m a x b
theorem mI.start {m:List State}:mI m [0] []:=⟨rfl,rfl,λi a x b _ h _=>by simp at h⟩
theorem mI.take {m:List State}{st xs:List Int}(h:mI m st xs) {n:Nat}(aB:n<=xs.length):mI m (st.take (n+1)) (xs.take n):=by
 refine ⟨by have:=h.len; simp; omega,by rw [List.getElem?_take]; simp [h.z],λi a x b h1 af aF=>?_⟩;rw [List.getElem?_take] at h1 af aF
 split at h1
 ·split at af
  ·split at aF
   ·exact h.e i a x b h1 af aF
   ·cases aF
  ·cases af
 ·cases h1
theorem mI.push {m:List State}{st xs:List Int}(h:mI m st xs) {a x b:Int}(aJ:st[xs.length]?=some a) (he:oj m a x b):mI m (st++[b]) (xs++[x]):=by
 have ah:=h.len;refine ⟨by simp; omega,by rw [List.getElem?_append_left (by omega)]; exact h.z,λi cd x' dU h1 af aF=>?_⟩;by_cases hi:i<xs.length
 ·rw [List.getElem?_append_left (by omega)] at h1 aF;rw [List.getElem?_append_left hi] at af;exact h.e i cd x' dU h1 af aF
 ·have aN:=(List.getElem?_eq_some_iff.1 af).1;have:i=xs.length:=by simp at aN; omega
  subst this;rw [List.getElem?_append_left (by omega),aJ] at h1;rw [List.getElem?_append_right (by omega),Nat.sub_self] at af;rw [List.getElem?_append_right (by omega),ah,Nat.sub_self] at aF;cases h1; cases af; cases aF;exact he
theorem mI.from {m:List State}{st xs:List Int}(h:mI m st xs) {i:Nat}{a:Int}(aJ:st[i]?=some a):a=0\/∃ b x,oj m b x a:=by
 cases i with
 | zero=>rw [h.z] at aJ; cases aJ; exact .inl rfl
 | succ i =>
  have aN:=(List.getElem?_eq_some_iff.1 aJ).1;have ah:=h.len;have h1:i<st.length:=by omega
  have af:i<xs.length:=by omega
  exact .inr ⟨_,_,h.e i _ _ _ (List.getElem?_eq_getElem h1) (List.getElem?_eq_getElem af) aJ⟩
theorem mI.back {g:bD}{m:List State}{n:Nat}(jN:j6 g m n 0) {st xs:List Int}(h:mI m st xs) {p:Int}:∀ (k:Nat) {i:Nat}{a:Int},st[i]?=some a->r5 g m a ⟨p,(k:Int)⟩->k<=i/\∀ j,j<=k->∃ b,st[i - j]?=some b/\r5 g m b ⟨p,(k:Int) - j⟩/\(0<j->xs[i - j]?=some (gz g ⟨p,(k:Int) - j⟩)):=by
 intro k
 induction k with
 | zero=>
  intro i a aJ aa;refine ⟨by omega,λj ag=>?_⟩;obtain rfl:j=0:=by omega
  exact ⟨a,aJ,by simpa using aa,λh=>by omega⟩
 | succ k aM =>
  intro i a aJ aa;cases i with
  | zero =>
   rw [h.z] at aJ; cases aJ;have:=aa.zero jN;simp only at this;omega
  | succ i =>
   have aN:=(List.getElem?_eq_some_iff.1 aJ).1;have ah:=h.len;have h1:st[i]?=some st[i]:=List.getElem?_eq_getElem (by omega);have af:xs[i]?=some xs[i]:=List.getElem?_eq_getElem (by omega);obtain ⟨ca,b6⟩:=(h.e i _ _ _ h1 af aJ).back jN aa (by omega);have IM:((k+1:Nat):Int) - 1=(k:Int):=by omega
   rw [IM] at ca b6;obtain ⟨aF,bh⟩:=aM h1 b6;refine ⟨by omega,λj ag=>?_⟩;cases j with
   | zero=>exact ⟨a,aJ,by simpa using aa,λh=>by omega⟩
   | succ j =>
    obtain ⟨b,b7,dp,kJ⟩:=bh j (by omega);have es:i+1 - (j+1)=i - j:=by omega
    have w_:((k+1:Nat):Int) - ((j+1:Nat):Int)=(k:Int) - j:=by omega
    rw [es,w_];refine ⟨b,b7,dp,λ_=>?_⟩;by_cases Xt:j=0
    ·subst Xt;rw [Nat.sub_zero,af];simp [ca]
    ·exact kJ (by omega)
end Go.Proofs
