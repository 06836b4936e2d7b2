/- Parts of the proof that the last text states. -/
import Derived.Test.YtaddiiogopnkpaaGreatRows
import Derived.Test.YtaddiiogopnkpaaGreatE6
set_option linter.unusedVariables false
namespace Go.Proofs
open Go Go.Own
set_option maxRecDepth 100000
def wa (a0:Int):Option (Bool) :=
 some (!decide (a0=a0))
def tm (a0:Int) (av:Int):Option (Int) :=
 (wa a0).bind λaR =>
 (wa av).bind λx2 =>
 (bif aR then
 (bif x2 then
 some 0
 else
 some (-1))
 else
 (bif x2 then
 some 1
 else
 (bif decide (a0<av) then
 some (-1)
 else
 (bif decide (av<a0) then
 some 1
 else
 some 0))))
structure cG where
 At:Int
 cb:Int
 deriving DecidableEq,Inhabited
def AL (a0:cG) (av:Int):Option (Int) :=
 (tm a0.At av).bind λaR =>
 some aR
def cq:bN cG:=⟨2,λx=>[ae x.At,ae x.cb],λ_=>rfl,λ_=>dk.bk⟩
instance:Bi cq:=⟨λx=>(inferInstance:q2 [ae x.At,ae x.cb])⟩
instance:im cq cq:=⟨rfl,λx=>(inferInstance:f_ [ae x.At,ae x.cb] [ae x.At,ae x.cb])⟩
def DM (a0:(List cG)) (av:Int):Option (Int × Bool) :=
 (cf (R:=Int) (λ(s1:Int × Int) =>
 (bif decide (s1.1<s1.2) then
 ((idx a0 (aG (yu .u64 (IntKind.u64.wrap (aG (s1.1+s1.2))) 1))).bind λbz =>
 (AL bz av).bind λbq =>
 ((bif decide (bq<0) then
 some (aG ((aG (yu .u64 (IntKind.u64.wrap (aG (s1.1+s1.2))) 1))+1),s1.2)
 else
 some (s1.1,aG (yu .u64 (IntKind.u64.wrap (aG (s1.1+s1.2))) 1)))).bind λdZ =>
 some (dZ.1,dZ.2)).bind λiy =>
 some (.inl (iy.1,iy.2))
 else
 some (.inr s1.1))) (0,(a0.length:Int))).bind λx2 =>
 ((bif decide (x2<(a0.length:Int)) then ((idx a0 x2).bind λa1=>((AL a1 av).bind λea=>some (x2,decide (ea=0)))) else some (x2,false))).bind λiN =>
 some (iN.1,iN.2)
def v8 (a0:(List cG)) (av:Int):Option (Int) :=
 (bif decide (av<=0) then
 some 0
 else
 (DM a0 av).bind λx2 =>
 (bif !x2.2 then
 some 2
 else
 (idx a0 x2.1).bind λbl =>
 some bl.cb))
structure hZ where
 cX:(List Int)
 cb:(List Int)
 b_:(List Int)
 deriving DecidableEq,Inhabited
def tS:bN hZ:=⟨3,λx=>[aj ai x.cX,aj ai x.cb,aj ai x.b_],λ_=>rfl,λ_=>dk.bk⟩
def rD (a0:hZ) (av:Int) (a2:Int):Option (Int × Bool) :=
 ((bif decide (av<0) then some true else (bif decide ((a0.cX.length:Int)<=av) then some true else (bif decide (a2<0) then some true else some (decide ((a0.b_.length:Int)<=a2)))))).bind λc4 =>
 (bif c4 then
 some (0,false)
 else
 (idx a0.cX av).bind λbz =>
 ((bif decide ((a0.b_.length:Int)<=aG (bz+a2)) then some true else ((idx a0.b_ (aG (bz+a2))).bind λbE=>some (!decide (bE=aG (av+1)))))).bind λr2 =>
 (bif r2 then
 some (0,false)
 else
 (idx a0.cb (aG (bz+a2))).bind λa1 =>
 some (a1,true)))
structure Act where
 Kind:Int
 N:Int
 deriving DecidableEq,Inhabited
def x8 (a0:Int):Option (Act) :=
 ((bif decide (0<a0) then some (decide (a0<=20000)) else some false)).bind λc2 =>
 (bif c2 then
 some (⟨1,aG (a0 - 1)⟩:Act)
 else
 ((bif decide (a0<0) then some (decide ((-20000)<a0)) else some false)).bind λjD =>
 (bif jD then
 some (⟨2,aG (-a0)⟩:Act)
 else
 (bif decide (a0=20001) then
 some (⟨3,0⟩:Act)
 else
 (bif decide (a0=20002) then
 some (⟨4,0⟩:Act)
 else
 some (⟨0,0⟩:Act)))))
structure Tables where
 Def:(List Int)
 cz:hZ
 jw:(List Int)
 ej:hZ
 Left:(List Int)
 kv:(List Int)
 je:(List cG)
 deriving DecidableEq,Inhabited
abbrev M7 (x:Tables):List ab:=[aj ai x.Def,aj ai x.cz.cX,aj ai x.cz.cb,aj ai x.cz.b_,aj ai x.jw,aj ai x.ej.cX,aj ai x.ej.cb,aj ai x.ej.b_,aj ai x.Left,aj ai x.kv,aj cq x.je]
def iG:bN Tables:=⟨11,λx=>M7 x,λ_=>rfl,λ_=>dk.bk⟩
def wb (a0:Tables) (av:Int) (a2:Int):Option (Act) :=
 (rD a0.cz av a2).bind λaR =>
 (bif aR.2 then
 (x8 aR.1).bind λa7 =>
 some a7
 else
 ((bif decide (av<0) then some true else (bif decide ((a0.Def.length:Int)<=av) then some true else ((idx a0.Def av).bind λbz=>some (decide (bz<0)))))).bind λnT =>
 (bif nT then
 some (⟨0,0⟩:Act)
 else
 (idx a0.Def av).bind λcm =>
 some (⟨2,cm⟩:Act)))
structure Node where
 Sym:Int
 Prod:Int
 At:Int
 Kids:rW
 deriving Inhabited
structure qb where
 At:Int
 Told:Bool
 deriving DecidableEq,Inhabited
structure eZ where
 Kind:Int
 At:Int
 Steps:Int
 Deep:Int
 bx:(List Int)
 eC:(List qb)
 fp:(List Int)
 Tree:Node
 deriving Inhabited
structure dz where
 b0:Tables
 iQ:(List Int)
 jj:Int
 jk:Int
 dt:(List Int)
 fc:(List Node)
 h5:Int
 bb:eZ
 deriving Inhabited
def dn:bN Node:=⟨4,λx=>[ae x.Sym,ae x.Prod,ae x.At,hW 4 x.Kids],λ_=>rfl,λ_=>dk.bk⟩
theorem Sl {z n:Nat}{cs:List ab}(h:cC (.bd z n cs)):∀ x∈cs,cC x:=by cases h; assumption
def BI:(l:List ab)->(∀ x∈l,cC x)->Option (List Node)
 | [],_=>some []
 | .lit (.int .i64 y0)::.lit (.int .i64 bB)::.lit (.int .i64 y2)::.bd 4 n cs::l,h=>(BI l λx J=>h x (by simp [J])).map λL=>⟨y0,bB,y2,⟨n,cs,Sl (h (.bd 4 n cs) (by simp))⟩⟩::L
 | _,_=>none
def BH (x:rW):Option (List Node):=(BI x.cs x.bk).bind λL=>if x.n=L.length then some L else none
theorem UR:∀ (l:List ab) (h:∀ x∈l,cC x) (L:List Node),BI l h=some L->l=bA dn L:=by
 intro l h
 fun_induction BI l h with
 | case1=>intro L e; cases e; rfl
 | case2 y0 bB y2 n cs l h aM =>
  intro L e;obtain ⟨M,h1,rfl⟩:=Option.map_eq_some_iff.1 e;exact congrArg (λt=>_::_::_::_::t) (aM M h1)
 | case3=>intro L e; cases e
theorem Nf {x:rW}{L:List Node}(h:BH x=some L):x=mV dn L:=by
 obtain ⟨n,cs,bk⟩:=x;unfold BH at h;obtain ⟨M,h1,af⟩:=Option.bind_eq_some_iff.1 h
 split at af
 ·cases af;have:=UR _ _ _ h1;rename_i e;simp only at this e;subst this e;rfl
 ·cases af
theorem US (L:List Node):BH (mV dn L)=some L:=by
 have key:∀ (L:List Node) (h:∀ x∈bA dn L,cC x),BI (bA dn L) h=some L:=by
  intro L
  induction L with
  | nil=>intro h; rfl
  | cons x L aM =>
   intro h;exact congrArg (Option.map _) (aM _)
 exact (congrArg (λo=>Option.bind o _) (key L _)).trans (if_pos rfl)
instance:im dn dn:=⟨rfl,λx=>(inferInstance:f_ [ae x.Sym,ae x.Prod,ae x.At,hW 4 x.Kids] [ae x.Sym,ae x.Prod,ae x.At,hW 4 x.Kids])⟩
def jF:bN qb:=⟨2,λx=>[ae x.At,bg x.Told],λ_=>rfl,λ_=>dk.bk⟩
instance:im jF jF:=⟨rfl,λx=>(inferInstance:f_ [ae x.At,bg x.Told] [ae x.At,bg x.Told])⟩
abbrev M6 (x:eZ):List ab:=[ae x.Kind,ae x.At,ae x.Steps,ae x.Deep,aj ai x.bx,aj jF x.eC,aj ai x.fp,ae x.Tree.Sym,ae x.Tree.Prod,ae x.Tree.At,hW 4 x.Tree.Kids]
def j1:bN eZ:=⟨11,λx=>M6 x,λ_=>rfl,λ_=>dk.bk⟩
abbrev wV (x:dz):List ab:=[aj ai x.b0.Def,aj ai x.b0.cz.cX,aj ai x.b0.cz.cb,aj ai x.b0.cz.b_,aj ai x.b0.jw,aj ai x.b0.ej.cX,aj ai x.b0.ej.cb,aj ai x.b0.ej.b_,aj ai x.b0.Left,aj ai x.b0.kv,aj cq x.b0.je,aj ai x.iQ,ae x.jj,ae x.jk,aj ai x.dt,aj dn x.fc,ae x.h5,ae x.bb.Kind,ae x.bb.At,ae x.bb.Steps,ae x.bb.Deep,aj ai x.bb.bx,aj jF x.bb.eC,aj ai x.bb.fp,ae x.bb.Tree.Sym,ae x.bb.Tree.Prod,ae x.bb.Tree.At,hW 4 x.bb.Tree.Kids]
def Vb:bN dz:=⟨28,λx=>wV x,λ_=>rfl,λ_=>dk.bk⟩
def yi (a0:dz) (av:Int):Option (Act) :=
 (idx a0.dt (aG ((a0.dt.length:Int) - 1))).bind λaR =>
 (wb a0.b0 aR av).bind λx2 =>
 some x2
def yj (a0:dz):Option (Int) :=
 (bif decide ((a0.iQ.length:Int)<=a0.bb.At) then
 some 0
 else
 (idx a0.iQ a0.bb.At).bind λx2 =>
 some x2)
abbrev kW (x:dz):List ab:=[aj ai x.b0.Def,aj ai x.b0.cz.cX,aj ai x.b0.cz.cb,aj ai x.b0.cz.b_,aj ai x.b0.jw,aj ai x.b0.ej.cX,aj ai x.b0.ej.cb,aj ai x.b0.ej.b_,aj ai x.b0.Left,aj ai x.b0.kv,aj cq x.b0.je,aC ai x.iQ,ae x.jj,ae x.jk,aC ai x.dt,aC dn x.fc,ae x.h5,ae x.bb.Kind,ae x.bb.At,ae x.bb.Steps,ae x.bb.Deep,aC ai x.bb.bx,aC jF x.bb.eC,aC ai x.bb.fp,ae x.bb.Tree.Sym,ae x.bb.Tree.Prod,ae x.bb.Tree.At,hW 4 x.bb.Tree.Kids]
def ic:bN dz:=⟨28,λx=>kW x,λ_=>rfl,λ_=>dk.bk⟩
instance {x:dz}:f_ (ic.cells x) (wV x):=(inferInstance:f_ (kW x) (wV x))
def x3 (a0:dz) (av:Int):Option (Bool × dz) :=
 ((bif decide (a0.bb.Steps=a0.jk) then some true else some (decide (a0.jj<av)))).bind λc2 =>
 (bif c2 then
 some (false,(⟨a0.b0,a0.iQ,a0.jj,a0.jk,a0.dt,a0.fc,a0.h5,(⟨3,a0.bb.At,a0.bb.Steps,a0.bb.Deep,a0.bb.bx,a0.bb.eC,a0.bb.fp,a0.bb.Tree⟩:eZ)⟩:dz))
 else
 some (true,(⟨a0.b0,a0.iQ,a0.jj,a0.jk,a0.dt,a0.fc,a0.h5,(⟨a0.bb.Kind,a0.bb.At,aG (a0.bb.Steps+1),a0.bb.Deep,a0.bb.bx,a0.bb.eC,a0.bb.fp,a0.bb.Tree⟩:eZ)⟩:dz)))
def uF (a0:dz) (av:Int) (a2:Int) (a3:Node):Option (Bool × dz) :=
 (x3 a0 (aG ((a0.dt.length:Int) - a2))).bind λaR =>
 (bif !aR.1 then
 some (false,aR.2)
 else
 (lV aR.2.dt (aG ((aR.2.dt.length:Int) - a2))).bind λa7 =>
 (cT (aR.2.dt.take ((aG ((aR.2.dt.length:Int) - a2)).toNat)) [av]).bind λbl =>
 (lV aR.2.fc (aG ((aR.2.fc.length:Int) - a2))).bind λbW =>
 (cT (aR.2.fc.take ((aG ((aR.2.fc.length:Int) - a2)).toNat)) [a3]).bind λbz =>
 some (true,(⟨aR.2.b0,aR.2.iQ,aR.2.jj,aR.2.jk,bl,bz,aR.2.h5,(⟨aR.2.bb.Kind,aR.2.bb.At,aR.2.bb.Steps,max aR.2.bb.Deep (aG ((bl.length:Int) - 1)),aR.2.bb.bx,aR.2.bb.eC,aR.2.bb.fp,aR.2.bb.Tree⟩:eZ)⟩:dz)))
def uG (a0:dz) (av:Int):Option (Node) :=
 some (⟨av,(-1),a0.bb.At,(mV dn ([]:List Node))⟩:Node)
def K' (a0:List Node):Option (List Node):=E4 a0
def Ao (a0:Tables) (av:Int) (a2:Int):Option (Int) :=
 (rD a0.ej a2 av).bind λaR =>
 (bif aR.2 then
 some aR.1
 else
 ((bif decide (a2<0) then some true else some (decide ((a0.jw.length:Int)<=a2)))).bind λc4 =>
 (bif c4 then
 some (-1)
 else
 (idx a0.jw a2).bind λbz =>
 some bz))
def AN (a0:dz) (av:Int):Option (dz) :=
 (idx a0.b0.kv av).bind λaR =>
 (idx a0.b0.Left av).bind λx2 =>
 (lV a0.fc (aG ((a0.fc.length:Int) - aR))).bind λa7 =>
 (K' (a0.fc.drop ((aG ((a0.fc.length:Int) - aR)).toNat))).bind λbl =>
 (idx a0.dt (aG ((aG ((a0.dt.length:Int) - 1)) - aR))).bind λbW =>
 (Ao a0.b0 bW x2).bind λbz =>
 (uF a0 bz aR (⟨aG (1000+x2),av,(-1),(mV dn bl)⟩:Node)).bind λbq =>
 ((bif bq.1 then
 (cT bq.2.bb.bx [av]).bind λb5 =>
 some (bq.2.bb.bx++[av])
 else
 some bq.2.bb.bx)).bind λdZ =>
 some (⟨bq.2.b0,bq.2.iQ,bq.2.jj,bq.2.jk,bq.2.dt,bq.2.fc,bq.2.h5,(⟨bq.2.bb.Kind,bq.2.bb.At,bq.2.bb.Steps,bq.2.bb.Deep,dZ,bq.2.bb.eC,bq.2.bb.fp,bq.2.bb.Tree⟩:eZ)⟩:dz)
def Dl (a0:dz):Option (dz) :=
 (yj a0).bind λaR =>
 ((bif decide (aR=0) then
 some (⟨a0.b0,a0.iQ,a0.jj,a0.jk,a0.dt,a0.fc,a0.h5,(⟨2,a0.bb.At,a0.bb.Steps,a0.bb.Deep,a0.bb.bx,a0.bb.eC,a0.bb.fp,a0.bb.Tree⟩:eZ)⟩:dz)
 else
 (x3 a0 (aG ((a0.dt.length:Int) - 1))).bind λbl =>
 ((bif bl.1 then
 (cT bl.2.bb.fp [bl.2.bb.At]).bind λbq =>
 some (aG (bl.2.bb.At+1),bl.2.bb.fp++[bl.2.bb.At])
 else
 some (bl.2.bb.At,bl.2.bb.fp))).bind λiy =>
 some (⟨bl.2.b0,bl.2.iQ,bl.2.jj,bl.2.jk,bl.2.dt,bl.2.fc,bl.2.h5,(⟨bl.2.bb.Kind,iy.1,bl.2.bb.Steps,bl.2.bb.Deep,bl.2.bb.bx,bl.2.bb.eC,iy.2,bl.2.bb.Tree⟩:eZ)⟩:dz))).bind λxJ =>
 some xJ
def AO (a0:dz):Option (dz) :=
 (bif decide (a0.h5=3) then
 (Dl a0).bind λx2 =>
 some x2
 else
 (cT a0.bb.eC [(⟨a0.bb.At,decide (a0.h5=0)⟩:qb)]).bind λa7 =>
 (yi (⟨a0.b0,a0.iQ,a0.jj,a0.jk,a0.dt,a0.fc,3,(⟨a0.bb.Kind,a0.bb.At,a0.bb.Steps,a0.bb.Deep,a0.bb.bx,a0.bb.eC++[(⟨a0.bb.At,decide (a0.h5=0)⟩:qb)],a0.bb.fp,a0.bb.Tree⟩:eZ)⟩:dz) 1).bind λbl =>
 (cf (R:=(dz × Int × Int) ⊕ (dz)) (λ(b2:dz × Int × Int) =>
 (bif !decide (b2.2.1=1) then
 (bif decide (aG ((b2.1.dt.length:Int) - 1)=0) then
 some (.inr (.inr (⟨b2.1.b0,b2.1.iQ,b2.1.jj,b2.1.jk,b2.1.dt,b2.1.fc,b2.1.h5,(⟨2,b2.1.bb.At,b2.1.bb.Steps,b2.1.bb.Deep,b2.1.bb.bx,b2.1.bb.eC,b2.1.bb.fp,b2.1.bb.Tree⟩:eZ)⟩:dz)))
 else
 (x3 b2.1 (aG ((aG ((b2.1.dt.length:Int) - 1)) - 1))).bind λa1 =>
 (bif !a1.1 then
 some (.inr (.inr a1.2))
 else
 (lV a1.2.dt (aG ((b2.1.dt.length:Int) - 1))).bind λct =>
 (lV a1.2.fc (aG ((aG ((b2.1.dt.length:Int) - 1)) - 1))).bind λed =>
 (yi (⟨a1.2.b0,a1.2.iQ,a1.2.jj,a1.2.jk,a1.2.dt.take ((aG ((b2.1.dt.length:Int) - 1)).toNat),a1.2.fc.take ((aG ((aG ((b2.1.dt.length:Int) - 1)) - 1)).toNat),a1.2.h5,a1.2.bb⟩:dz) 1).bind λcF =>
 some (.inl ((⟨a1.2.b0,a1.2.iQ,a1.2.jj,a1.2.jk,a1.2.dt.take ((aG ((b2.1.dt.length:Int) - 1)).toNat),a1.2.fc.take ((aG ((aG ((b2.1.dt.length:Int) - 1)) - 1)).toNat),a1.2.h5,a1.2.bb⟩:dz),cF.Kind,cF.N))))
 else
 some (.inr (.inl (b2.1,b2.2.1,b2.2.2))))) ((⟨a0.b0,a0.iQ,a0.jj,a0.jk,a0.dt,a0.fc,3,(⟨a0.bb.Kind,a0.bb.At,a0.bb.Steps,a0.bb.Deep,a0.bb.bx,a0.bb.eC++[(⟨a0.bb.At,decide (a0.h5=0)⟩:qb)],a0.bb.fp,a0.bb.Tree⟩:eZ)⟩:dz),bl.Kind,bl.N)).bind λbz =>
 (match bz with
 | .inl bq =>
 (uG bq.1 1).bind λdj =>
 (uF bq.1 bq.2.2 0 dj).bind λc3 =>
 some c3.2
 | .inr bE =>
 some bE))
def yf (a0:dz):Option (dz) :=
 (yj a0).bind λaR =>
 (yi a0 aR).bind λx2 =>
 (((bif decide (x2.Kind=1) then
 (yj a0).bind λbz =>
 (uG a0 bz).bind λbq =>
 (uF a0 x2.N 0 bq).bind λbE =>
 ((bif bE.1 then
 some (max (aG (bE.2.h5 - 1)) 0,aG (bE.2.bb.At+1))
 else
 some (bE.2.h5,bE.2.bb.At))).bind λmR =>
 some (⟨bE.2.b0,bE.2.iQ,bE.2.jj,bE.2.jk,bE.2.dt,bE.2.fc,mR.1,(⟨bE.2.bb.Kind,mR.2,bE.2.bb.Steps,bE.2.bb.Deep,bE.2.bb.bx,bE.2.bb.eC,bE.2.bb.fp,bE.2.bb.Tree⟩:eZ)⟩:dz)
 else
 ((bif decide (x2.Kind=2) then
 (AN a0 x2.N).bind λct =>
 some ct
 else
 ((bif decide (x2.Kind=3) then
 (idx a0.fc (aG ((a0.fc.length:Int) - 1))).bind λdj =>
 some (⟨a0.b0,a0.iQ,a0.jj,a0.jk,a0.dt,a0.fc,a0.h5,(⟨1,a0.bb.At,a0.bb.Steps,a0.bb.Deep,a0.bb.bx,a0.bb.eC,a0.bb.fp,dj⟩:eZ)⟩:dz)
 else
 (AO a0).bind λc3 =>
 some c3)).bind λfU =>
 some fU)).bind λiW =>
 some iW)).bind λxM =>
 some xM).bind λhC =>
 some hC
def ti (a0:Tables) (av:(List Int)) (a2:Int) (a3:Int):Option (eZ) :=
 ((cf (R:=List Int) (λ(s2:List Int × Int) =>
 (bif decide (s2.2<(av.length:Int)) then
 (idx av s2.2).bind λbz =>
 (bif decide (bz<=0) then
 some (.inr s2.1)
 else
 (v8 a0.je bz).bind λbE =>
 (cT s2.1 [bE]).bind λcm =>
 some (.inl (s2.1++[bE],aG (s2.2+1))))
 else
 some (.inr s2.1))) (([]:List Int),0)).bind λa7 =>
 some a7).bind λlr =>
 (cf (R:=dz) (λ(eT:dz) =>
 (bif decide (eT.bb.Kind=0) then
 (yf eT).bind λed =>
 some (.inl ed)
 else
 some (.inr eT))) (⟨a0,lr,min (max a2 0) 100000,min (max a3 0) 1000000,[0],[],0,(⟨0,0,0,0,[],[],[],(⟨0,0,0,GI⟩:Node)⟩:eZ)⟩:dz)).bind λa1 =>
 some a1.bb
def DL (a0:cG) (av:cG):Option (Int) :=
 (tm a0.At av.At).bind λaR =>
 some aR
structure b4 where
 Name:ByteArray
 Lit:Bool
 cc:Int
 Level:Int
 i':Int
 Tag:ByteArray
 deriving DecidableEq,Inhabited
structure fH where
 Name:ByteArray
 Tag:ByteArray
 deriving DecidableEq,Inhabited
structure Prod where
 Left:Int
 dD:(List Int)
 Prec:Int
 Code:ByteArray
 RZ:(List Int)
 At:Int
 deriving DecidableEq,Inhabited
structure bD where
 br:(List b4)
 dC:(List fH)
 bx:(List Prod)
 hf:ByteArray
 jX:ByteArray
 deriving DecidableEq,Inhabited
abbrev H7 (x:b4):List ab:=[aZ x.Name,bg x.Lit,ae x.cc,ae x.Level,ae x.i',aZ x.Tag]
def cv:bN b4:=⟨6,λx=>H7 x,λ_=>rfl,λ_=>dk.bk⟩
instance:im cv cv:=⟨rfl,λx=>(inferInstance:f_ (H7 x) (H7 x))⟩
def e2:bN fH:=⟨2,λx=>[aZ x.Name,aZ x.Tag],λ_=>rfl,λ_=>dk.bk⟩
instance:im e2 e2:=⟨rfl,λx=>(inferInstance:f_ [aZ x.Name,aZ x.Tag] [aZ x.Name,aZ x.Tag])⟩
abbrev H6 (x:Prod):List ab:=[ae x.Left,aj ai x.dD,ae x.Prec,aZ x.Code,aj ai x.RZ,ae x.At]
def hG:bN Prod:=⟨6,λx=>H6 x,λ_=>rfl,λ_=>dk.bk⟩
instance:im hG hG:=⟨rfl,λx=>(inferInstance:f_ (H6 x) (H6 x))⟩
abbrev Bz (x:bD):List ab:=[aj cv x.br,aj e2 x.dC,aj hG x.bx,aZ x.hf,aZ x.jX]
def c9:bN bD:=⟨5,λx=>Bz x,λ_=>rfl,λ_=>dk.bk⟩
def AE (a0:bD):Option ((List cG)) :=
 (cf (R:=List cG) (λ(s1:List cG × Int) =>
 (bif decide (s1.2<(a0.br.length:Int)) then
 ((idx a0.br s1.2).bind λbz =>
 ((bif decide (0<bz.cc) then
 (cT s1.1 [(⟨bz.cc,s1.2⟩:cG)]).bind λcm =>
 some (s1.1++[(⟨bz.cc,s1.2⟩:cG)])
 else
 some s1.1)).bind λk5 =>
 some k5).bind λiy =>
 some (.inl (iy,aG (s1.2+1)))
 else
 some (.inr s1.1))) (([]:List cG),0)).bind λx2 =>
 (pZ (λa b=>DL a b) x2).bind λb5 =>
 some b5
def Aq (a0:(List (List cG))):Option (Bool) :=
 (bif decide (400<(a0.length:Int)) then
 some false
 else
 (cf (R:=(Unit) ⊕ (Bool)) (λ(s2:Int) =>
 (bif decide (s2<(a0.length:Int)) then
 (idx a0 s2).bind λbq =>
 (cf (R:=(Unit) ⊕ (Bool)) (λ(ei:List Bool × Int) =>
 (bif decide (ei.2<(bq.length:Int)) then
 (idx bq ei.2).bind λct =>
 ((bif decide (ct.At<0) then some true else (bif decide (1000<=ct.At) then some true else ((xG 1000 ei.1 ct.At).bind λdj=>some dj)))).bind λwP =>
 (bif wP then
 some (.inr (.inr false))
 else
 (xG 1000 ei.1 ct.At).bind λgf =>
 some (.inl (ei.1.set ct.At.toNat true,aG (ei.2+1))))
 else
 some (.inr (.inl ())))) ((List.replicate 1000 false),0)).bind λcm =>
 (match cm with
 | .inl b5 =>
 some (.inl (aG (s2+1)))
 | .inr a1 =>
 some (.inr (.inr a1)))
 else
 some (.inr (.inl ())))) 0).bind λa7 =>
 (match a7 with
 | .inl bl =>
 some true
 | .inr bW =>
 some bW))
def Dn (a0:(List Int)):Option (Int) :=
 (cf (R:=(Unit) ⊕ (Int)) (λ(s1:Int) =>
 (bif decide (s1<(a0.length:Int)) then
 (idx a0 s1).bind λbz =>
 (bif !decide (bz=0) then
 some (.inr (.inr bz))
 else
 some (.inl (aG (s1+1))))
 else
 some (.inr (.inl ())))) 0).bind λx2 =>
 (match x2 with
 | .inl a7 =>
 some 0
 | .inr bl =>
 some bl)
def vU (a0:Int) (av:Int) (c0:(List (List cG))):Option (Int) :=
 (idx c0 av).bind λaR =>
 (idx c0 a0).bind λx2 =>
 (tm (aR.length:Int) (x2.length:Int)).bind λa7 =>
 (tm a0 av).bind λbl =>
 (Dn [a7,bl]).bind λbW =>
 some bW
def Dy (a0:cG) (c0:Int) (c1:(List Int)):Option (Bool) :=
 ((bif decide (aG (c0+a0.At)<(c1.length:Int)) then ((idx c1 (aG (c0+a0.At))).bind λx2=>some (!decide (x2=0))) else some false)).bind λkz =>
 some kz
def Gl (a0:(List cG)) (q5:Int) (q6:(List Int)):Option (Int) :=
 (cf (R:=(Unit) ⊕ (Int)) (λ(s1:Int) =>
 (bif decide (s1<(a0.length:Int)) then
 (idx a0 s1).bind λbz =>
 (Dy bz q5 q6).bind λbq =>
 (bif bq then
 some (.inr (.inr s1))
 else
 some (.inl (aG (s1+1))))
 else
 some (.inr (.inl ())))) 0).bind λx2 =>
 (match x2 with
 | .inl a7 =>
 some (-1)
 | .inr bl =>
 some bl)
def Gk (a0:(List cG)) (q5:Int) (q6:(List Int)):Option (Bool) :=
 (Gl a0 q5 q6).bind λaR =>
 some (decide (0<=aR))
def x5 (a0:(List Int)) (av:(List cG)) (a2:Int):Option (Bool) :=
 (Gk av a2 a0).bind λaR =>
 some (!aR)
def vd:bN hZ:=⟨3,λx=>[aC ai x.cX,aC ai x.cb,aC ai x.b_],λ_=>rfl,λ_=>dk.bk⟩
instance:Bi vd:=⟨λx=>(inferInstance:q2 [aC ai x.cX,aC ai x.cb,aC ai x.b_])⟩
def AP (a0:(List (List cG))):Option (hZ) :=
 (Aq a0).bind λaR =>
 (bif !aR then
 some (⟨([]:List Int),([]:List Int),([]:List Int)⟩:hZ)
 else
 (oP (a0.length:Int) 0).bind λa7 =>
 (cf (R:=List Int) (λ(da:List Int × Int) =>
 (bif decide (da.2<(a0.length:Int)) then
 ((idx a0 da.2).bind λcm =>
 ((bif decide (0<(cm.length:Int)) then
 (cT da.1 [da.2]).bind λea =>
 some (da.1++[da.2])
 else
 some da.1)).bind λjL =>
 some jL).bind λdZ =>
 some (.inl (dZ,aG (da.2+1)))
 else
 some (.inr da.1))) (([]:List Int),0)).bind λbW =>
 (pZ (λa b=>vU a b a0) bW).bind λct =>
 (cf (R:=hZ) (λ(er:hZ × Int) =>
 (bif decide (er.2<(ct.length:Int)) then
 (idx ct er.2).bind λdP =>
 (cf (R:=List Int) (λ(dh:List Int) =>
 (idx a0 dP).bind λiB =>
 (idx dh dP).bind λfY =>
 (x5 er.1.b_ iB fY).bind λhQ =>
 (bif !hQ then
 (idx dh dP).bind λjS =>
 some (.inl (dh.set dP.toNat (aG (jS+1))))
 else
 some (.inr dh))) er.1.cX).bind λeL =>
 (idx a0 dP).bind λfF =>
 (cf (R:=List Int × List Int) (λ(kJ:List Int × List Int × Int) =>
 (bif decide (kJ.2.2<(fF.length:Int)) then
 (idx fF kJ.2.2).bind λdb =>
 (idx eL dP).bind λhR =>
 (cf (R:=List Int × List Int) (λ(hd:List Int × List Int) =>
 (bif decide ((hd.2.length:Int)<=aG (hR+db.At)) then
 (cT hd.2 [0]).bind λgK =>
 (cT hd.1 [0]).bind λkL =>
 some (.inl (hd.1++[0],hd.2++[0]))
 else
 some (.inr (hd.1,hd.2)))) (kJ.1,kJ.2.1)).bind λfl =>
 (idx fl.2 (aG (hR+db.At))).bind λwx =>
 (idx fl.1 (aG (hR+db.At))).bind λG_ =>
 some (.inl (fl.1.set (aG (hR+db.At)).toNat db.cb,fl.2.set (aG (hR+db.At)).toNat (aG (dP+1)),aG (kJ.2.2+1)))
 else
 some (.inr (kJ.1,kJ.2.1)))) (er.1.cb,er.1.b_,0)).bind λee =>
 some (.inl ((⟨eL,ee.1,ee.2⟩:hZ),aG (er.2+1)))
 else
 some (.inr er.1))) ((⟨a7,([]:List Int),([]:List Int)⟩:hZ),0)).bind λcF =>
 some cF)
structure Row where
 Def:Int
 g_:(List cG)
 deriving DecidableEq,Inhabited
def pB:bN Row:=⟨2,λx=>[ae x.Def,aj cq x.g_],λ_=>rfl,λ_=>dk.bk⟩
instance:im pB pB:=⟨rfl,λx=>(inferInstance:f_ [ae x.Def,aj cq x.g_] [ae x.Def,aj cq x.g_])⟩
def yg (a0:(List Row)):Option ((List Int) × hZ) :=
 (cf (R:=List Int × List (List cG)) (λ(s1:List Int × List (List cG) × Int) =>
 (bif decide (s1.2.2<(a0.length:Int)) then
 (idx a0 s1.2.2).bind λbW =>
 (cT s1.1 [bW.Def]).bind λbz =>
 (cT s1.2.1 [bW.g_]).bind λbq =>
 some (.inl (s1.1++[bW.Def],s1.2.1++[bW.g_],aG (s1.2.2+1)))
 else
 some (.inr (s1.1,s1.2.1)))) (([]:List Int),([]:List (List cG)),0)).bind λx2 =>
 (AP x2.2).bind λbE =>
 some (x2.1,bE)
def v' (a0:(List Int)):Option (Int) :=
 (cf (R:=Int) (λ(s1:(List (Int × Int)) × Int × Int) =>
 (bif decide (s1.2.2<(a0.length:Int)) then
 ((idx a0 s1.2.2).bind λbz =>
 (ux su 0 s1.1 bz).bind λbq =>
 (z' su s1.1 bz (aG (bq+1))).bind λbE =>
 (ux su 0 bE bz).bind λcm =>
 (ux su 0 bE s1.2.1).bind λb5 =>
 ((bif decide (s1.2.1<0) then some true else (bif decide (0<aG (cm - b5)) then some true else (bif decide (aG (cm - b5)=0) then some (decide (bz<s1.2.1)) else some false)))).bind λqf =>
 ((bif qf then
 some bz
 else
 some s1.2.1)).bind λrv =>
 some (bE,rv)).bind λiy =>
 some (.inl (iy.1,iy.2,aG (s1.2.2+1)))
 else
 some (.inr s1.2.1))) (([]:List (Int × Int)),(-1),0)).bind λx2 =>
 some x2
def AQ (a0:Act):Option (Int) :=
 ((bif decide (a0.Kind=1) then (bif decide (0<=a0.N) then some (decide (a0.N<20000)) else some false) else some false)).bind λkz =>
 (bif kz then
 some (aG (a0.N+1))
 else
 ((bif decide (a0.Kind=2) then (bif decide (0<a0.N) then some (decide (a0.N<20000)) else some false) else some false)).bind λnT =>
 (bif nT then
 some (aG (-a0.N))
 else
 ((bif decide (a0.Kind=3) then some (decide (a0.N=0)) else some false)).bind λiF =>
 (bif iF then
 some 20001
 else
 ((bif decide (a0.Kind=4) then some (decide (a0.N=0)) else some false)).bind λiN =>
 (bif iN then
 some 20002
 else
 some 0))))
structure gP where
 cz:(List (List Act))
 eB:(List (List Int))
 deriving DecidableEq,Inhabited
def dT:bN Act:=⟨2,λx=>[ae x.Kind,ae x.N],λ_=>rfl,λ_=>dk.bk⟩
instance:im dT dT:=⟨rfl,λx=>(inferInstance:f_ [ae x.Kind,ae x.N] [ae x.Kind,ae x.N])⟩
def DJ (a0:gP):Option ((List Row)) :=
 (cf (R:=List Row) (λ(s1:List Row × Int) =>
 (bif decide (s1.2<(a0.cz.length:Int)) then
 (idx a0.cz s1.2).bind λbW =>
 (cf (R:=List Int) (λ(cI:List Int × Int) =>
 (bif decide (cI.2<(bW.length:Int)) then
 ((idx bW cI.2).bind λa1 =>
 ((bif decide (a1.Kind=2) then
 (cT cI.1 [a1.N]).bind λed =>
 some (cI.1++[a1.N])
 else
 some cI.1)).bind λgX =>
 some gX).bind λjL =>
 some (.inl (jL,aG (cI.2+1)))
 else
 some (.inr cI.1))) (([]:List Int),0)).bind λbq =>
 (v' bq).bind λcF =>
 (cf (R:=List cG) (λ(nI:List cG × Int) =>
 (bif decide (nI.2<(bW.length:Int)) then
 ((idx bW nI.2).bind λfN =>
 ((bif !decide (fN.Kind=0) then (bif !decide (fN.Kind=2) then some true else some (!decide (fN.N=cF))) else some false)).bind λwQ =>
 ((bif wQ then
 (AQ fN).bind λfF =>
 (cT nI.1 [(⟨nI.2,fF⟩:cG)]).bind λgz =>
 some (nI.1++[(⟨nI.2,fF⟩:cG)])
 else
 some nI.1)).bind λKu =>
 some Ku).bind λxK =>
 some (.inl (xK,aG (nI.2+1)))
 else
 some (.inr nI.1))) (([]:List cG),0)).bind λc3 =>
 (cT s1.1 [(⟨cF,c3⟩:Row)]).bind λee =>
 some (.inl (s1.1++[(⟨cF,c3⟩:Row)],aG (s1.2+1)))
 else
 some (.inr s1.1))) (([]:List Row),0)).bind λx2 =>
 some x2
def DK (a0:gP):Option ((List Row)) :=
 (bif decide ((a0.eB.length:Int)=0) then
 some ([]:List Row)
 else
 (idx a0.eB 0).bind λx2 =>
 (cf (R:=List Row) (λ(eD:List Row × Int) =>
 (bif decide (eD.2<(x2.length:Int)) then
 (cf (R:=List Int) (λ(gb:List Int × Int) =>
 (bif decide (gb.2<(a0.eB.length:Int)) then
 ((idx a0.eB gb.2).bind λea =>
 (idx ea eD.2).bind λct =>
 ((bif decide (0<=ct) then
 (idx ea eD.2).bind λdj =>
 (cT gb.1 [dj]).bind λc3 =>
 some (gb.1++[dj])
 else
 some gb.1)).bind λfU =>
 some fU).bind λiW =>
 some (.inl (iW,aG (gb.2+1)))
 else
 some (.inr gb.1))) (([]:List Int),0)).bind λbE =>
 (v' bE).bind λdP =>
 (cf (R:=List cG) (λ(dh:List cG × Int) =>
 (bif decide (dh.2<(a0.eB.length:Int)) then
 ((idx a0.eB dh.2).bind λhQ =>
 (((idx hQ eD.2).bind λly=>(bif decide (0<=ly) then ((idx hQ eD.2).bind λfF=>some (!decide (fF=dP))) else some false))).bind λwR =>
 ((bif wR then
 (idx hQ eD.2).bind λoT =>
 (cT dh.1 [(⟨dh.2,oT⟩:cG)]).bind λdb =>
 some (dh.1++[(⟨dh.2,oT⟩:cG)])
 else
 some dh.1)).bind λuu =>
 some uu).bind λKs =>
 some (.inl (Ks,aG (dh.2+1)))
 else
 some (.inr dh.1))) (([]:List cG),0)).bind λeL =>
 (cT eD.1 [(⟨dP,eL⟩:Row)]).bind λhR =>
 some (.inl (eD.1++[(⟨dP,eL⟩:Row)],aG (eD.2+1)))
 else
 some (.inr eD.1))) (([]:List Row),0)).bind λbl =>
 some bl)
def yc (a0:bD) (av:gP):Option (Tables) :=
 (DJ av).bind λaR =>
 (yg aR).bind λx2 =>
 (DK av).bind λa7 =>
 (yg a7).bind λbl =>
 (cf (R:=List Int × List Int) (λ(b2:List Int × List Int × Int) =>
 (bif decide (b2.2.2<(a0.bx.length:Int)) then
 (idx a0.bx b2.2.2).bind λcm =>
 (cT b2.1 [cm.Left]).bind λb5 =>
 (cT b2.2.1 [(cm.dD.length:Int)]).bind λa1 =>
 some (.inl (b2.1++[cm.Left],b2.2.1++[(cm.dD.length:Int)],aG (b2.2.2+1)))
 else
 some (.inr (b2.1,b2.2.1)))) (([]:List Int),([]:List Int),0)).bind λbz =>
 (AE a0).bind λea =>
 some (⟨x2.1,x2.2,bl.1,bl.2,bz.1,bz.2,ea⟩:Tables)
def tl (a0:(List Int)) (av:(List Int)):Option (Bool) :=
 (bif !decide ((a0.length:Int)=(av.length:Int)) then
 some false
 else
 (cf (R:=(Unit) ⊕ (Bool)) (λ(s2:Int) =>
 (bif decide (s2<(a0.length:Int)) then
 (idx a0 s2).bind λbq =>
 (idx av s2).bind λbE =>
 (bif !decide (bq=bE) then
 some (.inr (.inr false))
 else
 some (.inl (aG (s2+1))))
 else
 some (.inr (.inl ())))) 0).bind λa7 =>
 (match a7 with
 | .inl bl =>
 some true
 | .inr bW =>
 some bW))
def DE (a0:Int):Option (Bool) :=
 ((bif decide (97<=a0) then (bif decide (a0<=122) then some true else (bif decide (65<=a0) then (bif decide (a0<=90) then some true else some (decide (a0=95))) else some (decide (a0=95)))) else (bif decide (65<=a0) then (bif decide (a0<=90) then some true else some (decide (a0=95))) else some (decide (a0=95))))).bind λnT =>
 some nT
def DF (a0:Int):Option (Bool) :=
 ((bif decide (48<=a0) then some (decide (a0<=57)) else some false)).bind λc2 =>
 some c2
def DD (a0:ByteArray) (av:Int):Option (Int) :=
 (cf (R:=Int) (λ(s1:Int) =>
 ((bif decide (aG (av+s1)<(a0.size:Int)) then ((ky a0 (aG (av+s1))).bind λbW=>((DE bW).bind λbz=>(bif bz then some true else (bif decide (0<s1) then ((ky a0 (aG (av+s1))).bind λcm=>((DF cm).bind λb5=>(bif b5 then some true else ((ky a0 (aG (av+s1))).bind λea=>some (decide (ea=46)))))) else some false)))) else some false)).bind λiN =>
 (bif iN then
 some (.inl (aG (s1+1)))
 else
 some (.inr s1))) 0).bind λx2 =>
 some x2
def vY (a0:ByteArray):Option (Bool) :=
 ((bif decide (1<=(a0.size:Int)) then (bif decide ((a0.size:Int)<=20) then ((DD a0 0).bind λa7=>some (decide (a7=(a0.size:Int)))) else some false) else some false)).bind λc4 =>
 some c4
def AB (a0:Int):Option (Int × Bool) :=
 (bif decide (a0=10) then
 some (110,true)
 else
 (bif decide (a0=9) then
 some (116,true)
 else
 (bif decide (a0=13) then
 some (114,true)
 else
 ((bif decide (a0=92) then
 some (decide (a0=92))
 else
 some (decide (a0=39)))).bind λxM =>
 (bif xM then
 some (a0,true)
 else
 ((bif decide (32<=a0) then some (0,decide (a0<=126)) else some (0,false))).bind λtO =>
 some (tO.1,tO.2)))))
structure Sym where
 Name:ByteArray
 Lit:Bool
 cc:Int
 At:Int
 deriving DecidableEq,Inhabited
def fv:bN Sym:=⟨4,λx=>[aZ x.Name,bg x.Lit,ae x.cc,ae x.At],λ_=>rfl,λ_=>dk.bk⟩
instance:im fv fv:=⟨rfl,λx=>(inferInstance:f_ [aZ x.Name,bg x.Lit,ae x.cc,ae x.At] [aZ x.Name,bg x.Lit,ae x.cc,ae x.At])⟩
def uC (a0:Sym) (av:Bool) (a2:Bool):Option (Bool) :=
 (bif a0.Lit then
 ((bif !a2 then some true else (bif !decide ((a0.Name.size:Int)=1) then some true else some (!decide (a0.cc=0))))).bind λc4 =>
 (bif c4 then
 some false
 else
 (ky a0.Name 0).bind λbz =>
 (AB bz).bind λbq =>
 some bq.2)
 else
 (((vY a0.Name).bind λbE=>(bif bE then (bif decide (a0.cc=0) then some true else (bif av then (bif decide (1<=a0.cc) then some (decide (a0.cc<=50000)) else some false) else some false)) else some false))).bind λiN =>
 some iN)
structure Decl where
 Kind:Int
 Tag:ByteArray
 fa:(List Sym)
 At:Int
 deriving DecidableEq,Inhabited
def eQ:bN Decl:=⟨4,λx=>[ae x.Kind,aZ x.Tag,aj fv x.fa,ae x.At],λ_=>rfl,λ_=>dk.bk⟩
def ya (a0:Decl):Option (Bool) :=
 ((bif decide (a0.Kind<1) then some true else (bif decide (6<a0.Kind) then some true else (bif decide ((a0.fa.length:Int)=0) then some true else (bif decide (a0.Kind=6) then (bif !decide ((a0.fa.length:Int)=1) then some true else (bif !decide (a0.Tag=⟨#[]⟩) then some true else (bif decide (a0.Kind=5) then (bif decide (a0.Tag=⟨#[]⟩) then some true else some false) else some false))) else (bif decide (a0.Kind=5) then (bif decide (a0.Tag=⟨#[]⟩) then some true else (bif !decide (a0.Tag=⟨#[]⟩) then ((vY a0.Tag).bind λea=>some (!ea)) else some false)) else (bif !decide (a0.Tag=⟨#[]⟩) then ((vY a0.Tag).bind λed=>some (!ed)) else some false))))))).bind λwO =>
 (bif wO then
 some false
 else
 (cf (R:=(Unit) ⊕ (Bool)) (λ(l0:Int) =>
 (bif decide (l0<(a0.fa.length:Int)) then
 (idx a0.fa l0).bind λiB =>
 (uC iB (decide (a0.Kind=1)) (decide (a0.Kind<5))).bind λfY =>
 (bif !fY then
 some (.inr (.inr false))
 else
 some (.inl (aG (l0+1))))
 else
 some (.inr (.inl ())))) 0).bind λdP =>
 (match dP with
 | .inl gf =>
 some true
 | .inr eL =>
 some eL))
def uD (a0:Sym):Option (Bool) :=
 ((bif decide (a0.Name=⟨#[]⟩) then (bif !a0.Lit then some (decide (a0.cc=0)) else some false) else some false)).bind λkz =>
 some kz
def yd (a0:ByteArray) (av:Int) (a2:ByteArray):Option (Bool) :=
 ((bif decide ((a2.size:Int)<=aG ((a0.size:Int) - av)) then ((wZ a0 av (aG (av+(a2.size:Int)))).bind λx2=>some (decide (x2=a2))) else some false)).bind λkz =>
 some kz
def DG (a0:ByteArray) (av:Int):Option (Int) :=
 (((ky a0 av).bind λaR=>(bif decide (aR=34) then some true else ((ky a0 av).bind λa7=>some (decide (a7=39)))))).bind λc4 =>
 (bif c4 then
 (cf (R:=(Unit) ⊕ (Int)) (λ(cI:Int) =>
 ((bif decide (cI<(a0.size:Int)) then ((ky a0 cI).bind λa1=>some (!decide (a1=10))) else some false)).bind λr1 =>
 (bif r1 then
 (ky a0 cI).bind λed =>
 (ky a0 av).bind λcF =>
 (bif decide (ed=cF) then
 some (.inr (.inr (aG (cI+1))))
 else
 (ky a0 cI).bind λc3 =>
 (bif decide (c3=92) then
 ((bif decide (aG (cI+1)<(a0.size:Int)) then ((ky a0 (aG (cI+1))).bind λeL=>some (decide (eL=10))) else some false)).bind λsW =>
 (bif sW then
 some (.inr (.inr (-1)))
 else
 some (.inl (aG ((aG (cI+1))+1))))
 else
 some (.inl (aG (cI+1)))))
 else
 some (.inr (.inl ())))) (aG (av+1))).bind λbq =>
 (match bq with
 | .inl bE =>
 some (-1)
 | .inr cm =>
 some cm)
 else
 (ky a0 av).bind λfY =>
 (bif decide (fY=96) then
 (cf (R:=(Unit) ⊕ (Int)) (λ(A0:Int) =>
 (bif decide (A0<(a0.size:Int)) then
 (ky a0 A0).bind λjv =>
 (bif decide (jv=96) then
 some (.inr (.inr (aG (A0+1))))
 else
 some (.inl (aG (A0+1))))
 else
 some (.inr (.inl ())))) (aG (av+1))).bind λjS =>
 (match jS with
 | .inl fF =>
 some (-1)
 | .inr gz =>
 some gz)
 else
 (yd a0 av (⟨#[47,47]⟩)).bind λdb =>
 (bif db then
 (cf (R:=Int) (λ(hd:Int) =>
 ((bif decide (hd<(a0.size:Int)) then ((ky a0 hd).bind λgK=>some (!decide (gK=10))) else some false)).bind λHW =>
 (bif HW then
 some (.inl (aG (hd+1)))
 else
 some (.inr hd))) av).bind λfl =>
 some fl
 else
 (yd a0 av (⟨#[47,42]⟩)).bind λG_ =>
 (bif G_ then
 (cf (R:=(Unit) ⊕ (Int)) (λ(A1:Int) =>
 (bif decide (A1<(a0.size:Int)) then
 (yd a0 A1 (⟨#[42,47]⟩)).bind λHa =>
 (bif Ha then
 some (.inr (.inr (aG (A1+2))))
 else
 some (.inl (aG (A1+1))))
 else
 some (.inr (.inl ())))) (aG (av+2))).bind λG' =>
 (match G' with
 | .inl abX =>
 some (-1)
 | .inr qQ =>
 some qQ)
 else
 some av))))
def AA (a0:ByteArray) (av:Int):Option (Int) :=
 ((bif decide (av<0) then some true else (bif decide ((a0.size:Int)<=av) then some true else ((ky a0 av).bind λa7=>some (!decide (a7=123)))))).bind λc4 =>
 (bif c4 then
 some (-1)
 else
 (cf (R:=(Unit) ⊕ (Int)) (λ(cI:Int × Int) =>
 (bif decide (cI.2<(a0.size:Int)) then
 (DG a0 cI.2).bind λa1 =>
 (bif decide (a1<0) then
 some (.inr (.inr (-1)))
 else
 (bif decide (cI.2<a1) then
 some (.inl (cI.1,a1))
 else
 (ky a0 cI.2).bind λed =>
 ((bif decide (ed=123) then
 some (aG (cI.1+1))
 else
 some cI.1)).bind λrv =>
 (ky a0 cI.2).bind λc3 =>
 ((bif decide (c3=125) then
 some (aG (rv - 1))
 else
 some rv)).bind λFT =>
 (bif decide (FT=0) then
 some (.inr (.inr (aG (cI.2+1))))
 else
 some (.inl (FT,aG (cI.2+1))))))
 else
 some (.inr (.inl ())))) (0,av)).bind λbq =>
 (match bq with
 | .inl bE =>
 some (-1)
 | .inr cm =>
 some cm))
structure Part where
 Sym:Sym
 Code:ByteArray
 At:Int
 deriving DecidableEq,Inhabited
structure Alt where
 Parts:(List Part)
 Prec:Sym
 At:Int
 deriving DecidableEq,Inhabited
abbrev H5 (x:Part):List ab:=[aZ x.Sym.Name,bg x.Sym.Lit,ae x.Sym.cc,ae x.Sym.At,aZ x.Code,ae x.At]
def e7:bN Part:=⟨6,λx=>H5 x,λ_=>rfl,λ_=>dk.bk⟩
instance:im e7 e7:=⟨rfl,λx=>(inferInstance:f_ (H5 x) (H5 x))⟩
abbrev H3 (x:Alt):List ab:=[aj e7 x.Parts,aZ x.Prec.Name,bg x.Prec.Lit,ae x.Prec.cc,ae x.Prec.At,ae x.At]
def gB:bN Alt:=⟨6,λx=>H3 x,λ_=>rfl,λ_=>dk.bk⟩
instance:im gB gB:=⟨rfl,λx=>(inferInstance:f_ (H3 x) (H3 x))⟩
def yb (a0:Alt):Option (Bool) :=
 (cf (R:=(Unit) ⊕ (Bool)) (λ(s1:Int) =>
 (bif decide (s1<(a0.Parts.length:Int)) then
 (idx a0.Parts s1).bind λbz =>
 ((bif decide (bz.Code=⟨#[]⟩) then ((uC bz.Sym false true).bind λbE=>(bif !bE then some true else (bif !decide (bz.Code=⟨#[]⟩) then ((uD bz.Sym).bind λa1=>(bif !a1 then some true else ((AA bz.Code 0).bind λct=>some (!decide (ct=(bz.Code.size:Int)))))) else some false))) else (bif !decide (bz.Code=⟨#[]⟩) then ((uD bz.Sym).bind λcF=>(bif !cF then some true else ((AA bz.Code 0).bind λc3=>some (!decide (c3=(bz.Code.size:Int)))))) else some false))).bind λnS =>
 (bif nS then
 some (.inr (.inr false))
 else
 some (.inl (aG (s1+1))))
 else
 some (.inr (.inl ())))) 0).bind λx2 =>
 (match x2 with
 | .inl a7 =>
 (((uD a0.Prec).bind λeL=>(bif eL then some true else ((uC a0.Prec false true).bind λiB=>some iB)))).bind λHT =>
 some HT
 | .inr bl =>
 some bl)
structure fI where
 Left:ByteArray
 gg:(List Alt)
 At:Int
 deriving DecidableEq,Inhabited
structure Source where
 hf:ByteArray
 Decls:(List Decl)
 eM:(List fI)
 jX:ByteArray
 deriving DecidableEq,Inhabited
def oB:bN fI:=⟨3,λx=>[aZ x.Left,aj gB x.gg,ae x.At],λ_=>rfl,λ_=>dk.bk⟩
instance:im oB oB:=⟨rfl,λx=>(inferInstance:f_ [aZ x.Left,aj gB x.gg,ae x.At] [aZ x.Left,aj gB x.gg,ae x.At])⟩
def lJ:bN Source:=⟨4,λx=>[aZ x.hf,aj eQ x.Decls,aj oB x.eM,aZ x.jX],λ_=>rfl,λ_=>dk.bk⟩
def x9 (a0:Source):Option (Bool) :=
 (cf (R:=(Unit) ⊕ (Bool)) (λ(s1:Int) =>
 (bif decide (aG (s1+1)<(a0.hf.size:Int)) then
 (wZ a0.hf s1 (aG (s1+2))).bind λbz =>
 (bif decide (bz=⟨#[37,125]⟩) then
 some (.inr (.inr false))
 else
 some (.inl (aG (s1+1))))
 else
 some (.inr (.inl ())))) 0).bind λx2 =>
 (match x2 with
 | .inl a7 =>
 (cf (R:=(Unit) ⊕ (Bool)) (λ(ei:Int) =>
 (bif decide (ei<(a0.Decls.length:Int)) then
 (idx a0.Decls ei).bind λct =>
 (ya ct).bind λed =>
 (bif !ed then
 some (.inr (.inr false))
 else
 some (.inl (aG (ei+1))))
 else
 some (.inr (.inl ())))) 0).bind λcm =>
 (match cm with
 | .inl b5 =>
 (cf (R:=(Unit) ⊕ (Bool)) (λ(nI:Int) =>
 (bif decide (nI<(a0.eM.length:Int)) then
 (idx a0.eM nI).bind λfN =>
 (((vY fN.Left).bind λiB=>(bif !iB then some true else some (decide ((fN.gg.length:Int)=0))))).bind λwQ =>
 (bif wQ then
 some (.inr (.inr false))
 else
 (cf (R:=(Unit) ⊕ (Bool)) (λ(D5:Int) =>
 (bif decide (D5<(fN.gg.length:Int)) then
 (idx fN.gg D5).bind λoT =>
 (yb oT).bind λdb =>
 (bif !db then
 some (.inr (.inr false))
 else
 some (.inl (aG (D5+1))))
 else
 some (.inr (.inl ())))) 0).bind λfF =>
 (match fF with
 | .inl gz =>
 some (.inl (aG (nI+1)))
 | .inr ee =>
 some (.inr (.inr ee))))
 else
 some (.inr (.inl ())))) 0).bind λc3 =>
 (match c3 with
 | .inl dP =>
 some (decide (0<(a0.eM.length:Int)))
 | .inr gf =>
 some gf)
 | .inr a1 =>
 some a1)
 | .inr bl =>
 some bl)
structure dc where
 ba:bD
 d':(List Bool)
 fw:(List fH)
 dw:(List ByteArray)
 eG:Int
 kg:Int
 kh:ByteArray
 fb:Int
 dd:Int
 deriving DecidableEq,Inhabited
abbrev zs (x:dc):List ab:=[aj cv x.ba.br,aj e2 x.ba.dC,aj hG x.ba.bx,aZ x.ba.hf,aZ x.ba.jX,aj e1 x.d',aj e2 x.fw,aj nU x.dw,ae x.eG,ae x.kg,aZ x.kh,ae x.fb,ae x.dd]
abbrev eo (x:dc):List ab:=[aC cv x.ba.br,aC e2 x.ba.dC,aC hG x.ba.bx,aZ x.ba.hf,aZ x.ba.jX,aC e1 x.d',aC e2 x.fw,aC nU x.dw,ae x.eG,ae x.kg,aZ x.kh,ae x.fb,ae x.dd]
def eR:bN dc:=⟨13,λx=>eo x,λ_=>rfl,λ_=>dk.bk⟩
instance {x:dc}:f_ (eR.cells x) (zs x):=(inferInstance:f_ (eo x) (zs x))
def ob (a0:dc) (av:Int) (a2:ByteArray):Option (dc) :=
 ((bif decide (a0.eG=0) then
 some (⟨a0.ba,a0.d',a0.fw,a0.dw,3,av,a2,a0.fb,a0.dd⟩:dc)
 else
 some a0)).bind λlr =>
 some lr
def Av (a0:dc) (av:ByteArray):Option (Int) :=
 (cf (R:=(Unit) ⊕ (Int)) (λ(s1:Int) =>
 (bif decide (s1<(a0.fw.length:Int)) then
 (idx a0.fw s1).bind λbz =>
 (bif decide (bz.Name=av) then
 some (.inr (.inr s1))
 else
 some (.inl (aG (s1+1))))
 else
 some (.inr (.inl ())))) 0).bind λx2 =>
 (match x2 with
 | .inl a7 =>
 some (-1)
 | .inr bl =>
 some bl)
def uB (a0:dc) (av:Sym):Option (Int) :=
 (cf (R:=(Unit) ⊕ (Int)) (λ(s1:Int) =>
 (bif decide (s1<(a0.ba.br.length:Int)) then
 (((idx a0.ba.br s1).bind λbz=>(bif decide (bz.Name=av.Name) then ((idx a0.ba.br s1).bind λbE=>(bif (bE.Lit == av.Lit) then some (!decide (s1=2)) else some false)) else some false))).bind λiF =>
 (bif iF then
 some (.inr (.inr s1))
 else
 some (.inl (aG (s1+1))))
 else
 some (.inr (.inl ())))) 1).bind λx2 =>
 (match x2 with
 | .inl a7 =>
 some (-1)
 | .inr bl =>
 some bl)
def v7 (a0:dc) (av:Int):Option (Int) :=
 (cf (R:=(Unit) ⊕ (Int)) (λ(s1:Int) =>
 (bif decide (s1<(a0.ba.br.length:Int)) then
 (idx a0.ba.br s1).bind λbz =>
 (bif decide (bz.cc=av) then
 some (.inr (.inr s1))
 else
 some (.inl (aG (s1+1))))
 else
 some (.inr (.inl ())))) 3).bind λx2 =>
 (match x2 with
 | .inl a7 =>
 some (-1)
 | .inr bl =>
 some bl)
def vZ (a0:dc) (av:Sym):Option (Int × dc) :=
 (uB a0 av).bind λaR =>
 (bif decide (0<=aR) then
 some (aR,a0)
 else
 ((bif av.Lit then
 (ky av.Name 0).bind λbW =>
 (v7 a0 (aG bW)).bind λbz =>
 ((bif decide (0<=bz) then
 (ob a0 av.At av.Name).bind λcm =>
 some cm
 else
 some a0)).bind λk5 =>
 some (k5,aG bW)
 else
 some (a0,0))).bind λhC =>
 (cT hC.1.ba.br [(⟨av.Name,av.Lit,hC.2,0,0,⟨#[]⟩⟩:b4)]).bind λb5 =>
 (cT hC.1.d' [av.Lit]).bind λa1 =>
 some (aG (((hC.1.ba.br++[(⟨av.Name,av.Lit,hC.2,0,0,⟨#[]⟩⟩:b4)]).length:Int) - 1),(⟨(⟨hC.1.ba.br++[(⟨av.Name,av.Lit,hC.2,0,0,⟨#[]⟩⟩:b4)],hC.1.ba.dC,hC.1.ba.bx,hC.1.ba.hf,hC.1.ba.jX⟩:bD),hC.1.d'++[av.Lit],hC.1.fw,hC.1.dw,hC.1.eG,hC.1.kg,hC.1.kh,hC.1.fb,hC.1.dd⟩:dc)))
def vW (a0:dc) (av:Decl) (a2:Sym):Option (dc) :=
 (bif decide (av.Kind=5) then
 (Av a0 a2.Name).bind λx2 =>
 ((bif decide (x2<0) then
 (cT a0.fw [(⟨a2.Name,av.Tag⟩:fH)]).bind λbW =>
 some (⟨a0.ba,a0.d',a0.fw++[(⟨a2.Name,av.Tag⟩:fH)],a0.dw,a0.eG,a0.kg,a0.kh,a0.fb,a0.dd⟩:dc)
 else
 (idx a0.fw x2).bind λbz =>
 ((bif !decide (bz.Tag=av.Tag) then
 (ob a0 a2.At a2.Name).bind λcm =>
 some cm
 else
 some a0)).bind λk5 =>
 some k5)).bind λhC =>
 some hC
 else
 (vZ a0 a2).bind λb5 =>
 (idx b5.2.ba.br b5.1).bind λa1 =>
 ((bif !decide (av.Kind=1) then
 ((bif decide (0<a1.Level) then
 (ob b5.2 a2.At a2.Name).bind λdj =>
 some (⟨(⟨b5.2.ba.br,dj.ba.dC,dj.ba.bx,dj.ba.hf,dj.ba.jX⟩:bD),dj.d',dj.fw,dj.dw,dj.eG,dj.kg,dj.kh,dj.fb,dj.dd⟩:dc)
 else
 some b5.2)).bind λfU =>
 (idx fU.ba.br b5.1).bind λc3 =>
 some (⟨(⟨(fU.ba.br.set b5.1.toNat (⟨c3.Name,c3.Lit,c3.cc,fU.fb,c3.i',c3.Tag⟩:b4)).set b5.1.toNat (⟨c3.Name,c3.Lit,c3.cc,fU.fb,aG (av.Kind - 1),c3.Tag⟩:b4),fU.ba.dC,fU.ba.bx,fU.ba.hf,fU.ba.jX⟩:bD),fU.d',fU.fw,fU.dw,fU.eG,fU.kg,fU.kh,fU.fb,fU.dd⟩:dc)
 else
 some b5.2)).bind λgX =>
 (idx gX.ba.br b5.1).bind λdP =>
 ((bif decide (0<a2.cc) then
 ((bif decide (b5.1=1) then some true else ((idx gX.d' b5.1).bind λiB=>(bif iB then some true else ((v7 gX a2.cc).bind λhQ=>some (decide (0<=hQ))))))).bind λtM =>
 ((bif tM then
 (ob gX a2.At a2.Name).bind λgz =>
 some (⟨(⟨gX.ba.br,gz.ba.dC,gz.ba.bx,gz.ba.hf,gz.ba.jX⟩:bD),gz.d',gz.fw,gz.dw,gz.eG,gz.kg,gz.kh,gz.fb,gz.dd⟩:dc)
 else
 some gX)).bind λhV =>
 (idx hV.ba.br b5.1).bind λee =>
 (idx hV.d' b5.1).bind λjv =>
 some (⟨(⟨hV.ba.br.set b5.1.toNat (⟨ee.Name,ee.Lit,a2.cc,ee.Level,ee.i',ee.Tag⟩:b4),hV.ba.dC,hV.ba.bx,hV.ba.hf,hV.ba.jX⟩:bD),hV.d'.set b5.1.toNat true,hV.fw,hV.dw,hV.eG,hV.kg,hV.kh,hV.fb,hV.dd⟩:dc)
 else
 some gX)).bind λiI =>
 (idx iI.ba.br b5.1).bind λoT =>
 ((bif !decide (av.Tag=⟨#[]⟩) then
 ((bif !decide (oT.Tag=⟨#[]⟩) then some (!decide (oT.Tag=av.Tag)) else some false)).bind λtN =>
 ((bif tN then
 (ob iI a2.At a2.Name).bind λgK =>
 some (⟨(⟨iI.ba.br,gK.ba.dC,gK.ba.bx,gK.ba.hf,gK.ba.jX⟩:bD),gK.d',gK.fw,gK.dw,gK.eG,gK.kg,gK.kh,gK.fb,gK.dd⟩:dc)
 else
 some iI)).bind λnE =>
 (idx nE.ba.br b5.1).bind λkL =>
 some (⟨(⟨nE.ba.br.set b5.1.toNat (⟨kL.Name,kL.Lit,kL.cc,kL.Level,kL.i',av.Tag⟩:b4),nE.ba.dC,nE.ba.bx,nE.ba.hf,nE.ba.jX⟩:bD),nE.d',nE.fw,nE.dw,nE.eG,nE.kg,nE.kh,nE.fb,nE.dd⟩:dc)
 else
 some iI)).bind λpS =>
 some pS)
def th (a0:dc) (av:ByteArray):Option (Int) :=
 (cf (R:=(Unit) ⊕ (Int)) (λ(s1:Int) =>
 (bif decide (s1<(a0.dw.length:Int)) then
 (idx a0.dw s1).bind λbz =>
 (bif decide (bz=av) then
 some (.inr (.inr s1))
 else
 some (.inl (aG (s1+1))))
 else
 some (.inr (.inl ())))) 0).bind λx2 =>
 (match x2 with
 | .inl a7 =>
 some (-1)
 | .inr bl =>
 some bl)
def tj (a0:dc) (av:Sym):Option (Int × dc) :=
 (bif av.Lit then
 (vZ a0 av).bind λx2 =>
 some (x2.1,x2.2)
 else
 (th a0 av.Name).bind λa7 =>
 (bif decide (0<=a7) then
 some (aG (1001+a7),a0)
 else
 (uB a0 av).bind λbW =>
 (bif decide (bW<0) then
 (ob a0 av.At av.Name).bind λbq =>
 some (0,bq)
 else
 some (bW,a0))))
def vX (a0:dc) (av:ByteArray) (a2:Alt):Option (dc) :=
 (th a0 av).bind λaR =>
 (cf (R:=dc × List Int × ByteArray × Int) (λ(s2:dc × List Int × ByteArray × Int × Int) =>
 (bif decide (s2.2.2.2.2<(a2.Parts.length:Int)) then
 ((idx a2.Parts s2.2.2.2.2).bind λbq =>
 (((bif decide (bq.Code=⟨#[]⟩) then
 (tj s2.1 bq.Sym).bind λa1 =>
 (cT s2.2.1 [a1.1]).bind λea =>
 some (a1.2,s2.2.1++[a1.1],s2.2.2.1,s2.2.2.2.1)
 else
 ((bif decide (aG (s2.2.2.2.2+1)=(a2.Parts.length:Int)) then
 some (s2.1.ba.bx,s2.1.dd,s2.2.1,bq.Code,bq.At)
 else
 (cT ([]:List Int) s2.2.1).bind λcF =>
 (cT s2.1.ba.bx [(⟨aG ((s2.1.dw.length:Int)+(aG (s2.1.dd+1))),([]:List Int),(-1),bq.Code,([]:List Int)++s2.2.1,bq.At⟩:Prod)]).bind λdj =>
 (cT s2.2.1 [aG ((aG (1000+(s2.1.dw.length:Int)))+(aG (s2.1.dd+1)))]).bind λc3 =>
 some (s2.1.ba.bx++[(⟨aG ((s2.1.dw.length:Int)+(aG (s2.1.dd+1))),([]:List Int),(-1),bq.Code,([]:List Int)++s2.2.1,bq.At⟩:Prod)],aG (s2.1.dd+1),s2.2.1++[aG ((aG (1000+(s2.1.dw.length:Int)))+(aG (s2.1.dd+1)))],s2.2.2.1,s2.2.2.2.1))).bind λk4 =>
 some ((⟨(⟨s2.1.ba.br,s2.1.ba.dC,k4.1,s2.1.ba.hf,s2.1.ba.jX⟩:bD),s2.1.d',s2.1.fw,s2.1.dw,s2.1.eG,s2.1.kg,s2.1.kh,s2.1.fb,k4.2.1⟩:dc),k4.2.2.1,k4.2.2.2.1,k4.2.2.2.2))).bind λmR =>
 some (mR.1,mR.2.1,mR.2.2.1,mR.2.2.2)).bind λdZ =>
 some (dZ.1,dZ.2.1,dZ.2.2.1,dZ.2.2.2)).bind λho =>
 some (.inl (ho.1,ho.2.1,ho.2.2.1,ho.2.2.2,aG (s2.2.2.2.2+1)))
 else
 some (.inr (s2.1,s2.2.1,s2.2.2.1,s2.2.2.2.1)))) (a0,([]:List Int),⟨#[]⟩,a2.At,0)).bind λa7 =>
 (cf (R:=Int) (λ(tq:Int × Int) =>
 (bif decide (tq.2<(a7.2.1.length:Int)) then
 ((idx a7.2.1 tq.2).bind λfY =>
 ((bif decide (fY<1000) then
 (idx a7.2.1 tq.2).bind λjS =>
 some jS
 else
 some tq.1)).bind λKt =>
 some Kt).bind λss =>
 some (.inl (ss,aG (tq.2+1)))
 else
 some (.inr tq.1))) ((-1),0)).bind λgf =>
 ((bif !decide (a2.Prec.Name=⟨#[]⟩) then
 ((bif a2.Prec.Lit then some true else ((th a7.1 a2.Prec.Name).bind λjv=>some (decide (jv<0))))).bind λwS =>
 ((bif wS then
 (tj a7.1 a2.Prec).bind λk_ =>
 some (k_.2,k_.1)
 else
 (ob a7.1 a2.Prec.At a2.Prec.Name).bind λfl =>
 some (fl,(-1)))).bind λpS =>
 some (pS.1,pS.2)
 else
 some (a7.1,gf))).bind λj7 =>
 (cT ([]:List Int) a7.2.1).bind λqP =>
 (cT j7.1.ba.bx [(⟨aG (1+aR),a7.2.1,j7.2,a7.2.2.1,([]:List Int)++a7.2.1,a7.2.2.2⟩:Prod)]).bind λm_ =>
 some (⟨(⟨j7.1.ba.br,j7.1.ba.dC,j7.1.ba.bx++[(⟨aG (1+aR),a7.2.1,j7.2,a7.2.2.1,([]:List Int)++a7.2.1,a7.2.2.2⟩:Prod)],j7.1.ba.hf,j7.1.ba.jX⟩:bD),j7.1.d',j7.1.fw,j7.1.dw,j7.1.eG,j7.1.kg,j7.1.kh,j7.1.fb,j7.1.dd⟩:dc)
def Dz (a0:Int):Option (ByteArray) :=
 ((bif decide (a0<0) then
 some (IntKind.u64.wrap (-(IntKind.u64.wrap a0)))
 else
 some (IntKind.u64.wrap a0))).bind λlr =>
 (cf (R:=ByteArray) (λ(eD:Int × ByteArray) =>
 ((bif decide (0<eD.1) then some true else some (decide (eD.2=⟨#[]⟩)))).bind λnT =>
 (bif nT then
 (uL eD.1 10).bind λcm =>
 (wU (strOfNums [G9 (IntKind.u64.wrap (48+cm))]) eD.2).bind λb5 =>
 (uI eD.1 10).bind λa1 =>
 some (.inl (a1,b5))
 else
 some (.inr eD.2))) (lr,⟨#[]⟩)).bind λbl =>
 (bif decide (a0<0) then
 (wU (⟨#[45]⟩) bl).bind λct =>
 some ct
 else
 some bl)
def vV (a0:Source):Option (bD × Int × Int × ByteArray) :=
 (x9 a0).bind λaR =>
 (bif !aR then
 some ((⟨([]:List b4),([]:List fH),([]:List Prod),⟨#[]⟩,⟨#[]⟩⟩:bD),1,0,⟨#[]⟩)
 else
 (oP 3 false).bind λa7 =>
 (cf (R:=dc × ByteArray) (λ(da:dc × ByteArray × Int) =>
 (bif decide (da.2.2<(a0.Decls.length:Int)) then
 (idx a0.Decls da.2.2).bind λbE =>
 ((bif decide (2<=bE.Kind) then some (decide (bE.Kind<=4)) else some false)).bind λiF =>
 ((bif iF then
 some (aG (da.1.fb+1))
 else
 some da.1.fb)).bind λiW =>
 (cf (R:=dc × ByteArray) (λ(nH:dc × ByteArray × Int) =>
 (bif decide (nH.2.2<(bE.fa.length:Int)) then
 ((bif !decide (bE.Kind=6) then
 (idx bE.fa nH.2.2).bind λgf =>
 (vW nH.1 bE gf).bind λeL =>
 some (eL,nH.2.1)
 else
 ((bif !decide (nH.2.1=⟨#[]⟩) then
 (idx bE.fa nH.2.2).bind λfY =>
 (idx bE.fa nH.2.2).bind λhQ =>
 (ob nH.1 fY.At hQ.Name).bind λly =>
 some ly
 else
 some nH.1)).bind λpR =>
 (idx bE.fa nH.2.2).bind λjS =>
 some (pR,jS.Name))).bind λC0 =>
 some (.inl (C0.1,C0.2,aG (nH.2.2+1)))
 else
 some (.inr (nH.1,nH.2.1)))) ((⟨da.1.ba,da.1.d',da.1.fw,da.1.dw,da.1.eG,da.1.kg,da.1.kh,iW,da.1.dd⟩:dc),da.2.1,0)).bind λed =>
 some (.inl (ed.1,ed.2,aG (da.2.2+1)))
 else
 some (.inr (da.1,da.2.1)))) ((⟨(⟨[(⟨⟨#[36,101,110,100]⟩,false,0,0,0,⟨#[]⟩⟩:b4),(⟨⟨#[101,114,114,111,114]⟩,false,(-1),0,0,⟨#[]⟩⟩:b4),(⟨⟨#[36,117,110,107]⟩,false,(-1),0,0,⟨#[]⟩⟩:b4)],[],[],⟨#[]⟩,⟨#[]⟩⟩:bD),a7,[],[],0,0,⟨#[]⟩,0,0⟩:dc),⟨#[]⟩,0)).bind λbW =>
 (cf (R:=dc) (λ(sD:dc × Int) =>
 (bif decide (sD.2<(a0.eM.length:Int)) then
 ((idx a0.eM sD.2).bind λdb =>
 (uB sD.1 (⟨db.Left,false,0,0⟩:Sym)).bind λhR =>
 ((bif decide (0<=hR) then
 (ob sD.1 db.At db.Left).bind λqP =>
 some qP
 else
 some sD.1)).bind λmQ =>
 (th mQ db.Left).bind λm_ =>
 ((bif decide (m_<0) then
 (cT mQ.dw [db.Left]).bind λwx =>
 some (mQ.dw++[db.Left])
 else
 some mQ.dw)).bind λKx =>
 some (⟨mQ.ba,mQ.d',mQ.fw,Kx,mQ.eG,mQ.kg,mQ.kh,mQ.fb,mQ.dd⟩:dc)).bind λxL =>
 some (.inl (xL,aG (sD.2+1)))
 else
 some (.inr sD.1))) (bW.1,0)).bind λgz =>
 (cf (R:=dc) (λ(rH:dc × Int) =>
 (bif decide (rH.2<(a0.Decls.length:Int)) then
 (cf (R:=dc) (λ(sE:dc × Int) =>
 (idx a0.Decls rH.2).bind λHa =>
 (bif decide (sE.2<(Ha.fa.length:Int)) then
 ((idx a0.Decls rH.2).bind λA4 =>
 (idx A4.fa sE.2).bind λtv =>
 (((idx a0.Decls rH.2).bind λLV=>(bif decide (5<=LV.Kind) then ((th sE.1 tv.Name).bind λmv=>some (decide (mv<0))) else some false))).bind λHZ =>
 ((bif HZ then
 (ob sE.1 tv.At tv.Name).bind λRI =>
 some RI
 else
 some sE.1)).bind λKA =>
 some KA).bind λKz =>
 some (.inl (Kz,aG (sE.2+1)))
 else
 some (.inr sE.1))) (rH.1,0)).bind λqQ =>
 some (.inl (qQ,aG (rH.2+1)))
 else
 some (.inr rH.1))) (gz,0)).bind λhF =>
 ((bif decide (bW.2=⟨#[]⟩) then
 (idx a0.eM 0).bind λwz =>
 some wz.Left
 else
 some bW.2)).bind λxN =>
 (th hF xN).bind λmw =>
 (cf (R:=dc) (λ(rI:dc × Int) =>
 (bif decide (rI.2<(a0.eM.length:Int)) then
 (cf (R:=dc) (λ(uM:dc × Int) =>
 (idx a0.eM rI.2).bind λEn =>
 (bif decide (uM.2<(En.gg.length:Int)) then
 (idx a0.eM rI.2).bind λLX =>
 (idx a0.eM rI.2).bind λLY =>
 (idx LY.gg uM.2).bind λLZ =>
 (vX uM.1 LX.Left LZ).bind λRJ =>
 some (.inl (RJ,aG (uM.2+1)))
 else
 some (.inr uM.1))) (rI.1,0)).bind λkM =>
 some (.inl (kM,aG (rI.2+1)))
 else
 some (.inr rI.1))) ((⟨(⟨hF.ba.br,hF.ba.dC,[(⟨0,[aG (1001+mw)],(-1),⟨#[]⟩,([]:List Int),0⟩:Prod)],hF.ba.hf,hF.ba.jX⟩:bD),hF.d',hF.fw,hF.dw,hF.eG,hF.kg,hF.kh,hF.fb,hF.dd⟩:dc),0)).bind λcp =>
 (bif !decide (cp.eG=0) then
 some ((⟨([]:List b4),([]:List fH),([]:List Prod),⟨#[]⟩,⟨#[]⟩⟩:bD),cp.eG,cp.kg,cp.kh)
 else
 (cf (R:=List fH) (λ(rJ:List fH × Int) =>
 (bif decide (rJ.2<(cp.dw.length:Int)) then
 (idx cp.dw rJ.2).bind λqR =>
 (Av (⟨(⟨cp.ba.br,rJ.1,cp.ba.bx,cp.ba.hf,cp.ba.jX⟩:bD),cp.d',cp.fw,cp.dw,cp.eG,cp.kg,cp.kh,cp.fb,cp.dd⟩:dc) qR).bind λyD =>
 ((bif decide (0<=yD) then
 (idx cp.fw yD).bind λL0 =>
 some L0.Tag
 else
 some (⟨#[]⟩))).bind λuv =>
 (cT rJ.1 [(⟨qR,uv⟩:fH)]).bind λRK =>
 some (.inl (rJ.1++[(⟨qR,uv⟩:fH)],aG (rJ.2+1)))
 else
 some (.inr rJ.1))) ([(⟨⟨#[36,97,99,99,101,112,116]⟩,⟨#[]⟩⟩:fH)],0)).bind λwA =>
 (cf (R:=List fH) (λ(sF:List fH × Int) =>
 (bif decide (sF.2<=cp.dd) then
 (Dz sF.2).bind λHb =>
 (wU (⟨#[64]⟩) Hb).bind λwB =>
 (cT sF.1 [(⟨wB,⟨#[]⟩⟩:fH)]).bind λRL =>
 some (.inl (sF.1++[(⟨wB,⟨#[]⟩⟩:fH)],aG (sF.2+1)))
 else
 some (.inr sF.1))) (wA,1)).bind λlz =>
 (cf (R:=List b4) (λ(mn:List b4 × Int × Int) =>
 (bif decide (mn.2.2<(mn.1.length:Int)) then
 ((idx cp.d' mn.2.2).bind λLS =>
 ((bif !LS then
 (idx mn.1 mn.2.2).bind λsN =>
 some (mn.1.set mn.2.2.toNat (⟨sN.Name,sN.Lit,mn.2.1,sN.Level,sN.i',sN.Tag⟩:b4),aG (mn.2.1+1))
 else
 some (mn.1,mn.2.1))).bind λCZ =>
 some (CZ.1,CZ.2)).bind λC1 =>
 some (.inl (C1.1,C1.2,aG (mn.2.2+1)))
 else
 some (.inr mn.1))) (cp.ba.br,57346,3)).bind λmx =>
 ((bif decide (40<(mx.length:Int)) then some true else (bif decide (24<(lz.length:Int)) then some true else some (decide (60<(cp.ba.bx.length:Int)))))).bind λvb =>
 (cf (R:=Bool) (λ(tp:Bool × Int) =>
 (bif decide (tp.2<(cp.ba.bx.length:Int)) then
 ((bif tp.1 then some true else ((idx cp.ba.bx tp.2).bind λLU=>some (decide (8<(LU.dD.length:Int)))))).bind λHQ =>
 some (.inl (HQ,aG (tp.2+1)))
 else
 some (.inr tp.1))) (vb,0)).bind λA3 =>
 (bif A3 then
 some ((⟨([]:List b4),([]:List fH),([]:List Prod),⟨#[]⟩,⟨#[]⟩⟩:bD),4,0,⟨#[]⟩)
 else
 some ((⟨mx,lz,cp.ba.bx,a0.hf,a0.jX⟩:bD),0,0,⟨#[]⟩))))
def yk (a0:Source):Option (bD × Bool) :=
 (vV a0).bind λaR =>
 some (aR.1,decide (aR.2.1=0))
def AD (a0:(List Int)) (av:Int):Option (Bool) :=
 (cf (R:=(Unit) ⊕ (Bool)) (λ(s1:Int) =>
 (bif decide (s1<(a0.length:Int)) then
 (idx a0 s1).bind λbz =>
 (bif decide (bz=av) then
 some (.inr (.inr true))
 else
 some (.inl (aG (s1+1))))
 else
 some (.inr (.inl ())))) 0).bind λx2 =>
 (match x2 with
 | .inl a7 =>
 some false
 | .inr bl =>
 some bl)
def qH (a0:(List Int)) (av:Int):Option ((List Int)) :=
 (cf (R:=Int) (λ(s1:Int) =>
 ((bif decide (0<s1) then ((idx a0 (aG (s1 - 1))).bind λbW=>some (decide (av<bW))) else some false)).bind λwT =>
 (bif wT then
 some (.inl (aG (s1 - 1)))
 else
 some (.inr s1))) (a0.length:Int)).bind λx2 =>
 ((bif decide (0<x2) then ((idx a0 (aG (x2 - 1))).bind λcm=>some (decide (cm=av))) else some false)).bind λiF =>
 (bif iF then
 some a0
 else
 (ph a0 0 x2).bind λea =>
 (cT ([]:List Int) ea).bind λct =>
 (cT (([]:List Int)++ea) [av]).bind λed =>
 (ph a0 x2 a0.length).bind λcF =>
 (cT ((([]:List Int)++ea)++[av]) cF).bind λdj =>
 some ((([]:List Int)++ea)++[av]++cF))
def Dp (a0:bD):Option ((List Int)) :=
 (cf (R:=List Int) (λ(s1:List Int × Int) =>
 (bif decide (s1.2<(a0.br.length:Int)) then
 (cT s1.1 [s1.2]).bind λbW =>
 some (.inl (s1.1++[s1.2],aG (s1.2+1)))
 else
 some (.inr s1.1))) (([]:List Int),0)).bind λx2 =>
 (cf (R:=List Int) (λ(cI:List Int × Int) =>
 (bif decide (cI.2<(a0.dC.length:Int)) then
 (cT cI.1 [aG (1000+cI.2)]).bind λb5 =>
 some (.inl (cI.1++[aG (1000+cI.2)],aG (cI.2+1)))
 else
 some (.inr cI.1))) (x2,0)).bind λbq =>
 some bq
structure Item where
 Prod:Int
 eb:Int
 deriving DecidableEq,Inhabited
def Aw (a0:bD) (av:Item):Option (Bool) :=
 ((bif decide (0<=av.Prod) then (bif decide (av.Prod<(a0.bx.length:Int)) then (bif decide (0<=av.eb) then ((idx a0.bx av.Prod).bind λbl=>some (decide (av.eb<=(bl.dD.length:Int)))) else some false) else some false) else some false)).bind λjD =>
 some jD
def x7 (a0:bD) (av:Item):Option (Int) :=
 (((Aw a0 av).bind λaR=>(bif !aR then some true else ((idx a0.bx av.Prod).bind λa7=>some (decide (av.eb=(a7.dD.length:Int))))))).bind λc4 =>
 (bif c4 then
 some (-1)
 else
 (idx a0.bx av.Prod).bind λbz =>
 (idx bz.dD av.eb).bind λbq =>
 some bq)
def ga:bN Item:=⟨2,λx=>[ae x.Prod,ae x.eb],λ_=>rfl,λ_=>dk.bk⟩
instance:im ga ga:=⟨rfl,λx=>(inferInstance:f_ [ae x.Prod,ae x.eb] [ae x.Prod,ae x.eb])⟩
def x_ (a0:(List Item)) (av:Item):Option ((List Item)) :=
 (cf (R:=Int) (λ(s1:Int) =>
 ((bif decide (0<s1) then ((idx a0 (aG (s1 - 1))).bind λbW=>(bif decide (av.Prod<bW.Prod) then some true else ((idx a0 (aG (s1 - 1))).bind λbq=>(bif decide (bq.Prod=av.Prod) then ((idx a0 (aG (s1 - 1))).bind λcm=>some (decide (av.eb<cm.eb))) else some false)))) else some false)).bind λiF =>
 (bif iF then
 some (.inl (aG (s1 - 1)))
 else
 some (.inr s1))) (a0.length:Int)).bind λx2 =>
 ((bif decide (0<x2) then ((idx a0 (aG (x2 - 1))).bind λct=>some (decide (ct.Prod=av.Prod)&&(decide (ct.eb=av.eb)&&true))) else some false)).bind λqf =>
 (bif qf then
 some a0
 else
 (ph a0 0 x2).bind λdj =>
 (cT ([]:List Item) dj).bind λc3 =>
 (cT (([]:List Item)++dj) [av]).bind λdP =>
 (ph a0 x2 a0.length).bind λgf =>
 (cT ((([]:List Item)++dj)++[av]) gf).bind λeL =>
 some ((([]:List Item)++dj)++[av]++gf))
def DA (a0:bD) (av:(List Item)):Option ((List Item)) :=
 (cf (R:=List Item) (λ(s1:List Item × Int) =>
 (bif decide (s1.2<(av.length:Int)) then
 ((idx av s1.2).bind λbz =>
 (Aw a0 bz).bind λbq =>
 ((bif bq then
 (idx av s1.2).bind λb5 =>
 (x_ s1.1 b5).bind λa1 =>
 some a1
 else
 some s1.1)).bind λdZ =>
 some dZ).bind λiy =>
 some (.inl (iy,aG (s1.2+1)))
 else
 some (.inr s1.1))) (([]:List Item),0)).bind λx2 =>
 some x2
def x6 (a0:bD) (av:(List Item)):Option ((List Item)) :=
 (DA a0 av).bind λaR =>
 (cf (R:=List Item) (λ(s2:List Item × Int) =>
 (bif !decide (s2.2=(s2.1.length:Int)) then
 (((cf (R:=List Item) (λ(ei:List Item × Int) =>
 (bif decide (ei.2<(s2.1.length:Int)) then
 (idx ei.1 ei.2).bind λea =>
 (x7 a0 ea).bind λct =>
 (cf (R:=List Item) (λ(er:List Item × Int) =>
 ((bif decide (er.2<(a0.bx.length:Int)) then some (decide (1000<=ct)) else some false)).bind λnS =>
 (bif nS then
 ((idx a0.bx er.2).bind λfN =>
 ((bif decide (fN.Left=aG (ct - 1000)) then
 (x_ er.1 (⟨er.2,0⟩:Item)).bind λhQ =>
 some hQ
 else
 some er.1)).bind λss =>
 some ss).bind λxK =>
 some (.inl (xK,aG (er.2+1)))
 else
 some (.inr er.1))) (ei.1,0)).bind λcF =>
 (bif !decide ((cF.length:Int)=(s2.1.length:Int)) then
 some (.inr cF)
 else
 some (.inl (cF,aG (ei.2+1))))
 else
 some (.inr ei.1))) (s2.1,0)).bind λcm =>
 some cm).bind λk5 =>
 some (k5,(s2.1.length:Int))).bind λho =>
 some (.inl (ho.1,ho.2))
 else
 some (.inr s2.1))) (aR,(-1))).bind λa7 =>
 some a7
def Dq (a0:bD) (av:(List Item)) (a2:Int):Option ((List Item)) :=
 (x6 a0 av).bind λaR =>
 (cf (R:=List Item) (λ(s2:List Item × Int) =>
 (bif decide (s2.2<(aR.length:Int)) then
 ((idx aR s2.2).bind λbq =>
 (x7 a0 bq).bind λbE =>
 ((bif decide (0<=bE) then some (decide (bE=a2)) else some false)).bind λiF =>
 ((bif iF then
 (idx aR s2.2).bind λct =>
 (idx aR s2.2).bind λed =>
 (x_ s2.1 (⟨ct.Prod,aG (ed.eb+1)⟩:Item)).bind λcF =>
 some cF
 else
 some s2.1)).bind λiW =>
 some iW).bind λho =>
 some (.inl (ho,aG (s2.2+1)))
 else
 some (.inr s2.1))) (([]:List Item),0)).bind λa7 =>
 some a7
def DB (a0:(List Item)) (av:(List Item)):Option (Bool) :=
 (bif !decide ((a0.length:Int)=(av.length:Int)) then
 some false
 else
 (cf (R:=(Unit) ⊕ (Bool)) (λ(s2:Int) =>
 (bif decide (s2<(a0.length:Int)) then
 (idx a0 s2).bind λbq =>
 (idx av s2).bind λbE =>
 (bif !(decide (bq.Prod=bE.Prod)&&(decide (bq.eb=bE.eb)&&true)) then
 some (.inr (.inr false))
 else
 some (.inl (aG (s2+1))))
 else
 some (.inr (.inl ())))) 0).bind λa7 =>
 (match a7 with
 | .inl bl =>
 some true
 | .inr bW =>
 some bW))
structure Move where
 Sym:Int
 rY:Int
 deriving DecidableEq,Inhabited
structure State where
 Kernel:(List Item)
 dW:(List Move)
 deriving DecidableEq,Inhabited
def oA:bN Move:=⟨2,λx=>[ae x.Sym,ae x.rY],λ_=>rfl,λ_=>dk.bk⟩
instance:im oA oA:=⟨rfl,λx=>(inferInstance:f_ [ae x.Sym,ae x.rY] [ae x.Sym,ae x.rY])⟩
def gU:bN State:=⟨2,λx=>[aj ga x.Kernel,aj oA x.dW],λ_=>rfl,λ_=>dk.bk⟩
def Dr (a0:(List State)) (av:(List Item)):Option (Int) :=
 (cf (R:=(Unit) ⊕ (Int)) (λ(s1:Int) =>
 (bif decide (s1<(a0.length:Int)) then
 (idx a0 s1).bind λbz =>
 (DB bz.Kernel av).bind λbq =>
 (bif bq then
 some (.inr (.inr s1))
 else
 some (.inl (aG (s1+1))))
 else
 some (.inr (.inl ())))) 0).bind λx2 =>
 (match x2 with
 | .inl a7 =>
 some (-1)
 | .inr bl =>
 some bl)
def gL:bN State:=⟨2,λx=>[aj ga x.Kernel,aC oA x.dW],λ_=>rfl,λ_=>dk.bk⟩
instance:im gL gU:=⟨rfl,λx=>(inferInstance:f_ [aj ga x.Kernel,aC oA x.dW] [aj ga x.Kernel,aj oA x.dW])⟩
def AR (a0:bD):Option ((List State) × Int) :=
 (Dp a0).bind λaR =>
 (cf (R:=(List State) ⊕ (List State × Int)) (λ(s2:List State × Int) =>
 (bif decide (s2.2<(s2.1.length:Int)) then
 (idx s2.1 s2.2).bind λbq =>
 (x6 a0 bq.Kernel).bind λbE =>
 (cf (R:=List Int) (λ(oS:List Int × Int) =>
 (bif decide (oS.2<(bE.length:Int)) then
 ((idx bE oS.2).bind λed =>
 (x7 a0 ed).bind λcF =>
 ((bif decide (0<=cF) then
 (qH oS.1 cF).bind λdP =>
 some dP
 else
 some oS.1)).bind λn4 =>
 some n4).bind λk4 =>
 some (.inl (k4,aG (oS.2+1)))
 else
 some (.inr oS.1))) (([]:List Int),0)).bind λb5 =>
 (cf (R:=(List State) ⊕ (List State × Int)) (λ(dh:List State × Int) =>
 (bif decide (dh.2<(aR.length:Int)) then
 (idx aR dh.2).bind λhQ =>
 (AD b5 hQ).bind λly =>
 (bif !ly then
 some (.inl (dh.1,aG (dh.2+1)))
 else
 (idx dh.1 s2.2).bind λfF =>
 (idx aR dh.2).bind λgz =>
 (Dq a0 fF.Kernel gz).bind λee =>
 (Dr dh.1 ee).bind λjv =>
 (bif decide (jv<0) then
 (bif decide ((dh.1.length:Int)=150) then
 some (.inr (.inr (([]:List State),4)))
 else
 (cT dh.1 [(⟨ee,([]:List Move)⟩:State)]).bind λhR =>
 (idx (dh.1++[(⟨ee,([]:List Move)⟩:State)]) s2.2).bind λk_ =>
 (idx aR dh.2).bind λfl =>
 (cT k_.dW [(⟨fl,(dh.1.length:Int)⟩:Move)]).bind λqP =>
 some (.inl ((dh.1++[(⟨ee,([]:List Move)⟩:State)]).set s2.2.toNat (⟨k_.Kernel,k_.dW++[(⟨fl,(dh.1.length:Int)⟩:Move)]⟩:State),aG (dh.2+1))))
 else
 (idx dh.1 s2.2).bind λm_ =>
 (idx aR dh.2).bind λgK =>
 (cT m_.dW [(⟨gK,jv⟩:Move)]).bind λkL =>
 some (.inl (dh.1.set s2.2.toNat (⟨m_.Kernel,m_.dW++[(⟨gK,jv⟩:Move)]⟩:State),aG (dh.2+1)))))
 else
 some (.inr (.inl dh.1)))) (s2.1,0)).bind λeL =>
 (match eL with
 | .inl fN =>
 some (.inl (fN,aG (s2.2+1)))
 | .inr iB =>
 some (.inr (.inr (iB.1,iB.2))))
 else
 some (.inr (.inl s2.1)))) ([(⟨[(⟨0,0⟩:Item)],([]:List Move)⟩:State)],0)).bind λa7 =>
 (match a7 with
 | .inl bl =>
 some (bl,0)
 | .inr bW =>
 some (bW.1,bW.2))
def Gp (a0:Source):Option (bD × (List State) × Bool) :=
 (yk a0).bind λaR =>
 (bif !aR.2 then
 some (aR.1,([]:List State),false)
 else
 (AR aR.1).bind λa7 =>
 some (aR.1,a7.1,decide (a7.2=0)))
def rE (a0:(List State)) (av:Int) (a2:Int):Option (Int) :=
 (cf (R:=(Unit) ⊕ (Int)) (λ(s1:Int) =>
 ((bif decide (0<=av) then (bif decide (av<(a0.length:Int)) then ((idx a0 av).bind λbq=>some (decide (s1<(bq.dW.length:Int)))) else some false) else some false)).bind λtO =>
 (bif tO then
 (idx a0 av).bind λb5 =>
 (idx b5.dW s1).bind λa1 =>
 (bif decide (a1.Sym=a2) then
 (idx a0 av).bind λct =>
 (idx ct.dW s1).bind λed =>
 some (.inr (.inr ed.rY))
 else
 some (.inl (aG (s1+1))))
 else
 some (.inr (.inl ())))) 0).bind λx2 =>
 (match x2 with
 | .inl a7 =>
 some (-1)
 | .inr bl =>
 some bl)
structure Cell where
 State:Int
 b4:Int
 kR:Int
 nK:Bool
 bx:(List Int)
 deriving DecidableEq,Inhabited
abbrev H4 (x:Cell):List ab:=[ae x.State,ae x.b4,ae x.kR,bg x.nK,aj ai x.bx]
def iP:bN Cell:=⟨5,λx=>H4 x,λ_=>rfl,λ_=>dk.bk⟩
instance:im iP iP:=⟨rfl,λx=>(inferInstance:f_ (H4 x) (H4 x))⟩
def AM (a0:Cell):Option (Int) :=
 ((bif decide (0<=a0.kR) then
 some (aG ((a0.bx.length:Int)+1))
 else
 some (a0.bx.length:Int))).bind λlr =>
 ((bif a0.nK then
 some (aG (lr+1))
 else
 some lr)).bind λhC =>
 some hC
structure lD where
 State:Int
 Prod:Int
 br:(List Int)
 deriving DecidableEq,Inhabited
def tT:bN lD:=⟨3,λx=>[ae x.State,ae x.Prod,aj ai x.br],λ_=>rfl,λ_=>dk.bk⟩
instance:im tT tT:=⟨rfl,λx=>(inferInstance:f_ [ae x.State,ae x.Prod,aj ai x.br] [ae x.State,ae x.Prod,aj ai x.br])⟩
def DP (a0:bD) (av:(List State)) (a2:(List lD)):Option ((List Cell)) :=
 (cf (R:=List Cell) (λ(s1:List Cell × Int) =>
 (bif decide (s1.2<(av.length:Int)) then
 (cf (R:=List Cell) (λ(b2:List Cell × Int) =>
 (bif decide (b2.2<(a0.br.length:Int)) then
 ((rE av s1.2 b2.2).bind λb5 =>
 (cf (R:=Bool) (λ(nG:Bool × Int) =>
 (idx av s1.2).bind λed =>
 (bif decide (nG.2<(ed.Kernel.length:Int)) then
 (idx av s1.2).bind λdj =>
 (idx dj.Kernel nG.2).bind λc3 =>
 ((bif nG.1 then some true else (bif decide (b2.2=0) then (bif decide (c3.Prod=0) then some (decide (c3.eb=1)) else some false) else some false))).bind λsW =>
 some (.inl (sW,aG (nG.2+1)))
 else
 some (.inr nG.1))) (false,0)).bind λea =>
 (cf (R:=List Int) (λ(iA:List Int × Int) =>
 (bif decide (iA.2<(a2.length:Int)) then
 ((((idx a2 iA.2).bind λfF=>(bif decide (fF.State=s1.2) then ((idx a2 iA.2).bind λee=>((AD ee.br b2.2).bind λjv=>some jv)) else some false))).bind λwS =>
 ((bif wS then
 (idx a2 iA.2).bind λk_ =>
 (qH iA.1 k_.Prod).bind λfl =>
 some fl
 else
 some iA.1)).bind λpS =>
 some pS).bind λhV =>
 some (.inl (hV,aG (iA.2+1)))
 else
 some (.inr iA.1))) (([]:List Int),0)).bind λfY =>
 (AM (⟨s1.2,b2.2,b5,ea,fY⟩:Cell)).bind λqP =>
 ((bif decide (0<qP) then
 (cT b2.1 [(⟨s1.2,b2.2,b5,ea,fY⟩:Cell)]).bind λkL =>
 some (b2.1++[(⟨s1.2,b2.2,b5,ea,fY⟩:Cell)])
 else
 some b2.1)).bind λKw =>
 some Kw).bind λmR =>
 some (.inl (mR,aG (b2.2+1)))
 else
 some (.inr b2.1))) (s1.1,0)).bind λbz =>
 some (.inl (bz,aG (s1.2+1)))
 else
 some (.inr s1.1))) (([]:List Cell),0)).bind λx2 =>
 some x2
def Ar (a0:(List (List Int))) (av:(List (List Int))):Option ((List (List Int))) :=
 (cf (R:=List (List Int)) (λ(s1:List (List Int) × Bool) =>
 (bif s1.2 then
 (cf (R:=List (List Int) × Bool) (λ(b2:List (List Int) × Bool × Int) =>
 (bif decide (b2.2.2<(b2.1.length:Int)) then
 (idx av b2.2.2).bind λcm =>
 (idx b2.1 b2.2.2).bind λb5 =>
 (cf (R:=List (List Int)) (λ(nG:List (List Int) × Int) =>
 (bif decide (nG.2<(cm.length:Int)) then
 (cf (R:=List (List Int)) (λ(lZ:List (List Int) × Int) =>
 (idx cm nG.2).bind λdP =>
 (idx lZ.1 dP).bind λgf =>
 (bif decide (lZ.2<(gf.length:Int)) then
 (idx lZ.1 b2.2.2).bind λfN =>
 (idx cm nG.2).bind λiB =>
 (idx lZ.1 iB).bind λfY =>
 (idx fY lZ.2).bind λhQ =>
 (qH fN hQ).bind λly =>
 some (.inl (lZ.1.set b2.2.2.toNat ly,aG (lZ.2+1)))
 else
 some (.inr lZ.1))) (nG.1,0)).bind λdj =>
 some (.inl (dj,aG (nG.2+1)))
 else
 some (.inr nG.1))) (b2.1,0)).bind λea =>
 ((bif b2.2.1 then some true else ((idx ea b2.2.2).bind λfF=>some (!decide ((fF.length:Int)=(b5.length:Int)))))).bind λwR =>
 some (.inl (ea,wR,aG (b2.2.2+1)))
 else
 some (.inr (b2.1,b2.2.1)))) (s1.1,false,0)).bind λbz =>
 some (.inl (bz.1,bz.2))
 else
 some (.inr s1.1))) (a0,true)).bind λx2 =>
 some x2
structure Trans where
 State:Int
 fH:Int
 deriving DecidableEq,Inhabited
def r4:bN Trans:=⟨2,λx=>[ae x.State,ae x.fH],λ_=>rfl,λ_=>dk.bk⟩
instance:im r4 r4:=⟨rfl,λx=>(inferInstance:f_ [ae x.State,ae x.fH] [ae x.State,ae x.fH])⟩
def qG (a0:(List State)):Option ((List Trans)) :=
 (cf (R:=List Trans) (λ(s1:List Trans × Int) =>
 (bif decide (s1.2<(a0.length:Int)) then
 (cf (R:=List Trans) (λ(b2:List Trans × Int) =>
 (idx a0 s1.2).bind λbE =>
 (bif decide (b2.2<(bE.dW.length:Int)) then
 ((idx a0 s1.2).bind λa1 =>
 (idx a1.dW b2.2).bind λea =>
 ((bif decide (1000<=ea.Sym) then
 (idx a0 s1.2).bind λcF =>
 (idx cF.dW b2.2).bind λdj =>
 (cT b2.1 [(⟨s1.2,dj.Sym⟩:Trans)]).bind λc3 =>
 some (b2.1++[(⟨s1.2,dj.Sym⟩:Trans)])
 else
 some b2.1)).bind λk4 =>
 some k4).bind λjL =>
 some (.inl (jL,aG (b2.2+1)))
 else
 some (.inr b2.1))) (s1.1,0)).bind λbz =>
 some (.inl (bz,aG (s1.2+1)))
 else
 some (.inr s1.1))) (([]:List Trans),0)).bind λx2 =>
 some x2
def DC (a0:(List Item)):Option (Bool) :=
 (cf (R:=(Unit) ⊕ (Bool)) (λ(s1:Int) =>
 (bif decide (s1<(a0.length:Int)) then
 (((idx a0 s1).bind λbz=>(bif decide (bz.Prod=0) then ((idx a0 s1).bind λbE=>some (decide (bE.eb=1))) else some false))).bind λr2 =>
 (bif r2 then
 some (.inr (.inr true))
 else
 some (.inl (aG (s1+1))))
 else
 some (.inr (.inl ())))) 0).bind λx2 =>
 (match x2 with
 | .inl a7 =>
 some false
 | .inr bl =>
 some bl)
def Dt (a0:(List State)):Option ((List (List Int))) :=
 (qG a0).bind λaR =>
 (cf (R:=List (List Int)) (λ(s2:List (List Int) × Int) =>
 (bif decide (s2.2<(aR.length:Int)) then
 (idx aR s2.2).bind λbz =>
 (idx aR s2.2).bind λbq =>
 (rE a0 bz.State bq.fH).bind λbE =>
 (idx a0 bE).bind λcm =>
 (DC cm.Kernel).bind λb5 =>
 ((bif b5 then
 (cT ([]:List Int) [0]).bind λct =>
 some [0]
 else
 some ([]:List Int))).bind λiW =>
 (cf (R:=List Int) (λ(er:List Int × Int) =>
 (idx a0 bE).bind λc3 =>
 (bif decide (er.2<(c3.dW.length:Int)) then
 ((idx a0 bE).bind λeL =>
 (idx eL.dW er.2).bind λfN =>
 ((bif decide (fN.Sym<1000) then
 (idx a0 bE).bind λhQ =>
 (idx hQ.dW er.2).bind λly =>
 (qH er.1 ly.Sym).bind λjS =>
 some jS
 else
 some er.1)).bind λss =>
 some ss).bind λiI =>
 some (.inl (iI,aG (er.2+1)))
 else
 some (.inr er.1))) (iW,0)).bind λcF =>
 (cT s2.1 [cF]).bind λfF =>
 some (.inl (s2.1++[cF],aG (s2.2+1)))
 else
 some (.inr s2.1))) (([]:List (List Int)),0)).bind λa7 =>
 some a7
def Az (a0:(List Bool)) (av:(List Int)):Option (Bool) :=
 (cf (R:=(Unit) ⊕ (Bool)) (λ(s1:Int) =>
 (bif decide (s1<(av.length:Int)) then
 (((idx av s1).bind λbz=>(bif decide (bz<1000) then some true else ((idx av s1).bind λbE=>((idx a0 (aG (bE - 1000))).bind λcm=>some (!cm)))))).bind λiF =>
 (bif iF then
 some (.inr (.inr false))
 else
 some (.inl (aG (s1+1))))
 else
 some (.inr (.inl ())))) 0).bind λx2 =>
 (match x2 with
 | .inl a7 =>
 some true
 | .inr bl =>
 some bl)
def Ax (a0:bD):Option ((List Bool)) :=
 (oP (a0.dC.length:Int) false).bind λaR =>
 (cf (R:=List Bool) (λ(s2:List Bool × Bool) =>
 (bif s2.2 then
 (cf (R:=List Bool × Bool) (λ(cI:List Bool × Bool × Int) =>
 (bif decide (cI.2.2<(a0.bx.length:Int)) then
 ((idx a0.bx cI.2.2).bind λa1 =>
 (((idx cI.1 a1.Left).bind λea=>(bif !ea then ((Az cI.1 a1.dD).bind λed=>some ed) else some false))).bind λwO =>
 ((bif wO then
 (idx cI.1 a1.Left).bind λdP =>
 some (cI.1.set a1.Left.toNat true,true)
 else
 some (cI.1,cI.2.1))).bind λn4 =>
 some (n4.1,n4.2)).bind λjL =>
 some (.inl (jL.1,jL.2,aG (cI.2.2+1)))
 else
 some (.inr (cI.1,cI.2.1)))) (s2.1,false,0)).bind λbq =>
 some (.inl (bq.1,bq.2))
 else
 some (.inr s2.1))) (aR,true)).bind λa7 =>
 some a7
def Ay (a0:(List Trans)) (av:Int) (a2:Int):Option (Int) :=
 (cf (R:=(Unit) ⊕ (Int)) (λ(s1:Int) =>
 (bif decide (s1<(a0.length:Int)) then
 (((idx a0 s1).bind λbz=>(bif decide (bz.State=av) then ((idx a0 s1).bind λbE=>some (decide (bE.fH=a2))) else some false))).bind λr2 =>
 (bif r2 then
 some (.inr (.inr s1))
 else
 some (.inl (aG (s1+1))))
 else
 some (.inr (.inl ())))) 0).bind λx2 =>
 (match x2 with
 | .inl a7 =>
 some (-1)
 | .inr bl =>
 some bl)
def Du (a0:bD) (av:(List State)):Option ((List (List Int))) :=
 (qG av).bind λaR =>
 (Ax a0).bind λx2 =>
 (cf (R:=List (List Int)) (λ(eD:List (List Int) × Int) =>
 (bif decide (eD.2<(aR.length:Int)) then
 (idx aR eD.2).bind λbq =>
 (idx aR eD.2).bind λbE =>
 (rE av bq.State bE.fH).bind λcm =>
 (cf (R:=List Int) (λ(eT:List Int × Int) =>
 (idx av cm).bind λct =>
 (bif decide (eT.2<(ct.dW.length:Int)) then
 ((idx av cm).bind λdj =>
 (idx dj.dW eT.2).bind λc3 =>
 ((bif decide (1000<=c3.Sym) then ((idx x2 (aG (c3.Sym - 1000))).bind λgf=>some gf) else some false)).bind λzn =>
 ((bif zn then
 (Ay aR cm c3.Sym).bind λfY =>
 (qH eT.1 fY).bind λhQ =>
 some hQ
 else
 some eT.1)).bind λpR =>
 some pR).bind λrv =>
 some (.inl (rv,aG (eT.2+1)))
 else
 some (.inr eT.1))) (([]:List Int),0)).bind λa1 =>
 (cT eD.1 [a1]).bind λly =>
 some (.inl (eD.1++[a1],aG (eD.2+1)))
 else
 some (.inr eD.1))) (([]:List (List Int)),0)).bind λbl =>
 some bl
def As (a0:(List State)) (av:Int) (a2:(List Int)):Option (Int) :=
 (cf (R:=Int) (λ(s1:Int × Int) =>
 ((bif decide (s1.2<(a2.length:Int)) then some (decide (0<=s1.1)) else some false)).bind λjD =>
 (bif jD then
 (idx a2 s1.2).bind λbq =>
 (rE a0 s1.1 bq).bind λbE =>
 some (.inl (bE,aG (s1.2+1)))
 else
 some (.inr s1.1))) (av,0)).bind λx2 =>
 some x2
def Dv (a0:bD) (av:(List State)):Option ((List (List Int))) :=
 (qG av).bind λaR =>
 (Ax a0).bind λx2 =>
 (oP (aR.length:Int) ([]:List Int)).bind λa7 =>
 (cf (R:=List (List Int)) (λ(da:List (List Int) × Int) =>
 (bif decide (da.2<(aR.length:Int)) then
 (cf (R:=List (List Int)) (λ(ei:List (List Int) × Int) =>
 (bif decide (ei.2<(a0.bx.length:Int)) then
 ((idx a0.bx ei.2).bind λct =>
 (idx a0.bx ei.2).bind λed =>
 (idx aR da.2).bind λcF =>
 (bif !decide (aG (1000+ed.Left)=cF.fH) then
 some ei.1
 else
 (cf (R:=List (List Int)) (λ(l0:List (List Int) × Int) =>
 (bif decide (l0.2<(ct.dD.length:Int)) then
 ((((idx ct.dD l0.2).bind λiB=>(bif decide (iB<1000) then some true else ((ph ct.dD (aG (l0.2+1)) ct.dD.length).bind λhQ=>((Az x2 hQ).bind λly=>some (!ly)))))).bind λHU =>
 (bif HU then
 some l0.1
 else
 (idx aR da.2).bind λgz =>
 (ph ct.dD 0 l0.2).bind λee =>
 (As av gz.State ee).bind λjv =>
 ((bif decide (0<=jv) then
 (idx ct.dD l0.2).bind λhR =>
 (Ay aR jv hR).bind λk_ =>
 ((bif decide (0<=k_) then
 (idx l0.1 k_).bind λm_ =>
 (qH m_ da.2).bind λgK =>
 some (l0.1.set k_.toNat gK)
 else
 some l0.1)).bind λKv =>
 some Kv
 else
 some l0.1)).bind λxL =>
 some xL)).bind λpR =>
 some (.inl (pR,aG (l0.2+1)))
 else
 some (.inr l0.1))) (ei.1,0)).bind λdP =>
 some dP)).bind λgX =>
 some (.inl (gX,aG (ei.2+1)))
 else
 some (.inr ei.1))) (da.1,0)).bind λcm =>
 some (.inl (cm,aG (da.2+1)))
 else
 some (.inr da.1))) (a7,0)).bind λbW =>
 some bW
def AS (a0:bD) (av:(List State)):Option ((List (List Int))) :=
 (Dt av).bind λaR =>
 (Du a0 av).bind λx2 =>
 (Ar aR x2).bind λa7 =>
 (Dv a0 av).bind λbl =>
 (Ar a7 bl).bind λbW =>
 some bW
def DS (a0:bD) (av:(List Item)):Option ((List Int)) :=
 (x6 a0 av).bind λaR =>
 (cf (R:=List Int) (λ(s2:List Int × Int) =>
 (bif decide (s2.2<(aR.length:Int)) then
 ((((idx aR s2.2).bind λbq=>(bif decide (0<bq.Prod) then ((idx aR s2.2).bind λcm=>((idx aR s2.2).bind λb5=>((idx a0.bx b5.Prod).bind λa1=>some (decide (cm.eb=(a1.dD.length:Int)))))) else some false))).bind λr1 =>
 ((bif r1 then
 (idx aR s2.2).bind λcF =>
 (cT s2.1 [cF.Prod]).bind λdj =>
 some (s2.1++[cF.Prod])
 else
 some s2.1)).bind λk4 =>
 some k4).bind λho =>
 some (.inl (ho,aG (s2.2+1)))
 else
 some (.inr s2.1))) (([]:List Int),0)).bind λa7 =>
 some a7
def DT (a0:bD) (av:(List State)) (a2:Int) (a3:Int):Option ((List Int)) :=
 ((bif decide (a2<0) then some true else (bif decide ((av.length:Int)<=a2) then some true else (bif decide (a3<1) then some true else some (decide ((a0.bx.length:Int)<=a3)))))).bind λc4 =>
 (bif c4 then
 some ([]:List Int)
 else
 (qG av).bind λbz =>
 (cf (R:=List Int) (λ(gb:List Int × Int) =>
 (bif decide (gb.2<(bz.length:Int)) then
 ((((idx bz gb.2).bind λea=>((idx a0.bx a3).bind λct=>(bif decide (ea.fH=aG (1000+ct.Left)) then ((idx bz gb.2).bind λcF=>((idx a0.bx a3).bind λdj=>((As av cF.State dj.dD).bind λc3=>some (decide (c3=a2))))) else some false)))).bind λnS =>
 ((bif nS then
 (cT gb.1 [gb.2]).bind λfN =>
 some (gb.1++[gb.2])
 else
 some gb.1)).bind λiI =>
 some iI).bind λiW =>
 some (.inl (iW,aG (gb.2+1)))
 else
 some (.inr gb.1))) (([]:List Int),0)).bind λbE =>
 some bE)
def DQ (a0:bD) (av:(List State)):Option ((List lD)) :=
 (AS a0 av).bind λaR =>
 (cf (R:=List lD) (λ(s2:List lD × Int) =>
 (bif decide (s2.2<(av.length:Int)) then
 (idx av s2.2).bind λbz =>
 (DS a0 bz.Kernel).bind λbq =>
 (cf (R:=List lD) (λ(ei:List lD × Int) =>
 (bif decide (ei.2<(bq.length:Int)) then
 (idx bq ei.2).bind λea =>
 (idx bq ei.2).bind λct =>
 (DT a0 av s2.2 ct).bind λed =>
 (cf (R:=List Int) (λ(lZ:List Int × Int) =>
 (bif decide (lZ.2<(ed.length:Int)) then
 (cf (R:=List Int) (λ(dh:List Int × Int) =>
 (idx ed lZ.2).bind λiB =>
 (idx aR iB).bind λfY =>
 (bif decide (dh.2<(fY.length:Int)) then
 (idx ed lZ.2).bind λly =>
 (idx aR ly).bind λjS =>
 (idx jS dh.2).bind λfF =>
 (qH dh.1 fF).bind λgz =>
 some (.inl (gz,aG (dh.2+1)))
 else
 some (.inr dh.1))) (lZ.1,0)).bind λeL =>
 some (.inl (eL,aG (lZ.2+1)))
 else
 some (.inr lZ.1))) (([]:List Int),0)).bind λdj =>
 (cT ei.1 [(⟨s2.2,ea,dj⟩:lD)]).bind λee =>
 some (.inl (ei.1++[(⟨s2.2,ea,dj⟩:lD)],aG (ei.2+1)))
 else
 some (.inr ei.1))) (s2.1,0)).bind λcm =>
 some (.inl (cm,aG (s2.2+1)))
 else
 some (.inr s2.1))) (([]:List lD),0)).bind λa7 =>
 some a7
def AH (a0:Source):Option (bD × (List State) × (List Cell) × Bool) :=
 (Gp a0).bind λaR =>
 (bif !aR.2.2 then
 some (aR.1,([]:List State),([]:List Cell),false)
 else
 (DQ aR.1 aR.2.1).bind λa7 =>
 (DP aR.1 aR.2.1 a7).bind λbl =>
 some (aR.1,aR.2.1,bl,true))
def Dw (a0:bD) (av:Int):Option (Int × Int) :=
 ((bif decide (av<0) then some true else (bif decide ((a0.bx.length:Int)<=av) then some true else ((idx a0.bx av).bind λa7=>some (decide (a7.Prec<0)))))).bind λc4 =>
 (bif c4 then
 some (0,0)
 else
 (idx a0.bx av).bind λbz =>
 (idx a0.br bz.Prec).bind λbq =>
 some (bq.Level,bq.i'))
def DU (a0:bD) (av:Int) (a2:Int):Option (Int) :=
 (Dw a0 av).bind λaR =>
 ((bif decide (aR.1=0) then some true else (bif decide (a2<0) then some true else (bif decide ((a0.br.length:Int)<=a2) then some true else ((idx a0.br a2).bind λbW=>some (decide (bW.Level=0))))))).bind λwT =>
 (bif wT then
 some 0
 else
 (idx a0.br a2).bind λbE =>
 (bif decide (aR.1<bE.Level) then
 some 1
 else
 (bif decide (bE.Level<aR.1) then
 some 2
 else
 (bif decide (bE.i'=1) then
 some 2
 else
 (bif decide (bE.i'=2) then
 some 1
 else
 some 3)))))
structure eY where
 State:Int
 b4:Int
 il:Int
 Drop:Int
 deriving DecidableEq,Inhabited
def eF:bN eY:=⟨4,λx=>[ae x.State,ae x.b4,ae x.il,ae x.Drop],λ_=>rfl,λ_=>dk.bk⟩
instance:im eF eF:=⟨rfl,λx=>(inferInstance:f_ [ae x.State,ae x.b4,ae x.il,ae x.Drop] [ae x.State,ae x.b4,ae x.il,ae x.Drop])⟩
def yh (a0:bD) (av:Cell):Option (Act × (List eY)) :=
 (cf (R:=List eY) (λ(s1:List eY × Int) =>
 (bif decide (s1.2<(av.bx.length:Int)) then
 (idx av.bx 0).bind λbW =>
 (idx av.bx s1.2).bind λbz =>
 (cT s1.1 [(⟨av.State,av.b4,bW,bz⟩:eY)]).bind λbq =>
 some (.inl (s1.1++[(⟨av.State,av.b4,bW,bz⟩:eY)],aG (s1.2+1)))
 else
 some (.inr s1.1))) (([]:List eY),1)).bind λx2 =>
 ((bif av.nK then
 some (3,0)
 else
 some (1,av.kR))).bind λdZ =>
 (bif decide ((av.bx.length:Int)=0) then
 some ((⟨dZ.1,dZ.2⟩:Act),x2)
 else
 (idx av.bx 0).bind λa1 =>
 ((bif decide (av.kR<0) then some (!av.nK) else some false)).bind λiN =>
 (bif iN then
 some ((⟨2,a1⟩:Act),x2)
 else
 (DU a0 a1 av.b4).bind λcF =>
 ((bif av.nK then some true else some (decide (cF=0)))).bind λwP =>
 (bif wP then
 (cT x2 [(⟨av.State,av.b4,(-1),a1⟩:eY)]).bind λgf =>
 some ((⟨dZ.1,dZ.2⟩:Act),x2++[(⟨av.State,av.b4,(-1),a1⟩:eY)])
 else
 (bif decide (cF=2) then
 some ((⟨2,a1⟩:Act),x2)
 else
 (bif decide (cF=3) then
 some ((⟨4,0⟩:Act),x2)
 else
 some ((⟨dZ.1,dZ.2⟩:Act),x2))))))
def AI (a0:bD) (av:(List State)) (a2:(List Cell)):Option (gP × (List eY)) :=
 (cf (R:=List (List Act) × List (List Int) × List eY) (λ(s1:List (List Act) × List (List Int) × List eY × Int) =>
 (bif decide (s1.2.2.2<(av.length:Int)) then
 (oP (a0.br.length:Int) (⟨0,0⟩:Act)).bind λbW =>
 (cf (R:=List eY × List Act) (λ(cI:List eY × List Act × Int) =>
 (bif decide (cI.2.2<(a2.length:Int)) then
 ((idx a2 cI.2.2).bind λa1 =>
 ((bif decide (a1.State=s1.2.2.2) then
 (idx a2 cI.2.2).bind λed =>
 (yh a0 ed).bind λcF =>
 (idx a2 cI.2.2).bind λdj =>
 (idx cI.2.1 dj.b4).bind λc3 =>
 (cT cI.1 cF.2).bind λdP =>
 some (cI.1++cF.2,cI.2.1.set dj.b4.toNat cF.1)
 else
 some (cI.1,cI.2.1))).bind λgX =>
 some (gX.1,gX.2)).bind λjL =>
 some (.inl (jL.1,jL.2,aG (cI.2.2+1)))
 else
 some (.inr (cI.1,cI.2.1)))) (s1.2.2.1,bW,0)).bind λbq =>
 (oP (a0.dC.length:Int) 0).bind λgf =>
 (cf (R:=List Int) (λ(qL:List Int × Int) =>
 (bif decide (qL.2<(qL.1.length:Int)) then
 (rE av s1.2.2.2 (aG (1000+qL.2))).bind λhQ =>
 (idx qL.1 qL.2).bind λly =>
 some (.inl (qL.1.set qL.2.toNat hQ,aG (qL.2+1)))
 else
 some (.inr qL.1))) (gf,0)).bind λfN =>
 (cT s1.1 [bq.2]).bind λjS =>
 (cT s1.2.1 [fN]).bind λfF =>
 some (.inl (s1.1++[bq.2],s1.2.1++[fN],bq.1,aG (s1.2.2.2+1)))
 else
 some (.inr (s1.1,s1.2.1,s1.2.2.1)))) (([]:List (List Act)),([]:List (List Int)),([]:List eY),0)).bind λx2 =>
 some ((⟨x2.1,x2.2.1⟩:gP),x2.2.2)
def DI (a0:(List Cell)):Option (Int) :=
 (cf (R:=Int) (λ(s1:Int × Int) =>
 (bif decide (s1.2<(a0.length:Int)) then
 ((idx a0 s1.2).bind λbz =>
 (AM bz).bind λbq =>
 ((bif decide (1<bq) then
 some (aG (s1.1+1))
 else
 some s1.1)).bind λdZ =>
 some dZ).bind λiy =>
 some (.inl (iy,aG (s1.2+1)))
 else
 some (.inr s1.1))) (0,0)).bind λx2 =>
 some x2
def x4 (a0:Source):Option (bD × gP × Int × Bool) :=
 (AH a0).bind λaR =>
 (bif !aR.2.2.2 then
 some (aR.1,(⟨([]:List (List Act)),([]:List (List Int))⟩:gP),0,false)
 else
 (AI aR.1 aR.2.1 aR.2.2.1).bind λa7 =>
 (DI aR.2.2.1).bind λbl =>
 some (aR.1,a7.1,bl,true))
def DN (a0:ByteArray):Option (Part) :=
 some (⟨(⟨a0,false,0,0⟩:Sym),⟨#[]⟩,0⟩:Part)
def DO (a0:ByteArray):Option (Part) :=
 some (⟨(⟨a0,true,0,0⟩:Sym),⟨#[]⟩,0⟩:Part)
def Gm :Option (bD × gP × Bool) :=
 (DN (⟨#[115]⟩)).bind λaR =>
 (DN (⟨#[108]⟩)).bind λx2 =>
 (DO (⟨#[120]⟩)).bind λa7 =>
 (DO (⟨#[59]⟩)).bind λbl =>
 (DN (⟨#[101,114,114,111,114]⟩)).bind λbW =>
 (DO (⟨#[59]⟩)).bind λbz =>
 (x4 (⟨⟨#[]⟩,([]:List Decl),[(⟨⟨#[115]⟩,[(⟨([]:List Part),(⟨⟨#[]⟩,false,0,0⟩:Sym),0⟩:Alt),(⟨[aR,x2],(⟨⟨#[]⟩,false,0,0⟩:Sym),0⟩:Alt)],0⟩:fI),(⟨⟨#[108]⟩,[(⟨[a7,bl],(⟨⟨#[]⟩,false,0,0⟩:Sym),0⟩:Alt),(⟨[bW,bz],(⟨⟨#[]⟩,false,0,0⟩:Sym),0⟩:Alt)],0⟩:fI)],⟨#[]⟩⟩:Source)).bind λbq =>
 some (bq.1,bq.2.1,bq.2.2.2)
def DR :Option (Bool) :=
 (Gm ).bind λaR =>
 (yc aR.1 aR.2.1).bind λx2 =>
 ((bif !aR.2.2 then some true else some (decide ((x2.Def.length:Int)=0)))).bind λc4 =>
 (bif c4 then
 some false
 else
 (ti x2 [120,120,59,120,59] 50 50).bind λbz =>
 (ti x2 [120,59,0,120] 50 50).bind λbq =>
 (ti x2 [59,59] 50 3).bind λbE =>
 ((bif decide (bz.Kind=1) then (bif decide (bz.At=5) then (bif decide ((bz.eC.length:Int)=1) then ((idx bz.eC 0).bind λea=>(bif decide (ea.At=1) then ((idx bz.eC 0).bind λed=>(bif ed.Told then ((tl bz.fp [1]).bind λdj=>(bif dj then (bif decide (bz.Tree.Sym=1001) then ((tl bz.bx [1,4,2,3,2]).bind λgf=>(bif gf then (bif decide (bz.Steps=12) then (bif decide (bz.Deep=3) then (bif decide (bq.Kind=1) then (bif decide (bq.At=2) then some (decide (bE.Kind=3)) else some false) else some false) else some false) else some false) else some false)) else some false) else some false)) else some false)) else some false)) else some false) else some false) else some false)).bind λtM =>
 some tM)
def uE (a0:Int) (av:Int):Option (Int) :=
 (rG a0 av).bind λaR =>
 ((bif decide (aR<0) then
 some (aG (aR+av))
 else
 some aR)).bind λxJ =>
 some xJ
def La :Option (ByteArray) :=
 some (⟨#[112,113,114,115]⟩)
def v_ (a0:Int):Option (Sym) :=
 (La ).bind λaR =>
 (rG a0 4).bind λx2 =>
 (rG a0 4).bind λa7 =>
 (wZ aR x2 (aG (a7+1))).bind λbl =>
 some (⟨bl,true,0,0⟩:Sym)
def nr:bN Decl:=⟨4,λx=>[ae x.Kind,aZ x.Tag,aC fv x.fa,ae x.At],λ_=>rfl,λ_=>dk.bk⟩
instance:im nr eQ:=⟨rfl,λx=>(inferInstance:f_ [ae x.Kind,aZ x.Tag,aC fv x.fa,ae x.At] [ae x.Kind,aZ x.Tag,aj fv x.fa,ae x.At])⟩
def AF (a0:(List Int)):Option ((List Decl)) :=
 (cf (R:=List Decl) (λ(s1:List Decl × Int) =>
 ((bif decide (s1.2<(a0.length:Int)) then some (decide (s1.2<4)) else some false)).bind λjD =>
 (bif jD then
 ((idx a0 s1.2).bind λbE =>
 (uE bE 8).bind λcm =>
 (rG cm 4).bind λb5 =>
 (bif decide (b5=0) then
 some s1.1
 else
 ((bif decide (4<cm) then some (decide (0<(s1.1.length:Int))) else some false)).bind λiN =>
 (bif iN then
 (idx s1.1 (aG ((s1.1.length:Int) - 1))).bind λcF =>
 (v_ s1.2).bind λdj =>
 (cT cF.fa [dj]).bind λc3 =>
 some (s1.1.set (aG ((s1.1.length:Int) - 1)).toNat (⟨cF.Kind,cF.Tag,cF.fa++[dj],cF.At⟩:Decl))
 else
 (rG cm 4).bind λdP =>
 (v_ s1.2).bind λgf =>
 (cT s1.1 [(⟨aG (1+dP),⟨#[]⟩,[gf],0⟩:Decl)]).bind λeL =>
 some (s1.1++[(⟨aG (1+dP),⟨#[]⟩,[gf],0⟩:Decl)])))).bind λk5 =>
 some (.inl (k5,aG (s1.2+1)))
 else
 some (.inr s1.1))) (([]:List Decl),0)).bind λx2 =>
 some x2
def AG (a0:Int):Option (ByteArray) :=
 some (strOfNums [G9 (aG (97+a0))])
def DH (a0:Int) (av:Int):Option (Sym) :=
 (uE a0 14).bind λaR =>
 (bif decide (aR<5) then
 (rG aR av).bind λa7 =>
 (AG a7).bind λbl =>
 some (⟨bl,false,0,0⟩:Sym)
 else
 (bif decide (aR=13) then
 some (⟨⟨#[101,114,114,111,114]⟩,false,0,0⟩:Sym)
 else
 (v_ (aG (aR - 5))).bind λbz =>
 some bz))
structure qS where
 dC:Int
 eM:(List (List Int))
 wE:(List Int)
 q0:(List Int)
 A9:Bool
 deriving DecidableEq,Inhabited
abbrev UO (x:qS):List ab:=[ae x.dC,aj (bF ai) x.eM,aj ai x.wE,aj ai x.q0,bg x.A9]
def sY:bN qS:=⟨5,λx=>UO x,λ_=>rfl,λ_=>dk.bk⟩
def fu:bN fI:=⟨3,λx=>[aZ x.Left,aC gB x.gg,ae x.At],λ_=>rfl,λ_=>dk.bk⟩
instance:im fu oB:=⟨rfl,λx=>(inferInstance:f_ [aZ x.Left,aC gB x.gg,ae x.At] [aZ x.Left,aj gB x.gg,ae x.At])⟩
def An (a0:qS):Option (Source) :=
 (uE a0.dC 4).bind λaR =>
 (AF a0.wE).bind λx2 =>
 (oP (aG (1+aR)) false).bind λa7 =>
 (cf (R:=List fI) (λ(da:List fI × Int) =>
 (bif decide (da.2<aG (1+aR)) then
 (AG da.2).bind λbE =>
 (cT da.1 [(⟨bE,([]:List Alt),0⟩:fI)]).bind λcm =>
 some (.inl (da.1++[(⟨bE,([]:List Alt),0⟩:fI)],aG (da.2+1)))
 else
 some (.inr da.1))) (([]:List fI),0)).bind λbW =>
 (cf (R:=List fI × List Bool) (λ(eT:List fI × List Bool × Int) =>
 ((bif decide (eT.2.2<(a0.eM.length:Int)) then some (decide (eT.2.2<9)) else some false)).bind λqf =>
 (bif qf then
 ((idx a0.eM eT.2.2).bind λc3 =>
 (bif decide ((c3.length:Int)=0) then
 some (eT.1,eT.2.1)
 else
 (idx a0.eM eT.2.2).bind λgf =>
 (idx gf 0).bind λeL =>
 (uE eL (aG (1+aR))).bind λfN =>
 (cf (R:=List Part × Bool) (λ(iA:List Part × Bool × Int) =>
 (((idx a0.eM eT.2.2).bind λly=>(bif decide (iA.2.2<(ly.length:Int)) then some (decide (iA.2.2<5)) else some false))).bind λHV =>
 (bif HV then
 ((idx a0.eM eT.2.2).bind λjv =>
 (idx jv iA.2.2).bind λoT =>
 (DH oT (aG (1+aR))).bind λdb =>
 ((bif iA.2.1 then (bif db.Lit then some true else some (decide (db.Name=⟨#[101,114,114,111,114]⟩))) else some false)).bind λtN =>
 (cT iA.1 [(⟨db,⟨#[]⟩,0⟩:Part)]).bind λqP =>
 ((bif decide (eT.2.2<(a0.q0.length:Int)) then (bif decide (iA.2.2=1) then ((idx a0.q0 eT.2.2).bind λkL=>((rG kL 3).bind λwx=>some (decide (wx=1)))) else some false) else some false)).bind λHX =>
 ((bif HX then
 (cT (iA.1++[(⟨db,⟨#[]⟩,0⟩:Part)]) [(⟨(⟨⟨#[]⟩,false,0,0⟩:Sym),⟨#[123,36,36,32,61,32,36,49,125]⟩,0⟩:Part)]).bind λG' =>
 some ((iA.1++[(⟨db,⟨#[]⟩,0⟩:Part)])++[(⟨(⟨⟨#[]⟩,false,0,0⟩:Sym),⟨#[123,36,36,32,61,32,36,49,125]⟩,0⟩:Part)])
 else
 some (iA.1++[(⟨db,⟨#[]⟩,0⟩:Part)]))).bind λKy =>
 some (Ky,tN)).bind λuu =>
 some (.inl (uu.1,uu.2,aG (iA.2.2+1)))
 else
 some (.inr (iA.1,iA.2.1)))) (([]:List Part),true,1)).bind λfY =>
 ((bif decide (eT.2.2<(a0.q0.length:Int)) then ((idx a0.q0 eT.2.2).bind λqQ=>((rG qQ 2).bind λRG=>some (!decide (RG=0)))) else some false)).bind λzo =>
 ((bif zo then
 (cT fY.1 [(⟨(⟨⟨#[]⟩,false,0,0⟩:Sym),⟨#[123,102,40,36,36,41,125]⟩,0⟩:Part)]).bind λA4 =>
 some (fY.1++[(⟨(⟨⟨#[]⟩,false,0,0⟩:Sym),⟨#[123,102,40,36,36,41,125]⟩,0⟩:Part)])
 else
 some fY.1)).bind λpa =>
 (((idx eT.2.1 fN).bind λtv=>(bif tv then some (eT.2.1.set fN.toNat true) else some (eT.2.1.set fN.toNat fY.2)))).bind λE1 =>
 (idx eT.1 fN).bind λmv =>
 (cT mv.gg [(⟨pa,(⟨⟨#[]⟩,false,0,0⟩:Sym),0⟩:Alt)]).bind λRH =>
 some (eT.1.set fN.toNat (⟨mv.Left,mv.gg++[(⟨pa,(⟨⟨#[]⟩,false,0,0⟩:Sym),0⟩:Alt)],mv.At⟩:fI),E1))).bind λn4 =>
 some (.inl (n4.1,n4.2,aG (eT.2.2+1)))
 else
 some (.inr (eT.1,eT.2.1)))) (bW,a7,0)).bind λa1 =>
 (cf (R:=List fI) (λ(iY:List fI × Int) =>
 (bif decide (iY.2<aG (1+aR)) then
 ((((idx iY.1 iY.2).bind λwz=>(bif decide ((wz.gg.length:Int)=0) then some true else ((idx a1.2 iY.2).bind λLW=>(bif !LW then some (!a0.A9) else some false))))).bind λH2 =>
 ((bif H2 then
 (idx iY.1 iY.2).bind λkM =>
 (v_ iY.2).bind λkN =>
 (cT kM.gg [(⟨[(⟨kN,⟨#[]⟩,0⟩:Part)],(⟨⟨#[]⟩,false,0,0⟩:Sym),0⟩:Alt)]).bind λEn =>
 some (iY.1.set iY.2.toNat (⟨kM.Left,kM.gg++[(⟨[(⟨kN,⟨#[]⟩,0⟩:Part)],(⟨⟨#[]⟩,false,0,0⟩:Sym),0⟩:Alt)],kM.At⟩:fI))
 else
 some iY.1)).bind λKC =>
 some KC).bind λKB =>
 some (.inl (KB,aG (iY.2+1)))
 else
 some (.inr iY.1))) (a1.1,0)).bind λwy =>
 some (⟨⟨#[]⟩,x2,wy,⟨#[]⟩⟩:Source)
def Gq (a0:(List Int)):Option (Int) :=
 (cf (R:=List Int) (λ(s1:List Int × Int) =>
 (bif decide (s1.2<(a0.length:Int)) then
 (idx a0 s1.2).bind λbW =>
 (qH s1.1 bW).bind λbz =>
 some (.inl (bz,aG (s1.2+1)))
 else
 some (.inr s1.1))) (([]:List Int),0)).bind λx2 =>
 (cf (R:=Int) (λ(gb:Int × Int × Int) =>
 (bif decide (gb.2.2<(x2.length:Int)) then
 ((cf (R:=Int) (λ(AZ:Int × Int) =>
 (bif decide (AZ.2<(a0.length:Int)) then
 ((idx a0 AZ.2).bind λc3 =>
 (idx x2 gb.2.2).bind λdP =>
 ((bif decide (c3=dP) then
 some (aG (AZ.1+1))
 else
 some AZ.1)).bind λiI =>
 some iI).bind λn4 =>
 some (.inl (n4,aG (AZ.2+1)))
 else
 some (.inr AZ.1))) (0,0)).bind λct =>
 ((bif decide (gb.2.1<ct) then
 (idx x2 gb.2.2).bind λfY =>
 some (fY,ct)
 else
 some (gb.1,gb.2.1))).bind λpR =>
 some (pR.1,pR.2)).bind λiW =>
 some (.inl (iW.1,iW.2,aG (gb.2.2+1)))
 else
 some (.inr gb.1))) ((-1),0,0)).bind λbE =>
 some bE
def oQ (a0:Act):Option (Int) :=
 ((bif decide (a0.Kind=1) then (bif decide (0<=a0.N) then some (decide (a0.N<=19999)) else some false) else some false)).bind λkz =>
 (bif kz then
 some (aG (a0.N+1))
 else
 ((bif decide (a0.Kind=2) then (bif decide (1<=a0.N) then some (decide (a0.N<=19999)) else some false) else some false)).bind λnT =>
 (bif nT then
 some (aG (-a0.N))
 else
 ((bif decide (a0.Kind=3) then some (decide (a0.N=0)) else some false)).bind λiF =>
 (bif iF then
 some 20001
 else
 ((bif decide (a0.Kind=4) then some (decide (a0.N=0)) else some false)).bind λiN =>
 (bif iN then
 some 20002
 else
 some 0))))
def Ds (a0:bD) (av:(List Int)) (a2:Int):Option ((List Int)) :=
 (cf (R:=List Int) (λ(s1:List Int × Int) =>
 ((bif decide (s1.2<(av.length:Int)) then some (decide (s1.2<a2)) else some false)).bind λjD =>
 (bif jD then
 ((idx av s1.2).bind λbE =>
 (uE bE (aG ((a0.br.length:Int) - 2))).bind λcm =>
 ((bif decide (0<cm) then
 (idx a0.br (aG (cm+2))).bind λea =>
 (cT s1.1 [ea.cc]).bind λct =>
 some (s1.1++[ea.cc])
 else
 (cT s1.1 [999]).bind λed =>
 some (s1.1++[999]))).bind λjL =>
 some jL).bind λk5 =>
 some (.inl (k5,aG (s1.2+1)))
 else
 some (.inr s1.1))) (([]:List Int),0)).bind λx2 =>
 some x2
def Dx (a0:(List Int)) (av:Int):Option ((List Int)) :=
 (bif decide (av<(a0.length:Int)) then
 (ph a0 0 av).bind λx2 =>
 some x2
 else
 some a0)
def AJ (a0:(List qb)) (av:(List qb)):Option (Bool) :=
 (bif !decide ((a0.length:Int)=(av.length:Int)) then
 some false
 else
 (cf (R:=(Unit) ⊕ (Bool)) (λ(s2:Int) =>
 (bif decide (s2<(a0.length:Int)) then
 (idx a0 s2).bind λbq =>
 (idx av s2).bind λbE =>
 (bif !(decide (bq.At=bE.At)&&((bq.Told == bE.Told)&&true)) then
 some (.inr (.inr false))
 else
 some (.inl (aG (s2+1))))
 else
 some (.inr (.inl ())))) 0).bind λa7 =>
 (match a7 with
 | .inl bl =>
 some true
 | .inr bW =>
 some bW))
def ye:Nat->(Node)->(Node)->Option (Bool)
 | 0,_,_=>none
 | n+1,a0,av =>
  ((bif !decide (a0.Sym=av.Sym) then some true else (bif !decide (a0.Prod=av.Prod) then some true else (bif !decide (a0.At=av.At) then some true else some (!decide ((a0.Kids.n:Int)=(av.Kids.n:Int))))))).bind λc4 =>
  (bif c4 then
  some false
  else
  (cf (R:=(Unit) ⊕ (Bool)) (λ(cI:Int) =>
  (bif decide (cI<(a0.Kids.n:Int)) then
  (BH a0.Kids).bind λa1 =>
  (idx a1 cI).bind λea =>
  (BH av.Kids).bind λct =>
  (idx ct cI).bind λed =>
  (ye n ea ed).bind λcF =>
  (bif !cF then
  some (.inr (.inr false))
  else
  some (.inl (aG (cI+1))))
  else
  some (.inr (.inl ())))) 0).bind λbq =>
  (match bq with
  | .inl bE =>
  some true
  | .inr cm =>
  some cm))
def Gn (a0:Node) (av:Node):Option (Bool):=ye fuel a0 av
def Au (a0:eZ) (av:eZ):Option (Bool) :=
 ((bif decide (a0.Kind=av.Kind) then (bif decide (a0.At=av.At) then (bif decide (a0.Steps=av.Steps) then (bif decide (a0.Deep=av.Deep) then ((tl a0.bx av.bx).bind λbW=>(bif bW then ((AJ a0.eC av.eC).bind λbq=>(bif bq then ((tl a0.fp av.fp).bind λcm=>(bif cm then ((Gn a0.Tree av.Tree).bind λa1=>some a1) else some false)) else some false)) else some false)) else some false) else some false) else some false) else some false)).bind λr1 =>
 some r1
def Ap (a0:(List cG)) (av:Int):Option (Int × Bool) :=
 (cf (R:=(Unit) ⊕ (Int × Bool)) (λ(s1:Int) =>
 (bif decide (s1<(a0.length:Int)) then
 (idx a0 s1).bind λbz =>
 (bif decide (bz.At=av) then
 (idx a0 s1).bind λbE =>
 some (.inr (.inr (bE.cb,true)))
 else
 some (.inl (aG (s1+1))))
 else
 some (.inr (.inl ())))) 0).bind λx2 =>
 (match x2 with
 | .inl a7 =>
 some (0,false)
 | .inr bl =>
 some (bl.1,bl.2))
def Dm (a0:Int):Option (Act) :=
 ((bif decide (1<=a0) then some (decide (a0<=20000)) else some false)).bind λc2 =>
 (bif c2 then
 some (⟨1,aG (a0 - 1)⟩:Act)
 else
 ((bif decide (a0<=(-1)) then some (decide ((-19999)<=a0)) else some false)).bind λjD =>
 (bif jD then
 some (⟨2,aG (-a0)⟩:Act)
 else
 (bif decide (a0=20001) then
 some (⟨3,0⟩:Act)
 else
 (bif decide (a0=20002) then
 some (⟨4,0⟩:Act)
 else
 some (⟨0,0⟩:Act)))))
def AK (a0:qS) (av:(List Int)) (a2:Int) (a3:(List Int)):Option (Bool) :=
 (DR ).bind λaR =>
 (bif !aR then
 some false
 else
 (An a0).bind λa7 =>
 (x4 a7).bind λbl =>
 (bif !bl.2.2.2 then
 some true
 else
 ((bif decide (0<a2) then
 some 0
 else
 some a2)).bind λho =>
 (yc bl.1 bl.2.1).bind λbE =>
 (Ds bl.1 av 30).bind λcm =>
 (ti bE cm 500 1500).bind λb5 =>
 (((cT ([]:List Int) cm).bind λa1=>((cT a1 [ho]).bind λea=>((Dx a3 9).bind λct=>((cT ea ct).bind λed=>((ti bE ed 500 1500).bind λcF=>((Au cF b5).bind λdj=>(bif dj then some (decide (b5.At<=(cm.length:Int))) else some false)))))))).bind λnS =>
 some nS))
end Go.Proofs
namespace Go.Own
open Go
variable {α β S R:Type}
abbrev h0 (p:S->Prop) (q:R->Prop) (x:S ⊕ R):Prop:=Sum.elim p q x
def Tot (x:Option α) (Φ:α->Prop):Prop:=∃ a,x=some a/\Φ a
namespace Tot
variable {Φ Ψ:α->Prop}
theorem al {a:α}(h:Φ a):Tot (some a) Φ:=⟨a,rfl,h⟩
theorem bi {x:Option β}{f:β->Option α}(h:Tot x λa=>Tot (f a) Φ):Tot (x.bind f) Φ:=by
 obtain ⟨a,rfl,b,au,qB⟩:=h;exact ⟨b,au,qB⟩
theorem aV {f:β->Option α}{a:β}(h:Tot (f a) Φ):Tot ((some a).bind f) Φ:=h
theorem use {x:Option α}(h:Tot x Ψ) (hi:∀ a,Ψ a->Φ a):Tot x Φ:=by
 obtain ⟨a,aI,YC⟩:=h;exact ⟨a,aI,hi a YC⟩
theorem aA {x:Option β}{f:β->Option α}{Ξ:β->Prop}(h:Tot x Ξ) (hk:∀ a,Ξ a->Tot (f a) Φ):Tot (x.bind f) Φ:=bi (h.use hk)
theorem bM {c:Bool}{a b:Option α}(ar:c=true->Tot a Φ) (aT:c=false->Tot b Φ):Tot (cond c a b) Φ:=by
 grind
theorem bt {p:Prop} [Decidable p] {a b:Option α}(ar:p->Tot a Φ) (aT:¬ p->Tot b Φ):Tot (cond (decide p) a b) Φ:=by grind
theorem pA {p:Prop} [Decidable p] {a b:Option α}(ar:¬ p->Tot a Φ) (aT:p->Tot b Φ):Tot (cond (!decide p) a b) Φ:=by grind
theorem hn {l:List α}{i:Int}(aK:0<=i) (h1:i<l.length) (hk:∀ y,idx l i=some y->y∈l->Φ y):Tot (idx l i) Φ:=by
 have aN:i.toNat<l.length:=by omega
 have:idx l i=some l[i.toNat]:=by simp [idx,aK,aN]
 exact ⟨_,this,hk _ this (List.getElem_mem aN)⟩
theorem ap {Φ:List α->Prop}{l m:List α}(h:l.length+m.length<=lim) (hk:Φ (l++m)):Tot (cT l m) Φ:=by
 refine ⟨l++m,?_,hk⟩
 grind [cT]
theorem bK {Φ:β->Prop}{l m:List α}{f:List α->Option β}(hk:Tot (f (l++m)) Φ) (h:l.length+m.length<=lim:=by simp [lim]; omega):Tot ((cT l m).bind f) Φ:=bi (ap h hk)
theorem loop {f:S->Option (S ⊕ R)}{e9:S}{Ψ:R->Prop}(Inv:S->Prop) (Hj:S->Nat) (aK:Inv e9) (YD:Hj e9<fuel)
  (aw:∀ s,Inv s->Tot (f s) (h0 (λcy=>Inv cy/\Hj cy<Hj s) Ψ)):Tot (cf f e9) Ψ:=by
 have key:∀ n s,Inv s->Hj s<n->Tot (iter f n s) Ψ:=by
  intro n
  induction n with
  | zero=>intro s _ h; omega
  | succ n aM =>
   intro s bf hm;obtain ⟨x,J,bQ⟩:=aw s bf;cases x with
   | inl cy =>
    grind [iter]
   | inr r =>
    simp only [iter,J];exact ⟨r,rfl,bQ⟩
 exact key fuel e9 aK YD
theorem count {f:S->Option (S ⊕ R)}{e9:S}{Ψ:R->Prop}(i:S->Int) (n:Int) (Inv:S->Prop) (aK:Inv e9) (aB:n - i e9<1000000000000000000)
  (aw:∀ s,Inv s->Tot (f s) (h0 (λcy=>Inv cy/\i s<i cy/\i cy<=n) Ψ)):Tot (cf f e9) Ψ:=by
 refine loop Inv (λs=>(n - i s).toNat) aK (by show (n - i e9).toNat<1000000000000000000; omega) λs bf=>(aw s bf).use λx J=>?_
 grind
end Tot
theorem l5 {n:Int}(aK:-9223372036854775808<=n) (h1:n<=9223372036854775807):aG n=n:=by
 grind [IntKind.wrap_i64]
theorem cB (n:Int):aG n=(n+9223372036854775808) % 18446744073709551616 - 9223372036854775808:=IntKind.wrap_i64 n
namespace Tot
theorem cat {Φ:ByteArray->Prop}{s u:ByteArray}(h:s.size+u.size<=4611686018427387904) (hk:Φ (s++u)):Tot (wU s u) Φ:=by
 refine ⟨s++u,?_,hk⟩
 grind [wU]
theorem cut {Φ:ByteArray->Prop}{s:ByteArray}{m n:Int}(h:0<=m/\m<=n/\n<=s.size) (hk:Φ (BG s m n)):Tot (wZ s m n) Φ:=by
 refine ⟨_,?_,hk⟩
 grind [wZ]
theorem oz {Φ:Int->Prop}{s:ByteArray}{m:Int}(h:0<=m/\m<s.size) (hk:Φ (lI s m)):Tot (ky s m) Φ:=by
 refine ⟨_,?_,hk⟩
 grind [ky]
theorem sub {Φ:List α->Prop}{l:List α}{m n:Int}(h:0<=m/\m<=n/\n<=l.length) (hk:Φ ((l.drop m.toNat).take (n - m).toNat)):Tot (ph l m n) Φ:=by
 refine ⟨_,?_,hk⟩
 grind [ph]
theorem rem {Φ:Int->Prop}{m n:Int}(h:n≠0) (hk:Φ (m.tmod n)):Tot (rG m n) Φ:=by
 refine ⟨_,?_,hk⟩
 grind [rG]
theorem uL {Φ:Int->Prop}{m n:Int}(h:n≠0) (hk:Φ (m.tmod n)):Tot (Own.uL m n) Φ:=by
 refine ⟨_,?_,hk⟩
 grind [Own.uL]
theorem uI {Φ:Int->Prop}{m n:Int}(h:n≠0) (hk:Φ (IntKind.u64.wrap (m.tdiv n))):Tot (Own.uI m n) Φ:=by
 refine ⟨_,?_,hk⟩
 grind [Own.uI]
theorem mk {Φ:List α->Prop}{m:Int}{z:α}(h:0<=m/\m<=lim) (hk:Φ (List.replicate m.toNat z)):Tot (oP m z) Φ:=by
 refine ⟨_,?_,hk⟩
 grind [oP]
theorem eq {x:Option α}{Φ:α->Prop}{a:α}(h:Tot x Φ) (e:x=some a):Φ a:=by
 obtain ⟨b,au,qB⟩:=h
 grind
end Tot
namespace Tot
theorem scan {f:Int->Option (Int ⊕ (Unit ⊕ R))}(l:List β) (P:β->Prop) (Q:R->Prop) (ah:l.length<=100000000000000000)
  (aw:∀ (s:Int) (y:β),0<=s->s<l.length->idx l s=some y->y∈l->Tot (f s) (h0 (λcy=>cy=s+1/\P y) (h0 (λ_=>False) Q)))
  (he:∀ s:Int,¬ s<l.length->f s=some (.inr (.inl ()))):Tot (cf f 0) (h0 (λ_=>∀ y∈l,P y) Q):=by
 refine count (λs=>s) l.length (λs=>0<=s/\s<=l.length/\∀ (j:Nat) (y:β),(j:Int)<s->l[j]?=some y->P y) ⟨by omega,by omega,λj y h=>by omega⟩ (by show (l.length:Int) - 0<_; omega) λs bf=>?_;obtain ⟨aK,h1,af⟩:=bf;by_cases aN:s<l.length
 ·have pL:s.toNat<l.length:=by omega
  have hi:idx l s=some l[s.toNat]:=by simp [idx,aK,pL]
  refine (aw s _ aK aN hi (List.getElem_mem pL)).use λx J=>?_;rcases x with cy | ⟨⟨⟩⟩ | r
  ·obtain ⟨rfl,bQ⟩:=J
   grind
  ·grind
  grind
 ·rw [he s aN];refine al λy ao=>?_;obtain ⟨j,ag,rfl⟩:=List.mem_iff_getElem.1 ao;exact af j _ (by omega) (List.getElem?_eq_getElem ag)
end Tot
def Par (x:Option α) (Φ:α->Prop):Prop:=∀ a,x=some a->Φ a
namespace Par
variable {Φ Ψ:α->Prop}
theorem al {a:α}(h:Φ a):Par (some a) Φ:=λb e=>by cases e; exact h
theorem no:Par (none:Option α) Φ:=λb e=>by cases e
theorem use {x:Option α}(h:Par x Ψ) (hi:∀ a,Ψ a->Φ a):Par x Φ:=λa e=>hi a (h a e)
theorem aA {x:Option β}{f:β->Option α}{Ξ:β->Prop}(h:Par x Ξ) (hk:∀ a,Ξ a->Par (f a) Φ):Par (x.bind f) Φ:=λa e=>by
 cases x with
 | none=>cases e
 | some b=>exact hk b (h b rfl) a e
theorem go {x:Option β}{f:β->Option α}(hk:∀ a,x=some a->Par (f a) Φ):Par (x.bind f) Φ:=λa e=>by
 cases x with
 | none=>cases e
 | some b=>exact hk b rfl a e
theorem bM {c:Bool}{a b:Option α}(ar:c=true->Par a Φ) (aT:c=false->Par b Φ):Par (cond c a b) Φ:=by
 cases c
 ·exact aT rfl
 ·exact ar rfl
theorem bt {p:Prop} [Decidable p] {a b:Option α}(ar:p->Par a Φ) (aT:¬ p->Par b Φ):Par (cond (decide p) a b) Φ :=
 bM (λh=>ar (of_decide_eq_true h)) (λh=>aT (of_decide_eq_false h))
theorem pA {p:Prop} [Decidable p] {a b:Option α}(ar:¬ p->Par a Φ) (aT:p->Par b Φ):Par (cond (!decide p) a b) Φ :=
 bM (λh=>ar (of_decide_eq_false (by simpa using h))) (λh=>aT (of_decide_eq_true (by simpa using h)))
theorem ap {l m:List β}{f:List β->Option α}(hk:l.length+m.length<=lim->Par (f (l++m)) Φ):Par ((cT l m).bind f) Φ:=by
 unfold cT;split
 ·rename_i h; exact hk h
 ·exact no
theorem loop {f:S->Option (S ⊕ R)}{e9:S}{Ψ:R->Prop}(Inv:S->Prop) (aK:Inv e9) (aw:∀ s,Inv s->Par (f s) (h0 Inv Ψ)):Par (cf f e9) Ψ:=by
 have key:∀ n s,Inv s->Par (iter f n s) Ψ:=by
  intro n
  induction n with
  | zero=>intro s _ a e; cases e
  | succ n aM =>
   intro s bf a e;simp only [iter] at e;cases J:f s with
   | none=>rw [J] at e; cases e
   | some x =>
    have bQ:=aw s bf x J;rw [J] at e;cases x with
    | inl cy=>exact aM cy bQ a e
    | inr r=>cases e; exact bQ
 exact key fuel e9 aK
theorem ju {x:Option α}(h:Tot x Φ) (aJ:Par x Ψ):Tot x λa=>Φ a/\Ψ a:=by
 obtain ⟨a,aI,qB⟩:=h;exact ⟨a,aI,qB,aJ a aI⟩
theorem of {x:Option α}(h:Tot x Φ):Par x Φ:=λa e=>h.eq e
theorem scan {f:Int->Option (Int ⊕ (Unit ⊕ R))}(l:List β) (ah:l.length<=100000000000000000) (P:β->Prop) (Q:R->Prop)
  (aw:∀ (s:Int) (y:β),0<=s->s<l.length->idx l s=some y->y∈l->Par (f s) (h0 (λcy=>cy=s+1/\P y) (h0 (λ_=>False) Q)))
  (he:∀ s:Int,¬ s<l.length->f s=some (.inr (.inl ()))):Par (cf f 0) (h0 (λ_=>∀ y∈l,P y) Q):=by
 refine loop (λs=>0<=s/\s<=l.length/\∀ (j:Nat) (y:β),(j:Int)<s->l[j]?=some y->P y) ⟨by omega,by omega,λj y h=>by omega⟩ λs bf=>?_;obtain ⟨aK,h1,af⟩:=bf;by_cases aN:s<l.length
 ·have pL:s.toNat<l.length:=by omega
  have hi:idx l s=some l[s.toNat]:=by simp [idx,aK,pL]
  refine (aw s _ aK aN hi (List.getElem_mem pL)).use λx J=>?_;rcases x with cy | ⟨⟨⟩⟩ | r
  ·obtain ⟨rfl,bQ⟩:=J;refine ⟨by omega,by omega,λj y ag ao=>?_⟩;by_cases Fq:(j:Int)<s
   ·exact af j y Fq ao
   ·have:j=s.toNat:=by omega
    subst this;rw [List.getElem?_eq_getElem pL] at ao;cases ao; exact bQ
  ·exact J.elim
  ·exact J
 ·rw [he s aN];refine al λy ao=>?_;obtain ⟨j,ag,rfl⟩:=List.mem_iff_getElem.1 ao;exact af j _ (by omega) (List.getElem?_eq_getElem ag)
end Par
namespace Tot
theorem upto {f:S->Option (S ⊕ R)}{e9:S}{Ψ:R->Prop}(i:S->Int) (n:Nat) (Inv:Nat->S->Prop) (hi:i e9=0) (aB:n<=100000000000000000) (aK:Inv 0 e9)
  (aw:∀ (k:Nat) (s:S),k<=n->i s=(k:Int)->Inv k s->Tot (f s) (h0 (λcy=>k<n/\i cy=((k+1:Nat):Int)/\Inv (k+1) cy) Ψ)):Tot (cf f e9) Ψ:=by
 refine count i n (λs=>∃ k:Nat,k<=n/\i s=(k:Int)/\Inv k s) ⟨0,Nat.zero_le _,hi,aK⟩ (by rw [hi]; omega) λs ⟨k,hk,he,bf⟩=>(aw k s hk he bf).use λx J=>?_;rcases x with cy | r
 ·obtain ⟨h1,af,aD⟩:=J;exact ⟨⟨k+1,by omega,af,aD⟩,by omega,by omega⟩
 ·exact J
end Tot
namespace Par
end Par
theorem et (k:Nat) (h:k<=1000000000000000000):aG ((k:Int)+1)=((k+1:Nat):Int):=by rw [cB]; omega
end Go.Own
namespace Go.Own
open Go
variable {α β afO afP S T R Q:Type}
namespace Rel
variable {Φ Ψ:α->β->Prop}
end Rel
end Go.Own

namespace Go.Proofs
open Go Go.Own
set_option maxRecDepth 100000
theorem t187 (c:Int):Tot (DE c) λ_=>True:=by
 unfold DE
 repeat' first | apply Tot.bi | refine Tot.bM (λ_=>?_) (λ_=>?_) | exact Tot.al trivial | apply Tot.al
theorem t188 (c:Int):Tot (DF c) λ_=>True:=by
 unfold DF
 repeat' first | apply Tot.bi | refine Tot.bM (λ_=>?_) (λ_=>?_) | exact Tot.al trivial | apply Tot.al
theorem t186 (c:Int):Tot (AB c) λ_=>True:=by
 unfold AB
 repeat' first | apply Tot.bi | refine Tot.bM (λ_=>?_) (λ_=>?_) | exact Tot.al trivial | apply Tot.al
theorem t183 (x:Sym):Tot (uD x) λr=>r=true->x.Name=⟨#[]⟩/\x.Lit=false:=by
 unfold uD;apply Tot.bi;refine Tot.bt (λh=>Tot.bM (λaf=>?_) (λaf=>?_)) (λh=>?_) <;> apply Tot.al <;> apply Tot.al
 ·exact λ_=>⟨h,by simpa using af⟩
 ·exact λh=>by cases h
 ·exact λh=>by cases h
abbrev ef:Nat:=1000000000000
theorem t182 (s:ByteArray) (h:s.size<=ef):Tot (DD s 0) λn=>0<=n/\n<=s.size:=by
 unfold DD;refine Tot.aA (Ξ:=λn=>0<=n/\n<=s.size) ?_ λa aI=>.al aI;refine Tot.count (λi=>i) s.size (λi=>0<=i/\i<=s.size) ⟨by omega,by omega⟩ (by show (s.size:Int) - 0<_; simp only [ef] at h; omega) λi ⟨aK,h1⟩=>?_;simp only [ef] at h;have e:aG (0+i)=i:=by rw [cB]; omega
 rw [e];have go:∀ c:Bool,(c=true->i<s.size)->Tot (bif c then some (.inl (aG (i+1))) else some (.inr i)) (h0 (λcy:Int=>(0<=cy/\cy<=s.size)/\i<cy/\cy<=s.size) (λr:Int=>0<=r/\r<=s.size)):=by
  intro c aa;refine Tot.bM (λaf=>.al ?_) (λ_=>.al ⟨aK,h1⟩);have:=aa af;have e:aG (i+1)=i+1:=by rw [cB]; omega
  show (0<=aG (i+1)/\aG (i+1)<=s.size)/\i<aG (i+1)/\aG (i+1)<=s.size;rw [e]; omega
 apply Tot.bi;refine Tot.bt (λaf=>?_) (λaf=>.al (go false (by simp)));apply Tot.bi;refine Tot.oz ⟨aK,af⟩ (Tot.aA (t187 _) λc _=>?_);refine Tot.bM (λ_=>.al (go _ λ_=>af)) (λ_=>Tot.bM (λ_=>?_) (λ_=>.al (go _ λ_=>af)));apply Tot.bi;refine Tot.oz ⟨aK,af⟩ (Tot.aA (t188 _) λc _=>?_);refine Tot.bM (λ_=>.al (go _ λ_=>af)) (λ_=>?_);apply Tot.bi;exact Tot.oz ⟨aK,af⟩ (.al (go _ λ_=>af))
theorem t173 (s:ByteArray) (h:s.size<=ef):Tot (vY s) λr=>r=true->1<=s.size/\s.size<=20:=by
 unfold vY;apply Tot.bi;refine Tot.bt (λh1=>Tot.bt (λaf=>?_) (λaf=>?_)) (λh1=>?_)
 ·exact .aA (t182 s h) λn aB=>.al (.al λ_=>by omega)
 ·exact .al (.al λh=>by cases h)
 ·exact .al (.al λh=>by cases h)
theorem t190 (s:ByteArray) (i:Int) (t:ByteArray) (h:s.size<=ef) (aK:0<=i) (h1:i<=4 * ef) (ar:t.size<=ef):Tot (yd s i t) λr=>r=true->i+t.size<=s.size:=by
 unfold yd;simp only [ef] at *;apply Tot.bi;refine Tot.bt (λaf=>?_) (λaf=>.al (.al λh=>by cases h));apply Tot.bi;rw [cB] at af;have e:aG (i+t.size)=i+t.size:=by rw [cB]; omega
 refine Tot.cut (by rw [e]; omega) (.al (.al λ_=>by omega))
theorem t189 (s:ByteArray) (i:Int) (h:s.size<=ef) (aK:0<=i) (h1:i<s.size):Tot (DG s i) λr=>r<=s.size:=by
 unfold DG;have au:(s.size:Int)<=1000000000000:=by simp only [ef] at h; omega
 have b9:aG (i+1)=i+1:=by rw [cB]; omega
 have b3:aG (i+2)=i+2:=by rw [cB]; omega
 rw [b9,b3];have xh:=Tot.oz (Φ:=λ_=>True) (s:=s) (m:=i) ⟨aK,h1⟩ trivial;refine Tot.aA (Ξ:=λ_=>True) ?_ λc _=>Tot.bM (λ_=>?_) (λ_=>?_)
 ·refine Tot.aA xh λ_ _=>Tot.bM (λ_=>.al trivial) (λ_=>Tot.aA xh λ_ _=>.al trivial)
 ·refine Tot.aA (Ξ:=h0 (λ_=>True) (λr=>r<=s.size)) ?_ λx J=>?_
  ·refine Tot.count (λj=>j) (s.size+1) (λj=>0<=j) (by show (0:Int)<=i+1; omega) (by show (s.size:Int)+1 - (i+1)<_; omega) λj ag=>?_;refine Tot.aA (Ξ:=λc=>c=true->j<s.size) ?_ λc aa=>Tot.bM (λaf=>?_) (λ_=>.al trivial)
   ·refine Tot.bt (λaf=>?_) (λ_=>.al λh=>by cases h);exact .aA (Ξ:=λ_=>True) (Tot.oz ⟨ag,af⟩ trivial) λ_ _=>.al λ_=>af
   ·have Xo:=aa af;have xf:=Tot.oz (Φ:=λ_=>True) (s:=s) (m:=j) ⟨ag,Xo⟩ trivial;have eP:aG (j+1)=j+1:=by rw [cB]; omega
    have lj:aG (j+1+1)=j+1+1:=by rw [cB]; omega
    rw [eP,lj];refine .aA xf λ_ _=>.aA xh λ_ _=>Tot.bM (λ_=>.al ?_) (λ_=>.aA xf λ_ _=>Tot.bM (λ_=>?_) (λ_=>.al ?_))
    ·show j+1<=s.size; omega
    ·refine Tot.aA (Ξ:=λ_=>True) ?_ λc _=>Tot.bM (λ_=>.al ?_) (λ_=>.al ?_)
     ·refine Tot.bt (λaD=>?_) (λ_=>.al trivial);exact .aA (Ξ:=λ_=>True) (Tot.oz ⟨by omega,aD⟩ trivial) λ_ _=>.al trivial
     ·show (-1:Int)<=s.size; omega
     ·show (0:Int)<=j+1+1/\j<j+1+1/\j+1+1<=s.size+1; omega
    ·show (0:Int)<=j+1/\j<j+1/\j+1<=s.size+1; omega
  ·rcases x with _ | r
   ·exact .al (by show (-1:Int)<=s.size; omega)
   ·exact .al J
 ·refine .aA xh λ_ _=>Tot.bM (λ_=>?_) (λ_=>?_)
  ·refine Tot.aA (Ξ:=h0 (λ_=>True) (λr=>r<=s.size)) ?_ λx J=>?_
   ·refine Tot.count (λj=>j) (s.size+1) (λj=>0<=j) (by show (0:Int)<=i+1; omega) (by show (s.size:Int)+1 - (i+1)<_; omega) λj ag=>?_;refine Tot.bt (λaf=>?_) (λ_=>.al trivial);have eP:aG (j+1)=j+1:=by rw [cB]; omega
    rw [eP];refine .aA (Ξ:=λ_=>True) (Tot.oz ⟨ag,af⟩ trivial) λ_ _=>Tot.bM (λ_=>.al ?_) (λ_=>.al ?_)
    ·show j+1<=s.size; omega
    ·show (0:Int)<=j+1/\j<j+1/\j+1<=s.size+1; omega
   ·rcases x with _ | r
    ·exact .al (by show (-1:Int)<=s.size; omega)
    ·exact .al J
  ·refine .aA (t190 s i _ h aK (by simp only [ef]; omega) (by decide)) λc _=>Tot.bM (λ_=>?_) (λ_=>?_)
   ·refine Tot.aA (Ξ:=λr=>r<=s.size) ?_ λx J=>.al J;refine Tot.count (λj=>j) s.size (λj=>0<=j/\j<=s.size) ⟨aK,by omega⟩ (by show (s.size:Int) - i<_; omega) λj ag=>?_;refine Tot.aA (Ξ:=λc=>c=true->j<s.size) ?_ λc aa=>Tot.bM (λaf=>?_) (λ_=>.al ag.2)
    ·refine Tot.bt (λaf=>?_) (λ_=>.al λh=>by cases h);exact .aA (Ξ:=λ_=>True) (Tot.oz ⟨ag.1,af⟩ trivial) λ_ _=>.al λ_=>af
    ·have:=aa af;have eP:aG (j+1)=j+1:=by rw [cB]; omega
     rw [eP];exact .al (by show ((0:Int)<=j+1/\j+1<=s.size)/\j<j+1/\j+1<=s.size; omega)
   ·refine .aA (t190 s i _ h aK (by simp only [ef]; omega) (by decide)) λc aa=>Tot.bM (λkl=>?_) (λ_=>.al (by omega));refine Tot.aA (Ξ:=h0 (λ_=>True) (λr=>r<=s.size)) ?_ λx J=>?_
    ·refine Tot.count (λj=>j) (s.size+1) (λj=>0<=j) (by show (0:Int)<=i+2; omega) (by show (s.size:Int)+1 - (i+2)<_; omega) λj ag=>?_;refine Tot.bt (λaf=>?_) (λ_=>.al trivial);have eP:aG (j+1)=j+1:=by rw [cB]; omega
     have lj:aG (j+2)=j+2:=by rw [cB]; omega
     rw [eP,lj];refine .aA (t190 s j _ h ag (by simp only [ef]; omega) (by decide)) λc aa=>Tot.bM (λqq=>.al ?_) (λ_=>.al ?_)
     ·have:=aa qq;have tR:(⟨#[42,47]⟩:ByteArray).size=2:=rfl;rw [tR] at this;show j+2<=s.size; omega
     ·show (0:Int)<=j+1/\j<j+1/\j+1<=s.size+1; omega
    ·rcases x with _ | r
     ·exact .al (by show (-1:Int)<=s.size; omega)
     ·exact .al J
theorem t184 (s:ByteArray) (h:s.size<=ef):Tot (AA s 0) λ_=>True:=by
 unfold AA;have au:(s.size:Int)<=1000000000000:=by simp only [ef] at h; omega
 refine Tot.aA (Ξ:=λ_=>True) ?_ λc _=>Tot.bM (λ_=>.al trivial) (λ_=>?_)
 ·refine Tot.bt (λh=>.al trivial) (λaK=>Tot.bt (λh=>.al trivial) (λaf=>?_));exact .aA (Ξ:=λ_=>True) (Tot.oz (by omega) trivial) λ_ _=>.al trivial
 ·refine Tot.aA (Ξ:=λ_=>True) ?_ λx _=>by rcases x with _ | r <;> exact .al trivial
  refine Tot.count (λj=>j.2) s.size (λj=>0<=j.2/\j.2<=s.size) ⟨by show (0:Int)<=0; omega,by show (0:Int)<=s.size; omega⟩ (by show (s.size:Int) - 0<_; omega) λj ag=>?_;refine Tot.bt (λaf=>?_) (λ_=>.al trivial);refine .aA (t189 s j.2 h ag.1 af) λn aB=>Tot.bt (λ_=>.al trivial) (λaD=>Tot.bt (λbm=>.al ?_) (λbm=>?_))
  ·show ((0:Int)<=n/\n<=s.size)/\j.2<n/\n<=s.size; omega
  ·have xh:=Tot.oz (Φ:=λ_=>True) (s:=s) (m:=j.2) ⟨ag.1,af⟩ trivial;have eP:aG (j.2+1)=j.2+1:=by rw [cB]; omega
   rw [eP];refine .aA xh λ_ _=>.aA (Ξ:=λ_=>True) (Tot.bM (λ_=>.al trivial) (λ_=>.al trivial)) λ_ _=>.aA xh λ_ _=>.aA (Ξ:=λ_=>True) (Tot.bM (λ_=>.al trivial) (λ_=>.al trivial)) λ_ _=>Tot.bM (λ_=>.al trivial) (λ_=>.al ?_);show ((0:Int)<=j.2+1/\j.2+1<=s.size)/\j.2<j.2+1/\j.2+1<=s.size; omega
def l9 (x:Sym):Prop:=x.Lit=true->x.Name.size=1
structure L8 (d:Decl):Prop where
 tag:d.Tag.size<=ef
 n:d.fa.length<=1000
 syms:∀ x∈d.fa,x.Name.size<=ef
structure A7 (a:Alt):Prop where
 n:a.Parts.length<=1000
 parts:∀ p∈a.Parts,p.Sym.Name.size<=ef/\p.Code.size<=ef
 prec:a.Prec.Name.size<=ef
structure Sq (r:fI):Prop where
 left:r.Left.size<=ef
 n:r.gg.length<=1000
 alts:∀ a∈r.gg,A7 a
structure u4 (s:Source):Prop where
 ZV:s.hf.size<=ef
 qh:s.Decls.length<=1000
 decls:∀ d∈s.Decls,L8 d
 aF:s.eM.length<=1000
 rules:∀ r∈s.eM,Sq r
theorem t181 (x:Sym) (a b:Bool) (h:x.Name.size<=ef):Tot (uC x a b) λr=>r=true->l9 x:=by
 unfold uC;refine Tot.bM (λah=>?_) (λah=>?_)
 ·refine Tot.aA (Ξ:=λc=>c=false->x.Name.size=1) ?_ λc aa=>Tot.bM (λ_=>.al λh=>by cases h) (λaf=>?_)
  ·refine Tot.bM (λ_=>.al λh=>by cases h) (λ_=>Tot.pA (λ_=>.al λh=>by cases h) (λh1=>.al λ_=>by omega))
  ·have h1:=aa af;refine .aA (Ξ:=λ_=>True) (Tot.oz (by omega) trivial) λ_ _=>.aA (t186 _) λ_ _=>.al λ_ _=>h1
 ·have c7:l9 x:=λh=>by rw [ah] at h; cases h
  refine Tot.aA (Ξ:=λ_=>True) ?_ λc aa=>.al λ_=>c7;refine .aA (t173 _ h) λc _=>?_
  repeat' first | refine Tot.bM (λ_=>?_) (λ_=>?_) | exact Tot.al trivial
theorem t172 (d:Decl) (h:L8 d):Tot (ya d) λr=>r=true->∀ x∈d.fa,l9 x:=by
 unfold ya;refine Tot.aA (Ξ:=λ_=>True) ?_ λc _=>Tot.bM (λ_=>.al λh=>by cases h) (λ_=>?_)
 ·have ar:=(t173 _ h.tag).use (Φ:=λ_=>True) λ_ _=>trivial
  repeat' first | refine Tot.bM (λ_=>?_) (λ_=>?_) | exact Tot.al trivial | refine .aA ar λ_ _=>?_
 ·refine Tot.aA (Tot.scan d.fa (λx=>l9 x) (λr=>r=false) (by have:=h.n; omega) (λs y aK h1 hi hm=>?_) (λs aw=>by simp [aw])) λx J=>?_
  ·refine Tot.bt (λ_=>?_) (λh=>absurd h1 h);rw [hi];refine Tot.aV ?_;refine .aA (t181 _ _ _ (h.syms _ hm)) λc aa=>Tot.bM (λ_=>.al rfl) (λaf=>.al ⟨?_,aa (by simpa using af)⟩);have:=h.n;rw [cB]; omega
  ·rcases x with _ | r
   ·exact .al λ_=>J
   ·exact .al λh=>by have:r=false:=J; rw [this] at h; cases h
theorem t174 (a:Alt) (h:A7 a):Tot (yb a) λr=>r=true->(∀ p∈a.Parts,l9 p.Sym)/\l9 a.Prec:=by
 unfold yb;refine Tot.aA (Tot.scan a.Parts (λp=>l9 p.Sym) (λr=>r=false) (by have:=h.n; omega) (λs y aK h1 hi hm=>?_) (λs aw=>by simp [aw])) λx J=>?_
 ·refine Tot.bt (λ_=>?_) (λh=>absurd h1 h);rw [hi];refine Tot.aV ?_;have aq:=h.parts _ hm;have t1:=t181 y.Sym false true aq.1;have t2:=t183 y.Sym;have Rm:=t184 y.Code aq.2;have hw:aG (s+1)=s+1:=by have:=h.n; rw [cB]; omega
  rw [hw];have n118:(y.Sym.Name=⟨#[]⟩/\y.Sym.Lit=false)->l9 y.Sym:=λh ah=>by rw [h.2] at ah; cases ah
  refine Tot.aA (Ξ:=λc=>c=false->l9 y.Sym) ?_ λc aa=>Tot.bM (λ_=>.al rfl) (λaf=>.al ⟨rfl,aa af⟩);refine Tot.bt (λ_=>?_) (λcO=>?_)
  ·refine .aA t1 λc aa=>Tot.bM (λ_=>.al λh=>by cases h) (λaf=>?_);have c7:=aa (by simpa using af);refine Tot.bM (λ_=>?_) (λ_=>.al λ_=>c7);refine .aA t2 λc _=>Tot.bM (λ_=>.al λ_=>c7) (λ_=>?_);exact .aA Rm λ_ _=>.al λ_=>c7
  ·refine Tot.pA (λ_=>?_) (λh=>.al λ_=>?_)
   ·refine .aA t2 λc aa=>Tot.bM (λ_=>.al λh=>by cases h) (λaf=>?_);have c7:=n118 (aa (by simpa using af));exact .aA Rm λ_ _=>.al λ_=>c7
   ·exact absurd h cO
 ·rcases x with _ | r
  ·have J:∀ p∈a.Parts,l9 p.Sym:=J;refine Tot.aA (Ξ:=λc=>c=true->l9 a.Prec) ?_ λc aa=>.al λh=>⟨J,aa h⟩;refine .aA (t183 _) λc aa=>Tot.bM (λaf=>.al λ_=>?_) (λ_=>.aA (t181 _ _ _ h.prec) λc aa=>.al aa);intro ah; rw [(aa af).2] at ah; cases ah
  ·exact .al λh=>by have:r=false:=J; rw [this] at h; cases h
structure Ex (a:Alt):Prop where
 parts:∀ p∈a.Parts,l9 p.Sym
 prec:l9 a.Prec
structure Mn (s:Source):Prop where
 decls:∀ d∈s.Decls,∀ x∈d.fa,l9 x
 rules:∀ r∈s.eM,∀ a∈r.gg,Ex a
 pos:0<s.eM.length
theorem t146 (s:Source) (h:u4 s):Tot (x9 s) λr=>r=true->Mn s:=by
 unfold x9;refine Tot.aA (Ξ:=h0 (λ_=>True) (λr=>r=false)) ?_ λx J=>?_
 ·have aq:(s.hf.size:Int)<=1000000000000:=by have:=h.ZV; simp only [ef] at this; omega
  refine Tot.count (λj=>j) s.hf.size (λj=>0<=j/\j<=s.hf.size) ⟨by omega,by omega⟩ (by show (s.hf.size:Int) - 0<_; omega) λj ag=>?_;have b9:aG (j+1)=j+1:=by rw [cB]; omega
  have b3:aG (j+2)=j+2:=by rw [cB]; omega
  rw [b9,b3];refine Tot.bt (λaf=>?_) (λ_=>.al trivial);refine .aA (Ξ:=λ_=>True) (Tot.cut (by omega) trivial) λ_ _=>Tot.bM (λ_=>.al rfl) (λ_=>.al ?_);show ((0:Int)<=j+1/\j+1<=s.hf.size)/\j<j+1/\j+1<=s.hf.size; omega
 ·rcases x with _ | r
  ·refine Tot.aA (Tot.scan s.Decls (λd=>∀ x∈d.fa,l9 x) (λr=>r=false) (by have:=h.qh; omega) (λi y aK h1 hi hm=>?_) (λs aw=>by simp [aw])) λx J=>?_
   ·refine Tot.bt (λ_=>?_) (λh=>absurd h1 h);rw [hi];refine Tot.aV ?_;refine .aA (t172 _ (h.decls _ hm)) λc aa=>Tot.bM (λ_=>.al rfl) (λaf=>.al ⟨?_,aa (by simpa using af)⟩);have:=h.qh;rw [cB]; omega
   ·rcases x with _ | r
    ·have J:∀ d∈s.Decls,∀ x∈d.fa,l9 x:=J;refine Tot.aA (Tot.scan s.eM (λr=>∀ a∈r.gg,Ex a) (λr=>r=false) (by have:=h.aF; omega) (λi y aK h1 hi hm=>?_) (λs aw=>by simp [aw])) λx gF=>?_
     ·refine Tot.bt (λ_=>?_) (λh=>absurd h1 h);rw [hi];refine Tot.aV ?_;have hr:=h.rules _ hm;have hw:aG (i+1)=i+1:=by have:=h.aF; rw [cB]; omega
      rw [hw];refine .aA (Ξ:=λ_=>True) (.aA (t173 _ hr.left) λc _=>Tot.bM (λ_=>.al trivial) (λ_=>.al trivial)) λc _=>Tot.bM (λ_=>.al rfl) (λ_=>?_);refine Tot.aA (Tot.scan y.gg Ex (λr=>r=false) (by have:=hr.n; omega) (λk a aK h1 hi hm=>?_) (λs aw=>by simp [aw])) λx hb=>?_
      ·refine Tot.bt (λ_=>?_) (λh=>absurd h1 h);rw [hi];refine Tot.aV ?_;refine .aA (t174 _ (hr.alts _ hm)) λc aa=>Tot.bM (λ_=>.al rfl) (λaf=>.al ⟨?_,⟨(aa (by simpa using af)).1,(aa (by simpa using af)).2⟩⟩);have:=hr.n;rw [cB]; omega
      ·rcases x with _ | r
       ·exact .al ⟨rfl,hb⟩
       ·exact .al hb
     ·rcases x with _ | r
      ·exact .al λh=>⟨J,gF,by have:=of_decide_eq_true h; omega⟩
      ·exact .al λh=>by have:r=false:=gF; rw [this] at h; cases h
    ·exact .al λh=>by have:r=false:=J; rw [this] at h; cases h
  ·exact .al λh=>by have:r=false:=J; rw [this] at h; cases h
abbrev e':=dc
structure rX (m m':e'):Prop where
 g:m'.ba=m.ba
 gm:m'.d'=m.d'
 ty:m'.fw=m.fw
 hD:m'.dw=m.dw
 jr:m'.fb=m.fb
 hl:m'.dd=m.dd
theorem t148 (m:e') (a:Int) (n:ByteArray):Tot (ob m a n) λm'=>rX m m'/\m'.eG≠0:=by
 unfold ob;apply Tot.bi;refine Tot.bt (λ_=>.al (.al ⟨⟨rfl,rfl,rfl,rfl,rfl,rfl⟩,?_⟩)) (λh=>.al (.al ⟨⟨rfl,rfl,rfl,rfl,rfl,rfl⟩,h⟩))
 grind
theorem t152 (m:e') (n:ByteArray) (h:m.fw.length<=ef):Tot (Av m n) λr=>r=-1\/(0<=r/\r<m.fw.length):=by
 unfold Av;simp only [ef] at h;refine Tot.aA (Tot.scan m.fw (λ_=>True) (λr:Int=>0<=r/\r<m.fw.length) (by omega) (λs y aK h1 hi hm=>?_) (λs aw=>by simp [aw])) λx J=>?_
 ·refine Tot.bt (λ_=>?_) (λh=>absurd h1 h);rw [hi];refine Tot.aV ?_;refine Tot.bM (λ_=>.al ⟨aK,h1⟩) (λ_=>.al ⟨?_,trivial⟩)
  grind [cB]
 ·rcases x with _ | r
  ·exact .al (.inl rfl)
  ·exact .al (.inr J)
theorem t150 (m:e') (n:ByteArray) (h:m.dw.length<=ef):Tot (th m n) λr=>(r=-1/\∀ x∈m.dw,x≠n)\/(0<=r/\r<m.dw.length/\m.dw[r.toNat]?=some n):=by
 unfold th;simp only [ef] at h;refine Tot.aA (Tot.scan m.dw (λx=>x≠n) (λr:Int=>0<=r/\r<m.dw.length/\m.dw[r.toNat]?=some n) (by omega) (λs y aK h1 hi hm=>?_) (λs aw=>by simp [aw])) λx J=>?_
 ·refine Tot.bt (λ_=>?_) (λh=>absurd h1 h);rw [hi];refine Tot.aV ?_;refine Tot.bt (λe=>.al ⟨aK,h1,by rw [<- e]; exact (mi hi).2.2⟩) (λe=>.al ⟨?_,e⟩)
  grind [cB]
 ·rcases x with _ | r
  ·exact .al (.inl ⟨rfl,J⟩)
  ·exact .al (.inr J)
theorem t149 (m:e') (x:Sym) (h:m.ba.br.length<=ef):Tot (uB m x) λr=>r=-1\/(1<=r/\r<m.ba.br.length):=by
 unfold uB;simp only [ef] at h;refine Tot.aA (Ξ:=h0 (λ_=>True) (λr=>1<=r/\r<m.ba.br.length)) ?_ λx J=>?_
 ·refine Tot.count (λj=>j) m.ba.br.length (λj=>1<=j) (by omega) (by show (m.ba.br.length:Int) - 1<_; omega) λj ag=>?_;refine Tot.bt (λaf=>?_) (λ_=>.al trivial);have e:aG (j+1)=j+1:=by rw [cB]; omega
  rw [e];refine .aA (Ξ:=λ_=>True) ?_ λc _=>Tot.bM (λ_=>.al ⟨ag,af⟩) (λ_=>.al ?_)
  ·refine .aA (Ξ:=λ_=>True) (Tot.hn (by omega) af λ_ _ _=>trivial) λ_ _=>Tot.bM (λ_=>?_) (λ_=>.al trivial);exact .aA (Ξ:=λ_=>True) (Tot.hn (by omega) af λ_ _ _=>trivial) λ_ _=>Tot.bM (λ_=>.al trivial) (λ_=>.al trivial)
  grind
 ·rcases x with _ | r
  ·exact .al (.inl rfl)
  ·exact .al (.inr J)
theorem t176 (m:e') (n:Int) (h:m.ba.br.length<=ef):Tot (v7 m n) λ_=>True:=by
 unfold v7;simp only [ef] at h;refine Tot.aA (Ξ:=λ_=>True) ?_ λx J=>?_
 ·refine Tot.count (λj=>j) m.ba.br.length (λj=>1<=j) (by decide) (by show (m.ba.br.length:Int) - 3<_; omega) λj ag=>?_;refine Tot.bt (λaf=>?_) (λ_=>.al trivial);have e:aG (j+1)=j+1:=by rw [cB]; omega
  rw [e];refine .aA (Ξ:=λ_=>True) (Tot.hn (by omega) af λ_ _ _=>trivial) λc _=>Tot.bM (λ_=>.al trivial) (λ_=>.al ?_)
  grind
 ·rcases x with _ | r <;> exact .al trivial
structure Grow (m m':e') (k:Nat):Prop where
 gm:m'.d'.length=m'.ba.br.length
 lo:m.ba.br.length<=m'.ba.br.length
 hi:m'.ba.br.length<=m.ba.br.length+k
 ty:m'.fw.length<=m.fw.length+k
 hD:m'.dw=m.dw
 gx:m'.ba.bx=m.ba.bx
 hl:m'.dd=m.dd
 lvl:m'.fb=m.fb
 jr:0<=m.fb->(∀ t∈m.ba.br,0<=t.Level)->∀ t∈m'.ba.br,0<=t.Level
theorem rX.grow {m m':e'}(h:rX m m') (aP:m.d'.length=m.ba.br.length) (k:Nat):Grow m m' k:=by
 obtain ⟨h1,af,aD,bm,b7,dp⟩:=h;exact ⟨by rw [h1,af]; exact aP,by rw [h1]; omega,by rw [h1]; omega,by rw [aD]; omega,bm,by rw [h1],dp,b7,by rw [h1]; exact λ_ h=>h⟩
theorem t175 (m:e') (x:Sym) (aP:m.d'.length=m.ba.br.length) (h:m.ba.br.length<=100000000000) (J:l9 x) :
  Tot (vZ m x) λr=>(Grow m r.2 1/\0<=r.1/\r.1<r.2.ba.br.length)/\(r.2.eG=0->m.eG=0)/\(1<=m.ba.br.length->1<=r.1):=by
 unfold vZ;refine .aA (t149 m x (by simp only [ef]; omega)) λt ar=>Tot.bt (λaK=>.al ⟨⟨⟨aP,Nat.le_refl _,Nat.le_succ _,Nat.le_succ _,rfl,rfl,rfl,rfl,λ_ h=>h⟩,aK,?_⟩,id,λ_=>by show 1<=t; omega⟩) (λ_=>?_)
 ·grind
 ·refine Tot.aA (Ξ:=λj=>rX m j.1/\(j.1.eG=0->m.eG=0)) ?_ λj ag=>?_
  ·refine Tot.bM (λah=>?_) (λ_=>.al ⟨⟨rfl,rfl,rfl,rfl,rfl,rfl⟩,id⟩);have:=J ah;refine .aA (Ξ:=λ_=>True) (Tot.oz (by omega) trivial) λb _=>.aA (t176 m _ (by simp only [ef]; omega)) λo _=>?_;refine Tot.aA (Ξ:=λj=>rX m j/\(j.eG=0->m.eG=0)) ?_ λj ag=>.al ag;exact Tot.bM (λ_=>.aA (t148 m _ _) λm' hm=>.al ⟨hm.1,λe=>absurd e hm.2⟩) (λ_=>.al ⟨⟨rfl,rfl,rfl,rfl,rfl,rfl⟩,id⟩)
  ·obtain ⟨⟨h1,af,aD,bm,b7,dp⟩,Xg⟩:=ag;have aN:j.1.ba.br.length=m.ba.br.length:=by rw [h1]
   have Xx:j.1.d'.length=m.d'.length:=by rw [af]
   refine .aA (Ξ:=λ_=>True) (Tot.ap (by rw [aN]; simp [lim]; omega) trivial) λ_ _=>.aA (Ξ:=λ_=>True) (Tot.ap (by rw [Xx]; simp [lim]; omega) trivial) λ_ _=>.al ?_;refine ⟨⟨⟨?_,?_,?_,?_,bm,by show j.1.ba.bx=_; rw [h1],dp,b7,?_⟩,?_,?_⟩,Xg,λh1=>?_⟩
   all_goals grind [cB]
structure ov (m m':e'):Prop where
 tk:m'.ba.br.length=m.ba.br.length
 gm:m'.d'.length=m.d'.length
 ty:m'.fw=m.fw
 hD:m'.dw=m.dw
 gx:m'.ba.bx=m.ba.bx
 hl:m'.dd=m.dd
 lvl:m'.fb=m.fb
 jr:0<=m.fb->(∀ t∈m.ba.br,0<=t.Level)->∀ t∈m'.ba.br,0<=t.Level
theorem ov.refl (m:e'):ov m m:=⟨rfl,rfl,rfl,rfl,rfl,rfl,rfl,λ_ h=>h⟩
theorem ov.trans {m m' C':e'}(h:ov m m') (aJ:ov m' C'):ov m C':=⟨aJ.tk.trans h.tk,aJ.gm.trans h.gm,aJ.ty.trans h.ty,aJ.hD.trans h.hD,aJ.gx.trans h.gx,aJ.hl.trans h.hl,aJ.lvl.trans h.lvl,λaK ah=>aJ.jr (by rw [h.lvl]; exact aK) (h.jr aK ah)⟩
theorem rX.tk {m m':e'}(h:rX m m'):ov m m':=⟨by rw [h.g],by rw [h.gm],h.ty,h.hD,by rw [h.g],h.hl,h.jr,by rw [h.g]; exact λ_ h=>h⟩
theorem Grow.tk {m m' C':e'}{k:Nat}(h:Grow m m' k) (aJ:ov m' C'):Grow m C' k :=
 ⟨by rw [aJ.gm,aJ.tk]; exact h.gm,by rw [aJ.tk]; exact h.lo,by rw [aJ.tk]; exact h.hi,by rw [aJ.ty]; exact h.ty,aJ.hD.trans h.hD,aJ.gx.trans h.gx,aJ.hl.trans h.hl,aJ.lvl.trans h.lvl,λaK ah=>aJ.jr (by rw [h.lvl]; exact aK) (h.jr aK ah)⟩
theorem PJ {α:Type}{l:List α}{i:Nat}{x y:α}(h:y∈l.set i x):y∈l\/y=x:=List.mem_or_eq_of_mem_set h
theorem t147 (m:e') (d:Decl) (x:Sym) (aP:m.d'.length=m.ba.br.length) (h:m.ba.br.length<=100000000000) (ar:m.fw.length<=100000000000) (J:l9 x) :
  Tot (vW m d x) λm'=>Grow m m' 1:=by
 unfold vW;refine Tot.bM (λ_=>?_) (λ_=>?_)
 ·refine .aA (t152 m x.Name (by simp only [ef]; omega)) λk hk=>Tot.aA (Ξ:=λm'=>Grow m m' 1) ?_ λm' hm=>.al hm;refine Tot.bt (λ_=>?_) (λaK=>?_)
  ·refine .bK<|.al ⟨aP,Nat.le_refl _,Nat.le_succ _,?_,rfl,rfl,rfl,rfl,λ_ h=>h⟩
   grind
  ·refine .aA (Ξ:=λ_=>True) (Tot.hn (by omega) (by omega) λ_ _ _=>trivial) λ_ _=>Tot.aA (Ξ:=λm'=>Grow m m' 1) ?_ λm' hm=>.al hm;exact Tot.bM (λ_=>.aA (t148 m _ _) λm' hm=>.al (hm.1.grow aP 1)) (λ_=>.al ⟨aP,Nat.le_refl _,Nat.le_succ _,Nat.le_succ _,rfl,rfl,rfl,rfl,λ_ h=>h⟩)
 ·refine .aA (t175 m x aP h J) λr ⟨⟨hr,aK,h1⟩,_⟩=>?_;have hn:∀ {m':e'},ov r.2 m'->Tot (idx m'.ba.br r.1) λy=>y∈m'.ba.br:=λhm=>Tot.hn aK (by rw [hm.tk]; exact h1) λ_ _ h=>h;have Pt:∀ {m':e'},ov r.2 m'->Tot (idx m'.d' r.1) λ_=>True:=λhm=>Tot.hn aK (by rw [hm.gm,hr.gm]; exact h1) λ_ _ _=>trivial;refine .aA (hn (.refl _)) λy _=>?_;refine Tot.aA (Ξ:=λm'=>ov r.2 m') ?_ λgX pD=>?_
  ·refine Tot.bM (λ_=>?_) (λ_=>.al (.refl _));refine Tot.aA (Ξ:=λm'=>ov r.2 m') ?_ λfU w4=>?_
   ·exact Tot.bM (λ_=>.aA (t148 r.2 _ _) λm' hm=>.al ⟨rfl,hm.1.tk.gm,hm.1.tk.ty,hm.1.tk.hD,hm.1.tk.gx,hm.1.tk.hl,hm.1.tk.lvl,λ_ h=>h⟩) (λ_=>.al (.refl _))
   ·refine .aA (hn w4) λ_ _=>.al (w4.trans ⟨?_,rfl,rfl,rfl,rfl,rfl,rfl,λah ar t bP=>?_⟩)
    ·grind
    grind
  ·refine .aA (hn pD) λ_ _=>?_;refine Tot.aA (Ξ:=λm'=>ov r.2 m') ?_ λiI vj=>?_
   ·refine Tot.bM (λ_=>?_) (λ_=>.al pD);refine .aA (Ξ:=λ_=>True) ?_ λc _=>?_
    ·refine Tot.bM (λ_=>.al trivial) (λ_=>.aA (Pt pD) λ_ _=>Tot.bM (λ_=>.al trivial) (λ_=>.aA (t176 gX _ ?_) λ_ _=>.al trivial));have:=pD.tk;have:=hr.hi
     grind
    ·refine Tot.aA (Ξ:=λm'=>ov r.2 m') ?_ λhV vk=>?_
     ·exact Tot.bM (λ_=>.aA (t148 gX _ _) λm' hm=>.al (pD.trans ⟨rfl,hm.1.tk.gm,hm.1.tk.ty,hm.1.tk.hD,hm.1.tk.gx,hm.1.tk.hl,hm.1.tk.lvl,λ_ h=>h⟩)) (λ_=>.al pD)
     ·refine .aA (hn vk) λy ao=>.aA (Pt vk) λ_ _=>.al (vk.trans ⟨?_,?_,rfl,rfl,rfl,rfl,rfl,λah ar t bP=>?_⟩)
      all_goals grind
   ·refine .aA (hn vj) λ_ _=>?_;refine Tot.aA (Ξ:=λm'=>ov r.2 m') ?_ λpS NT=>.al (hr.tk NT);refine Tot.bM (λ_=>?_) (λ_=>.al vj);refine .aA (Ξ:=λ_=>True) (Tot.bM (λ_=>.al trivial) (λ_=>.al trivial)) λc _=>?_;refine Tot.aA (Ξ:=λm'=>ov r.2 m') ?_ λnE Fe=>?_
    ·exact Tot.bM (λ_=>.aA (t148 iI _ _) λm' hm=>.al (vj.trans ⟨rfl,hm.1.tk.gm,hm.1.tk.ty,hm.1.tk.hD,hm.1.tk.gx,hm.1.tk.hl,hm.1.tk.lvl,λ_ h=>h⟩)) (λ_=>.al vj)
    ·refine .aA (hn Fe) λy ao=>.al (Fe.trans ⟨?_,rfl,rfl,rfl,rfl,rfl,rfl,λah ar t bP=>?_⟩)
     ·grind
     grind
def wH (T:Nat) (N:Int) (s:Int):Prop:=(0<=s/\s<T)\/(1000<=s/\s<=1000+N)
theorem wH.mono {T T':Nat}{N kx s:Int}(h:wH T N s) (cU:T<=T') (bp:N<=kx):wH T' kx s:=by
 rcases h with h | h
 ·exact .inl (by omega)
 ·exact .inr (by omega)
theorem t177 (m:e') (x:Sym) (aP:m.d'.length=m.ba.br.length) (aD:3<=m.ba.br.length) (h:m.ba.br.length<=100000000000) (ah:m.dw.length<=100000000000) (J:l9 x) :
  Tot (tj m x) λr=>Grow m r.2 1/\wH r.2.ba.br.length m.dw.length r.1/\(r.2.eG=0->m.eG=0/\r.1≠0):=by
 unfold tj;have sc:Grow m m 1:=⟨aP,Nat.le_refl _,Nat.le_succ _,Nat.le_succ _,rfl,rfl,rfl,rfl,λ_ h=>h⟩;refine Tot.bM (λ_=>?_) (λ_=>?_)
 ·exact .aA (t175 m x aP h J) λr ⟨⟨hr,aK,h1⟩,he,aq⟩=>.al ⟨hr,.inl ⟨aK,h1⟩,λe=>⟨he e,by have:=aq (by omega); show r.1≠0; omega⟩⟩
 ·refine .aA (t150 m x.Name (by simp only [ef]; omega)) λk hk=>Tot.bt (λaK=>.al ⟨sc,.inr ?_,λe=>⟨e,?_⟩⟩) (λ_=>?_)
  ·grind [cB]
  ·show aG (1001+k)≠0;rcases hk with hk | hk
   ·rw [cB]; omega
   ·rw [cB]; omega
  ·refine .aA (t149 m x (by simp only [ef]; omega)) λt ar=>Tot.bt (λ_=>?_) (λaK=>.al ⟨sc,.inl ?_,λe=>⟨e,by show t≠0; omega⟩⟩)
   ·refine .aA (t148 m _ _) λm' hm=>.al ⟨hm.1.grow aP 1,.inl ⟨Int.le_refl 0,?_⟩,λe=>absurd e hm.2⟩;show (0:Int)<(m'.ba.br.length:Int);rw [hm.1.g];omega
   grind
end Go.Proofs
