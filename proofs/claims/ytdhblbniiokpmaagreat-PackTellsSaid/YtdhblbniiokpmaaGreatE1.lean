/-
  Parts of the proof that the last text states. No condition of their own.
-/
import Derived.Orders
import Derived.WalkKit
namespace Go.Own
open Go
structure Place where
 root:Nat
 path:List Nat
 deriving DecidableEq,Repr
def Place.push (p:Place) (k:Nat):Place:=⟨p.root,p.path++[k]⟩
inductive ab where
 | lit (v:Value)
 | aN
 | bn (z n:Nat) (cs:List ab)
 | own (z n:Nat) (cs:List ab)
 | obj (cs:List ab)
 | agg (cs:List ab)
 | bX (cs:List ab)
 | cG (cs:List ab)
 | ptr (p:Place) (k:Nat)
 | a6 (z:Nat) (p:Place) (n:Nat)
 | sub (z:Nat) (p:Place) (lo n:Nat)
 | bM (z:Nat) (p:Place) (n m:Nat) (new:List ab)
 | cU (fn:Fn) (first caps:List ab)
 | mp (p:Array MapEntry->Nat->Prop)
 | gw (p:Place)
 | imp (p:Array MapEntry->Nat->Prop)
 | dead
 deriving Inhabited
abbrev bc:=Nat->Prop
def ab.isRef:ab->Bool
 | .ptr .. | .a6 .. | .sub .. | .gw ..=>true
 | _=>false
inductive R (w:World) (I:bc) (ρ:ab->Value->Prop):ab->Value->bc->Prop
 | lit {v:Value}{F:bc}(hv:v.oneCell'=true) (aO:∀ c,¬ F c):R w I ρ (.lit v) v F
 | aN {F:bc}(aO:∀ c,¬ F c):R w I ρ .aN (.slice none 0 0) F
 | dead {v:Value}{F:bc}(aO:∀ c,¬ F c):R w I ρ .dead v F
 | ref {x:ab}{v:Value}{F:bc}(J:x.isRef=true) (h:ρ x v) (aO:∀ c,¬ F c):R w I ρ x v F
 | hD {z cap:Nat}{a:Option Addr}{F:bc}(aO:∀ c,¬ F c):R w I ρ (.bn z 0 []) (.slice a 0 cap) F
 | bn {z n cap:Nat}{cs:List ab}{ad:Addr}{us:Nat->Value}{F:bc}(aO:∀ c,¬ F c) (la:n<=cap) (bb:I ad.block) (aA:ad.spot=none) (ai:cs.length=n * z) (h1:∀ (k:Nat) (x:ab),cs[k]?=some x->(us k).oneCell'=true)
   (aa:∀ (k:Nat) (x:ab),cs[k]?=some x->w.cell? ⟨ad.block,ad.off+k,none⟩=some (us k)) (aj:∀ (k:Nat) (x:ab),cs[k]?=some x->R w I ρ x (us k) (λ_=>False)) :
   R w I ρ (.bn z n cs) (.slice (some ad) n cap) F
 | cG {cs:List ab}{ad:Addr}{us:Nat->Value}{F:bc}(aO:∀ c,¬ F c) (bb:I ad.block) (aA:ad.spot=none) (h1:∀ (k:Nat) (x:ab),cs[k]?=some x->(us k).oneCell'=true)
   (aa:∀ (k:Nat) (x:ab),cs[k]?=some x->w.cell? ⟨ad.block,ad.off+k,none⟩=some (us k)) (aj:∀ (k:Nat) (x:ab),cs[k]?=some x->R w I ρ x (us k) (λ_=>False)) :
   R w I ρ (.cG cs) (.pointer (some ad)) F
 | own {z n:Nat}{cs:List ab}{v:Value}{e:TypeId}{us:List Value}{Fs:Nat->bc}{F:bc}
   (aY:w.ownsRow 0 e z v n us) (ai:cs.length=us.length) (h1:∀ (k:Nat) (u:Value),us[k]?=some u->u.oneCell'=true)
   (aj:∀ (k:Nat) (x:ab) (u:Value),cs[k]?=some x->us[k]?=some u->R w I ρ x u (Fs k))
   (aS:∀ (j k c:Nat),j<cs.length->k<cs.length->Fs j c->Fs k c->j=k) (au:∀ (k c:Nat),k<cs.length->Fs k c->v.ownBlock≠some c)
   (aO:∀ c,F c↔v.ownBlock=some c\/∃ k,k<cs.length/\Fs k c):R w I ρ (.own z n cs) v F
 | obj {cs:List ab}{b:Nat}{e:TypeId}{arr:Array Value}{Fs:Nat->bc}{F:bc}
   (aY:w.heap[b]?=some (.cells arr e (0,0))) (ai:cs.length=arr.size) (h1:∀ (k:Nat) (u:Value),arr[k]?=some u->u.oneCell'=true)
   (aj:∀ (k:Nat) (x:ab) (u:Value),cs[k]?=some x->arr[k]?=some u->R w I ρ x u (Fs k))
   (aS:∀ (j k c:Nat),j<cs.length->k<cs.length->Fs j c->Fs k c->j=k) (au:∀ (k:Nat),k<cs.length->¬ Fs k b)
   (aO:∀ c,F c↔c=b\/∃ k,k<cs.length/\Fs k c):R w I ρ (.obj cs) (.pointer (some ⟨b,0,none⟩)) F
 | agg {cs:List ab}{vs:Array Value}{Fs:Nat->bc}{F:bc}(ai:cs.length=vs.size) (h1:∀ (k:Nat) (u:Value),vs[k]?=some u->u.oneCell'=true)
   (aj:∀ (k:Nat) (x:ab) (u:Value),cs[k]?=some x->vs[k]?=some u->R w I ρ x u (Fs k))
   (aS:∀ (j k c:Nat),j<cs.length->k<cs.length->Fs j c->Fs k c->j=k)
   (aO:∀ c,F c↔∃ k,k<cs.length/\Fs k c):R w I ρ (.agg cs) (.agg vs) F
 | bX {cs:List ab}{vs:Array Value}{Fs:Nat->bc}{F:bc}(ai:cs.length=vs.size)
   (aj:∀ (k:Nat) (x:ab) (u:Value),cs[k]?=some x->vs[k]?=some u->R w I ρ x u (Fs k))
   (aS:∀ (j k c:Nat),j<cs.length->k<cs.length->Fs j c->Fs k c->j=k)
   (aO:∀ c,F c↔∃ k,k<cs.length/\Fs k c):R w I ρ (.bX cs) (.tuple vs) F
 | cU {fn:Fn}{first caps:List ab}{v1 v2:Array Value}{F:bc}(aO:∀ c,¬ F c) (h1:first.length=v1.size) (af:caps.length=v2.size)
   (ku:∀ (k:Nat) (x:ab) (u:Value),first[k]?=some x->v1[k]?=some u->R w I ρ x u (λ_=>False))
   (iM:∀ (k:Nat) (x:ab) (u:Value),caps[k]?=some x->v2[k]?=some u->R w I ρ x u (λ_=>False)):R w I ρ (.cU fn first caps) (.func fn v1 v2) F
 | mp {p:Array MapEntry->Nat->Prop}{b:Nat}{es:Array MapEntry}{clock:Nat}{F:bc}(aY:w.heap[b]?=some (.map es clock)) (ar:p es clock) (aO:∀ c,F c↔c=b):R w I ρ (.mp p) (.map (some b)) F
 | imp {p:Array MapEntry->Nat->Prop}{b:Nat}{es:Array MapEntry}{clock:Nat}{F:bc}(aO:∀ c,¬ F c) (bb:I b) (aY:w.heap[b]?=some (.map es clock)) (ar:p es clock):R w I ρ (.imp p) (.map (some b)) F
theorem R.zc {w:World}{I:bc}{ρ:ab->Value->Prop}{x:ab}{v:Value}{F c_:bc}(h:R w I ρ x v F) (aO:∀ c,F c↔c_ c):R w I ρ x v c_:=by
 have:F=c_:=funext λc=>propext (aO c)
 grind
theorem R.lt {w:World}{I:bc}{ρ:ab->Value->Prop}{x:ab}{v:Value}{F:bc}(h:R w I ρ x v F):∀ c,F c->c<w.heap.size:=by
 induction h with
 | lit _ aO | aN aO | dead aO | ref _ _ aO | hD aO | bn aO | cG aO | cU aO | imp aO=>exact λc aa=>absurd aa (aO c)
 | mp aY _ aO=>exact λc aa=>by rw [(aO c).1 aa]; exact (Array.getElem?_eq_some_iff.1 aY).1
 | own aY ai h1 aj aS au aO aU =>
  intro c aa;rcases (aO c).1 aa with h | ⟨k,hk,h⟩
  ·exact (aY.lt c h).2
  ·exact aU k _ _ (List.getElem?_eq_getElem hk) (List.getElem?_eq_getElem (ai ▸ hk)) c h
 | obj aY ai h1 aj aS au aO aU =>
  intro c aa;rcases (aO c).1 aa with rfl | ⟨k,hk,h⟩
  ·grind
  ·exact aU k _ _ (List.getElem?_eq_getElem hk) (Array.getElem?_eq_getElem (ai ▸ hk)) c h
 | agg ai h1 aj aS aO aU =>
  intro c aa;obtain ⟨k,hk,h⟩:=(aO c).1 aa;exact aU k _ _ (List.getElem?_eq_getElem hk) (Array.getElem?_eq_getElem (ai ▸ hk)) c h
 | bX ai aj aS aO aU =>
  intro c aa;obtain ⟨k,hk,h⟩:=(aO c).1 aa;exact aU k _ _ (List.getElem?_eq_getElem hk) (Array.getElem?_eq_getElem (ai ▸ hk)) c h
theorem vT {w w':World}{e:TypeId}{z n:Nat}{v:Value}{us:List Value}(h:w.ownsRow 0 e z v n us) (au:∀ c,v.ownBlock=some c->w'.heap[c]?=w.heap[c]?):w'.ownsRow 0 e z v n us:=by
 obtain ⟨h1,af⟩:=h;refine ⟨h1,?_⟩;rcases af with af | ⟨g,cap,cur,rfl,aP,bY,rest⟩
 ·grind
 ·exact .inr ⟨g,cap,cur,rfl,aP,by rw [au g rfl]; exact bY,rest⟩
theorem R.frame {w w':World}{I I':bc}{ρ ρ':ab->Value->Prop}{x:ab}{v:Value}{F:bc}(h:R w I ρ x v F)
  (bb:∀ c,I c->w'.heap[c]?=w.heap[c]?) (pj:∀ c,I c->I' c) (lL:∀ x v,ρ x v->ρ' x v) :
  (∀ c,F c->w'.heap[c]?=w.heap[c]?)->R w' I' ρ' x v F:=by
 induction h with
 | lit hv aO=>exact λ_=>.lit hv aO
 | aN aO=>exact λ_=>.aN aO
 | dead aO=>exact λ_=>.dead aO
 | ref J h aO=>exact λ_=>.ref J (lL _ _ h) aO
 | hD aO=>exact λ_=>.hD aO
 | bn aO la hi aA ai h1 aa aj aU =>
  exact λ_=>.bn aO la (pj _ hi) aA ai h1 (λk x hk=>(World.cell?_of_block (a:=⟨_,_,none⟩) (bb _ hi)).trans (aa k x hk)) λk x hk=>aU k x hk (λc aa=>aa.elim)
 | cG aO hi aA h1 aa aj aU =>
  exact λ_=>.cG aO (pj _ hi) aA h1 (λk x hk=>(World.cell?_of_block (a:=⟨_,_,none⟩) (bb _ hi)).trans (aa k x hk)) λk x hk=>aU k x hk (λc aa=>aa.elim)
 | own aY ai h1 aj aS au aO aU =>
  intro aW;refine .own (vT aY λc aa=>aW c ((aO c).2 (.inl aa))) ai h1 (λk x u J hu=>aU k x u J hu λc aa=>aW c ((aO c).2 (.inr ⟨k,?_,aa⟩))) aS au aO
  grind
 | obj aY ai h1 aj aS au aO aU =>
  intro aW;refine .obj ((aW _ ((aO _).2 (.inl rfl))).trans aY) ai h1 (λk x u J hu=>aU k x u J hu λc aa=>aW c ((aO c).2 (.inr ⟨k,?_,aa⟩))) aS au aO
  grind
 | agg ai h1 aj aS aO aU =>
  intro aW;refine .agg ai h1 (λk x u J hu=>aU k x u J hu λc aa=>aW c ((aO c).2 ⟨k,?_,aa⟩)) aS aO
  grind
 | bX ai aj aS aO aU =>
  intro aW;refine .bX ai (λk x u J hu=>aU k x u J hu λc aa=>aW c ((aO c).2 ⟨k,?_,aa⟩)) aS aO
  grind
 | imp aO hi aY ar=>exact λ_=>.imp aO (pj _ hi) ((bb _ hi).trans aY) ar
 | mp aY ar aO=>exact λaW=>.mp ((aW _ ((aO _).2 rfl)).trans aY) ar aO
 | cU aO h1 af ku iM gv gh=>exact λ_=>.cU aO h1 af (λk x u J hu=>gv k x u J hu λc aa=>aa.elim) (λk x u J hu=>gh k x u J hu λc aa=>aa.elim)
def ab.kids:ab->List ab
 | .own _ _ cs=>cs
 | .obj cs=>cs
 | .agg cs=>cs
 | .bX cs=>cs
 | _=>[]
def ab.wk (x:ab) (k:Nat) (y:ab):ab :=
 match x with
 | .own z n cs=>.own z n (cs.set k y)
 | .obj cs=>.obj (cs.set k y)
 | .agg cs=>.agg (cs.set k y)
 | .bX cs=>.bX (cs.set k y)
 | x=>x
def ab.at:ab->List Nat->Option ab
 | x,[]=>some x
 | x,k::p =>
  match x.kids[k]? with
  | some c=>c.at p
  | none=>none
def ab.setAt:ab->List Nat->ab->ab
 | _,[],y=>y
 | x,k::p,y =>
  match x.kids[k]? with
  | some c=>x.wk k (c.setAt p y)
  | none=>x
def child (w:World) (v:Value) (k:Nat):Option Value :=
 match v with
 | .agg cs=>cs[k]?
 | .tuple cs=>cs[k]?
 | .slice (some a) _ _=>w.cell? ⟨a.block,a.off+k,none⟩
 | .pointer (some a)=>w.cell? ⟨a.block,a.off+k,none⟩
 | _=>none
def walk (w:World):Value->List Nat->Option Value
 | v,[]=>some v
 | v,k::p =>
  match child w v k with
  | some u=>walk w u p
  | none=>none
theorem pL {w:World}{e:TypeId}{z n:Nat}{v:Value}{us:List Value}(h:w.ownsRow 0 e z v n us) {k:Nat}{u:Value}(hu:us[k]?=some u):child w v k=some u:=by
 obtain ⟨h1,af⟩:=h;rcases af with ⟨rfl,rfl⟩ | ⟨g,cap,cur,rfl,aP,bY,aE,aa,aA,aw⟩
 ·grind
 ·rw [<- aw] at hu;rw [List.getElem?_take] at hu
  split at hu
  ·simpa [child,World.cell?,bY] using hu
  grind
theorem Y3 {α:Type}{l:List α}{k j:Nat}{y x:α}(h:(l.set k y)[j]?=some x):(j=k/\x=y/\k<l.length)\/(j≠k/\l[j]?=some x):=by
 grind
structure Out (w w':World) (I I':bc) (ρ ρ':ab->Value->Prop) (F cw:bc):Prop where
 bn:∀ c,I c->w'.heap[c]?=w.heap[c]?
 rest:∀ c,F c->¬ cw c->w'.heap[c]?=w.heap[c]?
 more:∀ c,I c->I' c
 ref:∀ x v,ρ x v->ρ' x v
theorem Out.mono {w w':World}{I I':bc}{ρ ρ':ab->Value->Prop}{F cw c_ jh:bc}(h:Out w w' I I' ρ ρ' F cw) (h1:∀ c,c_ c->F c) (af:∀ c,c_ c->¬ jh c->¬ cw c):Out w w' I I' ρ ρ' c_ jh :=
 ⟨h.bn,λc aa aE=>h.rest c (h1 c aa) (af c aa aE),h.more,h.ref⟩
theorem R.outside {w w':World}{I I':bc}{ρ ρ':ab->Value->Prop}{F cw:bc}(o:Out w w' I I' ρ ρ' F cw) {x:ab}{v:Value}{G:bc}(h:R w I ρ x v G) (c9:∀ c,G c->F c/\¬ cw c):R w' I' ρ' x v G :=
 h.frame o.bn o.more o.ref λc aa=>o.rest c (c9 c aa).1 (c9 c aa).2
theorem Fg {w w':World}{I I':bc}{ρ ρ':ab->Value->Prop}{cs:List ab}{get:Nat->Option Value}{Fs:Nat->bc}{F cw:bc}
  (aj:∀ (k:Nat) (x:ab) (u:Value),cs[k]?=some x->get k=some u->R w I ρ x u (Fs k))
  (aS:∀ (j k c:Nat),j<cs.length->k<cs.length->Fs j c->Fs k c->j=k)
  (aO:∀ k c,k<cs.length->Fs k c->F c) {k:Nat}(hk:k<cs.length) (av:∀ c,cw c->Fs k c) (o:Out w w' I I' ρ ρ' F cw)
  {y:ab}{u:Value}{bL:bc}(hu:get k=some u) (a1:R w' I' ρ' y u bL) (fT:∀ c,bL c↔(Fs k c/\¬ cw c)\/(bL c/\¬ (F c/\¬ cw c))) :
  (∀ (j:Nat) (x:ab) (u:Value),(cs.set k y)[j]?=some x->get j=some u->R w' I' ρ' x u (if j=k then bL else Fs j)) /\
  (∀ (i j c:Nat),i<(cs.set k y).length->j<(cs.set k y).length->(if i=k then bL else Fs i) c->(if j=k then bL else Fs j) c->i=j):=by
 constructor
 ·intro j x wo J jH;rcases Y3 J with ⟨rfl,rfl,aQ⟩ | ⟨da,J⟩
  ·grind
  ·rw [if_neg da];have ag:j<cs.length:=(List.getElem?_eq_some_iff.1 J).1;exact (aj j x wo J jH).outside o λc aa=>⟨aO j c ag aa,λeI=>da (aS j k c ag hk aa (av c eI))⟩
 grind
theorem Fh {m:Nat}{Fs:Nat->bc}{bL cw jh:bc}{k:Nat}(hk:k<m)
  (aS:∀ (j k c:Nat),j<m->k<m->Fs j c->Fs k c->j=k) (av:∀ c,cw c->Fs k c) (fT:∀ c,bL c↔(Fs k c/\¬ cw c)\/jh c) (c:Nat) :
  (∃ j,j<m/\(if j=k then bL else Fs j) c)↔((∃ j,j<m/\Fs j c)/\¬ cw c)\/jh c:=by
 grind
theorem R.pS {w w':World}{I:bc}{ρ:ab->Value->Prop}:∀ (r:List Nat) {x:ab}{v:Value}{F:bc}{y:ab},R w I ρ x v F->x.at r=some y ->
  (∀ c,F c->w'.heap[c]?=w.heap[c]?)->walk w' v r=walk w v r
 | [],_,_,_,_,_,_,_=>rfl
 | k::p,x,v,F,y,h,gp,aW=>by
  simp only [ab.at] at gp;cases hh:x.kids[k]? with
  | none=>rw [hh] at gp; cases gp
  | some sC =>
   rw [hh] at gp;simp only at gp;cases h with
   | @own z n cs _ e us Fs _ aY ai h1 aj aS au aO =>
    simp only [ab.kids] at hh;have hk:k<cs.length:=(List.getElem?_eq_some_iff.1 hh).1;have hu:us[k]?=some us[k]:=List.getElem?_eq_getElem (ai ▸ hk);have nA:=vT (w':=w') aY λc aa=>aW c ((aO c).2 (.inl aa));have:=R.pS (w':=w') p (aj k sC _ hh hu) gp λc aa=>aW c ((aO c).2 (.inr ⟨k,hk,aa⟩));simp [walk,pL aY hu,pL nA hu,this]
   | @obj cs b e arr Fs _ aY ai h1 aj aS au aO =>
    simp only [ab.kids] at hh;have hk:k<cs.length:=(List.getElem?_eq_some_iff.1 hh).1;have hu:arr[k]?=some arr[k]:=Array.getElem?_eq_getElem (ai ▸ hk);have nA:=(aW b ((aO b).2 (.inl rfl))).trans aY;have:=R.pS (w':=w') p (aj k sC _ hh hu) gp λc aa=>aW c ((aO c).2 (.inr ⟨k,hk,aa⟩));simp [walk,child,World.cell?,aY,nA,hu,this]
   | @agg cs vs Fs _ ai h1 aj aS aO =>
    simp only [ab.kids] at hh;have hk:k<cs.length:=(List.getElem?_eq_some_iff.1 hh).1;have hu:vs[k]?=some vs[k]:=Array.getElem?_eq_getElem (ai ▸ hk);have:=R.pS (w':=w') p (aj k sC _ hh hu) gp λc aa=>aW c ((aO c).2 ⟨k,hk,aa⟩);simp [walk,child,hu,this]
   | @bX cs vs Fs _ ai aj aS aO =>
    simp only [ab.kids] at hh;have hk:k<cs.length:=(List.getElem?_eq_some_iff.1 hh).1;have hu:vs[k]?=some vs[k]:=Array.getElem?_eq_getElem (ai ▸ hk);have:=R.pS (w':=w') p (aj k sC _ hh hu) gp λc aa=>aW c ((aO c).2 ⟨k,hk,aa⟩);simp [walk,child,hu,this]
   | ref J _ _=>cases x <;> simp [ab.isRef,ab.kids] at J hh
   | _=>simp [ab.kids] at hh
theorem R.focus {w:World}{I:bc}{ρ:ab->Value->Prop}:∀ (q:List Nat) {x:ab}{v:Value}{F:bc}{y:ab},R w I ρ x v F->x.at q=some y ->
  ∃ hW cw,walk w v q=some hW/\R w I ρ y hW cw/\(∀ c,cw c->F c) /\
   (∀ (w':World),(∀ c,F c->¬ cw c->w'.heap[c]?=w.heap[c]?)->walk w' v q=some hW/\∀ r uW,x.at r=some uW->(∃ cW,r=q++cW)\/walk w' v r=walk w v r) /\
   ∀ (w':World) (I':bc) (ρ':ab->Value->Prop) (y':ab) (jh:bc),Out w w' I I' ρ ρ' F cw->R w' I' ρ' y' hW jh->(∀ c,jh c->F c->cw c) ->
    ∃ c_,R w' I' ρ' (x.setAt q y') v c_/\∀ c,c_ c↔(F c/\¬ cw c)\/jh c
 | [],x,v,F,y,h,gp=>by
  simp only [ab.at,Option.some.injEq] at gp;subst gp;exact ⟨v,F,rfl,h,λ_ h=>h,λ_ _=>⟨rfl,λr _ _=>.inl ⟨r,rfl⟩⟩,λw' I' ρ' y' jh _ a1 _=>⟨jh,a1,λc=>by simp⟩⟩
 | k::p,x,v,F,y,h,gp=>by
  simp only [ab.at] at gp;cases hh:x.kids[k]? with
  | none=>rw [hh] at gp; cases gp
  | some sC =>
   rw [hh] at gp;simp only at gp;have zA:∀ y',x.setAt (k::p) y'=x.wk k (sC.setAt p y'):=λy'=>by simp [ab.setAt,hh]
   cases h with
   | @own z n cs _ e us Fs _ aY ai h1 aj aS au aO =>
    simp only [ab.kids] at hh;have hk:k<cs.length:=(List.getElem?_eq_some_iff.1 hh).1;have hu:us[k]?=some us[k]:=List.getElem?_eq_getElem (ai ▸ hk);obtain ⟨hW,cw,hw,dF,dy,eY,kg⟩:=R.focus p (aj k sC _ hh hu) gp;refine ⟨hW,cw,by simp [walk,pL aY hu,hw],dF,λc aa=>(aO c).2 (.inr ⟨k,hk,dy c aa⟩),?_,?_⟩
    ·intro w' aA;have pr:∀ j c,j<cs.length->Fs j c->¬ cw c->w'.heap[c]?=w.heap[c]?:=λj c ag aa aE=>aA c ((aO c).2 (.inr ⟨j,ag,aa⟩)) aE;obtain ⟨h9,hn⟩:=eY w' λc aa aE=>pr k c hk aa aE;have nA:=vT (w':=w') aY λc aa=>aA c ((aO c).2 (.inl aa)) λeI=>au k c hk (dy c eI) aa;refine ⟨by simp [walk,pL nA hu,h9],?_⟩;intro r uW dN;cases r with
     | nil=>exact .inr rfl
     | cons j r =>
      simp only [ab.at,ab.kids] at dN;cases ag:cs[j]? with
      | none=>rw [ag] at dN; cases dN
      | some wW =>
       rw [ag] at dN;simp only at dN;have e0:j<cs.length:=(List.getElem?_eq_some_iff.1 ag).1;have ra:us[j]?=some us[j]:=List.getElem?_eq_getElem (ai ▸ e0);by_cases fU:j=k
       ·subst fU;rw [hh] at ag;cases ag;rcases hn r uW dN with ⟨cW,rfl⟩ | h
        ·exact .inl ⟨cW,rfl⟩
        ·exact .inr (by simp [walk,pL aY hu,pL nA hu,h])
       ·have h:=R.pS (w':=w') r (aj j wW _ ag ra) dN λc aa=>pr j c e0 aa λeI=>fU (aS j k c e0 hk aa (dy c eI));exact .inr (by simp [walk,pL aY ra,pL nA ra,h])
    intro w' I' ρ' y' jh o jE mU;have jD:∀ j c,j<cs.length->Fs j c->F c:=λj c ag aa=>(aO c).2 (.inr ⟨j,ag,aa⟩);obtain ⟨bL,kQ,fT⟩:=kg w' I' ρ' y' jh (o.mono (λc aa=>jD k c hk aa) λc _ h=>h) jE λc aa oL=>mU c aa (jD k c hk oL);obtain ⟨dN,mu⟩:=Fg (get:=λj=>us[j]?) aj aS jD hk dy o hu kQ λc=>by
     constructor
     ·intro h;rcases (fT c).1 h with h1 | h1
      ·exact .inl h1
      ·exact .inr ⟨h,λ⟨af,aI⟩=>aI (mU c h1 af)⟩
     ·rintro (h1 | ⟨h1,_⟩)
      ·exact (fT c).2 (.inl h1)
      ·exact h1
    rw [zA];refine ⟨_,.own (Fs:=λj=>if j=k then bL else Fs j) (vT aY λc aa=>o.rest c ((aO c).2 (.inl aa)) λeI=>au k c hk (dy c eI) aa) (by simpa using ai) h1 dN mu ?_ (λc=>Iff.rfl),λc=>?_⟩
    ·intro j c ag aa vC;rw [List.length_set] at ag;by_cases fU:j=k
     ·rw [if_pos fU] at aa;rcases (fT c).1 aa with ⟨h1,_⟩ | h1
      ·exact au k c hk h1 vC
      ·exact au k c hk (dy c (mU c h1 ((aO c).2 (.inl vC)))) vC
     ·rw [if_neg fU] at aa; exact au j c ag aa vC
    ·have hu:=Fh hk aS dy fT c;simp only [List.length_set];rw [hu,aO c];have e':v.ownBlock=some c->¬ cw c:=λh1 af=>au k c hk (dy c af) h1;constructor
     ·rintro (h1 | ⟨h1,af⟩ | h1)
      ·exact .inl ⟨.inl h1,e' h1⟩
      ·exact .inl ⟨.inr h1,af⟩
      ·exact .inr h1
     ·rintro (⟨h1 | h1,af⟩ | h1)
      ·exact .inl h1
      ·exact .inr (.inl ⟨h1,af⟩)
      ·exact .inr (.inr h1)
   | @obj cs b e arr Fs _ aY ai h1 aj aS au aO =>
    simp only [ab.kids] at hh;have hk:k<cs.length:=(List.getElem?_eq_some_iff.1 hh).1;have hu:arr[k]?=some arr[k]:=Array.getElem?_eq_getElem (ai ▸ hk);obtain ⟨hW,cw,hw,dF,dy,eY,kg⟩:=R.focus p (aj k sC _ hh hu) gp;refine ⟨hW,cw,by simp [walk,child,World.cell?,aY,hu,hw],dF,λc aa=>(aO c).2 (.inr ⟨k,hk,dy c aa⟩),?_,?_⟩
    ·intro w' aA;have pr:∀ j c,j<cs.length->Fs j c->¬ cw c->w'.heap[c]?=w.heap[c]?:=λj c ag aa aE=>aA c ((aO c).2 (.inr ⟨j,ag,aa⟩)) aE;obtain ⟨h9,hn⟩:=eY w' λc aa aE=>pr k c hk aa aE;have nA:=(aA b ((aO b).2 (.inl rfl)) λeI=>au k hk (dy b eI)).trans aY;refine ⟨by simp [walk,child,World.cell?,nA,hu,h9],?_⟩;intro r uW dN;cases r with
     | nil=>exact .inr rfl
     | cons j r =>
      simp only [ab.at,ab.kids] at dN;cases ag:cs[j]? with
      | none=>rw [ag] at dN; cases dN
      | some wW =>
       rw [ag] at dN;simp only at dN;have e0:j<cs.length:=(List.getElem?_eq_some_iff.1 ag).1;have ra:arr[j]?=some arr[j]:=Array.getElem?_eq_getElem (ai ▸ e0);by_cases fU:j=k
       ·subst fU;rw [hh] at ag;cases ag;rcases hn r uW dN with ⟨cW,rfl⟩ | h
        ·exact .inl ⟨cW,rfl⟩
        ·exact .inr (by simp [walk,child,World.cell?,aY,nA,hu,h])
       ·have h:=R.pS (w':=w') r (aj j wW _ ag ra) dN λc aa=>pr j c e0 aa λeI=>fU (aS j k c e0 hk aa (dy c eI));exact .inr (by simp [walk,child,World.cell?,aY,nA,ra,h])
    intro w' I' ρ' y' jh o jE mU;have jD:∀ j c,j<cs.length->Fs j c->F c:=λj c ag aa=>(aO c).2 (.inr ⟨j,ag,aa⟩);obtain ⟨bL,kQ,fT⟩:=kg w' I' ρ' y' jh (o.mono (λc aa=>jD k c hk aa) λc _ h=>h) jE λc aa oL=>mU c aa (jD k c hk oL);obtain ⟨dN,mu⟩:=Fg (get:=λj=>arr[j]?) aj aS jD hk dy o hu kQ λc=>by
     constructor
     ·intro h;rcases (fT c).1 h with h1 | h1
      ·exact .inl h1
      ·exact .inr ⟨h,λ⟨af,aI⟩=>aI (mU c h1 af)⟩
     ·rintro (h1 | ⟨h1,_⟩)
      ·exact (fT c).2 (.inl h1)
      ·exact h1
    rw [zA];have mr:F b:=(aO b).2 (.inl rfl);have IB:¬ cw b:=λh=>au k hk (dy b h);refine ⟨_,.obj (Fs:=λj=>if j=k then bL else Fs j) ((o.rest b mr IB).trans aY) (by simpa using ai) h1 dN mu ?_ (λc=>Iff.rfl),λc=>?_⟩
    ·intro j ag aa;rw [List.length_set] at ag;by_cases fU:j=k
     ·rw [if_pos fU] at aa;rcases (fT b).1 aa with ⟨h1,_⟩ | h1
      ·exact au k hk h1
      ·exact IB (mU b h1 mr)
     ·rw [if_neg fU] at aa; exact au j ag aa
    ·have hu:=Fh hk aS dy fT c;simp only [List.length_set];rw [hu,aO c];constructor
     ·rintro (rfl | ⟨h1,af⟩ | h1)
      ·exact .inl ⟨.inl rfl,IB⟩
      ·exact .inl ⟨.inr h1,af⟩
      ·exact .inr h1
     ·rintro (⟨h1 | h1,af⟩ | h1)
      ·exact .inl h1
      ·exact .inr (.inl ⟨h1,af⟩)
      ·exact .inr (.inr h1)
   | @agg cs vs Fs _ ai h1 aj aS aO =>
    simp only [ab.kids] at hh;have hk:k<cs.length:=(List.getElem?_eq_some_iff.1 hh).1;have hu:vs[k]?=some vs[k]:=Array.getElem?_eq_getElem (ai ▸ hk);obtain ⟨hW,cw,hw,dF,dy,eY,kg⟩:=R.focus p (aj k sC _ hh hu) gp;refine ⟨hW,cw,by simp [walk,child,hu,hw],dF,λc aa=>(aO c).2 ⟨k,hk,dy c aa⟩,?_,?_⟩
    ·intro w' aA;have pr:∀ j c,j<cs.length->Fs j c->¬ cw c->w'.heap[c]?=w.heap[c]?:=λj c ag aa aE=>aA c ((aO c).2 ⟨j,ag,aa⟩) aE;obtain ⟨h9,hn⟩:=eY w' λc aa aE=>pr k c hk aa aE
     
     refine ⟨by simp [walk,child,hu,h9],?_⟩;intro r uW dN;cases r with
     | nil=>exact .inr rfl
     | cons j r =>
      simp only [ab.at,ab.kids] at dN;cases ag:cs[j]? with
      | none=>rw [ag] at dN; cases dN
      | some wW =>
       rw [ag] at dN;simp only at dN;have e0:j<cs.length:=(List.getElem?_eq_some_iff.1 ag).1;have ra:vs[j]?=some vs[j]:=Array.getElem?_eq_getElem (ai ▸ e0);by_cases fU:j=k
       ·subst fU;rw [hh] at ag;cases ag;rcases hn r uW dN with ⟨cW,rfl⟩ | h
        ·exact .inl ⟨cW,rfl⟩
        ·exact .inr (by simp [walk,child,hu,h])
       ·have h:=R.pS (w':=w') r (aj j wW _ ag ra) dN λc aa=>pr j c e0 aa λeI=>fU (aS j k c e0 hk aa (dy c eI));exact .inr (by simp [walk,child,ra,h])
    intro w' I' ρ' y' jh o jE mU;have jD:∀ j c,j<cs.length->Fs j c->F c:=λj c ag aa=>(aO c).2 ⟨j,ag,aa⟩;obtain ⟨bL,kQ,fT⟩:=kg w' I' ρ' y' jh (o.mono (λc aa=>jD k c hk aa) λc _ h=>h) jE λc aa oL=>mU c aa (jD k c hk oL);obtain ⟨dN,mu⟩:=Fg (get:=λj=>vs[j]?) aj aS jD hk dy o hu kQ λc=>by
     constructor
     ·intro h;rcases (fT c).1 h with h1 | h1
      ·exact .inl h1
      ·exact .inr ⟨h,λ⟨af,aI⟩=>aI (mU c h1 af)⟩
     ·rintro (h1 | ⟨h1,_⟩)
      ·exact (fT c).2 (.inl h1)
      ·exact h1
    rw [zA];refine ⟨_,.agg (Fs:=λj=>if j=k then bL else Fs j) (by simpa using ai) h1 dN mu (λc=>Iff.rfl),λc=>?_⟩;have hu:=Fh hk aS dy fT c;simp only [List.length_set];rw [hu,aO c]
   | @bX cs vs Fs _ ai aj aS aO =>
    simp only [ab.kids] at hh;have hk:k<cs.length:=(List.getElem?_eq_some_iff.1 hh).1;have hu:vs[k]?=some vs[k]:=Array.getElem?_eq_getElem (ai ▸ hk);obtain ⟨hW,cw,hw,dF,dy,eY,kg⟩:=R.focus p (aj k sC _ hh hu) gp;refine ⟨hW,cw,by simp [walk,child,hu,hw],dF,λc aa=>(aO c).2 ⟨k,hk,dy c aa⟩,?_,?_⟩
    ·intro w' aA;have pr:∀ j c,j<cs.length->Fs j c->¬ cw c->w'.heap[c]?=w.heap[c]?:=λj c ag aa aE=>aA c ((aO c).2 ⟨j,ag,aa⟩) aE;obtain ⟨h9,hn⟩:=eY w' λc aa aE=>pr k c hk aa aE
     
     refine ⟨by simp [walk,child,hu,h9],?_⟩;intro r uW dN;cases r with
     | nil=>exact .inr rfl
     | cons j r =>
      simp only [ab.at,ab.kids] at dN;cases ag:cs[j]? with
      | none=>rw [ag] at dN; cases dN
      | some wW =>
       rw [ag] at dN;simp only at dN;have e0:j<cs.length:=(List.getElem?_eq_some_iff.1 ag).1;have ra:vs[j]?=some vs[j]:=Array.getElem?_eq_getElem (ai ▸ e0);by_cases fU:j=k
       ·subst fU;rw [hh] at ag;cases ag;rcases hn r uW dN with ⟨cW,rfl⟩ | h
        ·exact .inl ⟨cW,rfl⟩
        ·exact .inr (by simp [walk,child,hu,h])
       ·have h:=R.pS (w':=w') r (aj j wW _ ag ra) dN λc aa=>pr j c e0 aa λeI=>fU (aS j k c e0 hk aa (dy c eI));exact .inr (by simp [walk,child,ra,h])
    intro w' I' ρ' y' jh o jE mU;have jD:∀ j c,j<cs.length->Fs j c->F c:=λj c ag aa=>(aO c).2 ⟨j,ag,aa⟩;obtain ⟨bL,kQ,fT⟩:=kg w' I' ρ' y' jh (o.mono (λc aa=>jD k c hk aa) λc _ h=>h) jE λc aa oL=>mU c aa (jD k c hk oL);obtain ⟨dN,mu⟩:=Fg (get:=λj=>vs[j]?) aj aS jD hk dy o hu kQ λc=>by
     constructor
     ·intro h;rcases (fT c).1 h with h1 | h1
      ·exact .inl h1
      ·exact .inr ⟨h,λ⟨af,aI⟩=>aI (mU c h1 af)⟩
     ·rintro (h1 | ⟨h1,_⟩)
      ·exact (fT c).2 (.inl h1)
      ·exact h1
    rw [zA];refine ⟨_,.bX (Fs:=λj=>if j=k then bL else Fs j) (by simpa using ai) dN mu (λc=>Iff.rfl),λc=>?_⟩;have hu:=Fh hk aS dy fT c;simp only [List.length_set];rw [hu,aO c]
   | ref J _ _=>cases x <;> simp [ab.isRef,ab.kids] at J hh
   | _=>simp [ab.kids] at hh
end Go.Own
namespace Go.Own
open Go
abbrev aJ:=Nat->Option ab
def bz (g:aJ) (p:Place):Option ab :=
 match g p.root with
 | some x=>x.at p.path
 | none=>none
def dV (w:World) (T:Array Value) (p:Place):Option Value :=
 match T[p.root]? with
 | some v=>walk w v p.path
 | none=>none
def addrOf:Value->Option Addr
 | .slice (some a) _ _=>some a
 | .pointer (some a)=>some a
 | _=>none
def fC (w:World) (T:Array Value):ab->Value->Prop
 | .ptr p k,v=>∃ u a,dV w T p=some u/\addrOf u=some a/\v=.pointer (some ⟨a.block,a.off+k,none⟩)
 | .a6 _ p n,v=>∃ a N cap,dV w T p=some (.slice a N cap)/\v=.slice a n cap/\n<=N
 | .sub z p lo n,v=>∃ a N cap b' mM,dV w T p=some (.slice a N cap)/\v=.slice b' n mM/\n<=mM/\lo+n<=N/\(0<n->∃ ad,a=some ad/\b'=some ⟨ad.block,ad.off+lo * z,none⟩)
 | .bM _ p n _ _,v=>∃ a cap,dV w T p=some (.slice a n cap)/\v=.slice a n cap
 | .gw p,v=>∃ b,dV w T p=some (.map b)/\v=.map b
 | _,_=>False
def gB (g:aJ):ab->Prop
 | .ptr p k=>∃ y,bz g p=some y/\(∃ z n cs,(y=.own z n cs\/y=.obj cs)/\k<cs.length)
 | .a6 z p n=>(∃ N cs,bz g p=some (.own z N cs)/\n<=N)\/(p.path=[]/\∃ q gG m new,g p.root=some (.bM z q gG m new)/\n=gG+m)
 | .sub z p lo n=>∃ N cs,bz g p=some (.own z N cs)/\lo+n<=N
 | .bM z p n _ _=>(∃ cs,bz g p=some (.own z n cs))\/(p.path=[]/\∃ q gG m new cs,g p.root=some (.bM z q gG m new)/\n=gG+m/\bz g q=some (.own z gG cs))
 | .gw p=>∃ q,bz g p=some (.mp q)
 | _=>False
def dR (w:World) (T:Array Value) (g:aJ) (r:ab) (v:Value):Prop:=fC w T r v/\gB g r
structure GZ (w:World) (I:bc) (ρ:ab->Value->Prop) (z:Nat) (p:Place) (n m:Nat) (new:List ab) (v:Value) (F:bc) (bv:Value) (e cd:TypeId) (us news:List Value):Prop where
 jN:ρ (.bM z p n 0 []) bv
 lg:w.ownsRow 0 e z bv n us
 nB:w.ownsRow 0 cd z v (n+m) (us++news)
 ai:new.length=news.length
 h1:∀ (k:Nat) (u:Value),news[k]?=some u->u.oneCell'=true
 aj:∀ (k:Nat) (x:ab) (u:Value),new[k]?=some x->news[k]?=some u->R w I ρ x u (λ_=>False)
 aO:∀ c,F c↔v.ownBlock=some c/\bv.ownBlock≠some c
inductive jw (w:World) (I:bc) (ρ:ab->Value->Prop):ab->Value->bc->Prop
 | tree {x:ab}{v:Value}{F:bc}(h:R w I ρ x v F):jw w I ρ x v F
 | bM {z n m:Nat}{p:Place}{new:List ab}{v bv:Value}{e cd:TypeId}{us news:List Value}{F:bc}(h:GZ w I ρ z p n m new v F bv e cd us news):jw w I ρ (.bM z p n m new) v F
theorem R.lk {w:World}{I:bc}{ρ:ab->Value->Prop}{z n m:Nat}{p:Place}{new:List ab}{v:Value}{F:bc}(h:R w I ρ (.bM z p n m new) v F):False:=by
 cases h with
 | ref J=>simp [ab.isRef] at J
theorem jw.gF {w:World}{I:bc}{ρ:ab->Value->Prop}{x:ab}{v:Value}{F:bc}(h:jw w I ρ x v F) (J:∀ z p n m new,x≠.bM z p n m new):R w I ρ x v F:=by
 cases h with
 | tree h=>exact h
 | bM=>exact absurd rfl (J _ _ _ _ _)
theorem jw.vL {w:World}{I:bc}{ρ:ab->Value->Prop}{z n m:Nat}{p:Place}{new:List ab}{v:Value}{F:bc}(h:jw w I ρ (.bM z p n m new) v F):∃ bv e cd us news,GZ w I ρ z p n m new v F bv e cd us news:=by
 cases h with
 | tree h=>exact h.lk.elim
 | bM h=>exact ⟨_,_,_,_,_,h⟩
theorem jw.lt {w:World}{I:bc}{ρ:ab->Value->Prop}{x:ab}{v:Value}{F:bc}(h:jw w I ρ x v F):∀ c,F c->c<w.heap.size:=by
 cases h with
 | tree h=>exact h.lt
 | bM h=>exact λc aa=>(h.nB.lt c ((h.aO c).1 aa).1).2
theorem jw.frame {w w':World}{I I':bc}{ρ ρ':ab->Value->Prop}{x:ab}{v:Value}{F:bc}(h:jw w I ρ x v F)
  (bb:∀ c,I c->w'.heap[c]?=w.heap[c]?) (pj:∀ c,I c->I' c) (lL:∀ x v,ρ x v->ρ' x v)
  (b_:∀ z p n bv,ρ (.bM z p n 0 []) bv->∀ c,bv.ownBlock=some c->w'.heap[c]?=w.heap[c]?)
  (aW:∀ c,F c->w'.heap[c]?=w.heap[c]?):jw w' I' ρ' x v F:=by
 cases h with
 | tree h=>exact .tree (h.frame bb pj lL aW)
 | @bM z n m p new v bv e cd us news F h =>
  have au:=b_ _ _ _ _ h.jN;refine .bM ⟨lL _ _ h.jN,vT h.lg au,vT h.nB λc aa=>?_,h.ai,h.h1,λk x u J hu=>(h.aj k x u J hu).frame bb pj lL λc aa=>aa.elim,h.aO⟩;by_cases pn:bv.ownBlock=some c
  ·exact au c pn
  ·exact aW c ((h.aO c).2 ⟨aa,pn⟩)
theorem ab.sA {z n m:Nat}{p:Place}{new:List ab}{q:List Nat}{y:ab}(h:(ab.bM z p n m new).at q=some y):q=[]/\y=.bM z p n m new:=by
 cases q with
 | nil=>simp [ab.at] at h; exact ⟨rfl,h.symm⟩
 | cons k q=>simp [ab.at,ab.kids] at h
structure cD (w:World) (I:bc) (T:Array Value) (g:aJ) (Fs:Nat->bc):Prop where
 rel:∀ t x,g t=some x->∃ v,T[t]?=some v/\jw w I (dR w T g) x v (Fs t)
 kW:∀ t,g t=none->∀ c,¬ Fs t c
 eK:∀ t t' c,Fs t c->Fs t' c->t=t'
 bn:∀ t c,Fs t c->¬ I c
 lt:∀ c,I c->c<w.heap.size
 rm:∀ t t' z p n m new bA cB m' c0,g t=some (.bM z p n m new)->g t'=some (.bM bA p cB m' c0)->t=t'
section
variable {w:World}{I:bc}{T:Array Value}{g:aJ}{Fs:Nat->bc}
theorem cD.part (h:cD w I T g Fs) {p:Place}{y:ab}(ar:bz g p=some y) (av:∀ z q n m new,y≠.bM z q n m new):∃ v cw,dV w T p=some v/\R w I (dR w T g) y v cw/\(∀ c,cw c->Fs p.root c):=by
 unfold bz at ar;cases J:g p.root with
 | none=>rw [J] at ar; cases ar
 | some x =>
  rw [J] at ar;obtain ⟨v,hv,a1⟩:=h.rel _ _ J;replace a1:=a1.gF (by
   rintro z q n m new rfl;exact av _ _ _ _ _ (ab.sA ar).2)
  obtain ⟨hW,cw,hw,dF,dy,_⟩:=R.focus p.path a1 ar;exact ⟨hW,cw,by simp [dV,hv,hw],dF,dy⟩
theorem R.qw {ρ:ab->Value->Prop}{z n:Nat}{cs:List ab}{v:Value}{F:bc}(h:R w I ρ (.own z n cs) v F):∀ c,v.ownBlock=some c->F c:=by
 cases h with
 | own aY ai h1 aj aS au aO=>exact λc aa=>(aO c).2 (.inl aa)
 | ref J=>simp [ab.isRef] at J
theorem R.ng {ρ:ab->Value->Prop}{z n:Nat}{cs:List ab}{v:Value}{F:bc}(h:R w I ρ (.own z n cs) v F) :
  ∃ a cap,v=.slice a n cap/\n<=cap/\cs.length=n * z/\(∀ ad,a=some ad->ad.off=0/\ad.spot=none)/\(0<n->a.isSome=true):=by
 cases h with
 | own aY ai h1 aj aS au aO =>
  obtain ⟨h1,af⟩:=aY;rcases af with ⟨rfl,rfl⟩ | ⟨b,cap,cur,rfl,_,_,aE,_⟩
  ·exact ⟨none,0,rfl,Nat.le_refl _,by simp [ai,h1],by simp,by simp⟩
  ·exact ⟨_,cap,rfl,aE,by simp [ai,h1],by rintro ad ⟨⟩; exact ⟨rfl,rfl⟩,by simp⟩
 | ref J=>simp [ab.isRef] at J
theorem cD.yt (h:cD w I T g Fs) {w':World}{T':Array Value}(dK:∀ t,g t≠none->T'[t]?=T[t]?) (aO:∀ t c,Fs t c->w'.heap[c]?=w.heap[c]?) {p:Place}{y:ab}(ar:bz g p=some y) :
  dV w' T' p=dV w T p:=by
 unfold bz at ar;cases J:g p.root with
 | none=>rw [J] at ar; cases ar
 | some x =>
  rw [J] at ar;obtain ⟨v,hv,a1⟩:=h.rel _ _ J;have ik:T'[p.root]?=some v:=by rw [dK _ (by rw [J]; simp),hv]
  cases a1 with
  | tree a1 =>
   have:=R.pS (w':=w') p.path a1 ar λc aa=>aO _ c aa;simp [dV,hv,ik,this]
  | bM a1=>simp [dV,hv,ik,(ab.sA ar).1,walk]
theorem kK {g g':aJ}(aP:∀ t x,g t=some x->g' t=some x) {p:Place}{y:ab}(ar:bz g p=some y):bz g' p=some y:=by
 unfold bz at *;cases J:g p.root with
 | none=>rw [J] at ar; cases ar
 | some x=>rw [J] at ar; rw [aP _ _ J]; exact ar
theorem gB.mono {g g':aJ}(aP:∀ t x,g t=some x->g' t=some x) {r:ab}(h:gB g r):gB g' r:=by
 cases r <;> simp only [gB] at h ⊢
 case ptr p k=>obtain ⟨y,av,h⟩:=h; exact ⟨y,kK aP av,h⟩
 case a6 z p n =>
  rcases h with ⟨N,cs,h1,af⟩ | ⟨aT,q,gG,m,new,h1,af⟩
  ·exact .inl ⟨N,cs,kK aP h1,af⟩
  ·exact .inr ⟨aT,q,gG,m,new,aP _ _ h1,af⟩
 case sub z p lo n=>obtain ⟨N,cs,h1,af⟩:=h; exact ⟨N,cs,kK aP h1,af⟩
 case bM z p n m new =>
  rcases h with ⟨cs,h1⟩ | ⟨aT,q,gG,m',c0,cs,h1,af,aI⟩
  ·exact .inl ⟨cs,kK aP h1⟩
  ·exact .inr ⟨aT,q,gG,m',c0,cs,aP _ _ h1,af,kK aP aI⟩
 case gw p=>obtain ⟨q,h⟩:=h; exact ⟨q,kK aP h⟩
theorem cD.F1 (h:cD w I T g Fs) {w':World}{T':Array Value}{g':aJ}(dK:∀ t,g t≠none->T'[t]?=T[t]?) (aO:∀ t c,Fs t c->w'.heap[c]?=w.heap[c]?)
  (aP:∀ t x,g t=some x->g' t=some x) {r:ab}{v:Value}(aj:dR w T g r v):dR w' T' g' r v:=by
 obtain ⟨h1,af⟩:=aj;refine ⟨?_,af.mono aP⟩;have slot:∀ {p:Place}{x:ab},p.path=[]->g p.root=some x->dV w' T' p=dV w T p:=by
  intro p x ar J;obtain ⟨v,hv,_⟩:=h.rel _ _ J;simp [dV,ar,walk,dK p.root (by rw [J]; simp)]
 cases r <;> simp only [fC,gB] at h1 af ⊢
 case ptr p k =>
  obtain ⟨y,av,_⟩:=af;rw [h.yt dK aO av]; exact h1
 case a6 z p n =>
  rcases af with ⟨N,cs,af,_⟩ | ⟨aT,q,gG,m,new,af,_⟩
  ·rw [h.yt dK aO af]; exact h1
  ·rw [slot aT af]; exact h1
 case sub z p lo n =>
  obtain ⟨N,cs,af,_⟩:=af;rw [h.yt dK aO af]; exact h1
 case bM z p n m new =>
  rcases af with ⟨cs,af⟩ | ⟨aT,q,gG,m',c0,cs,af,_⟩
  ·rw [h.yt dK aO af]; exact h1
  ·rw [slot aT af]; exact h1
 case gw p =>
  obtain ⟨q,af⟩:=af;rw [h.yt dK aO af]; exact h1
theorem cD.Eb (h:cD w I T g Fs) {z n:Nat}{p:Place}{bv:Value}(aj:dR w T g (.bM z p n 0 []) bv):∀ c,bv.ownBlock=some c->∃ t,Fs t c:=by
 obtain ⟨⟨a,cap,h1,rfl⟩,af⟩:=aj;intro c aa;have own:∀ {q:Place}{gG:Nat}{cs:List ab}{v:Value},bz g q=some (.own z gG cs)->dV w T q=some v->v.ownBlock=some c->∃ t,Fs t c:=by
  intro q gG cs v bg hv aa;obtain ⟨fM,cw,ik,a1,dy⟩:=h.part bg (by simp);rw [hv] at ik;cases ik;exact ⟨_,dy c (a1.qw c aa)⟩
 rcases af with ⟨cs,af⟩ | ⟨aT,q,gG,m,new,cs,af,rfl,aI⟩
 ·exact own af h1 aa
 ·obtain ⟨v,hv,a1⟩:=h.rel _ _ af;have xq:v=.slice a (gG+m) cap:=by
   simp only [dV,hv,aT,walk,Option.some.injEq] at h1;exact h1
  obtain ⟨Mj,e,cd,us,news,a1⟩:=a1.vL;by_cases gQ:Mj.ownBlock=some c
  ·obtain ⟨⟨a2,rP,bD,rfl⟩,_⟩:=a1.jN;exact own aI bD gQ
  ·exact ⟨_,(a1.aO c).2 ⟨by rw [xq]; exact aa,gQ⟩⟩
theorem cD.frame (h:cD w I T g Fs) {w':World}{I':bc}{T':Array Value}{g':aJ}(dK:∀ t,g t≠none->T'[t]?=T[t]?) (aO:∀ t c,Fs t c->w'.heap[c]?=w.heap[c]?)
  (bb:∀ c,I c->w'.heap[c]?=w.heap[c]?) (pj:∀ c,I c->I' c) (aP:∀ t x,g t=some x->g' t=some x) {x:ab}{v:Value}{F:bc}(a1:R w I (dR w T g) x v F)
  (mm:∀ c,F c->w'.heap[c]?=w.heap[c]?):R w' I' (dR w' T' g') x v F :=
 a1.frame bb pj (λ_ _ aj=>h.F1 dK aO aP aj) mm
theorem cD.w5 (h:cD w I T g Fs) {w':World}{I':bc}{T':Array Value}{g':aJ}(dK:∀ t,g t≠none->T'[t]?=T[t]?) (aO:∀ t c,Fs t c->w'.heap[c]?=w.heap[c]?)
  (bb:∀ c,I c->w'.heap[c]?=w.heap[c]?) (pj:∀ c,I c->I' c) (aP:∀ t x,g t=some x->g' t=some x) {x:ab}{v:Value}{F:bc}(a1:jw w I (dR w T g) x v F)
  (mm:∀ c,F c->w'.heap[c]?=w.heap[c]?):jw w' I' (dR w' T' g') x v F :=
 a1.frame bb pj (λ_ _ aj=>h.F1 dK aO aP aj) (λ_ _ _ _ aj c aa=>by obtain ⟨t,aw⟩:=h.Eb aj c aa; exact aO t c aw) mm
def cT (g:aJ) (d:Nat) (x:ab):aJ:=λt=>if t=d then some x else g t
def uT (Fs:Nat->bc) (d:Nat) (F:bc):Nat->bc:=λt=>if t=d then F else Fs t
theorem QP {d:Nat}{x:ab}(aS:g d=none):∀ t y,g t=some y->cT g d x t=some y:=by
 intro t y av;unfold cT;split
 ·rename_i h; subst h; rw [aS] at av; cases av
 ·exact av
end
end Go.Own
namespace Go.Own
open Go
theorem QT (w:World):∀ (p:List Nat) (v:Value) (k:Nat),walk w v (p++[k])=(walk w v p).bind λu=>child w u k
 | [],v,k=>by simp [walk]; cases child w v k <;> rfl
 | j::p,v,k=>by
  simp only [List.cons_append,walk];cases child w v j with
  | none=>rfl
  | some u=>exact QT w p u k
theorem Me:∀ (p:List Nat) (x:ab) (k:Nat),x.at (p++[k])=(x.at p).bind λy=>y.kids[k]?
 | [],x,k=>by simp [ab.at]; cases x.kids[k]? <;> rfl
 | j::p,x,k=>by
  simp only [List.cons_append,ab.at];cases x.kids[j]? with
  | none=>rfl
  | some u=>exact Me p u k
theorem tB (g:aJ) (p:Place) (k:Nat):bz g (p.push k)=(bz g p).bind λy=>y.kids[k]?:=by
 unfold bz Place.push;cases g p.root with
 | none=>rfl
 | some x=>simp [Me]
theorem yr (w:World) (T:Array Value) (p:Place) (k:Nat):dV w T (p.push k)=(dV w T p).bind λu=>child w u k:=by
 unfold dV Place.push;cases T[p.root]? with
 | none=>rfl
 | some x=>simp [QT]
def gq:Nat->Place->ab->ab
 | _,p,.own z n _=>.a6 z p n
 | _,p,.obj (_::_)=>.ptr p 0
 | _,_,.obj []=>.dead
 | _,_,.bM ..=>.dead
 | _,p,.mp _=>.gw p
 | d+1,p,.agg cs=>.agg (cs.mapIdx λi x=>gq d (p.push i) x)
 | d+1,p,.bX cs=>.bX (cs.mapIdx λi x=>gq d (p.push i) x)
 | 0,_,.agg _=>.dead
 | 0,_,.bX _=>.dead
 | _,_,x=>x
def rp (t:Nat):ab->ab
 | .bM z _ n m _=>.a6 z ⟨t,[]⟩ (n+m)
 | x=>gq 2 ⟨t,[]⟩ x
def lO:Value->ab
 | .slice none 0 0=>.aN
 | .agg _=>.dead
 | .tuple _=>.dead
 | v=>.lit v
def ofConst:Value->ab
 | .agg vs=>if vs.all Value.oneCell' then .agg (vs.toList.map lO) else .dead
 | .tuple _=>.dead
 | v=>lO v
def bs (g:aJ):Operand->Option ab
 | .tmp t=>(g t).map (rp t)
 | .const v=>some (ofConst v)
 | .func f=>some (.cU (.func f) [] [])
 | .global _=>none
abbrev cv:bc:=λ_=>False
section
variable {w:World}{I:bc}{T:Array Value}{g:aJ}{Fs:Nat->bc}
theorem R.empty {ρ:ab->Value->Prop}{x:ab}{v:Value}{F:bc}(h:R w I ρ x v F) (aO:∀ c,¬ F c):R w I ρ x v cv:=h.zc λc=>⟨λaa=>aO c aa,λaa=>aa.elim⟩
theorem F0:∀ (d:Nat) {p:Place}{x:ab}{v:Value}{F:bc},bz g p=some x->dV w T p=some v->R w I (dR w T g) x v F->R w I (dR w T g) (gq d p x) v cv:=by
 intro d
 induction d with
 | zero =>
  intro p x v F ar hv a1;cases a1 with
  | lit ai aO=>exact .lit ai λ_ h=>h
  | aN aO=>exact .aN λ_ h=>h
  | dead aO=>exact .dead λ_ h=>h
  | ref J aj aO=>cases x <;> simp [ab.isRef] at J <;> exact .ref rfl aj λ_ h=>h
  | mp=>exact .ref rfl ⟨⟨_,hv,rfl⟩,⟨_,ar⟩⟩ λ_ h=>h
  | imp aO bb aY bg=>exact .imp (λ_ h=>h) bb aY bg
  | hD aO=>exact .hD λ_ h=>h
  | bn aO la bb aA ai h1 aa aj=>exact .bn (λ_ h=>h) la bb aA ai h1 aa aj
  | cG aO bb aA h1 aa aj=>exact .cG (λ_ h=>h) bb aA h1 aa aj
  | own aY ai h1 aj aS au aO =>
   have Je:=R.own (I:=I) (ρ:=dR w T g) aY ai h1 aj aS au aO;obtain ⟨a,cap,rfl,aE,_⟩:=Je.ng;exact .ref rfl ⟨⟨a,_,cap,hv,rfl,Nat.le_refl _⟩,.inl ⟨_,_,ar,Nat.le_refl _⟩⟩ λ_ h=>h
  | @obj cs b e arr b5 _ aY ai h1 aj aS au aO =>
   cases cs with
   | nil=>exact .dead λ_ h=>h
   | cons c cs=>exact .ref rfl ⟨⟨_,_,hv,rfl,rfl⟩,⟨_,ar,0,0,_,.inr rfl,by simp⟩⟩ λ_ h=>h
  | agg=>exact .dead λ_ h=>h
  | bX=>exact .dead λ_ h=>h
  | cU aO h1 af ku iM=>exact .cU (λ_ h=>h) h1 af ku iM
 | succ d aU =>
  intro p x v F ar hv a1;cases a1 with
  | lit ai aO=>exact .lit ai λ_ h=>h
  | aN aO=>exact .aN λ_ h=>h
  | dead aO=>exact .dead λ_ h=>h
  | ref J aj aO=>cases x <;> simp [ab.isRef] at J <;> exact .ref rfl aj λ_ h=>h
  | mp=>exact .ref rfl ⟨⟨_,hv,rfl⟩,⟨_,ar⟩⟩ λ_ h=>h
  | imp aO bb aY bg=>exact .imp (λ_ h=>h) bb aY bg
  | hD aO=>exact .hD λ_ h=>h
  | bn aO la bb aA ai h1 aa aj=>exact .bn (λ_ h=>h) la bb aA ai h1 aa aj
  | cG aO bb aA h1 aa aj=>exact .cG (λ_ h=>h) bb aA h1 aa aj
  | own aY ai h1 aj aS au aO =>
   have Je:=R.own (I:=I) (ρ:=dR w T g) aY ai h1 aj aS au aO;obtain ⟨a,cap,rfl,aE,_⟩:=Je.ng;exact .ref rfl ⟨⟨a,_,cap,hv,rfl,Nat.le_refl _⟩,.inl ⟨_,_,ar,Nat.le_refl _⟩⟩ λ_ h=>h
  | @obj cs b e arr b5 _ aY ai h1 aj aS au aO =>
   cases cs with
   | nil=>exact .dead λ_ h=>h
   | cons c cs=>exact .ref rfl ⟨⟨_,_,hv,rfl,rfl⟩,⟨_,ar,0,0,_,.inr rfl,by simp⟩⟩ λ_ h=>h
  | @agg cs vs b5 _ ai h1 aj aS aO =>
   refine .agg (Fs:=λ_=>cv) (by simpa using ai) h1 ?_ (λ_ _ _ _ _ h=>h.elim) (λc=>⟨λh=>h.elim,λ⟨_,_,h⟩=>h⟩);intro k y u av hu;rw [List.getElem?_mapIdx] at av;cases hk:cs[k]? with
   | none=>rw [hk] at av; cases av
   | some z =>
    rw [hk] at av;cases av;exact aU (by rw [tB,ar]; exact hk) (by rw [yr,hv]; exact hu) (aj k z u hk hu)
  | @bX cs vs b5 _ ai aj aS aO =>
   refine .bX (Fs:=λ_=>cv) (by simpa using ai) ?_ (λ_ _ _ _ _ h=>h.elim) (λc=>⟨λh=>h.elim,λ⟨_,_,h⟩=>h⟩);intro k y u av hu;rw [List.getElem?_mapIdx] at av;cases hk:cs[k]? with
   | none=>rw [hk] at av; cases av
   | some z =>
    rw [hk] at av;cases av;exact aU (by rw [tB,ar]; exact hk) (by rw [yr,hv]; exact hu) (aj k z u hk hu)
  | cU aO h1 af ku iM=>exact .cU (λ_ h=>h) h1 af ku iM
theorem CL {ρ:ab->Value->Prop}(v:Value):R w I ρ (lO v) v cv:=by
 unfold lO;split
 ·exact .aN λ_ h=>h
 ·exact .dead λ_ h=>h
 ·exact .dead λ_ h=>h
 ·rename_i h1 af aI;refine .lit ?_ λ_ h=>h;cases v <;> first | rfl | (exact absurd rfl (af _)) | (exact absurd rfl (aI _))
theorem XY {ρ:ab->Value->Prop}(v:Value):R w I ρ (ofConst v) v cv:=by
 unfold ofConst;split
 ·rename_i vs;split
  ·rename_i hJ;refine .agg (Fs:=λ_=>cv) (by simp) (λk u hu=>?_) ?_ (λ_ _ _ _ _ h=>h.elim) (λc=>⟨λh=>h.elim,λ⟨_,_,h⟩=>h⟩)
   ·exact Array.all_eq_true_iff_forall_mem.1 hJ u (Array.mem_of_getElem? hu)
   ·intro k x u J hu;simp only [List.getElem?_map,Array.getElem?_toList,hu,Option.map_some,Option.some.injEq] at J;subst J;exact CL u
  ·exact .dead λ_ h=>h
 ·exact .dead λ_ h=>h
 ·exact CL v
theorem kf (h:cD w I T g Fs) {x:Operand}{y:ab}(av:bs g x=some y) {a:Act}(aR:a.tmps=T):R w I (dR w T g) y (a.eval x) cv:=by
 cases x with
 | tmp t =>
  simp only [bs] at av;cases J:g t with
  | none=>rw [J] at av; cases av
  | some z =>
   rw [J] at av;simp only [Option.map_some,Option.some.injEq] at av;obtain ⟨v,hv,a1⟩:=h.rel t z J;have uc:a.eval (.tmp t)=v:=by simp [Act.eval,aR,hv]
   rw [uc];have ar:bz g ⟨t,[]⟩=some z:=by simp [bz,J,ab.at]
   have zC:dV w T ⟨t,[]⟩=some v:=by simp [dV,hv,walk]
   subst av;cases a1 with
   | tree a1 =>
    cases z with
    | bM=>exact a1.lk.elim
    | _=>exact F0 2 ar zC a1
   | @bM jW n m p new v bv e cd us news _ a1 =>
    simp only [rp];have:∃ a cap,v=.slice a (n+m) cap:=by
     obtain ⟨_,af⟩:=a1.nB;rcases af with ⟨af,aI⟩ | ⟨b,cap,cur,af,_⟩
     ·exact ⟨none,0,by rw [af]; congr 1; omega⟩
     ·exact ⟨_,cap,af⟩
    obtain ⟨b',cap,rfl⟩:=this;exact .ref rfl ⟨⟨b',_,cap,zC,rfl,Nat.le_refl _⟩,.inr ⟨rfl,p,n,m,new,J,rfl⟩⟩ λ_ h=>h
 | const v=>simp only [bs,Option.some.injEq] at av; subst av; exact XY v
 | global n=>simp [bs] at av
 | func f =>
  simp only [bs,Option.some.injEq] at av;subst av;exact .cU (λ_ h=>h) rfl rfl (by simp) (by simp)
end
end Go.Own
namespace Go.Own
open Go
def jA (P:Program) (t:TypeId):Bool :=
 match P.underlying t,P.info? t with
 | some (.struct _),_=>false
 | some (.array ..),_=>false
 | some _,some i=>i.size == 1
 | _,_=>false
def iA (P:Program) (t:TypeId) (k:Nat):Bool :=
 match P.underlying t,P.info? t with
 | some (.struct _),some i=>i.size == k
 | some (.array ..),some i=>i.size == k
 | _,_=>false
def ft (P:Program) (t e:TypeId) (z:Nat):Bool :=
 match P.underlying t,P.info? e with
 | some (.slice cf),some i=>cf == e&&i.size == z
 | _,_=>false
def y3 (P:Program) (t e:TypeId) (n z:Nat):Bool :=
 match P.underlying t,P.info? e with
 | some (.array cB cf),some i=>cB == n&&cf == e&&i.size == z
 | _,_=>false
def oV (P:Program) (t:TypeId):Bool :=
 match P.underlying t with
 | some .string=>true
 | _=>false
def wR (P:Program) (s d:TypeId):Bool :=
 match P.underlying s,P.underlying d with
 | some (.slice e),some .string=>match P.underlying e with
  | some (.int .u8)=>true
  | _=>false
 | _,_=>false
def iJ (P:Program) (s:TypeId) (f off:Nat) (t:TypeId):Bool :=
 match P.underlying s with
 | some (.struct fs) =>
  match fs[f]? with
  | some fd=>fd.offset == off&&fd.type == t&&(match P.info? t with | some i=>i.size != 0 | none=>false)
  | none=>false
 | _=>false
section
variable {P:Program}{w:World}
theorem HC {t:TypeId}(h:jA P t=true):(isAgg t).run P w=.ok false w/\(sizeOf t).run P w=.ok 1 w:=by
 unfold jA at h;cases hu:P.underlying t with
 | none=>simp [hu] at h
 | some d =>
  cases hi:P.info? t with
  | none=>cases d <;> simp [hu,hi] at h
  | some i=>cases d <;> simp [hu,hi] at h <;> simp [isAgg,run_underlying hu,sizeOf,typeInfo,hi,h]
theorem D9 {t:TypeId}{k:Nat}(h:iA P t k=true):(isAgg t).run P w=.ok true w/\(sizeOf t).run P w=.ok k w:=by
 unfold iA at h;cases hu:P.underlying t with
 | none=>simp [hu] at h
 | some d =>
  cases hi:P.info? t with
  | none=>cases d <;> simp [hu,hi] at h
  | some i=>cases d <;> simp [hu,hi] at h <;> simp [isAgg,run_underlying hu,sizeOf,typeInfo,hi,h]
theorem qG {t e:TypeId}{z:Nat}(h:ft P t e z=true):P.underlying t=some (.slice e)/\P.elem t=e/\(sizeOf e).run P w=.ok z w:=by
 unfold ft at h;cases hu:P.underlying t with
 | none=>simp [hu] at h
 | some d =>
  cases hi:P.info? e with
  | none=>cases d <;> simp [hu,hi] at h
  | some i =>
   cases d <;> simp [hu,hi] at h;obtain ⟨rfl,h⟩:=h;exact ⟨rfl,by simp [Program.elem,hu],by simp [sizeOf,typeInfo,hi,h]⟩
theorem L_ {t e:TypeId}{n z:Nat}(h:y3 P t e n z=true):P.underlying t=some (.array n e)/\(sizeOf e).run P w=.ok z w:=by
 unfold y3 at h;cases hu:P.underlying t with
 | none=>simp [hu] at h
 | some d =>
  cases hi:P.info? e with
  | none=>cases d <;> simp [hu,hi] at h
  | some i =>
   cases d <;> simp [hu,hi] at h;obtain ⟨⟨rfl,rfl⟩,h⟩:=h;exact ⟨rfl,by simp [sizeOf,typeInfo,hi,h]⟩
theorem Ml {s d:TypeId}(h:wR P s d=true):∃ e,P.underlying s=some (.slice e)/\P.underlying e=some (.int .u8)/\P.underlying d=some .string:=by
 unfold wR at h
 split at h
 ·rename_i e h1 af
  split at h
  ·rename_i aI;exact ⟨e,h1,aI,af⟩
  ·cases h
 ·cases h
theorem K6 {t:TypeId}(h:oV P t=true):P.underlying t=some .string:=by
 unfold oV at h;cases hu:P.underlying t with
 | none=>simp [hu] at h
 | some d=>cases d <;> simp [hu] at h; rfl
theorem HS {s:TypeId}{f off:Nat}{t:TypeId}(h:iJ P s f off t=true):∃ fs fd,P.underlying s=some (.struct fs)/\fs[f]?=some fd/\fd.offset=off/\fd.type=t/\∃ i,P.info? t=some i/\i.size≠0:=by
 unfold iJ at h;cases hu:P.underlying s with
 | none=>simp [hu] at h
 | some d =>
  cases d <;> simp [hu] at h;rename_i fs;cases aW:fs[f]? with
  | none=>simp [aW] at h
  | some fd =>
   simp [aW] at h;obtain ⟨⟨h1,af⟩,aI⟩:=h;cases hi:P.info? t with
   | none=>simp [hi] at aI
   | some i=>simp [hi] at aI; exact ⟨fs,fd,rfl,aW,h1,af,i,rfl,aI⟩
theorem add_eq (b o k:Nat):(⟨b,o,none⟩:Addr).add k=⟨b,o+k,none⟩:=by
 unfold Addr.add;split
 ·rename_i h; subst h; rfl
 ·rfl
theorem P8 {s:TypeId}{f off:Nat}{t:TypeId}(h:iJ P s f off t=true) (b o:Nat):(Instr.fieldAt s (.pointer (some ⟨b,o,none⟩)) f).run P w=.ok (.pointer (some ⟨b,o+off,none⟩)) w:=by
 obtain ⟨fs,fd,hu,aW,rfl,rfl,i,hi,aT⟩:=HS h;simp [Instr.fieldAt,run_underlying hu,aW,Instr.sureAddr,fieldPlace,sizeOf,typeInfo,hi,aT,add_eq]
theorem P_ {t:TypeId}(h:jA P t=true) {a:Addr}{v:Value}(aa:w.cell? a=some v):(Instr.loadAt t (.pointer (some a))).run P w=.ok v w:=by
 obtain ⟨h1,af⟩:=HC (w:=w) h;simp [Instr.loadAt,Instr.sureAddr,loadVar,h1,aa]
theorem P9 {t:TypeId}{k:Nat}(h:iA P t k=true) {b o:Nat}{vs:List Value}(ai:vs.length=k) (aa:∀ j v,vs[j]?=some v->w.cell? ⟨b,o+j,none⟩=some v) :
  (Instr.loadAt t (.pointer (some ⟨b,o,none⟩))).run P w=.ok (.agg vs.toArray) w:=by
 obtain ⟨h1,af⟩:=D9 (w:=w) h;have:=run_loadCells_list (P:=P) w ⟨b,o,none⟩ vs (λj v ag=>by rw [add_eq]; exact aa j v ag);rw [ai] at this;simp [Instr.loadAt,Instr.sureAddr,loadVar,h1,af,this]
end
end Go.Own
namespace Go.Own
open Go
section
variable {w:World}{I:bc}{ρ:ab->Value->Prop}{v:Value}{F:bc}
theorem R.ht {a:Value}(h:R w I ρ (.lit a) v F):v=a/\a.oneCell'=true:=by
 cases h with
 | lit hv=>exact ⟨rfl,hv⟩
 | ref J=>simp [ab.isRef] at J
theorem R.sg (h:R w I ρ .aN v F):v=.slice none 0 0:=by
 cases h with
 | aN=>rfl
 | ref J=>simp [ab.isRef] at J
theorem R.nI {p:Place}{k:Nat}(h:R w I ρ (.ptr p k) v F):ρ (.ptr p k) v:=by
 cases h with
 | ref J h=>exact h
theorem R.m_ {z:Nat}{p:Place}{n:Nat}(h:R w I ρ (.a6 z p n) v F):ρ (.a6 z p n) v:=by
 cases h with
 | ref J h=>exact h
theorem R.xC {z:Nat}{p:Place}{lo n:Nat}(h:R w I ρ (.sub z p lo n) v F):ρ (.sub z p lo n) v:=by
 cases h with
 | ref J h=>exact h
theorem R.zH {z n:Nat}{cs:List ab}(h:R w I ρ (.bn z n cs) v F):∃ a cap,v=.slice a n cap/\n<=cap/\cs.length=n * z /\
  (cs≠[]\/0<n->∃ (ad:Addr) (us:Nat->Value),a=some ad/\I ad.block/\ad.spot=none/\(∀ (k:Nat) (x:ab),cs[k]?=some x->(us k).oneCell'=true)/\(∀ (k:Nat) (x:ab),cs[k]?=some x->w.cell? ⟨ad.block,ad.off+k,none⟩=some (us k))/\∀ (k:Nat) (x:ab),cs[k]?=some x->R w I ρ x (us k) cv):=by
 cases h with
 | @hD _ cap a=>exact ⟨a,cap,rfl,Nat.zero_le _,by simp,λh=>by simp at h⟩
 | @bn _ _ cap _ ad us _ aO la bb aA ai h1 aa aj=>exact ⟨_,cap,rfl,la,ai,λ_=>⟨ad,us,rfl,bb,aA,h1,aa,aj⟩⟩
 | ref J=>simp [ab.isRef] at J
theorem R.xB {cs:List ab}(h:R w I ρ (.cG cs) v F):∃ (ad:Addr) (us:Nat->Value),v=.pointer (some ad)/\I ad.block/\ad.spot=none/\(∀ (k:Nat) (x:ab),cs[k]?=some x->(us k).oneCell'=true)/\(∀ (k:Nat) (x:ab),cs[k]?=some x->w.cell? ⟨ad.block,ad.off+k,none⟩=some (us k))/\∀ (k:Nat) (x:ab),cs[k]?=some x->R w I ρ x (us k) cv:=by
 cases h with
 | @cG _ ad us _ aO bb aA h1 aa aj=>exact ⟨ad,us,rfl,bb,aA,h1,aa,aj⟩
 | ref J=>simp [ab.isRef] at J
theorem R.Cn {cs:List ab}(h:R w I ρ (.agg cs) v F) (aO:∀ c,¬ F c):∃ vs:Array Value,v=.agg vs/\cs.length=vs.size/\(∀ (k:Nat) (u:Value),vs[k]?=some u->u.oneCell'=true)/\∀ (k:Nat) (x:ab) (u:Value),cs[k]?=some x->vs[k]?=some u->R w I ρ x u cv:=by
 cases h with
 | @agg _ vs Fs _ ai h1 aj aS pf=>exact ⟨vs,rfl,ai,h1,λk x u J hu=>(aj k x u J hu).empty λc aa=>aO c ((pf c).2 ⟨k,(List.getElem?_eq_some_iff.1 J).1,aa⟩)⟩
 | ref J=>simp [ab.isRef] at J
theorem R.Xy {cs:List ab}(h:R w I ρ (.bX cs) v F) (aO:∀ c,¬ F c):∃ vs:Array Value,v=.tuple vs/\cs.length=vs.size/\∀ (k:Nat) (x:ab) (u:Value),cs[k]?=some x->vs[k]?=some u->R w I ρ x u cv:=by
 cases h with
 | @bX _ vs Fs _ ai aj aS pf=>exact ⟨vs,rfl,ai,λk x u J hu=>(aj k x u J hu).empty λc aa=>aO c ((pf c).2 ⟨k,(List.getElem?_eq_some_iff.1 J).1,aa⟩)⟩
 | ref J=>simp [ab.isRef] at J
theorem R.node {y:ab}{z n:Nat}{cs:List ab}(h:R w I ρ y v F) (av:y=.own z n cs\/y=.obj cs) {k:Nat}{x:ab}(hk:cs[k]?=some x) :
  ∃ b u,addrOf v=some ⟨b,0,none⟩/\w.cell? ⟨b,k,none⟩=some u/\child w v k=some u/\u.oneCell'=true/\∃ bL,R w I ρ x u bL:=by
 rcases av with rfl | rfl
 ·cases h with
  | @own _ _ _ _ e us Fs _ aY ai h1 aj aS au aO =>
   have aQ:k<cs.length:=(List.getElem?_eq_some_iff.1 hk).1;have hu:us[k]?=some us[k]:=List.getElem?_eq_getElem (ai ▸ aQ);have n0:=pL aY hu;obtain ⟨l4,af⟩:=aY;rcases af with ⟨rfl,rfl⟩ | ⟨b,cap,cur,rfl,aP,bY,rest⟩
   ·grind
   ·exact ⟨b,_,rfl,by simpa [child] using n0,n0,h1 k _ hu,Fs k,aj k x _ hk hu⟩
  | ref J=>simp [ab.isRef] at J
 ·cases h with
  | @obj _ b e arr Fs _ aY ai h1 aj aS au aO =>
   have aQ:k<cs.length:=(List.getElem?_eq_some_iff.1 hk).1;have hu:arr[k]?=some arr[k]:=Array.getElem?_eq_getElem (ai ▸ aQ);exact ⟨b,_,rfl,by simp [World.cell?,aY,hu],by simp [child,World.cell?,aY,hu],h1 k _ hu,Fs k,aj k x _ hk hu⟩
  | ref J=>simp [ab.isRef] at J
end
def pX (g:aJ) (d:Nat):Option Operand->Nat->Prop
 | none,j=>j=d
 | some o,j=>∃ k,bs g o=some (.lit (.int k (j:Int)))
inductive c8 (P:Program) (g:aJ):Op->TypeId->ab->Prop
 | move {x:Operand}{ty:TypeId}{y:ab}(J:bs g x=some y):c8 P g (.move x) ty y
 | assign {x:Operand}{ty:TypeId}{y:ab}(J:bs g x=some y):c8 P g (.assign x) ty y
 | pick {c a b:Operand}{ty:TypeId}{t:Bool}{r:ab}(aa:bs g c=some (.lit (.bool t))) (aj:bs g (if t then a else b)=some r):c8 P g (.pick c a b) ty r
 | FA {x:Operand}{ty:TypeId}{p:Place}{k:Nat}(J:bs g x=some (.ptr p k)):c8 P g (.nilCheck x) ty (.ptr p k)
 | qv {x:Operand}{ty:TypeId}{cs:List ab}(J:bs g x=some (.cG cs)):c8 P g (.nilCheck x) ty (.cG cs)
 | Br {x:Operand}{ty s t:TypeId}{f off:Nat}{p:Place}{k:Nat}(J:bs g x=some (.ptr p k)) (aW:iJ P s f off t=true) (cQ:gB g (.ptr p (k+off))):c8 P g (.fieldAddr s x f) ty (.ptr p (k+off))
 | Et {x:Operand}{ty s t:TypeId}{f off:Nat}{cs:List ab}(J:bs g x=some (.cG cs)) (aW:iJ P s f off t=true):c8 P g (.fieldAddr s x f) ty (.cG (cs.drop off))
 | Es {x:Operand}{ty s t:TypeId}{f off:Nat}{cs:List ab}{y:ab}(J:bs g x=some (.agg cs)) (aW:iJ P s f off t=true) (aw:jA P t=true) (av:cs[off]?=some y):c8 P g (.field s x f) ty y
 | HQ {x:Operand}{ty s t:TypeId}{f off k:Nat}{cs:List ab}(J:bs g x=some (.agg cs)) (aW:iJ P s f off t=true) (aw:iA P t k=true) (hk:off+k<=cs.length):c8 P g (.field s x f) ty (.agg ((cs.drop off).take k))
 | E9 {x i:Operand}{ty t e:TypeId}{z n:Nat}{cs:List ab}{nK:IntKind}{j:Nat}(J:bs g x=some (.bn z n cs)) (hi:bs g i=some (.lit (.int nK (j:Int)))) (aw:ft P t e z=true) (ag:j<n):c8 P g (.indexAddr t x i) ty (.cG (cs.drop (j * z)))
 | E8 {x i:Operand}{ty t e:TypeId}{z n:Nat}{p:Place}{nK:IntKind}{j:Nat}(J:bs g x=some (.a6 z p n)) (hi:bs g i=some (.lit (.int nK (j:Int)))) (aw:ft P t e z=true) (ag:j<n) (cQ:gB g (.ptr p (j * z))):c8 P g (.indexAddr t x i) ty (.ptr p (j * z))
 | JM {x i:Operand}{ty t e:TypeId}{z lo n:Nat}{p:Place}{nK:IntKind}{j:Nat}(J:bs g x=some (.sub z p lo n)) (hi:bs g i=some (.lit (.int nK (j:Int)))) (aw:ft P t e z=true) (ag:j<n) (cQ:gB g (.ptr p ((lo+j) * z))):c8 P g (.indexAddr t x i) ty (.ptr p ((lo+j) * z))
 | E7 {x i:Operand}{ty t e:TypeId}{n z k:Nat}{p:Place}{nK:IntKind}{j:Nat}(J:bs g x=some (.ptr p k)) (hi:bs g i=some (.lit (.int nK (j:Int)))) (aw:y3 P t e n z=true) (ag:j<n) (cQ:gB g (.ptr p (k+j * z))):c8 P g (.indexAddr t x i) ty (.ptr p (k+j * z))
 | JL {x i:Operand}{ty t e:TypeId}{n z:Nat}{cs:List ab}{nK:IntKind}{j:Nat}(J:bs g x=some (.cG cs)) (hi:bs g i=some (.lit (.int nK (j:Int)))) (aw:y3 P t e n z=true) (ag:j<n):c8 P g (.indexAddr t x i) ty (.cG (cs.drop (j * z)))
 | Fp {x:Operand}{ty t:TypeId}{c:ab}{cs:List ab}(J:bs g x=some (.cG (c::cs))) (aw:jA P t=true):c8 P g (.load t x) ty c
 | Fq {x:Operand}{ty t:TypeId}{k:Nat}{cs:List ab}(J:bs g x=some (.cG cs)) (aw:iA P t k=true) (hk:k<=cs.length):c8 P g (.load t x) ty (.agg (cs.take k))
 | CB {x:Operand}{ty t:TypeId}{p:Place}{k:Nat}{y:ab}(J:bs g x=some (.ptr p k)) (aw:jA P t=true) (av:bz g (p.push k)=some y):c8 P g (.load t x) ty (gq 0 (p.push k) y)
 | xP {x:Operand}{ty t:TypeId}{p:Place}{k m z n:Nat}{y:ab}{cs:List ab}(J:bs g x=some (.ptr p k)) (aw:iA P t m=true) (av:bz g p=some y) (aa:y=.own z n cs\/y=.obj cs) (hm:k+m<=cs.length):c8 P g (.load t x) ty (.agg (((cs.drop k).take m).mapIdx λi x=>gq 0 (p.push (k+i)) x))
 | E_ {x i:Operand}{ty t:TypeId}{s:ByteArray}{nK:IntKind}{j:Nat}{b:UInt8}(J:bs g x=some (.lit (.string s))) (hi:bs g i=some (.lit (.int nK (j:Int)))) (aw:oV P t=true) (au:s[j]?=some b):c8 P g (.index t x i) ty (.lit (.int .u8 b.toNat))
 | bin {op:BinOp}{x y:Operand}{ty t t2:TypeId}{a b v:Value}(J:bs g x=some (.lit a)) (av:bs g y=some (.lit b)) (hv:v.oneCell'=true) (aj:∀ w,(do eqGuard op t x y a b; binOp op t a b:Sem Value).run P w=.ok v w):c8 P g (.binOp op t x y t2) ty (.lit v)
 | Ba {op:BinOp}{x y:Operand}{ty t t2:TypeId}{az dg:List Value}{v:Value}(J:bs g x=some (.agg (az.map .lit))) (av:bs g y=some (.agg (dg.map .lit))) (hv:v.oneCell'=true) (aj:∀ w,(do eqGuard op t x y (.agg az.toArray) (.agg dg.toArray); binOp op t (.agg az.toArray) (.agg dg.toArray):Sem Value).run P w=.ok v w):c8 P g (.binOp op t x y t2) ty (.lit v)
 | un {op:UnOp}{x:Operand}{ty t:TypeId}{a v:Value}(J:bs g x=some (.lit a)) (hv:v.oneCell'=true) (aj:∀ w,(Op.unary op a).run P w=.ok v w):c8 P g (.unOp op t x) ty (.lit v)
 | conv {x:Operand}{ty s d:TypeId}{a v:Value}(J:bs g x=some (.lit a)) (hv:v.oneCell'=true) (aj:∀ w,(convert s d a).run P w=.ok v w):c8 P g (.convert s d x) ty (.lit v)
 | Eg {x:Operand}{ty s d:TypeId}{n N:Nat}{p:Place}{cs:List ab}{xs:List Int}(J:bs g x=some (.a6 1 p n)) (ar:bz g p=some (.own 1 N cs)) (aE:n<=N) (hC:cs.take n=xs.map λb=>.lit (.int .u8 b)) (aw:wR P s d=true):c8 P g (.convert s d x) ty (.lit (.string (strOfNums xs)))
 | Eh {x:Operand}{ty s d:TypeId}{n:Nat}{xs:List Int}(J:bs g x=some (.bn 1 n (xs.map λb=>.lit (.int .u8 b)))) (aw:wR P s d=true):c8 P g (.convert s d x) ty (.lit (.string (strOfNums xs)))
 | HN {xs:Array Operand}{gl:Array TypeId}{ty:TypeId}{f:FuncId}{vs:List Value}{v:Value}(J:xs.toList.map (bs g)=vs.map λv=>some (.lit v)) (hv:v.oneCell'=true)
   (aj:∀ w,(callFunc f vs.toArray).run P w=.ok (.value v) w):c8 P g (.call { callee:=.value (.func f),args:=xs,argTypes:=gl }) ty (.lit v)
 | Eo {x:Operand}{ty:TypeId}{i:Nat}{cs:List ab}{y:ab}(J:bs g x=some (.bX cs)) (av:cs[i]?=some y):c8 P g (.extract x i) ty y
 | AF {x:Operand}{lo hi:Option Operand}{ty t e:TypeId}{z n l h:Nat}{cs:List ab}(J:bs g x=some (.bn z n cs)) (ai:pX g 0 lo l) (bY:pX g n hi h) (aw:ft P t e z=true) (sP:l<=h) (aE:h<=n):c8 P g (.slice t x lo hi none) ty (.bn z (h - l) ((cs.drop (l * z)).take ((h - l) * z)))
 | K3 {x:Operand}{lo hi:Option Operand}{ty t e:TypeId}{z n h:Nat}{p:Place}(J:bs g x=some (.a6 z p n)) (ai:pX g 0 lo 0) (bY:pX g n hi h) (aw:ft P t e z=true) (aE:h<=n) (cQ:gB g (.a6 z p h)):c8 P g (.slice t x lo hi none) ty (.a6 z p h)
 | Gg {x:Operand}{lo hi:Option Operand}{ty t e:TypeId}{z n l h:Nat}{p:Place}(J:bs g x=some (.a6 z p n)) (ai:pX g 0 lo l) (bY:pX g n hi h) (aw:ft P t e z=true) (sP:l<=h) (aE:h<=n) (cQ:gB g (.sub z p l (h - l))):c8 P g (.slice t x lo hi none) ty (.sub z p l (h - l))
 | AG {x:Operand}{lo hi:Option Operand}{ty t:TypeId}{l h:Nat}{s:ByteArray}(J:bs g x=some (.lit (.string s))) (ai:pX g 0 lo l) (bY:pX g s.size hi h) (aw:oV P t=true) (sP:l<=h) (aE:h<=s.size):c8 P g (.slice t x lo hi none) ty (.lit (.string (s.extract l h)))
 | Cy {x:Operand}{ty t e:TypeId}{z bA n:Nat}{cs:List ab}(J:bs g x=some (.bn z n cs)) (aw:ft P t e bA=true):c8 P g (.call { callee:=.builtin .len,args:=#[x],argTypes:=#[t] }) ty (.lit (.int .i64 n))
 | Cx {x:Operand}{ty t e:TypeId}{z bA n:Nat}{p:Place}(J:bs g x=some (.a6 z p n)) (aw:ft P t e bA=true):c8 P g (.call { callee:=.builtin .len,args:=#[x],argTypes:=#[t] }) ty (.lit (.int .i64 n))
 | J8 {x:Operand}{ty t e:TypeId}{z bA lo n:Nat}{p:Place}(J:bs g x=some (.sub z p lo n)) (aw:ft P t e bA=true):c8 P g (.call { callee:=.builtin .len,args:=#[x],argTypes:=#[t] }) ty (.lit (.int .i64 n))
 | J7 {x:Operand}{ty t e:TypeId}{bA:Nat}(J:bs g x=some .aN) (aw:ft P t e bA=true):c8 P g (.call { callee:=.builtin .len,args:=#[x],argTypes:=#[t] }) ty (.lit (.int .i64 0))
 | lits {b:Builtin}{xs:Array Operand}{gl:Array TypeId}{ty:TypeId}{vs:List Value}{v:Value}(J:xs.toList.map (bs g)=vs.map λv=>some (.lit v)) (hv:v.oneCell'=true)
   (aj:∀ w (cs:Array Bool),(builtin b gl ty cs vs.toArray).run P w=.ok (.value v) w):c8 P g (.call { callee:=.builtin b,args:=xs,argTypes:=gl }) ty (.lit v)
 | Fo {x y:Operand}{ty t:TypeId}{p:Place}{q:Array MapEntry->Nat->Prop}{ok:Bool}{Y X:ab}{oc V:Value}(J:bs g x=some (.gw p)) (ar:bz g p=some (.mp q)) (av:bs g y=some Y)
   (dj:∀ (w:World) (I:bc) (ρ:ab->Value->Prop) (v:Value),R w I ρ Y v cv->v=oc) (a1:∀ (w:World) (I:bc) (ρ:ab->Value->Prop),R w I ρ X V cv)
   (aj:∀ (w:World) (b:Nat) (es:Array MapEntry) (clock:Nat),w.heap[b]?=some (.map es clock)->q es clock->(Instr.lookup t (.map (some b)) oc ok).run P w=.ok V w):c8 P g (.lookup t x y ok) ty X
 | CA {x y:Operand}{ty t:TypeId}{q:Array MapEntry->Nat->Prop}{ok:Bool}{Y X:ab}{oc V:Value}(J:bs g x=some (.imp q)) (av:bs g y=some Y)
   (dj:∀ (w:World) (I:bc) (ρ:ab->Value->Prop) (v:Value),R w I ρ Y v cv->v=oc) (a1:∀ (w:World) (I:bc) (ρ:ab->Value->Prop),R w I ρ X V cv)
   (aj:∀ (w:World) (b:Nat) (es:Array MapEntry) (clock:Nat),w.heap[b]?=some (.map es clock)->q es clock->(Instr.lookup t (.map (some b)) oc ok).run P w=.ok V w):c8 P g (.lookup t x y ok) ty X
theorem R.OV {w:World}{I:bc}{ρ:ab->Value->Prop}{p:Place}{v:Value}{F:bc}(h:R w I ρ (.gw p) v F):ρ (.gw p) v:=by
 cases h with
 | ref _ h _=>exact h
theorem R.JQ {w:World}{I:bc}{ρ:ab->Value->Prop}{q:Array MapEntry->Nat->Prop}{v:Value}{F:bc}(h:R w I ρ (.mp q) v F):∃ b es clock,v=.map (some b)/\w.heap[b]?=some (.map es clock)/\q es clock/\∀ c,F c↔c=b:=by
 cases h with
 | ref J=>simp [ab.isRef] at J
 | mp aY bg aO=>exact ⟨_,_,_,rfl,aY,bg,aO⟩
theorem R.Xx {w:World}{I:bc}{ρ:ab->Value->Prop}{q:Array MapEntry->Nat->Prop}{v:Value}{F:bc}(h:R w I ρ (.imp q) v F):∃ b es clock,v=.map (some b)/\w.heap[b]?=some (.map es clock)/\q es clock:=by
 cases h with
 | ref J=>simp [ab.isRef] at J
 | imp _ _ aY bg=>exact ⟨_,_,_,rfl,aY,bg⟩
end Go.Own
namespace Go.Own
open Go
section
variable {P:Program}{w:World}{I:bc}{T:Array Value}{g:aJ}{Fs:Nat->bc}
theorem pX.sound (h:cD w I T g Fs) {d:Nat}{x:Option Operand}{j:Nat}(au:pX g d x j) {a:Act}(aR:a.tmps=T):(x.map a.eval=none/\j=d)\/∃ k,x.map a.eval=some (.int k (j:Int)):=by
 cases x with
 | none=>exact .inl ⟨rfl,au⟩
 | some o =>
  obtain ⟨k,hk⟩:=au;exact .inr ⟨k,by rw [Option.map_some,(kf h hk aR).ht.1]⟩
theorem F5 {len cap l h:Nat}{lo hi:Option Value}(ai:(lo=none/\l=0)\/∃ k,lo=some (.int k (l:Int))) (bY:(hi=none/\h=len)\/∃ k,hi=some (.int k (h:Int))) (b:Bool) (sP:l<=h) (aa:h<=cap) :
  (Instr.sliceBounds b len cap lo hi none).run P w=.ok (l,h,cap) w:=by
 rcases ai with ⟨rfl,rfl⟩ | ⟨k,rfl⟩ <;> rcases bY with ⟨rfl,rfl⟩ | ⟨ke,rfl⟩ <;> simp [Instr.sliceBounds,Instr.sliceBound,asIntOf,sP,aa]
theorem O6 (h:cD w I T g Fs) {a:Act}(aR:a.tmps=T):∀ (xs:List Operand) (vs:List Value),xs.map (bs g)=vs.map (λv=>some (.lit v))->xs.map a.eval=vs
 | [],[],_=>rfl
 | [],_::_,h=>by simp at h
 | _::_,[],h=>by simp at h
 | x::xs,v::vs,J=>by
  simp only [List.map_cons,List.cons.injEq] at J;rw [List.map_cons,(kf h J.1 aR).ht.1,O6 h aR xs vs J.2]
theorem LX {w:World}{I:bc}{ρ:ab->Value->Prop}{v:Value}{az:List Value}
  (h:∃ vs:Array Value,v=.agg vs/\(az.map ab.lit).length=vs.size/\(∀ (k:Nat) (u:Value),vs[k]?=some u->u.oneCell'=true)/\∀ (k:Nat) (x:ab) (u:Value),(az.map ab.lit)[k]?=some x->vs[k]?=some u->R w I ρ x u cv):v=.agg az.toArray:=by
 obtain ⟨vs,rfl,ai,-,aj⟩:=h;congr 1;apply Array.ext (by simpa using ai.symm);intro i h1 af;have aI:i<az.length:=by simpa using af
 have:=(aj i (.lit az[i]) vs[i] (by simp [aI]) (Array.getElem?_eq_getElem h1)).ht.1
 grind
theorem c8.sound (h:cD w I T g Fs) {a:Act}(aR:a.tmps=T) {o:Oper}{kG:ab}(ar:c8 P g o.op o.type kG) :
  ∃ v,(execOp a.eval o).run P w=.ok (.value v) w/\R w I (dR w T g) kG v cv:=by
 obtain ⟨dst,op,ty,pos,after,guard⟩:=o;simp only at ar;have fZ:∀ {x:Operand}{y:ab},bs g x=some y->R w I (dR w T g) y (a.eval x) cv:=λav=>kf h av aR;have no:∀ c,¬ cv c:=λ_ h=>h;cases ar with
 | move J=>exact ⟨_,by simp [execOp],fZ J⟩
 | assign J=>exact ⟨_,by simp [execOp],fZ J⟩
 | @pick c x y _ t r aa aj =>
  have vn:=(fZ aa).ht.1;refine ⟨_,?_,fZ aj⟩;simp [execOp,vn,asBool]
  grind
 | @FA x _ p k J =>
  have aj:=fZ J;obtain ⟨⟨u,ad,h1,af,aI⟩,bD⟩:=aj.nI
  simp_all [execOp]
 | @qv x _ cs J =>
  have aj:=fZ J;obtain ⟨ad,us,aI,_⟩:=aj.xB
  simp_all [execOp]
 | @Br x _ s t f off p k J aW cQ =>
  obtain ⟨⟨u,ad,h1,af,aI⟩,bD⟩:=(fZ J).nI;refine ⟨.pointer (some ⟨ad.block,ad.off+k+off,none⟩),by simp [execOp,aI,P8 aW],.ref rfl ⟨⟨u,ad,h1,af,by rw [Nat.add_assoc]⟩,cQ⟩ no⟩
 | @Et x _ s t f off cs J aW =>
  obtain ⟨ad,us,aI,bb,aA,hj,aa,aj⟩:=(fZ J).xB;obtain ⟨b,o,sp⟩:=ad;simp only at aA;subst aA;refine ⟨.pointer (some ⟨b,o+off,none⟩),by simp [execOp,aI,P8 aW],.cG (us:=λk=>us (off+k)) no bb rfl (λk x hk=>hj _ x (by rwa [List.getElem?_drop] at hk)) (λk x hk=>?_) λk x hk=>?_⟩
  ·grind
  grind
 | @Es x _ s t f off cs y J aW aw av =>
  obtain ⟨vs,aI,ai,hj,aj⟩:=(fZ J).Cn no;obtain ⟨fs,fd,hu,IM,rfl,rfl,i,hi,aT⟩:=HS aW;have hk:fd.offset<cs.length:=(List.getElem?_eq_some_iff.1 av).1;have hv:vs[fd.offset]?=some vs[fd.offset]:=Array.getElem?_eq_getElem (ai ▸ hk);refine ⟨_,?_,aj _ kG _ av hv⟩;simp [execOp,aI,Instr.field,run_underlying hu,IM,asAgg,part,(HC (w:=w) aw).1,hv]
 | @HQ x _ s t f off k cs J aW aw hk =>
  obtain ⟨vs,aI,ai,hj,aj⟩:=(fZ J).Cn no;obtain ⟨fs,fd,hu,IM,rfl,rfl,i,hi,aT⟩:=HS aW;refine ⟨.agg (vs.extract fd.offset (fd.offset+k)),?_,.agg (Fs:=λ_=>cv) (by simp [ai]; omega) (λj u jH=>by
   rw [Array.getElem?_extract] at jH
   grind) (λj y u av jH=>?_) (λ_ _ _ _ _ h=>h.elim) (λc=>⟨λh=>h.elim,λ⟨_,_,h⟩=>h⟩)⟩
  ·simp [execOp,aI,Instr.field,run_underlying hu,IM,asAgg,part,(D9 (w:=w) aw).1,(D9 (w:=w) aw).2]
  grind
 | @E9 x i _ t e z n cs nK j J hi aw ag =>
  obtain ⟨hu,he,aX⟩:=qG (w:=w) aw;obtain ⟨lB,cap,aI,_,ai,hm⟩:=(fZ J).zH;obtain ⟨ad,us,rfl,bb,aA,hj,aa,aj⟩:=hm (.inr (by omega));obtain ⟨b,o,sp⟩:=ad;simp only at aA;subst aA;have sN:=(fZ hi).ht.1;refine ⟨.pointer (some ⟨b,o+j * z,none⟩),?_,.cG (us:=λk=>us (j * z+k)) no bb rfl (λk x hk=>hj _ x (by rwa [List.getElem?_drop] at hk)) (λk x hk=>?_) λk x hk=>?_⟩
  ·simp [execOp,aI,sN,Instr.indexAt,run_underlying hu,asIntOf,ag,aX,add_eq]
  ·grind
  grind
 | @E8 x i _ t e z n p nK j J hi aw ag cQ =>
  obtain ⟨hu,he,aX⟩:=qG (w:=w) aw;obtain ⟨⟨lB,N,cap,h1,af,aI⟩,bD⟩:=(fZ J).m_;have sN:=(fZ hi).ht.1;obtain ⟨y,av,jW,dx,cs,eI,aQ⟩:=cQ;obtain ⟨v,cw,hv,dF,_⟩:=h.part av (by rcases eI with rfl | rfl <;> simp);rw [h1] at hv;cases hv;obtain ⟨b,u,fP,l2,_,_⟩:=dF.node eI (List.getElem?_eq_getElem aQ);cases lB with
  | none=>simp [addrOf] at fP
  | some ad =>
   simp only [addrOf,Option.some.injEq] at fP;subst fP;refine ⟨.pointer (some ⟨b,j * z,none⟩),?_,.ref rfl ⟨⟨_,_,h1,rfl,by simp⟩,y,av,jW,dx,cs,eI,aQ⟩ no⟩;simp [execOp,af,sN,Instr.indexAt,run_underlying hu,asIntOf,ag,aX,add_eq]
 | @JM x i _ t e z lo n p nK j J hi aw ag cQ =>
  obtain ⟨hu,he,aX⟩:=qG (w:=w) aw;obtain ⟨⟨lB,N,cap,b',mM,h1,af,_,aI,cF⟩,bD⟩:=(fZ J).xC;obtain ⟨ad,rfl,rfl⟩:=cF (by omega);have sN:=(fZ hi).ht.1;obtain ⟨y,av,jW,dx,cs,eI,aQ⟩:=cQ;obtain ⟨v,cw,hv,dF,_⟩:=h.part av (by rcases eI with rfl | rfl <;> simp);rw [h1] at hv;cases hv;obtain ⟨b,u,fP,l2,_,_⟩:=dF.node eI (List.getElem?_eq_getElem aQ);simp only [addrOf,Option.some.injEq] at fP;subst fP;refine ⟨.pointer (some ⟨b,(lo+j) * z,none⟩),?_,.ref rfl ⟨⟨_,_,h1,rfl,by simp⟩,y,av,jW,dx,cs,eI,aQ⟩ no⟩;simp [execOp,af,sN,Instr.indexAt,run_underlying hu,asIntOf,ag,aX,add_eq,Nat.add_mul]
 | @E7 x i _ t e n z k p nK j J hi aw ag cQ =>
  obtain ⟨hu,aX⟩:=L_ (w:=w) aw;obtain ⟨⟨u,ad,h1,af,aI⟩,bD⟩:=(fZ J).nI;have sN:=(fZ hi).ht.1;refine ⟨.pointer (some ⟨ad.block,ad.off+k+j * z,none⟩),?_,.ref rfl ⟨⟨u,ad,h1,af,by rw [Nat.add_assoc]⟩,cQ⟩ no⟩;simp [execOp,aI,sN,Instr.indexAt,run_underlying hu,Instr.sureAddr,asIntOf,ag,aX,add_eq]
 | @JL x i _ t e n z cs nK j J hi aw ag =>
  obtain ⟨hu,aX⟩:=L_ (w:=w) aw;obtain ⟨ad,us,aI,bb,aA,hj,aa,aj⟩:=(fZ J).xB;obtain ⟨b,o,sp⟩:=ad;simp only at aA;subst aA;have sN:=(fZ hi).ht.1;refine ⟨.pointer (some ⟨b,o+j * z,none⟩),?_,.cG (us:=λk=>us (j * z+k)) no bb rfl (λk x hk=>hj _ x (by rwa [List.getElem?_drop] at hk)) (λk x hk=>?_) λk x hk=>?_⟩
  ·simp [execOp,aI,sN,Instr.indexAt,run_underlying hu,Instr.sureAddr,asIntOf,ag,aX,add_eq]
  ·grind
  grind
 | @Fp x _ t c cs J aw =>
  obtain ⟨ad,us,aI,bb,aA,hj,aa,aj⟩:=(fZ J).xB;obtain ⟨b,o,sp⟩:=ad;simp only at aA;subst aA;have aT:w.cell? ⟨b,o,none⟩=some (us 0):=by simpa using aa 0 kG rfl
  simp_all [execOp,P_]
 | @Fq x _ t k cs J aw hk =>
  obtain ⟨ad,us,aI,bb,aA,hj,aa,aj⟩:=(fZ J).xB;obtain ⟨b,o,sp⟩:=ad;simp only at aA;subst aA;have V8:∀ j v,((List.range k).map us)[j]?=some v->w.cell? ⟨b,o+j,none⟩=some v:=by
   grind
  refine ⟨.agg ((List.range k).map us).toArray,by simp [execOp,aI,P9 aw (by simp) V8],.agg (Fs:=λ_=>cv) (by simp; omega) (λj u jH=>by
   grind) (λj y u av jH=>?_) (λ_ _ _ _ _ h=>h.elim) (λc=>⟨λh=>h.elim,λ⟨_,_,h⟩=>h⟩)⟩
  grind
 | @CB x _ t p k y J aw av =>
  obtain ⟨⟨u,ad,h1,af,aI⟩,bD⟩:=(fZ J).nI;rw [tB] at av;cases aE:bz g p with
  | none=>rw [aE] at av; cases av
  | some nd =>
   rw [aE] at av;simp only [Option.bind_some] at av;obtain ⟨y',oO,jW,dx,cs,eI,aQ⟩:=bD;rw [aE] at oO;cases oO;obtain ⟨v,cw,hv,dF,dy⟩:=h.part aE (by rcases eI with rfl | rfl <;> simp);rw [h1] at hv;cases hv;have h6:cs[k]?=some y:=by rcases eI with rfl | rfl <;> simpa [ab.kids] using av
   obtain ⟨b,gU,fP,l2,n0,hj,bL,kQ⟩:=dF.node eI h6;rw [fP] at af;cases af;refine ⟨gU,by simp only [execOp,aI]; simp [P_ aw l2],F0 0 (by rw [tB,aE]; exact av) (by rw [yr,h1]; exact n0) kQ⟩
 | @xP x _ t p k m z n y cs J aw av eI hm =>
  obtain ⟨⟨u,ad,h1,af,aI⟩,bD⟩:=(fZ J).nI;obtain ⟨v,cw,hv,dF,dy⟩:=h.part av (by rcases eI with rfl | rfl <;> simp);rw [h1] at hv;cases hv;have vl:∃ b,ad=⟨b,0,none⟩:=by
   obtain ⟨y',oO,jW,dx,cs',OP,aQ⟩:=bD;rw [av] at oO;cases oO;have:cs'=cs:=by rcases eI with rfl | rfl <;> rcases OP with bY | bY <;> cases bY <;> rfl
   subst this;obtain ⟨b,gU,fP,_⟩:=dF.node OP (List.getElem?_eq_getElem aQ)
   grind
  obtain ⟨b,rfl⟩:=vl;have IZ:y.kids=cs:=by rcases eI with rfl | rfl <;> rfl
  have cell:∀ j,j<m->∃ gU,w.cell? ⟨b,k+j,none⟩=some gU/\gU.oneCell'=true/\∃ lS,cs[k+j]?=some lS/\R w I (dR w T g) (gq 0 (p.push (k+j)) lS) gU cv:=by
   intro j ag;have gg:cs[k+j]?=some cs[k+j]:=List.getElem?_eq_getElem (by omega);obtain ⟨ec,gU,fP,l2,n0,hj,bL,kQ⟩:=dF.node eI gg;rw [af] at fP;cases fP;exact ⟨gU,l2,hj,_,gg,F0 0 (by rw [tB,av]; simp [IZ]) (by rw [yr,h1]; exact n0) kQ⟩
  have hex:∃ us:List Value,us.length=m/\∀ j v,us[j]?=some v->w.cell? ⟨b,k+j,none⟩=some v:=by
   refine ⟨(List.range m).map λj=>(w.cell? ⟨b,k+j,none⟩).getD undef,by simp,?_⟩
   grind
  obtain ⟨us,n5,WK⟩:=hex;refine ⟨.agg us.toArray,by simp only [execOp,aI]; simp [P9 aw n5 (b:=b) (o:=k) WK],.agg (Fs:=λ_=>cv) (by simp; omega) (λj u jH=>by
   grind) (λj jf u vI jH=>?_) (λ_ _ _ _ _ h=>h.elim) (λc=>⟨λh=>h.elim,λ⟨_,_,h⟩=>h⟩)⟩
  grind
 | @Eg x _ s d n N p cs xs J ar aE hC aw =>
  obtain ⟨e,aA,he,aS⟩:=Ml aw;obtain ⟨⟨lB,iW,cap,h1,af,aI⟩,_⟩:=(fZ J).m_;obtain ⟨v,cw,hv,dF,dy⟩:=h.part ar (by simp);rw [h1] at hv;cases hv;have gR:(cs.take n).length=n:=by
   obtain ⟨_,_,_,ai⟩:=dF.ng
   grind
  have hlen:xs.length=n:=by rw [<- gR,hC,List.length_map]
  refine ⟨_,?_,.lit rfl no⟩;obtain ⟨_,_,i_,_,_,q9,q'⟩:=dF.ng;cases i_;cases lB with
  | none =>
   have aT:n=0:=by
    grind
   have:xs=[]:=List.eq_nil_of_length_eq_zero (hlen.trans aT);subst this;have aj:=run_convert_bytes_nil (P:=P) (w:=w) s e aA he n cap d aS;simp [execOp,af,aj];rfl
  | some ad =>
   obtain ⟨b,o,sp⟩:=ad;obtain ⟨rfl,rfl⟩:=q9 _ rfl;have aj:=run_convert_bytes_arg (P:=P) w s e aA he b 0 n cap xs hlen (λi hi=>by
    have IF:(cs.take n)[i]?=some (.lit (.int .u8 (xs.getD i 0))):=by
     grind
    have VE:cs[i]?=some (.lit (.int .u8 (xs.getD i 0))):=by
     grind
    obtain ⟨ec,u,fP,l2,_,_,bL,kQ⟩:=dF.node (.inl rfl) VE;simp only [addrOf,Option.some.injEq,Addr.mk.injEq,and_true] at fP;subst fP;rw [Nat.zero_add,l2,kQ.ht.1]) d aS
   simp_all [execOp]
 | @Eh x _ s d n xs J aw =>
  obtain ⟨e,aA,he,aS⟩:=Ml aw;have a1:=fZ J;generalize uc:a.eval x=v at a1;refine ⟨_,?_,.lit rfl no⟩;generalize hC:(xs.map λb=>ab.lit (.int .u8 b))=cs at a1;cases a1 with
  | ref J=>simp [ab.isRef] at J
  | @hD _ cap lB _ aO =>
   have:xs=[]:=by simpa using hC
   subst this;cases lB with
   | none =>
    have aj:=run_convert_bytes_nil (P:=P) (w:=w) s e aA he 0 cap d aS;simp [execOp,uc,aj];rfl
   | some ad =>
    have ai:(loadCells ad 0).run P w=.ok (([]:List Int).map (Value.int .u8)).toArray w:=by
     have:=run_loadCells_list (P:=P) w ad [] (λj v ag=>by simp at ag)
     grind
    have aj:=run_bytesToString w ad 0 cap [] ai;have aa:=run_convert_bytes_string (P:=P) w s d e (some ad) 0 cap aA he aS;rw [aj] at aa;simp [execOp,uc,aa];rfl
  | @bn _ _ cap _ ad us _ aO la bb kv ai h1 aa aj =>
   obtain ⟨b,o,sp⟩:=ad;simp only at kv;subst kv;have hlen:xs.length=n:=by rw [<- List.length_map (f:=λb=>ab.lit (.int .u8 b)),hC,ai,Nat.mul_one]
   have dN:=run_convert_bytes_arg (P:=P) w s e aA he b o n cap xs hlen (λi hi=>by
    have IF:cs[i]?=some (.lit (.int .u8 (xs.getD i 0))):=by
     grind
    have:=aa i _ IF;simp only at this;rw [this,(aj i _ IF).ht.1]) d aS
   simp_all [execOp]
 | @HN xs gl _ f vs v J hv aj =>
  refine ⟨v,?_,.lit hv no⟩;have xp:xs.map a.eval=vs.toArray:=by
   apply Array.toList_inj.1;apply List.ext_getElem?;intro k;have:=congrArg (·[k]?) J;simp only [List.getElem?_map] at this;rw [Array.toList_map,List.getElem?_map];cases hk:xs.toList[k]? with
   | none =>
    grind
   | some o =>
    rw [hk] at this;cases hv:vs[k]? with
    | none=>rw [hv] at this; cases this
    | some v =>
     rw [hv] at this;simp only [Option.map_some,Option.some.injEq] at this ⊢;rw [(fZ this).ht.1]
  have aW:a.eval (.func f)=.func (.func f) #[] #[]:=rfl
  simp_all [execOp,resolve,Deferred.ofValue,invoke]
 | @E_ x i _ t s nK j b J hi aw au =>
  have vA:=(fZ J).ht.1;have sN:=(fZ hi).ht.1;refine ⟨.int .u8 b.toNat,?_,.lit rfl no⟩
  simp_all [execOp,Instr.index,run_underlying,K6,asIntOf]
 | @bin op x y _ t t2 b' b v J av hv aj =>
  have h1:=(fZ J).ht.1;have af:=(fZ av).ht.1;refine ⟨v,?_,.lit hv no⟩
  grind [execOp,Sem.run_bind,Result.andThen_ok,Sem.run_pure]
 | @Ba op x y _ t t2 az dg v J av hv aj =>
  have h1:=LX ((fZ J).Cn no);have af:=LX ((fZ av).Cn no);refine ⟨v,?_,.lit hv no⟩
  grind [execOp,Sem.run_bind,Result.andThen_ok,Sem.run_pure]
 | @un op x _ t b' v J hv aj =>
  have h1:=(fZ J).ht.1;exact ⟨v,by simp [execOp,h1,aj],.lit hv no⟩
 | @conv x _ s d b' v J hv aj =>
  have h1:=(fZ J).ht.1;exact ⟨v,by simp [execOp,h1,aj],.lit hv no⟩
 | @Eo x _ i cs y J av =>
  obtain ⟨vs,aI,ai,aj⟩:=(fZ J).Xy no;have hk:i<cs.length:=(List.getElem?_eq_some_iff.1 av).1;have hv:vs[i]?=some vs[i]:=Array.getElem?_eq_getElem (ai ▸ hk);exact ⟨_,by simp [execOp,aI,Instr.extract,hv],aj _ kG _ av hv⟩
 | @AF x lo hi _ t e z n l bY cs J ai vr aw sP aE =>
  obtain ⟨hu,he,aX⟩:=qG (w:=w) aw;obtain ⟨lB,cap,aI,la,hlen,hm⟩:=(fZ J).zH;have au:=F5 (P:=P) (w:=w) (len:=n) (cap:=cap) (ai.sound h aR) (vr.sound h aR) true sP (by omega);have hK:(execOp a.eval { dst:=dst,op:=.slice t x lo hi none,type:=ty,pos:=pos,after:=after,guard:=guard }).run P w=.ok (.value (sliced lB l bY cap z)) w:=by
   simp_all [execOp,Instr.sliceAt,run_underlying,Instr.slice,sliced]
  refine ⟨_,hK,?_⟩;by_cases aT:bY - l=0
  ·rw [aT];simp only [Nat.zero_mul,List.take_zero,sliced,aT];exact .hD no
  ·obtain ⟨ad,us,rfl,bb,aA,hj,aa,aj⟩:=hm (.inr (by omega));obtain ⟨b,o,sp⟩:=ad;simp only at aA;subst aA;have gR:cap≠l:=by omega
   simp only [sliced,gR,if_false,Option.map_some,add_eq];have BS:((cs.drop (l * z)).take ((bY - l) * z)).length=(bY - l) * z:=by
    rw [List.length_take,List.length_drop,hlen];have:(bY - l) * z+l * z<=n * z:=by rw [<- Nat.add_mul]; exact Nat.mul_le_mul_right _ (by omega)
    omega
   refine .bn (us:=λk=>us (l * z+k)) no (by omega) bb rfl BS (λk x hk=>hj (l * z+k) x (by
    grind)) (λk x hk=>?_) λk x hk=>?_
   ·grind
   grind
 | @K3 x lo hi _ t e z n bY p J ai vr aw aE cQ =>
  obtain ⟨hu,he,aX⟩:=qG (w:=w) aw;obtain ⟨⟨lB,N,cap,h1,af,aI⟩,bD⟩:=(fZ J).m_;have la:N<=cap:=by
   rcases bD with ⟨iW,cs,cF,dS⟩ | ⟨aT,q,gG,m,new,cF,dS⟩
   ·obtain ⟨v,cw,hv,dF,_⟩:=h.part cF (by simp);rw [h1] at hv;obtain ⟨_,rP,N8,hle,_⟩:=dF.ng
    grind
   ·obtain ⟨v,hv,dF⟩:=h.rel _ _ cF;simp only [dV,hv,aT,walk,Option.some.injEq] at h1;subst h1;obtain ⟨bv,cf,cd,us,news,dF⟩:=dF.vL;obtain ⟨_,nB⟩:=dF.nB
    grind
  have au:=F5 (P:=P) (w:=w) (len:=n) (cap:=cap) (ai.sound h aR) (vr.sound h aR) true (Nat.zero_le _) (by omega);refine ⟨.slice lB bY cap,?_,.ref rfl ⟨⟨lB,N,cap,h1,rfl,by omega⟩,cQ⟩ no⟩
  simp_all [execOp,Instr.sliceAt,run_underlying,Instr.slice,Addr.add]
 | @Gg x lo hi _ t e z n l bY p J ai vr aw sP aE cQ =>
  obtain ⟨hu,he,aX⟩:=qG (w:=w) aw;obtain ⟨⟨lB,N,cap,h1,af,aI⟩,bD⟩:=(fZ J).m_;obtain ⟨iW,cs,cF,dS⟩:=cQ;obtain ⟨v,cw,hv,dF,_⟩:=h.part cF (by simp);rw [h1] at hv;obtain ⟨a2,rP,N8,hle,hlen,q9,q'⟩:=dF.ng;rw [N8] at hv;cases hv;have au:=F5 (P:=P) (w:=w) (len:=n) (cap:=cap) (ai.sound h aR) (vr.sound h aR) true sP (by omega);refine ⟨sliced lB l bY cap z,?_,.ref rfl ⟨⟨lB,_,cap,_,_,h1,rfl,by omega,by omega,λsR=>?_⟩,_,cs,cF,dS⟩ no⟩
  ·simp_all [execOp,Instr.sliceAt,run_underlying,Instr.slice,sliced]
  ·have aA:=q' (by omega);cases lB with
   | none=>simp at aA
   | some ad =>
    obtain ⟨aT,i'⟩:=q9 ad rfl;obtain ⟨b,o,sp⟩:=ad
    grind [add_eq]
 | @AG x lo hi _ t l bY s J ai vr aw sP aE =>
  have vA:=(fZ J).ht.1;have au:=F5 (P:=P) (w:=w) (len:=s.size) (cap:=s.size) (ai.sound h aR) (vr.sound h aR) false sP aE;exact ⟨.string (s.extract l bY),by simp [execOp,vA,Instr.sliceAt,run_underlying (K6 aw),Instr.slice,au],.lit rfl no⟩
 | @Cy x _ t e z bA n cs J aw =>
  obtain ⟨hu,he,aX⟩:=qG (w:=w) aw;obtain ⟨lB,cap,aI,_⟩:=(fZ J).zH;exact ⟨_,by simp [execOp,resolve,invoke,builtin,aI,Builtin.len_,run_underlying hu,goInt],.lit rfl no⟩
 | @Cx x _ t e z bA n p J aw =>
  obtain ⟨hu,he,aX⟩:=qG (w:=w) aw;obtain ⟨⟨lB,N,cap,h1,af,aI⟩,bD⟩:=(fZ J).m_;exact ⟨_,by simp [execOp,resolve,invoke,builtin,af,Builtin.len_,run_underlying hu,goInt],.lit rfl no⟩
 | @J8 x _ t e z bA lo n p J aw =>
  obtain ⟨hu,he,aX⟩:=qG (w:=w) aw;obtain ⟨⟨lB,N,cap,b',mM,h1,af,_,aI,cF⟩,bD⟩:=(fZ J).xC;exact ⟨_,by simp [execOp,resolve,invoke,builtin,af,Builtin.len_,run_underlying hu,goInt],.lit rfl no⟩
 | @J7 x _ t e bA J aw =>
  obtain ⟨hu,he,aX⟩:=qG (w:=w) aw;have af:=(fZ J).sg;exact ⟨_,by simp [execOp,resolve,invoke,builtin,af,Builtin.len_,run_underlying hu,goInt],.lit rfl no⟩
 | @lits b xs gl _ vs v J hv aj =>
  have qf:xs.map a.eval=vs.toArray:=by
   grind [Array.toList_map,O6]
  refine ⟨v,?_,.lit hv no⟩
  grind [execOp,resolve,invoke]
 | @Fo x y _ t p q ok Y _ oc V J ar av dj a1 aj =>
  obtain ⟨⟨b,au,hv⟩,_⟩:=(fZ J).OV;obtain ⟨fM,cw,ik,dF,_⟩:=h.part ar (by simp);rw [au] at ik;cases ik;obtain ⟨ec,es,clock,e,aY,bg,_⟩:=dF.JQ;cases e;refine ⟨V,?_,a1 _ _ _⟩;simp [execOp,hv,dj _ _ _ _ (fZ av),aj w _ _ _ aY bg]
 | @CA x y _ t q ok Y _ oc V J av dj a1 aj =>
  obtain ⟨b,es,clock,hv,aY,bg⟩:=(fZ J).Xx;refine ⟨V,?_,a1 _ _ _⟩;simp [execOp,hv,dj _ _ _ _ (fZ av),aj w _ _ _ aY bg]
end
end Go.Own
namespace Go.Own
open Go
structure Fr (w w':World) (U:bc):Prop where
 os:w'.os=w.os
 tape:w'.tape=w.tape
 output:w'.output=w.output
 size:w.heap.size<=w'.heap.size
 block:∀ b,b<w.heap.size->¬ U b->w'.heap[b]?=w.heap[b]?
 dL:∀ a,a.block<w.heap.size->w'.frozen? a=w.frozen? a
 w2:w.drawn<=w'.drawn
theorem Fr.refl (w:World) (U:bc):Fr w w U:=⟨rfl,rfl,rfl,Nat.le_refl _,λ_ _ _=>rfl,λ_ _=>rfl,Nat.le_refl _⟩
theorem Fr.mono {w w':World}{U D7:bc}(h:Fr w w' U) (f_:∀ b,b<w.heap.size->U b->D7 b):Fr w w' D7:=⟨h.os,h.tape,h.output,h.size,λb au aE=>h.block b au λhu=>aE (f_ b au hu),h.dL,h.w2⟩
theorem Fr.trans {w h9 hn:World}{U yX:bc}(h:Fr w h9 U) (h1:Fr h9 hn yX) (f_:∀ b,b<w.heap.size->yX b->U b):Fr w hn U :=
 ⟨h1.os.trans h.os,h1.tape.trans h.tape,h1.output.trans h.output,Nat.le_trans h.size h1.size,λb au aE=>(h1.block b (Nat.lt_of_lt_of_le au h.size) λhu=>aE (f_ b au hu)).trans (h.block b au aE),λa aR=>(h1.dL a (Nat.lt_of_lt_of_le aR h.size)).trans (h.dL a aR),Nat.le_trans h.w2 h1.w2⟩
theorem sx (w:World) (o:Obj) (k:Nat) (h:k<w.heap.size):(w.alloc o).heap[k]?=w.heap[k]?:=by
 show (w.heap.push o)[k]?=_;rw [Array.getElem?_push,if_neg (by omega)]
theorem tv (w:World) (o:Obj):(w.alloc o).heap[w.heap.size]?=some o:=by
 show (w.heap.push o)[w.heap.size]?=_;simp
theorem HT (w:World) (arr:Array Value) (t:TypeId) (a:Addr):(w.alloc (.cells arr t (0,0))).frozen? a=w.frozen? a:=by
 unfold World.frozen?;by_cases h:a.block=w.heap.size
 ·rw [h,tv];have:w.heap[w.heap.size]?=none:=by simp
  rw [this];simp
 ·by_cases af:a.block<w.heap.size
  ·rw [sx w _ _ af]
  ·have aI:(w.alloc (.cells arr t (0,0))).heap[a.block]?=none:=by
    show (w.heap.push _)[a.block]?=_;rw [Array.getElem?_eq_none];simp; omega
   have bD:w.heap[a.block]?=none:=Array.getElem?_eq_none (by omega);rw [aI,bD]
theorem HV (w:World) (g:Nat) (cs:Array Value) (a:Addr):(w.setRow g cs).frozen? a=w.frozen? a:=by
 unfold World.frozen? World.setRow;simp only [Array.getElem?_modify];by_cases h:g=a.block
 ·subst h;rw [if_pos rfl];cases bY:w.heap[a.block]? with
  | none=>rfl
  | some o=>cases o <;> rfl
 ·rw [if_neg h]
theorem T_ (w:World) (es:Array MapEntry) (n:Nat) (a:Addr):(w.alloc (.map es n)).frozen? a=w.frozen? a:=by
 unfold World.frozen?;by_cases h:a.block=w.heap.size
 ·rw [h,tv];have:w.heap[w.heap.size]?=none:=by simp
  rw [this]
 ·by_cases af:a.block<w.heap.size
  ·rw [sx w _ _ af]
  ·have aI:(w.alloc (.map es n)).heap[a.block]?=none:=by
    show (w.heap.push _)[a.block]?=_;rw [Array.getElem?_eq_none];simp; omega
   have bD:w.heap[a.block]?=none:=Array.getElem?_eq_none (by omega);rw [aI,bD]
def PL (o:Obj):Prop:=(∃ arr e,o=.cells arr e (0,0))\/∃ es n,o=.map es n
theorem Fr.alloc (w:World) (o:Obj) (U:bc) (aY:PL o):Fr w (w.alloc o) U:=by
 refine ⟨rfl,rfl,rfl,by simp,λb au _=>sx w o b au,λa _=>?_,Nat.le_refl _⟩;rcases aY with ⟨arr,e,rfl⟩ | ⟨es,n,rfl⟩
 ·exact HT w arr e a
 ·exact T_ w es n a
theorem R.Yu {w:World}{I:bc}{ρ:ab->Value->Prop}{x:ab}{v:Value}{F:bc}(h:R w I ρ x v F):∀ c,F c->∃ o,w.heap[c]?=some o/\PL o:=by
 induction h with
 | mp aY _ aO =>
  intro c aa;cases (aO c).1 aa;exact ⟨_,aY,.inr ⟨_,_,rfl⟩⟩
 | lit _ aO | aN aO | dead aO | ref _ _ aO | hD aO | bn aO | cG aO | cU aO | imp aO=>exact λc aa=>absurd aa (aO c)
 | own aY ai h1 aj aS au aO aU =>
  intro c aa;rcases (aO c).1 aa with h | ⟨k,hk,h⟩
  ·obtain ⟨_,bY⟩:=aY;rcases bY with ⟨rfl,_⟩ | ⟨b,cap,cur,rfl,_,lr,_⟩
   ·simp [Value.ownBlock] at h
   ·simp only [Value.ownBlock,Option.some.injEq] at h;subst h;exact ⟨_,lr,.inl ⟨_,_,rfl⟩⟩
  ·exact aU k _ _ (List.getElem?_eq_getElem hk) (List.getElem?_eq_getElem (ai ▸ hk)) c h
 | obj aY ai h1 aj aS au aO aU =>
  intro c aa;rcases (aO c).1 aa with rfl | ⟨k,hk,h⟩
  ·exact ⟨_,aY,.inl ⟨_,_,rfl⟩⟩
  ·exact aU k _ _ (List.getElem?_eq_getElem hk) (Array.getElem?_eq_getElem (ai ▸ hk)) c h
 | agg ai h1 aj aS aO aU =>
  intro c aa;obtain ⟨k,hk,h⟩:=(aO c).1 aa;exact aU k _ _ (List.getElem?_eq_getElem hk) (Array.getElem?_eq_getElem (ai ▸ hk)) c h
 | bX ai aj aS aO aU =>
  intro c aa;obtain ⟨k,hk,h⟩:=(aO c).1 aa;exact aU k _ _ (List.getElem?_eq_getElem hk) (Array.getElem?_eq_getElem (ai ▸ hk)) c h
theorem Fr.drew {w w':World}{U:bc}(h:Fr w w' U):Fr w w'.drew U:=⟨h.os,h.tape,h.output,h.size,h.block,h.dL,Nat.le_succ_of_le h.w2⟩
section
variable {w:World}{I:bc}{T:Array Value}{g:aJ}{Fs:Nat->bc}
theorem cD.jS (h:cD w I T g Fs):∀ t c,Fs t c->c<w.heap.size:=by
 intro t c aa;cases J:g t with
 | none=>exact absurd aa (h.kW t J c)
 | some y=>obtain ⟨u,_,dF⟩:=h.rel t y J; exact dF.lt c aa
theorem cD.world (h:cD w I T g Fs) {w':World}(aO:∀ t c,Fs t c->w'.heap[c]?=w.heap[c]?) (bb:∀ c,I c->w'.heap[c]?=w.heap[c]?) (fV:w.heap.size<=w'.heap.size):cD w' I T g Fs :=
  ⟨λt x J=>by
    obtain ⟨v,hv,a1⟩:=h.rel t x J;exact ⟨v,hv,h.w5 (λ_ _=>rfl) aO bb (λ_ h=>h) (λ_ _ h=>h) a1 λc aa=>aO t c aa⟩,
   h.kW,h.eK,h.bn,λc aa=>Nat.lt_of_lt_of_le (h.lt c aa) fV,h.rm⟩
theorem cD.alloc (h:cD w I T g Fs) (o:Obj):cD (w.alloc o) I T g Fs :=
 h.world (λt c aa=>sx w o c (h.jS t c aa)) (λc aa=>sx w o c (h.lt c aa)) (by simp)
theorem cD.uK (h:cD w I T g Fs) {d:Nat}{x:ab}{v:Value}{F:bc}(aS:g d=none) (VJ:d<T.size)
  (a1:jw w I (dR w T g) x v F) (r6:∀ t c,F c->¬ Fs t c) (Wb:∀ c,F c->¬ I c)
  (ar:∀ z p n m new,x=.bM z p n m new->∀ t bA cB m' c0,g t≠some (.bM bA p cB m' c0)) :
  cD w I (T.setIfInBounds d v) (cT g d x) (uT Fs d F):=by
 have dK:∀ t,g t≠none->(T.setIfInBounds d v)[t]?=T[t]?:=by
  intro t aw;rw [Array.getElem?_setIfInBounds_ne];rintro rfl; exact aw aS
 refine ⟨?_,?_,?_,?_,h.lt,?_⟩
 ·intro t y av;unfold cT at av
  split at av
  ·rename_i vB;subst vB;cases av;exact ⟨v,by simp [VJ],by simpa [uT] using h.w5 dK (λ_ _ _=>rfl) (λ_ _=>rfl) (λ_ h=>h) (QP aS) a1 λ_ _=>rfl⟩
  ·rename_i vB;obtain ⟨u,hu,dF⟩:=h.rel t y av;exact ⟨u,by rw [dK t (by rw [av]; simp)]; exact hu,by simpa [uT,vB] using h.w5 dK (λ_ _ _=>rfl) (λ_ _=>rfl) (λ_ h=>h) (QP aS) dF λ_ _=>rfl⟩
 ·intro t aw c;unfold cT at aw
  split at aw
  ·cases aw
  ·rename_i vB; simpa [uT,vB] using h.kW t aw c
 ·intro t t' c aa fp;by_cases h1:t=d <;> by_cases af:t'=d <;> simp [uT,h1,af] at aa fp
  ·rw [h1,af]
  ·exact absurd fp (r6 t' c aa)
  ·exact absurd aa (r6 t c fp)
  ·exact h.eK t t' c aa fp
 ·intro t c aa hi;by_cases h1:t=d <;> simp [uT,h1] at aa
  ·exact Wb c aa hi
  ·exact h.bn t c aa hi
 ·intro t t' z p n m new bA cB m' c0 h1 af;unfold cT at h1 af
  split at h1 <;> split at af
  ·rename_i a b; rw [a,b]
  ·cases h1; exact absurd af (ar z p n m new rfl t' bA cB m' c0)
  ·cases af; exact absurd h1 (ar bA p cB m' c0 rfl t z n m new)
  ·exact h.rm _ _ _ _ _ _ _ _ _ _ _ h1 af
end
def jL:ab->Option (List ab)
 | .agg cs=>some cs
 | .lit v=>some [.lit v]
 | .aN=>some [.aN]
 | .bn z n cs=>some [.bn z n cs]
 | .cG cs=>some [.cG cs]
 | .ptr p k=>some [.ptr p k]
 | .a6 z p n=>some [.a6 z p n]
 | .sub z p l n=>some [.sub z p l n]
 | .cU f a b=>some [.cU f a b]
 | _=>none
theorem R.jL {w:World}{I:bc}{ρ:ab->Value->Prop}{y:ab}{v:Value}{F:bc}(h:R w I ρ y v F) (aO:∀ c,¬ F c) (lL:∀ x v,x.isRef=true->ρ x v->v.oneCell'=true) {cs:List ab}(aa:jL y=some cs) :
  cs.length=v.cells.size/\(∀ (k:Nat) (u:Value),v.cells[k]?=some u->u.oneCell'=true)/\(∀ (k:Nat) (x:ab) (u:Value),cs[k]?=some x->v.cells[k]?=some u->R w I ρ x u cv):=by
 have one:∀ {y:ab},R w I ρ y v F->v.oneCell'=true->[y].length=v.cells.size/\(∀ (k:Nat) (u:Value),v.cells[k]?=some u->u.oneCell'=true)/\(∀ (k:Nat) (x:ab) (u:Value),[y][k]?=some x->v.cells[k]?=some u->R w I ρ x u cv):=by
  intro y h h1;have EG:v.cells=#[v]:=by cases v <;> first | rfl | (simp [Value.oneCell'] at h1)
  refine ⟨by simp [EG],λk u hu=>?_,λk x u J hu=>?_⟩
  ·rw [EG] at hu;cases k with
   | zero=>simp at hu; subst hu; exact h1
   | succ k=>simp at hu
  rw [EG] at hu;cases k with
  | zero=>simp at J hu; subst J hu; exact h.empty aO
  | succ k=>simp at J
 cases y <;> simp only [Go.Own.jL,Option.some.injEq,reduceCtorEq] at aa
 case agg l =>
  subst aa;obtain ⟨vs,rfl,ai,h1,aj⟩:=h.Cn aO;exact ⟨ai,h1,aj⟩
 case lit a=>subst aa; exact one h (by obtain ⟨rfl,h1⟩:=h.ht; exact h1)
 case aN=>subst aa; exact one h (by rw [h.sg]; rfl)
 case bn z n l=>subst aa; exact one h (by obtain ⟨a,cap,rfl,_⟩:=h.zH; rfl)
 case cG l=>subst aa; exact one h (by obtain ⟨ad,us,rfl,_⟩:=h.xB; rfl)
 case ptr p k=>subst aa; exact one h (lL _ _ rfl h.nI)
 case a6 z p n=>subst aa; exact one h (lL _ _ rfl h.m_)
 case sub z p l n=>subst aa; exact one h (lL _ _ rfl h.xC)
 case cU f a b =>
  subst aa;refine one h ?_;cases h with
  | cU=>rfl
  | ref J=>simp [ab.isRef] at J
theorem dR.FH {w:World}{T:Array Value}{g:aJ}{x:ab}{v:Value}(J:x.isRef=true) (h:dR w T g x v):v.oneCell'=true:=by
 obtain ⟨h,_⟩:=h;cases x <;> simp [ab.isRef] at J
 case ptr p k=>obtain ⟨_,_,_,_,rfl⟩:=h; rfl
 case a6 z p n=>obtain ⟨_,_,_,_,rfl,_⟩:=h; rfl
 case sub z p lo n=>obtain ⟨_,_,_,_,_,_,rfl,_⟩:=h; rfl
 case gw p=>obtain ⟨_,_,rfl⟩:=h; rfl
def mg:List ab->Option (List ab)
 | []=>some []
 | y::ys =>
  match jL y,mg ys with
  | some a,some b=>some (a++b)
  | _,_=>none
def gk (g:aJ):List Operand->Option (List ab)
 | []=>some []
 | x::xs =>
  match bs g x,gk g xs with
  | some y,some ys=>some (y::ys)
  | _,_=>none
def vc (place:Nat->Option (Nat × Nat)) (cells:List ab):List (Nat × List ab)->Option (List ab)
 | []=>some cells
 | (i,c)::rest =>
  match place i with
  | none=>none
  | some (off,size)=>if c.length=size/\off+c.length<=cells.length then vc place (cells.take off++c++cells.drop (off+c.length)) rest else none
def rj (g:aJ):List (Nat × Operand)->Option (List (Nat × List ab))
 | []=>some []
 | (i,x)::xs =>
  match bs g x,rj g xs with
  | some y,some ys=>(jL y).map λc=>(i,c)::ys
  | _,_=>none
def kC (P:Program) (t:TypeId) (pl:List (Nat × Nat)):Bool :=
 match P.underlying t with
 | some (.struct fs)=>fs.toList.map (λf=>(f.offset,(P.info? f.type).map (·.size))) == pl.map λ(a,b)=>(a,some b)
 | _=>false
inductive p3 (P:Program) (g:aJ):Op->TypeId->ab->Prop
 | box {e ty:TypeId}{x:Operand}{y:ab}{cs:List ab}(J:bs g x=some y) (aa:jL y=some cs):p3 P g (.box e x) ty (.obj cs)
 | alloc {e ty:TypeId}{z:Value}(aX:(P.info? e).bind (·.zero)=some z) (h1:z.cells.all Value.oneCell'=true):p3 P g (.alloc e) ty (.obj (z.cells.toList.map lO))
 | buildSlice {t e ty:TypeId}{z:Nat}{parts:Array (Nat × Operand)}{xs:List Operand}{ys:List ab}{cs:List ab}(aw:ft P t e z=true)
   (ar:parts.toList=xs.mapIdx (λi x=>(i,x))) (J:gk g xs=some ys) (aX:∀ y∈ys,∃ c,jL y=some c/\c.length=z) (aa:mg ys=some cs) (au:xs.length * z<=16777216) (aE:xs.length<=16777216) (hzero:xs.length * z=0\/∃ v,(P.info? e).bind (·.zero)=some v/\v.cells.size=z) :
   p3 P g (.buildSlice t xs.length parts) ty (.own z xs.length cs)
 | makeSlice {t e ty:TypeId}{x y:Operand}{z n b:Nat}{zI qs:IntKind}{dH:Value}(aw:ft P t e z=true) (J:bs g x=some (.lit (.int zI (n:Int)))) (av:bs g y=some (.lit (.int qs (n:Int))))
   (hzero:(P.info? e).bind (·.zero)=some dH) (h1:dH.cells.all Value.oneCell'=true) (pB:dH.cells.size=z) (au:(P.info? e).map (·.bytes)=some b) (aE:n * b<=140737488355328) (n3:n<=4611686018427387904) {yx:List ab}(vJ:yx.length=dH.cells.size)
   (E6:∀ (k:Nat) (u:Value) (x:ab),dH.cells[k]?=some u->yx[k]?=some x->x=lO u\/(lO u=.aN/\∃ bA,x=.bn bA 0 [])) :
   p3 P g (.makeSlice t x y) ty (.own z n (List.replicate n yx).flatten)
 | makeMap {t ty:TypeId}{q:Array MapEntry->Nat->Prop}(bg:q #[] 0):p3 P g (.makeMap t none) ty (.mp q)
inductive u3 (P:Program) (g:aJ):Op->TypeId->ab->Prop
 | build {t ty:TypeId}{parts:Array (Nat × Operand)}{pl:List (Nat × Nat)}{dH:Value}{ps:List (Nat × List ab)}{cs:List ab}(aw:kC P t pl=true) (aX:(P.info? t).bind (·.zero)=some dH) (h1:dH.cells.all Value.oneCell'=true)
   (ar:rj g parts.toList=some ps) (aa:vc (λi=>pl[i]?) (dH.cells.toList.map lO) ps=some cs):u3 P g (.build t parts) ty (.agg cs)
 | makeFunc {fn:Fn}{first caps:Array Operand}{ty:TypeId}{a b:List ab}(aR:gk g first.toList=some a) (au:gk g caps.toList=some b):u3 P g (.makeFunc fn first caps) ty (.cU fn a b)
section
variable {P:Program}{w:World}{I:bc}{T:Array Value}{g:aJ}{Fs:Nat->bc}
theorem zT (h:cD w I T g Fs) {a:Act}(aR:a.tmps=T):∀ {xs:List Operand}{ys:List ab},gk g xs=some ys->ys.length=xs.length/\∀ (k:Nat) (y:ab) (x:Operand),ys[k]?=some y->xs[k]?=some x->R w I (dR w T g) y (a.eval x) cv
 | [],ys,av=>by simp only [gk,Option.some.injEq] at av; subst av; simp
 | x::xs,ys,av=>by
  simp only [gk] at av;cases J:bs g x with
  | none=>simp [J] at av
  | some y =>
   cases sf:gk g xs with
   | none=>simp [J,sf] at av
   | some DM =>
    simp only [J,sf,Option.some.injEq] at av;subst av;obtain ⟨h1,af⟩:=zT h aR sf;refine ⟨by simp [h1],λk y' x' oO gg=>?_⟩;cases k with
    | zero=>simp at oO gg; subst oO gg; exact kf h J aR
    | succ k=>simp at oO gg; exact af k y' x' oO gg
theorem R.alloc (h:cD w I T g Fs) (o:Obj) {x:ab}{v:Value}{F:bc}(a1:R w I (dR w T g) x v F) (aO:∀ c,F c->c<w.heap.size):R (w.alloc o) I (dR (w.alloc o) T g) x v F :=
 h.frame (λ_ _=>rfl) (λt c aa=>sx w o c (h.jS t c aa)) (λc aa=>sx w o c (h.lt c aa)) (λ_ h=>h) (λ_ _ h=>h) a1 λc aa=>sx w o c (aO c aa)
theorem Pq {ρ:ab->Value->Prop}{vs:List Value}:∀ (k:Nat) (x:ab) (u:Value),(vs.map lO)[k]?=some x->vs[k]?=some u->R w I ρ x u cv:=by
 intro k x u J hu;rw [List.getElem?_map,hu] at J;simp only [Option.map_some,Option.some.injEq] at J;subst J;exact CL u
theorem R.Pp {ρ:ab->Value->Prop}{cs:List ab}{b:Nat}{e:TypeId}{arr:Array Value}(aY:w.heap[b]?=some (.cells arr e (0,0))) (ai:cs.length=arr.size) (h1:∀ (k:Nat) (u:Value),arr[k]?=some u->u.oneCell'=true)
  (aj:∀ (k:Nat) (x:ab) (u:Value),cs[k]?=some x->arr[k]?=some u->R w I ρ x u cv):R w I ρ (.obj cs) (.pointer (some ⟨b,0,none⟩)) (λc=>c=b) :=
 .obj (Fs:=λ_=>cv) aY ai h1 aj (λ_ _ _ _ _ h=>h.elim) (λ_ _ h=>h) (λ_=>⟨λh=>.inl h,λh=>h.elim id λ⟨_,_,h⟩=>h.elim⟩)
theorem R.PB {ρ:ab->Value->Prop}{z n:Nat}{cs:List ab}{b cap:Nat}{e:TypeId}{arr:Array Value}(aY:w.heap[b]?=some (.cells arr e (0,0))) (aE:n<=cap) (aa:cap<=maxLen) (aA:arr.size=cap * z) (ai:cs.length=n * z) (h1:∀ (k:Nat) (u:Value),arr[k]?=some u->u.oneCell'=true)
  (aj:∀ (k:Nat) (x:ab) (u:Value),cs[k]?=some x->arr[k]?=some u->R w I ρ x u cv):R w I ρ (.own z n cs) (.slice (some ⟨b,0,none⟩) n cap) (λc=>c=b):=by
 have hle:n * z<=arr.size:=by rw [aA]; exact Nat.mul_le_mul_right _ aE
 refine .own (e:=e) (us:=arr.toList.take (n * z)) (Fs:=λ_=>cv) ⟨by simp; omega,.inr ⟨b,cap,arr,rfl,Nat.zero_le _,aY,aE,aa,aA,rfl⟩⟩ (by simp; omega) (λk u hu=>?_) ?_ (λ_ _ _ _ _ h=>h.elim) (λ_ _ _ h=>h.elim) (λc=>?_)
 ·rw [List.getElem?_take] at hu
  split at hu
  ·exact h1 k u (by simpa using hu)
  ·cases hu
 ·intro k x u J hu;rw [List.getElem?_take] at hu
  split at hu
  ·exact aj k x u J (by simpa using hu)
  ·cases hu
 ·simp only [Value.ownBlock,Option.some.injEq];exact ⟨λh=>.inl h.symm,λh=>h.elim Eq.symm λ⟨_,_,h⟩=>h.elim⟩
theorem Mi {ρ:ab->Value->Prop}(lL:∀ x v,x.isRef=true->ρ x v->v.oneCell'=true):∀ {ys:List ab}{vs:List Value}{cs:List ab},ys.length=vs.length->(∀ (k:Nat) (y:ab) (v:Value),ys[k]?=some y->vs[k]?=some v->R w I ρ y v cv)->mg ys=some cs ->
  cs.length=(vs.flatMap λv=>v.cells.toList).length/\(∀ (k:Nat) (u:Value),(vs.flatMap λv=>v.cells.toList)[k]?=some u->u.oneCell'=true)/\∀ (k:Nat) (x:ab) (u:Value),cs[k]?=some x->(vs.flatMap λv=>v.cells.toList)[k]?=some u->R w I ρ x u cv
 | [],vs,cs,ai,aj,aa=>by
  cases vs with
  | nil=>simp only [mg,Option.some.injEq] at aa; subst aa; simp
  | cons=>simp at ai
 | y::ys,vs,cs,ai,aj,aa=>by
  cases vs with
  | nil=>simp at ai
  | cons v vs =>
   simp only [mg] at aa;cases aR:jL y with
   | none=>simp [aR] at aa
   | some a =>
    cases au:mg ys with
    | none=>simp [aR,au] at aa
    | some b =>
     simp only [aR,au,Option.some.injEq] at aa;subst aa;obtain ⟨h1,H5,af⟩:=(aj 0 y v rfl rfl).jL (λ_ h=>h) lL aR;obtain ⟨aI,Uj,bD⟩:=Mi lL (by simpa using ai) (λk y' fM av hv=>aj (k+1) y' fM av hv) au;refine ⟨by simp [h1,aI],λk u hu=>?_,λk x u J hu=>?_⟩
     ·simp only [List.flatMap_cons] at hu;by_cases hk:k<v.cells.toList.length
      ·rw [List.getElem?_append_left hk] at hu;exact H5 k u (by simpa using hu)
      ·rw [List.getElem?_append_right (by omega)] at hu;exact Uj _ u hu
     simp only [List.flatMap_cons] at hu;by_cases hk:k<a.length
     ·rw [List.getElem?_append_left hk] at J;rw [List.getElem?_append_left (by simp; omega)] at hu;exact af k x u J (by simpa using hu)
     ·rw [List.getElem?_append_right (by omega)] at J;rw [List.getElem?_append_right (by simp; omega)] at hu;refine bD (k - a.length) x u J ?_;rw [<- hu]; simp [h1]
end
end Go.Own
namespace Go.Own
open Go
theorem Nh (off:Nat):∀ (l:List Value) (s:Nat) (arr:Array Value),off+s+l.length<=arr.size ->
  ((l.zipIdx s).foldl (λcs (x:Value × Nat)=>cs.setIfInBounds (off+x.2) x.1) arr).toList=arr.toList.take (off+s)++l++arr.toList.drop (off+s+l.length)
 | [],s,arr,h=>by simp
 | v::l,s,arr,h=>by
  simp only [List.length_cons] at h;rw [List.zipIdx_cons,List.foldl_cons,Nh off l (s+1) _ (by simp; omega)];simp only [Array.toList_setIfInBounds,List.length_cons];have h1:(arr.toList.set (off+s) v).take (off+(s+1))=arr.toList.take (off+s)++[v]:=by
   rw [show off+(s+1)=off+s+1 by omega,List.take_succ_eq_append_getElem (by simp; omega)];rw [List.take_set_of_le (Nat.le_refl _)];simp
  have af:(arr.toList.set (off+s) v).drop (off+(s+1)+l.length)=arr.toList.drop (off+s+(l.length+1)):=by
   rw [List.drop_set_of_lt (by omega)];congr 1; omega
  rw [h1,af];simp
theorem Nb {place:Nat->Option (Nat × Nat)}{i off size:Nat}(ar:place i=some (off,size)) {arr:Array Value}{v:Value}(h1:v.cells.size=size) (af:off+v.cells.size<=arr.size) (rest:List (Nat × Value)) :
  ∃ jk:Array Value,Instr.fill place arr ((i,v)::rest)=Instr.fill place jk rest/\jk.toList=arr.toList.take off++v.cells.toList++arr.toList.drop (off+v.cells.size):=by
 refine ⟨_,by simp only [Instr.fill,ar]; rw [if_neg (by simp; omega)],?_⟩;have:=Nh off v.cells.toList 0 arr (by simpa using af)
 grind [Array.toList_zipIdx]
theorem Na (z:Nat):∀ (vs:List Value) (k:Nat) (arr:Array Value) (done rest:List Value),(∀ v∈vs,v.cells.size=z)->arr.toList=done++rest->done.length=k * z->rest.length=vs.length * z ->
  ∃ jk:Array Value,Instr.fill (λi=>some (i * z,z)) arr (vs.mapIdx λi v=>(k+i,v))=some jk/\jk.toList=done++vs.flatMap λv=>v.cells.toList
 | [],k,arr,done,rest,_,h1,af,aI=>by
  have:rest=[]:=List.eq_nil_of_length_eq_zero (by simpa using aI);subst this;exact ⟨arr,rfl,by simpa using h1⟩
 | v::vs,k,arr,done,rest,aX,h1,af,aI=>by
  have hv:=aX v (by simp);have hlen:arr.size=done.length+rest.length:=by rw [<- Array.length_toList,h1,List.length_append]
  simp only [List.length_cons,Nat.add_mul,Nat.one_mul] at aI;rw [List.mapIdx_cons];obtain ⟨Ea,cu,cd⟩:=Nb (place:=λi=>some (i * z,z)) (i:=k+0) (off:=k * z) (size:=z) (by simp) (arr:=arr) (v:=v) hv (by omega) ((vs.mapIdx λi v=>(k+(i+1),v)));have tI:Ea.toList=(done++v.cells.toList)++rest.drop z:=by
   rw [cd,h1,<- af,List.take_left,hv,List.drop_append];simp
  obtain ⟨jk,fx,lZ⟩:=Na z vs (k+1) Ea (done++v.cells.toList) (rest.drop z) (λu hu=>aX u (by simp [hu])) tI (by simp [af,hv,Nat.add_mul]) (by simp; omega);refine ⟨jk,?_,by rw [lZ]; simp⟩;rw [cu,<- fx];congr 1;congr 1;funext i u;congr 1; omega
theorem LY {vs:Array Value}(h:vs.all Value.oneCell'=true):∀ (k:Nat) (u:Value),vs[k]?=some u->u.oneCell'=true:=by grind
theorem Hl {P:Program}{e:TypeId}{z:Value}(h:(P.info? e).bind (·.zero)=some z) (w:World):(zeroValue e).run P w=.ok z w:=by
 cases hi:P.info? e with
 | none=>simp [hi] at h
 | some i=>simp [hi] at h; simp [zeroValue,typeInfo,hi,h]
theorem Nk {α:Type}(l:List α):∀ (n k:Nat),k<n * l.length->(List.replicate n l).flatten[k]?=l[k % l.length]?
 | 0,k,h=>by simp at h
 | n+1,k,h=>by
  rw [List.replicate_succ,List.flatten_cons];by_cases hk:k<l.length
  ·rw [List.getElem?_append_left hk,Nat.mod_eq_of_lt hk]
  ·rw [List.getElem?_append_right (by omega),Nk l n (k - l.length) (by rw [Nat.add_mul] at h; omega)];rw [<- Nat.mod_eq_sub_mod (by omega)]
section
variable {P:Program}{w:World}{I:bc}{T:Array Value}{g:aJ}{Fs:Nat->bc}
theorem Sy {ys cs:List ab}{z:Nat}(aX:∀ y∈ys,∃ c,jL y=some c/\c.length=z) (aa:mg ys=some cs):cs.length=ys.length * z:=by
 induction ys generalizing cs with
 | nil=>simp [mg] at aa; subst aa; simp
 | cons y ys aU =>
  obtain ⟨c,h1,af⟩:=aX y (by simp);simp only [mg,h1] at aa
  grind
theorem p3.sound (h:cD w I T g Fs) {a:Act}(aR:a.tmps=T) {o:Oper}{kG:ab}(ar:p3 P g o.op o.type kG) :
  ∃ v sl,(execOp a.eval o).run P w=.ok (.value v) (w.alloc sl)/\R (w.alloc sl) I (dR (w.alloc sl) T g) kG v (λc=>c=w.heap.size):=by
 obtain ⟨dst,op,ty,pos,after,guard⟩:=o;simp only at ar;have nf:∀ (sl:Obj) {x:ab}{v:Value},R w I (dR w T g) x v cv->R (w.alloc sl) I (dR (w.alloc sl) T g) x v cv:=λsl _ _ a1=>R.alloc h sl a1 λ_ h=>h.elim;cases ar with
 | @box e _ x y cs J aa =>
  have av:=kf h J aR;obtain ⟨h1,H5,af⟩:=av.jL (λ_ h=>h) (λ_ _ J aj=>aj.FH J) aa;refine ⟨_,.cells (a.eval x).cells e,by simp [execOp,Instr.box,newVar,newRow],R.Pp (e:=e) (tv w _) h1 H5 λk x u J hu=>nf _ (af k x u J hu)⟩
 | @alloc e _ z aX hj =>
  refine ⟨_,.cells z.cells e,by simp [execOp,Instr.alloc,newVar,newRow,Hl aX],R.Pp (e:=e) (tv w _) (by simp) (LY hj) λk x u J hu=>nf _ (Pq k x u J (by simpa using hu))⟩
 | @makeMap t _ q bg =>
  have I_:(Instr.makeMap t none).run P w=.ok (.map (some w.heap.size)) (w.alloc (.map #[] 0)):=rfl;exact ⟨.map (some w.heap.size),.map #[] 0,by simp [execOp,I_],.mp (tv w _) bg λc=>Iff.rfl⟩
 | @buildSlice t e _ z parts xs ys cs aw ar J aX aa au kb hzero =>
  obtain ⟨hu,he,fV⟩:=qG (w:=w) aw;obtain ⟨ai,aj⟩:=zT h aR J;have gR:=Sy aX aa;have WR:∀ v∈xs.map a.eval,v.cells.size=z:=by
   intro v hv;obtain ⟨x,vH,rfl⟩:=List.mem_map.1 hv;obtain ⟨k,hk,rfl⟩:=List.mem_iff_getElem.1 vH;have oO:ys[k]?=some (ys[k]'(by omega)):=List.getElem?_eq_getElem (by omega);obtain ⟨c,h1,af⟩:=aX _ (List.getElem_mem (l:=ys) (n:=k) (by omega));obtain ⟨aI,_,_⟩:=(aj k _ _ oO (List.getElem?_eq_getElem hk)).jL (λ_ h=>h) (λ_ _ J aj=>aj.FH J) h1
   grind
  obtain ⟨dH,Xn⟩:∃ dH:Array Value,(xs.length * z=0/\dH=#[])\/(xs.length * z≠0/\∃ v,dH=v.cells/\(zeroValue e).run P w=.ok v w):=by
   by_cases aT:xs.length * z=0
   ·grind
   ·rcases hzero with h1 | ⟨v,h1,af⟩
    ·grind
    simp_all [Hl]
  obtain ⟨arr,cu,cd⟩:=Na z (xs.map a.eval) 0 ((Array.range (xs.length * z)).map (dH[· % dH.size]!)) [] ((Array.range (xs.length * z)).map (dH[· % dH.size]!)).toList WR (by simp) (by simp) (by simp);have Oo:(parts.map λ(p:Nat × Operand)=>(p.1,a.eval p.2)).toList=(xs.map a.eval).mapIdx λi v=>(0+i,v):=by
   rw [Array.toList_map,ar];apply List.ext_getElem?
   grind
  obtain ⟨hC,ih,VI⟩:=Mi (ρ:=dR w T g) (λ_ _ J aj=>aj.FH J) (ys:=ys) (vs:=xs.map a.eval) (by simp [ai]) (λk y v av hv=>by
   rw [List.getElem?_map] at hv;cases qp:xs[k]? with
   | none=>simp [qp] at hv
   | some x=>simp [qp] at hv; subst hv; exact aj k y x av qp) aa
  have sJ:arr.toList=(xs.map a.eval).flatMap λv=>v.cells.toList:=by simpa using cd
  have WC:arr.size=xs.length * z:=by rw [<- Array.length_toList,sJ,<- hC,gR,ai]
  have hK:(execOp a.eval { dst:=dst,op:=.buildSlice t xs.length parts,type:=ty,pos:=pos,after:=after,guard:=guard }).run P w=.ok (.value (.slice (some ⟨w.heap.size,0,none⟩) xs.length xs.length)) (w.alloc (.cells arr e)):=by
   have hle:¬ (16777216<xs.length * z):=by omega
   rcases Xn with ⟨aT,rfl⟩ | ⟨aT,v,rfl,Xm⟩
   ·simp only [aT] at cu;rw [<- Oo] at cu;simp at cu;simp [execOp,Instr.buildSlice,run_underlying hu,fV,aT,cu,newRow]
   ·rw [<- Oo] at cu;simp at cu;simp [execOp,Instr.buildSlice,run_underlying hu,fV,aT,hle,Xm,cu,newRow]
  refine ⟨_,_,hK,R.PB (e:=e) (arr:=arr) (tv w _) (Nat.le_refl _) ?_ WC (by rw [gR,ai]) (λk u hu=>ih k u (by rw [<- sJ]; simpa using hu)) λk x u J hu=>nf _ (VI k x u J ?_)⟩
  ·grind [maxLen]
  grind
 | @makeSlice t e _ x y z n b zI qs dH aw J av hzero hj pB au aE n3 yx vJ E6 =>
  obtain ⟨hu,he,fV⟩:=qG (w:=w) aw;have h1:=(kf h J aR).ht.1;have af:=(kf h av aR).ht.1;cases hi:P.info? e with
  | none=>simp [hi] at au
  | some i =>
   simp [hi] at au hzero;have N':i.size=z:=by
    grind [ft]
   have EF:(i.bytes:Int) * (n:Int)<=281474976710656:=by
    grind
   have aj:=run_make (P:=P) w t e i dH hu hi hzero zI qs n n (by omega) (Int.le_refl _) EF (by omega);simp only [Int.toNat_natCast] at aj;refine ⟨_,.cells (madeCells dH.cells (n * i.size)) e,by simp [execOp,h1,af,aj],R.PB (e:=e) (tv w _) (Nat.le_refl _) (by unfold maxLen; omega) (by rw [size_madeCells,N']) (by simp [pB,vJ]) (λk u hu=>?_) λk x u J hu=>?_⟩
   ·grind [madeCells,Nat.mod_lt]
   have hk:k<n * dH.cells.size:=by
    have:=(List.getElem?_eq_some_iff.1 J).1
    simp_all
   have aT:0<dH.cells.size:=by
    grind
   have hm:k % dH.cells.size<dH.cells.size:=Nat.mod_lt _ aT;rw [Nk _ n k (by simpa [vJ] using hk),vJ] at J;rw [madeCells,Array.getElem?_map,Array.getElem?_range,if_pos (by rw [N',<- pB]; exact hk)] at hu;simp only [Option.map_some,Option.some.injEq] at hu;have jH:dH.cells[k % dH.cells.size]! = dH.cells[k % dH.cells.size]:=by simp [hm]
   rw [jH] at hu;subst hu;rcases E6 _ _ x (Array.getElem?_eq_getElem hm) J with rfl | ⟨h1,bA,rfl⟩
   ·grind [CL]
   ·have a1:=CL (w:=w) (I:=I) (ρ:=dR w T g) dH.cells[k % dH.cells.size];rw [h1] at a1;rw [a1.sg];exact .hD λ_ h=>h
def Cells (w:World) (I:bc) (ρ:ab->Value->Prop) (cs:List ab) (vs:List Value):Prop :=
 cs.length=vs.length/\(∀ (k:Nat) (u:Value),vs[k]?=some u->u.oneCell'=true)/\∀ (k:Nat) (x:ab) (u:Value),cs[k]?=some x->vs[k]?=some u->R w I ρ x u cv
theorem Cells.append {ρ:ab->Value->Prop}{a b:List ab}{u v:List Value}(h:Cells w I ρ a u) (aL:Cells w I ρ b v):Cells w I ρ (a++b) (u++v):=by
 refine ⟨by simp [h.1,aL.1],λk y av=>?_,λk x y J av=>?_⟩
 ·by_cases hk:k<u.length
  ·rw [List.getElem?_append_left hk] at av; exact h.2.1 k y av
  ·rw [List.getElem?_append_right (by omega)] at av; exact aL.2.1 _ y av
 ·by_cases hk:k<a.length
  ·rw [List.getElem?_append_left hk] at J;rw [List.getElem?_append_left (by rw [<- h.1]; exact hk)] at av;exact h.2.2 k x y J av
  ·rw [List.getElem?_append_right (by omega)] at J;rw [List.getElem?_append_right (by rw [<- h.1]; omega)] at av;exact aL.2.2 _ x y J (by rw [h.1]; exact av)
theorem Cells.take {ρ:ab->Value->Prop}{a:List ab}{u:List Value}(h:Cells w I ρ a u) (n:Nat):Cells w I ρ (a.take n) (u.take n):=by
 refine ⟨by simp [h.1],λk y av=>?_,λk x y J av=>?_⟩
 ·rw [List.getElem?_take] at av
  split at av
  ·exact h.2.1 k y av
  grind
 ·rw [List.getElem?_take] at J av
  split at J
  ·rename_i hk;rw [if_pos hk] at av;exact h.2.2 k x y J av
  grind
theorem Cells.drop {ρ:ab->Value->Prop}{a:List ab}{u:List Value}(h:Cells w I ρ a u) (n:Nat):Cells w I ρ (a.drop n) (u.drop n):=by
 refine ⟨by simp [h.1],λk y av=>?_,λk x y J av=>?_⟩
 ·rw [List.getElem?_drop] at av; exact h.2.1 _ y av
 ·rw [List.getElem?_drop] at J av;exact h.2.2 _ x y J av
theorem M' {ρ:ab->Value->Prop}{place:Nat->Option (Nat × Nat)}:∀ (ps:List (Nat × List ab)) (tg:List (Nat × Value)) {cells cs:List ab}{arr:Array Value},Cells w I ρ cells arr.toList ->
  ps.map (·.1)=tg.map (·.1)->(∀ (k:Nat) (p:Nat × List ab) (q:Nat × Value),ps[k]?=some p->tg[k]?=some q->Cells w I ρ p.2 q.2.cells.toList)->vc place cells ps=some cs ->
  ∃ jk:Array Value,Instr.fill place arr tg=some jk/\Cells w I ρ cs jk.toList
 | [],tg,cells,cs,arr,aa,hk,_,aW=>by
  cases tg with
  | nil=>simp only [vc,Option.some.injEq] at aW; subst aW; exact ⟨arr,rfl,aa⟩
  | cons=>simp at hk
 | (i,c)::ps,tg,cells,cs,arr,aa,hk,aj,aW=>by
  cases tg with
  | nil=>simp at hk
  | cons q tg =>
   obtain ⟨j,v⟩:=q;simp only [List.map_cons,List.cons.injEq] at hk;obtain ⟨rfl,hk⟩:=hk;have aT:=aj 0 _ _ rfl rfl;simp only [vc] at aW;cases ar:place i with
   | none=>simp [ar] at aW
   | some os =>
    obtain ⟨off,size⟩:=os;simp only [ar] at aW
    split at aW
    ·rename_i acL;have hlen:v.cells.size=c.length:=by rw [<- Array.length_toList]; exact aT.1.symm
     have Og:arr.size=cells.length:=by rw [<- Array.length_toList]; exact aa.1.symm
     obtain ⟨Ea,cu,cd⟩:=Nb (arr:=arr) (v:=v) ar (by omega) (by omega) tg;have ih:Cells w I ρ (cells.take off++c++cells.drop (off+c.length)) Ea.toList:=by
      rw [cd,hlen];exact ((aa.take off).append aT).append (aa.drop _)
     obtain ⟨jk,fx,lZ⟩:=M' ps tg ih hk (λk p q ar bg=>aj (k+1) p q ar bg) aW;exact ⟨jk,by rw [cu,fx],lZ⟩
    ·cases aW
theorem PH (h:cD w I T g Fs) {a:Act}(aR:a.tmps=T):∀ {l:List (Nat × Operand)}{ps:List (Nat × List ab)},rj g l=some ps ->
  ps.map (·.1)=(l.map λp=>(p.1,a.eval p.2)).map (·.1)/\∀ (k:Nat) (p:Nat × List ab) (q:Nat × Value),ps[k]?=some p->(l.map λp=>(p.1,a.eval p.2))[k]?=some q->Cells w I (dR w T g) p.2 q.2.cells.toList
 | [],ps,ar=>by simp only [rj,Option.some.injEq] at ar; subst ar; simp
 | (i,x)::l,ps,ar=>by
  simp only [rj] at ar;cases J:bs g x with
  | none=>simp [J] at ar
  | some y =>
   cases ai:rj g l with
   | none=>simp [J,ai] at ar
   | some adA =>
    simp only [J,ai,Option.map_eq_some_iff] at ar;obtain ⟨c,aa,rfl⟩:=ar;obtain ⟨h1,af⟩:=PH h aR ai;refine ⟨by simp [h1],λk p q ar bg=>?_⟩;cases k with
    | zero =>
     simp at ar bg;subst ar bg;obtain ⟨aI,Uh,bD⟩:=(kf h J aR).jL (λ_ h=>h) (λ_ _ J aj=>aj.FH J) aa;exact ⟨by simpa using aI,λk u hu=>Uh k u (by simpa using hu),λk x u J hu=>bD k x u J (by simpa using hu)⟩
    | succ k=>simp at ar bg; exact af k p q ar (by simpa using bg)
theorem Zo {t:TypeId}{pl:List (Nat × Nat)}(h:kC P t pl=true):∃ fs,P.underlying t=some (.struct fs)/\fs.toList.mapM (λf=>(P.info? f.type).map λi=>(f.offset,i.size))=some pl:=by
 unfold kC at h;cases hu:P.underlying t with
 | none=>simp [hu] at h
 | some d =>
  cases d <;> simp only [hu,Bool.false_eq_true] at h;rename_i fs;refine ⟨fs,rfl,?_⟩;replace h:=LawfulBEq.eq_of_beq h;generalize fs.toList=l at h
  induction l generalizing pl with
  | nil=>cases pl with
   | nil=>rfl
   | cons=>simp at h
  | cons f l aU =>
   cases pl with
   | nil=>simp at h
   | cons p pl =>
    obtain ⟨o,s⟩:=p;simp only [List.map_cons,List.cons.injEq,Prod.mk.injEq] at h;obtain ⟨⟨rfl,h1⟩,af⟩:=h;have:=aU af;rw [List.mapM_cons,this];cases hi:P.info? f.type with
    | none=>simp [hi] at h1
    | some i=>simp [hi] at h1; subst h1; rfl
theorem u3.sound (h:cD w I T g Fs) {a:Act}(aR:a.tmps=T) {o:Oper}{kG:ab}(ar:u3 P g o.op o.type kG) :
  ∃ v,(execOp a.eval o).run P w=.ok (.value v) w/\R w I (dR w T g) kG v cv:=by
 obtain ⟨dst,op,ty,pos,after,guard⟩:=o;simp only at ar;cases ar with
 | @build t _ parts pl dH ps cs aw aX hj ar aa =>
  obtain ⟨fs,hu,zw⟩:=Zo aw;obtain ⟨h1,af⟩:=PH h aR ar;obtain ⟨jk,cu,cd⟩:=M' (w:=w) (I:=I) (ρ:=dR w T g) (place:=λi=>pl[i]?) ps _ (arr:=dH.cells) ⟨by simp,λk u hu=>LY hj k u (by simpa using hu),λk x u J hu=>Pq k x u J hu⟩ h1 af aa;refine ⟨.agg jk,?_,.agg (Fs:=λ_=>cv) (by simpa using cd.1) (λk u hu=>cd.2.1 k u (by simpa using hu)) (λk x u J hu=>cd.2.2 k x u J (by simpa using hu)) (λ_ _ _ _ _ h=>h.elim) (λc=>⟨λh=>h.elim,λ⟨_,_,h⟩=>h⟩)⟩;have adg:=run_places (P:=P) w fs.toList pl zw;have au:P.built t ((parts.map λ(p:Nat × Operand)=>(p.1,a.eval p.2))).toList=some jk:=by
   rw [Array.toList_map];cases hi:P.info? t with
   | none=>simp [hi] at aX
   | some it =>
    simp_all [Program.built]
  simp_all [run_build,execOp]
 | @makeFunc fn first caps _ gj fL h1 af =>
  obtain ⟨aF,a2⟩:=zT h aR h1;obtain ⟨gP,h3⟩:=zT h aR af;refine ⟨.func fn (first.map a.eval) (caps.map a.eval),by simp [execOp,Instr.makeFunc],.cU (λ_ h=>h) (by simpa using aF) (by simpa using gP) (λk x u J hu=>?_) (λk x u J hu=>?_)⟩
  ·grind
  grind
end
end Go.Own
namespace Go.Own
open Go
structure DT (w w':World) (bv fM:Value) (e cd:TypeId) (z n m:Nat) (us news:List Value):Prop where
 nf:w'.ownsRow 0 e z bv n us
 new:w'.ownsRow 0 cd z fM (n+m) (us++news)
 eR:Fr w w' (λc=>bv.ownBlock=some c)
 Ec:∀ c,fM.ownBlock=some c->bv.ownBlock=some c\/w.heap.size<=c
 sp:∀ c,bv.ownBlock=some c->∃ arr jk:Array Value,w.heap[c]?=some (.cells arr e (0,0))/\w'.heap[c]?=some (.cells jk e (0,0))/\jk.size=arr.size/\jk.toList.take (n * z)=arr.toList.take (n * z)
section
variable {P:Program}{w:World}
theorem DT.same {bv fM:Value}{e cd:TypeId}{z n m:Nat}{us news:List Value}{w':World}(lg:w.ownsRow 0 e z bv n us) (au:∀ c,c<w.heap.size->w'.heap[c]?=w.heap[c]?) (aA:w.heap.size<=w'.heap.size)
  (h1:w'.os=w.os) (af:w'.tape=w.tape) (aI:w'.output=w.output) (r6:w'.ownsRow 0 cd z fM (n+m) (us++news)) (hblk:∀ c,fM.ownBlock=some c->bv.ownBlock=some c\/w.heap.size<=c) (q8:∀ a,w'.frozen? a=w.frozen? a) (VM:w.drawn<=w'.drawn:=by first | exact Nat.le_refl _ | exact Nat.le_succ _):DT w w' bv fM e cd z n m us news:=by
 have aQ:=lg.lt;refine ⟨vT lg λc aa=>au c (aQ c aa).2,r6,⟨h1,af,aI,aA,λb l1 _=>au b l1,λa _=>q8 a,VM⟩,hblk,λc aa=>?_⟩;obtain ⟨_,bY⟩:=lg;rcases bY with ⟨rfl,_⟩ | ⟨b,cap,cur,rfl,_,aP,_⟩
 ·simp [Value.ownBlock] at aa
 ·simp only [Value.ownBlock,Option.some.injEq] at aa;subst aa;exact ⟨cur,cur,aP,(au _ (aQ b rfl).2).trans aP,rfl,rfl⟩
theorem YO (t ty e cf:TypeId) (i:TypeInfo) (aw:P.underlying t=some (.slice e)) (hi:P.info? e=some i)
  (b yi KS:Nat) (cur:Array Value) (aP:w.heap[b]?=some (.cells cur cf (0,0)))
  (a:Addr) (m c:Nat) (news:List Value) (ai:news.length=m * i.size) (ug:∀ j u,news[j]?=some u->w.cell? (a.add j)=some u) (h1:∀ u∈news,u.oneCell'=true)
  (B9:yi+m<=KS) (ud:yi * i.size+news.length<=cur.size) :
  (Builtin.append_ #[t,t] ty #[.slice (some ⟨b,0,none⟩) yi KS,.slice (some a) m c]).run P w =
   .ok (.slice (some ⟨b,0,none⟩) (yi+m) KS) (w.setRow b (cur.toList.take (yi * i.size)++news++cur.toList.drop (yi * i.size+news.length)).toArray):=by
 have aW:=run_firstCells_some (P:=P) w i.size m a m c news ai ug;have b0:=run_storeCells_at P b (yi * i.size) cf news 0 cur w aP (by simpa using ud) h1;simp only [Nat.add_zero] at b0;simp [Builtin.append_,run_underlying aw,sizeOf,typeInfo,hi,Builtin.lenOf,B9,aW,Addr.add_lit,b0]
theorem P7 (t ty e cf:TypeId) (i:TypeInfo) (dH:Value) (aw:P.underlying t=some (.slice e)) (hi:P.info? e=some i) (aX:i.zero=some dH) (pB:dH.cells.size=i.size) (_h0:0<i.size)
  {bv:Value}{n m c:Nat}{us news:List Value}(lg:w.ownsRow 0 cf i.size bv n us) {a:Option Addr}(aR:0<m->a.isSome=true)
  (ai:news.length=m * i.size) (ug:∀ ad,a=some ad->∀ (j:Nat) (u:Value),news[j]?=some u->w.cell? (ad.add j)=some u) (h1:∀ u∈news,u.oneCell'=true)
  (q4:n+m<=maxLen) (EF:(n+m) * i.bytes<=140737488355328) :
  ∃ fM w' cd,(Builtin.append_ #[t,t] ty #[bv,.slice a m c]).run P w=.ok fM w'/\DT w w' bv fM cf cd i.size n m us news:=by
 have l4:=lg.1;by_cases hm:m=0
 ·subst hm;have aE:news=[]:=List.eq_nil_of_length_eq_zero (by simpa using ai);subst aE;refine ⟨bv,w,cf,?_,.same lg (λ_ _=>rfl) (Nat.le_refl _) rfl rfl rfl (by simpa using lg) (λc aa=>.inl aa) λ_=>rfl⟩;obtain ⟨_,bY⟩:=lg;rcases bY with ⟨rfl,rfl⟩ | ⟨b,cap,cur,rfl,_,aP,hle,_⟩
  ·cases a <;> simp [Builtin.append_,run_underlying aw,sizeOf,typeInfo,hi,Builtin.lenOf,Builtin.firstCells,loadCells,loadCellsFrom]
  ·cases a <;> simp [Builtin.append_,run_underlying aw,sizeOf,typeInfo,hi,Builtin.lenOf,Builtin.firstCells,loadCells,loadCellsFrom,hle,storeCells]
 ·cases a with
  | none=>simp at aR; omega
  | some ad =>
   replace ug:=ug ad rfl;have adh:n+m<=9223372036854775807:=by simp only [maxLen] at q4; omega
   have grown:∀ (nf:Nat),nf<n+m ->
     (w.drew.alloc (.cells (us.toArray++news.toArray++Builtin.zeroCells dH.cells (grownCap w (n+m) nf e - (n+m))) e)).ownsRow 0 e i.size (.slice (some ⟨w.heap.size,0,none⟩) (n+m) (grownCap w (n+m) nf e)) (n+m) (us++news):=by
    intro nf aY;have dG:=grownCap_ge w (n+m) nf e;have hlen:(us++news).length=(n+m) * i.size:=by rw [List.length_append,l4,ai,Nat.add_mul]
    refine ⟨hlen,.inr ⟨w.heap.size,_,_,rfl,Nat.zero_le _,tv w.drew _,dG,grownCap_le_maxLen w (n+m) nf e q4,?_,?_⟩⟩
    ·simp only [Array.size_append,List.size_toArray,size_zeroCells,pB,l4,ai,<- Nat.add_mul];congr 1;omega
    ·simp only [Array.toList_append,List.append_assoc];rw [<- List.append_assoc,<- hlen];exact List.take_left
   have Jd:=lg;obtain ⟨_,bY⟩:=lg;rcases bY with ⟨rfl,rfl⟩ | ⟨b,cap,cur,rfl,_,aP,hle,vm,hC,OC⟩
   ·have J:us=[]:=List.eq_nil_of_length_eq_zero (by simpa using l4);subst J;have aj:=run_append_nil (P:=P) w t ty e i dH aw hi aX ad m c news ai ug (by omega) (by omega) (by simp only [Nat.zero_add] at EF; omega);have r2:=grown 0 (by omega);simp only [Nat.zero_add,List.nil_append,Array.empty_append] at r2;exact ⟨_,_,e,aj,.same Jd (λc aa=>sx w.drew _ c aa) (by simp) rfl rfl rfl (by simpa using r2) (λc aa=>.inr (by simp [Value.ownBlock] at aa; omega)) (λa=>HT w.drew _ _ a)⟩
   ·by_cases B9:n+m<=cap
    ·have ud:n * i.size+news.length<=cur.size:=by rw [ai,hC,<- Nat.add_mul]; exact Nat.mul_le_mul_right _ B9
     have aj:=YO (P:=P) (w:=w) t ty e cf i aw hi b n cap cur aP ad m c news ai ug h1 B9 ud;have hlen:(us++news).length=(n+m) * i.size:=by rw [List.length_append,l4,ai,Nat.add_mul]
     have fV:(cur.toList.take (n * i.size)++news++cur.toList.drop (n * i.size+news.length)).toArray.size=cur.size:=by
      simp only [List.size_toArray,List.length_append,List.length_take,List.length_drop,Array.length_toList];omega
     have ga:(cur.toList.take (n * i.size)++news++cur.toList.drop (n * i.size+news.length)).take (n * i.size)=cur.toList.take (n * i.size):=by
      rw [List.append_assoc];exact List.take_left' (by simp; omega)
     refine ⟨_,_,cf,aj,⟨⟨l4,.inr ⟨b,cap,_,rfl,Nat.zero_le _,setRow_heap w b cur _ cf _ aP,hle,vm,fV.trans hC,?_⟩⟩,⟨hlen,.inr ⟨b,cap,_,rfl,Nat.zero_le _,setRow_heap w b cur _ cf _ aP,B9,vm,fV.trans hC,?_⟩⟩,
      ⟨rfl,rfl,rfl,by simp,λk _ hk=>setRow_other w b k _ (λe=>hk (by simp [Value.ownBlock,e])),λa _=>HV w b _ a,Nat.le_refl _⟩,λc aa=>.inl aa,λc aa=>?_⟩⟩
     ·rw [<- OC]; exact ga
     ·rw [OC,<- hlen];exact List.take_left
     ·simp only [Value.ownBlock,Option.some.injEq] at aa;subst aa;exact ⟨cur,_,aP,setRow_heap w b cur _ cf _ aP,fV,ga⟩
    ·have holds:∀ (j:Nat) (u:Value),us[j]?=some u->w.cell? ((⟨b,0,none⟩:Addr).add j)=some u:=Jd.cells (g:=b) rfl;have aj:=run_append_grow (P:=P) w t ty e i dH aw hi aX ⟨b,0,none⟩ n cap us l4 holds ad m c news ai ug (by omega) (by omega) (growslice_fits (by omega) EF);have r2:=grown cap (by omega);exact ⟨_,_,e,aj,.same Jd (λc aa=>sx w.drew _ c aa) (by simp) rfl rfl rfl r2 (λc aa=>.inr (by simp [Value.ownBlock] at aa; omega)) (λa=>HT w.drew _ _ a)⟩
end
end Go.Own
namespace Go.Own
open Go
section
variable {w w':World}{I:bc}{ρ ρ':ab->Value->Prop}
theorem R.kids {x:ab}{v:Value}{F:bc}(h:R w I ρ x v F) (J:x.kids≠[]):∃ Fs:Nat->bc,
  (∀ k y,x.kids[k]?=some y->∃ u,child w v k=some u/\R w I ρ y u (Fs k))/\(∀ (j k c:Nat),j<x.kids.length->k<x.kids.length->Fs j c->Fs k c->j=k) /\
  (∀ k c,k<x.kids.length->Fs k c->F c)/\(∀ z n cs,x=.own z n cs->∀ c,v.ownBlock=some c->∀ k,k<x.kids.length->¬ Fs k c):=by
 cases h with
 | @own z n cs _ e us Fs _ aY ai h1 aj aS au aO =>
  refine ⟨Fs,λk y hk=>?_,aS,λk c hk aa=>(aO c).2 (.inr ⟨k,hk,aa⟩),λ_ _ _ _ c aa k hk h=>au k c hk h aa⟩;simp only [ab.kids] at hk;have aQ:k<cs.length:=(List.getElem?_eq_some_iff.1 hk).1;have hu:us[k]?=some us[k]:=List.getElem?_eq_getElem (ai ▸ aQ)
  grind [pL]
 | @obj cs b e arr Fs _ aY ai h1 aj aS au aO =>
  refine ⟨Fs,λk y hk=>?_,aS,λk c hk aa=>(aO c).2 (.inr ⟨k,hk,aa⟩),λ_ _ _ h=>by simp at h⟩;simp only [ab.kids] at hk;have aQ:k<cs.length:=(List.getElem?_eq_some_iff.1 hk).1;have hu:arr[k]?=some arr[k]:=Array.getElem?_eq_getElem (ai ▸ aQ);exact ⟨_,by simp [child,World.cell?,aY,hu],aj k y _ hk hu⟩
 | @agg cs vs Fs _ ai h1 aj aS aO =>
  refine ⟨Fs,λk y hk=>?_,aS,λk c hk aa=>(aO c).2 ⟨k,hk,aa⟩,λ_ _ _ h=>by simp at h⟩;simp only [ab.kids] at hk;have aQ:k<cs.length:=(List.getElem?_eq_some_iff.1 hk).1
  simp_all [child]
 | @bX cs vs Fs _ ai aj aS aO =>
  refine ⟨Fs,λk y hk=>?_,aS,λk c hk aa=>(aO c).2 ⟨k,hk,aa⟩,λ_ _ _ h=>by simp at h⟩;simp only [ab.kids] at hk;have aQ:k<cs.length:=(List.getElem?_eq_some_iff.1 hk).1
  simp_all [child]
 | ref gg=>cases x <;> simp [ab.isRef,ab.kids] at gg J
 | _=>simp [ab.kids] at J
theorem ab.u_ {x y:ab}{k:Nat}{p:List Nat}(h:x.at (k::p)=some y):∃ c,x.kids[k]?=some c/\c.at p=some y:=by
 grind [ab.at]
theorem R.Kl {b:Nat}:∀ (q r:List Nat) {x:ab}{v:Value}{F:bc}{z n bA cB:Nat}{cs cs':List ab}{mE DD:Value},R w I ρ x v F->x.at q=some (.own z n cs)->x.at r=some (.own bA cB cs') ->
  walk w v q=some mE->walk w v r=some DD->mE.ownBlock=some b->DD.ownBlock=some b->q=r
 | [],[],_,_,_,_,_,_,_,_,_,_,_,_,_,_,_,_,_,_=>rfl
 | [],k::r,x,v,F,z,n,bA,cB,cs,cs',mE,DD,h,bg,aj,oj,wr,y7,y8=>by
  obtain ⟨c,hk,aa⟩:=ab.u_ aj;simp only [ab.at,Option.some.injEq] at bg;simp only [walk,Option.some.injEq] at oj;subst bg oj;have aQ:k<(ab.own z n cs).kids.length:=(List.getElem?_eq_some_iff.1 hk).1;obtain ⟨Fs,h1,af,aI,bD⟩:=h.kids (by intro e; rw [e] at aQ; simp at aQ);obtain ⟨u,hu,mR⟩:=h1 k c hk;simp only [walk,hu] at wr;obtain ⟨hW,cw,hw,dF,dy,_⟩:=R.focus r mR aa;rw [hw] at wr;cases wr;exact absurd (dy b (dF.qw b y8)) (bD z n cs rfl b y7 k aQ)
 | j::q,[],x,v,F,z,n,bA,cB,cs,cs',mE,DD,h,bg,aj,oj,wr,y7,y8=>by
  obtain ⟨c,hk,aa⟩:=ab.u_ bg;simp only [ab.at,Option.some.injEq] at aj;simp only [walk,Option.some.injEq] at wr;subst aj wr;have aQ:j<(ab.own bA cB cs').kids.length:=(List.getElem?_eq_some_iff.1 hk).1;obtain ⟨Fs,h1,af,aI,bD⟩:=h.kids (by intro e; rw [e] at aQ; simp at aQ);obtain ⟨u,hu,mR⟩:=h1 j c hk;simp only [walk,hu] at oj;obtain ⟨hW,cw,hw,dF,dy,_⟩:=R.focus q mR aa;rw [hw] at oj;cases oj;exact absurd (dy b (dF.qw b y7)) (bD bA cB cs' rfl b y8 j aQ)
 | j::q,k::r,x,v,F,z,n,bA,cB,cs,cs',mE,DD,h,bg,aj,oj,wr,y7,y8=>by
  obtain ⟨c,ag,aa⟩:=ab.u_ bg;obtain ⟨d,hk,aS⟩:=ab.u_ aj;have e0:j<x.kids.length:=(List.getElem?_eq_some_iff.1 ag).1;have fq:k<x.kids.length:=(List.getElem?_eq_some_iff.1 hk).1;obtain ⟨Fs,h1,af,aI,bD⟩:=h.kids (by intro e; rw [e] at e0; simp at e0);obtain ⟨u,hu,mR⟩:=h1 j c ag;obtain ⟨wo,jH,Ij⟩:=h1 k d hk;simp only [walk,hu] at oj;simp only [walk,jH] at wr;by_cases fU:j=k
  ·subst fU;rw [ag] at hk; cases hk;rw [hu] at jH; cases jH;rw [R.Kl q r mR aa aS oj wr y7 y8]
  ·exfalso;obtain ⟨hW,cw,hw,dF,dy,_⟩:=R.focus q mR aa;obtain ⟨ZX,jh,vE,BD,UK,_⟩:=R.focus r Ij aS;rw [hw] at oj; cases oj;rw [vE] at wr; cases wr;exact fU (af j k b e0 fq (dy b (dF.qw b y7)) (UK b (BD.qw b y8)))
theorem ab.Ql:∀ (q:List Nat) {x y:ab},x.at q=some y->x.setAt q y=x
 | [],x,y,h=>by simp [ab.at] at h; simp [ab.setAt,h]
 | k::q,x,y,h=>by
  obtain ⟨c,hk,aa⟩:=ab.u_ h;simp only [ab.setAt,hk,ab.Ql q aa];have:∀ (l:List ab),l[k]?=some c->l.set k c=l:=by
   intro l ai;apply List.ext_getElem?;intro j;by_cases fU:k=j
   ·subst fU;have aQ:k<l.length:=(List.getElem?_eq_some_iff.1 ai).1;rw [List.getElem?_set_self aQ,ai]
   ·rw [List.getElem?_set_ne fU]
  cases x <;> simp [ab.kids] at hk <;> simp [ab.wk,this _ hk]
theorem DG (w:World):∀ (p:List Nat) (v:Value) (r:List Nat),walk w v (p++r)=(walk w v p).bind λu=>walk w u r
 | [],v,r=>rfl
 | k::p,v,r=>by
  simp only [List.cons_append,walk];cases child w v k with
  | none=>rfl
  | some u=>exact DG w p u r
theorem ab.Hg:∀ (p:List Nat) (x:ab) (r:List Nat),x.at (p++r)=(x.at p).bind λy=>y.at r
 | [],x,r=>rfl
 | k::p,x,r=>by
  simp only [List.cons_append,ab.at];cases x.kids[k]? with
  | none=>rfl
  | some u=>exact ab.Hg p u r
structure D6 (w w':World) (b M:Nat):Prop where
 other:∀ c,c<w.heap.size->c≠b->w'.heap[c]?=w.heap[c]?
 here:∃ (arr jk:Array Value) (e:TypeId),w.heap[b]?=some (.cells arr e (0,0))/\w'.heap[b]?=some (.cells jk e (0,0))/\jk.size=arr.size/\jk.toList.take M=arr.toList.take M
theorem D6.row {b M:Nat}(s:D6 w w' b M) {e:TypeId}{z n:Nat}{v:Value}{us:List Value}(h:w.ownsRow 0 e z v n us) (aE:v.ownBlock=some b->n * z<=M):w'.ownsRow 0 e z v n us:=by
 by_cases au:v.ownBlock=some b
 ·obtain ⟨arr,jk,cu,h1,af,aI,bD⟩:=s.here;obtain ⟨hu,bY⟩:=h;rcases bY with ⟨rfl,rfl⟩ | ⟨g,cap,cur,rfl,aP,aa,s',lr,Ay,yb⟩
  ·grind [Value.ownBlock]
  ·simp only [Value.ownBlock,Option.some.injEq] at au;subst au;rw [h1] at aa;cases aa;refine ⟨hu,.inr ⟨g,cap,jk,rfl,aP,af,s',lr,by omega,?_⟩⟩;rw [<- yb];have:=congrArg (List.take (n * z)) bD
   rwa [List.take_take,List.take_take,Nat.min_eq_left (aE rfl)] at this
 ·exact vT h λc aa=>s.other c (h.lt c aa).2 λe=>au (e ▸ aa)
theorem R.spare {b M:Nat}(s:D6 w w' b M) (bb:∀ c,I c->c<w.heap.size/\c≠b) (lL:∀ x v,ρ x v->ρ' x v) {x:ab}{v:Value}{F:bc}(h:R w I ρ x v F) {q:List Nat}{z n:Nat}{cs:List ab}{hW:Value}
  (gp:x.at q=some (.own z n cs)) (hw:walk w v q=some hW) (au:hW.ownBlock=some b) (aE:n * z<=M) :
  R w' I ρ' x v F/\∀ r y,x.at r=some y->walk w' v r=walk w v r:=by
 obtain ⟨ZX,cw,vE,dF,dy,eY,kg⟩:=R.focus q h gp;rw [hw] at vE;cases vE;have mr:cw b:=dF.qw b au;have aQ:=h.lt;have same:∀ c,F c->c≠b->w'.heap[c]?=w.heap[c]?:=λc aa da=>s.other c (aQ c aa) da;have acF:=dF;cases dF with
 | ref J=>simp [ab.isRef] at J
 | @own _ _ _ _ e us Fs _ aY ai h1 aj aS iL aO =>
  have nA:=s.row aY λ_=>aE;have da:∀ k c,k<cs.length->Fs k c->c≠b:=λk c hk aa e=>iL k c hk aa (e ▸ au);have jD:∀ k c,k<cs.length->Fs k c->F c:=λk c hk aa=>dy c ((aO c).2 (.inr ⟨k,hk,aa⟩));have r6:R w' I ρ' (.own z n cs) hW cw:=by
   refine .own nA ai h1 (λk x u J hu=>?_) aS iL aO;have hk:k<cs.length:=(List.getElem?_eq_some_iff.1 J).1;exact (aj k x u J hu).frame (λc aa=>s.other c (bb c aa).1 (bb c aa).2) (λ_ h=>h) lL λc aa=>same c (jD k c hk aa) (da k c hk aa)
  constructor
  ·obtain ⟨c_,jE,pf⟩:=kg w' I ρ' _ cw ⟨λc aa=>s.other c (bb c aa).1 (bb c aa).2,λc aa aE=>same c aa λe=>aE (e ▸ mr),λ_ h=>h,lL⟩ r6 λc aa _=>aa;rw [ab.Ql q gp] at jE;refine jE.zc λc=>?_
   grind
  ·obtain ⟨h9,hn⟩:=eY w' λc aa aE=>same c aa λe=>aE (e ▸ mr);intro r y dN;rcases hn r y dN with ⟨cW,rfl⟩ | h
   ·rw [DG,DG,h9,hw];simp only [Option.bind_some];cases cW with
    | nil=>rfl
    | cons k cW =>
     grind [ab.Hg,ab.u_,ab.kids,R.pS,walk,pL]
   ·exact h
end
end Go.Own
namespace Go.Own
open Go
section
variable {w w':World}{I:bc}{T:Array Value}{g:aJ}{Fs:Nat->bc}
theorem cD.K4 (h:cD w I T g Fs) {t:Nat}{x:ab}(J:g t=some x):∃ v,T[t]?=some v/\dV w T ⟨t,[]⟩=some v/\jw w I (dR w T g) x v (Fs t):=by
 obtain ⟨v,hv,a1⟩:=h.rel t x J;exact ⟨v,hv,by simp [dV,hv,walk],a1⟩
theorem cD.app (h:cD w I T g Fs) {z n m:Nat}{p:Place}{bv fM:Value}{e cd:TypeId}{us news:List Value}(jN:dR w T g (.bM z p n 0 []) bv)
  (e':∀ t bA cB m' c0,g t≠some (.bM bA p cB m' c0)) (A:DT w w' bv fM e cd z n m us news):cD w' I T g Fs/\∀ r v,dR w T g r v->dR w' T g r v:=by
 cases iL:bv.ownBlock with
 | none =>
  have same:∀ c,c<w.heap.size->w'.heap[c]?=w.heap[c]?:=λc aa=>A.eR.block c aa (by rw [iL]; simp);exact ⟨h.world (λt c aa=>same c (h.jS t c aa)) (λc aa=>same c (h.lt c aa)) A.eR.size,λr v aj=>h.F1 (λ_ _=>rfl) (λt c aa=>same c (h.jS t c aa)) (λ_ _ h=>h) aj⟩
 | some b =>
  have s:D6 w w' b (n * z):=by
   refine ⟨λc aa da=>A.eR.block c aa (by rw [iL]; simpa using Ne.symm da),?_⟩;obtain ⟨arr,jk,h1,af,aI,bD⟩:=A.sp b iL;exact ⟨arr,jk,e,h1,af,aI,bD⟩
  obtain ⟨t0,sT⟩:=h.Eb jN b iL;have bb:∀ c,I c->c<w.heap.size/\c≠b:=λc aa=>⟨h.lt c aa,λe=>h.bn t0 b sT (e ▸ aa)⟩;obtain ⟨⟨wL,wN,IC,rfl⟩,cQ⟩:=jN
  -- the home of the block
  have home:∃ N:Place->Prop,(∀ q bA cB cs' mE,bz g q=some (.own bA cB cs')->dV w T q=some mE->mE.ownBlock=some b->N q) /\
    (∀ q,N q->∀ t bA cB m' c0,g t=some (.bM bA q cB m' c0)->t=p.root/\p.path=[]) /\
    (∀ t bA fQ cB m' c0,Fs t b->g t=some (.bM bA fQ cB m' c0)->t=p.root/\p.path=[]) /\
    (∀ bA fQ cB m' c0,p.path=[]->g p.root=some (.bM bA fQ cB m' c0)->bA=z/\n=cB+m') /\
    (∀ t x v,Fs t b->g t=some x->T[t]?=some v->R w I (dR w T g) x v (Fs t)->∃ q bA cB cs' hW,x.at q=some (.own bA cB cs')/\walk w v q=some hW/\hW.ownBlock=some b/\cB * bA<=n * z):=by
   rcases cQ with ⟨cs,ar⟩ | ⟨fH,lq,nL,m1,adt,cs,ar,aE,B7⟩
   ·-- the base is a row of a tree
    obtain ⟨qI,qN,gS,hB,nv⟩:=h.part ar (by simp);rw [IC] at gS;cases gS;have kd:t0=p.root:=h.eK _ _ _ sT (nv b (hB.qw b iL));obtain ⟨ez,il⟩:∃ ez,g p.root=some ez:=by
     unfold bz at ar;cases J:g p.root with
     | none=>rw [J] at ar; cases ar
     | some x=>exact ⟨x,rfl⟩
    have pk:ez.at p.path=some (.own z n cs):=by simpa [bz,il] using ar
    have lk:∀ bA fQ cB m' c0,g p.root≠some (.bM bA fQ cB m' c0):=by
     intro bA fQ cB m' c0 bY;rw [il] at bY;cases bY;have:=(ab.sA pk).2;simp at this
    obtain ⟨v0,iN,gD⟩:=h.rel _ _ il;have BC:=gD.gF (λbA fQ cB m' c0 e=>lk bA fQ cB m' c0 (by rw [il,e]));have Cg:walk w v0 p.path=some (.slice wL n wN):=by simpa [dV,iN] using IC
    refine ⟨λq=>q=p,?_,?_,?_,?_,?_⟩
    ·intro q bA cB cs' mE bg sV xd;obtain ⟨QR,GV,vD,Ih,Ib⟩:=h.part bg (by simp);rw [sV] at vD;cases vD;have aj:q.root=p.root:=(h.eK _ _ _ (Ib b (Ih.qw b xd)) sT).trans kd;have BI:ez.at q.path=some (.own bA cB cs'):=by simpa [bz,aj,il] using bg
     have Jt:walk w v0 q.path=some mE:=by simpa [dV,aj,iN] using sV
     have:=R.Kl q.path p.path BC BI pk Jt Cg xd iL;cases q; cases p; simp_all
    ·rintro q rfl t bA cB m' c0 bY; exact absurd bY (e' t bA cB m' c0)
    ·intro t bA fQ cB m' c0 pt bY;have:t=p.root:=(h.eK _ _ _ pt sT).trans kd;rw [this] at bY;exact absurd bY (lk _ _ _ _ _)
    ·intro bA fQ cB m' c0 _ bY; exact absurd bY (lk _ _ _ _ _)
    ·intro t x v pt J hv a1;have:t=p.root:=(h.eK _ _ _ pt sT).trans kd;subst this;rw [il] at J; cases J;rw [iN] at hv; cases hv;exact ⟨_,_,_,_,_,pk,Cg,iL,Nat.le_refl _⟩
   ·-- the base is behind an append itself
    obtain ⟨v0,iN,Ce,gD⟩:=h.K4 ar;have WM:v0=.slice wL n wN:=by
     have:(⟨p.root,[]⟩:Place)=p:=by cases p; simp_all
     rw [this,IC] at Ce;exact (Option.some.inj Ce).symm
    subst WM;obtain ⟨Sz,cu,MR,ZR,adv,gD⟩:=gD.vL;by_cases nw:Sz.ownBlock=some b
    ·obtain ⟨⟨aF,MC,OG,rfl⟩,_⟩:=gD.jN;obtain ⟨mE,GV,sV,Ih,Ib⟩:=h.part B7 (by simp);rw [OG] at sV;cases sV;have kd:t0=lq.root:=h.eK _ _ _ sT (Ib b (Ih.qw b nw));obtain ⟨ez,il⟩:∃ ez,g lq.root=some ez:=by
      unfold bz at B7;cases J:g lq.root with
      | none=>rw [J] at B7; cases B7
      | some x=>exact ⟨x,rfl⟩
     have pk:ez.at lq.path=some (.own z nL cs):=by simpa [bz,il] using B7
     have lk:∀ bA fQ cB m' c0,g lq.root≠some (.bM bA fQ cB m' c0):=by
      intro bA fQ cB m' c0 bY;rw [il] at bY;cases bY;have:=(ab.sA pk).2;simp at this
     obtain ⟨v1,um,qe⟩:=h.rel _ _ il;have U0:=qe.gF (λbA fQ cB m' c0 e=>lk bA fQ cB m' c0 (by rw [il,e]));have Cg:walk w v1 lq.path=some (.slice aF nL MC):=by simpa [dV,um] using OG
     refine ⟨λq=>q=lq,?_,?_,?_,?_,?_⟩
     ·intro q bA cB cs' mE bg sV xd;obtain ⟨QR,Ro,vD,Ii,Ic⟩:=h.part bg (by simp);rw [sV] at vD;cases vD;have aj:q.root=lq.root:=(h.eK _ _ _ (Ic b (Ii.qw b xd)) sT).trans kd;have BI:ez.at q.path=some (.own bA cB cs'):=by simpa [bz,aj,il] using bg
      have Jt:walk w v1 q.path=some mE:=by simpa [dV,aj,um] using sV
      have:=R.Kl q.path lq.path U0 BI pk Jt Cg xd nw;cases q; cases lq; simp_all
     ·rintro q rfl t bA cB m' c0 bY; exact ⟨h.rm _ _ _ _ _ _ _ _ _ _ _ bY ar,fH⟩
     ·intro t bA fQ cB m' c0 pt bY;have:t=lq.root:=(h.eK _ _ _ pt sT).trans kd;rw [this] at bY;exact absurd bY (lk _ _ _ _ _)
     ·intro bA fQ cB m' c0 _ bY;rw [ar] at bY; cases bY; exact ⟨rfl,aE⟩
     ·intro t x v pt J hv a1;have:t=lq.root:=(h.eK _ _ _ pt sT).trans kd;subst this;rw [il] at J; cases J;rw [um] at hv; cases hv;exact ⟨_,_,_,_,_,pk,Cg,nw,Nat.mul_le_mul_right _ (by omega)⟩
    ·have ml:Fs p.root b:=(gD.aO b).2 ⟨iL,nw⟩;have kd:t0=p.root:=h.eK _ _ _ sT ml;refine ⟨λ_=>False,?_,λ_ h=>h.elim,?_,?_,?_⟩
     ·intro q bA cB cs' mE bg sV xd;obtain ⟨QR,Ro,vD,Ii,Ic⟩:=h.part bg (by simp);rw [sV] at vD;cases vD;have aj:q.root=p.root:=h.eK _ _ _ (Ic b (Ii.qw b xd)) ml;unfold bz at bg;rw [aj,ar] at bg;have:=(ab.sA bg).2;simp at this
     ·intro t bA fQ cB m' c0 pt _; exact ⟨h.eK _ _ _ pt ml,fH⟩
     ·intro bA fQ cB m' c0 _ bY;rw [ar] at bY; cases bY; exact ⟨rfl,aE⟩
     ·intro t x v pt J hv a1;have:t=p.root:=h.eK _ _ _ pt ml;subst this;rw [ar] at J; cases J;exact a1.lk.elim
  obtain ⟨N,NF,NG,NH,UU,UW⟩:=home
  -- rows of pends
  have pends:∀ t bA fQ cB m' c0 v y9 cf tI iR Fw,g t=some (.bM bA fQ cB m' c0)->T[t]?=some v->GZ w I (dR w T g) bA fQ cB m' c0 v (Fs t) y9 cf tI iR Fw ->
    (v.ownBlock=some b->(cB+m') * bA<=n * z)/\(y9.ownBlock=some b->cB * bA<=n * z):=by
   intro t bA fQ cB m' c0 v y9 cf tI iR Fw aP hv a1;by_cases aw:t=p.root/\p.path=[]
   ·obtain ⟨rfl,fH⟩:=aw;obtain ⟨rfl,rfl⟩:=UU _ _ _ _ _ fH aP;exact ⟨λ_=>Nat.le_refl _,λ_=>Nat.mul_le_mul_right _ (by omega)⟩
   ·have vl:y9.ownBlock≠some b:=by
     intro l1;obtain ⟨⟨a2,rP,OH,rfl⟩,Wg⟩:=a1.jN;rcases Wg with ⟨cs2,af⟩ | ⟨aT,Dp,XS,m3,adu,ab9,af,aI,bD⟩
     ·exact aw (NG fQ (NF fQ _ _ _ _ af OH l1) t _ _ _ _ aP)
     ·obtain ⟨v2,Cd,OE,mn⟩:=h.K4 af;have zx:(⟨fQ.root,[]⟩:Place)=fQ:=by cases fQ; simp_all
      rw [zx,OH] at OE;cases OE;have Ow:fQ.root=p.root/\p.path=[]->False:=by
       rintro ⟨aj,fH⟩;have:fQ=p:=by cases fQ; cases p; simp_all
       exact e' t bA cB m' c0 (this ▸ aP)
      obtain ⟨SA,fx,TK,adG,adw,mn⟩:=mn.vL;by_cases tU:SA.ownBlock=some b
      ·obtain ⟨⟨a4,aam,WO,rfl⟩,_⟩:=mn.jN;exact Ow (NG Dp (NF Dp _ _ _ _ bD WO tU) _ _ _ _ _ af)
      ·exact Ow (NH _ _ _ _ _ _ ((mn.aO b).2 ⟨l1,tU⟩) af)
    refine ⟨λCf=>?_,λl1=>absurd l1 vl⟩;exact absurd (NH _ _ _ _ _ _ ((a1.aO b).2 ⟨Cf,vl⟩) aP) aw
  -- trees
  have aQ:=h.jS;have trees:∀ t x v (ρ':ab->Value->Prop),(∀ x v,dR w T g x v->ρ' x v)->g t=some x->T[t]?=some v->R w I (dR w T g) x v (Fs t)->R w' I ρ' x v (Fs t)/\∀ r y,x.at r=some y->walk w' v r=walk w v r:=by
   intro t x v ρ' lL J hv a1;by_cases pt:Fs t b
   ·obtain ⟨q,bA,cB,cs',hW,h1,af,aI,bD⟩:=UW t x v pt J hv a1;exact a1.spare s bb lL h1 af aI bD
   ·have same:∀ c,Fs t c->w'.heap[c]?=w.heap[c]?:=λc aa=>s.other c (aQ t c aa) λe=>pt (e ▸ aa);exact ⟨a1.frame (λc aa=>s.other c (bb c aa).1 (bb c aa).2) (λ_ h=>h) lL same,λr y aj=>R.pS r a1 aj same⟩
  have val:∀ q y,bz g q=some y->dV w' T q=dV w T q:=by
   intro q y bg;unfold bz at bg;cases J:g q.root with
   | none=>rw [J] at bg; cases bg
   | some x =>
    rw [J] at bg;obtain ⟨v,hv,a1⟩:=h.rel _ _ J;cases a1 with
    | tree a1=>have:=(trees _ x v _ (λ_ _ h=>h) J hv a1).2 q.path y bg; simp [dV,hv,this]
    | bM a1=>simp [dV,hv,(ab.sA bg).1,walk]
  have slot:∀ {q:Place}{x:ab},q.path=[]->g q.root=some x->dV w' T q=dV w T q:=by
   intro q x bg J;obtain ⟨v,hv,_⟩:=h.rel _ _ J;simp [dV,bg,walk]
  have refs:∀ r v,dR w T g r v->dR w' T g r v:=by
   rintro r v ⟨h1,af⟩;refine ⟨?_,af⟩;cases r <;> simp only [fC,gB] at h1 af ⊢
   case ptr q k=>obtain ⟨y,av,_⟩:=af; rw [val q y av]; exact h1
   case a6 bA q cB =>
    rcases af with ⟨_,_,af,_⟩ | ⟨aT,_,_,_,_,af,_⟩
    ·rw [val q _ af]; exact h1
    ·rw [slot aT af]; exact h1
   case sub bA q lo cB=>obtain ⟨_,_,af,_⟩:=af; rw [val q _ af]; exact h1
   case gw q=>obtain ⟨_,af⟩:=af; rw [val q _ af]; exact h1
   case bM bA q cB m' c0 =>
    rcases af with ⟨_,af⟩ | ⟨aT,_,_,_,_,_,af,_⟩
    ·rw [val q _ af]; exact h1
    ·rw [slot aT af]; exact h1
  refine ⟨⟨λt x J=>?_,h.kW,h.eK,h.bn,λc aa=>Nat.lt_of_lt_of_le (h.lt c aa) A.eR.size,h.rm⟩,refs⟩;obtain ⟨v,hv,a1⟩:=h.rel t x J;refine ⟨v,hv,?_⟩;cases a1 with
  | tree a1=>exact .tree (trees t x v _ refs J hv a1).1
  | @bM bA cB m' fQ c0 _ y9 cf tI iR Fw _ a1 =>
   obtain ⟨eU,ri⟩:=pends t _ _ _ _ _ v y9 cf tI iR Fw J hv a1;refine .bM ⟨refs _ _ a1.jN,s.row a1.lg ri,s.row a1.nB eU,a1.ai,a1.h1,λk x u J hu=>?_,a1.aO⟩;exact (a1.aj k x u J hu).frame (λc aa=>s.other c (bb c aa).1 (bb c aa).2) (λ_ h=>h) refs λc aa=>aa.elim
end
end Go.Own
namespace Go.Own
open Go
def u1 (w:World) (I:bc) (T:Array Value) (g:aJ) (Fs:Nat->bc) (x:ab) (v:Value) (w':World):Prop :=
 ∃ F I',cD w' I' T g Fs/\jw w' I' (dR w' T g) x v F/\(∀ t c,F c->¬ Fs t c)/\(∀ c,F c->w.heap.size<=c/\¬ I' c)/\(∀ c,I c->I' c)/\(∀ c,I' c->I c\/w.heap.size<=c)/\Fr w w' (λc=>∃ t,Fs t c)/\(∀ z p n m new,x=.bM z p n m new->∀ t bA cB m' c0,g t≠some (.bM bA p cB m' c0))
inductive Src (g:aJ):ab->Nat->Nat->List ab->Prop
 | bn {z m:Nat}{cs:List ab}:Src g (.bn z m cs) z m cs
 | aN {z:Nat}:Src g .aN z 0 []
 | a6 {z m N:Nat}{q:Place}{cs:List ab}(bg:bz g q=some (.own z N cs)) (hm:m<=N):Src g (.a6 z q m) z m ((cs.take (m * z)).mapIdx λi x=>gq 0 (q.push i) x)
 | sub {z lo m N:Nat}{q:Place}{cs:List ab}(bg:bz g q=some (.own z N cs)) (hm:lo+m<=N):Src g (.sub z q lo m) z m (((cs.drop (lo * z)).take (m * z)).mapIdx λi x=>gq 0 (q.push (lo * z+i)) x)
def jz (P:Program) (t e:TypeId) (z b:Nat):Bool :=
 match P.underlying t,P.info? e with
 | some (.slice cf),some i=>cf == e&&i.size == z&&i.bytes == b&&z != 0&&(match i.zero with | some v=>v.cells.size == z | none=>false)
 | _,_=>false
section
variable {P:Program}{w:World}{I:bc}{T:Array Value}{g:aJ}{Fs:Nat->bc}
theorem L8 {t e:TypeId}{z b:Nat}(h:jz P t e z b=true):∃ i dH,P.underlying t=some (.slice e)/\P.info? e=some i/\i.size=z/\i.bytes=b/\0<z/\i.zero=some dH/\dH.cells.size=z:=by
 unfold jz at h;cases hu:P.underlying t with
 | none=>simp [hu] at h
 | some d =>
  cases hi:P.info? e with
  | none=>cases d <;> simp [hu,hi] at h
  | some i =>
   cases d <;> simp [hu,hi] at h;obtain ⟨⟨⟨⟨rfl,h1⟩,af⟩,aI⟩,bD⟩:=h;cases aX:i.zero with
   | none=>simp [aX] at bD
   | some dH=>simp [aX] at bD; exact ⟨i,dH,rfl,rfl,h1,af,by omega,aX,bD⟩
theorem Src.sound (h:cD w I T g Fs) {y:ab}{v:Value}{z m:Nat}{cells:List ab}(aA:Src g y z m cells) (a1:R w I (dR w T g) y v cv) :
  ∃ (a:Option Addr) (c:Nat) (news:List Value),v=.slice a m c/\news.length=m * z/\(0<m->0<z->a.isSome=true)/\(∀ ad,a=some ad->∀ (j:Nat) (u:Value),news[j]?=some u->w.cell? (ad.add j)=some u)/\Cells w I (dR w T g) cells news:=by
 have Pr:∀ {q:Place}{N:Nat}{cs:List ab}(lo:Nat) {a:Option Addr}{cap:Nat},bz g q=some (.own z N cs)->dV w T q=some (.slice a N cap)->lo+m<=N ->
   ∃ news:List Value,news.length=m * z/\(∀ ad,a=some ad->∀ (j:Nat) (u:Value),news[j]?=some u->w.cell? ⟨ad.block,lo * z+j,none⟩=some u)/\Cells w I (dR w T g) (((cs.drop (lo * z)).take (m * z)).mapIdx λi x=>gq 0 (q.push (lo * z+i)) x) news/\(0<m->0<z->∃ b,a=some ⟨b,0,none⟩):=by
  intro q N cs lo a cap bg hv hm;obtain ⟨fM,cw,ik,dF,_⟩:=h.part bg (by simp);rw [hv] at ik;cases ik;obtain ⟨b',mM,i_,_,hlen,q9,_⟩:=dF.ng;cases i_;have acI:lo * z+m * z<=cs.length:=by rw [hlen,<- Nat.add_mul]; exact Nat.mul_le_mul_right _ hm
  have cell:∀ j,j<m * z->∃ b gU lS,a=some ⟨b,0,none⟩/\w.cell? ⟨b,lo * z+j,none⟩=some gU/\gU.oneCell'=true/\cs[lo * z+j]?=some lS/\R w I (dR w T g) (gq 0 (q.push (lo * z+j)) lS) gU cv:=by
   intro j ag;have gg:cs[lo * z+j]?=some cs[lo * z+j]:=List.getElem?_eq_getElem (by omega);obtain ⟨b,gU,fP,l2,n0,hj,bL,kQ⟩:=dF.node (.inl rfl) gg;refine ⟨b,gU,_,?_,l2,hj,gg,F0 0 (by rw [tB,bg]; simp [ab.kids]) (by rw [yr,hv]; exact n0) kQ⟩;cases a with
   | none=>simp [addrOf] at fP
   | some ad=>simp only [addrOf] at fP; rw [Option.some.inj fP]
  have ug:∃ news:List Value,news.length=m * z/\∀ j,j<m * z->∃ b gU lS,news[j]?=some gU/\a=some ⟨b,0,none⟩/\w.cell? ⟨b,lo * z+j,none⟩=some gU/\gU.oneCell'=true/\cs[lo * z+j]?=some lS/\R w I (dR w T g) (gq 0 (q.push (lo * z+j)) lS) gU cv:=by
   refine ⟨(List.range (m * z)).map λj=>(w.cell? ⟨(a.map (·.block)).getD 0,lo * z+j,none⟩).getD undef,by simp,λj ag=>?_⟩;obtain ⟨b,gU,lS,h1,af,aI,bD,cF⟩:=cell j ag;refine ⟨b,gU,lS,?_,h1,af,aI,bD,cF⟩;rw [List.getElem?_map,List.getElem?_range ag,h1];simp [af]
  obtain ⟨news,ai,aE⟩:=ug;refine ⟨news,ai,λad fP j u ag=>?_,⟨?_,λj u ag=>?_,λj x u J ag=>?_⟩,λI8 JH=>?_⟩
  ·obtain ⟨b,gU,lS,h1,af,aI,_⟩:=aE j (by rw [<- ai]; exact (List.getElem?_eq_some_iff.1 ag).1);rw [h1] at ag; cases ag;rw [fP] at af; cases af;exact aI
  ·simp; omega
  ·obtain ⟨b,gU,lS,h1,af,aI,bD,_⟩:=aE j (by rw [<- ai]; exact (List.getElem?_eq_some_iff.1 ag).1);rw [h1] at ag; cases ag; exact bD
  ·obtain ⟨b,gU,lS,h1,af,aI,bD,cF,dS⟩:=aE j (by rw [<- ai]; exact (List.getElem?_eq_some_iff.1 ag).1);rw [h1] at ag; cases ag;rw [List.getElem?_mapIdx,List.getElem?_take] at J
   split at J
   ·rw [List.getElem?_drop,cF] at J;simp only [Option.map_some,Option.some.injEq] at J;rw [<- J]; exact dS
   ·cases J
  ·obtain ⟨b,_,_,h1,_⟩:=cell 0 (Nat.mul_pos I8 JH);exact ⟨b,h1⟩
 cases aA with
 | bn =>
  obtain ⟨a,cap,rfl,_,hlen,hm⟩:=a1.zH;by_cases aT:cells≠[]\/0<m
  ·obtain ⟨ad,us,rfl,bb,i',hj,aa,aj⟩:=hm aT;refine ⟨_,cap,(List.range cells.length).map us,rfl,by simp [hlen],by simp,λRX fP j u ag=>?_,⟨by simp,λj u ag=>?_,λj x u J ag=>?_⟩⟩
   ·cases fP;rw [List.getElem?_map] at ag;by_cases e0:j<cells.length
    ·rw [List.getElem?_range e0] at ag;simp only [Option.map_some,Option.some.injEq] at ag;obtain ⟨b,o,sp⟩:=ad;simp only at i';subst i';rw [add_eq,<- ag];exact aa j _ (List.getElem?_eq_getElem e0)
    ·rw [List.getElem?_eq_none (by simp; omega)] at ag; cases ag
   ·rw [List.getElem?_map] at ag;by_cases e0:j<cells.length
    ·rw [List.getElem?_range e0] at ag;simp only [Option.map_some,Option.some.injEq] at ag;rw [<- ag];exact hj j _ (List.getElem?_eq_getElem e0)
    ·rw [List.getElem?_eq_none (by simp; omega)] at ag; cases ag
   ·rw [List.getElem?_map] at ag;have e0:j<cells.length:=(List.getElem?_eq_some_iff.1 J).1;rw [List.getElem?_range e0] at ag;simp only [Option.map_some,Option.some.injEq] at ag;rw [<- ag];exact aj j x J
  ·have I8:m=0:=by omega
   have VC:cells=[]:=Classical.byContradiction λe=>aT (.inl e);subst I8 VC;exact ⟨a,cap,[],rfl,by simp,by simp,by simp,by simp [Cells]⟩
 | aN =>
  rw [a1.sg];exact ⟨none,0,[],rfl,by simp,by simp,by simp,by simp [Cells]⟩
 | @a6 _ _ N q cs bg hm =>
  obtain ⟨⟨a,iW,cap,h1,rfl,aI⟩,bD⟩:=a1.m_;obtain ⟨fM,cw,ik,dF,_⟩:=h.part bg (by simp);obtain ⟨b',mM,i_,_⟩:=dF.ng;rw [h1] at ik;cases ik;cases i_;obtain ⟨news,ai,aa,hC,aR⟩:=Pr 0 bg h1 (by omega);simp only [Nat.zero_mul,List.drop_zero,Nat.zero_add] at hC aa;refine ⟨a,cap,news,rfl,ai,λaT HY=>by obtain ⟨b,rfl⟩:=aR aT HY; rfl,λad fP j u ag=>?_,hC⟩;have sO:=aa ad fP j u ag;by_cases aT:0<m/\0<z
  ·obtain ⟨b,au⟩:=aR aT.1 aT.2;rw [fP] at au; cases au;rw [add_eq]; simpa using sO
  ·have:m * z=0:=by
    rcases Nat.eq_zero_or_pos m with h | h
    ·simp [h]
    ·rcases Nat.eq_zero_or_pos z with aL | aL
     ·simp [aL]
     ·exact absurd ⟨h,aL⟩ aT
   have:=(List.getElem?_eq_some_iff.1 ag).1;omega
 | @sub _ lo _ N q cs bg hm =>
  obtain ⟨⟨a,iW,cap,b',mM,h1,rfl,_,aI,cF⟩,bD⟩:=a1.xC;obtain ⟨fM,cw,ik,dF,_⟩:=h.part bg (by simp);obtain ⟨a2,rP,i_,_⟩:=dF.ng;rw [h1] at ik;cases ik;cases i_;obtain ⟨news,ai,aa,hC,aR⟩:=Pr lo bg h1 hm;refine ⟨b',mM,news,rfl,ai,λaT _=>by obtain ⟨ad,_,rfl⟩:=cF aT; rfl,λad fP j u ag=>?_,hC⟩;have aQ:=(List.getElem?_eq_some_iff.1 ag).1;have aT:0<m:=(Nat.eq_zero_or_pos m).elim (λh=>by rw [h] at ai; omega) id

  have aX:0<z:=(Nat.eq_zero_or_pos z).elim (λh=>by rw [h] at ai; omega) id

  obtain ⟨RX,dS,mQ⟩:=cF aT;obtain ⟨b,au⟩:=aR aT aX;rw [dS] at au; cases au;rw [fP] at mQ; cases mQ;have sO:=aa _ dS j u ag;rw [add_eq]; simpa using sO
end
end Go.Own
namespace Go.Own
open Go
inductive A3 (P:Program) (g:aJ):Op->TypeId->ab->Prop
 | grow {s x:Operand}{t e ty:TypeId}{z b n m:Nat}{p:Place}{y:ab}{cells:List ab}(aA:bs g s=some (.a6 z p n)) (cQ:gB g (.bM z p n 0 [])) (e':∀ t bA cB m' c0,g t≠some (.bM bA p cB m' c0))
   (J:bs g x=some y) (r_:Src g y z m cells) (aw:jz P t e z b=true) (q4:n+m<=4611686018427387904) (au:(n+m) * b<=140737488355328) :
   A3 P g (.call { callee:=.builtin .append,args:=#[s,x],argTypes:=#[t,t] }) ty (.bM z p n m cells)
 | nil {s x:Operand}{t e ty:TypeId}{z b m:Nat}{y:ab}{cells:List ab}(aA:bs g s=some .aN)
   (J:bs g x=some y) (r_:Src g y z m cells) (aw:jz P t e z b=true) (q4:m<=4611686018427387904) (au:m * b<=140737488355328) :
   A3 P g (.call { callee:=.builtin .append,args:=#[s,x],argTypes:=#[t,t] }) ty (.own z m cells)
inductive ck (P:Program) (g:aJ):Op->TypeId->ab->Prop
 | eU {op:Op}{ty:TypeId}{x:ab}(h:c8 P g op ty x):ck P g op ty x
 | ri {op:Op}{ty:TypeId}{x:ab}(h:p3 P g op ty x):ck P g op ty x
 | CP {op:Op}{ty:TypeId}{x:ab}(h:u3 P g op ty x):ck P g op ty x
 | lP {op:Op}{ty:TypeId}{x:ab}(h:A3 P g op ty x):ck P g op ty x
section
variable {P:Program}{w:World}{I:bc}{T:Array Value}{g:aJ}{Fs:Nat->bc}
theorem Cells.frame {w':World}{cells:List ab}{news:List Value}(aa:Cells w I (dR w T g) cells news) (bb:∀ c,I c->w'.heap[c]?=w.heap[c]?) (aj:∀ r v,dR w T g r v->dR w' T g r v):Cells w' I (dR w' T g) cells news :=
 ⟨aa.1,aa.2.1,λk x u J hu=>(aa.2.2 k x u J hu).frame bb (λ_ h=>h) aj λ_ h=>h.elim⟩
theorem A3.sound (h:cD w I T g Fs) {a:Act}(aR:a.tmps=T) {o:Oper}{kG:ab}(ar:A3 P g o.op o.type kG) :
  ∃ v w',(execOp a.eval o).run P w=.ok (.value v) w'/\u1 w I T g Fs kG v w':=by
 obtain ⟨dst,op,ty,pos,after,guard⟩:=o;simp only at ar;cases ar with
 | @grow s x t e _ z b n m p y cells aA cQ e' J r_ aw q4 au =>
  obtain ⟨i,dH,hu,hi,rfl,rfl,aT,aX,pB⟩:=L8 aw;obtain ⟨⟨wL,N,wN,h1,af,aI⟩,bD⟩:=(kf h aA aR).m_;obtain ⟨Du,KU,news,vA,ai,B_,Jm,hC⟩:=r_.sound h (kf h J aR)
  -- the row of the base
  have qi:N=n/\∃ cf us,w.ownsRow 0 cf i.size (.slice wL n wN) n us:=by
   rcases cQ with ⟨cs,ar⟩ | ⟨fH,q,gG,m0,new,cs,ar,rfl,_⟩
   ·obtain ⟨fM,cw,ik,dF,_⟩:=h.part ar (by simp);rw [h1] at ik;cases ik;obtain ⟨b',mM,i_,_⟩:=dF.ng;cases i_;cases dF with
    | own aY=>exact ⟨rfl,_,_,aY⟩
    | ref J=>simp [ab.isRef] at J
   ·obtain ⟨v0,iN,Ce,gD⟩:=h.K4 ar;have bg:(⟨p.root,[]⟩:Place)=p:=by cases p; simp_all
    rw [bg,h1] at Ce;cases Ce;obtain ⟨bv,cu,cd,us,adx,gD⟩:=gD.vL;have bd:N=gG+m0:=by
     obtain ⟨_,bY⟩:=gD.nB;rcases bY with ⟨bY,aE⟩ | ⟨g,cap,cur,bY,_⟩
     ·cases bY; omega
     ·cases bY; rfl
    subst bd;exact ⟨rfl,_,_,gD.nB⟩
  obtain ⟨rfl,cf,us,lg⟩:=qi;have jN:dR w T g (.bM i.size p N 0 []) (.slice wL N wN):=⟨⟨wL,wN,h1,rfl⟩,cQ⟩;obtain ⟨fM,w',cd,hK,A⟩:=P7 (P:=P) (w:=w) t ty e cf i dH hu hi aX pB aT lg (a:=Du) (c:=KU) (m:=m) (news:=news) (λhm=>B_ hm aT) ai Jm (λu hu=>by
   obtain ⟨k,hk,rfl⟩:=List.mem_iff_getElem.1 hu;exact hC.2.1 k _ (List.getElem?_eq_getElem hk)) (by unfold maxLen; omega) au
  obtain ⟨bk,hrefs⟩:=h.app jN e' A;refine ⟨fM,w',by simp [execOp,resolve,invoke,builtin,af,vA,hK],(λc=>fM.ownBlock=some c/\(Value.slice wL N wN).ownBlock≠some c),I,bk,?_,?_,?_,λ_ h=>h,λ_ h=>.inl h,?_,?_⟩
  ·have bb:∀ c,I c->w'.heap[c]?=w.heap[c]?:=by
    intro c aa;refine A.eR.block c (h.lt c aa) λau=>?_;obtain ⟨t,aw⟩:=h.Eb jN c au;exact h.bn t c aw aa
   have lH:=hC.frame bb hrefs;exact .bM ⟨hrefs _ _ jN,A.nf,A.new,lH.1,lH.2.1,lH.2.2,λc=>Iff.rfl⟩
  ·rintro t c ⟨ih,ua⟩ aW;rcases A.Ec c ih with h | aL
   ·exact ua h
   ·have:=h.jS t c aW; omega
  ·rintro c ⟨ih,ua⟩;rcases A.Ec c ih with aL | aL
   ·exact absurd aL ua
   ·exact ⟨aL,λhi=>by have:=h.lt c hi; omega⟩
  ·exact A.eR.mono λc _ aa=>h.Eb jN c aa
  ·intro bA X9 cB m' c0 he;cases he;exact e'
 | @nil s x t e _ z b m y cells aA J r_ aw q4 au =>
  obtain ⟨i,dH,hu,hi,rfl,rfl,aT,aX,pB⟩:=L8 aw;have af:=(kf h aA aR).sg;obtain ⟨Du,KU,news,vA,ai,B_,Jm,hC⟩:=r_.sound h (kf h J aR);obtain ⟨fM,w',cd,hK,A⟩:=P7 (P:=P) (w:=w) t ty e e i dH hu hi aX pB aT (World.ownsRow_nil w 0 e i.size) (a:=Du) (c:=KU) (m:=m) (news:=news) (λhm=>B_ hm aT) ai Jm (λu hu=>by
   obtain ⟨k,hk,rfl⟩:=List.mem_iff_getElem.1 hu;exact hC.2.1 k _ (List.getElem?_eq_getElem hk)) (by unfold maxLen; omega) (by simpa using au)
  have same:∀ c,c<w.heap.size->w'.heap[c]?=w.heap[c]?:=λc aa=>A.eR.block c aa (by simp [Value.ownBlock]);have r6:=A.new;simp only [Nat.zero_add,List.nil_append] at r6;have lH:=hC.frame (λc aa=>same c (h.lt c aa)) λr v aj=>h.F1 (λ_ _=>rfl) (λt c aa=>same c (h.jS t c aa)) (λ_ _ h=>h) aj;have hblk:∀ c,fM.ownBlock=some c->w.heap.size<=c:=λc aa=>(A.Ec c aa).elim (λh=>by simp [Value.ownBlock] at h) id;refine ⟨fM,w',by simp [execOp,resolve,invoke,builtin,af,vA,hK],(λc=>fM.ownBlock=some c),I,h.world (λt c aa=>same c (h.jS t c aa)) (λc aa=>same c (h.lt c aa)) A.eR.size,?_,?_,λc aa=>⟨hblk c aa,λhi=>by have:=h.lt c hi; have:=hblk c aa; omega⟩,λ_ h=>h,λ_ h=>.inl h,?_,?_⟩
  ·exact .tree (.own (Fs:=λ_=>cv) r6 lH.1 lH.2.1 lH.2.2 (λ_ _ _ _ _ h=>h.elim) (λ_ _ _ h=>h.elim) λc=>⟨.inl,λh=>h.elim id λ⟨_,_,h⟩=>h.elim⟩)
  ·intro t c aa aW; have:=hblk c aa; have:=h.jS t c aW; omega
  ·exact A.eR.mono λc _ aa=>by simp [Value.ownBlock] at aa
  ·intro bA X9 cB m' c0 he; cases he
theorem ck.sound (h:cD w I T g Fs) {a:Act}(aR:a.tmps=T) {o:Oper}{kG:ab}(ar:ck P g o.op o.type kG) :
  ∃ v w',(execOp a.eval o).run P w=.ok (.value v) w'/\u1 w I T g Fs kG v w':=by
 have CI:∀ {v:Value}{F:bc},R w I (dR w T g) kG v F->∀ z p n m new,kG=.bM z p n m new->∀ t bA cB m' c0,g t≠some (.bM bA p cB m' c0):=by
  rintro v F a1 z p n m new rfl;exact a1.lk.elim
 cases ar with
 | eU ar =>
  obtain ⟨v,aj,a1⟩:=ar.sound h aR;exact ⟨v,w,aj,cv,I,h,.tree a1,λ_ _ h=>h.elim,λ_ h=>h.elim,λ_ h=>h,λ_ h=>.inl h,Fr.refl _ _,CI a1⟩
 | CP ar =>
  obtain ⟨v,aj,a1⟩:=ar.sound h aR;exact ⟨v,w,aj,cv,I,h,.tree a1,λ_ _ h=>h.elim,λ_ h=>h.elim,λ_ h=>h,λ_ h=>.inl h,Fr.refl _ _,CI a1⟩
 | ri ar =>
  obtain ⟨v,sl,aj,a1⟩:=ar.sound h aR;refine ⟨v,_,aj,_,I,h.alloc sl,.tree a1,λt c aa aW=>?_,λc aa=>⟨by rw [aa]; exact Nat.le_refl _,λhi=>by have:=h.lt c hi; omega⟩,λ_ h=>h,λ_ h=>.inl h,Fr.alloc w sl _ (by
   obtain ⟨o,h1,af⟩:=a1.Yu w.heap.size rfl;rw [tv] at h1;cases h1;exact af),?_⟩
  ·have:=h.jS t c aW; omega
  ·rintro z p n m new rfl; exact a1.lk.elim
 | lP ar=>exact ar.sound h aR
end
end Go.Own
namespace Go.Own
open Go
inductive cS:ab->Prop
 | lit {v:Value}:cS (.lit v)
 | aN:cS .aN
 | dead:cS .dead
 | bn {z n:Nat}{cs:List ab}(h:∀ x∈cs,cS x):cS (.bn z n cs)
 | own {z n:Nat}{cs:List ab}(h:∀ x∈cs,cS x):cS (.own z n cs)
 | obj {cs:List ab}(h:∀ x∈cs,cS x):cS (.obj cs)
 | agg {cs:List ab}(h:∀ x∈cs,cS x):cS (.agg cs)
 | bX {cs:List ab}(h:∀ x∈cs,cS x):cS (.bX cs)
 | cG {cs:List ab}(h:∀ x∈cs,cS x):cS (.cG cs)
 | cU {fn:Fn}{a b:List ab}(h1:∀ x∈a,cS x) (af:∀ x∈b,cS x):cS (.cU fn a b)
 | mp {p:Array MapEntry->Nat->Prop}:cS (.mp p)
 | imp {p:Array MapEntry->Nat->Prop}:cS (.imp p)
inductive kH:ab->Prop
 | lit {v:Value}:kH (.lit v)
 | aN:kH .aN
 | dead:kH .dead
 | own {z n:Nat}{cs:List ab}(h:∀ x∈cs,kH x):kH (.own z n cs)
 | obj {cs:List ab}(h:∀ x∈cs,kH x):kH (.obj cs)
 | agg {cs:List ab}(h:∀ x∈cs,kH x):kH (.agg cs)
 | bX {cs:List ab}(h:∀ x∈cs,kH x):kH (.bX cs)
 | mp {p:Array MapEntry->Nat->Prop}:kH (.mp p)
theorem kH.bo {x:ab}(h:kH x):cS x:=by
 induction h with
 | lit=>exact .lit
 | aN=>exact .aN
 | dead=>exact .dead
 | own _ aU=>exact .own aU
 | obj _ aU=>exact .obj aU
 | agg _ aU=>exact .agg aU
 | bX _ aU=>exact .bX aU
 | mp=>exact .mp
inductive Rows (g:aJ):Place->Nat->Nat->List ab->Prop
 | own {p:Place}{z n:Nat}{cs:List ab}(ar:bz g p=some (.own z n cs)):Rows g p z n cs
 | bM {t z n m:Nat}{q:Place}{new cs:List ab}(aw:g t=some (.bM z q n m new)) (bg:Rows g q z n cs):Rows g ⟨t,[]⟩ z (n+m) (cs++new)
theorem Rows.mono {g g':aJ}(h:∀ {p:Place}{y:ab},bz g p=some y->bz g' p=some y) {p:Place}{z n:Nat}{cs:List ab}(aj:Rows g p z n cs) (af:∀ t x,g t=some x->g' t=some x):Rows g' p z n cs:=by
 induction aj with
 | own ar=>exact .own (h ar)
 | bM aw _ aU=>exact .bM (af _ _ aw) aU
inductive View (g:aJ):ab->ab->Prop
 | self {x:ab}(h:cS x) (J:∀ z n cs,x≠.own z n cs) (aY:∀ cs,x≠.obj cs) (aR:∀ cs,x≠.agg cs) (aw:∀ cs,x≠.bX cs) (hm:∀ p,x≠.mp p):View g x x
 | mp {p:Array MapEntry->Nat->Prop}:View g (.mp p) (.imp p)
 | gw {p:Place}{q:Array MapEntry->Nat->Prop}(ar:bz g p=some (.mp q)):View g (.gw p) (.imp q)
 | qv {z:Nat}:View g .aN (.bn z 0 [])
 | agg {cs cs':List ab}(ai:cs'.length=cs.length) (h:∀ (k:Nat) (x y:ab),cs[k]?=some x->cs'[k]?=some y->View g x y):View g (.agg cs) (.agg cs')
 | own {z n:Nat}{cs cs':List ab}(ai:cs'.length=cs.length) (h:∀ (k:Nat) (x y:ab),cs[k]?=some x->cs'[k]?=some y->View g x y):View g (.own z n cs) (.bn z n cs')
 | obj {cs cs':List ab}(ai:cs'.length=cs.length) (h:∀ (k:Nat) (x y:ab),cs[k]?=some x->cs'[k]?=some y->View g x y):View g (.obj cs) (.cG cs')
 | a6 {z n N:Nat}{p:Place}{cs cs':List ab}(ar:bz g p=some (.own z N cs)) (aE:n<=N) (ai:cs'.length=(cs.take (n * z)).length) (h:∀ (k:Nat) (x y:ab),(cs.take (n * z))[k]?=some x->cs'[k]?=some y->View g x y):View g (.a6 z p n) (.bn z n cs')
 | sub {z lo n N:Nat}{p:Place}{cs cs':List ab}(ar:bz g p=some (.own z N cs)) (aE:lo+n<=N) (ai:cs'.length=((cs.drop (lo * z)).take (n * z)).length) (h:∀ (k:Nat) (x y:ab),((cs.drop (lo * z)).take (n * z))[k]?=some x->cs'[k]?=some y->View g x y):View g (.sub z p lo n) (.bn z n cs')
 | ptr {p:Place}{k z n:Nat}{y:ab}{cs cs':List ab}(ar:bz g p=some y) (av:y=.own z n cs\/y=.obj cs) (hk:k<cs.length) (ai:cs'.length=(cs.drop k).length) (h:∀ (j:Nat) (x y:ab),(cs.drop k)[j]?=some x->cs'[j]?=some y->View g x y):View g (.ptr p k) (.cG cs')
 | cU {fn:Fn}{cs cs':List ab}(ai:cs'.length=cs.length) (h:∀ (k:Nat) (x y:ab),cs[k]?=some x->cs'[k]?=some y->View g x y):View g (.cU fn [] cs) (.cU fn [] cs')
 | rows {z n:Nat}{p:Place}{cs cs':List ab}(ar:Rows g p z n cs) (ai:cs'.length=cs.length) (h:∀ (k:Nat) (x y:ab),cs[k]?=some x->cs'[k]?=some y->View g x y):View g (.a6 z p n) (.bn z n cs')
section
variable {P:Program}{w:World}{I:bc}{T:Array Value}{g:aJ}{Fs:Nat->bc}
theorem R.bo {ρ ρ':ab->Value->Prop}{x:ab}{v:Value}{F:bc}(h:R w I ρ x v F):cS x->R w I ρ' x v F:=by
 induction h with
 | lit h aO=>exact λ_=>.lit h aO
 | aN aO=>exact λ_=>.aN aO
 | dead aO=>exact λ_=>.dead aO
 | @ref x _ _ J h aO=>intro aE; cases aE <;> simp [ab.isRef] at J
 | hD aO=>exact λ_=>.hD aO
 | bn aO la bb aA ai h1 aa aj aU=>exact λaE=>.bn aO la bb aA ai h1 aa λk x J=>aU k x J (by cases aE with | bn h=>exact h x (List.mem_of_getElem? J))
 | cG aO bb aA h1 aa aj aU=>exact λaE=>.cG aO bb aA h1 aa λk x J=>aU k x J (by cases aE with | cG h=>exact h x (List.mem_of_getElem? J))
 | own aY ai h1 aj aS au aO aU=>exact λaE=>.own aY ai h1 (λk x u J hu=>aU k x u J hu (by cases aE with | own h=>exact h x (List.mem_of_getElem? J))) aS au aO
 | obj aY ai h1 aj aS au aO aU=>exact λaE=>.obj aY ai h1 (λk x u J hu=>aU k x u J hu (by cases aE with | obj h=>exact h x (List.mem_of_getElem? J))) aS au aO
 | agg ai h1 aj aS aO aU=>exact λaE=>.agg ai h1 (λk x u J hu=>aU k x u J hu (by cases aE with | agg h=>exact h x (List.mem_of_getElem? J))) aS aO
 | bX ai aj aS aO aU=>exact λaE=>.bX ai (λk x u J hu=>aU k x u J hu (by cases aE with | bX h=>exact h x (List.mem_of_getElem? J))) aS aO
 | mp aY ar aO=>exact λ_=>.mp aY ar aO
 | imp aO bb aY ar=>exact λ_=>.imp aO bb aY ar
 | cU aO h1 af ku iM gv gh=>exact λaE=>.cU aO h1 af (λk x u J hu=>gv k x u J hu (by cases aE with | cU h _=>exact h x (List.mem_of_getElem? J))) (λk x u J hu=>gh k x u J hu (by cases aE with | cU _ h=>exact h x (List.mem_of_getElem? J)))
theorem R.oe {ρ:ab->Value->Prop}{I':bc}{x:ab}{v:Value}{F:bc}(h:R w I ρ x v F) (bb:∀ c,I c->I' c):R w I' ρ x v F :=
 h.frame (λ_ _=>rfl) bb (λ_ _ h=>h) λ_ _=>rfl
theorem R.ln {ρ ρ':ab->Value->Prop}{I':bc}{x:ab}{v:Value}{F:bc}(h:R w I ρ x v F):kH x->R w I' ρ' x v F:=by
 induction h with
 | lit h aO=>exact λ_=>.lit h aO
 | aN aO=>exact λ_=>.aN aO
 | dead aO=>exact λ_=>.dead aO
 | @ref x _ _ J h aO=>intro aE; cases aE <;> simp [ab.isRef] at J
 | hD=>intro aE; cases aE
 | bn=>intro aE; cases aE
 | cG=>intro aE; cases aE
 | own aY ai h1 aj aS au aO aU=>exact λaE=>.own aY ai h1 (λk x u J hu=>aU k x u J hu (by cases aE with | own h=>exact h x (List.mem_of_getElem? J))) aS au aO
 | obj aY ai h1 aj aS au aO aU=>exact λaE=>.obj aY ai h1 (λk x u J hu=>aU k x u J hu (by cases aE with | obj h=>exact h x (List.mem_of_getElem? J))) aS au aO
 | agg ai h1 aj aS aO aU=>exact λaE=>.agg ai h1 (λk x u J hu=>aU k x u J hu (by cases aE with | agg h=>exact h x (List.mem_of_getElem? J))) aS aO
 | bX ai aj aS aO aU=>exact λaE=>.bX ai (λk x u J hu=>aU k x u J hu (by cases aE with | bX h=>exact h x (List.mem_of_getElem? J))) aS aO
 | cU=>intro aE; cases aE
 | mp aY ar aO=>exact λ_=>.mp aY ar aO
 | imp=>intro aE; cases aE
theorem R.zV {ρ:ab->Value->Prop}{z n:Nat}{cs:List ab}{v:Value}{F:bc}(h:R w I ρ (.own z n cs) v F):∃ (a:Option Addr) (cap:Nat) (us:Nat->Value) (bL:Nat->bc),v=.slice a n cap/\n<=cap/\cs.length=n * z /\
  (∀ ad,a=some ad->∃ b,ad=⟨b,0,none⟩/\F b)/\(∀ (k:Nat) (x:ab),cs[k]?=some x->∃ b,a=some ⟨b,0,none⟩/\w.cell? ⟨b,k,none⟩=some (us k)/\(us k).oneCell'=true/\R w I ρ x (us k) (bL k)/\∀ c,bL k c->F c):=by
 have aT:=h;cases h with
 | ref J=>simp [ab.isRef] at J
 | @own _ _ _ _ e us Fs _ aY ai h1 aj aS au aO =>
  obtain ⟨a,cap,rfl,aE,hlen,q9,q'⟩:=aT.ng;refine ⟨a,cap,λk=>us.getD k undef,Fs,rfl,aE,hlen,λad fP=>?_,λk x hk=>?_⟩
  ·obtain ⟨BZ,B0⟩:=q9 ad fP;obtain ⟨b,o,sp⟩:=ad;simp only at BZ B0;subst BZ B0;exact ⟨b,rfl,(aO b).2 (.inl (by rw [fP]; rfl))⟩
  ·have aQ:k<cs.length:=(List.getElem?_eq_some_iff.1 hk).1;have hu:us[k]?=some us[k]:=List.getElem?_eq_getElem (ai ▸ aQ);obtain ⟨b,u,fP,l2,n0,hj,_⟩:=aT.node (.inl rfl) hk;have:a=some ⟨b,0,none⟩:=by
    cases a with
    | none=>simp [addrOf] at fP
    | some ad=>simp only [addrOf] at fP; rw [Option.some.inj fP]
   grind [pL]
theorem R.FB {ρ:ab->Value->Prop}{y:ab}{v:Value}{F:bc}{z n:Nat}{cs:List ab}(h:R w I ρ y v F) (av:y=.own z n cs\/y=.obj cs) {ad:Addr}(aR:addrOf v=some ad):F ad.block:=by
 rcases av with rfl | rfl
 ·obtain ⟨a,cap,rfl,_⟩:=h.ng;refine h.qw _ ?_;cases a with
  | none=>simp [addrOf] at aR
  | some a=>simp only [addrOf,Option.some.injEq] at aR; subst aR; rfl
 ·cases h with
  | ref J=>simp [ab.isRef] at J
  | obj aY ai h1 aj aS au aO=>simp only [addrOf,Option.some.injEq] at aR; subst aR; exact (aO _).2 (.inl rfl)
theorem X7 {w:World}{e cf:TypeId}{z n:Nat}{v:Value}{us iR:List Value}(h:w.ownsRow 0 e z v n us) (aL:w.ownsRow 0 cf z v n iR):us=iR:=by
 obtain ⟨h1,af⟩:=h;obtain ⟨aI,bD⟩:=aL;rcases af with ⟨rfl,rfl⟩ | ⟨b,cap,cur,rfl,_,bY,_,_,_,aw⟩
 ·grind
 grind
theorem Rows.sound {ρ:ab->Value->Prop}(H1:∀ t z q n m new,g t=some (.bM z q n m new)->∃ v,T[t]?=some v/\jw w I ρ (.bM z q n m new) v (Fs t))
  (Rr:∀ p z n cs,bz g p=some (.own z n cs)->∃ v cw,dV w T p=some v/\R w I ρ (.own z n cs) v cw/\∀ c,cw c->Fs p.root c) (AY:∀ z p n v,ρ (.bM z p n 0 []) v->dV w T p=some v) {p:Place}{z n:Nat}{cs:List ab}(h:Rows g p z n cs) :
  ∃ v e us,dV w T p=some v/\w.ownsRow 0 e z v n us/\us.length=cs.length/\(∀ (k:Nat) (u:Value),us[k]?=some u->u.oneCell'=true)/\(∀ c,v.ownBlock=some c->∃ t,Fs t c) /\
   (∀ (k:Nat) (x:ab) (u:Value),cs[k]?=some x->us[k]?=some u->∃ bL,R w I ρ x u bL/\∀ c,bL c->∃ t,Fs t c):=by
 induction h with
 | @own p z n cs ar =>
  obtain ⟨v,cw,hv,a1,aO⟩:=Rr p z n cs ar;cases a1 with
  | ref J=>simp [ab.isRef] at J
  | @own _ _ _ _ e us bL _ aY ai h1 aj aS au mm =>
   grind
 | @bM t z n m q new cs aw _ aU =>
  obtain ⟨v,hv,a1⟩:=H1 t z q n m new aw;obtain ⟨v0,e,us,iN,aY,ai,h1,au,aj⟩:=aU;cases a1 with
  | tree a1=>exact a1.lk.elim
  | @bM _ _ _ _ _ _ bv cu cd ZR news _ a1 =>
   have hq:=AY _ _ _ _ a1.jN;rw [iN] at hq;cases hq;have:=X7 aY a1.lg;subst this;refine ⟨v,cd,us++news,by simp [dV,hv,walk],a1.nB,by rw [List.length_append,List.length_append,ai,a1.ai],λk u hu=>?_,λc aa=>?_,λk x u J hu=>?_⟩
   ·by_cases hk:k<us.length
    ·grind
    ·rw [List.getElem?_append_right (by omega)] at hu; exact a1.h1 _ u hu
   ·by_cases pn:v0.ownBlock=some c
    ·grind
    ·exact ⟨t,(a1.aO c).2 ⟨aa,pn⟩⟩
   ·by_cases hk:k<us.length
    ·grind
    ·rw [List.getElem?_append_right (by omega)] at J;rw [List.getElem?_append_right (by omega),ai] at hu;exact ⟨_,a1.aj _ x u J hu,λc aa=>aa.elim⟩
theorem PZ {ρ':ab->Value->Prop}{e:TypeId}{z n N cap:Nat}{a:Option Addr}{us:List Value}{cs cs':List ab}(aY:w.ownsRow 0 e z (.slice a N cap) n us) (hlen:us.length=cs.length) (h1:∀ (k:Nat) (u:Value),us[k]?=some u->u.oneCell'=true) (au:∀ c,(Value.slice a N cap).ownBlock=some c->∃ t,Fs t c) (ai:cs'.length=cs.length)
  (aj:∀ (k:Nat) (x y:ab) (u:Value),cs[k]?=some x->cs'[k]?=some y->us[k]?=some u->R w (λc=>I c\/∃ t,Fs t c) ρ' y u cv):R w (λc=>I c\/∃ t,Fs t c) ρ' (.bn z n cs') (.slice a n cap) cv:=by
 obtain ⟨Oi,aY⟩:=aY;rcases aY with ⟨hq,aT⟩ | ⟨b,rP,cur,cu,_,bY,EP,aa,aA,aw⟩
 ·cases hq;subst aT;have lH:cs'=[]:=List.eq_nil_of_length_eq_zero (by rw [ai,<- hlen,Oi]; simp);subst lH;exact .hD λ_ h=>h
 ·cases cu;refine .bn (us:=λk=>us.getD k undef) (λ_ h=>h) EP (.inr (au b rfl)) rfl (by rw [ai,<- hlen,Oi]) (λk y av=>?_) (λk y av=>?_) λk y av=>?_
  all_goals
   have hk:k<us.length:=by rw [hlen,<- ai]; exact (List.getElem?_eq_some_iff.1 av).1
   have hu:us[k]?=some us[k]:=List.getElem?_eq_getElem hk;have aP:us.getD k undef=us[k]:=by simp [List.getD,hu]
  ·grind
  ·rw [aP];have zB:∀ u,us[k]?=some u->w.cell? ⟨b,k,none⟩=some u:=λu zB=>by
    rw [<- aw,List.getElem?_take] at zB
    split at zB
    ·simpa [World.cell?,bY] using zB
    grind
   grind
  grind
theorem View.sound (h:cD w I T g Fs) {x x':ab}(hv:View g x x'):∀ {v:Value}{F:bc},R w I (dR w T g) x v F->(∀ c,F c->∃ t,Fs t c)->∀ ρ',R w (λc=>I c\/∃ t,Fs t c) ρ' x' v cv:=by
 induction hv with
 | qv =>
  intro v F a1 aO ρ';have:=a1.sg;subst this;exact .hD λ_ h=>h
 | mp =>
  intro v F a1 aO ρ';cases a1 with
  | ref J=>simp [ab.isRef] at J
  | mp aY ar au=>exact .imp (λ_ h=>h) (.inr (aO _ ((au _).2 rfl))) aY ar
 | gw ar =>
  intro v F a1 aO ρ';cases a1 with
  | ref _ aj _ =>
   obtain ⟨⟨b,au,rfl⟩,_⟩:=aj;obtain ⟨fM,cw,ik,dF,dy⟩:=h.part ar (by simp);rw [au] at ik;cases ik;cases dF with
   | ref J=>simp [ab.isRef] at J
   | mp aY ar au=>exact .imp (λ_ h=>h) (.inr ⟨_,dy _ ((au _).2 rfl)⟩) aY ar
 | self aE h1 af aI bD cF =>
  intro v F a1 aO ρ';refine ((a1.bo aE).oe λc aa=>.inl aa).empty ?_;cases a1 with
  | mp=>exact absurd rfl (cF _)
  | lit _ aO | aN aO | dead aO | ref _ _ aO | hD aO | bn aO | cG aO | cU aO | imp aO=>exact aO
  | own=>exact absurd rfl (h1 _ _ _)
  | obj=>exact absurd rfl (af _)
  | agg=>exact absurd rfl (aI _)
  | bX=>exact absurd rfl (bD _)
 | @agg cs cs' ai _ aU =>
  intro v F a1 aO ρ';cases a1 with
  | ref J=>simp [ab.isRef] at J
  | @agg _ vs bL _ hQ h1 aj aS mm =>
   refine .agg (Fs:=λ_=>cv) (by rw [ai,hQ]) h1 (λk y u av hu=>?_) (λ_ _ _ _ _ h=>h.elim) (λc=>⟨λh=>h.elim,λ⟨_,_,h⟩=>h⟩);have hk:k<cs.length:=by rw [<- ai]; exact (List.getElem?_eq_some_iff.1 av).1
   have J:=List.getElem?_eq_getElem hk;exact aU k _ y J av (aj k _ u J hu) (λc aa=>aO c ((mm c).2 ⟨k,hk,aa⟩)) ρ'
 | @cU fn cs cs' ai _ aU =>
  intro v F a1 aO ρ';cases a1 with
  | ref J=>simp [ab.isRef] at J
  | @cU _ _ _ v1 v2 _ ml h1 af ku iM =>
   refine .cU (λ_ h=>h) h1 (by rw [ai,af]) (λk x u J=>by simp at J) (λk y u av hu=>?_);have hk:k<cs.length:=by rw [<- ai]; exact (List.getElem?_eq_some_iff.1 av).1
   have J:=List.getElem?_eq_getElem hk
   grind
 | @own z n cs cs' ai _ aU =>
  intro v F a1 aO ρ';obtain ⟨a,cap,us,bL,rfl,aE,hlen,aR,aa⟩:=a1.zV;cases a with
  | none =>
   have hC:cs=[]:=by
    cases cs with
    | nil=>rfl
    | cons c cs=>obtain ⟨b,au,_⟩:=aa 0 c rfl; cases au
   subst hC;have lH:cs'=[]:=List.eq_nil_of_length_eq_zero (by simpa using ai);subst lH;have kt:n=0:=by
    cases a1 with
    | ref J=>simp [ab.isRef] at J
    | own aY =>
     obtain ⟨_,bY⟩:=aY
     grind
   subst kt;exact .hD λ_ h=>h
  | some ad =>
   obtain ⟨b,rfl,rZ⟩:=aR ad rfl;refine .bn (us:=us) (λ_ h=>h) aE (.inr (aO b rZ)) rfl (by rw [ai,hlen]) (λk y av=>?_) (λk y av=>?_) λk y av=>?_
   all_goals
    have hk:k<cs.length:=by rw [<- ai]; exact (List.getElem?_eq_some_iff.1 av).1
    have J:=List.getElem?_eq_getElem hk;obtain ⟨ec,l1,h1,af,aI,bD⟩:=aa k _ J;cases l1
   all_goals grind
 | @obj cs cs' ai _ aU =>
  intro v F a1 aO ρ';cases a1 with
  | ref J=>simp [ab.isRef] at J
  | @obj _ b e arr bL _ aY hQ h1 aj aS au mm =>
   refine .cG (us:=λk=>arr.getD k undef) (λ_ h=>h) (.inr (aO b ((mm b).2 (.inl rfl)))) rfl (λk y av=>?_) (λk y av=>?_) λk y av=>?_
   all_goals
    have hk:k<cs.length:=by rw [<- ai]; exact (List.getElem?_eq_some_iff.1 av).1
    have J:=List.getElem?_eq_getElem hk;have hu:arr[k]?=some arr[k]:=Array.getElem?_eq_getElem (hQ ▸ hk)
   ·simpa [hu] using h1 k _ hu
   ·simp [World.cell?,aY,hu]
   ·simpa [hu] using aU k _ y J av (aj k _ _ J hu) (λc aa=>aO c ((mm c).2 (.inr ⟨k,hk,aa⟩))) ρ'
 | @a6 z n N p cs cs' ar aE ai _ aU =>
  intro v F a1 aO ρ';obtain ⟨⟨a,iW,cap,h1,rfl,aI⟩,_⟩:=a1.m_;obtain ⟨qI,qN,gS,hB,nv⟩:=h.part ar (by simp);rw [h1] at gS;cases gS;obtain ⟨a2,rP,us,bL,i_,la,hlen,aR,aa⟩:=hB.zV;cases i_;have hle:n * z<=N * z:=Nat.mul_le_mul_right _ aE;have cell:∀ k,k<cs'.length->∃ x b,(cs.take (n * z))[k]?=some x/\a=some ⟨b,0,none⟩/\w.cell? ⟨b,k,none⟩=some (us k)/\(us k).oneCell'=true/\R w I (dR w T g) x (us k) (bL k)/\∀ c,bL k c->qN c:=by
   simp_all
  cases a with
  | none =>
   have lH:cs'=[]:=by
    cases cs' with
    | nil=>rfl
    | cons c l=>obtain ⟨_,b,_,au,_⟩:=cell 0 (by simp); cases au
   subst lH;obtain ⟨_,_,i_,_,_,_,q'⟩:=hB.ng;cases i_;have kt:n=0:=by
    grind
   subst kt;exact .hD λ_ h=>h
  | some ad =>
   obtain ⟨b,rfl,rZ⟩:=aR ad rfl;refine .bn (us:=us) (λ_ h=>h) (by omega) (.inr ⟨_,nv b rZ⟩) rfl (by rw [ai,List.length_take,hlen]; omega) (λk y av=>?_) (λk y av=>?_) λk y av=>?_
   all_goals grind
 | @sub z lo n N p cs cs' ar aE ai _ aU =>
  intro v F a1 aO ρ';obtain ⟨⟨a,iW,cap,b',mM,h1,rfl,Jb,aI,cF⟩,_⟩:=a1.xC;obtain ⟨qI,qN,gS,hB,nv⟩:=h.part ar (by simp);rw [h1] at gS;cases gS;obtain ⟨a2,rP,us,bL,i_,la,hlen,aR,aa⟩:=hB.zV;cases i_;have hle:lo * z+n * z<=N * z:=by rw [<- Nat.add_mul]; exact Nat.mul_le_mul_right _ aE
  have hQ:cs'.length=n * z:=by rw [ai,List.length_take,List.length_drop,hlen]; omega
  have cell:∀ k,k<cs'.length->∃ x b,((cs.drop (lo * z)).take (n * z))[k]?=some x/\a=some ⟨b,0,none⟩/\w.cell? ⟨b,lo * z+k,none⟩=some (us (lo * z+k))/\(us (lo * z+k)).oneCell'=true/\R w I (dR w T g) x (us (lo * z+k)) (bL (lo * z+k))/\∀ c,bL (lo * z+k) c->qN c:=by
   grind
  by_cases kt:n=0
  ·subst kt;have lH:cs'=[]:=List.eq_nil_of_length_eq_zero (by simpa using hQ);subst lH;exact .hD λ_ h=>h
  ·obtain ⟨ad,rfl,rfl⟩:=cF (by omega);obtain ⟨b,rfl,rZ⟩:=aR ad rfl;refine .bn (us:=λk=>us (lo * z+k)) (λ_ h=>h) Jb (.inr ⟨_,nv b rZ⟩) rfl hQ (λk y av=>?_) (λk y av=>?_) λk y av=>?_
   all_goals grind
 | @ptr p k z n y cs cs' ar av hk ai _ aU =>
  intro v F a1 aO ρ';obtain ⟨⟨u,ad,h1,af,rfl⟩,_⟩:=a1.nI;obtain ⟨qI,qN,gS,hB,nv⟩:=h.part ar (by rcases av with rfl | rfl <;> simp);rw [h1] at gS;cases gS;have cell:∀ j,j<cs'.length->∃ gU lS yJ,w.cell? ⟨ad.block,k+j,none⟩=some gU/\gU.oneCell'=true/\(cs.drop k)[j]?=some lS/\R w I (dR w T g) lS gU yJ/\(∀ c,yJ c->∃ t,Fs t c):=by
   intro j ag;rw [ai,List.length_drop] at ag;have gg:cs[k+j]?=some cs[k+j]:=List.getElem?_eq_getElem (by omega);obtain ⟨b,gU,fP,l2,n0,hj,_⟩:=hB.node av gg;rw [af] at fP;cases fP;have gp:bz g (p.push (k+j))=some cs[k+j]:=by rw [tB,ar]; rcases av with rfl | rfl <;> simp [ab.kids]
   by_cases gN:∃ bA fQ cB m' c0,cs[k+j]=.bM bA fQ cB m' c0
   ·obtain ⟨bA,fQ,cB,m',c0,gN⟩:=gN;obtain ⟨b,ZT,_,_,BO,_,bL,kQ⟩:=hB.node av gg;rw [gN] at kQ;exact kQ.lk.elim
   ·obtain ⟨oZ,Lx,xq,NI,mm⟩:=h.part gp (λbA fQ cB m' c0 e=>gN ⟨_,_,_,_,_,e⟩)
    grind [yr]
  obtain ⟨b,gU,fP,_⟩:=hB.node av (List.getElem?_eq_getElem hk);rw [af] at fP;cases fP;have hblk:∃ t,Fs t b:=⟨_,nv b (hB.FB av af)⟩;refine .cG (us:=λj=>(w.cell? ⟨b,k+j,none⟩).getD undef) (λ_ h=>h) (.inr hblk) rfl (λj jf vI=>?_) (λj jf vI=>?_) λj jf vI=>?_
  all_goals grind
 | @rows z n p cs cs' ar ai _ aU =>
  intro v F a1 aO ρ';obtain ⟨a,iW,cap,h1,rfl,aI⟩:=a1.m_.1;obtain ⟨v0,e,us,iN,aY,hlen,oF,au,aj⟩:=Rows.sound (w:=w) (I:=I) (T:=T) (Fs:=Fs) (λt z q n m new aw=>h.rel t _ aw) (λp z n cs ar=>h.part ar (by simp)) (λz p n v hv=>by obtain ⟨⟨a,cap,h1,rfl⟩,_⟩:=hv; exact h1) ar;rw [h1] at iN;cases iN;refine PZ aY hlen oF au ai λk x y u J av hu=>?_
  grind
end
end Go.Own
namespace Go.Own
open Go
def p7 (args:List ab):aJ:=λt=>args[t]?
def kY (outs:List (Option ab)) (res:ab):aJ:=λt=>if t=outs.length then some res else (outs[t]?).join
structure ko (w:World) (I U:bc) (w':World) (I' D7:bc):Prop where
 eR:Fr w w' U
 more:∀ c,I c->I' c
 new:∀ c,I' c->I c\/U c\/w.heap.size<=c
 own:∀ c,D7 c->U c\/w.heap.size<=c
def bR (P:Program) (f:FuncId) (args:List ab) (outs:List (Option ab)) (res:ab):Prop :=
 outs.length=args.length/\∀ (w:World) (I:bc) (vs:List Value) (Fs:Nat->bc),vs.length=args.length->cD w I vs.toArray (p7 args) Fs ->
  Calls P f vs.toArray w λe w'=>∃ v I' b5,e=.returned v/\cD w' I' (vs++[v]).toArray (kY outs res) b5/\ko w I (λc=>∃ t,Fs t c) w' I' (λc=>∃ t,b5 t c)
def hp (P:Program) (f:FuncId):Bool :=
 match P.funcs[f]? with
 | some fn => fn.name != "runtime.NumGoroutine" && fn.body.isSome
 | none=>false
inductive cI (P:Program) (g:aJ):Op->ab->Prop
 | plain {c:Operand}{xs:Array Operand}{gl:Array TypeId}{f:FuncId}{first caps ys:List ab}{res:ab}(aa:bs g c=some (.cU (.func f) first caps)) (J:gk g xs.toList=some ys) (aW:hp P f=true)
   (aE:∀ y∈first++ys++caps,cS y) (gM:bR P f (first++ys++caps) ((first++ys++caps).map λ_=>none) res) (aj:cS res):cI P g (.call { callee:=.value c,args:=xs,argTypes:=gl }) res
 | Fl {c:Operand}{xs:Array Operand}{gl:Array TypeId}{f:FuncId}{first caps ys args:List ab}{res:ab}(aa:bs g c=some (.cU (.func f) first caps)) (J:gk g xs.toList=some ys) (aW:hp P f=true)
   (ai:args.length=(first++ys++caps).length) (hv:∀ (k:Nat) (x y:ab),(first++ys++caps)[k]?=some x->args[k]?=some y->View g x y) (gM:bR P f args (args.map λ_=>none) res) (aj:kH res) :
   cI P g (.call { callee:=.value c,args:=xs,argTypes:=gl }) res
section
variable {P:Program}{w:World}{I:bc}{T:Array Value}{g:aJ}{Fs:Nat->bc}
theorem Bh {f:FuncId}(h:hp P f=true) (args:Array Value):(callFunc f args).run P w=.ok (.enter f args) w:=by
 unfold hp at h;cases aW:P.funcs[f]? with
 | none=>simp [aW] at h
 | some fn =>
  simp [aW] at h;obtain ⟨h1,af⟩:=h;cases au:fn.body with
  | none=>simp [au] at af
  | some c=>simp [callFunc,aW,h1,au]
theorem HA (h:cD w I T g Fs) {a:Act}(aR:a.tmps=T) {c:Operand}{xs:Array Operand}{f:FuncId}{first caps ys:List ab}(aa:bs g c=some (.cU (.func f) first caps)) (J:gk g xs.toList=some ys) :
  ∃ v1 v2:Array Value,a.eval c=.func (.func f) v1 v2/\(first++ys++caps).length=(v1++xs.map a.eval++v2).toList.length /\
   ∀ (k:Nat) (x:ab) (u:Value),(first++ys++caps)[k]?=some x->(v1++xs.map a.eval++v2).toList[k]?=some u->R w I (dR w T g) x u cv:=by
 have zm:=kf h aa aR;obtain ⟨ai,aj⟩:=zT h aR J;generalize vn:a.eval c=adH at zm;cases zm with
 | ref J=>simp [ab.isRef] at J
 | @cU _ _ _ v1 v2 _ _ h1 af ku iM =>
  have hlen:xs.size=ys.length:=by rw [<- Array.length_toList,ai]
  refine ⟨v1,v2,rfl,by simp [h1,af,hlen],λk x u qp pw=>?_⟩;simp only [Array.toList_append,Array.toList_map] at pw;by_cases gZ:k<first.length
  ·rw [List.append_assoc,List.getElem?_append_left gZ] at qp;rw [List.append_assoc,List.getElem?_append_left (by simp; omega)] at pw;exact ku k x u qp (by simpa using pw)
  ·rw [List.append_assoc,List.getElem?_append_right (by omega)] at qp;rw [List.append_assoc,List.getElem?_append_right (by simp; omega)] at pw;simp only [Array.length_toList,<- h1] at pw;by_cases f':k - first.length<ys.length
   ·rw [List.getElem?_append_left f'] at qp;rw [List.getElem?_append_left (by simp; omega),List.getElem?_map] at pw;cases JG:xs.toList[k - first.length]? with
    | none=>rw [JG] at pw; cases pw
    | some o=>rw [JG] at pw; cases pw; exact aj _ x o qp JG
   ·rw [List.getElem?_append_right (by omega)] at qp;rw [List.getElem?_append_right (by simp; omega)] at pw;simp only [List.length_map,Array.length_toList] at pw;rw [hlen] at pw;exact iM _ x u qp (by simpa using pw)
theorem cD.args {I':bc}(h:cD w I T g Fs) (bb:∀ c,I' c->I c\/∃ t,Fs t c) {args:List ab}{vs:List Value}(ai:args.length=vs.length)
  (aj:∀ (ρ':ab->Value->Prop) (k:Nat) (x:ab) (u:Value),args[k]?=some x->vs[k]?=some u->R w I' ρ' x u cv):cD w I' vs.toArray (p7 args) (λ_=>cv):=by
 refine ⟨λt x J=>?_,λ_ _ _ h=>h,λ_ _ _ h=>h.elim,λ_ _ h=>h.elim,λc aa=>?_,λt t' z p n m new bA cB m' c0 h1 af=>?_⟩
 ·have aw:t<args.length:=(List.getElem?_eq_some_iff.1 J).1;have hu:vs[t]?=some vs[t]:=List.getElem?_eq_getElem (ai ▸ aw);exact ⟨vs[t],by rw [List.getElem?_toArray]; exact hu,.tree (aj _ t x _ J hu)⟩
 ·rcases bb c aa with aL | ⟨t,aL⟩
  ·exact h.lt c aL
  ·exact h.jS t c aL
 ·have aw:t<args.length:=(List.getElem?_eq_some_iff.1 h1).1;exact (aj (λ_ _=>False) t _ _ h1 (List.getElem?_eq_getElem (ai ▸ aw))).lk.elim
theorem cI.sound (h:cD w I T g Fs) {a:Act}(aR:a.tmps=T) {o:Oper}{kG:ab}(ar:cI P g o.op kG) {K:Act->World->Prop}{Q:Exit->Act->World->Prop}
  (dj:∀ v w',u1 w I T g Fs kG v w'->K (a.put o.dst v) w'):o.wp P a w K Q:=by
 obtain ⟨dst,op,ty,pos,after,guard⟩:=o;simp only at ar dj;have CI:cS kG->∀ z p n m new,kG=.bM z p n m new->∀ t bA cB m' c0,g t≠some (.bM bA p cB m' c0):=by
  rintro aE z p n m new rfl;cases aE
 have last:∀ {args:List ab}{res:ab}{v:Value}{vs:List Value}{w':World}{I':bc}{b5:Nat->bc},vs.length=args.length->cD w' I' (vs++[v]).toArray (kY (args.map λ_=>none) res) b5->jw w' I' (dR w' (vs++[v]).toArray (kY (args.map λ_=>none) res)) res v (b5 args.length)/\∀ t,t≠args.length->∀ c,¬ b5 t c:=by
  intro args res v vs w' I' b5 ai bk;constructor
  ·obtain ⟨u,hu,a1⟩:=bk.rel args.length res (by simp [kY]);have:u=v:=by
    rw [<- ai] at hu;simpa using hu.symm
   subst this; exact a1
  ·intro t aw c aa;refine bk.kW t ?_ c aa;have EY:t≠(args.map λ_=>(none:Option ab)).length:=by simpa using aw
   simp only [kY,if_neg EY,List.getElem?_map];cases args[t]? <;> rfl
 cases ar with
 | @plain c xs gl f first caps ys _ aa J aW aE gM aj =>
  obtain ⟨v1,v2,vn,ai,qf⟩:=HA h aR aa J;have hK:(execOp a.eval { dst:=dst,op:=.call { callee:=.value c,args:=xs,argTypes:=gl },type:=ty,pos:=pos,after:=after,guard:=guard }).run P w=.ok (.enter f (v1++xs.map a.eval++v2)) w:=by
   simp [execOp,resolve,Deferred.ofValue,vn,invoke,Bh aW]
  have bk:=h.args (I':=I) (λc aa=>.inl aa) ai λρ' k x u J hu=>(qf k x u J hu).bo (aE x (List.mem_of_getElem? J));have po:=gM.2 w I (v1++xs.map a.eval++v2).toList _ ai.symm bk;unfold Oper.wp Oper.upon;simp only [hK];rw [Array.toArray_toList] at po;refine Calls.mono po ?_;rintro e w' ⟨v,I',b5,rfl,dX,b0⟩;obtain ⟨zz,e'⟩:=last ai.symm dX;have oK:Fr w w' (λ_=>False):=b0.eR.mono λb _ ⟨_,au⟩=>au;refine dj v w' ⟨b5 (first++ys++caps).length,I',?_,?_,?_,?_,b0.more,?_,oK.mono λ_ _ h=>h.elim,CI aj⟩
  ·have:=h.world (w':=w') (λt c aa=>oK.block c (h.jS t c aa) (λh=>h)) (λc aa=>oK.block c (h.lt c aa) λh=>h) oK.size;refine ⟨λt x J=>?_,this.kW,this.eK,λt c aa hi=>?_,dX.lt,this.rm⟩
   ·obtain ⟨v,hv,a1⟩:=this.rel t x J;exact ⟨v,hv,a1.frame (λ_ _=>rfl) b0.more (λ_ _ h=>h) (λ_ _ _ _ _ _ _=>rfl) λ_ _=>rfl⟩
   ·rcases b0.new c hi with aL | ⟨_,aL⟩ | aL
    ·exact h.bn t c aa aL
    ·exact aL
    ·have:=h.jS t c aa; omega
  ·exact .tree ((zz.gF (by rintro z p n m new rfl; cases aj)).bo aj)
  ·intro t c aa vp;rcases b0.own c ⟨_,aa⟩ with ⟨_,aL⟩ | aL
   ·exact aL
   ·have:=h.jS t c vp; omega
  ·intro c aa;rcases b0.own c ⟨_,aa⟩ with ⟨_,aL⟩ | aL
   ·exact aL.elim
   ·exact ⟨aL,dX.bn _ c aa⟩
  ·intro c aa;rcases b0.new c aa with aL | ⟨_,aL⟩ | aL
   ·exact .inl aL
   ·exact aL.elim
   ·exact .inr aL
 | @Fl c xs gl f first caps ys args _ aa J aW I2 hv gM aj =>
  obtain ⟨v1,v2,vn,ai,qf⟩:=HA h aR aa J;have hK:(execOp a.eval { dst:=dst,op:=.call { callee:=.value c,args:=xs,argTypes:=gl },type:=ty,pos:=pos,after:=after,guard:=guard }).run P w=.ok (.enter f (v1++xs.map a.eval++v2)) w:=by
   simp [execOp,resolve,Deferred.ofValue,vn,invoke,Bh aW]
  have hQ:args.length=(v1++xs.map a.eval++v2).toList.length:=by rw [I2,ai]
  have bk:=h.args (I':=λc=>I c\/∃ t,Fs t c) (λc aa=>aa) hQ λρ' k x u J hu=>by
   have hk:k<(first++ys++caps).length:=by rw [<- I2]; exact (List.getElem?_eq_some_iff.1 J).1
   have il:=List.getElem?_eq_getElem hk;exact (hv k _ x il J).sound h (qf k _ u il hu) (λ_ h=>h.elim) ρ'
  have po:=gM.2 w _ (v1++xs.map a.eval++v2).toList _ hQ.symm bk;unfold Oper.wp Oper.upon;simp only [hK];rw [Array.toArray_toList] at po;refine Calls.mono po ?_;rintro e w' ⟨v,I',b5,rfl,dX,b0⟩;obtain ⟨zz,e'⟩:=last hQ.symm dX;have oK:Fr w w' (λ_=>False):=b0.eR.mono λb _ ⟨_,au⟩=>au;refine dj v w' ⟨b5 args.length,I,?_,?_,?_,?_,λ_ h=>h,λ_ h=>.inl h,oK.mono λ_ _ h=>h.elim,CI aj.bo⟩
  ·exact h.world (w':=w') (λt c aa=>oK.block c (h.jS t c aa) (λh=>h)) (λc aa=>oK.block c (h.lt c aa) λh=>h) oK.size
  ·exact .tree ((zz.gF (by rintro z p n m new rfl; cases aj)).ln aj)
  ·intro t c aa vp;rcases b0.own c ⟨_,aa⟩ with ⟨_,aL⟩ | aL
   ·exact aL
   ·have:=h.jS t c vp; omega
  ·intro c aa;rcases b0.own c ⟨_,aa⟩ with ⟨_,aL⟩ | aL
   ·exact aL.elim
   ·exact ⟨aL,λhi=>by have:=h.lt c hi; omega⟩
end
end Go.Own
namespace Go.Own
open Go
structure jx (w:World) (I:bc) (T:Array Value) (g:aJ) (Fs:Nat->bc):Prop where
 rel:∀ t x,g t=some x->∃ v,T[t]?=some v/\jw w I (fC w T) x v (Fs t)
 kW:∀ t,g t=none->∀ c,¬ Fs t c
 eK:∀ t t' c,Fs t c->Fs t' c->t=t'
 bn:∀ t c,Fs t c->¬ I c
 lt:∀ c,I c->c<w.heap.size
def ct (g:aJ) (p:Place) (y:ab):aJ:=λt=>if t=p.root then (g t).map λx=>x.setAt p.path y else g t
inductive di (g:aJ):ab->Prop
 | bo {x:ab}(h:cS x):di g x
 | ref {x:ab}(J:x.isRef=true) (h:gB g x):di g x
 | own {z n:Nat}{cs:List ab}(h:∀ x∈cs,di g x):di g (.own z n cs)
 | obj {cs:List ab}(h:∀ x∈cs,di g x):di g (.obj cs)
 | agg {cs:List ab}(h:∀ x∈cs,di g x):di g (.agg cs)
 | bX {cs:List ab}(h:∀ x∈cs,di g x):di g (.bX cs)
 | cU {fn:Fn}{a b:List ab}(h1:∀ x∈a,di g x) (af:∀ x∈b,di g x):di g (.cU fn a b)
 | bM {z n m:Nat}{p:Place}{new:List ab}(ar:gB g (.bM z p n 0 [])) (h:∀ x∈new,di g x):di g (.bM z p n m new)
section
variable {w:World}{I:bc}{T:Array Value}{g:aJ}{Fs:Nat->bc}
theorem R.bW {x:ab}{v:Value}{F:bc}(h:R w I (fC w T) x v F):di g x->R w I (dR w T g) x v F:=by
 induction h with
 | lit h aO=>exact λ_=>.lit h aO
 | aN aO=>exact λ_=>.aN aO
 | dead aO=>exact λ_=>.dead aO
 | @ref x _ _ J h aO =>
  intro hk;refine .ref J ⟨h,?_⟩ aO;cases hk with
  | ref _ h=>exact h
  | bo h=>cases h <;> simp [ab.isRef] at J
  | _=>simp [ab.isRef] at J
 | hD aO=>exact λ_=>.hD aO
 | mp aY ar aO=>exact λ_=>.mp aY ar aO
 | imp aO bb aY ar=>exact λ_=>.imp aO bb aY ar
 | bn aO la bb aA ai h1 aa aj aU =>
  intro hk;cases hk with
  | ref J=>simp [ab.isRef] at J
  | bo h=>cases h with | bn h=>exact .bn aO la bb aA ai h1 aa λk x J=>aU k x J (.bo (h x (List.mem_of_getElem? J)))
 | cG aO bb aA h1 aa aj aU =>
  intro hk;cases hk with
  | ref J=>simp [ab.isRef] at J
  | bo h=>cases h with | cG h=>exact .cG aO bb aA h1 aa λk x J=>aU k x J (.bo (h x (List.mem_of_getElem? J)))
 | own aY ai h1 aj aS au aO aU =>
  intro hk;refine .own aY ai h1 (λk x u J hu=>aU k x u J hu ?_) aS au aO;cases hk with
  | ref J=>simp [ab.isRef] at J
  | bo h=>cases h with | own h=>exact .bo (h x (List.mem_of_getElem? J))
  | own h=>exact h x (List.mem_of_getElem? J)
 | obj aY ai h1 aj aS au aO aU =>
  intro hk;refine .obj aY ai h1 (λk x u J hu=>aU k x u J hu ?_) aS au aO;cases hk with
  | ref J=>simp [ab.isRef] at J
  | bo h=>cases h with | obj h=>exact .bo (h x (List.mem_of_getElem? J))
  | obj h=>exact h x (List.mem_of_getElem? J)
 | agg ai h1 aj aS aO aU =>
  intro hk;refine .agg ai h1 (λk x u J hu=>aU k x u J hu ?_) aS aO;cases hk with
  | ref J=>simp [ab.isRef] at J
  | bo h=>cases h with | agg h=>exact .bo (h x (List.mem_of_getElem? J))
  | agg h=>exact h x (List.mem_of_getElem? J)
 | bX ai aj aS aO aU =>
  intro hk;refine .bX ai (λk x u J hu=>aU k x u J hu ?_) aS aO;cases hk with
  | ref J=>simp [ab.isRef] at J
  | bo h=>cases h with | bX h=>exact .bo (h x (List.mem_of_getElem? J))
  | bX h=>exact h x (List.mem_of_getElem? J)
 | @cU fn first caps v1 v2 F aO h1 af ku iM gv gh =>
  intro hk;have:(∀ x∈first,di g x)/\∀ x∈caps,di g x:=by
   cases hk with
   | ref J=>simp [ab.isRef] at J
   | bo h=>cases h with | cU h1 af=>exact ⟨λx J=>.bo (h1 x J),λx J=>.bo (af x J)⟩
   | cU h1 af=>exact ⟨h1,af⟩
  exact .cU aO h1 af (λk x u J hu=>gv k x u J hu (this.1 x (List.mem_of_getElem? J))) (λk x u J hu=>gh k x u J hu (this.2 x (List.mem_of_getElem? J)))
theorem jw.bW {x:ab}{v:Value}{F:bc}(h:jw w I (fC w T) x v F) (hk:di g x):jw w I (dR w T g) x v F:=by
 cases h with
 | tree h=>exact .tree (h.bW hk)
 | bM h =>
  cases hk with
  | bo h=>cases h
  | ref J=>simp [ab.isRef] at J
  | bM ar aE=>exact .bM ⟨⟨h.jN,ar⟩,h.lg,h.nB,h.ai,h.h1,λk x u J hu=>(h.aj k x u J hu).bW (aE x (List.mem_of_getElem? J)),h.aO⟩
theorem cD.mC (h:cD w I T g Fs):jx w I T g Fs :=
  ⟨λt x J=>by
    obtain ⟨v,hv,a1⟩:=h.rel t x J;refine ⟨v,hv,?_⟩;cases a1 with
    | tree a1=>exact .tree (a1.frame (λ_ _=>rfl) (λ_ h=>h) (λ_ _ h=>h.1) λ_ _=>rfl)
    | bM a1=>exact .bM ⟨a1.jN.1,a1.lg,a1.nB,a1.ai,a1.h1,λk x u J hu=>(a1.aj k x u J hu).frame (λ_ _=>rfl) (λ_ h=>h) (λ_ _ h=>h.1) λ_ _=>rfl,a1.aO⟩,
   h.kW,h.eK,h.bn,h.lt⟩
theorem jx.ZI (h:jx w I T g Fs) {g':aJ}(aP:∀ t x,g' t=some x->g t=some x) (hk:∀ t x,g' t=some x->di g' x)
  (ar:∀ t t' z p n m new bA cB m' c0,g' t=some (.bM z p n m new)->g' t'=some (.bM bA p cB m' c0)->t=t'):cD w I T g' (λt c=>g' t≠none/\Fs t c):=by
 refine ⟨λt x J=>?_,λt aw c aa=>aa.1 aw,λt t' c aa fp=>h.eK t t' c aa.2 fp.2,λt c aa=>h.bn t c aa.2,h.lt,ar⟩;obtain ⟨v,hv,a1⟩:=h.rel t x (aP t x J);have:Fs t=λc=>g' t≠none/\Fs t c:=by
  grind
 refine ⟨v,hv,?_⟩;rw [<- this];exact a1.bW (hk t x J)
theorem jx.part (h:jx w I T g Fs) {p:Place}{y:ab}(ar:bz g p=some y) (av:∀ z q n m new,y≠.bM z q n m new):∃ v cw,dV w T p=some v/\R w I (fC w T) y v cw/\(∀ c,cw c->Fs p.root c) /\
  ∀ (y':ab) (jh:bc),R w I (fC w T) y' v jh->(∀ c,jh c->Fs p.root c->cw c)->(∀ c,jh c->¬ I c)->(∀ t c,t≠p.root->jh c->¬ Fs t c) ->
   ∃ b5,jx w I T (ct g p y') b5/\(∀ c,b5 p.root c↔(Fs p.root c/\¬ cw c)\/jh c)/\∀ t,t≠p.root->b5 t=Fs t:=by
 unfold bz at ar;cases J:g p.root with
 | none=>rw [J] at ar; cases ar
 | some x =>
  rw [J] at ar;obtain ⟨v,hv,a1⟩:=h.rel _ _ J;replace a1:=a1.gF (by
   grind [ab.sA])
  obtain ⟨hW,cw,hw,dF,dy,eY,kg⟩:=R.focus p.path a1 ar;refine ⟨hW,cw,by simp [dV,hv,hw],dF,dy,λy' jh jE mU bb ade=>?_⟩;obtain ⟨c_,ED,pf⟩:=kg w I (fC w T) y' jh ⟨λ_ _=>rfl,λ_ _ _=>rfl,λ_ h=>h,λ_ _ h=>h⟩ jE mU;refine ⟨λt=>if t=p.root then c_ else Fs t,⟨λt x' gg=>?_,λt aw c=>?_,λt t' c aa fp=>?_,λt c aa=>?_,h.lt⟩,λc=>by simp [pf c],λt aw=>by simp [aw]⟩
  ·by_cases iD:t=p.root
   ·subst iD;have WY:x.setAt p.path y'=x':=by simpa [ct,J] using gg
    subst WY;exact ⟨v,hv,.tree (by simpa using ED)⟩
   ·simp only [ct,if_neg iD] at gg;simpa [iD] using h.rel t x' gg
  ·by_cases iD:t=p.root
   ·grind [ct]
   ·simp only [ct,if_neg iD] at aw;simpa [iD] using h.kW t aw c
  ·by_cases h1:t=p.root <;> by_cases af:t'=p.root <;> simp only [h1,af,if_true,if_false] at aa fp
   ·grind
   ·rcases (pf c).1 aa with ⟨aI,_⟩ | aI
    ·rw [h1];exact h.eK _ _ _ aI fp
    grind
   ·rcases (pf c).1 fp with ⟨aI,_⟩ | aI
    ·rw [af];exact h.eK _ _ _ aa aI
    grind
   ·exact h.eK _ _ _ aa fp
  ·by_cases h1:t=p.root <;> simp only [h1,if_true,if_false] at aa
   ·rcases (pf c).1 aa with ⟨aI,_⟩ | aI
    ·exact h.bn _ c aI
    grind
   ·exact h.bn t c aa
end
end Go.Own
namespace Go.Own
open Go
inductive Take:aJ->List ab->List ab->aJ->Prop
 | bo {g:aJ}{xs:List ab}(h:∀ x∈xs,cS x):Take g xs xs g
 | cons {g g':aJ}{x:ab}{xs xs':List ab}(h:cS x) (aw:Take g xs xs' g'):Take g (x::xs) (x::xs') g'
 | a6 {g g1 g':aJ}{z n N:Nat}{p:Place}{cs cs' xs xs':List ab}(ar:bz g p=some (.own z N cs)) (aE:n<=N) (h1:Take (ct g p .dead) (cs.take (n * z)) cs' g1) (af:Take g1 xs xs' g') :
   Take g (.a6 z p n::xs) (.own z n cs'::xs') g'
 | bM {g g1 g':aJ}{z n m t:Nat}{q:Place}{cs new cs' xs xs':List ab}(aw:g t=some (.bM z q n m new)) (ar:bz g q=some (.own z n cs)) (bg:q.root≠t) (h1:Take (ct (ct g ⟨t,[]⟩ .dead) q .dead) (cs++new) cs' g1) (af:Take g1 xs xs' g') :
   Take g (.a6 z ⟨t,[]⟩ (n+m)::xs) (.own z (n+m) cs'::xs') g'
 | FK {g g1 g':aJ}{z n m t rf m2 t2:Nat}{q:Place}{cs new zP cs' xs xs':List ab}(aw:g t=some (.bM z ⟨t2,[]⟩ n m new)) (OB:g t2=some (.bM z q rf m2 zP)) (aE:n=rf+m2) (ar:bz g q=some (.own z rf cs)) (bg:q.root≠t) (ui:q.root≠t2) (WJ:t≠t2)
   (h1:Take (ct (ct (ct g ⟨t,[]⟩ .dead) ⟨t2,[]⟩ .dead) q .dead) (cs++zP++new) cs' g1) (af:Take g1 xs xs' g') :
   Take g (.a6 z ⟨t,[]⟩ (n+m)::xs) (.own z (n+m) cs'::xs') g'
 | obj {g g1 g':aJ}{p:Place}{cs cs' xs xs':List ab}(ar:bz g p=some (.obj cs)) (h1:Take (ct g p .dead) cs cs' g1) (af:Take g1 xs xs' g'):Take g (.ptr p 0::xs) (.obj cs'::xs') g'
 | mp {g g1 g':aJ}{p:Place}{q:Array MapEntry->Nat->Prop}{xs xs':List ab}(ar:bz g p=some (.mp q)) (h1:Take (ct g p .dead) [] [] g1) (af:Take g1 xs xs' g'):Take g (.gw p::xs) (.mp q::xs') g'
 | agg {g g1 g':aJ}{cs cs' xs xs':List ab}(h1:Take g cs cs' g1) (af:Take g1 xs xs' g'):Take g (.agg cs::xs) (.agg cs'::xs') g'
 | bX {g g1 g':aJ}{cs cs' xs xs':List ab}(h1:Take g cs cs' g1) (af:Take g1 xs xs' g'):Take g (.bX cs::xs) (.bX cs'::xs') g'
structure Hand (w:World) (I:bc) (ρ:ab->Value->Prop) (Fs:Nat->bc) (xs:List ab) (vs:List Value) (dC:Nat->bc):Prop where
 len:xs.length=vs.length
 rel:∀ (k:Nat) (x:ab) (u:Value),xs[k]?=some x->vs[k]?=some u->R w I ρ x u (dC k)
 eK:∀ (j k c:Nat),j<xs.length->k<xs.length->dC j c->dC k c->j=k
 off:∀ (k t c:Nat),k<xs.length->dC k c->¬ Fs t c
 bn:∀ (k c:Nat),k<xs.length->dC k c->¬ I c
def lx (Fs:Nat->bc) (n:Nat) (dC:Nat->bc):bc:=λc=>(∃ t,Fs t c)\/∃ k,k<n/\dC k c
section
variable {w:World}{I:bc}{T:Array Value}
theorem Take.length {g g':aJ}{xs xs':List ab}(h:Take g xs xs' g'):xs'.length=xs.length:=by
 induction h with
 | bo=>rfl
 | cons _ _ aU=>simp [aU]
 | a6 _ _ _ _ _ aU=>simp [aU]
 | bM _ _ _ _ _ _ aU=>simp [aU]
 | FK _ _ _ _ _ _ _ _ _ _ aU=>simp [aU]
 | obj _ _ _ _ aU=>simp [aU]
 | mp _ _ _ _ aU=>simp [aU]
 | agg _ _ _ aU=>simp [aU]
 | bX _ _ _ aU=>simp [aU]
theorem Hand.cons {ρ:ab->Value->Prop}{Fs:Nat->bc}{x:ab}{v:Value}{F:bc}{xs:List ab}{vs:List Value}{dC:Nat->bc}(h:Hand w I ρ Fs xs vs dC) (J:R w I ρ x v F)
  (aS:∀ k c,k<xs.length->F c->¬ dC k c) (aY:∀ t c,F c->¬ Fs t c) (hi:∀ c,F c->¬ I c):Hand w I ρ Fs (x::xs) (v::vs) (λk=>match k with | 0=>F | k+1=>dC k):=by
 refine ⟨by simp [h.len],λk y u av hu=>?_,λj k c ag hk h1 af=>?_,λk t c hk aa=>?_,λk c hk aa=>?_⟩
 ·cases k with
  | zero=>simp at av hu; subst av hu; exact J
  | succ k=>simp at av hu; exact h.rel k y u av hu
 ·cases j <;> cases k
  ·rfl
  ·exact absurd af (aS _ c (by simpa using hk) h1)
  ·exact absurd h1 (aS _ c (by simpa using ag) af)
  ·rw [h.eK _ _ c (by simpa using ag) (by simpa using hk) h1 af]
 ·cases k with
  | zero=>exact aY t c aa
  | succ k=>exact h.off k t c (by simpa using hk) aa
 ·cases k with
  | zero=>exact hi c aa
  | succ k=>exact h.bn k c (by simpa using hk) aa
theorem Hand.tail {ρ:ab->Value->Prop}{Fs:Nat->bc}{x:ab}{v:Value}{xs:List ab}{vs:List Value}{dC:Nat->bc}(h:Hand w I ρ Fs (x::xs) (v::vs) dC):Hand w I ρ Fs xs vs (λk=>dC (k+1)) :=
  ⟨by simpa using h.len,λk y u av hu=>h.rel (k+1) y u av hu,λj k c ag hk h1 af=>by have:=h.eK (j+1) (k+1) c (by simpa using ag) (by simpa using hk) h1 af; omega,
   λk t c hk aa=>h.off (k+1) t c (by simpa using hk) aa,λk c hk aa=>h.bn (k+1) c (by simpa using hk) aa⟩
theorem pI {x:ab}{xs:List ab}(h:cS x) (aU:∀ y∈xs,cS y):∀ y∈x::xs,cS y:=by
 intro y av;rcases List.mem_cons.1 av with rfl | av
 ·exact h
 ·exact aU y av
theorem Take.FD {g g':aJ}{xs xs':List ab}(h:Take g xs xs' g'):∀ x∈xs',cS x:=by
 induction h with
 | bo h=>exact h
 | cons h _ aU=>exact pI h aU
 | a6 _ _ _ _ gv gh=>exact pI (.own gv) gh
 | bM _ _ _ _ _ gv gh=>exact pI (.own gv) gh
 | FK _ _ _ _ _ _ _ _ _ gv gh=>exact pI (.own gv) gh
 | obj _ _ _ gv gh=>exact pI (.obj gv) gh
 | mp _ _ _ _ gh=>exact pI .mp gh
 | agg _ _ gv gh=>exact pI (.agg gv) gh
 | bX _ _ gv gh=>exact pI (.bX gv) gh
def G3 (w:World) (I:bc) (T:Array Value) (g:aJ) (xs xs':List ab) (g':aJ):Prop :=
 ∀ {Fs:Nat->bc}{vs:List Value}{dC:Nat->bc},jx w I T g Fs->Hand w I (fC w T) Fs xs vs dC ->
  ∃ b5 lU,jx w I T g' b5/\Hand w I (fC w T) b5 xs' vs lU/\∀ c,lx b5 xs'.length lU c->lx Fs xs.length dC c
theorem Ku {w:World}{e cf:TypeId}{z n:Nat}{v:Value}{us iR:List Value}(h:w.ownsRow 0 e z v n us) (aL:w.ownsRow 0 cf z v n iR):us=iR:=by
 obtain ⟨h1,af⟩:=h;obtain ⟨oF,H6⟩:=aL;rcases af with ⟨rfl,rfl⟩ | ⟨b,cap,cur,rfl,_,aP,_,_,_,aw⟩
 ·simp at h1 oF; rw [h1,oF]
 ·rcases H6 with ⟨bY,_⟩ | ⟨ec,mM,ab_,bY,_,N4,_,_,_,EY⟩
  ·cases bY
  ·cases bY;rw [aP] at N4;cases N4;rw [<- aw,<- EY]
theorem Take.node {g1 g2 g':aJ}{Fs fY:Nat->bc}{B H0:bc}{cs cs' xs xs':List ab}{us vs:List Value}{bL dC:Nat->bc}{X:ab}{v0:Value}
  (bk:jx w I T g1 fY) (hH:Hand w I (fC w T) fY cs us bL) (eH:∀ c,B c->(∃ t,Fs t c)/\(∀ t,¬ fY t c)/\(∀ k,k<cs.length->¬ bL k c)/\¬ I c)
  (gE:∀ c,lx fY cs.length bL c->(∃ t,Fs t c)\/H0 c) (dK:Hand w I (fC w T) Fs xs vs dC) (vh:∀ c,H0 c->(∀ t,¬ Fs t c)/\∀ k,k<xs.length->¬ dC k c)
  (gv:G3 w I T g1 cs cs' g2) (gh:G3 w I T g2 xs xs' g')
  (build:∀ lU:Nat->bc,(∀ (k:Nat) (x:ab) (u:Value),cs'[k]?=some x->us[k]?=some u->R w I (fC w T) x u (lU k))->(∀ (j k c:Nat),j<cs'.length->k<cs'.length->lU j c->lU k c->j=k) ->
   (∀ k c,k<cs'.length->lU k c->¬ B c)->R w I (fC w T) X v0 (λc=>B c\/∃ k,k<cs'.length/\lU k c)) :
  ∃ b5 lU,jx w I T g' b5/\Hand w I (fC w T) b5 (X::xs') (v0::vs) lU/\∀ c,lx b5 (X::xs').length lU c->(∃ t,Fs t c)\/H0 c\/∃ k,k<xs.length/\dC k c:=by
 obtain ⟨iV,H1,h4,EB,BG⟩:=gv bk hH;have X0:∀ k t c,k<xs.length->dC k c->¬ iV t c:=by
  intro k t c hk aa aW;rcases gE c (BG c (.inl ⟨t,aW⟩)) with ⟨t',h⟩ | h
  ·exact dK.off k t' c hk aa h
  ·exact (vh c h).2 k hk aa
 obtain ⟨yI,AY,Il,UO,NM⟩:=gh h4 (⟨dK.len,dK.rel,dK.eK,X0,dK.bn⟩:Hand w I (fC w T) iV xs vs dC);have UD:∀ k c,k<cs'.length->H1 k c->¬ B c:=by
  intro k c hk aa au;obtain ⟨_,h1,af,_⟩:=eH c au;rcases BG c (.inr ⟨k,hk,aa⟩) with ⟨t,h⟩ | ⟨j,ag,h⟩
  ·exact h1 t h
  ·exact af j ag h
 have tR:=build H1 EB.rel EB.eK UD
 -- the node's blocks: apart from all else
 have key:∀ c,(B c\/∃ k,k<cs'.length/\H1 k c)->(∀ t,¬ iV t c)/\(∀ k,k<xs.length->¬ dC k c)/\¬ I c/\((∃ t,Fs t c)\/H0 c):=by
  rintro c (au | ⟨k,hk,aa⟩)
  ·obtain ⟨⟨t0,aT⟩,h1,af,aI⟩:=eH c au;refine ⟨λt aW=>?_,λk hk aa=>dK.off k t0 c hk aa aT,aI,.inl ⟨t0,aT⟩⟩;rcases BG c (.inl ⟨t,aW⟩) with ⟨t',h⟩ | ⟨j,ag,h⟩
   ·exact h1 t' h
   ·exact af j ag h
  ·have aA:=gE c (BG c (.inr ⟨k,hk,aa⟩));refine ⟨λt aW=>EB.off k t c hk aa aW,λj ag xf=>?_,EB.bn k c hk aa,aA⟩;rcases aA with ⟨t,h⟩ | h
   ·exact dK.off j t c ag xf h
   ·exact (vh c h).2 j ag xf
 have fin:∀ c,(B c\/∃ k,k<cs'.length/\H1 k c)->(∀ t,¬ yI t c)/\∀ k,k<xs'.length->¬ AY k c:=by
  intro c aa;obtain ⟨h1,af,_,_⟩:=key c aa;have none:¬ lx yI xs'.length AY c:=by
   intro h;rcases NM c h with ⟨t,h⟩ | ⟨k,hk,h⟩
   ·exact h1 t h
   ·exact af k hk h
  exact ⟨λt h=>none (.inl ⟨t,h⟩),λk hk h=>none (.inr ⟨k,hk,h⟩)⟩
 refine ⟨yI,_,Il,UO.cons tR (λk c hk aa=>(fin c aa).2 k hk) (λt c aa=>(fin c aa).1 t) (λc aa=>(key c aa).2.2.1),?_⟩;have back:∀ c,lx yI xs'.length AY c->(∃ t,Fs t c)\/H0 c\/∃ k,k<xs.length/\dC k c:=by
  intro c h;rcases NM c h with ⟨t,h⟩ | h
  ·rcases gE c (BG c (.inl ⟨t,h⟩)) with h | h
   ·exact .inl h
   ·exact .inr (.inl h)
  ·exact .inr (.inr h)
 rintro c (h | ⟨k,hk,aa⟩)
 ·exact back c (.inl h)
 ·cases k with
  | zero =>
   rcases (key c aa).2.2.2 with h | h
   ·exact .inl h
   ·exact .inr (.inl h)
  | succ k=>exact back c (.inr ⟨k,by simpa using hk,aa⟩)
end
end Go.Own
namespace Go.Own
open Go
section
variable {w:World}{I:bc}{T:Array Value}
theorem jx.kill {g:aJ}{Fs:Nat->bc}(h:jx w I T g Fs) (t:Nat):∃ b5,jx w I T (ct g ⟨t,[]⟩ .dead) b5/\(∀ c,¬ b5 t c)/\∀ s,s≠t->b5 s=Fs s:=by
 refine ⟨λs=>if s=t then cv else Fs s,⟨λs x J=>?_,λs aA c=>?_,λs cR c aa fp=>?_,λs c aa=>?_,h.lt⟩,λc=>by simp,λs aA=>by simp [aA]⟩
 ·by_cases b0:s=t
  ·subst b0;simp only [ct,if_pos] at J;cases aP:g s with
   | none=>rw [aP] at J; cases J
   | some y =>
    rw [aP] at J;have:x=.dead:=by simpa [ab.setAt] using J.symm
    subst this;obtain ⟨v,hv,_⟩:=h.rel s y aP;exact ⟨v,hv,.tree (.dead (by simp))⟩
  ·simp only [ct,if_neg b0] at J; simpa [b0] using h.rel s x J
 ·by_cases b0:s=t
  ·simp [b0]
  ·simp only [ct,if_neg b0] at aA; simpa [b0] using h.kW s aA c
 ·by_cases h1:s=t <;> by_cases af:cR=t <;> simp [h1,af,cv] at aa fp;exact h.eK _ _ _ aa fp
 ·by_cases h1:s=t <;> simp [h1,cv] at aa;exact h.bn _ _ aa
theorem R.vo {ρ:ab->Value->Prop}{Fs:Nat->bc}{x:ab}{v:Value}{xs:List ab}{vs:List Value}{dC:Nat->bc}(h:Hand w I ρ Fs (x::xs) (v::vs) dC):∀ c,dC 0 c->(∀ t,¬ Fs t c)/\∀ k,k<xs.length->¬ dC (k+1) c:=by
 intro c aa;refine ⟨λt=>h.off 0 t c (by simp) aa,λk hk h6=>?_⟩;have:=h.eK 0 (k+1) c (by simp) (by simpa using hk) aa h6;omega
theorem lx.head {Fs:Nat->bc}{x:ab}{xs:List ab}{dC:Nat->bc}{c:Nat}(h:(∃ t,Fs t c)\/dC 0 c\/∃ k,k<xs.length/\dC (k+1) c):lx Fs (x::xs).length dC c:=by
 rcases h with h | h | ⟨k,hk,h⟩
 ·exact .inl h
 ·exact .inr ⟨0,by simp,h⟩
 ·exact .inr ⟨k+1,by simpa using hk,h⟩
theorem F' {g:aJ}{p:Place}{y:ab}{q:Place}(h:q.root≠p.root):bz (ct g p y) q=bz g q:=by
 grind [bz,ct]
theorem uO {g:aJ}{p:Place}{y:ab}{t:Nat}(h:t≠p.root):ct g p y t=g t:=by
 grind [ct]
theorem PA {a:Option Addr}{n cap cB mM:Nat}:(Value.slice a n cap).ownBlock=(Value.slice a cB mM).ownBlock:=by cases a <;> rfl
theorem X8 {e:TypeId}{z n N:Nat}{a:Option Addr}{cap:Nat}{us:List Value}(h:w.ownsRow 0 e z (.slice a N cap) N us) (aE:n<=N):w.ownsRow 0 e z (.slice a n cap) n (us.take (n * z)):=by
 have hle:n * z<=N * z:=Nat.mul_le_mul_right _ aE;obtain ⟨hu,bY⟩:=h;refine ⟨by rw [List.length_take,hu]; omega,?_⟩
 grind
theorem Take.sound {g g':aJ}{xs xs':List ab}(h:Take g xs xs' g'):G3 w I T g xs xs' g':=by
 induction h with
 | bo h=>exact λ{Fs vs dC} bk hH=>⟨Fs,dC,bk,hH,λ_ h=>h⟩
 | @cons g g' x xs xs' J _ aU =>
  intro Fs vs dC bk hH;cases vs with
  | nil=>have:=hH.len; simp at this
  | cons v vs =>
   obtain ⟨b5,lU,dX,UN,hJ⟩:=aU bk hH.tail;have aT:=R.vo hH;have off:∀ c,dC 0 c->¬ lx b5 xs'.length lU c:=by
    intro c aa au;rcases hJ c au with ⟨t,h⟩ | ⟨k,hk,h⟩
    ·grind
    grind
   refine ⟨b5,_,dX,UN.cons (hH.rel 0 x v rfl rfl) (λk c hk aa h=>off c aa (.inr ⟨k,hk,h⟩)) (λt c aa h=>off c aa (.inl ⟨t,h⟩)) (λc aa=>hH.bn 0 c (by simp) aa),?_⟩;rintro c (h | ⟨k,hk,h⟩)
   ·rcases hJ c (.inl h) with h | ⟨j,ag,h⟩
    ·exact .inl h
    ·exact .inr ⟨j+1,by simpa using ag,h⟩
   ·cases k with
    | zero=>exact .inr ⟨0,by simp,h⟩
    | succ k =>
     rcases hJ c (.inr ⟨k,by simpa using hk,h⟩) with h | ⟨j,ag,h⟩
     ·exact .inl h
     ·exact .inr ⟨j+1,by simpa using ag,h⟩
 | @a6 g g1 g' z n N p cs cs' xs xs' ar aE t1 _ gv gh =>
  intro Fs vs dC bk hH;cases vs with
  | nil=>have:=hH.len; simp at this
  | cons v vs =>
   obtain ⟨qI,cw,gS,hB,dy,kg⟩:=bk.part ar (by simp);obtain ⟨a,iW,cap,h1,rfl,aI⟩:=(hH.rel 0 _ v rfl rfl).m_;rw [h1] at gS;cases gS;obtain ⟨a2,rP,i_,_⟩:=hB.ng;cases i_;obtain ⟨fY,iZ,ku,iM⟩:=kg .dead cv (.dead λ_ h=>h) (λ_ h=>h.elim) (λ_ h=>h.elim) (λ_ _ _ h=>h.elim);have ph:∀ t c,fY t c->Fs t c/\¬ cw c:=by
    intro t c aa;by_cases aw:t=p.root
    ·grind
    ·rw [iM t aw] at aa;exact ⟨aa,λeI=>aw (bk.eK _ _ _ aa (dy c eI))⟩
   cases hB with
   | ref J=>simp [ab.isRef] at J
   | @own _ _ _ _ e us bL _ aY ai oF aj aS au aO =>
    have EX:∀ k,k<(cs.take (n * z)).length->k<cs.length:=λk hk=>by rw [List.length_take] at hk; omega
    have fT:∀ k c,k<(cs.take (n * z)).length->bL k c->cw c:=λk c hk aa=>(aO c).2 (.inr ⟨k,EX k hk,aa⟩);have iK:Hand w I (fC w T) fY (cs.take (n * z)) (us.take (n * z)) bL:=by
     refine ⟨by simp [ai],λk x u J hu=>?_,λj k c ag hk=>aS j k c (EX j ag) (EX k hk),λk t c hk aa aW=>(ph t c aW).2 (fT k c hk aa),λk c hk aa=>bk.bn _ c (dy c (fT k c hk aa))⟩
     grind
    have qi:=X8 aY aE;obtain ⟨b5,lU,aF,a2,a3⟩:=Take.node (g1:=ct g p .dead) (Fs:=Fs) (B:=λc=>(Value.slice a n cap).ownBlock=some c) (H0:=dC 0) (X:=.own z n cs') (v0:=.slice a n cap) iZ iK
     (λc aa=>by
      have eI:cw c:=(aO c).2 (.inl (by rw [<- aa]; exact PA));exact ⟨⟨_,dy c eI⟩,λt aW=>(ph t c aW).2 eI,λk hk h6=>au k c (EX k hk) h6 (by rw [<- aa]; exact PA),bk.bn _ c (dy c eI)⟩)
     (λc aa=>by
      rcases aa with ⟨t,h⟩ | ⟨k,hk,h⟩
      ·grind
      grind)
     hH.tail (R.vo hH) gv gh (λyL gP h3 kL=>by
      refine .own qi (by rw [t1.length]; simp [ai]) (λk u hu=>?_) gP h3 (λk c hk aa h=>kL k c hk aa h) λc=>Iff.rfl
      grind)
    grind [lx.head]
 | @bM g g1 g' z n m t q cs new cs' xs xs' aw ar bg t1 _ gv gh =>
  intro Fs vs dC bk hH;cases vs with
  | nil=>have:=hH.len; simp at this
  | cons v vs =>
   obtain ⟨a,iW,cap,h1,rfl,aI⟩:=(hH.rel 0 _ v rfl rfl).m_;obtain ⟨v0,iN,gD⟩:=bk.rel t _ aw;simp only [dV,iN,walk,Option.some.injEq] at h1;subst h1;obtain ⟨bv,e,cd,us,news,gD⟩:=gD.vL;have bd:iW=n+m:=by
    obtain ⟨_,bY⟩:=gD.nB
    grind
   subst bd;obtain ⟨Rp,Io,gZ,f'⟩:=bk.kill t;have Jf:bz (ct g ⟨t,[]⟩ .dead) q=some (.own z n cs):=by rw [F' (by simpa using bg)]; exact ar
   obtain ⟨qI,cw,gS,hB,dy,kg⟩:=Io.part Jf (by simp);obtain ⟨b',mM,bD,rfl⟩:=gD.jN;rw [bD] at gS;cases gS;obtain ⟨fY,iZ,ku,iM⟩:=kg .dead cv (.dead λ_ h=>h) (λ_ h=>h.elim) (λ_ h=>h.elim) (λ_ _ _ h=>h.elim);have r0:∀ c,cw c->Fs q.root c:=λc aa=>by have:=dy c aa; rwa [f' _ bg] at this
   have ph:∀ s c,fY s c->Fs s c/\¬ cw c/\s≠t:=by
    intro s c aa;have b0:s≠t:=by
     rintro rfl;by_cases Oz:s=q.root
     ·grind
     simp_all
    by_cases aA:s=q.root
    ·grind
    ·rw [iM s aA,f' s b0] at aa;exact ⟨aa,λeI=>aA (bk.eK _ _ _ aa (r0 c eI)),b0⟩
   cases hB with
   | ref J=>simp [ab.isRef] at J
   | @own _ _ _ _ cf iR bL _ aY ai oF aj aS au aO =>
    have:=Ku aY gD.lg;subst this;have fT:∀ k c,k<cs.length->bL k c->cw c:=λk c hk aa=>(aO c).2 (.inr ⟨k,hk,aa⟩);have iK:Hand w I (fC w T) fY (cs++new) (iR++news) (λk=>if k<cs.length then bL k else cv):=by
     refine ⟨by simp [ai,gD.ai],λk x u J hu=>?_,λj k c ag hk aa fp=>?_,λk s c hk aa aW=>?_,λk c hk aa=>?_⟩
     ·by_cases fq:k<cs.length
      ·grind
      ·rw [List.getElem?_append_right (by omega)] at J;rw [List.getElem?_append_right (by omega),<- ai] at hu;simpa [fq] using gD.aj _ x u J hu
     ·by_cases e0:j<cs.length <;> by_cases fq:k<cs.length <;> simp [e0,fq,cv] at aa fp
      grind
     ·by_cases fq:k<cs.length <;> simp [fq,cv] at aa
      grind
     ·by_cases fq:k<cs.length <;> simp [fq,cv] at aa;exact bk.bn _ c (r0 c (fT k c fq aa))
    obtain ⟨b5,lU,aF,a2,a3⟩:=Take.node (g1:=ct (ct g ⟨t,[]⟩ .dead) q .dead) (Fs:=Fs) (B:=λc=>(Value.slice a (n+m) cap).ownBlock=some c) (H0:=dC 0) (X:=.own z (n+m) cs') (v0:=.slice a (n+m) cap) iZ iK
     (λc aa=>by
      by_cases pn:(Value.slice b' n mM).ownBlock=some c
      ·have eI:cw c:=(aO c).2 (.inl pn);refine ⟨⟨_,r0 c eI⟩,λs aW=>(ph s c aW).2.1 eI,λk hk h6=>?_,bk.bn _ c (r0 c eI)⟩;by_cases fq:k<cs.length <;> simp [fq,cv] at h6
       grind
      ·have EZ:Fs t c:=(gD.aO c).2 ⟨aa,pn⟩;refine ⟨⟨_,EZ⟩,λs aW=>(ph s c aW).2.2 (bk.eK _ _ _ (ph s c aW).1 EZ),λk hk h6=>?_,bk.bn _ c EZ⟩;by_cases fq:k<cs.length <;> simp [fq,cv] at h6;exact bg (bk.eK _ _ _ (r0 c (fT k c fq h6)) EZ))
     (λc aa=>by
      rcases aa with ⟨s,h⟩ | ⟨k,hk,h⟩
      ·grind
      ·by_cases fq:k<cs.length <;> simp [fq,cv] at h
       grind)
     hH.tail (R.vo hH) gv gh (λyL gP h3 kL=>by
      refine .own gD.nB (by rw [t1.length]; simp [ai,gD.ai]) (λk u hu=>?_) gP h3 (λk c hk aa h=>kL k c hk aa h) λc=>Iff.rfl;by_cases fq:k<iR.length
      ·grind
      ·rw [List.getElem?_append_right (by omega)] at hu; exact gD.h1 _ u hu)
    grind [lx.head]
 | @FK g g1 g' z n m t rf m2 t2 q cs new zP cs' xs xs' aw OB aE ar bg ui WJ t1 _ gv gh =>
  subst aE;intro Fs vs dC bk hH;cases vs with
  | nil=>have:=hH.len; simp at this
  | cons v vs =>
   obtain ⟨a,iW,cap,h1,rfl,aI⟩:=(hH.rel 0 _ v rfl rfl).m_;obtain ⟨v0,iN,gD⟩:=bk.rel t _ aw;simp only [dV,iN,walk,Option.some.injEq] at h1;subst h1;obtain ⟨bv,e,cd,us,news,gD⟩:=gD.vL;have bd:iW=rf+m2+m:=by
    obtain ⟨_,bY⟩:=gD.nB
    grind
   subst bd;obtain ⟨v2,Cd,mn⟩:=bk.rel t2 _ OB;obtain ⟨Mj,cf,tI,ZS,Ki,mn⟩:=mn.vL;have jN:bv=v2:=by
    obtain ⟨aF,MC,cF,rfl⟩:=gD.jN
    grind [dV,walk]
   subst jN;have l4:us=ZS++Ki:=Ku gD.lg mn.nB;subst l4;obtain ⟨aaf,U7,acZ,Oa⟩:=bk.kill t;obtain ⟨Rp,Io,gZ,f'⟩:=U7.kill t2;have Jf:bz (ct (ct g ⟨t,[]⟩ .dead) ⟨t2,[]⟩ .dead) q=some (.own z rf cs):=by rw [F' (by simpa using ui),F' (by simpa using bg)]; exact ar
   obtain ⟨qI,cw,gS,hB,dy,kg⟩:=Io.part Jf (by simp);obtain ⟨b',mM,bD,rfl⟩:=mn.jN;rw [bD] at gS;cases gS;obtain ⟨fY,iZ,ku,iM⟩:=kg .dead cv (.dead λ_ h=>h) (λ_ h=>h.elim) (λ_ h=>h.elim) (λ_ _ _ h=>h.elim);have r0:∀ c,cw c->Fs q.root c:=λc aa=>by have:=dy c aa; rwa [f' _ ui,Oa _ bg] at this
   have ph:∀ s c,fY s c->Fs s c/\¬ cw c/\s≠t/\s≠t2:=by
    intro s c aa;have qj:s≠t2:=by
     rintro rfl;by_cases Oz:s=q.root
     ·grind
     simp_all
    have b0:s≠t:=by
     rintro rfl;by_cases Oz:s=q.root
     ·grind
     simp_all
    by_cases aA:s=q.root
    ·grind
    ·rw [iM s aA,f' s qj,Oa s b0] at aa;exact ⟨aa,λeI=>aA (bk.eK _ _ _ aa (r0 c eI)),b0,qj⟩
   cases hB with
   | ref J=>simp [ab.isRef] at J
   | @own _ _ _ _ fx iR bL _ aY ai oF aj aS au aO =>
    have:=Ku aY mn.lg;subst this;have fT:∀ k c,k<cs.length->bL k c->cw c:=λk c hk aa=>(aO c).2 (.inr ⟨k,hk,aa⟩);have iK:Hand w I (fC w T) fY (cs++zP++new) (iR++Ki++news) (λk=>if k<cs.length then bL k else cv):=by
     have fL:=mn.ai;have Cv:=gD.ai;refine ⟨by simp [ai,fL,Cv],λk x u J hu=>?_,λj k c ag hk aa fp=>?_,λk s c hk aa aW=>?_,λk c hk aa=>?_⟩
     ·rw [List.append_assoc] at J hu;by_cases fq:k<cs.length
      ·grind
      ·rw [List.getElem?_append_right (by omega)] at J;rw [List.getElem?_append_right (by omega),<- ai] at hu;simp only [fq,if_false];by_cases I0:k - cs.length<zP.length
       ·rw [List.getElem?_append_left I0] at J;rw [List.getElem?_append_left (by omega)] at hu;exact mn.aj _ x u J hu
       ·rw [List.getElem?_append_right (by omega)] at J;rw [List.getElem?_append_right (by omega),<- fL] at hu;exact gD.aj _ x u J hu
     ·by_cases e0:j<cs.length <;> by_cases fq:k<cs.length <;> simp [e0,fq,cv] at aa fp
      grind
     ·by_cases fq:k<cs.length <;> simp [fq,cv] at aa
      grind
     ·by_cases fq:k<cs.length <;> simp [fq,cv] at aa;exact bk.bn _ c (r0 c (fT k c fq aa))
    have Qx:∀ s c,Fs s c->s=t\/s=t2->(∃ s,Fs s c)/\(∀ s,¬ fY s c)/\(∀ k,k<(cs++zP++new).length->¬ (if k<cs.length then bL k else cv) c)/\¬ I c:=by
     intro s c aa aA;refine ⟨⟨_,aa⟩,λcR aW=>?_,λk hk h6=>?_,bk.bn _ c aa⟩
     ·obtain ⟨f1,_,f2,f3⟩:=ph cR c aW;have:=bk.eK _ _ _ f1 aa
      grind
     ·by_cases fq:k<cs.length <;> simp [fq,cv] at h6;have:=bk.eK _ _ _ (r0 c (fT k c fq h6)) aa
      grind
    obtain ⟨b5,lU,aF,a2,a3⟩:=Take.node (g1:=ct (ct (ct g ⟨t,[]⟩ .dead) ⟨t2,[]⟩ .dead) q .dead) (Fs:=Fs) (B:=λc=>(Value.slice a (rf+m2+m) cap).ownBlock=some c) (H0:=dC 0) (X:=.own z (rf+m2+m) cs') (v0:=.slice a (rf+m2+m) cap) iZ iK
     (λc aa=>by
      by_cases pn:bv.ownBlock=some c
      ·by_cases NR:(Value.slice b' rf mM).ownBlock=some c
       ·have eI:cw c:=(aO c).2 (.inl NR);refine ⟨⟨_,r0 c eI⟩,λs aW=>(ph s c aW).2.1 eI,λk hk h6=>?_,bk.bn _ c (r0 c eI)⟩;by_cases fq:k<cs.length <;> simp [fq,cv] at h6
        grind
       ·exact Qx t2 c ((mn.aO c).2 ⟨pn,NR⟩) (.inr rfl)
      ·exact Qx t c ((gD.aO c).2 ⟨aa,pn⟩) (.inl rfl))
     (λc aa=>by
      rcases aa with ⟨s,h⟩ | ⟨k,hk,h⟩
      ·grind
      ·by_cases fq:k<cs.length <;> simp [fq,cv] at h
       grind)
     hH.tail (R.vo hH) gv gh (λyL gP h3 kL=>by
      refine .own gD.nB (by rw [t1.length]; simp [ai,mn.ai,gD.ai]) (λk u hu=>?_) gP h3 (λk c hk aa h=>kL k c hk aa h) λc=>Iff.rfl;rw [List.append_assoc] at hu;by_cases fq:k<iR.length
      ·grind
      ·rw [List.getElem?_append_right (by omega)] at hu;by_cases I0:k - iR.length<Ki.length
       ·rw [List.getElem?_append_left I0] at hu;exact mn.h1 _ u hu
       ·rw [List.getElem?_append_right (by omega)] at hu; exact gD.h1 _ u hu)
    grind [lx.head]
 | @obj g g1 g' p cs cs' xs xs' ar t1 _ gv gh =>
  intro Fs vs dC bk hH;cases vs with
  | nil=>have:=hH.len; simp at this
  | cons v vs =>
   obtain ⟨qI,cw,gS,hB,dy,kg⟩:=bk.part ar (by simp);obtain ⟨u,ad,h1,af,rfl⟩:=(hH.rel 0 _ v rfl rfl).nI;rw [h1] at gS;cases gS;obtain ⟨fY,iZ,ku,iM⟩:=kg .dead cv (.dead λ_ h=>h) (λ_ h=>h.elim) (λ_ h=>h.elim) (λ_ _ _ h=>h.elim);have ph:∀ t c,fY t c->Fs t c/\¬ cw c:=by
    intro t c aa;by_cases aw:t=p.root
    ·grind
    ·rw [iM t aw] at aa;exact ⟨aa,λeI=>aw (bk.eK _ _ _ aa (dy c eI))⟩
   cases hB with
   | ref J=>simp [ab.isRef] at J
   | @obj _ b e arr bL _ aY ai oF aj aS au aO =>
    simp only [addrOf,Option.some.injEq] at af;subst af;have fT:∀ k c,k<cs.length->bL k c->cw c:=λk c hk aa=>(aO c).2 (.inr ⟨k,hk,aa⟩);have iK:Hand w I (fC w T) fY cs arr.toList bL :=
     ⟨by simp [ai],λk x u J hu=>aj k x u J (by simpa using hu),aS,λk t c hk aa aW=>(ph t c aW).2 (fT k c hk aa),λk c hk aa=>bk.bn _ c (dy c (fT k c hk aa))⟩
    obtain ⟨b5,lU,aF,a2,a3⟩:=Take.node (g1:=ct g p .dead) (Fs:=Fs) (B:=λc=>c=b) (H0:=dC 0) (X:=.obj cs') (v0:=.pointer (some ⟨b,0,none⟩)) iZ iK
     (λc aa=>by
      subst aa;have eI:cw c:=(aO c).2 (.inl rfl);exact ⟨⟨_,dy c eI⟩,λt aW=>(ph t c aW).2 eI,λk hk h6=>au k hk h6,bk.bn _ c (dy c eI)⟩)
     (λc aa=>by
      rcases aa with ⟨t,h⟩ | ⟨k,hk,h⟩
      ·grind
      grind)
     hH.tail (R.vo hH) gv gh (λyL gP h3 kL=>by
      refine .obj aY (by rw [t1.length,ai]) oF (λk x u J hu=>gP k x u J (by simpa using hu)) h3 (λk hk h=>kL k b hk h rfl) λc=>Iff.rfl)
    grind [lx.head]
 | @mp g g1 g' p q xs xs' ar t1 _ gv gh =>
  intro Fs vs dC bk hH;cases vs with
  | nil=>have:=hH.len; simp at this
  | cons v vs =>
   obtain ⟨qI,cw,gS,hB,dy,kg⟩:=bk.part ar (by simp);have hm:=hH.rel 0 _ v rfl rfl;cases hm with
   | ref _ hm _ =>
   obtain ⟨Hi,h1,rfl⟩:=hm;rw [h1] at gS;cases gS;obtain ⟨fY,iZ,ku,iM⟩:=kg .dead cv (.dead λ_ h=>h) (λ_ h=>h.elim) (λ_ h=>h.elim) (λ_ _ _ h=>h.elim);have ph:∀ t c,fY t c->Fs t c/\¬ cw c:=by
    intro t c aa;by_cases aw:t=p.root
    ·grind
    ·rw [iM t aw] at aa;exact ⟨aa,λeI=>aw (bk.eK _ _ _ aa (dy c eI))⟩
   cases hB with
   | ref J=>simp [ab.isRef] at J
   | @mp _ b es clock _ aY bg aO =>
    have iK:Hand w I (fC w T) fY [] [] (λ_=>cv) :=
     ⟨rfl,λk x u J=>by simp at J,λ_ _ _ _ _ h=>h.elim,λ_ _ _ _ h=>h.elim,λ_ _ _ h=>h.elim⟩
    obtain ⟨b5,lU,aF,a2,a3⟩:=Take.node (g1:=ct g p .dead) (Fs:=Fs) (B:=λc=>c=b) (H0:=dC 0) (X:=.mp q) (v0:=.map (some b)) iZ iK
     (λc aa=>by
      subst aa;have eI:cw c:=(aO c).2 rfl;exact ⟨⟨_,dy c eI⟩,λt aW=>(ph t c aW).2 eI,λk hk _=>by simp at hk,bk.bn _ c (dy c eI)⟩)
     (λc aa=>by
      rcases aa with ⟨t,h⟩ | ⟨k,hk,h⟩
      ·grind
      grind)
     hH.tail (R.vo hH) gv gh (λyL gP h3 kL=>by
      refine .mp aY bg λc=>⟨λh=>h.elim id λ⟨_,hk,_⟩=>by simp at hk,.inl⟩)
    grind [lx.head]
 | @agg g g1 g' cs cs' xs xs' t1 _ gv gh =>
  intro Fs vs dC bk hH;cases vs with
  | nil=>have:=hH.len; simp at this
  | cons v vs =>
   have J:=hH.rel 0 _ v rfl rfl;have aT:=R.vo hH;cases J with
   | ref J=>simp [ab.isRef] at J
   | @agg _ us bL _ ai oF aj aS aO =>
    have fT:∀ k c,k<cs.length->bL k c->dC 0 c:=λk c hk aa=>(aO c).2 ⟨k,hk,aa⟩;obtain ⟨b5,lU,aF,a2,a3⟩:=Take.node (g1:=g) (Fs:=Fs) (B:=cv) (H0:=dC 0) (X:=.agg cs') (v0:=.agg us) bk
     (⟨by simp [ai],λk x u J hu=>aj k x u J (by simpa using hu),aS,λk t c hk aa=>(aT c (fT k c hk aa)).1 t,λk c hk aa=>hH.bn 0 c (by simp) (fT k c hk aa)⟩:Hand w I (fC w T) Fs cs us.toList bL)
     (λc aa=>aa.elim)
     (λc aa=>by
      rcases aa with h | ⟨k,hk,h⟩
      ·grind
      grind)
     hH.tail aT gv gh (λyL gP h3 kL=>by
      refine .agg (by rw [t1.length,ai]) oF (λk x u J hu=>gP k x u J (by simpa using hu)) h3 λc=>⟨λh=>h.elim (λh=>h.elim) id,.inr⟩)
    grind [lx.head]
 | @bX g g1 g' cs cs' xs xs' t1 _ gv gh =>
  intro Fs vs dC bk hH;cases vs with
  | nil=>have:=hH.len; simp at this
  | cons v vs =>
   have J:=hH.rel 0 _ v rfl rfl;have aT:=R.vo hH;cases J with
   | ref J=>simp [ab.isRef] at J
   | @bX _ us bL _ ai aj aS aO =>
    have fT:∀ k c,k<cs.length->bL k c->dC 0 c:=λk c hk aa=>(aO c).2 ⟨k,hk,aa⟩;obtain ⟨b5,lU,aF,a2,a3⟩:=Take.node (g1:=g) (Fs:=Fs) (B:=cv) (H0:=dC 0) (X:=.bX cs') (v0:=.tuple us) bk
     (⟨by simp [ai],λk x u J hu=>aj k x u J (by simpa using hu),aS,λk t c hk aa=>(aT c (fT k c hk aa)).1 t,λk c hk aa=>hH.bn 0 c (by simp) (fT k c hk aa)⟩:Hand w I (fC w T) Fs cs us.toList bL)
     (λc aa=>aa.elim)
     (λc aa=>by
      rcases aa with h | ⟨k,hk,h⟩
      ·grind
      grind)
     hH.tail aT gv gh (λyL gP h3 kL=>by
      refine .bX (by rw [t1.length,ai]) (λk x u J hu=>gP k x u J (by simpa using hu)) h3 λc=>⟨λh=>h.elim (λh=>h.elim) id,.inr⟩)
    grind [lx.head]
end
end Go.Own
namespace Go.Own
open Go
inductive ji (mG:ab->Prop):ab->Prop
 | bo {x:ab}(h:cS x):ji mG x
 | ref {x:ab}(J:x.isRef=true) (h:mG x):ji mG x
 | own {z n:Nat}{cs:List ab}(h:∀ x∈cs,ji mG x):ji mG (.own z n cs)
 | obj {cs:List ab}(h:∀ x∈cs,ji mG x):ji mG (.obj cs)
 | agg {cs:List ab}(h:∀ x∈cs,ji mG x):ji mG (.agg cs)
 | bX {cs:List ab}(h:∀ x∈cs,ji mG x):ji mG (.bX cs)
 | cU {fn:Fn}{a b:List ab}(h1:∀ x∈a,ji mG x) (af:∀ x∈b,ji mG x):ji mG (.cU fn a b)
def AA:ab->Option Place
 | .ptr p _=>some p
 | .a6 _ p _=>some p
 | .sub _ p _ _=>some p
 | .bM _ p _ _ _=>some p
 | .gw p=>some p
 | _=>none
def Clear (p:Place) (k m:Nat) (r:ab):Prop:=∀ q,AA r=some q->q.root=p.root->∀ j cW,q.path=p.path++j::cW->j<k\/k+m<=j
def e8 {α:Type}(l:List α) (k:Nat) (c:List α):List α:=l.take k++c++l.drop (k+c.length)
theorem rC {α:Type}{l:List α}{k:Nat}{c:List α}(h:k+c.length<=l.length):(e8 l k c).length=l.length:=by
 simp [e8]; omega
theorem tc {α:Type}{l:List α}{k:Nat}{c:List α}(h:k+c.length<=l.length) (j:Nat):(e8 l k c)[j]?=if k<=j/\j<k+c.length then c[j - k]? else l[j]?:=by
 unfold e8;rw [List.append_assoc];by_cases h1:j<k
 ·rw [List.getElem?_append_left (by simp; omega),List.getElem?_take,if_pos h1,if_neg (by omega)]
 ·rw [List.getElem?_append_right (by simp; omega)];have:(l.take k).length=k:=by simp; omega
  rw [this];by_cases af:j<k+c.length
  ·rw [List.getElem?_append_left (by omega),if_pos ⟨by omega,af⟩]
  ·rw [List.getElem?_append_right (by omega),List.getElem?_drop,if_neg (by omega)];congr 1; omega
theorem Zm {α:Type}{l:List α}{k:Nat}{c:List α}{m:Nat}(h:k+c.length<=m) (hm:m<=l.length):(e8 l k c).take m=e8 (l.take m) k c:=by
 have h1:k+c.length<=(l.take m).length:=by rw [List.length_take]; omega
 apply List.ext_getElem?;intro j;rw [List.getElem?_take,tc h1,tc (l:=l) (by omega),List.getElem?_take];by_cases ag:j<m
 ·rw [if_pos ag,if_pos ag]
 ·rw [if_neg ag,if_neg ag,if_neg (by omega)]
def ab.e8 (x:ab) (k:Nat) (c:List ab):ab :=
 match x with
 | .own z n cs=>.own z n (Own.e8 cs k c)
 | .obj cs=>.obj (Own.e8 cs k c)
 | x=>x
section
variable {w:World}{I:bc}{T:Array Value}{g:aJ}{Fs:Nat->bc}
theorem R.yf {ρ:ab->Value->Prop}{mG:ab->Prop}{x:ab}{v:Value}{F:bc}(h:R w I ρ x v F):ji mG x->R w I (λr u=>ρ r u/\mG r) x v F:=by
 induction h with
 | lit h aO=>exact λ_=>.lit h aO
 | aN aO=>exact λ_=>.aN aO
 | dead aO=>exact λ_=>.dead aO
 | @ref x _ _ J h aO =>
  intro hk;refine .ref J ⟨h,?_⟩ aO;cases hk with
  | ref _ h=>exact h
  | bo h=>cases h <;> simp [ab.isRef] at J
  | _=>simp [ab.isRef] at J
 | hD aO=>exact λ_=>.hD aO
 | mp aY ar aO=>exact λ_=>.mp aY ar aO
 | imp aO bb aY ar=>exact λ_=>.imp aO bb aY ar
 | bn aO la bb aA ai h1 aa aj aU =>
  intro hk;cases hk with
  | ref J=>simp [ab.isRef] at J
  | bo h=>cases h with | bn h=>exact .bn aO la bb aA ai h1 aa λk x J=>aU k x J (.bo (h x (List.mem_of_getElem? J)))
 | cG aO bb aA h1 aa aj aU =>
  intro hk;cases hk with
  | ref J=>simp [ab.isRef] at J
  | bo h=>cases h with | cG h=>exact .cG aO bb aA h1 aa λk x J=>aU k x J (.bo (h x (List.mem_of_getElem? J)))
 | own aY ai h1 aj aS au aO aU =>
  intro hk;refine .own aY ai h1 (λk x u J hu=>aU k x u J hu ?_) aS au aO;cases hk with
  | ref J=>simp [ab.isRef] at J
  | bo h=>cases h with | own h=>exact .bo (h x (List.mem_of_getElem? J))
  | own h=>exact h x (List.mem_of_getElem? J)
 | obj aY ai h1 aj aS au aO aU =>
  intro hk;refine .obj aY ai h1 (λk x u J hu=>aU k x u J hu ?_) aS au aO;cases hk with
  | ref J=>simp [ab.isRef] at J
  | bo h=>cases h with | obj h=>exact .bo (h x (List.mem_of_getElem? J))
  | obj h=>exact h x (List.mem_of_getElem? J)
 | agg ai h1 aj aS aO aU =>
  intro hk;refine .agg ai h1 (λk x u J hu=>aU k x u J hu ?_) aS aO;cases hk with
  | ref J=>simp [ab.isRef] at J
  | bo h=>cases h with | agg h=>exact .bo (h x (List.mem_of_getElem? J))
  | agg h=>exact h x (List.mem_of_getElem? J)
 | bX ai aj aS aO aU =>
  intro hk;refine .bX ai (λk x u J hu=>aU k x u J hu ?_) aS aO;cases hk with
  | ref J=>simp [ab.isRef] at J
  | bo h=>cases h with | bX h=>exact .bo (h x (List.mem_of_getElem? J))
  | bX h=>exact h x (List.mem_of_getElem? J)
 | @cU fn first caps v1 v2 F aO h1 af ku iM gv gh =>
  intro hk;have:(∀ x∈first,ji mG x)/\∀ x∈caps,ji mG x:=by
   cases hk with
   | ref J=>simp [ab.isRef] at J
   | bo h=>cases h with | cU h1 af=>exact ⟨λx J=>.bo (h1 x J),λx J=>.bo (af x J)⟩
   | cU h1 af=>exact ⟨h1,af⟩
  exact .cU aO h1 af (λk x u J hu=>gv k x u J hu (this.1 x (List.mem_of_getElem? J))) (λk x u J hu=>gh k x u J hu (this.2 x (List.mem_of_getElem? J)))
theorem jx.store (bk:jx w I T g Fs) {p:Place}{nd:ab}{z n:Nat}{cs:List ab}(ar:bz g p=some nd) (fr:nd=.own z n cs\/nd=.obj cs) {k:Nat}{cs':List ab}(hk:k+cs'.length<=cs.length)
  {iR:List Value}{dC:Nat->bc}(hH:Hand w I (fC w T) Fs cs' iR dC) (mW:∀ x∈cs',cS x) (hj:∀ (j:Nat) (u:Value),iR[j]?=some u->u.oneCell'=true)
  {g2:aJ}(zs:∀ t x,g2 t=some x->ct g p (nd.e8 k cs') t=some x)
  (n4:∀ t x,g2 t=some x->∀ y,g t=some y->ji (λr=>gB g r/\Clear p k cs'.length r/\gB g2 r) y) (lf:∀ t z q n m new,g2 t≠some (.bM z q n m new)) (kd:g2 p.root≠none) {b:Nat}{v:Value}
  (hv:dV w T p=some v) (au:addrOf v=some ⟨b,0,none⟩) {e:TypeId}{arr:Array Value}(j9:w.heap[b]?=some (.cells arr e (0,0))) :
  ∃ b5,cD (w.setRow b (e8 arr.toList k iR).toArray) I T g2 b5/\∀ t c,b5 t c->Fs t c\/∃ j,j<cs'.length/\dC j c:=by
 have lk:∀ z q n m new,nd≠.bM z q n m new:=by rcases fr with rfl | rfl <;> simp
 have hlen:=hH.len;have o0:∀ c,c≠b->(w.setRow b (e8 arr.toList k iR).toArray).heap[c]?=w.heap[c]?:=λc aa=>setRow_other w b c _ aa;have DF:(w.setRow b (e8 arr.toList k iR).toArray).heap[b]?=some (.cells (e8 arr.toList k iR).toArray e (0,0)):=setRow_heap w b arr _ e (0,0) j9;have QS:(w.setRow b (e8 arr.toList k iR).toArray).heap.size=w.heap.size:=by simp
 generalize vE:w.setRow b (e8 arr.toList k iR).toArray=w' at *
 -- the slot of the node
 obtain ⟨ez,il⟩:∃ ez,g p.root=some ez:=by
  unfold bz at ar;cases J:g p.root with
  | none=>rw [J] at ar; cases ar
  | some x=>exact ⟨x,rfl⟩
 have pk:ez.at p.path=some nd:=by simpa [bz,il] using ar
 obtain ⟨v0,iN,gD⟩:=bk.rel _ _ il;have BC:=gD.gF (by rintro z q n m new rfl; exact lk _ _ _ _ _ (ab.sA pk).2);have lI:ji (λr=>gB g r/\Clear p k cs'.length r/\gB g2 r) ez:=by
  cases af:g2 p.root with
  | none=>exact absurd af kd
  | some y=>exact n4 _ _ af _ il
 let Ls:ab->Value->Prop:=λr u=>fC w T r u/\gB g r/\Clear p k cs'.length r/\gB g2 r;have qe:R w I Ls ez v0 (Fs p.root):=BC.yf lI;obtain ⟨hW,cw,hw,dF,dy,eY,kg⟩:=R.focus p.path qe pk;have Js:hW=v:=by simp only [dV,iN,hw,Option.some.injEq] at hv; exact hv
 subst Js;have mr:cw b:=dF.FB (z:=z) (n:=n) fr au;have same:∀ t c,Fs t c->c≠b->w'.heap[c]?=w.heap[c]?:=λ_ c _ aa=>o0 c aa;have vi:∀ c,I c->w'.heap[c]?=w.heap[c]?:=λc aa=>o0 c λe=>bk.bn _ b (dy b mr) (e ▸ aa);have ET:∀ t,t≠p.root->¬ Fs t b:=λt aw h=>aw (bk.eK _ _ _ h (dy b mr))
 -- ways that are clear of the cells
 obtain ⟨Z0,Z1⟩:=eY w' λc aa aE=>o0 c λe=>aE (e ▸ mr);have O3:∀ (ρ':ab->Value->Prop),(∀ x v,Ls x v->ρ' x v)->(∃ c_,R w' I ρ' (nd.e8 k cs') hW c_/\∀ c,c_ c->cw c\/∃ j,j<cs'.length/\dC j c)/\∀ j cW y,(j<k\/k+cs'.length<=j)->nd.at (j::cW)=some y->walk w' hW (j::cW)=walk w hW (j::cW):=by
  intro ρ' lL;have new:∀ (j:Nat) (x:ab) (u:Value),cs'[j]?=some x->iR[j]?=some u->R w' I ρ' x u (dC j):=by
   intro j x u J hu;have ag:j<cs'.length:=(List.getElem?_eq_some_iff.1 J).1;have:=(hH.rel j x u J hu).bo (ρ':=ρ') (mW x (List.mem_of_getElem? J));exact this.frame vi (λ_ h=>h) (λ_ _ h=>h) λc aa=>o0 c λe=>hH.off j p.root b ag (e ▸ aa) (dy b mr)
  rcases fr with rfl | rfl
  ·cases dF with
   | ref J=>simp [ab.isRef] at J
   | @own _ _ _ _ cf us bL _ aY ai h1 aj aS iL aO =>
    obtain ⟨l4,bY⟩:=aY;rcases bY with ⟨rfl,_⟩ | ⟨ec,cap,cur,rfl,s',lr,Ay,yb,Dq,Dr⟩
    ·simp [addrOf] at au
    ·simp only [addrOf,Option.some.injEq,Addr.mk.injEq,and_true] at au;subst au;rw [j9] at lr;cases lr;have NU:n * z<=arr.toList.length:=by
      rw [<- l4,<- Dr,List.length_take] ; simp; omega
     have adi:us.length=cs.length:=ai.symm;have nA:w'.ownsRow 0 e z (.slice (some ⟨ec,0,none⟩) n cap) n (e8 us k iR):=by
      refine ⟨by rw [rC (by omega),l4],.inr ⟨ec,cap,_,rfl,s',DF,Ay,yb,?_,?_⟩⟩
      ·rw [List.size_toArray,rC (by omega),Array.length_toList,Dq]
      ·show (e8 arr.toList k iR).take (n * z)=_;rw [Zm (by omega) NU,Dr]
     have Nx:∀ j,j<cs.length->¬ bL j ec:=λj ag h=>iL j ec ag h rfl;have fT:∀ j c,j<cs.length->bL j c->Fs p.root c:=λj c ag aa=>dy c ((aO c).2 (.inr ⟨j,ag,aa⟩));refine ⟨⟨_,.own (Fs:=λj=>if k<=j/\j<k+cs'.length then dC (j - k) else bL j) nA (by rw [rC hk,rC (by omega),ai]) (λj u hu=>?_) (λj x u J hu=>?_) (λi j c hi ag aa fp=>?_) (λj c ag aa vC=>?_) (λc=>Iff.rfl),λc aa=>?_⟩,λj cW y ag av=>?_⟩
     ·rw [tc (by omega)] at hu
      split at hu
      ·exact hj _ u hu
      ·exact h1 j u hu
     ·rw [tc hk] at J;rw [tc (by omega),<- hlen] at hu;by_cases fU:k<=j/\j<k+cs'.length
      ·rw [if_pos fU] at J hu;simpa [fU] using new (j - k) x u J hu
      ·rw [if_neg fU] at J hu;have e0:j<cs.length:=(List.getElem?_eq_some_iff.1 J).1;rw [if_neg fU];exact (aj j x u J hu).frame vi (λ_ h=>h) lL λc aa=>o0 c λe=>Nx j e0 (e ▸ aa)
     ·rw [rC hk] at hi ag;by_cases h1:k<=i/\i<k+cs'.length <;> by_cases af:k<=j/\j<k+cs'.length <;> simp only [h1,af,if_false] at aa fp
      ·have:=hH.eK (i - k) (j - k) c (by omega) (by omega) (by simpa using aa) (by simpa using fp);omega
      ·exact absurd (fT j c ag fp) (hH.off (i - k) _ c (by omega) (by simpa using aa))
      ·exact absurd (fT i c hi aa) (hH.off (j - k) _ c (by omega) (by simpa using fp))
      ·exact aS i j c hi ag aa fp
     ·rw [rC hk] at ag;by_cases h1:k<=j/\j<k+cs'.length
      ·rw [if_pos h1] at aa;simp only [Value.ownBlock,Option.some.injEq] at vC;subst vC;exact hH.off (j - k) p.root ec (by omega) aa (dy ec mr)
      ·rw [if_neg h1] at aa; exact iL j c ag aa vC
     ·rcases aa with aa | ⟨j,ag,aa⟩
      ·exact .inl ((aO c).2 (.inl aa))
      ·rw [rC hk] at ag;by_cases h1:k<=j/\j<k+cs'.length
       ·rw [if_pos h1] at aa; exact .inr ⟨j - k,by omega,aa⟩
       ·rw [if_neg h1] at aa; exact .inl ((aO c).2 (.inr ⟨j,ag,aa⟩))
     ·obtain ⟨c,oL,aa⟩:=ab.u_ av;simp only [ab.kids] at oL;have e0:j<cs.length:=(List.getElem?_eq_some_iff.1 oL).1;have hu:us[j]?=some us[j]:=List.getElem?_eq_getElem (by omega);have n0:child w (.slice (some ⟨ec,0,none⟩) n cap) j=some us[j]:=by
       refine pL (e:=e) (z:=z) (n:=n) (us:=us) ⟨l4,.inr ⟨ec,cap,arr,rfl,s',j9,Ay,yb,Dq,Dr⟩⟩ hu
      have BO:child w' (.slice (some ⟨ec,0,none⟩) n cap) j=some us[j]:=by
       refine pL nA ?_;rw [tc (by omega),if_neg (by omega)]; exact hu
      have:=R.pS (w':=w') cW (aj j c _ oL hu) aa λc aa=>o0 c λe=>Nx j e0 (e ▸ aa);simp [walk,n0,BO,this]
  ·cases dF with
   | ref J=>simp [ab.isRef] at J
   | @obj _ ec cf jk bL _ aY ai h1 aj aS iL aO =>
    simp only [addrOf,Option.some.injEq,Addr.mk.injEq,and_true] at au;subst au;rw [j9] at aY;cases aY;have sJ:cs.length=arr.toList.length:=by simp [ai]
    have fT:∀ j c,j<cs.length->bL j c->Fs p.root c:=λj c ag aa=>dy c ((aO c).2 (.inr ⟨j,ag,aa⟩));refine ⟨⟨_,.obj (Fs:=λj=>if k<=j/\j<k+cs'.length then dC (j - k) else bL j) DF (by rw [rC hk,List.size_toArray,rC (by omega),sJ]) (λj u hu=>?_) (λj x u J hu=>?_) (λi j c hi ag aa fp=>?_) (λj ag aa=>?_) (λc=>Iff.rfl),λc aa=>?_⟩,λj cW y ag av=>?_⟩
    ·rw [List.getElem?_toArray,tc (by omega)] at hu
     split at hu
     ·exact hj _ u hu
     ·exact h1 j u (by simpa using hu)
    ·rw [tc hk] at J;rw [List.getElem?_toArray,tc (by omega),<- hlen] at hu;by_cases fU:k<=j/\j<k+cs'.length
     ·rw [if_pos fU] at J hu;simpa [fU] using new (j - k) x u J hu
     ·rw [if_neg fU] at J hu;have e0:j<cs.length:=(List.getElem?_eq_some_iff.1 J).1;rw [if_neg fU];exact (aj j x u J (by simpa using hu)).frame vi (λ_ h=>h) lL λc aa=>o0 c λe=>iL j e0 (e ▸ aa)
    ·rw [rC hk] at hi ag;by_cases h1:k<=i/\i<k+cs'.length <;> by_cases af:k<=j/\j<k+cs'.length <;> simp only [h1,af,if_false] at aa fp
     ·have:=hH.eK (i - k) (j - k) c (by omega) (by omega) (by simpa using aa) (by simpa using fp);omega
     ·exact absurd (fT j c ag fp) (hH.off (i - k) _ c (by omega) (by simpa using aa))
     ·exact absurd (fT i c hi aa) (hH.off (j - k) _ c (by omega) (by simpa using fp))
     ·exact aS i j c hi ag aa fp
    ·rw [rC hk] at ag;by_cases h1:k<=j/\j<k+cs'.length
     ·rw [if_pos h1] at aa;exact hH.off (j - k) p.root ec (by omega) aa (dy ec mr)
     ·rw [if_neg h1] at aa; exact iL j ag aa
    ·rcases aa with aa | ⟨j,ag,aa⟩
     ·exact .inl ((aO c).2 (.inl aa))
     ·rw [rC hk] at ag;by_cases h1:k<=j/\j<k+cs'.length
      ·rw [if_pos h1] at aa; exact .inr ⟨j - k,by omega,aa⟩
      ·rw [if_neg h1] at aa; exact .inl ((aO c).2 (.inr ⟨j,ag,aa⟩))
    ·obtain ⟨c,oL,aa⟩:=ab.u_ av;simp only [ab.kids] at oL;have e0:j<cs.length:=(List.getElem?_eq_some_iff.1 oL).1;have hu:arr[j]?=some arr[j]:=Array.getElem?_eq_getElem (by omega);have n0:child w (.pointer (some ⟨ec,0,none⟩)) j=some arr[j]:=by simp [child,World.cell?,j9,hu]
     have BO:child w' (.pointer (some ⟨ec,0,none⟩)) j=some arr[j]:=by
      have aI:(e8 arr.toList k iR)[j]?=some arr[j]:=by
       rw [tc (by omega),if_neg (by omega)]; simp
      simp [child,World.cell?,DF,aI]
     have:=R.pS (w':=w') cW (aj j c _ oL hu) aa λc aa=>o0 c λe=>iL j e0 (e ▸ aa);simp [walk,n0,BO,this]
 have val:∀ q y,bz g q=some y->(q.root=p.root->∀ j cW,q.path=p.path++j::cW->j<k\/k+cs'.length<=j)->dV w' T q=dV w T q:=by
  intro q y bg gR;by_cases aj:q.root=p.root
  ·have gp:ez.at q.path=some y:=by simpa [bz,aj,il] using bg
   rcases Z1 q.path y gp with ⟨cW,dN⟩ | h
   ·have vE:walk w' v0 q.path=walk w v0 q.path:=by
     rw [dN,DG,DG,Z0,hw];simp only [Option.bind_some];cases cW with
     | nil=>rfl
     | cons j cW =>
      rw [dN,ab.Hg,pk] at gp;exact (O3 (λ_ _=>True) (λ_ _ _=>trivial)).2 j cW y (gR aj j cW dN) gp
    simp [dV,aj,iN,vE]
   ·simp [dV,aj,iN,h]
  ·unfold bz at bg;cases J:g q.root with
   | none=>rw [J] at bg; cases bg
   | some x =>
    rw [J] at bg;obtain ⟨u,hu,a1⟩:=bk.rel _ _ J;cases a1 with
    | tree a1 =>
     have:=R.pS (w':=w') q.path a1 bg λc aa=>o0 c λe=>ET _ aj (e ▸ aa);simp [dV,hu,this]
    | bM a1=>simp [dV,hu,(ab.sA bg).1,walk]
 have slot:∀ {q:Place}{x:ab},q.path=[]->g q.root=some x->dV w' T q=dV w T q:=by
  intro q x bg J;obtain ⟨u,hu,_⟩:=bk.rel _ _ J;simp [dV,bg,walk]
 have refs:∀ r u,Ls r u->dR w' T g2 r u:=by
  rintro r u ⟨h1,af,aI,bD⟩;refine ⟨?_,bD⟩;cases r <;> simp only [fC,gB] at h1 af ⊢
  case ptr q j=>obtain ⟨y,av,_⟩:=af; rw [val q y av (aI q rfl)]; exact h1
  case a6 bA q cB =>
   rcases af with ⟨_,_,af,_⟩ | ⟨aT,_,_,_,_,af,_⟩
   ·rw [val q _ af (aI q rfl)]; exact h1
   ·rw [slot aT af]; exact h1
  case sub bA q lo cB=>obtain ⟨_,_,af,_⟩:=af; rw [val q _ af (aI q rfl)]; exact h1
  case gw q=>obtain ⟨_,af⟩:=af; rw [val q _ af (aI q rfl)]; exact h1
  case bM bA q cB m' c0 =>
   rcases af with ⟨_,af⟩ | ⟨aT,_,_,_,_,_,af,_⟩
   ·rw [val q _ af (aI q rfl)]; exact h1
   ·rw [slot aT af]; exact h1
 obtain ⟨⟨Fn,U2,Ny⟩,_⟩:=O3 (dR w' T g2) refs;obtain ⟨c_,ED,pf⟩:=kg w' I (dR w' T g2) _ Fn ⟨vi,λc aa aE=>o0 c λe=>aE (e ▸ mr),λ_ h=>h,refs⟩ U2 λc aa fp=>by
  rcases Ny c aa with h | ⟨j,ag,h⟩
  ·exact h
  ·exact absurd fp (hH.off j _ c ag h)
 have Ez:∀ c,c_ c->Fs p.root c\/∃ j,j<cs'.length/\dC j c:=by
  intro c aa;rcases (pf c).1 aa with h | h
  ·exact .inl h.1
  ·rcases Ny c h with h | h
   ·exact .inl (dy c h)
   ·exact .inr h
 let b5:Nat->bc:=λt c=>if t=p.root then c_ c else g2 t≠none/\Fs t c
 have pg:∀ t c,b5 t c->Fs t c\/∃ j,j<cs'.length/\dC j c:=by
  intro t c aa;by_cases aw:t=p.root
  ·simp only [b5,if_pos aw] at aa; rw [aw]; exact Ez c aa
  ·simp only [b5,if_neg aw] at aa; exact .inl aa.2
 refine ⟨b5,⟨λt x J=>?_,λt aw c aa=>?_,λt t' c aa fp=>?_,λt c aa hi=>?_,λc aa=>by have:=bk.lt c aa; omega,λt t' z q n m new bA cB m' c0 h1=>absurd h1 (lf _ _ _ _ _ _)⟩,pg⟩
 ·have gg:=zs t x J;by_cases aw:t=p.root
  ·subst aw;have E2:ez.setAt p.path (nd.e8 k cs')=x:=by simpa [ct,il] using gg
   refine ⟨v0,iN,.tree ?_⟩;have Bw:b5 p.root=c_:=by funext c; simp [b5]
   rw [<- E2,Bw]; exact ED
  ·rw [uO aw] at gg;obtain ⟨u,hu,a1⟩:=bk.rel t x gg;replace a1:=a1.gF (by rintro z q n m new rfl; exact lf _ _ _ _ _ _ J);have Bw:b5 t=Fs t:=by
    funext c;exact propext ⟨λh=>by simp only [b5,if_neg aw] at h; exact h.2,λh=>by simp only [b5,if_neg aw]; exact ⟨by rw [J]; simp,h⟩⟩
   refine ⟨u,hu,.tree ?_⟩;rw [Bw];exact (a1.yf (n4 t x J x gg)).frame vi (λ_ h=>h) refs λc aa=>o0 c λe=>ET t aw (e ▸ aa)
 ·by_cases iD:t=p.root
  ·exact kd (iD ▸ aw)
  ·simp only [b5,if_neg iD] at aa; exact aa.1 aw
 ·by_cases h1:t=p.root <;> by_cases af:t'=p.root
  ·rw [h1,af]
  ·simp only [b5,if_pos h1] at aa; simp only [b5,if_neg af] at fp;rcases Ez c aa with h | ⟨j,ag,h⟩
   ·exact absurd (bk.eK _ _ _ h fp.2) (Ne.symm af)
   ·exact absurd fp.2 (hH.off j _ c ag h)
  ·simp only [b5,if_neg h1] at aa; simp only [b5,if_pos af] at fp;rcases Ez c fp with h | ⟨j,ag,h⟩
   ·exact absurd (bk.eK _ _ _ aa.2 h) h1
   ·exact absurd aa.2 (hH.off j _ c ag h)
  ·simp only [b5,if_neg h1] at aa; simp only [b5,if_neg af] at fp;exact bk.eK _ _ _ aa.2 fp.2
 ·rcases pg t c aa with h | ⟨j,ag,h⟩
  ·exact bk.bn _ c h hi
  ·exact hH.bn j c ag h hi
end
end Go.Own
namespace Go.Own
open Go
section
variable {P:Program}{w:World}{I:bc}{T:Array Value}{g:aJ}{Fs:Nat->bc}
theorem View.QC (h:jx w I T g Fs) {x x':ab}(hv:View g x x'):∀ {v:Value}{F:bc},R w I (fC w T) x v F->(∀ c,F c->∃ t,Fs t c)->∀ ρ',R w (λc=>I c\/∃ t,Fs t c) ρ' x' v cv:=by
 induction hv with
 | qv =>
  intro v F a1 aO ρ';have:=a1.sg;subst this;exact .hD λ_ h=>h
 | mp =>
  intro v F a1 aO ρ';cases a1 with
  | ref J=>simp [ab.isRef] at J
  | mp aY ar au=>exact .imp (λ_ h=>h) (.inr (aO _ ((au _).2 rfl))) aY ar
 | gw ar =>
  intro v F a1 aO ρ';cases a1 with
  | ref _ aj _ =>
   obtain ⟨b,au,rfl⟩:=aj;obtain ⟨fM,cw,ik,dF,dy,_⟩:=h.part ar (by simp);rw [au] at ik;cases ik;cases dF with
   | ref J=>simp [ab.isRef] at J
   | mp aY ar au=>exact .imp (λ_ h=>h) (.inr ⟨_,dy _ ((au _).2 rfl)⟩) aY ar
 | self aE h1 af aI bD cF =>
  intro v F a1 aO ρ';refine ((a1.bo aE).oe λc aa=>.inl aa).empty ?_;cases a1 with
  | mp=>exact absurd rfl (cF _)
  | lit _ aO | aN aO | dead aO | ref _ _ aO | hD aO | bn aO | cG aO | cU aO | imp aO=>exact aO
  | own=>exact absurd rfl (h1 _ _ _)
  | obj=>exact absurd rfl (af _)
  | agg=>exact absurd rfl (aI _)
  | bX=>exact absurd rfl (bD _)
 | @agg cs cs' ai _ aU =>
  intro v F a1 aO ρ';cases a1 with
  | ref J=>simp [ab.isRef] at J
  | @agg _ vs bL _ hQ h1 aj aS mm =>
   refine .agg (Fs:=λ_=>cv) (by rw [ai,hQ]) h1 (λk y u av hu=>?_) (λ_ _ _ _ _ h=>h.elim) (λc=>⟨λh=>h.elim,λ⟨_,_,h⟩=>h⟩);have hk:k<cs.length:=by rw [<- ai]; exact (List.getElem?_eq_some_iff.1 av).1
   have J:=List.getElem?_eq_getElem hk;exact aU k _ y J av (aj k _ u J hu) (λc aa=>aO c ((mm c).2 ⟨k,hk,aa⟩)) ρ'
 | @cU fn cs cs' ai _ aU =>
  intro v F a1 aO ρ';cases a1 with
  | ref J=>simp [ab.isRef] at J
  | @cU _ _ _ v1 v2 _ ml h1 af ku iM =>
   refine .cU (λ_ h=>h) h1 (by rw [ai,af]) (λk x u J=>by simp at J) (λk y u av hu=>?_);have hk:k<cs.length:=by rw [<- ai]; exact (List.getElem?_eq_some_iff.1 av).1
   have J:=List.getElem?_eq_getElem hk;exact aU k _ y J av (iM k _ u J hu) (λc aa=>aa.elim) ρ'
 | @own z n cs cs' ai _ aU =>
  intro v F a1 aO ρ';obtain ⟨a,cap,us,bL,rfl,aE,hlen,aR,aa⟩:=a1.zV;cases a with
  | none =>
   have hC:cs=[]:=by
    cases cs with
    | nil=>rfl
    | cons c cs=>obtain ⟨b,au,_⟩:=aa 0 c rfl; cases au
   subst hC;have lH:cs'=[]:=List.eq_nil_of_length_eq_zero (by simpa using ai);subst lH;have kt:n=0:=by
    cases a1 with
    | ref J=>simp [ab.isRef] at J
    | own aY =>
     obtain ⟨_,bY⟩:=aY;rcases bY with ⟨bY,aT⟩ | ⟨b,c2,cur,bY,_⟩
     ·exact aT
     ·cases bY
   subst kt;exact .hD λ_ h=>h
  | some ad =>
   obtain ⟨b,rfl,rZ⟩:=aR ad rfl;refine .bn (us:=us) (λ_ h=>h) aE (.inr (aO b rZ)) rfl (by rw [ai,hlen]) (λk y av=>?_) (λk y av=>?_) λk y av=>?_
   all_goals
    have hk:k<cs.length:=by rw [<- ai]; exact (List.getElem?_eq_some_iff.1 av).1
    have J:=List.getElem?_eq_getElem hk;obtain ⟨ec,l1,h1,af,aI,bD⟩:=aa k _ J;cases l1
   ·exact af
   ·simpa using h1
   ·exact aU k _ y J av aI (λc aa=>aO c (bD c aa)) ρ'
 | @obj cs cs' ai _ aU =>
  intro v F a1 aO ρ';cases a1 with
  | ref J=>simp [ab.isRef] at J
  | @obj _ b e arr bL _ aY hQ h1 aj aS au mm =>
   refine .cG (us:=λk=>arr.getD k undef) (λ_ h=>h) (.inr (aO b ((mm b).2 (.inl rfl)))) rfl (λk y av=>?_) (λk y av=>?_) λk y av=>?_
   all_goals
    have hk:k<cs.length:=by rw [<- ai]; exact (List.getElem?_eq_some_iff.1 av).1
    have J:=List.getElem?_eq_getElem hk;have hu:arr[k]?=some arr[k]:=Array.getElem?_eq_getElem (hQ ▸ hk)
   ·simpa [hu] using h1 k _ hu
   ·simp [World.cell?,aY,hu]
   ·simpa [hu] using aU k _ y J av (aj k _ _ J hu) (λc aa=>aO c ((mm c).2 (.inr ⟨k,hk,aa⟩))) ρ'
 | @a6 z n N p cs cs' ar aE ai _ aU =>
  intro v F a1 aO ρ';obtain ⟨a,iW,cap,h1,rfl,aI⟩:=a1.m_;obtain ⟨qI,qN,gS,hB,nv,_⟩:=h.part ar (by simp);rw [h1] at gS;cases gS;obtain ⟨a2,rP,us,bL,i_,la,hlen,aR,aa⟩:=hB.zV;cases i_;have hle:n * z<=N * z:=Nat.mul_le_mul_right _ aE;have cell:∀ k,k<cs'.length->∃ x b,(cs.take (n * z))[k]?=some x/\a=some ⟨b,0,none⟩/\w.cell? ⟨b,k,none⟩=some (us k)/\(us k).oneCell'=true/\R w I (fC w T) x (us k) (bL k)/\∀ c,bL k c->qN c:=by
   intro k hk;rw [ai,List.length_take] at hk;have J:cs[k]?=some cs[k]:=List.getElem?_eq_getElem (by omega);obtain ⟨b,r⟩:=aa k _ J;exact ⟨_,b,by rw [List.getElem?_take,if_pos (by omega)]; exact J,r⟩
  cases a with
  | none =>
   have lH:cs'=[]:=by
    cases cs' with
    | nil=>rfl
    | cons c l=>obtain ⟨_,b,_,au,_⟩:=cell 0 (by simp); cases au
   subst lH;obtain ⟨_,_,i_,_,_,_,q'⟩:=hB.ng;cases i_;have kt:n=0:=by
    rcases Nat.eq_zero_or_pos n with aT | aT
    ·exact aT
    ·have:=q' (by omega); simp at this
   subst kt;exact .hD λ_ h=>h
  | some ad =>
   obtain ⟨b,rfl,rZ⟩:=aR ad rfl;refine .bn (us:=us) (λ_ h=>h) (by omega) (.inr ⟨_,nv b rZ⟩) rfl (by rw [ai,List.length_take,hlen]; omega) (λk y av=>?_) (λk y av=>?_) λk y av=>?_
   all_goals
    obtain ⟨x,ec,J,l1,bD,cF,dS,mQ⟩:=cell k (List.getElem?_eq_some_iff.1 av).1;cases l1
   ·exact cF
   ·simpa using bD
   ·exact aU k x y J av dS (λc aa=>⟨_,nv c (mQ c aa)⟩) ρ'
 | @sub z lo n N p cs cs' ar aE ai _ aU =>
  intro v F a1 aO ρ';obtain ⟨a,iW,cap,b',mM,h1,rfl,Jb,aI,cF⟩:=a1.xC;obtain ⟨qI,qN,gS,hB,nv,_⟩:=h.part ar (by simp);rw [h1] at gS;cases gS;obtain ⟨a2,rP,us,bL,i_,la,hlen,aR,aa⟩:=hB.zV;cases i_;have hle:lo * z+n * z<=N * z:=by rw [<- Nat.add_mul]; exact Nat.mul_le_mul_right _ aE
  have hQ:cs'.length=n * z:=by rw [ai,List.length_take,List.length_drop,hlen]; omega
  have cell:∀ k,k<cs'.length->∃ x b,((cs.drop (lo * z)).take (n * z))[k]?=some x/\a=some ⟨b,0,none⟩/\w.cell? ⟨b,lo * z+k,none⟩=some (us (lo * z+k))/\(us (lo * z+k)).oneCell'=true/\R w I (fC w T) x (us (lo * z+k)) (bL (lo * z+k))/\∀ c,bL (lo * z+k) c->qN c:=by
   intro k hk;have J:cs[lo * z+k]?=some cs[lo * z+k]:=List.getElem?_eq_getElem (by omega);obtain ⟨b,r⟩:=aa _ _ J;exact ⟨_,b,by rw [List.getElem?_take,if_pos (by omega),List.getElem?_drop]; exact J,r⟩
  by_cases kt:n=0
  ·subst kt;have lH:cs'=[]:=List.eq_nil_of_length_eq_zero (by simpa using hQ);subst lH;exact .hD λ_ h=>h
  ·obtain ⟨ad,rfl,rfl⟩:=cF (by omega);obtain ⟨b,rfl,rZ⟩:=aR ad rfl;refine .bn (us:=λk=>us (lo * z+k)) (λ_ h=>h) Jb (.inr ⟨_,nv b rZ⟩) rfl hQ (λk y av=>?_) (λk y av=>?_) λk y av=>?_
   all_goals
    obtain ⟨x,ec,J,l1,bD,Up,dS,mQ⟩:=cell k (List.getElem?_eq_some_iff.1 av).1;cases l1
   ·exact Up
   ·simpa using bD
   ·exact aU k x y J av dS (λc aa=>⟨_,nv c (mQ c aa)⟩) ρ'
 | @rows z n p cs cs' ar ai _ aU =>
  intro v F a1 aO ρ';obtain ⟨a,iW,cap,h1,rfl,aI⟩:=a1.m_;obtain ⟨v0,e,us,iN,aY,hlen,oF,au,aj⟩:=Rows.sound (w:=w) (I:=I) (T:=T) (Fs:=Fs) (λt z q n m new aw=>h.rel t _ aw) (λp z n cs ar=>by obtain ⟨v,cw,h1,af,aI,_⟩:=h.part ar (by simp); exact ⟨v,cw,h1,af,aI⟩) (λz p n v hv=>by obtain ⟨a,cap,h1,rfl⟩:=hv; exact h1) ar;rw [h1] at iN;cases iN;refine PZ aY hlen oF au ai λk x y u J av hu=>?_;obtain ⟨bL,kQ,fT⟩:=aj k x u J hu;exact aU k x y J av kQ fT ρ'
 | @ptr p k z n y cs cs' ar av hk ai _ aU =>
  intro v F a1 aO ρ';obtain ⟨u,ad,h1,af,rfl⟩:=a1.nI;obtain ⟨qI,qN,gS,hB,nv,_⟩:=h.part ar (by rcases av with rfl | rfl <;> simp);rw [h1] at gS;cases gS;have cell:∀ j,j<cs'.length->∃ gU lS yJ,w.cell? ⟨ad.block,k+j,none⟩=some gU/\gU.oneCell'=true/\(cs.drop k)[j]?=some lS/\R w I (fC w T) lS gU yJ/\(∀ c,yJ c->∃ t,Fs t c):=by
   intro j ag;rw [ai,List.length_drop] at ag;have gg:cs[k+j]?=some cs[k+j]:=List.getElem?_eq_getElem (by omega);obtain ⟨b,gU,fP,l2,n0,hj,_⟩:=hB.node av gg;rw [af] at fP;cases fP;have gp:bz g (p.push (k+j))=some cs[k+j]:=by rw [tB,ar]; rcases av with rfl | rfl <;> simp [ab.kids]
   by_cases gN:∃ bA fQ cB m' c0,cs[k+j]=.bM bA fQ cB m' c0
   ·obtain ⟨bA,fQ,cB,m',c0,gN⟩:=gN;obtain ⟨b,ZT,_,_,BO,_,bL,kQ⟩:=hB.node av gg;rw [gN] at kQ;exact kQ.lk.elim
   ·obtain ⟨oZ,Lx,xq,NI,mm,_⟩:=h.part gp (λbA fQ cB m' c0 e=>gN ⟨_,_,_,_,_,e⟩);rw [yr,h1] at xq;simp only [Option.bind_some] at xq;rw [n0] at xq;cases xq;exact ⟨gU,_,Lx,l2,hj,by rw [List.getElem?_drop]; exact gg,NI,λc aa=>⟨_,mm c aa⟩⟩
  obtain ⟨b,gU,fP,_⟩:=hB.node av (List.getElem?_eq_getElem hk);rw [af] at fP;cases fP;have hblk:∃ t,Fs t b:=⟨_,nv b (hB.FB av af)⟩;refine .cG (us:=λj=>(w.cell? ⟨b,k+j,none⟩).getD undef) (λ_ h=>h) (.inr hblk) rfl (λj jf vI=>?_) (λj jf vI=>?_) λj jf vI=>?_
  all_goals
   obtain ⟨gU,lS,yJ,c1,c2,jM,c4,kM⟩:=cell j (List.getElem?_eq_some_iff.1 vI).1
  ·simpa [c1] using c2
  ·simp [c1]
  ·simpa [c1] using aU j lS jf jM vI c4 kM ρ'
end
end Go.Own
namespace Go.Own
open Go
def qy (g:aJ):List (Place × ab)->aJ
 | []=>g
 | (p,x)::l=>qy (ct g p x) l
structure Rs (g g2:aJ) (all:List ab) (outs:List (Option ab)) (k:Nat) (p:Place) (x:ab):Prop where
 out:outs[k]?=some (some x)
 Ma:bz g2 p=some .dead
 arg:(∃ z n cs,all[k]?=some (.a6 z p n)/\bz g p=some (.own z n cs))\/(∃ cs,all[k]?=some (.ptr p 0)/\bz g p=some (.obj cs))
section
variable {P:Program}{w:World}{I:bc}{T:Array Value}{g:aJ}{Fs:Nat->bc}
theorem Sc (h:cD w I T g Fs) {z n:Nat}{p:Place}{cs:List ab}{v:Value}{F:bc}(a1:R w I (dR w T g) (.a6 z p n) v F) (ar:bz g p=some (.own z n cs)):dV w T p=some v:=by
 obtain ⟨⟨a,iW,cap,h1,rfl,aI⟩,_⟩:=a1.m_;obtain ⟨qI,qN,gS,hB,nv⟩:=h.part ar (by simp);rw [h1] at gS;cases gS;obtain ⟨a2,rP,i_,_⟩:=hB.ng;cases i_;exact h1
theorem Sb (h:cD w I T g Fs) {p:Place}{cs:List ab}{v:Value}{F:bc}(a1:R w I (dR w T g) (.ptr p 0) v F) (ar:bz g p=some (.obj cs)):dV w T p=some v:=by
 obtain ⟨⟨u,ad,h1,af,rfl⟩,_⟩:=a1.nI;obtain ⟨qI,qN,gS,hB,nv⟩:=h.part ar (by simp);rw [h1] at gS;cases gS;cases hB with
 | ref J=>simp [ab.isRef] at J
 | obj=>simp only [addrOf,Option.some.injEq] at af; subst af; exact h1
theorem Y1 {g:aJ}{p q:Place}{y:ab}(bg:bz g q=some .dead) (ar:bz g p=some .dead) (da:p≠q):bz (ct g p y) q=some .dead:=by
 by_cases aj:q.root=p.root
 ·obtain ⟨r,pp⟩:=p;obtain ⟨cW,s_⟩:=q;simp only at aj;subst aj;have EU:pp≠s_:=λe=>da (by rw [e]);simp only [bz,ct,if_true] at *;cases J:g cW with
  | none=>rw [J] at ar; cases ar
  | some x =>
   rw [J] at ar bg;simp only [Option.map_some];have:∀ (pp s_:List Nat) (x:ab),pp≠s_->x.at pp=some .dead->x.at s_=some .dead->(x.setAt pp y).at s_=some .dead:=by
    intro pp
    induction pp with
    | nil =>
     intro s_ x da h1 af;simp only [ab.at,Option.some.injEq] at h1;subst h1;cases s_ with
     | nil=>exact absurd rfl da
     | cons k q=>simp [ab.at,ab.kids] at af
    | cons k pp aU =>
     intro s_ x da h1 af;cases s_ with
     | nil =>
      simp only [ab.at,Option.some.injEq] at af;subst af;simp [ab.at,ab.kids] at h1
     | cons j q =>
      simp only [ab.at] at h1 af;cases hk:x.kids[k]? with
      | none=>rw [hk] at h1; cases h1
      | some c =>
       rw [hk] at h1;simp only at h1;have zA:x.setAt (k::pp) y=x.wk k (c.setAt pp y):=by simp only [ab.setAt,hk]
       rw [zA];have fq:k<x.kids.length:=(List.getElem?_eq_some_iff.1 hk).1;have IZ:(x.wk k (c.setAt pp y)).kids=x.kids.set k (c.setAt pp y):=by
        cases x <;> simp [ab.wk,ab.kids] at fq ⊢
       simp only [ab.at,IZ];by_cases fU:j=k
       ·subst fU;rw [List.getElem?_set_self fq];rw [hk] at af;exact aU q c (λe=>da (by rw [e])) h1 af
       ·rw [List.getElem?_set_ne (Ne.symm fU)];exact af
   exact this pp s_ x EU ar bg
 ·rw [F' aj]; exact bg
theorem jx.qy:∀ (l:List (Place × ab)) (dC:Nat->bc) (vs:Nat->Value) {g:aJ}{Fs:Nat->bc},jx w I T g Fs->(l.map (·.1)).Nodup->(∀ (j:Nat) (p:Place) (x:ab),l[j]?=some (p,x)->bz g p=some .dead/\dV w T p=some (vs j)/\R w I (fC w T) x (vs j) (dC j)) ->
  (∀ (j t c:Nat),j<l.length->dC j c->¬ Fs t c)->(∀ (j c:Nat),j<l.length->dC j c->¬ I c)->(∀ (i j c:Nat),i<l.length->j<l.length->dC i c->dC j c->i=j) ->
  ∃ b5,jx w I T (qy g l) b5/\∀ t c,b5 t c->Fs t c\/∃ j,j<l.length/\dC j c
 | [],_,_,g,Fs,bk,_,_,_,_,_=>⟨Fs,bk,λ_ _ h=>.inl h⟩
 | (p,x)::l,dC,vs,g,Fs,bk,fr,ai,q9,N_,mU=>by
  obtain ⟨h1,af,aI⟩:=ai 0 p x rfl;obtain ⟨v,cw,hv,dF,dy,put⟩:=bk.part h1 (by simp);rw [af] at hv;cases hv;obtain ⟨fY,iZ,zk,Bv⟩:=put x (dC 0) aI (λc aa aW=>absurd aW (q9 0 _ c (by simp) aa)) (λc aa=>N_ 0 c (by simp) aa) (λt c _ aa=>q9 0 t c (by simp) aa);have gE:∀ t c,fY t c->Fs t c\/dC 0 c:=by
   intro t c aa;by_cases aw:t=p.root
   ·subst aw;rcases (zk c).1 aa with ⟨h,_⟩ | h
    ·exact .inl h
    ·exact .inr h
   ·rw [Bv t aw] at aa; exact .inl aa
  simp only [List.map_cons,List.nodup_cons] at fr;obtain ⟨iV,h4,EA⟩:=jx.qy l (λj=>dC (j+1)) (λj=>vs (j+1)) iZ fr.2 (λj q y ag=>by
    obtain ⟨aF,a2,a3⟩:=ai (j+1) q y (by simpa using ag);refine ⟨Y1 aF h1 ?_,a2,a3⟩;rintro rfl;exact fr.1 (List.mem_map.2 ⟨(p,y),List.mem_of_getElem? ag,rfl⟩))
   (λj t c ag aa aW=>by
    rcases gE t c aW with h | h
    ·exact q9 (j+1) t c (by simpa using ag) aa h
    ·have:=mU (j+1) 0 c (by simpa using ag) (by simp) aa h; omega)
   (λj c ag aa=>N_ (j+1) c (by simpa using ag) aa)
   (λi j c hi ag h1 af=>by have:=mU (i+1) (j+1) c (by simpa using hi) (by simpa using ag) h1 af; omega)
  refine ⟨iV,h4,λt c aa=>?_⟩;rcases EA t c aa with h | ⟨j,ag,h⟩
  ·rcases gE t c h with h | h
   ·exact .inl h
   ·exact .inr ⟨0,by simp,h⟩
  ·exact .inr ⟨j+1,by simpa using ag,h⟩
end
end Go.Own
namespace Go.Own
open Go
inductive hZ:ab->ab->Prop
 | refl {x:ab}:hZ x x
 | CH {z:Nat}:hZ .aN (.own z 0 [])
 | pC {x y:ab}(aE:cS x) (h:View (λ_=>none) x y):hZ x y
 | own {z n:Nat}{cs cs':List ab}(ai:cs'.length=cs.length) (h:∀ (k:Nat) (x y:ab),cs[k]?=some x->cs'[k]?=some y->hZ x y):hZ (.own z n cs) (.own z n cs')
 | obj {cs cs':List ab}(ai:cs'.length=cs.length) (h:∀ (k:Nat) (x y:ab),cs[k]?=some x->cs'[k]?=some y->hZ x y):hZ (.obj cs) (.obj cs')
 | agg {cs cs':List ab}(ai:cs'.length=cs.length) (h:∀ (k:Nat) (x y:ab),cs[k]?=some x->cs'[k]?=some y->hZ x y):hZ (.agg cs) (.agg cs')
theorem View.up {g g':aJ}(h:∀ t x,g t=some x->g' t=some x) {x y:ab}(hv:View g x y):View g' x y:=by
 induction hv with
 | qv=>exact .qv
 | self h1 af aI bD cF dS=>exact .self h1 af aI bD cF dS
 | mp=>exact .mp
 | gw ar=>exact .gw (kK h ar)
 | agg ai _ aU=>exact .agg ai aU
 | own ai _ aU=>exact .own ai aU
 | obj ai _ aU=>exact .obj ai aU
 | cU ai _ aU=>exact .cU ai aU
 | a6 ar aE ai _ aU=>exact .a6 (kK h ar) aE ai aU
 | sub ar aE ai _ aU=>exact .sub (kK h ar) aE ai aU
 | ptr ar av hk ai _ aU=>exact .ptr (kK h ar) av hk ai aU
 | rows ar ai _ aU=>exact .rows (ar.mono (λar=>kK h ar) h) ai aU
theorem xU {cs cs':List ab}(ai:cs'.length=cs.length) (aE:∀ x∈cs,cS x) (aU:∀ (k:Nat) (x y:ab),cs[k]?=some x->cs'[k]?=some y->cS x->cS y):∀ y∈cs',cS y:=by
 intro y av;obtain ⟨k,hk⟩:=List.getElem?_of_mem av;have fq:=(List.getElem?_eq_some_iff.1 hk).1;have J:=List.getElem?_eq_getElem (ai ▸ fq:k<cs.length)
 grind
section
variable {w:World}{I:bc}
theorem R.pC {ρ:ab->Value->Prop}{x y:ab}{v:Value}{F:bc}(a1:R w I ρ x v F) (aE:cS x) (h:View (λ_=>none) x y) (bb:∀ c,F c->¬ I c) (aQ:∀ c,I c->c<w.heap.size):R w (λc=>I c\/F c) ρ y v cv:=by
 have bk:jx w I #[v] (λt=>if t=0 then some x else none) (λt c=>t=0/\F c):=by
  refine ⟨λt z aX=>?_,λt aw c aa=>?_,λt t' c aa fp=>aa.1.trans fp.1.symm,λt c aa=>bb c aa.2,aQ⟩
  ·by_cases aT:t=0
   ·subst aT;rw [if_pos rfl] at aX;cases aX;exact ⟨v,rfl,.tree ((a1.bo aE).zc λc=>⟨λh=>⟨rfl,h⟩,λh=>h.2⟩)⟩
   grind
  grind
 have:=View.QC bk (h.up λ_ _ h=>by cases h) (a1.bo aE) (λc aa=>⟨0,rfl,aa⟩) ρ
 grind
theorem hZ.bo {x y:ab}(h:hZ x y):cS x->cS y:=by
 induction h with
 | refl=>exact id
 | CH=>exact λ_=>.own (by simp)
 | pC aE h =>
  intro _;have key:∀ {x y:ab},View (λ_=>none) x y->cS x->cS y:=by
   intro x y h
   induction h with
   | qv=>exact λ_=>.bn (by simp)
   | self h=>exact λ_=>h
   | mp=>exact λ_=>.imp
   | gw ar=>simp [bz] at ar
   | agg ai _ aU=>intro aE; cases aE with | agg aE=>exact .agg (xU ai aE aU)
   | own ai _ aU=>intro aE; cases aE with | own aE=>exact .bn (xU ai aE aU)
   | obj ai _ aU=>intro aE; cases aE with | obj aE=>exact .cG (xU ai aE aU)
   | cU ai _ aU=>intro aE; cases aE with | cU h1 af=>exact .cU h1 (xU ai af aU)
   | a6 ar=>simp [bz] at ar
   | sub ar=>simp [bz] at ar
   | ptr ar=>simp [bz] at ar
   | rows ar =>
    cases ar with
    | own ar=>simp [bz] at ar
    | bM aw=>cases aw
  grind
 | own ai _ aU=>intro aE; cases aE with | own aE=>exact .own (xU ai aE aU)
 | obj ai _ aU=>intro aE; cases aE with | obj aE=>exact .obj (xU ai aE aU)
 | agg ai _ aU=>intro aE; cases aE with | agg aE=>exact .agg (xU ai aE aU)
theorem HU {ρ:ab->Value->Prop}{cs cs':List ab}{get:Nat->Option Value}{Fs:Nat->bc}{F B:bc}(ai:cs'.length=cs.length)
  (aP:∀ k,k<cs.length->∃ u,get k=some u)
  (aS:∀ (j k c:Nat),j<cs.length->k<cs.length->Fs j c->Fs k c->j=k) (au:∀ k c,k<cs.length->Fs k c->¬ B c) (aO:∀ c,F c↔B c\/∃ k,k<cs.length/\Fs k c)
  (aU:∀ (k:Nat) (x y:ab),cs[k]?=some x->cs'[k]?=some y->∀ u,get k=some u->∃ c_,(∀ c,c_ c->Fs k c)/\R w (λc=>I c\/(Fs k c/\¬ c_ c)) ρ y u c_) :
  ∃ qO:Nat->bc,(∀ k c,k<cs'.length->qO k c->Fs k c)/\(∀ (k:Nat) (y:ab) (u:Value),cs'[k]?=some y->get k=some u->R w (λc=>I c\/(F c/\¬ (B c\/∃ j,j<cs'.length/\qO j c))) ρ y u (qO k)):=by
 have:∀ k,∃ G:bc,k<cs.length->(∀ c,G c->Fs k c)/\∀ (y:ab) (u:Value),cs'[k]?=some y->get k=some u->R w (λc=>I c\/(Fs k c/\¬ G c)) ρ y u G:=by
  intro k;by_cases hk:k<cs.length
  ·have J:=List.getElem?_eq_getElem hk;have av:=List.getElem?_eq_getElem (ai ▸ hk:k<cs'.length);obtain ⟨u,hu⟩:=aP k hk
   simp_all
  ·exact ⟨cv,λh=>absurd h hk⟩
 obtain ⟨qO,NA⟩:=Classical.axiomOfChoice this;refine ⟨qO,λk c hk=>(NA k (ai ▸ hk)).1 c,λk y u av hu=>?_⟩;have hk:k<cs'.length:=(List.getElem?_eq_some_iff.1 av).1;have h6:k<cs.length:=ai ▸ hk;refine ((NA k h6).2 y u av hu).oe λc aa=>?_
 grind
theorem R.dL {ρ:ab->Value->Prop}{x y:ab}(h:hZ x y):∀ {v:Value}{F:bc},R w I ρ x v F->cS x->(∀ c,F c->¬ I c)->(∀ c,I c->c<w.heap.size)->∃ c_,(∀ c,c_ c->F c)/\R w (λc=>I c\/(F c/\¬ c_ c)) ρ y v c_:=by
 induction h with
 | refl=>exact λa1 _ _ _=>⟨_,λ_ h=>h,a1.oe λ_ h=>.inl h⟩
 | CH =>
  intro v F a1 _ _ _;have:=a1.sg;subst this;refine ⟨cv,λ_ h=>h.elim,.own (e:=0) (us:=[]) (Fs:=λ_=>cv) ⟨by simp,.inl ⟨rfl,rfl⟩⟩ rfl (by simp) (by simp) (λ_ _ _ _ _ h=>h.elim) (λ_ _ _ h=>h.elim) λc=>⟨λh=>h.elim,λh=>?_⟩⟩;rcases h with h | ⟨_,_,h⟩
  ·cases h
  ·exact h
 | pC aE h=>exact λa1 _ bb aQ=>⟨cv,λ_ h=>h.elim,(a1.pC aE h bb aQ).oe λc aa=>aa.elim .inl λh=>.inr ⟨h,λh=>h⟩⟩
 | @own z n cs cs' ai _ aU =>
  intro v F a1 aE bb aQ;cases a1 with
  | ref J=>simp [ab.isRef] at J
  | @own _ _ _ _ e us Fs _ aY hQ h1 aj aS au aO =>
   cases aE with
   | own aE =>
    obtain ⟨qO,qd,By⟩:=HU (get:=λk=>us[k]?) (B:=λc=>v.ownBlock=some c) ai (λk hk=>⟨_,List.getElem?_eq_getElem (hQ ▸ hk)⟩) aS (λk c hk aa e=>au k c hk aa e) aO (λk x y J av u hu=>aU k x y J av (aj k x u J hu) (aE x (List.mem_of_getElem? J)) (λc aa=>bb c ((aO c).2 (.inr ⟨k,(List.getElem?_eq_some_iff.1 J).1,aa⟩))) aQ);exact ⟨_,λc aa=>(aO c).2 (aa.imp id λ⟨k,hk,h⟩=>⟨k,ai ▸ hk,qd k c hk h⟩),
     .own aY (by rw [ai,hQ]) h1 (λk y u av hu=>By k y u av hu) (λj k c ag hk af aI=>aS j k c (ai ▸ ag) (ai ▸ hk) (qd j c ag af) (qd k c hk aI)) (λk c hk aa=>au k c (ai ▸ hk) (qd k c hk aa)) (λc=>Iff.rfl)⟩
 | @obj cs cs' ai _ aU =>
  intro v F a1 aE bb aQ;cases a1 with
  | ref J=>simp [ab.isRef] at J
  | @obj _ b e arr Fs _ aY hQ h1 aj aS au aO =>
   cases aE with
   | obj aE =>
    obtain ⟨qO,qd,By⟩:=HU (get:=λk=>arr[k]?) (B:=λc=>c=b) ai (λk hk=>⟨_,Array.getElem?_eq_getElem (hQ ▸ hk)⟩) aS (λk c hk aa e=>au k hk (e ▸ aa)) aO (λk x y J av u hu=>aU k x y J av (aj k x u J hu) (aE x (List.mem_of_getElem? J)) (λc aa=>bb c ((aO c).2 (.inr ⟨k,(List.getElem?_eq_some_iff.1 J).1,aa⟩))) aQ);exact ⟨_,λc aa=>(aO c).2 (aa.imp id λ⟨k,hk,h⟩=>⟨k,ai ▸ hk,qd k c hk h⟩),
     .obj aY (by rw [ai,hQ]) h1 (λk y u av hu=>By k y u av hu) (λj k c ag hk af aI=>aS j k c (ai ▸ ag) (ai ▸ hk) (qd j c ag af) (qd k c hk aI)) (λk hk aa=>au k (ai ▸ hk) (qd k b hk aa)) (λc=>Iff.rfl)⟩
 | @agg cs cs' ai _ aU =>
  intro v F a1 aE bb aQ;cases a1 with
  | ref J=>simp [ab.isRef] at J
  | @agg _ vs Fs _ hQ h1 aj aS aO =>
   cases aE with
   | agg aE =>
    obtain ⟨qO,qd,By⟩:=HU (get:=λk=>vs[k]?) (B:=λ_=>False) ai (λk hk=>⟨_,Array.getElem?_eq_getElem (hQ ▸ hk)⟩) aS (λk c hk aa e=>e) (λc=>(aO c).trans ⟨.inr,λh=>h.elim (λh=>h.elim) id⟩) (λk x y J av u hu=>aU k x y J av (aj k x u J hu) (aE x (List.mem_of_getElem? J)) (λc aa=>bb c ((aO c).2 ⟨k,(List.getElem?_eq_some_iff.1 J).1,aa⟩)) aQ);refine ⟨λc=>∃ k,k<cs'.length/\qO k c,λc ⟨k,hk,h⟩=>(aO c).2 ⟨k,ai ▸ hk,qd k c hk h⟩,
     .agg (Fs:=qO) (by rw [ai,hQ]) h1 (λk y u av hu=>(By k y u av hu).oe λc aa=>aa.imp id λ⟨h1,af⟩=>⟨h1,λh=>af (.inr h)⟩) (λj k c ag hk af aI=>aS j k c (ai ▸ ag) (ai ▸ hk) (qd j c ag af) (qd k c hk aI)) (λc=>Iff.rfl)⟩
end
end Go.Own
