/-
  Parts of the proof that the last text states. No condition of their own.
-/
import Derived.Orders
import Derived.WalkKit
namespace Go.Own
open Go
structure Place where
 root:Nat
 path:List Nat
 deriving DecidableEq,Repr
def Place.push (p:Place) (k:Nat):Place:=⟨p.root,p.path++[k]⟩
inductive ab where
 | lit (v:Value)
 | aL
 | bk (z n:Nat) (cs:List ab)
 | own (z n:Nat) (cs:List ab)
 | obj (cs:List ab)
 | agg (cs:List ab)
 | bV (cs:List ab)
 | cJ (cs:List ab)
 | ptr (p:Place) (k:Nat)
 | a6 (z:Nat) (p:Place) (n:Nat)
 | sub (z:Nat) (p:Place) (lo n:Nat)
 | bL (z:Nat) (p:Place) (n m:Nat) (new:List ab)
 | cX (fn:Fn) (first caps:List ab)
 | mp (p:Array MapEntry->Nat->Prop)
 | gz (p:Place)
 | imp (p:Array MapEntry->Nat->Prop)
 | dead
 deriving Inhabited
abbrev bb:=Nat->Prop
def ab.isRef:ab->Bool
 | .ptr .. | .a6 .. | .sub .. | .gz ..=>true
 | _=>false
inductive R (w:World) (I:bb) (ρ:ab->Value->Prop):ab->Value->bb->Prop
 | lit {v:Value}{F:bb}(hv:v.oneCell'=true) (aN:∀ c,¬ F c):R w I ρ (.lit v) v F
 | aL {F:bb}(aN:∀ c,¬ F c):R w I ρ .aL (.slice none 0 0) F
 | dead {v:Value}{F:bb}(aN:∀ c,¬ F c):R w I ρ .dead v F
 | ref {x:ab}{v:Value}{F:bb}(J:x.isRef=true) (h:ρ x v) (aN:∀ c,¬ F c):R w I ρ x v F
 | hK {z cap:Nat}{a:Option Addr}{F:bb}(aN:∀ c,¬ F c):R w I ρ (.bk z 0 []) (.slice a 0 cap) F
 | bk {z n cap:Nat}{cs:List ab}{ad:Addr}{us:Nat->Value}{F:bb}(aN:∀ c,¬ F c) (lh:n<=cap) (bf:I ad.block) (aB:ad.spot=none) (aj:cs.length=n * z) (h1:∀ (k:Nat) (x:ab),cs[k]?=some x->(us k).oneCell'=true)
   (aa:∀ (k:Nat) (x:ab),cs[k]?=some x->w.cell? ⟨ad.block,ad.off+k,none⟩=some (us k)) (ao:∀ (k:Nat) (x:ab),cs[k]?=some x->R w I ρ x (us k) (λ_=>False)) :
   R w I ρ (.bk z n cs) (.slice (some ad) n cap) F
 | cJ {cs:List ab}{ad:Addr}{us:Nat->Value}{F:bb}(aN:∀ c,¬ F c) (bf:I ad.block) (aB:ad.spot=none) (h1:∀ (k:Nat) (x:ab),cs[k]?=some x->(us k).oneCell'=true)
   (aa:∀ (k:Nat) (x:ab),cs[k]?=some x->w.cell? ⟨ad.block,ad.off+k,none⟩=some (us k)) (ao:∀ (k:Nat) (x:ab),cs[k]?=some x->R w I ρ x (us k) (λ_=>False)) :
   R w I ρ (.cJ cs) (.pointer (some ad)) F
 | own {z n:Nat}{cs:List ab}{v:Value}{e:TypeId}{us:List Value}{Fs:Nat->bb}{F:bb}
   (a1:w.ownsRow 0 e z v n us) (aj:cs.length=us.length) (h1:∀ (k:Nat) (u:Value),us[k]?=some u->u.oneCell'=true)
   (ao:∀ (k:Nat) (x:ab) (u:Value),cs[k]?=some x->us[k]?=some u->R w I ρ x u (Fs k))
   (aS:∀ (j k c:Nat),j<cs.length->k<cs.length->Fs j c->Fs k c->j=k) (av:∀ (k c:Nat),k<cs.length->Fs k c->v.ownBlock≠some c)
   (aN:∀ c,F c↔v.ownBlock=some c\/∃ k,k<cs.length/\Fs k c):R w I ρ (.own z n cs) v F
 | obj {cs:List ab}{b:Nat}{e:TypeId}{arr:Array Value}{Fs:Nat->bb}{F:bb}
   (a1:w.heap[b]?=some (.cells arr e (0,0))) (aj:cs.length=arr.size) (h1:∀ (k:Nat) (u:Value),arr[k]?=some u->u.oneCell'=true)
   (ao:∀ (k:Nat) (x:ab) (u:Value),cs[k]?=some x->arr[k]?=some u->R w I ρ x u (Fs k))
   (aS:∀ (j k c:Nat),j<cs.length->k<cs.length->Fs j c->Fs k c->j=k) (av:∀ (k:Nat),k<cs.length->¬ Fs k b)
   (aN:∀ c,F c↔c=b\/∃ k,k<cs.length/\Fs k c):R w I ρ (.obj cs) (.pointer (some ⟨b,0,none⟩)) F
 | agg {cs:List ab}{vs:Array Value}{Fs:Nat->bb}{F:bb}(aj:cs.length=vs.size) (h1:∀ (k:Nat) (u:Value),vs[k]?=some u->u.oneCell'=true)
   (ao:∀ (k:Nat) (x:ab) (u:Value),cs[k]?=some x->vs[k]?=some u->R w I ρ x u (Fs k))
   (aS:∀ (j k c:Nat),j<cs.length->k<cs.length->Fs j c->Fs k c->j=k)
   (aN:∀ c,F c↔∃ k,k<cs.length/\Fs k c):R w I ρ (.agg cs) (.agg vs) F
 | bV {cs:List ab}{vs:Array Value}{Fs:Nat->bb}{F:bb}(aj:cs.length=vs.size)
   (ao:∀ (k:Nat) (x:ab) (u:Value),cs[k]?=some x->vs[k]?=some u->R w I ρ x u (Fs k))
   (aS:∀ (j k c:Nat),j<cs.length->k<cs.length->Fs j c->Fs k c->j=k)
   (aN:∀ c,F c↔∃ k,k<cs.length/\Fs k c):R w I ρ (.bV cs) (.tuple vs) F
 | cX {fn:Fn}{first caps:List ab}{v1 v2:Array Value}{F:bb}(aN:∀ c,¬ F c) (h1:first.length=v1.size) (af:caps.length=v2.size)
   (kB:∀ (k:Nat) (x:ab) (u:Value),first[k]?=some x->v1[k]?=some u->R w I ρ x u (λ_=>False))
   (iO:∀ (k:Nat) (x:ab) (u:Value),caps[k]?=some x->v2[k]?=some u->R w I ρ x u (λ_=>False)):R w I ρ (.cX fn first caps) (.func fn v1 v2) F
 | mp {p:Array MapEntry->Nat->Prop}{b:Nat}{es:Array MapEntry}{clock:Nat}{F:bb}(a1:w.heap[b]?=some (.map es clock)) (au:p es clock) (aN:∀ c,F c↔c=b):R w I ρ (.mp p) (.map (some b)) F
 | imp {p:Array MapEntry->Nat->Prop}{b:Nat}{es:Array MapEntry}{clock:Nat}{F:bb}(aN:∀ c,¬ F c) (bf:I b) (a1:w.heap[b]?=some (.map es clock)) (au:p es clock):R w I ρ (.imp p) (.map (some b)) F
theorem R.ze {w:World}{I:bb}{ρ:ab->Value->Prop}{x:ab}{v:Value}{F c8:bb}(h:R w I ρ x v F) (aN:∀ c,F c↔c8 c):R w I ρ x v c8:=by
 have:F=c8:=funext λc=>propext (aN c)
 grind
theorem R.lt {w:World}{I:bb}{ρ:ab->Value->Prop}{x:ab}{v:Value}{F:bb}(h:R w I ρ x v F):∀ c,F c->c<w.heap.size:=by
 induction h with
 | lit _ aN | aL aN | dead aN | ref _ _ aN | hK aN | bk aN | cJ aN | cX aN | imp aN=>exact λc aa=>absurd aa (aN c)
 | mp a1 _ aN=>exact λc aa=>by rw [(aN c).1 aa]; exact (Array.getElem?_eq_some_iff.1 a1).1
 | own a1 aj h1 ao aS av aN aU =>
  intro c aa;rcases (aN c).1 aa with h | ⟨k,hk,h⟩
  ·exact (a1.lt c h).2
  ·exact aU k _ _ (List.getElem?_eq_getElem hk) (List.getElem?_eq_getElem (aj ▸ hk)) c h
 | obj a1 aj h1 ao aS av aN aU =>
  intro c aa;rcases (aN c).1 aa with rfl | ⟨k,hk,h⟩
  ·grind
  ·exact aU k _ _ (List.getElem?_eq_getElem hk) (Array.getElem?_eq_getElem (aj ▸ hk)) c h
 | agg aj h1 ao aS aN aU =>
  intro c aa;obtain ⟨k,hk,h⟩:=(aN c).1 aa;exact aU k _ _ (List.getElem?_eq_getElem hk) (Array.getElem?_eq_getElem (aj ▸ hk)) c h
 | bV aj ao aS aN aU =>
  intro c aa;obtain ⟨k,hk,h⟩:=(aN c).1 aa;exact aU k _ _ (List.getElem?_eq_getElem hk) (Array.getElem?_eq_getElem (aj ▸ hk)) c h
theorem vO {w w':World}{e:TypeId}{z n:Nat}{v:Value}{us:List Value}(h:w.ownsRow 0 e z v n us) (av:∀ c,v.ownBlock=some c->w'.heap[c]?=w.heap[c]?):w'.ownsRow 0 e z v n us:=by
 obtain ⟨h1,af⟩:=h;refine ⟨h1,?_⟩;rcases af with af | ⟨g,cap,cur,rfl,aO,bY,rest⟩
 ·grind
 ·exact .inr ⟨g,cap,cur,rfl,aO,by rw [av g rfl]; exact bY,rest⟩
theorem R.frame {w w':World}{I I':bb}{ρ ρ':ab->Value->Prop}{x:ab}{v:Value}{F:bb}(h:R w I ρ x v F)
  (bf:∀ c,I c->w'.heap[c]?=w.heap[c]?) (px:∀ c,I c->I' c) (lQ:∀ x v,ρ x v->ρ' x v) :
  (∀ c,F c->w'.heap[c]?=w.heap[c]?)->R w' I' ρ' x v F:=by
 induction h with
 | lit hv aN=>exact λ_=>.lit hv aN
 | aL aN=>exact λ_=>.aL aN
 | dead aN=>exact λ_=>.dead aN
 | ref J h aN=>exact λ_=>.ref J (lQ _ _ h) aN
 | hK aN=>exact λ_=>.hK aN
 | bk aN lh hi aB aj h1 aa ao aU =>
  exact λ_=>.bk aN lh (px _ hi) aB aj h1 (λk x hk=>(World.cell?_of_block (a:=⟨_,_,none⟩) (bf _ hi)).trans (aa k x hk)) λk x hk=>aU k x hk (λc aa=>aa.elim)
 | cJ aN hi aB h1 aa ao aU =>
  exact λ_=>.cJ aN (px _ hi) aB h1 (λk x hk=>(World.cell?_of_block (a:=⟨_,_,none⟩) (bf _ hi)).trans (aa k x hk)) λk x hk=>aU k x hk (λc aa=>aa.elim)
 | own a1 aj h1 ao aS av aN aU =>
  intro aW;refine .own (vO a1 λc aa=>aW c ((aN c).2 (.inl aa))) aj h1 (λk x u J hu=>aU k x u J hu λc aa=>aW c ((aN c).2 (.inr ⟨k,?_,aa⟩))) aS av aN
  grind
 | obj a1 aj h1 ao aS av aN aU =>
  intro aW;refine .obj ((aW _ ((aN _).2 (.inl rfl))).trans a1) aj h1 (λk x u J hu=>aU k x u J hu λc aa=>aW c ((aN c).2 (.inr ⟨k,?_,aa⟩))) aS av aN
  grind
 | agg aj h1 ao aS aN aU =>
  intro aW;refine .agg aj h1 (λk x u J hu=>aU k x u J hu λc aa=>aW c ((aN c).2 ⟨k,?_,aa⟩)) aS aN
  grind
 | bV aj ao aS aN aU =>
  intro aW;refine .bV aj (λk x u J hu=>aU k x u J hu λc aa=>aW c ((aN c).2 ⟨k,?_,aa⟩)) aS aN
  grind
 | imp aN hi a1 au=>exact λ_=>.imp aN (px _ hi) ((bf _ hi).trans a1) au
 | mp a1 au aN=>exact λaW=>.mp ((aW _ ((aN _).2 rfl)).trans a1) au aN
 | cX aN h1 af kB iO gy gk=>exact λ_=>.cX aN h1 af (λk x u J hu=>gy k x u J hu λc aa=>aa.elim) (λk x u J hu=>gk k x u J hu λc aa=>aa.elim)
def ab.kids:ab->List ab
 | .own _ _ cs=>cs
 | .obj cs=>cs
 | .agg cs=>cs
 | .bV cs=>cs
 | _=>[]
def ab.wg (x:ab) (k:Nat) (y:ab):ab :=
 match x with
 | .own z n cs=>.own z n (cs.set k y)
 | .obj cs=>.obj (cs.set k y)
 | .agg cs=>.agg (cs.set k y)
 | .bV cs=>.bV (cs.set k y)
 | x=>x
def ab.at:ab->List Nat->Option ab
 | x,[]=>some x
 | x,k::p =>
  match x.kids[k]? with
  | some c=>c.at p
  | none=>none
def ab.setAt:ab->List Nat->ab->ab
 | _,[],y=>y
 | x,k::p,y =>
  match x.kids[k]? with
  | some c=>x.wg k (c.setAt p y)
  | none=>x
def child (w:World) (v:Value) (k:Nat):Option Value :=
 match v with
 | .agg cs=>cs[k]?
 | .tuple cs=>cs[k]?
 | .slice (some a) _ _=>w.cell? ⟨a.block,a.off+k,none⟩
 | .pointer (some a)=>w.cell? ⟨a.block,a.off+k,none⟩
 | _=>none
def walk (w:World):Value->List Nat->Option Value
 | v,[]=>some v
 | v,k::p =>
  match child w v k with
  | some u=>walk w u p
  | none=>none
theorem pS {w:World}{e:TypeId}{z n:Nat}{v:Value}{us:List Value}(h:w.ownsRow 0 e z v n us) {k:Nat}{u:Value}(hu:us[k]?=some u):child w v k=some u:=by
 obtain ⟨h1,af⟩:=h;rcases af with ⟨rfl,rfl⟩ | ⟨g,cap,cur,rfl,aO,bY,aF,aa,aB,aw⟩
 ·grind
 ·rw [<- aw] at hu;rw [List.getElem?_take] at hu
  split at hu
  ·simpa [child,World.cell?,bY] using hu
  grind
theorem YY {α:Type}{l:List α}{k j:Nat}{y x:α}(h:(l.set k y)[j]?=some x):(j=k/\x=y/\k<l.length)\/(j≠k/\l[j]?=some x):=by
 grind
structure Out (w w':World) (I I':bb) (ρ ρ':ab->Value->Prop) (F cz:bb):Prop where
 bk:∀ c,I c->w'.heap[c]?=w.heap[c]?
 rest:∀ c,F c->¬ cz c->w'.heap[c]?=w.heap[c]?
 more:∀ c,I c->I' c
 ref:∀ x v,ρ x v->ρ' x v
theorem Out.mono {w w':World}{I I':bb}{ρ ρ':ab->Value->Prop}{F cz c8 jm:bb}(h:Out w w' I I' ρ ρ' F cz) (h1:∀ c,c8 c->F c) (af:∀ c,c8 c->¬ jm c->¬ cz c):Out w w' I I' ρ ρ' c8 jm :=
 ⟨h.bk,λc aa aF=>h.rest c (h1 c aa) (af c aa aF),h.more,h.ref⟩
theorem R.outside {w w':World}{I I':bb}{ρ ρ':ab->Value->Prop}{F cz:bb}(o:Out w w' I I' ρ ρ' F cz) {x:ab}{v:Value}{G:bb}(h:R w I ρ x v G) (c9:∀ c,G c->F c/\¬ cz c):R w' I' ρ' x v G :=
 h.frame o.bk o.more o.ref λc aa=>o.rest c (c9 c aa).1 (c9 c aa).2
theorem Fa {w w':World}{I I':bb}{ρ ρ':ab->Value->Prop}{cs:List ab}{get:Nat->Option Value}{Fs:Nat->bb}{F cz:bb}
  (ao:∀ (k:Nat) (x:ab) (u:Value),cs[k]?=some x->get k=some u->R w I ρ x u (Fs k))
  (aS:∀ (j k c:Nat),j<cs.length->k<cs.length->Fs j c->Fs k c->j=k)
  (aN:∀ k c,k<cs.length->Fs k c->F c) {k:Nat}(hk:k<cs.length) (ax:∀ c,cz c->Fs k c) (o:Out w w' I I' ρ ρ' F cz)
  {y:ab}{u:Value}{bM:bb}(hu:get k=some u) (aY:R w' I' ρ' y u bM) (fV:∀ c,bM c↔(Fs k c/\¬ cz c)\/(bM c/\¬ (F c/\¬ cz c))) :
  (∀ (j:Nat) (x:ab) (u:Value),(cs.set k y)[j]?=some x->get j=some u->R w' I' ρ' x u (if j=k then bM else Fs j)) /\
  (∀ (i j c:Nat),i<(cs.set k y).length->j<(cs.set k y).length->(if i=k then bM else Fs i) c->(if j=k then bM else Fs j) c->i=j):=by
 constructor
 ·intro j x wi J jR;rcases YY J with ⟨rfl,rfl,aT⟩ | ⟨dq,J⟩
  ·grind
  ·rw [if_neg dq];have ah:j<cs.length:=(List.getElem?_eq_some_iff.1 J).1;exact (ao j x wi J jR).outside o λc aa=>⟨aN j c ah aa,λeM=>dq (aS j k c ah hk aa (ax c eM))⟩
 grind
theorem Fb {m:Nat}{Fs:Nat->bb}{bM cz jm:bb}{k:Nat}(hk:k<m)
  (aS:∀ (j k c:Nat),j<m->k<m->Fs j c->Fs k c->j=k) (ax:∀ c,cz c->Fs k c) (fV:∀ c,bM c↔(Fs k c/\¬ cz c)\/jm c) (c:Nat) :
  (∃ j,j<m/\(if j=k then bM else Fs j) c)↔((∃ j,j<m/\Fs j c)/\¬ cz c)\/jm c:=by
 grind
theorem R.pZ {w w':World}{I:bb}{ρ:ab->Value->Prop}:∀ (r:List Nat) {x:ab}{v:Value}{F:bb}{y:ab},R w I ρ x v F->x.at r=some y ->
  (∀ c,F c->w'.heap[c]?=w.heap[c]?)->walk w' v r=walk w v r
 | [],_,_,_,_,_,_,_=>rfl
 | k::p,x,v,F,y,h,gu,aW=>by
  simp only [ab.at] at gu;cases hx:x.kids[k]? with
  | none=>rw [hx] at gu; cases gu
  | some sA =>
   rw [hx] at gu;simp only at gu;cases h with
   | @own z n cs _ e us Fs _ a1 aj h1 ao aS av aN =>
    simp only [ab.kids] at hx;have hk:k<cs.length:=(List.getElem?_eq_some_iff.1 hx).1;have hu:us[k]?=some us[k]:=List.getElem?_eq_getElem (aj ▸ hk);have nI:=vO (w':=w') a1 λc aa=>aW c ((aN c).2 (.inl aa));have:=R.pZ (w':=w') p (ao k sA _ hx hu) gu λc aa=>aW c ((aN c).2 (.inr ⟨k,hk,aa⟩));simp [walk,pS a1 hu,pS nI hu,this]
   | @obj cs b e arr Fs _ a1 aj h1 ao aS av aN =>
    simp only [ab.kids] at hx;have hk:k<cs.length:=(List.getElem?_eq_some_iff.1 hx).1;have hu:arr[k]?=some arr[k]:=Array.getElem?_eq_getElem (aj ▸ hk);have nI:=(aW b ((aN b).2 (.inl rfl))).trans a1;have:=R.pZ (w':=w') p (ao k sA _ hx hu) gu λc aa=>aW c ((aN c).2 (.inr ⟨k,hk,aa⟩));simp [walk,child,World.cell?,a1,nI,hu,this]
   | @agg cs vs Fs _ aj h1 ao aS aN =>
    simp only [ab.kids] at hx;have hk:k<cs.length:=(List.getElem?_eq_some_iff.1 hx).1;have hu:vs[k]?=some vs[k]:=Array.getElem?_eq_getElem (aj ▸ hk);have:=R.pZ (w':=w') p (ao k sA _ hx hu) gu λc aa=>aW c ((aN c).2 ⟨k,hk,aa⟩);simp [walk,child,hu,this]
   | @bV cs vs Fs _ aj ao aS aN =>
    simp only [ab.kids] at hx;have hk:k<cs.length:=(List.getElem?_eq_some_iff.1 hx).1;have hu:vs[k]?=some vs[k]:=Array.getElem?_eq_getElem (aj ▸ hk);have:=R.pZ (w':=w') p (ao k sA _ hx hu) gu λc aa=>aW c ((aN c).2 ⟨k,hk,aa⟩);simp [walk,child,hu,this]
   | ref J _ _=>cases x <;> simp [ab.isRef,ab.kids] at J hx
   | _=>simp [ab.kids] at hx
theorem R.focus {w:World}{I:bb}{ρ:ab->Value->Prop}:∀ (q:List Nat) {x:ab}{v:Value}{F:bb}{y:ab},R w I ρ x v F->x.at q=some y ->
  ∃ h3 cz,walk w v q=some h3/\R w I ρ y h3 cz/\(∀ c,cz c->F c) /\
   (∀ (w':World),(∀ c,F c->¬ cz c->w'.heap[c]?=w.heap[c]?)->walk w' v q=some h3/\∀ r uP,x.at r=some uP->(∃ dm,r=q++dm)\/walk w' v r=walk w v r) /\
   ∀ (w':World) (I':bb) (ρ':ab->Value->Prop) (y':ab) (jm:bb),Out w w' I I' ρ ρ' F cz->R w' I' ρ' y' h3 jm->(∀ c,jm c->F c->cz c) ->
    ∃ c8,R w' I' ρ' (x.setAt q y') v c8/\∀ c,c8 c↔(F c/\¬ cz c)\/jm c
 | [],x,v,F,y,h,gu=>by
  simp only [ab.at,Option.some.injEq] at gu;subst gu;exact ⟨v,F,rfl,h,λ_ h=>h,λ_ _=>⟨rfl,λr _ _=>.inl ⟨r,rfl⟩⟩,λw' I' ρ' y' jm _ aY _=>⟨jm,aY,λc=>by simp⟩⟩
 | k::p,x,v,F,y,h,gu=>by
  simp only [ab.at] at gu;cases hx:x.kids[k]? with
  | none=>rw [hx] at gu; cases gu
  | some sA =>
   rw [hx] at gu;simp only at gu;have zC:∀ y',x.setAt (k::p) y'=x.wg k (sA.setAt p y'):=λy'=>by simp [ab.setAt,hx]
   cases h with
   | @own z n cs _ e us Fs _ a1 aj h1 ao aS av aN =>
    simp only [ab.kids] at hx;have hk:k<cs.length:=(List.getElem?_eq_some_iff.1 hx).1;have hu:us[k]?=some us[k]:=List.getElem?_eq_getElem (aj ▸ hk);obtain ⟨h3,cz,hw,dH,dx,eX,ki⟩:=R.focus p (ao k sA _ hx hu) gu;refine ⟨h3,cz,by simp [walk,pS a1 hu,hw],dH,λc aa=>(aN c).2 (.inr ⟨k,hk,dx c aa⟩),?_,?_⟩
    ·intro w' aB;have pC:∀ j c,j<cs.length->Fs j c->¬ cz c->w'.heap[c]?=w.heap[c]?:=λj c ah aa aF=>aB c ((aN c).2 (.inr ⟨j,ah,aa⟩)) aF;obtain ⟨ic,hA⟩:=eX w' λc aa aF=>pC k c hk aa aF;have nI:=vO (w':=w') a1 λc aa=>aB c ((aN c).2 (.inl aa)) λeM=>av k c hk (dx c eM) aa;refine ⟨by simp [walk,pS nI hu,ic],?_⟩;intro r uP ed;cases r with
     | nil=>exact .inr rfl
     | cons j r =>
      simp only [ab.at,ab.kids] at ed;cases ah:cs[j]? with
      | none=>rw [ah] at ed; cases ed
      | some wV =>
       rw [ah] at ed;simp only at ed;have eZ:j<cs.length:=(List.getElem?_eq_some_iff.1 ah).1;have re:us[j]?=some us[j]:=List.getElem?_eq_getElem (aj ▸ eZ);by_cases gY:j=k
       ·subst gY;rw [hx] at ah;cases ah;rcases hA r uP ed with ⟨dm,rfl⟩ | h
        ·exact .inl ⟨dm,rfl⟩
        ·exact .inr (by simp [walk,pS a1 hu,pS nI hu,h])
       ·have h:=R.pZ (w':=w') r (ao j wV _ ah re) ed λc aa=>pC j c eZ aa λeM=>gY (aS j k c eZ hk aa (dx c eM));exact .inr (by simp [walk,pS a1 re,pS nI re,h])
    intro w' I' ρ' y' jm o jO mW;have jN:∀ j c,j<cs.length->Fs j c->F c:=λj c ah aa=>(aN c).2 (.inr ⟨j,ah,aa⟩);obtain ⟨bM,kT,fV⟩:=ki w' I' ρ' y' jm (o.mono (λc aa=>jN k c hk aa) λc _ h=>h) jO λc aa oP=>mW c aa (jN k c hk oP);obtain ⟨ed,n_⟩:=Fa (get:=λj=>us[j]?) ao aS jN hk dx o hu kT λc=>by
     constructor
     ·intro h;rcases (fV c).1 h with h1 | h1
      ·exact .inl h1
      ·exact .inr ⟨h,λ⟨af,aI⟩=>aI (mW c h1 af)⟩
     ·rintro (h1 | ⟨h1,_⟩)
      ·exact (fV c).2 (.inl h1)
      ·exact h1
    rw [zC];refine ⟨_,.own (Fs:=λj=>if j=k then bM else Fs j) (vO a1 λc aa=>o.rest c ((aN c).2 (.inl aa)) λeM=>av k c hk (dx c eM) aa) (by simpa using aj) h1 ed n_ ?_ (λc=>Iff.rfl),λc=>?_⟩
    ·intro j c ah aa vu;rw [List.length_set] at ah;by_cases gY:j=k
     ·rw [if_pos gY] at aa;rcases (fV c).1 aa with ⟨h1,_⟩ | h1
      ·exact av k c hk h1 vu
      ·exact av k c hk (dx c (mW c h1 ((aN c).2 (.inl vu)))) vu
     ·rw [if_neg gY] at aa; exact av j c ah aa vu
    ·have hu:=Fb hk aS dx fV c;simp only [List.length_set];rw [hu,aN c];have e8:v.ownBlock=some c->¬ cz c:=λh1 af=>av k c hk (dx c af) h1;constructor
     ·rintro (h1 | ⟨h1,af⟩ | h1)
      ·exact .inl ⟨.inl h1,e8 h1⟩
      ·exact .inl ⟨.inr h1,af⟩
      ·exact .inr h1
     ·rintro (⟨h1 | h1,af⟩ | h1)
      ·exact .inl h1
      ·exact .inr (.inl ⟨h1,af⟩)
      ·exact .inr (.inr h1)
   | @obj cs b e arr Fs _ a1 aj h1 ao aS av aN =>
    simp only [ab.kids] at hx;have hk:k<cs.length:=(List.getElem?_eq_some_iff.1 hx).1;have hu:arr[k]?=some arr[k]:=Array.getElem?_eq_getElem (aj ▸ hk);obtain ⟨h3,cz,hw,dH,dx,eX,ki⟩:=R.focus p (ao k sA _ hx hu) gu;refine ⟨h3,cz,by simp [walk,child,World.cell?,a1,hu,hw],dH,λc aa=>(aN c).2 (.inr ⟨k,hk,dx c aa⟩),?_,?_⟩
    ·intro w' aB;have pC:∀ j c,j<cs.length->Fs j c->¬ cz c->w'.heap[c]?=w.heap[c]?:=λj c ah aa aF=>aB c ((aN c).2 (.inr ⟨j,ah,aa⟩)) aF;obtain ⟨ic,hA⟩:=eX w' λc aa aF=>pC k c hk aa aF;have nI:=(aB b ((aN b).2 (.inl rfl)) λeM=>av k hk (dx b eM)).trans a1;refine ⟨by simp [walk,child,World.cell?,nI,hu,ic],?_⟩;intro r uP ed;cases r with
     | nil=>exact .inr rfl
     | cons j r =>
      simp only [ab.at,ab.kids] at ed;cases ah:cs[j]? with
      | none=>rw [ah] at ed; cases ed
      | some wV =>
       rw [ah] at ed;simp only at ed;have eZ:j<cs.length:=(List.getElem?_eq_some_iff.1 ah).1;have re:arr[j]?=some arr[j]:=Array.getElem?_eq_getElem (aj ▸ eZ);by_cases gY:j=k
       ·subst gY;rw [hx] at ah;cases ah;rcases hA r uP ed with ⟨dm,rfl⟩ | h
        ·exact .inl ⟨dm,rfl⟩
        ·exact .inr (by simp [walk,child,World.cell?,a1,nI,hu,h])
       ·have h:=R.pZ (w':=w') r (ao j wV _ ah re) ed λc aa=>pC j c eZ aa λeM=>gY (aS j k c eZ hk aa (dx c eM));exact .inr (by simp [walk,child,World.cell?,a1,nI,re,h])
    intro w' I' ρ' y' jm o jO mW;have jN:∀ j c,j<cs.length->Fs j c->F c:=λj c ah aa=>(aN c).2 (.inr ⟨j,ah,aa⟩);obtain ⟨bM,kT,fV⟩:=ki w' I' ρ' y' jm (o.mono (λc aa=>jN k c hk aa) λc _ h=>h) jO λc aa oP=>mW c aa (jN k c hk oP);obtain ⟨ed,n_⟩:=Fa (get:=λj=>arr[j]?) ao aS jN hk dx o hu kT λc=>by
     constructor
     ·intro h;rcases (fV c).1 h with h1 | h1
      ·exact .inl h1
      ·exact .inr ⟨h,λ⟨af,aI⟩=>aI (mW c h1 af)⟩
     ·rintro (h1 | ⟨h1,_⟩)
      ·exact (fV c).2 (.inl h1)
      ·exact h1
    rw [zC];have mw:F b:=(aN b).2 (.inl rfl);have Il:¬ cz b:=λh=>av k hk (dx b h);refine ⟨_,.obj (Fs:=λj=>if j=k then bM else Fs j) ((o.rest b mw Il).trans a1) (by simpa using aj) h1 ed n_ ?_ (λc=>Iff.rfl),λc=>?_⟩
    ·intro j ah aa;rw [List.length_set] at ah;by_cases gY:j=k
     ·rw [if_pos gY] at aa;rcases (fV b).1 aa with ⟨h1,_⟩ | h1
      ·exact av k hk h1
      ·exact Il (mW b h1 mw)
     ·rw [if_neg gY] at aa; exact av j ah aa
    ·have hu:=Fb hk aS dx fV c;simp only [List.length_set];rw [hu,aN c];constructor
     ·rintro (rfl | ⟨h1,af⟩ | h1)
      ·exact .inl ⟨.inl rfl,Il⟩
      ·exact .inl ⟨.inr h1,af⟩
      ·exact .inr h1
     ·rintro (⟨h1 | h1,af⟩ | h1)
      ·exact .inl h1
      ·exact .inr (.inl ⟨h1,af⟩)
      ·exact .inr (.inr h1)
   | @agg cs vs Fs _ aj h1 ao aS aN =>
    simp only [ab.kids] at hx;have hk:k<cs.length:=(List.getElem?_eq_some_iff.1 hx).1;have hu:vs[k]?=some vs[k]:=Array.getElem?_eq_getElem (aj ▸ hk);obtain ⟨h3,cz,hw,dH,dx,eX,ki⟩:=R.focus p (ao k sA _ hx hu) gu;refine ⟨h3,cz,by simp [walk,child,hu,hw],dH,λc aa=>(aN c).2 ⟨k,hk,dx c aa⟩,?_,?_⟩
    ·intro w' aB;have pC:∀ j c,j<cs.length->Fs j c->¬ cz c->w'.heap[c]?=w.heap[c]?:=λj c ah aa aF=>aB c ((aN c).2 ⟨j,ah,aa⟩) aF;obtain ⟨ic,hA⟩:=eX w' λc aa aF=>pC k c hk aa aF
     
     refine ⟨by simp [walk,child,hu,ic],?_⟩;intro r uP ed;cases r with
     | nil=>exact .inr rfl
     | cons j r =>
      simp only [ab.at,ab.kids] at ed;cases ah:cs[j]? with
      | none=>rw [ah] at ed; cases ed
      | some wV =>
       rw [ah] at ed;simp only at ed;have eZ:j<cs.length:=(List.getElem?_eq_some_iff.1 ah).1;have re:vs[j]?=some vs[j]:=Array.getElem?_eq_getElem (aj ▸ eZ);by_cases gY:j=k
       ·subst gY;rw [hx] at ah;cases ah;rcases hA r uP ed with ⟨dm,rfl⟩ | h
        ·exact .inl ⟨dm,rfl⟩
        ·exact .inr (by simp [walk,child,hu,h])
       ·have h:=R.pZ (w':=w') r (ao j wV _ ah re) ed λc aa=>pC j c eZ aa λeM=>gY (aS j k c eZ hk aa (dx c eM));exact .inr (by simp [walk,child,re,h])
    intro w' I' ρ' y' jm o jO mW;have jN:∀ j c,j<cs.length->Fs j c->F c:=λj c ah aa=>(aN c).2 ⟨j,ah,aa⟩;obtain ⟨bM,kT,fV⟩:=ki w' I' ρ' y' jm (o.mono (λc aa=>jN k c hk aa) λc _ h=>h) jO λc aa oP=>mW c aa (jN k c hk oP);obtain ⟨ed,n_⟩:=Fa (get:=λj=>vs[j]?) ao aS jN hk dx o hu kT λc=>by
     constructor
     ·intro h;rcases (fV c).1 h with h1 | h1
      ·exact .inl h1
      ·exact .inr ⟨h,λ⟨af,aI⟩=>aI (mW c h1 af)⟩
     ·rintro (h1 | ⟨h1,_⟩)
      ·exact (fV c).2 (.inl h1)
      ·exact h1
    rw [zC];refine ⟨_,.agg (Fs:=λj=>if j=k then bM else Fs j) (by simpa using aj) h1 ed n_ (λc=>Iff.rfl),λc=>?_⟩;have hu:=Fb hk aS dx fV c;simp only [List.length_set];rw [hu,aN c]
   | @bV cs vs Fs _ aj ao aS aN =>
    simp only [ab.kids] at hx;have hk:k<cs.length:=(List.getElem?_eq_some_iff.1 hx).1;have hu:vs[k]?=some vs[k]:=Array.getElem?_eq_getElem (aj ▸ hk);obtain ⟨h3,cz,hw,dH,dx,eX,ki⟩:=R.focus p (ao k sA _ hx hu) gu;refine ⟨h3,cz,by simp [walk,child,hu,hw],dH,λc aa=>(aN c).2 ⟨k,hk,dx c aa⟩,?_,?_⟩
    ·intro w' aB;have pC:∀ j c,j<cs.length->Fs j c->¬ cz c->w'.heap[c]?=w.heap[c]?:=λj c ah aa aF=>aB c ((aN c).2 ⟨j,ah,aa⟩) aF;obtain ⟨ic,hA⟩:=eX w' λc aa aF=>pC k c hk aa aF
     
     refine ⟨by simp [walk,child,hu,ic],?_⟩;intro r uP ed;cases r with
     | nil=>exact .inr rfl
     | cons j r =>
      simp only [ab.at,ab.kids] at ed;cases ah:cs[j]? with
      | none=>rw [ah] at ed; cases ed
      | some wV =>
       rw [ah] at ed;simp only at ed;have eZ:j<cs.length:=(List.getElem?_eq_some_iff.1 ah).1;have re:vs[j]?=some vs[j]:=Array.getElem?_eq_getElem (aj ▸ eZ);by_cases gY:j=k
       ·subst gY;rw [hx] at ah;cases ah;rcases hA r uP ed with ⟨dm,rfl⟩ | h
        ·exact .inl ⟨dm,rfl⟩
        ·exact .inr (by simp [walk,child,hu,h])
       ·have h:=R.pZ (w':=w') r (ao j wV _ ah re) ed λc aa=>pC j c eZ aa λeM=>gY (aS j k c eZ hk aa (dx c eM));exact .inr (by simp [walk,child,re,h])
    intro w' I' ρ' y' jm o jO mW;have jN:∀ j c,j<cs.length->Fs j c->F c:=λj c ah aa=>(aN c).2 ⟨j,ah,aa⟩;obtain ⟨bM,kT,fV⟩:=ki w' I' ρ' y' jm (o.mono (λc aa=>jN k c hk aa) λc _ h=>h) jO λc aa oP=>mW c aa (jN k c hk oP);obtain ⟨ed,n_⟩:=Fa (get:=λj=>vs[j]?) ao aS jN hk dx o hu kT λc=>by
     constructor
     ·intro h;rcases (fV c).1 h with h1 | h1
      ·exact .inl h1
      ·exact .inr ⟨h,λ⟨af,aI⟩=>aI (mW c h1 af)⟩
     ·rintro (h1 | ⟨h1,_⟩)
      ·exact (fV c).2 (.inl h1)
      ·exact h1
    rw [zC];refine ⟨_,.bV (Fs:=λj=>if j=k then bM else Fs j) (by simpa using aj) ed n_ (λc=>Iff.rfl),λc=>?_⟩;have hu:=Fb hk aS dx fV c;simp only [List.length_set];rw [hu,aN c]
   | ref J _ _=>cases x <;> simp [ab.isRef,ab.kids] at J hx
   | _=>simp [ab.kids] at hx
end Go.Own
namespace Go.Own
open Go
abbrev aK:=Nat->Option ab
def bB (g:aK) (p:Place):Option ab :=
 match g p.root with
 | some x=>x.at p.path
 | none=>none
def dY (w:World) (T:Array Value) (p:Place):Option Value :=
 match T[p.root]? with
 | some v=>walk w v p.path
 | none=>none
def addrOf:Value->Option Addr
 | .slice (some a) _ _=>some a
 | .pointer (some a)=>some a
 | _=>none
def fA (w:World) (T:Array Value):ab->Value->Prop
 | .ptr p k,v=>∃ u a,dY w T p=some u/\addrOf u=some a/\v=.pointer (some ⟨a.block,a.off+k,none⟩)
 | .a6 _ p n,v=>∃ a N cap,dY w T p=some (.slice a N cap)/\v=.slice a n cap/\n<=N
 | .sub z p lo n,v=>∃ a N cap ca mQ,dY w T p=some (.slice a N cap)/\v=.slice ca n mQ/\n<=mQ/\lo+n<=N/\(0<n->∃ ad,a=some ad/\ca=some ⟨ad.block,ad.off+lo * z,none⟩)
 | .bL _ p n _ _,v=>∃ a cap,dY w T p=some (.slice a n cap)/\v=.slice a n cap
 | .gz p,v=>∃ b,dY w T p=some (.map b)/\v=.map b
 | _,_=>False
def gE (g:aK):ab->Prop
 | .ptr p k=>∃ y,bB g p=some y/\(∃ z n cs,(y=.own z n cs\/y=.obj cs)/\k<cs.length)
 | .a6 z p n=>(∃ N cs,bB g p=some (.own z N cs)/\n<=N)\/(p.path=[]/\∃ q gJ m new,g p.root=some (.bL z q gJ m new)/\n=gJ+m)
 | .sub z p lo n=>∃ N cs,bB g p=some (.own z N cs)/\lo+n<=N
 | .bL z p n _ _=>(∃ cs,bB g p=some (.own z n cs))\/(p.path=[]/\∃ q gJ m new cs,g p.root=some (.bL z q gJ m new)/\n=gJ+m/\bB g q=some (.own z gJ cs))
 | .gz p=>∃ q,bB g p=some (.mp q)
 | _=>False
def dU (w:World) (T:Array Value) (g:aK) (r:ab) (v:Value):Prop:=fA w T r v/\gE g r
structure GN (w:World) (I:bb) (ρ:ab->Value->Prop) (z:Nat) (p:Place) (n m:Nat) (new:List ab) (v:Value) (F:bb) (bv:Value) (e b9:TypeId) (us news:List Value):Prop where
 jV:ρ (.bL z p n 0 []) bv
 ll:w.ownsRow 0 e z bv n us
 nJ:w.ownsRow 0 b9 z v (n+m) (us++news)
 aj:new.length=news.length
 h1:∀ (k:Nat) (u:Value),news[k]?=some u->u.oneCell'=true
 ao:∀ (k:Nat) (x:ab) (u:Value),new[k]?=some x->news[k]?=some u->R w I ρ x u (λ_=>False)
 aN:∀ c,F c↔v.ownBlock=some c/\bv.ownBlock≠some c
inductive jF (w:World) (I:bb) (ρ:ab->Value->Prop):ab->Value->bb->Prop
 | tree {x:ab}{v:Value}{F:bb}(h:R w I ρ x v F):jF w I ρ x v F
 | bL {z n m:Nat}{p:Place}{new:List ab}{v bv:Value}{e b9:TypeId}{us news:List Value}{F:bb}(h:GN w I ρ z p n m new v F bv e b9 us news):jF w I ρ (.bL z p n m new) v F
theorem R.lq {w:World}{I:bb}{ρ:ab->Value->Prop}{z n m:Nat}{p:Place}{new:List ab}{v:Value}{F:bb}(h:R w I ρ (.bL z p n m new) v F):False:=by
 cases h with
 | ref J=>simp [ab.isRef] at J
theorem jF.gI {w:World}{I:bb}{ρ:ab->Value->Prop}{x:ab}{v:Value}{F:bb}(h:jF w I ρ x v F) (J:∀ z p n m new,x≠.bL z p n m new):R w I ρ x v F:=by
 cases h with
 | tree h=>exact h
 | bL=>exact absurd rfl (J _ _ _ _ _)
theorem jF.vD {w:World}{I:bb}{ρ:ab->Value->Prop}{z n m:Nat}{p:Place}{new:List ab}{v:Value}{F:bb}(h:jF w I ρ (.bL z p n m new) v F):∃ bv e b9 us news,GN w I ρ z p n m new v F bv e b9 us news:=by
 cases h with
 | tree h=>exact h.lq.elim
 | bL h=>exact ⟨_,_,_,_,_,h⟩
theorem jF.lt {w:World}{I:bb}{ρ:ab->Value->Prop}{x:ab}{v:Value}{F:bb}(h:jF w I ρ x v F):∀ c,F c->c<w.heap.size:=by
 cases h with
 | tree h=>exact h.lt
 | bL h=>exact λc aa=>(h.nJ.lt c ((h.aN c).1 aa).1).2
theorem jF.frame {w w':World}{I I':bb}{ρ ρ':ab->Value->Prop}{x:ab}{v:Value}{F:bb}(h:jF w I ρ x v F)
  (bf:∀ c,I c->w'.heap[c]?=w.heap[c]?) (px:∀ c,I c->I' c) (lQ:∀ x v,ρ x v->ρ' x v)
  (cn:∀ z p n bv,ρ (.bL z p n 0 []) bv->∀ c,bv.ownBlock=some c->w'.heap[c]?=w.heap[c]?)
  (aW:∀ c,F c->w'.heap[c]?=w.heap[c]?):jF w' I' ρ' x v F:=by
 cases h with
 | tree h=>exact .tree (h.frame bf px lQ aW)
 | @bL z n m p new v bv e b9 us news F h =>
  have av:=cn _ _ _ _ h.jV;refine .bL ⟨lQ _ _ h.jV,vO h.ll av,vO h.nJ λc aa=>?_,h.aj,h.h1,λk x u J hu=>(h.ao k x u J hu).frame bf px lQ λc aa=>aa.elim,h.aN⟩;by_cases q9:bv.ownBlock=some c
  ·exact av c q9
  ·exact aW c ((h.aN c).2 ⟨aa,q9⟩)
theorem ab.sz {z n m:Nat}{p:Place}{new:List ab}{q:List Nat}{y:ab}(h:(ab.bL z p n m new).at q=some y):q=[]/\y=.bL z p n m new:=by
 cases q with
 | nil=>simp [ab.at] at h; exact ⟨rfl,h.symm⟩
 | cons k q=>simp [ab.at,ab.kids] at h
structure cI (w:World) (I:bb) (T:Array Value) (g:aK) (Fs:Nat->bb):Prop where
 rel:∀ t x,g t=some x->∃ v,T[t]?=some v/\jF w I (dU w T g) x v (Fs t)
 k2:∀ t,g t=none->∀ c,¬ Fs t c
 eK:∀ t t' c,Fs t c->Fs t' c->t=t'
 bk:∀ t c,Fs t c->¬ I c
 lt:∀ c,I c->c<w.heap.size
 rn:∀ t t' z p n m new bC cH m' c3,g t=some (.bL z p n m new)->g t'=some (.bL bC p cH m' c3)->t=t'
section
variable {w:World}{I:bb}{T:Array Value}{g:aK}{Fs:Nat->bb}
theorem cI.part (h:cI w I T g Fs) {p:Place}{y:ab}(au:bB g p=some y) (ax:∀ z q n m new,y≠.bL z q n m new):∃ v cz,dY w T p=some v/\R w I (dU w T g) y v cz/\(∀ c,cz c->Fs p.root c):=by
 unfold bB at au;cases J:g p.root with
 | none=>rw [J] at au; cases au
 | some x =>
  rw [J] at au;obtain ⟨v,hv,aY⟩:=h.rel _ _ J;replace aY:=aY.gI (by
   rintro z q n m new rfl;exact ax _ _ _ _ _ (ab.sz au).2)
  obtain ⟨h3,cz,hw,dH,dx,_⟩:=R.focus p.path aY au;exact ⟨h3,cz,by simp [dY,hv,hw],dH,dx⟩
theorem R.qC {ρ:ab->Value->Prop}{z n:Nat}{cs:List ab}{v:Value}{F:bb}(h:R w I ρ (.own z n cs) v F):∀ c,v.ownBlock=some c->F c:=by
 cases h with
 | own a1 aj h1 ao aS av aN=>exact λc aa=>(aN c).2 (.inl aa)
 | ref J=>simp [ab.isRef] at J
theorem R.nm {ρ:ab->Value->Prop}{z n:Nat}{cs:List ab}{v:Value}{F:bb}(h:R w I ρ (.own z n cs) v F) :
  ∃ a cap,v=.slice a n cap/\n<=cap/\cs.length=n * z/\(∀ ad,a=some ad->ad.off=0/\ad.spot=none)/\(0<n->a.isSome=true):=by
 cases h with
 | own a1 aj h1 ao aS av aN =>
  obtain ⟨h1,af⟩:=a1;rcases af with ⟨rfl,rfl⟩ | ⟨b,cap,cur,rfl,_,_,aF,_⟩
  ·exact ⟨none,0,rfl,Nat.le_refl _,by simp [aj,h1],by simp,by simp⟩
  ·exact ⟨_,cap,rfl,aF,by simp [aj,h1],by rintro ad ⟨⟩; exact ⟨rfl,rfl⟩,by simp⟩
 | ref J=>simp [ab.isRef] at J
theorem cI.yw (h:cI w I T g Fs) {w':World}{T':Array Value}(dM:∀ t,g t≠none->T'[t]?=T[t]?) (aN:∀ t c,Fs t c->w'.heap[c]?=w.heap[c]?) {p:Place}{y:ab}(au:bB g p=some y) :
  dY w' T' p=dY w T p:=by
 unfold bB at au;cases J:g p.root with
 | none=>rw [J] at au; cases au
 | some x =>
  rw [J] at au;obtain ⟨v,hv,aY⟩:=h.rel _ _ J;have iq:T'[p.root]?=some v:=by rw [dM _ (by rw [J]; simp),hv]
  cases aY with
  | tree aY =>
   have:=R.pZ (w':=w') p.path aY au λc aa=>aN _ c aa;simp [dY,hv,iq,this]
  | bL aY=>simp [dY,hv,iq,(ab.sz au).1,walk]
theorem kO {g g':aK}(aO:∀ t x,g t=some x->g' t=some x) {p:Place}{y:ab}(au:bB g p=some y):bB g' p=some y:=by
 unfold bB at *;cases J:g p.root with
 | none=>rw [J] at au; cases au
 | some x=>rw [J] at au; rw [aO _ _ J]; exact au
theorem gE.mono {g g':aK}(aO:∀ t x,g t=some x->g' t=some x) {r:ab}(h:gE g r):gE g' r:=by
 cases r <;> simp only [gE] at h ⊢
 case ptr p k=>obtain ⟨y,ax,h⟩:=h; exact ⟨y,kO aO ax,h⟩
 case a6 z p n =>
  rcases h with ⟨N,cs,h1,af⟩ | ⟨aQ,q,gJ,m,new,h1,af⟩
  ·exact .inl ⟨N,cs,kO aO h1,af⟩
  ·exact .inr ⟨aQ,q,gJ,m,new,aO _ _ h1,af⟩
 case sub z p lo n=>obtain ⟨N,cs,h1,af⟩:=h; exact ⟨N,cs,kO aO h1,af⟩
 case bL z p n m new =>
  rcases h with ⟨cs,h1⟩ | ⟨aQ,q,gJ,m',c3,cs,h1,af,aI⟩
  ·exact .inl ⟨cs,kO aO h1⟩
  ·exact .inr ⟨aQ,q,gJ,m',c3,cs,aO _ _ h1,af,kO aO aI⟩
 case gz p=>obtain ⟨q,h⟩:=h; exact ⟨q,kO aO h⟩
theorem cI.FQ (h:cI w I T g Fs) {w':World}{T':Array Value}{g':aK}(dM:∀ t,g t≠none->T'[t]?=T[t]?) (aN:∀ t c,Fs t c->w'.heap[c]?=w.heap[c]?)
  (aO:∀ t x,g t=some x->g' t=some x) {r:ab}{v:Value}(ao:dU w T g r v):dU w' T' g' r v:=by
 obtain ⟨h1,af⟩:=ao;refine ⟨?_,af.mono aO⟩;have slot:∀ {p:Place}{x:ab},p.path=[]->g p.root=some x->dY w' T' p=dY w T p:=by
  intro p x au J;obtain ⟨v,hv,_⟩:=h.rel _ _ J;simp [dY,au,walk,dM p.root (by rw [J]; simp)]
 cases r <;> simp only [fA,gE] at h1 af ⊢
 case ptr p k =>
  obtain ⟨y,ax,_⟩:=af;rw [h.yw dM aN ax]; exact h1
 case a6 z p n =>
  rcases af with ⟨N,cs,af,_⟩ | ⟨aQ,q,gJ,m,new,af,_⟩
  ·rw [h.yw dM aN af]; exact h1
  ·rw [slot aQ af]; exact h1
 case sub z p lo n =>
  obtain ⟨N,cs,af,_⟩:=af;rw [h.yw dM aN af]; exact h1
 case bL z p n m new =>
  rcases af with ⟨cs,af⟩ | ⟨aQ,q,gJ,m',c3,cs,af,_⟩
  ·rw [h.yw dM aN af]; exact h1
  ·rw [slot aQ af]; exact h1
 case gz p =>
  obtain ⟨q,af⟩:=af;rw [h.yw dM aN af]; exact h1
theorem cI.D9 (h:cI w I T g Fs) {z n:Nat}{p:Place}{bv:Value}(ao:dU w T g (.bL z p n 0 []) bv):∀ c,bv.ownBlock=some c->∃ t,Fs t c:=by
 obtain ⟨⟨a,cap,h1,rfl⟩,af⟩:=ao;intro c aa;have own:∀ {q:Place}{gJ:Nat}{cs:List ab}{v:Value},bB g q=some (.own z gJ cs)->dY w T q=some v->v.ownBlock=some c->∃ t,Fs t c:=by
  intro q gJ cs v bg hv aa;obtain ⟨gx,cz,iq,aY,dx⟩:=h.part bg (by simp);rw [hv] at iq;cases iq;exact ⟨_,dx c (aY.qC c aa)⟩
 rcases af with ⟨cs,af⟩ | ⟨aQ,q,gJ,m,new,cs,af,rfl,aI⟩
 ·exact own af h1 aa
 ·obtain ⟨v,hv,aY⟩:=h.rel _ _ af;have xp:v=.slice a (gJ+m) cap:=by
   simp only [dY,hv,aQ,walk,Option.some.injEq] at h1;exact h1
  obtain ⟨L_,e,b9,us,news,aY⟩:=aY.vD;by_cases gW:L_.ownBlock=some c
  ·obtain ⟨⟨a2,rO,bF,rfl⟩,_⟩:=aY.jV;exact own aI bF gW
  ·exact ⟨_,(aY.aN c).2 ⟨by rw [xp]; exact aa,gW⟩⟩
theorem cI.frame (h:cI w I T g Fs) {w':World}{I':bb}{T':Array Value}{g':aK}(dM:∀ t,g t≠none->T'[t]?=T[t]?) (aN:∀ t c,Fs t c->w'.heap[c]?=w.heap[c]?)
  (bf:∀ c,I c->w'.heap[c]?=w.heap[c]?) (px:∀ c,I c->I' c) (aO:∀ t x,g t=some x->g' t=some x) {x:ab}{v:Value}{F:bb}(aY:R w I (dU w T g) x v F)
  (mq:∀ c,F c->w'.heap[c]?=w.heap[c]?):R w' I' (dU w' T' g') x v F :=
 aY.frame bf px (λ_ _ ao=>h.FQ dM aN aO ao) mq
theorem cI.w2 (h:cI w I T g Fs) {w':World}{I':bb}{T':Array Value}{g':aK}(dM:∀ t,g t≠none->T'[t]?=T[t]?) (aN:∀ t c,Fs t c->w'.heap[c]?=w.heap[c]?)
  (bf:∀ c,I c->w'.heap[c]?=w.heap[c]?) (px:∀ c,I c->I' c) (aO:∀ t x,g t=some x->g' t=some x) {x:ab}{v:Value}{F:bb}(aY:jF w I (dU w T g) x v F)
  (mq:∀ c,F c->w'.heap[c]?=w.heap[c]?):jF w' I' (dU w' T' g') x v F :=
 aY.frame bf px (λ_ _ ao=>h.FQ dM aN aO ao) (λ_ _ _ _ ao c aa=>by obtain ⟨t,aw⟩:=h.D9 ao c aa; exact aN t c aw) mq
def cV (g:aK) (d:Nat) (x:ab):aK:=λt=>if t=d then some x else g t
def uM (Fs:Nat->bb) (d:Nat) (F:bb):Nat->bb:=λt=>if t=d then F else Fs t
theorem QB {d:Nat}{x:ab}(aS:g d=none):∀ t y,g t=some y->cV g d x t=some y:=by
 intro t y ax;unfold cV;split
 ·rename_i h; subst h; rw [aS] at ax; cases ax
 ·exact ax
end
end Go.Own
namespace Go.Own
open Go
theorem QF (w:World):∀ (p:List Nat) (v:Value) (k:Nat),walk w v (p++[k])=(walk w v p).bind λu=>child w u k
 | [],v,k=>by simp [walk]; cases child w v k <;> rfl
 | j::p,v,k=>by
  simp only [List.cons_append,walk];cases child w v j with
  | none=>rfl
  | some u=>exact QF w p u k
theorem L6:∀ (p:List Nat) (x:ab) (k:Nat),x.at (p++[k])=(x.at p).bind λy=>y.kids[k]?
 | [],x,k=>by simp [ab.at]; cases x.kids[k]? <;> rfl
 | j::p,x,k=>by
  simp only [List.cons_append,ab.at];cases x.kids[j]? with
  | none=>rfl
  | some u=>exact L6 p u k
theorem tC (g:aK) (p:Place) (k:Nat):bB g (p.push k)=(bB g p).bind λy=>y.kids[k]?:=by
 unfold bB Place.push;cases g p.root with
 | none=>rfl
 | some x=>simp [L6]
theorem yv (w:World) (T:Array Value) (p:Place) (k:Nat):dY w T (p.push k)=(dY w T p).bind λu=>child w u k:=by
 unfold dY Place.push;cases T[p.root]? with
 | none=>rfl
 | some x=>simp [QF]
def gw:Nat->Place->ab->ab
 | _,p,.own z n _=>.a6 z p n
 | _,p,.obj (_::_)=>.ptr p 0
 | _,_,.obj []=>.dead
 | _,_,.bL ..=>.dead
 | _,p,.mp _=>.gz p
 | d+1,p,.agg cs=>.agg (cs.mapIdx λi x=>gw d (p.push i) x)
 | d+1,p,.bV cs=>.bV (cs.mapIdx λi x=>gw d (p.push i) x)
 | 0,_,.agg _=>.dead
 | 0,_,.bV _=>.dead
 | _,_,x=>x
def rq (t:Nat):ab->ab
 | .bL z _ n m _=>.a6 z ⟨t,[]⟩ (n+m)
 | x=>gw 2 ⟨t,[]⟩ x
def lR:Value->ab
 | .slice none 0 0=>.aL
 | .agg _=>.dead
 | .tuple _=>.dead
 | v=>.lit v
def ofConst:Value->ab
 | .agg vs=>if vs.all Value.oneCell' then .agg (vs.toList.map lR) else .dead
 | .tuple _=>.dead
 | v=>lR v
def br (g:aK):Operand->Option ab
 | .tmp t=>(g t).map (rq t)
 | .const v=>some (ofConst v)
 | .func f=>some (.cX (.func f) [] [])
 | .global _=>none
abbrev cw:bb:=λ_=>False
section
variable {w:World}{I:bb}{T:Array Value}{g:aK}{Fs:Nat->bb}
theorem R.empty {ρ:ab->Value->Prop}{x:ab}{v:Value}{F:bb}(h:R w I ρ x v F) (aN:∀ c,¬ F c):R w I ρ x v cw:=h.ze λc=>⟨λaa=>aN c aa,λaa=>aa.elim⟩
theorem FP:∀ (d:Nat) {p:Place}{x:ab}{v:Value}{F:bb},bB g p=some x->dY w T p=some v->R w I (dU w T g) x v F->R w I (dU w T g) (gw d p x) v cw:=by
 intro d
 induction d with
 | zero =>
  intro p x v F au hv aY;cases aY with
  | lit aj aN=>exact .lit aj λ_ h=>h
  | aL aN=>exact .aL λ_ h=>h
  | dead aN=>exact .dead λ_ h=>h
  | ref J ao aN=>cases x <;> simp [ab.isRef] at J <;> exact .ref rfl ao λ_ h=>h
  | mp=>exact .ref rfl ⟨⟨_,hv,rfl⟩,⟨_,au⟩⟩ λ_ h=>h
  | imp aN bf a1 bg=>exact .imp (λ_ h=>h) bf a1 bg
  | hK aN=>exact .hK λ_ h=>h
  | bk aN lh bf aB aj h1 aa ao=>exact .bk (λ_ h=>h) lh bf aB aj h1 aa ao
  | cJ aN bf aB h1 aa ao=>exact .cJ (λ_ h=>h) bf aB h1 aa ao
  | own a1 aj h1 ao aS av aN =>
   have IY:=R.own (I:=I) (ρ:=dU w T g) a1 aj h1 ao aS av aN;obtain ⟨a,cap,rfl,aF,_⟩:=IY.nm;exact .ref rfl ⟨⟨a,_,cap,hv,rfl,Nat.le_refl _⟩,.inl ⟨_,_,au,Nat.le_refl _⟩⟩ λ_ h=>h
  | @obj cs b e arr b7 _ a1 aj h1 ao aS av aN =>
   cases cs with
   | nil=>exact .dead λ_ h=>h
   | cons c cs=>exact .ref rfl ⟨⟨_,_,hv,rfl,rfl⟩,⟨_,au,0,0,_,.inr rfl,by simp⟩⟩ λ_ h=>h
  | agg=>exact .dead λ_ h=>h
  | bV=>exact .dead λ_ h=>h
  | cX aN h1 af kB iO=>exact .cX (λ_ h=>h) h1 af kB iO
 | succ d aU =>
  intro p x v F au hv aY;cases aY with
  | lit aj aN=>exact .lit aj λ_ h=>h
  | aL aN=>exact .aL λ_ h=>h
  | dead aN=>exact .dead λ_ h=>h
  | ref J ao aN=>cases x <;> simp [ab.isRef] at J <;> exact .ref rfl ao λ_ h=>h
  | mp=>exact .ref rfl ⟨⟨_,hv,rfl⟩,⟨_,au⟩⟩ λ_ h=>h
  | imp aN bf a1 bg=>exact .imp (λ_ h=>h) bf a1 bg
  | hK aN=>exact .hK λ_ h=>h
  | bk aN lh bf aB aj h1 aa ao=>exact .bk (λ_ h=>h) lh bf aB aj h1 aa ao
  | cJ aN bf aB h1 aa ao=>exact .cJ (λ_ h=>h) bf aB h1 aa ao
  | own a1 aj h1 ao aS av aN =>
   have IY:=R.own (I:=I) (ρ:=dU w T g) a1 aj h1 ao aS av aN;obtain ⟨a,cap,rfl,aF,_⟩:=IY.nm;exact .ref rfl ⟨⟨a,_,cap,hv,rfl,Nat.le_refl _⟩,.inl ⟨_,_,au,Nat.le_refl _⟩⟩ λ_ h=>h
  | @obj cs b e arr b7 _ a1 aj h1 ao aS av aN =>
   cases cs with
   | nil=>exact .dead λ_ h=>h
   | cons c cs=>exact .ref rfl ⟨⟨_,_,hv,rfl,rfl⟩,⟨_,au,0,0,_,.inr rfl,by simp⟩⟩ λ_ h=>h
  | @agg cs vs b7 _ aj h1 ao aS aN =>
   refine .agg (Fs:=λ_=>cw) (by simpa using aj) h1 ?_ (λ_ _ _ _ _ h=>h.elim) (λc=>⟨λh=>h.elim,λ⟨_,_,h⟩=>h⟩);intro k y u ax hu;rw [List.getElem?_mapIdx] at ax;cases hk:cs[k]? with
   | none=>rw [hk] at ax; cases ax
   | some z =>
    rw [hk] at ax;cases ax;exact aU (by rw [tC,au]; exact hk) (by rw [yv,hv]; exact hu) (ao k z u hk hu)
  | @bV cs vs b7 _ aj ao aS aN =>
   refine .bV (Fs:=λ_=>cw) (by simpa using aj) ?_ (λ_ _ _ _ _ h=>h.elim) (λc=>⟨λh=>h.elim,λ⟨_,_,h⟩=>h⟩);intro k y u ax hu;rw [List.getElem?_mapIdx] at ax;cases hk:cs[k]? with
   | none=>rw [hk] at ax; cases ax
   | some z =>
    rw [hk] at ax;cases ax;exact aU (by rw [tC,au]; exact hk) (by rw [yv,hv]; exact hu) (ao k z u hk hu)
  | cX aN h1 af kB iO=>exact .cX (λ_ h=>h) h1 af kB iO
theorem CI {ρ:ab->Value->Prop}(v:Value):R w I ρ (lR v) v cw:=by
 unfold lR;split
 ·exact .aL λ_ h=>h
 ·exact .dead λ_ h=>h
 ·exact .dead λ_ h=>h
 ·rename_i h1 af aI;refine .lit ?_ λ_ h=>h;cases v <;> first | rfl | (exact absurd rfl (af _)) | (exact absurd rfl (aI _))
theorem XK {ρ:ab->Value->Prop}(v:Value):R w I ρ (ofConst v) v cw:=by
 unfold ofConst;split
 ·rename_i vs;split
  ·rename_i hQ;refine .agg (Fs:=λ_=>cw) (by simp) (λk u hu=>?_) ?_ (λ_ _ _ _ _ h=>h.elim) (λc=>⟨λh=>h.elim,λ⟨_,_,h⟩=>h⟩)
   ·exact Array.all_eq_true_iff_forall_mem.1 hQ u (Array.mem_of_getElem? hu)
   ·intro k x u J hu;simp only [List.getElem?_map,Array.getElem?_toList,hu,Option.map_some,Option.some.injEq] at J;subst J;exact CI u
  ·exact .dead λ_ h=>h
 ·exact .dead λ_ h=>h
 ·exact CI v
theorem kh (h:cI w I T g Fs) {x:Operand}{y:ab}(ax:br g x=some y) {a:Act}(aP:a.tmps=T):R w I (dU w T g) y (a.eval x) cw:=by
 cases x with
 | tmp t =>
  simp only [br] at ax;cases J:g t with
  | none=>rw [J] at ax; cases ax
  | some z =>
   rw [J] at ax;simp only [Option.map_some,Option.some.injEq] at ax;obtain ⟨v,hv,aY⟩:=h.rel t z J;have tY:a.eval (.tmp t)=v:=by simp [Act.eval,aP,hv]
   rw [tY];have au:bB g ⟨t,[]⟩=some z:=by simp [bB,J,ab.at]
   have zE:dY w T ⟨t,[]⟩=some v:=by simp [dY,hv,walk]
   subst ax;cases aY with
   | tree aY =>
    cases z with
    | bL=>exact aY.lq.elim
    | _=>exact FP 2 au zE aY
   | @bL j5 n m p new v bv e b9 us news _ aY =>
    simp only [rq];have:∃ a cap,v=.slice a (n+m) cap:=by
     obtain ⟨_,af⟩:=aY.nJ;rcases af with ⟨af,aI⟩ | ⟨b,cap,cur,af,_⟩
     ·exact ⟨none,0,by rw [af]; congr 1; omega⟩
     ·exact ⟨_,cap,af⟩
    obtain ⟨ca,cap,rfl⟩:=this;exact .ref rfl ⟨⟨ca,_,cap,zE,rfl,Nat.le_refl _⟩,.inr ⟨rfl,p,n,m,new,J,rfl⟩⟩ λ_ h=>h
 | const v=>simp only [br,Option.some.injEq] at ax; subst ax; exact XK v
 | global n=>simp [br] at ax
 | func f =>
  simp only [br,Option.some.injEq] at ax;subst ax;exact .cX (λ_ h=>h) rfl rfl (by simp) (by simp)
end
end Go.Own
namespace Go.Own
open Go
def jt (P:Program) (t:TypeId):Bool :=
 match P.underlying t,P.info? t with
 | some (.struct _),_=>false
 | some (.array ..),_=>false
 | some _,some i=>i.size == 1
 | _,_=>false
def iz (P:Program) (t:TypeId) (k:Nat):Bool :=
 match P.underlying t,P.info? t with
 | some (.struct _),some i=>i.size == k
 | some (.array ..),some i=>i.size == k
 | _,_=>false
def fq (P:Program) (t e:TypeId) (z:Nat):Bool :=
 match P.underlying t,P.info? e with
 | some (.slice cj),some i=>cj == e&&i.size == z
 | _,_=>false
def y6 (P:Program) (t e:TypeId) (n z:Nat):Bool :=
 match P.underlying t,P.info? e with
 | some (.array cH cj),some i=>cH == n&&cj == e&&i.size == z
 | _,_=>false
def o2 (P:Program) (t:TypeId):Bool :=
 match P.underlying t with
 | some .string=>true
 | _=>false
def wQ (P:Program) (s d:TypeId):Bool :=
 match P.underlying s,P.underlying d with
 | some (.slice e),some .string=>match P.underlying e with
  | some (.int .u8)=>true
  | _=>false
 | _,_=>false
def hP (P:Program) (s:TypeId) (f off:Nat) (t:TypeId):Bool :=
 match P.underlying s with
 | some (.struct fs) =>
  match fs[f]? with
  | some fd=>fd.offset == off&&fd.type == t&&(match P.info? t with | some i=>i.size != 0 | none=>false)
  | none=>false
 | _=>false
section
variable {P:Program}{w:World}
theorem Hn {t:TypeId}(h:jt P t=true):(isAgg t).run P w=.ok false w/\(sizeOf t).run P w=.ok 1 w:=by
 unfold jt at h;cases hu:P.underlying t with
 | none=>simp [hu] at h
 | some d =>
  cases hi:P.info? t with
  | none=>cases d <;> simp [hu,hi] at h
  | some i=>cases d <;> simp [hu,hi] at h <;> simp [isAgg,run_underlying hu,sizeOf,typeInfo,hi,h]
theorem D4 {t:TypeId}{k:Nat}(h:iz P t k=true):(isAgg t).run P w=.ok true w/\(sizeOf t).run P w=.ok k w:=by
 unfold iz at h;cases hu:P.underlying t with
 | none=>simp [hu] at h
 | some d =>
  cases hi:P.info? t with
  | none=>cases d <;> simp [hu,hi] at h
  | some i=>cases d <;> simp [hu,hi] at h <;> simp [isAgg,run_underlying hu,sizeOf,typeInfo,hi,h]
theorem qK {t e:TypeId}{z:Nat}(h:fq P t e z=true):P.underlying t=some (.slice e)/\P.elem t=e/\(sizeOf e).run P w=.ok z w:=by
 unfold fq at h;cases hu:P.underlying t with
 | none=>simp [hu] at h
 | some d =>
  cases hi:P.info? e with
  | none=>cases d <;> simp [hu,hi] at h
  | some i =>
   cases d <;> simp [hu,hi] at h;obtain ⟨rfl,h⟩:=h;exact ⟨rfl,by simp [Program.elem,hu],by simp [sizeOf,typeInfo,hi,h]⟩
theorem L0 {t e:TypeId}{n z:Nat}(h:y6 P t e n z=true):P.underlying t=some (.array n e)/\(sizeOf e).run P w=.ok z w:=by
 unfold y6 at h;cases hu:P.underlying t with
 | none=>simp [hu] at h
 | some d =>
  cases hi:P.info? e with
  | none=>cases d <;> simp [hu,hi] at h
  | some i =>
   cases d <;> simp [hu,hi] at h;obtain ⟨⟨rfl,rfl⟩,h⟩:=h;exact ⟨rfl,by simp [sizeOf,typeInfo,hi,h]⟩
theorem Mb {s d:TypeId}(h:wQ P s d=true):∃ e,P.underlying s=some (.slice e)/\P.underlying e=some (.int .u8)/\P.underlying d=some .string:=by
 unfold wQ at h
 split at h
 ·rename_i e h1 af
  split at h
  ·rename_i aI;exact ⟨e,h1,aI,af⟩
  ·cases h
 ·cases h
theorem KT {t:TypeId}(h:o2 P t=true):P.underlying t=some .string:=by
 unfold o2 at h;cases hu:P.underlying t with
 | none=>simp [hu] at h
 | some d=>cases d <;> simp [hu] at h; rfl
theorem HH {s:TypeId}{f off:Nat}{t:TypeId}(h:hP P s f off t=true):∃ fs fd,P.underlying s=some (.struct fs)/\fs[f]?=some fd/\fd.offset=off/\fd.type=t/\∃ i,P.info? t=some i/\i.size≠0:=by
 unfold hP at h;cases hu:P.underlying s with
 | none=>simp [hu] at h
 | some d =>
  cases d <;> simp [hu] at h;rename_i fs;cases aW:fs[f]? with
  | none=>simp [aW] at h
  | some fd =>
   simp [aW] at h;obtain ⟨⟨h1,af⟩,aI⟩:=h;cases hi:P.info? t with
   | none=>simp [hi] at aI
   | some i=>simp [hi] at aI; exact ⟨fs,fd,rfl,aW,h1,af,i,rfl,aI⟩
theorem add_eq (b o k:Nat):(⟨b,o,none⟩:Addr).add k=⟨b,o+k,none⟩:=by
 unfold Addr.add;split
 ·rename_i h; subst h; rfl
 ·rfl
theorem PT {s:TypeId}{f off:Nat}{t:TypeId}(h:hP P s f off t=true) (b o:Nat):(Instr.fieldAt s (.pointer (some ⟨b,o,none⟩)) f).run P w=.ok (.pointer (some ⟨b,o+off,none⟩)) w:=by
 obtain ⟨fs,fd,hu,aW,rfl,rfl,i,hi,aQ⟩:=HH h;simp [Instr.fieldAt,run_underlying hu,aW,Instr.sureAddr,fieldPlace,sizeOf,typeInfo,hi,aQ,add_eq]
theorem PV {t:TypeId}(h:jt P t=true) {a:Addr}{v:Value}(aa:w.cell? a=some v):(Instr.loadAt t (.pointer (some a))).run P w=.ok v w:=by
 obtain ⟨h1,af⟩:=Hn (w:=w) h;simp [Instr.loadAt,Instr.sureAddr,loadVar,h1,aa]
theorem PU {t:TypeId}{k:Nat}(h:iz P t k=true) {b o:Nat}{vs:List Value}(aj:vs.length=k) (aa:∀ j v,vs[j]?=some v->w.cell? ⟨b,o+j,none⟩=some v) :
  (Instr.loadAt t (.pointer (some ⟨b,o,none⟩))).run P w=.ok (.agg vs.toArray) w:=by
 obtain ⟨h1,af⟩:=D4 (w:=w) h;have:=run_loadCells_list (P:=P) w ⟨b,o,none⟩ vs (λj v ah=>by rw [add_eq]; exact aa j v ah);rw [aj] at this;simp [Instr.loadAt,Instr.sureAddr,loadVar,h1,af,this]
end
end Go.Own
namespace Go.Own
open Go
section
variable {w:World}{I:bb}{ρ:ab->Value->Prop}{v:Value}{F:bb}
theorem R.hD {a:Value}(h:R w I ρ (.lit a) v F):v=a/\a.oneCell'=true:=by
 cases h with
 | lit hv=>exact ⟨rfl,hv⟩
 | ref J=>simp [ab.isRef] at J
theorem R.sf (h:R w I ρ .aL v F):v=.slice none 0 0:=by
 cases h with
 | aL=>rfl
 | ref J=>simp [ab.isRef] at J
theorem R.nP {p:Place}{k:Nat}(h:R w I ρ (.ptr p k) v F):ρ (.ptr p k) v:=by
 cases h with
 | ref J h=>exact h
theorem R.nc {z:Nat}{p:Place}{n:Nat}(h:R w I ρ (.a6 z p n) v F):ρ (.a6 z p n) v:=by
 cases h with
 | ref J h=>exact h
theorem R.xB {z:Nat}{p:Place}{lo n:Nat}(h:R w I ρ (.sub z p lo n) v F):ρ (.sub z p lo n) v:=by
 cases h with
 | ref J h=>exact h
theorem R.zK {z n:Nat}{cs:List ab}(h:R w I ρ (.bk z n cs) v F):∃ a cap,v=.slice a n cap/\n<=cap/\cs.length=n * z /\
  (cs≠[]\/0<n->∃ (ad:Addr) (us:Nat->Value),a=some ad/\I ad.block/\ad.spot=none/\(∀ (k:Nat) (x:ab),cs[k]?=some x->(us k).oneCell'=true)/\(∀ (k:Nat) (x:ab),cs[k]?=some x->w.cell? ⟨ad.block,ad.off+k,none⟩=some (us k))/\∀ (k:Nat) (x:ab),cs[k]?=some x->R w I ρ x (us k) cw):=by
 cases h with
 | @hK _ cap a=>exact ⟨a,cap,rfl,Nat.zero_le _,by simp,λh=>by simp at h⟩
 | @bk _ _ cap _ ad us _ aN lh bf aB aj h1 aa ao=>exact ⟨_,cap,rfl,lh,aj,λ_=>⟨ad,us,rfl,bf,aB,h1,aa,ao⟩⟩
 | ref J=>simp [ab.isRef] at J
theorem R.xA {cs:List ab}(h:R w I ρ (.cJ cs) v F):∃ (ad:Addr) (us:Nat->Value),v=.pointer (some ad)/\I ad.block/\ad.spot=none/\(∀ (k:Nat) (x:ab),cs[k]?=some x->(us k).oneCell'=true)/\(∀ (k:Nat) (x:ab),cs[k]?=some x->w.cell? ⟨ad.block,ad.off+k,none⟩=some (us k))/\∀ (k:Nat) (x:ab),cs[k]?=some x->R w I ρ x (us k) cw:=by
 cases h with
 | @cJ _ ad us _ aN bf aB h1 aa ao=>exact ⟨ad,us,rfl,bf,aB,h1,aa,ao⟩
 | ref J=>simp [ab.isRef] at J
theorem R.Ck {cs:List ab}(h:R w I ρ (.agg cs) v F) (aN:∀ c,¬ F c):∃ vs:Array Value,v=.agg vs/\cs.length=vs.size/\(∀ (k:Nat) (u:Value),vs[k]?=some u->u.oneCell'=true)/\∀ (k:Nat) (x:ab) (u:Value),cs[k]?=some x->vs[k]?=some u->R w I ρ x u cw:=by
 cases h with
 | @agg _ vs Fs _ aj h1 ao aS pr=>exact ⟨vs,rfl,aj,h1,λk x u J hu=>(ao k x u J hu).empty λc aa=>aN c ((pr c).2 ⟨k,(List.getElem?_eq_some_iff.1 J).1,aa⟩)⟩
 | ref J=>simp [ab.isRef] at J
theorem R.Xm {cs:List ab}(h:R w I ρ (.bV cs) v F) (aN:∀ c,¬ F c):∃ vs:Array Value,v=.tuple vs/\cs.length=vs.size/\∀ (k:Nat) (x:ab) (u:Value),cs[k]?=some x->vs[k]?=some u->R w I ρ x u cw:=by
 cases h with
 | @bV _ vs Fs _ aj ao aS pr=>exact ⟨vs,rfl,aj,λk x u J hu=>(ao k x u J hu).empty λc aa=>aN c ((pr c).2 ⟨k,(List.getElem?_eq_some_iff.1 J).1,aa⟩)⟩
 | ref J=>simp [ab.isRef] at J
theorem R.node {y:ab}{z n:Nat}{cs:List ab}(h:R w I ρ y v F) (ax:y=.own z n cs\/y=.obj cs) {k:Nat}{x:ab}(hk:cs[k]?=some x) :
  ∃ b u,addrOf v=some ⟨b,0,none⟩/\w.cell? ⟨b,k,none⟩=some u/\child w v k=some u/\u.oneCell'=true/\∃ bM,R w I ρ x u bM:=by
 rcases ax with rfl | rfl
 ·cases h with
  | @own _ _ _ _ e us Fs _ a1 aj h1 ao aS av aN =>
   have aT:k<cs.length:=(List.getElem?_eq_some_iff.1 hk).1;have hu:us[k]?=some us[k]:=List.getElem?_eq_getElem (aj ▸ aT);have n9:=pS a1 hu;obtain ⟨l8,af⟩:=a1;rcases af with ⟨rfl,rfl⟩ | ⟨b,cap,cur,rfl,aO,bY,rest⟩
   ·grind
   ·exact ⟨b,_,rfl,by simpa [child] using n9,n9,h1 k _ hu,Fs k,ao k x _ hk hu⟩
  | ref J=>simp [ab.isRef] at J
 ·cases h with
  | @obj _ b e arr Fs _ a1 aj h1 ao aS av aN =>
   have aT:k<cs.length:=(List.getElem?_eq_some_iff.1 hk).1;have hu:arr[k]?=some arr[k]:=Array.getElem?_eq_getElem (aj ▸ aT);exact ⟨b,_,rfl,by simp [World.cell?,a1,hu],by simp [child,World.cell?,a1,hu],h1 k _ hu,Fs k,ao k x _ hk hu⟩
  | ref J=>simp [ab.isRef] at J
end
def p4 (g:aK) (d:Nat):Option Operand->Nat->Prop
 | none,j=>j=d
 | some o,j=>∃ k,br g o=some (.lit (.int k (j:Int)))
inductive c6 (P:Program) (g:aK):Op->TypeId->ab->Prop
 | move {x:Operand}{ty:TypeId}{y:ab}(J:br g x=some y):c6 P g (.move x) ty y
 | assign {x:Operand}{ty:TypeId}{y:ab}(J:br g x=some y):c6 P g (.assign x) ty y
 | pick {c a b:Operand}{ty:TypeId}{t:Bool}{r:ab}(aa:br g c=some (.lit (.bool t))) (ao:br g (if t then a else b)=some r):c6 P g (.pick c a b) ty r
 | Fq {x:Operand}{ty:TypeId}{p:Place}{k:Nat}(J:br g x=some (.ptr p k)):c6 P g (.nilCheck x) ty (.ptr p k)
 | qB {x:Operand}{ty:TypeId}{cs:List ab}(J:br g x=some (.cJ cs)):c6 P g (.nilCheck x) ty (.cJ cs)
 | Bq {x:Operand}{ty s t:TypeId}{f off:Nat}{p:Place}{k:Nat}(J:br g x=some (.ptr p k)) (aW:hP P s f off t=true) (db:gE g (.ptr p (k+off))):c6 P g (.fieldAddr s x f) ty (.ptr p (k+off))
 | Eo {x:Operand}{ty s t:TypeId}{f off:Nat}{cs:List ab}(J:br g x=some (.cJ cs)) (aW:hP P s f off t=true):c6 P g (.fieldAddr s x f) ty (.cJ (cs.drop off))
 | En {x:Operand}{ty s t:TypeId}{f off:Nat}{cs:List ab}{y:ab}(J:br g x=some (.agg cs)) (aW:hP P s f off t=true) (aw:jt P t=true) (ax:cs[off]?=some y):c6 P g (.field s x f) ty y
 | HF {x:Operand}{ty s t:TypeId}{f off k:Nat}{cs:List ab}(J:br g x=some (.agg cs)) (aW:hP P s f off t=true) (aw:iz P t k=true) (hk:off+k<=cs.length):c6 P g (.field s x f) ty (.agg ((cs.drop off).take k))
 | E4 {x i:Operand}{ty t e:TypeId}{z n:Nat}{cs:List ab}{nR:IntKind}{j:Nat}(J:br g x=some (.bk z n cs)) (hi:br g i=some (.lit (.int nR (j:Int)))) (aw:fq P t e z=true) (ah:j<n):c6 P g (.indexAddr t x i) ty (.cJ (cs.drop (j * z)))
 | E3 {x i:Operand}{ty t e:TypeId}{z n:Nat}{p:Place}{nR:IntKind}{j:Nat}(J:br g x=some (.a6 z p n)) (hi:br g i=some (.lit (.int nR (j:Int)))) (aw:fq P t e z=true) (ah:j<n) (db:gE g (.ptr p (j * z))):c6 P g (.indexAddr t x i) ty (.ptr p (j * z))
 | Jv {x i:Operand}{ty t e:TypeId}{z lo n:Nat}{p:Place}{nR:IntKind}{j:Nat}(J:br g x=some (.sub z p lo n)) (hi:br g i=some (.lit (.int nR (j:Int)))) (aw:fq P t e z=true) (ah:j<n) (db:gE g (.ptr p ((lo+j) * z))):c6 P g (.indexAddr t x i) ty (.ptr p ((lo+j) * z))
 | E2 {x i:Operand}{ty t e:TypeId}{n z k:Nat}{p:Place}{nR:IntKind}{j:Nat}(J:br g x=some (.ptr p k)) (hi:br g i=some (.lit (.int nR (j:Int)))) (aw:y6 P t e n z=true) (ah:j<n) (db:gE g (.ptr p (k+j * z))):c6 P g (.indexAddr t x i) ty (.ptr p (k+j * z))
 | Ju {x i:Operand}{ty t e:TypeId}{n z:Nat}{cs:List ab}{nR:IntKind}{j:Nat}(J:br g x=some (.cJ cs)) (hi:br g i=some (.lit (.int nR (j:Int)))) (aw:y6 P t e n z=true) (ah:j<n):c6 P g (.indexAddr t x i) ty (.cJ (cs.drop (j * z)))
 | Fh {x:Operand}{ty t:TypeId}{c:ab}{cs:List ab}(J:br g x=some (.cJ (c::cs))) (aw:jt P t=true):c6 P g (.load t x) ty c
 | Fi {x:Operand}{ty t:TypeId}{k:Nat}{cs:List ab}(J:br g x=some (.cJ cs)) (aw:iz P t k=true) (hk:k<=cs.length):c6 P g (.load t x) ty (.agg (cs.take k))
 | Cy {x:Operand}{ty t:TypeId}{p:Place}{k:Nat}{y:ab}(J:br g x=some (.ptr p k)) (aw:jt P t=true) (ax:bB g (p.push k)=some y):c6 P g (.load t x) ty (gw 0 (p.push k) y)
 | xO {x:Operand}{ty t:TypeId}{p:Place}{k m z n:Nat}{y:ab}{cs:List ab}(J:br g x=some (.ptr p k)) (aw:iz P t m=true) (ax:bB g p=some y) (aa:y=.own z n cs\/y=.obj cs) (hm:k+m<=cs.length):c6 P g (.load t x) ty (.agg (((cs.drop k).take m).mapIdx λi x=>gw 0 (p.push (k+i)) x))
 | E5 {x i:Operand}{ty t:TypeId}{s:ByteArray}{nR:IntKind}{j:Nat}{b:UInt8}(J:br g x=some (.lit (.string s))) (hi:br g i=some (.lit (.int nR (j:Int)))) (aw:o2 P t=true) (av:s[j]?=some b):c6 P g (.index t x i) ty (.lit (.int .u8 b.toNat))
 | bin {op:BinOp}{x y:Operand}{ty t t2:TypeId}{a b v:Value}(J:br g x=some (.lit a)) (ax:br g y=some (.lit b)) (hv:v.oneCell'=true) (ao:∀ w,(do eqGuard op t x y a b; binOp op t a b:Sem Value).run P w=.ok v w):c6 P g (.binOp op t x y t2) ty (.lit v)
 | A_ {op:BinOp}{x y:Operand}{ty t t2:TypeId}{az df:List Value}{v:Value}(J:br g x=some (.agg (az.map .lit))) (ax:br g y=some (.agg (df.map .lit))) (hv:v.oneCell'=true) (ao:∀ w,(do eqGuard op t x y (.agg az.toArray) (.agg df.toArray); binOp op t (.agg az.toArray) (.agg df.toArray):Sem Value).run P w=.ok v w):c6 P g (.binOp op t x y t2) ty (.lit v)
 | un {op:UnOp}{x:Operand}{ty t:TypeId}{a v:Value}(J:br g x=some (.lit a)) (hv:v.oneCell'=true) (ao:∀ w,(Op.unary op a).run P w=.ok v w):c6 P g (.unOp op t x) ty (.lit v)
 | conv {x:Operand}{ty s d:TypeId}{a v:Value}(J:br g x=some (.lit a)) (hv:v.oneCell'=true) (ao:∀ w,(convert s d a).run P w=.ok v w):c6 P g (.convert s d x) ty (.lit v)
 | Ed {x:Operand}{ty s d:TypeId}{n N:Nat}{p:Place}{cs:List ab}{xs:List Int}(J:br g x=some (.a6 1 p n)) (au:bB g p=some (.own 1 N cs)) (aF:n<=N) (hJ:cs.take n=xs.map λb=>.lit (.int .u8 b)) (aw:wQ P s d=true):c6 P g (.convert s d x) ty (.lit (.string (strOfNums xs)))
 | Ee {x:Operand}{ty s d:TypeId}{n:Nat}{xs:List Int}(J:br g x=some (.bk 1 n (xs.map λb=>.lit (.int .u8 b)))) (aw:wQ P s d=true):c6 P g (.convert s d x) ty (.lit (.string (strOfNums xs)))
 | HC {xs:Array Operand}{gq:Array TypeId}{ty:TypeId}{f:FuncId}{vs:List Value}{v:Value}(J:xs.toList.map (br g)=vs.map λv=>some (.lit v)) (hv:v.oneCell'=true)
   (ao:∀ w,(callFunc f vs.toArray).run P w=.ok (.value v) w):c6 P g (.call { callee:=.value (.func f),args:=xs,argTypes:=gq }) ty (.lit v)
 | Ek {x:Operand}{ty:TypeId}{i:Nat}{cs:List ab}{y:ab}(J:br g x=some (.bV cs)) (ax:cs[i]?=some y):c6 P g (.extract x i) ty y
 | AE {x:Operand}{lo hi:Option Operand}{ty t e:TypeId}{z n l h:Nat}{cs:List ab}(J:br g x=some (.bk z n cs)) (aj:p4 g 0 lo l) (bY:p4 g n hi h) (aw:fq P t e z=true) (sM:l<=h) (aF:h<=n):c6 P g (.slice t x lo hi none) ty (.bk z (h - l) ((cs.drop (l * z)).take ((h - l) * z)))
 | KQ {x:Operand}{lo hi:Option Operand}{ty t e:TypeId}{z n h:Nat}{p:Place}(J:br g x=some (.a6 z p n)) (aj:p4 g 0 lo 0) (bY:p4 g n hi h) (aw:fq P t e z=true) (aF:h<=n) (db:gE g (.a6 z p h)):c6 P g (.slice t x lo hi none) ty (.a6 z p h)
 | F8 {x:Operand}{lo hi:Option Operand}{ty t e:TypeId}{z n l h:Nat}{p:Place}(J:br g x=some (.a6 z p n)) (aj:p4 g 0 lo l) (bY:p4 g n hi h) (aw:fq P t e z=true) (sM:l<=h) (aF:h<=n) (db:gE g (.sub z p l (h - l))):c6 P g (.slice t x lo hi none) ty (.sub z p l (h - l))
 | AF {x:Operand}{lo hi:Option Operand}{ty t:TypeId}{l h:Nat}{s:ByteArray}(J:br g x=some (.lit (.string s))) (aj:p4 g 0 lo l) (bY:p4 g s.size hi h) (aw:o2 P t=true) (sM:l<=h) (aF:h<=s.size):c6 P g (.slice t x lo hi none) ty (.lit (.string (s.extract l h)))
 | Cv {x:Operand}{ty t e:TypeId}{z bC n:Nat}{cs:List ab}(J:br g x=some (.bk z n cs)) (aw:fq P t e bC=true):c6 P g (.call { callee:=.builtin .len,args:=#[x],argTypes:=#[t] }) ty (.lit (.int .i64 n))
 | Cu {x:Operand}{ty t e:TypeId}{z bC n:Nat}{p:Place}(J:br g x=some (.a6 z p n)) (aw:fq P t e bC=true):c6 P g (.call { callee:=.builtin .len,args:=#[x],argTypes:=#[t] }) ty (.lit (.int .i64 n))
 | JQ {x:Operand}{ty t e:TypeId}{z bC lo n:Nat}{p:Place}(J:br g x=some (.sub z p lo n)) (aw:fq P t e bC=true):c6 P g (.call { callee:=.builtin .len,args:=#[x],argTypes:=#[t] }) ty (.lit (.int .i64 n))
 | JP {x:Operand}{ty t e:TypeId}{bC:Nat}(J:br g x=some .aL) (aw:fq P t e bC=true):c6 P g (.call { callee:=.builtin .len,args:=#[x],argTypes:=#[t] }) ty (.lit (.int .i64 0))
 | lits {b:Builtin}{xs:Array Operand}{gq:Array TypeId}{ty:TypeId}{vs:List Value}{v:Value}(J:xs.toList.map (br g)=vs.map λv=>some (.lit v)) (hv:v.oneCell'=true)
   (ao:∀ w (cs:Array Bool),(builtin b gq ty cs vs.toArray).run P w=.ok (.value v) w):c6 P g (.call { callee:=.builtin b,args:=xs,argTypes:=gq }) ty (.lit v)
 | Fg {x y:Operand}{ty t:TypeId}{p:Place}{q:Array MapEntry->Nat->Prop}{ok:Bool}{Y X:ab}{oj V:Value}(J:br g x=some (.gz p)) (au:bB g p=some (.mp q)) (ax:br g y=some Y)
   (di:∀ (w:World) (I:bb) (ρ:ab->Value->Prop) (v:Value),R w I ρ Y v cw->v=oj) (aY:∀ (w:World) (I:bb) (ρ:ab->Value->Prop),R w I ρ X V cw)
   (ao:∀ (w:World) (b:Nat) (es:Array MapEntry) (clock:Nat),w.heap[b]?=some (.map es clock)->q es clock->(Instr.lookup t (.map (some b)) oj ok).run P w=.ok V w):c6 P g (.lookup t x y ok) ty X
 | Cx {x y:Operand}{ty t:TypeId}{q:Array MapEntry->Nat->Prop}{ok:Bool}{Y X:ab}{oj V:Value}(J:br g x=some (.imp q)) (ax:br g y=some Y)
   (di:∀ (w:World) (I:bb) (ρ:ab->Value->Prop) (v:Value),R w I ρ Y v cw->v=oj) (aY:∀ (w:World) (I:bb) (ρ:ab->Value->Prop),R w I ρ X V cw)
   (ao:∀ (w:World) (b:Nat) (es:Array MapEntry) (clock:Nat),w.heap[b]?=some (.map es clock)->q es clock->(Instr.lookup t (.map (some b)) oj ok).run P w=.ok V w):c6 P g (.lookup t x y ok) ty X
theorem R.OJ {w:World}{I:bb}{ρ:ab->Value->Prop}{p:Place}{v:Value}{F:bb}(h:R w I ρ (.gz p) v F):ρ (.gz p) v:=by
 cases h with
 | ref _ h _=>exact h
theorem R.Jy {w:World}{I:bb}{ρ:ab->Value->Prop}{q:Array MapEntry->Nat->Prop}{v:Value}{F:bb}(h:R w I ρ (.mp q) v F):∃ b es clock,v=.map (some b)/\w.heap[b]?=some (.map es clock)/\q es clock/\∀ c,F c↔c=b:=by
 cases h with
 | ref J=>simp [ab.isRef] at J
 | mp a1 bg aN=>exact ⟨_,_,_,rfl,a1,bg,aN⟩
theorem R.Xl {w:World}{I:bb}{ρ:ab->Value->Prop}{q:Array MapEntry->Nat->Prop}{v:Value}{F:bb}(h:R w I ρ (.imp q) v F):∃ b es clock,v=.map (some b)/\w.heap[b]?=some (.map es clock)/\q es clock:=by
 cases h with
 | ref J=>simp [ab.isRef] at J
 | imp _ _ a1 bg=>exact ⟨_,_,_,rfl,a1,bg⟩
end Go.Own
namespace Go.Own
open Go
section
variable {P:Program}{w:World}{I:bb}{T:Array Value}{g:aK}{Fs:Nat->bb}
theorem p4.sound (h:cI w I T g Fs) {d:Nat}{x:Option Operand}{j:Nat}(av:p4 g d x j) {a:Act}(aP:a.tmps=T):(x.map a.eval=none/\j=d)\/∃ k,x.map a.eval=some (.int k (j:Int)):=by
 cases x with
 | none=>exact .inl ⟨rfl,av⟩
 | some o =>
  obtain ⟨k,hk⟩:=av;exact .inr ⟨k,by rw [Option.map_some,(kh h hk aP).hD.1]⟩
theorem FV {len cap l h:Nat}{lo hi:Option Value}(aj:(lo=none/\l=0)\/∃ k,lo=some (.int k (l:Int))) (bY:(hi=none/\h=len)\/∃ k,hi=some (.int k (h:Int))) (b:Bool) (sM:l<=h) (aa:h<=cap) :
  (Instr.sliceBounds b len cap lo hi none).run P w=.ok (l,h,cap) w:=by
 rcases aj with ⟨rfl,rfl⟩ | ⟨k,rfl⟩ <;> rcases bY with ⟨rfl,rfl⟩ | ⟨k1,rfl⟩ <;> simp [Instr.sliceBounds,Instr.sliceBound,asIntOf,sM,aa]
theorem OV (h:cI w I T g Fs) {a:Act}(aP:a.tmps=T):∀ (xs:List Operand) (vs:List Value),xs.map (br g)=vs.map (λv=>some (.lit v))->xs.map a.eval=vs
 | [],[],_=>rfl
 | [],_::_,h=>by simp at h
 | _::_,[],h=>by simp at h
 | x::xs,v::vs,J=>by
  simp only [List.map_cons,List.cons.injEq] at J;rw [List.map_cons,(kh h J.1 aP).hD.1,OV h aP xs vs J.2]
theorem LM {w:World}{I:bb}{ρ:ab->Value->Prop}{v:Value}{az:List Value}
  (h:∃ vs:Array Value,v=.agg vs/\(az.map ab.lit).length=vs.size/\(∀ (k:Nat) (u:Value),vs[k]?=some u->u.oneCell'=true)/\∀ (k:Nat) (x:ab) (u:Value),(az.map ab.lit)[k]?=some x->vs[k]?=some u->R w I ρ x u cw):v=.agg az.toArray:=by
 obtain ⟨vs,rfl,aj,-,ao⟩:=h;congr 1;apply Array.ext (by simpa using aj.symm);intro i h1 af;have aI:i<az.length:=by simpa using af
 have:=(ao i (.lit az[i]) vs[i] (by simp [aI]) (Array.getElem?_eq_getElem h1)).hD.1
 grind
theorem c6.sound (h:cI w I T g Fs) {a:Act}(aP:a.tmps=T) {o:Oper}{kL:ab}(au:c6 P g o.op o.type kL) :
  ∃ v,(execOp a.eval o).run P w=.ok (.value v) w/\R w I (dU w T g) kL v cw:=by
 obtain ⟨dst,op,ty,pos,after,guard⟩:=o;simp only at au;have f':∀ {x:Operand}{y:ab},br g x=some y->R w I (dU w T g) y (a.eval x) cw:=λax=>kh h ax aP;have no:∀ c,¬ cw c:=λ_ h=>h;cases au with
 | move J=>exact ⟨_,by simp [execOp],f' J⟩
 | assign J=>exact ⟨_,by simp [execOp],f' J⟩
 | @pick c x y _ t r aa ao =>
  have vh:=(f' aa).hD.1;refine ⟨_,?_,f' ao⟩;simp [execOp,vh,asBool]
  grind
 | @Fq x _ p k J =>
  have ao:=f' J;obtain ⟨⟨u,ad,h1,af,aI⟩,bF⟩:=ao.nP
  simp_all [execOp]
 | @qB x _ cs J =>
  have ao:=f' J;obtain ⟨ad,us,aI,_⟩:=ao.xA
  simp_all [execOp]
 | @Bq x _ s t f off p k J aW db =>
  obtain ⟨⟨u,ad,h1,af,aI⟩,bF⟩:=(f' J).nP;refine ⟨.pointer (some ⟨ad.block,ad.off+k+off,none⟩),by simp [execOp,aI,PT aW],.ref rfl ⟨⟨u,ad,h1,af,by rw [Nat.add_assoc]⟩,db⟩ no⟩
 | @Eo x _ s t f off cs J aW =>
  obtain ⟨ad,us,aI,bf,aB,hy,aa,ao⟩:=(f' J).xA;obtain ⟨b,o,sp⟩:=ad;simp only at aB;subst aB;refine ⟨.pointer (some ⟨b,o+off,none⟩),by simp [execOp,aI,PT aW],.cJ (us:=λk=>us (off+k)) no bf rfl (λk x hk=>hy _ x (by rwa [List.getElem?_drop] at hk)) (λk x hk=>?_) λk x hk=>?_⟩
  ·grind
  grind
 | @En x _ s t f off cs y J aW aw ax =>
  obtain ⟨vs,aI,aj,hy,ao⟩:=(f' J).Ck no;obtain ⟨fs,fd,hu,Ix,rfl,rfl,i,hi,aQ⟩:=HH aW;have hk:fd.offset<cs.length:=(List.getElem?_eq_some_iff.1 ax).1;have hv:vs[fd.offset]?=some vs[fd.offset]:=Array.getElem?_eq_getElem (aj ▸ hk);refine ⟨_,?_,ao _ kL _ ax hv⟩;simp [execOp,aI,Instr.field,run_underlying hu,Ix,asAgg,part,(Hn (w:=w) aw).1,hv]
 | @HF x _ s t f off k cs J aW aw hk =>
  obtain ⟨vs,aI,aj,hy,ao⟩:=(f' J).Ck no;obtain ⟨fs,fd,hu,Ix,rfl,rfl,i,hi,aQ⟩:=HH aW;refine ⟨.agg (vs.extract fd.offset (fd.offset+k)),?_,.agg (Fs:=λ_=>cw) (by simp [aj]; omega) (λj u jR=>by
   rw [Array.getElem?_extract] at jR
   grind) (λj y u ax jR=>?_) (λ_ _ _ _ _ h=>h.elim) (λc=>⟨λh=>h.elim,λ⟨_,_,h⟩=>h⟩)⟩
  ·simp [execOp,aI,Instr.field,run_underlying hu,Ix,asAgg,part,(D4 (w:=w) aw).1,(D4 (w:=w) aw).2]
  grind
 | @E4 x i _ t e z n cs nR j J hi aw ah =>
  obtain ⟨hu,he,aX⟩:=qK (w:=w) aw;obtain ⟨lG,cap,aI,_,aj,hm⟩:=(f' J).zK;obtain ⟨ad,us,rfl,bf,aB,hy,aa,ao⟩:=hm (.inr (by omega));obtain ⟨b,o,sp⟩:=ad;simp only at aB;subst aB;have sL:=(f' hi).hD.1;refine ⟨.pointer (some ⟨b,o+j * z,none⟩),?_,.cJ (us:=λk=>us (j * z+k)) no bf rfl (λk x hk=>hy _ x (by rwa [List.getElem?_drop] at hk)) (λk x hk=>?_) λk x hk=>?_⟩
  ·simp [execOp,aI,sL,Instr.indexAt,run_underlying hu,asIntOf,ah,aX,add_eq]
  ·grind
  grind
 | @E3 x i _ t e z n p nR j J hi aw ah db =>
  obtain ⟨hu,he,aX⟩:=qK (w:=w) aw;obtain ⟨⟨lG,N,cap,h1,af,aI⟩,bF⟩:=(f' J).nc;have sL:=(f' hi).hD.1;obtain ⟨y,ax,j5,dy,cs,eM,aT⟩:=db;obtain ⟨v,cz,hv,dH,_⟩:=h.part ax (by rcases eM with rfl | rfl <;> simp);rw [h1] at hv;cases hv;obtain ⟨b,u,fP,l5,_,_⟩:=dH.node eM (List.getElem?_eq_getElem aT);cases lG with
  | none=>simp [addrOf] at fP
  | some ad =>
   simp only [addrOf,Option.some.injEq] at fP;subst fP;refine ⟨.pointer (some ⟨b,j * z,none⟩),?_,.ref rfl ⟨⟨_,_,h1,rfl,by simp⟩,y,ax,j5,dy,cs,eM,aT⟩ no⟩;simp [execOp,af,sL,Instr.indexAt,run_underlying hu,asIntOf,ah,aX,add_eq]
 | @Jv x i _ t e z lo n p nR j J hi aw ah db =>
  obtain ⟨hu,he,aX⟩:=qK (w:=w) aw;obtain ⟨⟨lG,N,cap,ca,mQ,h1,af,_,aI,cG⟩,bF⟩:=(f' J).xB;obtain ⟨ad,rfl,rfl⟩:=cG (by omega);have sL:=(f' hi).hD.1;obtain ⟨y,ax,j5,dy,cs,eM,aT⟩:=db;obtain ⟨v,cz,hv,dH,_⟩:=h.part ax (by rcases eM with rfl | rfl <;> simp);rw [h1] at hv;cases hv;obtain ⟨b,u,fP,l5,_,_⟩:=dH.node eM (List.getElem?_eq_getElem aT);simp only [addrOf,Option.some.injEq] at fP;subst fP;refine ⟨.pointer (some ⟨b,(lo+j) * z,none⟩),?_,.ref rfl ⟨⟨_,_,h1,rfl,by simp⟩,y,ax,j5,dy,cs,eM,aT⟩ no⟩;simp [execOp,af,sL,Instr.indexAt,run_underlying hu,asIntOf,ah,aX,add_eq,Nat.add_mul]
 | @E2 x i _ t e n z k p nR j J hi aw ah db =>
  obtain ⟨hu,aX⟩:=L0 (w:=w) aw;obtain ⟨⟨u,ad,h1,af,aI⟩,bF⟩:=(f' J).nP;have sL:=(f' hi).hD.1;refine ⟨.pointer (some ⟨ad.block,ad.off+k+j * z,none⟩),?_,.ref rfl ⟨⟨u,ad,h1,af,by rw [Nat.add_assoc]⟩,db⟩ no⟩;simp [execOp,aI,sL,Instr.indexAt,run_underlying hu,Instr.sureAddr,asIntOf,ah,aX,add_eq]
 | @Ju x i _ t e n z cs nR j J hi aw ah =>
  obtain ⟨hu,aX⟩:=L0 (w:=w) aw;obtain ⟨ad,us,aI,bf,aB,hy,aa,ao⟩:=(f' J).xA;obtain ⟨b,o,sp⟩:=ad;simp only at aB;subst aB;have sL:=(f' hi).hD.1;refine ⟨.pointer (some ⟨b,o+j * z,none⟩),?_,.cJ (us:=λk=>us (j * z+k)) no bf rfl (λk x hk=>hy _ x (by rwa [List.getElem?_drop] at hk)) (λk x hk=>?_) λk x hk=>?_⟩
  ·simp [execOp,aI,sL,Instr.indexAt,run_underlying hu,Instr.sureAddr,asIntOf,ah,aX,add_eq]
  ·grind
  grind
 | @Fh x _ t c cs J aw =>
  obtain ⟨ad,us,aI,bf,aB,hy,aa,ao⟩:=(f' J).xA;obtain ⟨b,o,sp⟩:=ad;simp only at aB;subst aB;have aQ:w.cell? ⟨b,o,none⟩=some (us 0):=by simpa using aa 0 kL rfl
  simp_all [execOp,PV]
 | @Fi x _ t k cs J aw hk =>
  obtain ⟨ad,us,aI,bf,aB,hy,aa,ao⟩:=(f' J).xA;obtain ⟨b,o,sp⟩:=ad;simp only at aB;subst aB;have VX:∀ j v,((List.range k).map us)[j]?=some v->w.cell? ⟨b,o+j,none⟩=some v:=by
   grind
  refine ⟨.agg ((List.range k).map us).toArray,by simp [execOp,aI,PU aw (by simp) VX],.agg (Fs:=λ_=>cw) (by simp; omega) (λj u jR=>by
   grind) (λj y u ax jR=>?_) (λ_ _ _ _ _ h=>h.elim) (λc=>⟨λh=>h.elim,λ⟨_,_,h⟩=>h⟩)⟩
  grind
 | @Cy x _ t p k y J aw ax =>
  obtain ⟨⟨u,ad,h1,af,aI⟩,bF⟩:=(f' J).nP;rw [tC] at ax;cases aF:bB g p with
  | none=>rw [aF] at ax; cases ax
  | some nd =>
   rw [aF] at ax;simp only [Option.bind_some] at ax;obtain ⟨y',oS,j5,dy,cs,eM,aT⟩:=bF;rw [aF] at oS;cases oS;obtain ⟨v,cz,hv,dH,dx⟩:=h.part aF (by rcases eM with rfl | rfl <;> simp);rw [h1] at hv;cases hv;have h':cs[k]?=some y:=by rcases eM with rfl | rfl <;> simpa [ab.kids] using ax
   obtain ⟨b,hb,fP,l5,n9,hy,bM,kT⟩:=dH.node eM h';rw [fP] at af;cases af;refine ⟨hb,by simp only [execOp,aI]; simp [PV aw l5],FP 0 (by rw [tC,aF]; exact ax) (by rw [yv,h1]; exact n9) kT⟩
 | @xO x _ t p k m z n y cs J aw ax eM hm =>
  obtain ⟨⟨u,ad,h1,af,aI⟩,bF⟩:=(f' J).nP;obtain ⟨v,cz,hv,dH,dx⟩:=h.part ax (by rcases eM with rfl | rfl <;> simp);rw [h1] at hv;cases hv;have vf:∃ b,ad=⟨b,0,none⟩:=by
   obtain ⟨y',oS,j5,dy,cs',OC,aT⟩:=bF;rw [ax] at oS;cases oS;have:cs'=cs:=by rcases eM with rfl | rfl <;> rcases OC with bY | bY <;> cases bY <;> rfl
   subst this;obtain ⟨b,hb,fP,_⟩:=dH.node OC (List.getElem?_eq_getElem aT)
   grind
  obtain ⟨b,rfl⟩:=vf;have IH:y.kids=cs:=by rcases eM with rfl | rfl <;> rfl
  have cell:∀ j,j<m->∃ hb,w.cell? ⟨b,k+j,none⟩=some hb/\hb.oneCell'=true/\∃ lW,cs[k+j]?=some lW/\R w I (dU w T g) (gw 0 (p.push (k+j)) lW) hb cw:=by
   intro j ah;have gj:cs[k+j]?=some cs[k+j]:=List.getElem?_eq_getElem (by omega);obtain ⟨eC,hb,fP,l5,n9,hy,bM,kT⟩:=dH.node eM gj;rw [af] at fP;cases fP;exact ⟨hb,l5,hy,_,gj,FP 0 (by rw [tC,ax]; simp [IH]) (by rw [yv,h1]; exact n9) kT⟩
  have hex:∃ us:List Value,us.length=m/\∀ j v,us[j]?=some v->w.cell? ⟨b,k+j,none⟩=some v:=by
   refine ⟨(List.range m).map λj=>(w.cell? ⟨b,k+j,none⟩).getD undef,by simp,?_⟩
   grind
  obtain ⟨us,oc,Ww⟩:=hex;refine ⟨.agg us.toArray,by simp only [execOp,aI]; simp [PU aw oc (b:=b) (o:=k) Ww],.agg (Fs:=λ_=>cw) (by simp; omega) (λj u jR=>by
   grind) (λj jk u vA jR=>?_) (λ_ _ _ _ _ h=>h.elim) (λc=>⟨λh=>h.elim,λ⟨_,_,h⟩=>h⟩)⟩
  grind
 | @Ed x _ s d n N p cs xs J au aF hJ aw =>
  obtain ⟨e,aB,he,aS⟩:=Mb aw;obtain ⟨⟨lG,i_,cap,h1,af,aI⟩,_⟩:=(f' J).nc;obtain ⟨v,cz,hv,dH,dx⟩:=h.part au (by simp);rw [h1] at hv;cases hv;have gX:(cs.take n).length=n:=by
   obtain ⟨_,_,_,aj⟩:=dH.nm
   grind
  have hlen:xs.length=n:=by rw [<- gX,hJ,List.length_map]
  refine ⟨_,?_,.lit rfl no⟩;obtain ⟨_,_,jd,_,_,ra,rb⟩:=dH.nm;cases jd;cases lG with
  | none =>
   have aQ:n=0:=by
    grind
   have:xs=[]:=List.eq_nil_of_length_eq_zero (hlen.trans aQ);subst this;have ao:=run_convert_bytes_nil (P:=P) (w:=w) s e aB he n cap d aS;simp [execOp,af,ao];rfl
  | some ad =>
   obtain ⟨b,o,sp⟩:=ad;obtain ⟨rfl,rfl⟩:=ra _ rfl;have ao:=run_convert_bytes_arg (P:=P) w s e aB he b 0 n cap xs hlen (λi hi=>by
    have Iq:(cs.take n)[i]?=some (.lit (.int .u8 (xs.getD i 0))):=by
     grind
    have Vs:cs[i]?=some (.lit (.int .u8 (xs.getD i 0))):=by
     grind
    obtain ⟨eC,u,fP,l5,_,_,bM,kT⟩:=dH.node (.inl rfl) Vs;simp only [addrOf,Option.some.injEq,Addr.mk.injEq,and_true] at fP;subst fP;rw [Nat.zero_add,l5,kT.hD.1]) d aS
   simp_all [execOp]
 | @Ee x _ s d n xs J aw =>
  obtain ⟨e,aB,he,aS⟩:=Mb aw;have aY:=f' J;generalize tY:a.eval x=v at aY;refine ⟨_,?_,.lit rfl no⟩;generalize hJ:(xs.map λb=>ab.lit (.int .u8 b))=cs at aY;cases aY with
  | ref J=>simp [ab.isRef] at J
  | @hK _ cap lG _ aN =>
   have:xs=[]:=by simpa using hJ
   subst this;cases lG with
   | none =>
    have ao:=run_convert_bytes_nil (P:=P) (w:=w) s e aB he 0 cap d aS;simp [execOp,tY,ao];rfl
   | some ad =>
    have aj:(loadCells ad 0).run P w=.ok (([]:List Int).map (Value.int .u8)).toArray w:=by
     have:=run_loadCells_list (P:=P) w ad [] (λj v ah=>by simp at ah)
     grind
    have ao:=run_bytesToString w ad 0 cap [] aj;have aa:=run_convert_bytes_string (P:=P) w s d e (some ad) 0 cap aB he aS;rw [ao] at aa;simp [execOp,tY,aa];rfl
  | @bk _ _ cap _ ad us _ aN lh bf ln aj h1 aa ao =>
   obtain ⟨b,o,sp⟩:=ad;simp only at ln;subst ln;have hlen:xs.length=n:=by rw [<- List.length_map (f:=λb=>ab.lit (.int .u8 b)),hJ,aj,Nat.mul_one]
   have ed:=run_convert_bytes_arg (P:=P) w s e aB he b o n cap xs hlen (λi hi=>by
    have Iq:cs[i]?=some (.lit (.int .u8 (xs.getD i 0))):=by
     grind
    have:=aa i _ Iq;simp only at this;rw [this,(ao i _ Iq).hD.1]) d aS
   simp_all [execOp]
 | @HC xs gq _ f vs v J hv ao =>
  refine ⟨v,?_,.lit hv no⟩;have xo:xs.map a.eval=vs.toArray:=by
   apply Array.toList_inj.1;apply List.ext_getElem?;intro k;have:=congrArg (·[k]?) J;simp only [List.getElem?_map] at this;rw [Array.toList_map,List.getElem?_map];cases hk:xs.toList[k]? with
   | none =>
    grind
   | some o =>
    rw [hk] at this;cases hv:vs[k]? with
    | none=>rw [hv] at this; cases this
    | some v =>
     rw [hv] at this;simp only [Option.map_some,Option.some.injEq] at this ⊢;rw [(f' this).hD.1]
  have aW:a.eval (.func f)=.func (.func f) #[] #[]:=rfl
  simp_all [execOp,resolve,Deferred.ofValue,invoke]
 | @E5 x i _ t s nR j b J hi aw av =>
  have vr:=(f' J).hD.1;have sL:=(f' hi).hD.1;refine ⟨.int .u8 b.toNat,?_,.lit rfl no⟩
  simp_all [execOp,Instr.index,run_underlying,KT,asIntOf]
 | @bin op x y _ t t2 ca b v J ax hv ao =>
  have h1:=(f' J).hD.1;have af:=(f' ax).hD.1;refine ⟨v,?_,.lit hv no⟩
  grind [execOp,Sem.run_bind,Result.andThen_ok,Sem.run_pure]
 | @A_ op x y _ t t2 az df v J ax hv ao =>
  have h1:=LM ((f' J).Ck no);have af:=LM ((f' ax).Ck no);refine ⟨v,?_,.lit hv no⟩
  grind [execOp,Sem.run_bind,Result.andThen_ok,Sem.run_pure]
 | @un op x _ t ca v J hv ao =>
  have h1:=(f' J).hD.1;exact ⟨v,by simp [execOp,h1,ao],.lit hv no⟩
 | @conv x _ s d ca v J hv ao =>
  have h1:=(f' J).hD.1;exact ⟨v,by simp [execOp,h1,ao],.lit hv no⟩
 | @Ek x _ i cs y J ax =>
  obtain ⟨vs,aI,aj,ao⟩:=(f' J).Xm no;have hk:i<cs.length:=(List.getElem?_eq_some_iff.1 ax).1;have hv:vs[i]?=some vs[i]:=Array.getElem?_eq_getElem (aj ▸ hk);exact ⟨_,by simp [execOp,aI,Instr.extract,hv],ao _ kL _ ax hv⟩
 | @AE x lo hi _ t e z n l bY cs J aj vl aw sM aF =>
  obtain ⟨hu,he,aX⟩:=qK (w:=w) aw;obtain ⟨lG,cap,aI,lh,hlen,hm⟩:=(f' J).zK;have av:=FV (P:=P) (w:=w) (len:=n) (cap:=cap) (aj.sound h aP) (vl.sound h aP) true sM (by omega);have hR:(execOp a.eval { dst:=dst,op:=.slice t x lo hi none,type:=ty,pos:=pos,after:=after,guard:=guard }).run P w=.ok (.value (sliced lG l bY cap z)) w:=by
   simp_all [execOp,Instr.sliceAt,run_underlying,Instr.slice,sliced]
  refine ⟨_,hR,?_⟩;by_cases aQ:bY - l=0
  ·rw [aQ];simp only [Nat.zero_mul,List.take_zero,sliced,aQ];exact .hK no
  ·obtain ⟨ad,us,rfl,bf,aB,hy,aa,ao⟩:=hm (.inr (by omega));obtain ⟨b,o,sp⟩:=ad;simp only at aB;subst aB;have gX:cap≠l:=by omega
   simp only [sliced,gX,if_false,Option.map_some,add_eq];have BQ:((cs.drop (l * z)).take ((bY - l) * z)).length=(bY - l) * z:=by
    rw [List.length_take,List.length_drop,hlen];have:(bY - l) * z+l * z<=n * z:=by rw [<- Nat.add_mul]; exact Nat.mul_le_mul_right _ (by omega)
    omega
   refine .bk (us:=λk=>us (l * z+k)) no (by omega) bf rfl BQ (λk x hk=>hy (l * z+k) x (by
    grind)) (λk x hk=>?_) λk x hk=>?_
   ·grind
   grind
 | @KQ x lo hi _ t e z n bY p J aj vl aw aF db =>
  obtain ⟨hu,he,aX⟩:=qK (w:=w) aw;obtain ⟨⟨lG,N,cap,h1,af,aI⟩,bF⟩:=(f' J).nc;have lh:N<=cap:=by
   rcases bF with ⟨i_,cs,cG,eh⟩ | ⟨aQ,q,gJ,m,new,cG,eh⟩
   ·obtain ⟨v,cz,hv,dH,_⟩:=h.part cG (by simp);rw [h1] at hv;obtain ⟨_,rO,NS,hle,_⟩:=dH.nm
    grind
   ·obtain ⟨v,hv,dH⟩:=h.rel _ _ cG;simp only [dY,hv,aQ,walk,Option.some.injEq] at h1;subst h1;obtain ⟨bv,cj,b9,us,news,dH⟩:=dH.vD;obtain ⟨_,nJ⟩:=dH.nJ
    grind
  have av:=FV (P:=P) (w:=w) (len:=n) (cap:=cap) (aj.sound h aP) (vl.sound h aP) true (Nat.zero_le _) (by omega);refine ⟨.slice lG bY cap,?_,.ref rfl ⟨⟨lG,N,cap,h1,rfl,by omega⟩,db⟩ no⟩
  simp_all [execOp,Instr.sliceAt,run_underlying,Instr.slice,Addr.add]
 | @F8 x lo hi _ t e z n l bY p J aj vl aw sM aF db =>
  obtain ⟨hu,he,aX⟩:=qK (w:=w) aw;obtain ⟨⟨lG,N,cap,h1,af,aI⟩,bF⟩:=(f' J).nc;obtain ⟨i_,cs,cG,eh⟩:=db;obtain ⟨v,cz,hv,dH,_⟩:=h.part cG (by simp);rw [h1] at hv;obtain ⟨a2,rO,NS,hle,hlen,ra,rb⟩:=dH.nm;rw [NS] at hv;cases hv;have av:=FV (P:=P) (w:=w) (len:=n) (cap:=cap) (aj.sound h aP) (vl.sound h aP) true sM (by omega);refine ⟨sliced lG l bY cap z,?_,.ref rfl ⟨⟨lG,_,cap,_,_,h1,rfl,by omega,by omega,λsO=>?_⟩,_,cs,cG,eh⟩ no⟩
  ·simp_all [execOp,Instr.sliceAt,run_underlying,Instr.slice,sliced]
  ·have aB:=rb (by omega);cases lG with
   | none=>simp at aB
   | some ad =>
    obtain ⟨aQ,je⟩:=ra ad rfl;obtain ⟨b,o,sp⟩:=ad
    grind [add_eq]
 | @AF x lo hi _ t l bY s J aj vl aw sM aF =>
  have vr:=(f' J).hD.1;have av:=FV (P:=P) (w:=w) (len:=s.size) (cap:=s.size) (aj.sound h aP) (vl.sound h aP) false sM aF;exact ⟨.string (s.extract l bY),by simp [execOp,vr,Instr.sliceAt,run_underlying (KT aw),Instr.slice,av],.lit rfl no⟩
 | @Cv x _ t e z bC n cs J aw =>
  obtain ⟨hu,he,aX⟩:=qK (w:=w) aw;obtain ⟨lG,cap,aI,_⟩:=(f' J).zK;exact ⟨_,by simp [execOp,resolve,invoke,builtin,aI,Builtin.len_,run_underlying hu,goInt],.lit rfl no⟩
 | @Cu x _ t e z bC n p J aw =>
  obtain ⟨hu,he,aX⟩:=qK (w:=w) aw;obtain ⟨⟨lG,N,cap,h1,af,aI⟩,bF⟩:=(f' J).nc;exact ⟨_,by simp [execOp,resolve,invoke,builtin,af,Builtin.len_,run_underlying hu,goInt],.lit rfl no⟩
 | @JQ x _ t e z bC lo n p J aw =>
  obtain ⟨hu,he,aX⟩:=qK (w:=w) aw;obtain ⟨⟨lG,N,cap,ca,mQ,h1,af,_,aI,cG⟩,bF⟩:=(f' J).xB;exact ⟨_,by simp [execOp,resolve,invoke,builtin,af,Builtin.len_,run_underlying hu,goInt],.lit rfl no⟩
 | @JP x _ t e bC J aw =>
  obtain ⟨hu,he,aX⟩:=qK (w:=w) aw;have af:=(f' J).sf;exact ⟨_,by simp [execOp,resolve,invoke,builtin,af,Builtin.len_,run_underlying hu,goInt],.lit rfl no⟩
 | @lits b xs gq _ vs v J hv ao =>
  have ql:xs.map a.eval=vs.toArray:=by
   grind [Array.toList_map,OV]
  refine ⟨v,?_,.lit hv no⟩
  grind [execOp,resolve,invoke]
 | @Fg x y _ t p q ok Y _ oj V J au ax di aY ao =>
  obtain ⟨⟨b,av,hv⟩,_⟩:=(f' J).OJ;obtain ⟨gx,cz,iq,dH,_⟩:=h.part au (by simp);rw [av] at iq;cases iq;obtain ⟨eC,es,clock,e,a1,bg,_⟩:=dH.Jy;cases e;refine ⟨V,?_,aY _ _ _⟩;simp [execOp,hv,di _ _ _ _ (f' ax),ao w _ _ _ a1 bg]
 | @Cx x y _ t q ok Y _ oj V J ax di aY ao =>
  obtain ⟨b,es,clock,hv,a1,bg⟩:=(f' J).Xl;refine ⟨V,?_,aY _ _ _⟩;simp [execOp,hv,di _ _ _ _ (f' ax),ao w _ _ _ a1 bg]
end
end Go.Own
namespace Go.Own
open Go
structure Fr (w w':World) (U:bb):Prop where
 os:w'.os=w.os
 tape:w'.tape=w.tape
 output:w'.output=w.output
 size:w.heap.size<=w'.heap.size
 block:∀ b,b<w.heap.size->¬ U b->w'.heap[b]?=w.heap[b]?
 dO:∀ a,a.block<w.heap.size->w'.frozen? a=w.frozen? a
 w0:w.drawn<=w'.drawn
theorem Fr.refl (w:World) (U:bb):Fr w w U:=⟨rfl,rfl,rfl,Nat.le_refl _,λ_ _ _=>rfl,λ_ _=>rfl,Nat.le_refl _⟩
theorem Fr.mono {w w':World}{U D2:bb}(h:Fr w w' U) (ga:∀ b,b<w.heap.size->U b->D2 b):Fr w w' D2:=⟨h.os,h.tape,h.output,h.size,λb av aF=>h.block b av λhu=>aF (ga b av hu),h.dO,h.w0⟩
theorem Fr.trans {w ic hA:World}{U y1:bb}(h:Fr w ic U) (h1:Fr ic hA y1) (ga:∀ b,b<w.heap.size->y1 b->U b):Fr w hA U :=
 ⟨h1.os.trans h.os,h1.tape.trans h.tape,h1.output.trans h.output,Nat.le_trans h.size h1.size,λb av aF=>(h1.block b (Nat.lt_of_lt_of_le av h.size) λhu=>aF (ga b av hu)).trans (h.block b av aF),λa aP=>(h1.dO a (Nat.lt_of_lt_of_le aP h.size)).trans (h.dO a aP),Nat.le_trans h.w0 h1.w0⟩
theorem sw (w:World) (o:Obj) (k:Nat) (h:k<w.heap.size):(w.alloc o).heap[k]?=w.heap[k]?:=by
 show (w.heap.push o)[k]?=_;rw [Array.getElem?_push,if_neg (by omega)]
theorem tw (w:World) (o:Obj):(w.alloc o).heap[w.heap.size]?=some o:=by
 show (w.heap.push o)[w.heap.size]?=_;simp
theorem HI (w:World) (arr:Array Value) (t:TypeId) (a:Addr):(w.alloc (.cells arr t (0,0))).frozen? a=w.frozen? a:=by
 unfold World.frozen?;by_cases h:a.block=w.heap.size
 ·rw [h,tw];have:w.heap[w.heap.size]?=none:=by simp
  rw [this];simp
 ·by_cases af:a.block<w.heap.size
  ·rw [sw w _ _ af]
  ·have aI:(w.alloc (.cells arr t (0,0))).heap[a.block]?=none:=by
    show (w.heap.push _)[a.block]?=_;rw [Array.getElem?_eq_none];simp; omega
   have bF:w.heap[a.block]?=none:=Array.getElem?_eq_none (by omega);rw [aI,bF]
theorem HK (w:World) (g:Nat) (cs:Array Value) (a:Addr):(w.setRow g cs).frozen? a=w.frozen? a:=by
 unfold World.frozen? World.setRow;simp only [Array.getElem?_modify];by_cases h:g=a.block
 ·subst h;rw [if_pos rfl];cases bY:w.heap[a.block]? with
  | none=>rfl
  | some o=>cases o <;> rfl
 ·rw [if_neg h]
theorem TT (w:World) (es:Array MapEntry) (n:Nat) (a:Addr):(w.alloc (.map es n)).frozen? a=w.frozen? a:=by
 unfold World.frozen?;by_cases h:a.block=w.heap.size
 ·rw [h,tw];have:w.heap[w.heap.size]?=none:=by simp
  rw [this]
 ·by_cases af:a.block<w.heap.size
  ·rw [sw w _ _ af]
  ·have aI:(w.alloc (.map es n)).heap[a.block]?=none:=by
    show (w.heap.push _)[a.block]?=_;rw [Array.getElem?_eq_none];simp; omega
   have bF:w.heap[a.block]?=none:=Array.getElem?_eq_none (by omega);rw [aI,bF]
def PB (o:Obj):Prop:=(∃ arr e,o=.cells arr e (0,0))\/∃ es n,o=.map es n
theorem Fr.alloc (w:World) (o:Obj) (U:bb) (a1:PB o):Fr w (w.alloc o) U:=by
 refine ⟨rfl,rfl,rfl,by simp,λb av _=>sw w o b av,λa _=>?_,Nat.le_refl _⟩;rcases a1 with ⟨arr,e,rfl⟩ | ⟨es,n,rfl⟩
 ·exact HI w arr e a
 ·exact TT w es n a
theorem R.Yj {w:World}{I:bb}{ρ:ab->Value->Prop}{x:ab}{v:Value}{F:bb}(h:R w I ρ x v F):∀ c,F c->∃ o,w.heap[c]?=some o/\PB o:=by
 induction h with
 | mp a1 _ aN =>
  intro c aa;cases (aN c).1 aa;exact ⟨_,a1,.inr ⟨_,_,rfl⟩⟩
 | lit _ aN | aL aN | dead aN | ref _ _ aN | hK aN | bk aN | cJ aN | cX aN | imp aN=>exact λc aa=>absurd aa (aN c)
 | own a1 aj h1 ao aS av aN aU =>
  intro c aa;rcases (aN c).1 aa with h | ⟨k,hk,h⟩
  ·obtain ⟨_,bY⟩:=a1;rcases bY with ⟨rfl,_⟩ | ⟨b,cap,cur,rfl,_,lx,_⟩
   ·simp [Value.ownBlock] at h
   ·simp only [Value.ownBlock,Option.some.injEq] at h;subst h;exact ⟨_,lx,.inl ⟨_,_,rfl⟩⟩
  ·exact aU k _ _ (List.getElem?_eq_getElem hk) (List.getElem?_eq_getElem (aj ▸ hk)) c h
 | obj a1 aj h1 ao aS av aN aU =>
  intro c aa;rcases (aN c).1 aa with rfl | ⟨k,hk,h⟩
  ·exact ⟨_,a1,.inl ⟨_,_,rfl⟩⟩
  ·exact aU k _ _ (List.getElem?_eq_getElem hk) (Array.getElem?_eq_getElem (aj ▸ hk)) c h
 | agg aj h1 ao aS aN aU =>
  intro c aa;obtain ⟨k,hk,h⟩:=(aN c).1 aa;exact aU k _ _ (List.getElem?_eq_getElem hk) (Array.getElem?_eq_getElem (aj ▸ hk)) c h
 | bV aj ao aS aN aU =>
  intro c aa;obtain ⟨k,hk,h⟩:=(aN c).1 aa;exact aU k _ _ (List.getElem?_eq_getElem hk) (Array.getElem?_eq_getElem (aj ▸ hk)) c h
theorem Fr.drew {w w':World}{U:bb}(h:Fr w w' U):Fr w w'.drew U:=⟨h.os,h.tape,h.output,h.size,h.block,h.dO,Nat.le_succ_of_le h.w0⟩
section
variable {w:World}{I:bb}{T:Array Value}{g:aK}{Fs:Nat->bb}
theorem cI.j1 (h:cI w I T g Fs):∀ t c,Fs t c->c<w.heap.size:=by
 intro t c aa;cases J:g t with
 | none=>exact absurd aa (h.k2 t J c)
 | some y=>obtain ⟨u,_,dH⟩:=h.rel t y J; exact dH.lt c aa
theorem cI.world (h:cI w I T g Fs) {w':World}(aN:∀ t c,Fs t c->w'.heap[c]?=w.heap[c]?) (bf:∀ c,I c->w'.heap[c]?=w.heap[c]?) (fX:w.heap.size<=w'.heap.size):cI w' I T g Fs :=
  ⟨λt x J=>by
    obtain ⟨v,hv,aY⟩:=h.rel t x J;exact ⟨v,hv,h.w2 (λ_ _=>rfl) aN bf (λ_ h=>h) (λ_ _ h=>h) aY λc aa=>aN t c aa⟩,
   h.k2,h.eK,h.bk,λc aa=>Nat.lt_of_lt_of_le (h.lt c aa) fX,h.rn⟩
theorem cI.alloc (h:cI w I T g Fs) (o:Obj):cI (w.alloc o) I T g Fs :=
 h.world (λt c aa=>sw w o c (h.j1 t c aa)) (λc aa=>sw w o c (h.lt c aa)) (by simp)
theorem cI.uD (h:cI w I T g Fs) {d:Nat}{x:ab}{v:Value}{F:bb}(aS:g d=none) (Vy:d<T.size)
  (aY:jF w I (dU w T g) x v F) (r4:∀ t c,F c->¬ Fs t c) (V2:∀ c,F c->¬ I c)
  (au:∀ z p n m new,x=.bL z p n m new->∀ t bC cH m' c3,g t≠some (.bL bC p cH m' c3)) :
  cI w I (T.setIfInBounds d v) (cV g d x) (uM Fs d F):=by
 have dM:∀ t,g t≠none->(T.setIfInBounds d v)[t]?=T[t]?:=by
  intro t aw;rw [Array.getElem?_setIfInBounds_ne];rintro rfl; exact aw aS
 refine ⟨?_,?_,?_,?_,h.lt,?_⟩
 ·intro t y ax;unfold cV at ax
  split at ax
  ·rename_i vt;subst vt;cases ax;exact ⟨v,by simp [Vy],by simpa [uM] using h.w2 dM (λ_ _ _=>rfl) (λ_ _=>rfl) (λ_ h=>h) (QB aS) aY λ_ _=>rfl⟩
  ·rename_i vt;obtain ⟨u,hu,dH⟩:=h.rel t y ax;exact ⟨u,by rw [dM t (by rw [ax]; simp)]; exact hu,by simpa [uM,vt] using h.w2 dM (λ_ _ _=>rfl) (λ_ _=>rfl) (λ_ h=>h) (QB aS) dH λ_ _=>rfl⟩
 ·intro t aw c;unfold cV at aw
  split at aw
  ·cases aw
  ·rename_i vt; simpa [uM,vt] using h.k2 t aw c
 ·intro t t' c aa fo;by_cases h1:t=d <;> by_cases af:t'=d <;> simp [uM,h1,af] at aa fo
  ·rw [h1,af]
  ·exact absurd fo (r4 t' c aa)
  ·exact absurd aa (r4 t c fo)
  ·exact h.eK t t' c aa fo
 ·intro t c aa hi;by_cases h1:t=d <;> simp [uM,h1] at aa
  ·exact V2 c aa hi
  ·exact h.bk t c aa hi
 ·intro t t' z p n m new bC cH m' c3 h1 af;unfold cV at h1 af
  split at h1 <;> split at af
  ·rename_i a b; rw [a,b]
  ·cases h1; exact absurd af (au z p n m new rfl t' bC cH m' c3)
  ·cases af; exact absurd h1 (au bC p cH m' c3 rfl t z n m new)
  ·exact h.rn _ _ _ _ _ _ _ _ _ _ _ h1 af
end
def jT:ab->Option (List ab)
 | .agg cs=>some cs
 | .lit v=>some [.lit v]
 | .aL=>some [.aL]
 | .bk z n cs=>some [.bk z n cs]
 | .cJ cs=>some [.cJ cs]
 | .ptr p k=>some [.ptr p k]
 | .a6 z p n=>some [.a6 z p n]
 | .sub z p l n=>some [.sub z p l n]
 | .cX f a b=>some [.cX f a b]
 | _=>none
theorem R.jT {w:World}{I:bb}{ρ:ab->Value->Prop}{y:ab}{v:Value}{F:bb}(h:R w I ρ y v F) (aN:∀ c,¬ F c) (lQ:∀ x v,x.isRef=true->ρ x v->v.oneCell'=true) {cs:List ab}(aa:jT y=some cs) :
  cs.length=v.cells.size/\(∀ (k:Nat) (u:Value),v.cells[k]?=some u->u.oneCell'=true)/\(∀ (k:Nat) (x:ab) (u:Value),cs[k]?=some x->v.cells[k]?=some u->R w I ρ x u cw):=by
 have one:∀ {y:ab},R w I ρ y v F->v.oneCell'=true->[y].length=v.cells.size/\(∀ (k:Nat) (u:Value),v.cells[k]?=some u->u.oneCell'=true)/\(∀ (k:Nat) (x:ab) (u:Value),[y][k]?=some x->v.cells[k]?=some u->R w I ρ x u cw):=by
  intro y h h1;have EB:v.cells=#[v]:=by cases v <;> first | rfl | (simp [Value.oneCell'] at h1)
  refine ⟨by simp [EB],λk u hu=>?_,λk x u J hu=>?_⟩
  ·rw [EB] at hu;cases k with
   | zero=>simp at hu; subst hu; exact h1
   | succ k=>simp at hu
  rw [EB] at hu;cases k with
  | zero=>simp at J hu; subst J hu; exact h.empty aN
  | succ k=>simp at J
 cases y <;> simp only [Go.Own.jT,Option.some.injEq,reduceCtorEq] at aa
 case agg l =>
  subst aa;obtain ⟨vs,rfl,aj,h1,ao⟩:=h.Ck aN;exact ⟨aj,h1,ao⟩
 case lit a=>subst aa; exact one h (by obtain ⟨rfl,h1⟩:=h.hD; exact h1)
 case aL=>subst aa; exact one h (by rw [h.sf]; rfl)
 case bk z n l=>subst aa; exact one h (by obtain ⟨a,cap,rfl,_⟩:=h.zK; rfl)
 case cJ l=>subst aa; exact one h (by obtain ⟨ad,us,rfl,_⟩:=h.xA; rfl)
 case ptr p k=>subst aa; exact one h (lQ _ _ rfl h.nP)
 case a6 z p n=>subst aa; exact one h (lQ _ _ rfl h.nc)
 case sub z p l n=>subst aa; exact one h (lQ _ _ rfl h.xB)
 case cX f a b =>
  subst aa;refine one h ?_;cases h with
  | cX=>rfl
  | ref J=>simp [ab.isRef] at J
theorem dU.Fy {w:World}{T:Array Value}{g:aK}{x:ab}{v:Value}(J:x.isRef=true) (h:dU w T g x v):v.oneCell'=true:=by
 obtain ⟨h,_⟩:=h;cases x <;> simp [ab.isRef] at J
 case ptr p k=>obtain ⟨_,_,_,_,rfl⟩:=h; rfl
 case a6 z p n=>obtain ⟨_,_,_,_,rfl,_⟩:=h; rfl
 case sub z p lo n=>obtain ⟨_,_,_,_,_,_,rfl,_⟩:=h; rfl
 case gz p=>obtain ⟨_,_,rfl⟩:=h; rfl
def mm:List ab->Option (List ab)
 | []=>some []
 | y::ys =>
  match jT y,mm ys with
  | some a,some b=>some (a++b)
  | _,_=>none
def gp (g:aK):List Operand->Option (List ab)
 | []=>some []
 | x::xs =>
  match br g x,gp g xs with
  | some y,some ys=>some (y::ys)
  | _,_=>none
def u6 (place:Nat->Option (Nat × Nat)) (cells:List ab):List (Nat × List ab)->Option (List ab)
 | []=>some cells
 | (i,c)::rest =>
  match place i with
  | none=>none
  | some (off,size)=>if c.length=size/\off+c.length<=cells.length then u6 place (cells.take off++c++cells.drop (off+c.length)) rest else none
def rk (g:aK):List (Nat × Operand)->Option (List (Nat × List ab))
 | []=>some []
 | (i,x)::xs =>
  match br g x,rk g xs with
  | some y,some ys=>(jT y).map λc=>(i,c)::ys
  | _,_=>none
def kG (P:Program) (t:TypeId) (pl:List (Nat × Nat)):Bool :=
 match P.underlying t with
 | some (.struct fs)=>fs.toList.map (λf=>(f.offset,(P.info? f.type).map (·.size))) == pl.map λ(a,b)=>(a,some b)
 | _=>false
inductive p8 (P:Program) (g:aK):Op->TypeId->ab->Prop
 | box {e ty:TypeId}{x:Operand}{y:ab}{cs:List ab}(J:br g x=some y) (aa:jT y=some cs):p8 P g (.box e x) ty (.obj cs)
 | alloc {e ty:TypeId}{z:Value}(aX:(P.info? e).bind (·.zero)=some z) (h1:z.cells.all Value.oneCell'=true):p8 P g (.alloc e) ty (.obj (z.cells.toList.map lR))
 | buildSlice {t e ty:TypeId}{z:Nat}{parts:Array (Nat × Operand)}{xs:List Operand}{ys:List ab}{cs:List ab}(aw:fq P t e z=true)
   (au:parts.toList=xs.mapIdx (λi x=>(i,x))) (J:gp g xs=some ys) (aX:∀ y∈ys,∃ c,jT y=some c/\c.length=z) (aa:mm ys=some cs) (av:xs.length * z<=16777216) (aF:xs.length<=16777216) (hzero:xs.length * z=0\/∃ v,(P.info? e).bind (·.zero)=some v/\v.cells.size=z) :
   p8 P g (.buildSlice t xs.length parts) ty (.own z xs.length cs)
 | makeSlice {t e ty:TypeId}{x y:Operand}{z n b:Nat}{xH oV:IntKind}{dI:Value}(aw:fq P t e z=true) (J:br g x=some (.lit (.int xH (n:Int)))) (ax:br g y=some (.lit (.int oV (n:Int))))
   (hzero:(P.info? e).bind (·.zero)=some dI) (h1:dI.cells.all Value.oneCell'=true) (pK:dI.cells.size=z) (av:(P.info? e).map (·.bytes)=some b) (aF:n * b<=140737488355328) (ob:n<=4611686018427387904) {yA:List ab}(vB:yA.length=dI.cells.size)
   (E1:∀ (k:Nat) (u:Value) (x:ab),dI.cells[k]?=some u->yA[k]?=some x->x=lR u\/(lR u=.aL/\∃ bC,x=.bk bC 0 [])) :
   p8 P g (.makeSlice t x y) ty (.own z n (List.replicate n yA).flatten)
 | makeMap {t ty:TypeId}{q:Array MapEntry->Nat->Prop}(bg:q #[] 0):p8 P g (.makeMap t none) ty (.mp q)
inductive uX (P:Program) (g:aK):Op->TypeId->ab->Prop
 | build {t ty:TypeId}{parts:Array (Nat × Operand)}{pl:List (Nat × Nat)}{dI:Value}{ps:List (Nat × List ab)}{cs:List ab}(aw:kG P t pl=true) (aX:(P.info? t).bind (·.zero)=some dI) (h1:dI.cells.all Value.oneCell'=true)
   (au:rk g parts.toList=some ps) (aa:u6 (λi=>pl[i]?) (dI.cells.toList.map lR) ps=some cs):uX P g (.build t parts) ty (.agg cs)
 | makeFunc {fn:Fn}{first caps:Array Operand}{ty:TypeId}{a b:List ab}(aP:gp g first.toList=some a) (av:gp g caps.toList=some b):uX P g (.makeFunc fn first caps) ty (.cX fn a b)
section
variable {P:Program}{w:World}{I:bb}{T:Array Value}{g:aK}{Fs:Nat->bb}
theorem zX (h:cI w I T g Fs) {a:Act}(aP:a.tmps=T):∀ {xs:List Operand}{ys:List ab},gp g xs=some ys->ys.length=xs.length/\∀ (k:Nat) (y:ab) (x:Operand),ys[k]?=some y->xs[k]?=some x->R w I (dU w T g) y (a.eval x) cw
 | [],ys,ax=>by simp only [gp,Option.some.injEq] at ax; subst ax; simp
 | x::xs,ys,ax=>by
  simp only [gp] at ax;cases J:br g x with
  | none=>simp [J] at ax
  | some y =>
   cases sd:gp g xs with
   | none=>simp [J,sd] at ax
   | some DG =>
    simp only [J,sd,Option.some.injEq] at ax;subst ax;obtain ⟨h1,af⟩:=zX h aP sd;refine ⟨by simp [h1],λk y' x' oS gj=>?_⟩;cases k with
    | zero=>simp at oS gj; subst oS gj; exact kh h J aP
    | succ k=>simp at oS gj; exact af k y' x' oS gj
theorem R.alloc (h:cI w I T g Fs) (o:Obj) {x:ab}{v:Value}{F:bb}(aY:R w I (dU w T g) x v F) (aN:∀ c,F c->c<w.heap.size):R (w.alloc o) I (dU (w.alloc o) T g) x v F :=
 h.frame (λ_ _=>rfl) (λt c aa=>sw w o c (h.j1 t c aa)) (λc aa=>sw w o c (h.lt c aa)) (λ_ h=>h) (λ_ _ h=>h) aY λc aa=>sw w o c (aN c aa)
theorem Pf {ρ:ab->Value->Prop}{vs:List Value}:∀ (k:Nat) (x:ab) (u:Value),(vs.map lR)[k]?=some x->vs[k]?=some u->R w I ρ x u cw:=by
 intro k x u J hu;rw [List.getElem?_map,hu] at J;simp only [Option.map_some,Option.some.injEq] at J;subst J;exact CI u
theorem R.Pe {ρ:ab->Value->Prop}{cs:List ab}{b:Nat}{e:TypeId}{arr:Array Value}(a1:w.heap[b]?=some (.cells arr e (0,0))) (aj:cs.length=arr.size) (h1:∀ (k:Nat) (u:Value),arr[k]?=some u->u.oneCell'=true)
  (ao:∀ (k:Nat) (x:ab) (u:Value),cs[k]?=some x->arr[k]?=some u->R w I ρ x u cw):R w I ρ (.obj cs) (.pointer (some ⟨b,0,none⟩)) (λc=>c=b) :=
 .obj (Fs:=λ_=>cw) a1 aj h1 ao (λ_ _ _ _ _ h=>h.elim) (λ_ _ h=>h) (λ_=>⟨λh=>.inl h,λh=>h.elim id λ⟨_,_,h⟩=>h.elim⟩)
theorem R.Pr {ρ:ab->Value->Prop}{z n:Nat}{cs:List ab}{b cap:Nat}{e:TypeId}{arr:Array Value}(a1:w.heap[b]?=some (.cells arr e (0,0))) (aF:n<=cap) (aa:cap<=maxLen) (aB:arr.size=cap * z) (aj:cs.length=n * z) (h1:∀ (k:Nat) (u:Value),arr[k]?=some u->u.oneCell'=true)
  (ao:∀ (k:Nat) (x:ab) (u:Value),cs[k]?=some x->arr[k]?=some u->R w I ρ x u cw):R w I ρ (.own z n cs) (.slice (some ⟨b,0,none⟩) n cap) (λc=>c=b):=by
 have hle:n * z<=arr.size:=by rw [aB]; exact Nat.mul_le_mul_right _ aF
 refine .own (e:=e) (us:=arr.toList.take (n * z)) (Fs:=λ_=>cw) ⟨by simp; omega,.inr ⟨b,cap,arr,rfl,Nat.zero_le _,a1,aF,aa,aB,rfl⟩⟩ (by simp; omega) (λk u hu=>?_) ?_ (λ_ _ _ _ _ h=>h.elim) (λ_ _ _ h=>h.elim) (λc=>?_)
 ·rw [List.getElem?_take] at hu
  split at hu
  ·exact h1 k u (by simpa using hu)
  ·cases hu
 ·intro k x u J hu;rw [List.getElem?_take] at hu
  split at hu
  ·exact ao k x u J (by simpa using hu)
  ·cases hu
 ·simp only [Value.ownBlock,Option.some.injEq];exact ⟨λh=>.inl h.symm,λh=>h.elim Eq.symm λ⟨_,_,h⟩=>h.elim⟩
theorem L9 {ρ:ab->Value->Prop}(lQ:∀ x v,x.isRef=true->ρ x v->v.oneCell'=true):∀ {ys:List ab}{vs:List Value}{cs:List ab},ys.length=vs.length->(∀ (k:Nat) (y:ab) (v:Value),ys[k]?=some y->vs[k]?=some v->R w I ρ y v cw)->mm ys=some cs ->
  cs.length=(vs.flatMap λv=>v.cells.toList).length/\(∀ (k:Nat) (u:Value),(vs.flatMap λv=>v.cells.toList)[k]?=some u->u.oneCell'=true)/\∀ (k:Nat) (x:ab) (u:Value),cs[k]?=some x->(vs.flatMap λv=>v.cells.toList)[k]?=some u->R w I ρ x u cw
 | [],vs,cs,aj,ao,aa=>by
  cases vs with
  | nil=>simp only [mm,Option.some.injEq] at aa; subst aa; simp
  | cons=>simp at aj
 | y::ys,vs,cs,aj,ao,aa=>by
  cases vs with
  | nil=>simp at aj
  | cons v vs =>
   simp only [mm] at aa;cases aP:jT y with
   | none=>simp [aP] at aa
   | some a =>
    cases av:mm ys with
    | none=>simp [aP,av] at aa
    | some b =>
     simp only [aP,av,Option.some.injEq] at aa;subst aa;obtain ⟨h1,HR,af⟩:=(ao 0 y v rfl rfl).jT (λ_ h=>h) lQ aP;obtain ⟨aI,T6,bF⟩:=L9 lQ (by simpa using aj) (λk y' gx ax hv=>ao (k+1) y' gx ax hv) av;refine ⟨by simp [h1,aI],λk u hu=>?_,λk x u J hu=>?_⟩
     ·simp only [List.flatMap_cons] at hu;by_cases hk:k<v.cells.toList.length
      ·rw [List.getElem?_append_left hk] at hu;exact HR k u (by simpa using hu)
      ·rw [List.getElem?_append_right (by omega)] at hu;exact T6 _ u hu
     simp only [List.flatMap_cons] at hu;by_cases hk:k<a.length
     ·rw [List.getElem?_append_left hk] at J;rw [List.getElem?_append_left (by simp; omega)] at hu;exact af k x u J (by simpa using hu)
     ·rw [List.getElem?_append_right (by omega)] at J;rw [List.getElem?_append_right (by simp; omega)] at hu;refine bF (k - a.length) x u J ?_;rw [<- hu]; simp [h1]
end
end Go.Own
namespace Go.Own
open Go
theorem MZ (off:Nat):∀ (l:List Value) (s:Nat) (arr:Array Value),off+s+l.length<=arr.size ->
  ((l.zipIdx s).foldl (λcs (x:Value × Nat)=>cs.setIfInBounds (off+x.2) x.1) arr).toList=arr.toList.take (off+s)++l++arr.toList.drop (off+s+l.length)
 | [],s,arr,h=>by simp
 | v::l,s,arr,h=>by
  simp only [List.length_cons] at h;rw [List.zipIdx_cons,List.foldl_cons,MZ off l (s+1) _ (by simp; omega)];simp only [Array.toList_setIfInBounds,List.length_cons];have h1:(arr.toList.set (off+s) v).take (off+(s+1))=arr.toList.take (off+s)++[v]:=by
   rw [show off+(s+1)=off+s+1 by omega,List.take_succ_eq_append_getElem (by simp; omega)];rw [List.take_set_of_le (Nat.le_refl _)];simp
  have af:(arr.toList.set (off+s) v).drop (off+(s+1)+l.length)=arr.toList.drop (off+s+(l.length+1)):=by
   rw [List.drop_set_of_lt (by omega)];congr 1; omega
  rw [h1,af];simp
theorem MU {place:Nat->Option (Nat × Nat)}{i off size:Nat}(au:place i=some (off,size)) {arr:Array Value}{v:Value}(h1:v.cells.size=size) (af:off+v.cells.size<=arr.size) (rest:List (Nat × Value)) :
  ∃ jr:Array Value,Instr.fill place arr ((i,v)::rest)=Instr.fill place jr rest/\jr.toList=arr.toList.take off++v.cells.toList++arr.toList.drop (off+v.cells.size):=by
 refine ⟨_,by simp only [Instr.fill,au]; rw [if_neg (by simp; omega)],?_⟩;have:=MZ off v.cells.toList 0 arr (by simpa using af)
 grind [Array.toList_zipIdx]
theorem MT (z:Nat):∀ (vs:List Value) (k:Nat) (arr:Array Value) (done rest:List Value),(∀ v∈vs,v.cells.size=z)->arr.toList=done++rest->done.length=k * z->rest.length=vs.length * z ->
  ∃ jr:Array Value,Instr.fill (λi=>some (i * z,z)) arr (vs.mapIdx λi v=>(k+i,v))=some jr/\jr.toList=done++vs.flatMap λv=>v.cells.toList
 | [],k,arr,done,rest,_,h1,af,aI=>by
  have:rest=[]:=List.eq_nil_of_length_eq_zero (by simpa using aI);subst this;exact ⟨arr,rfl,by simpa using h1⟩
 | v::vs,k,arr,done,rest,aX,h1,af,aI=>by
  have hv:=aX v (by simp);have hlen:arr.size=done.length+rest.length:=by rw [<- Array.length_toList,h1,List.length_append]
  simp only [List.length_cons,Nat.add_mul,Nat.one_mul] at aI;rw [List.mapIdx_cons];obtain ⟨D7,cy,b9⟩:=MU (place:=λi=>some (i * z,z)) (i:=k+0) (off:=k * z) (size:=z) (by simp) (arr:=arr) (v:=v) hv (by omega) ((vs.mapIdx λi v=>(k+(i+1),v)));have tH:D7.toList=(done++v.cells.toList)++rest.drop z:=by
   rw [b9,h1,<- af,List.take_left,hv,List.drop_append];simp
  obtain ⟨jr,fH,mR⟩:=MT z vs (k+1) D7 (done++v.cells.toList) (rest.drop z) (λu hu=>aX u (by simp [hu])) tH (by simp [af,hv,Nat.add_mul]) (by simp; omega);refine ⟨jr,?_,by rw [mR]; simp⟩;rw [cy,<- fH];congr 1;congr 1;funext i u;congr 1; omega
theorem LN {vs:Array Value}(h:vs.all Value.oneCell'=true):∀ (k:Nat) (u:Value),vs[k]?=some u->u.oneCell'=true:=by grind
theorem G8 {P:Program}{e:TypeId}{z:Value}(h:(P.info? e).bind (·.zero)=some z) (w:World):(zeroValue e).run P w=.ok z w:=by
 cases hi:P.info? e with
 | none=>simp [hi] at h
 | some i=>simp [hi] at h; simp [zeroValue,typeInfo,hi,h]
theorem M3 {α:Type}(l:List α):∀ (n k:Nat),k<n * l.length->(List.replicate n l).flatten[k]?=l[k % l.length]?
 | 0,k,h=>by simp at h
 | n+1,k,h=>by
  rw [List.replicate_succ,List.flatten_cons];by_cases hk:k<l.length
  ·rw [List.getElem?_append_left hk,Nat.mod_eq_of_lt hk]
  ·rw [List.getElem?_append_right (by omega),M3 l n (k - l.length) (by rw [Nat.add_mul] at h; omega)];rw [<- Nat.mod_eq_sub_mod (by omega)]
section
variable {P:Program}{w:World}{I:bb}{T:Array Value}{g:aK}{Fs:Nat->bb}
theorem Sb {ys cs:List ab}{z:Nat}(aX:∀ y∈ys,∃ c,jT y=some c/\c.length=z) (aa:mm ys=some cs):cs.length=ys.length * z:=by
 induction ys generalizing cs with
 | nil=>simp [mm] at aa; subst aa; simp
 | cons y ys aU =>
  obtain ⟨c,h1,af⟩:=aX y (by simp);simp only [mm,h1] at aa
  grind
theorem p8.sound (h:cI w I T g Fs) {a:Act}(aP:a.tmps=T) {o:Oper}{kL:ab}(au:p8 P g o.op o.type kL) :
  ∃ v sk,(execOp a.eval o).run P w=.ok (.value v) (w.alloc sk)/\R (w.alloc sk) I (dU (w.alloc sk) T g) kL v (λc=>c=w.heap.size):=by
 obtain ⟨dst,op,ty,pos,after,guard⟩:=o;simp only at au;have nk:∀ (sk:Obj) {x:ab}{v:Value},R w I (dU w T g) x v cw->R (w.alloc sk) I (dU (w.alloc sk) T g) x v cw:=λsk _ _ aY=>R.alloc h sk aY λ_ h=>h.elim;cases au with
 | @box e _ x y cs J aa =>
  have ax:=kh h J aP;obtain ⟨h1,HR,af⟩:=ax.jT (λ_ h=>h) (λ_ _ J ao=>ao.Fy J) aa;refine ⟨_,.cells (a.eval x).cells e,by simp [execOp,Instr.box,newVar,newRow],R.Pe (e:=e) (tw w _) h1 HR λk x u J hu=>nk _ (af k x u J hu)⟩
 | @alloc e _ z aX hy =>
  refine ⟨_,.cells z.cells e,by simp [execOp,Instr.alloc,newVar,newRow,G8 aX],R.Pe (e:=e) (tw w _) (by simp) (LN hy) λk x u J hu=>nk _ (Pf k x u J (by simpa using hu))⟩
 | @makeMap t _ q bg =>
  have IT:(Instr.makeMap t none).run P w=.ok (.map (some w.heap.size)) (w.alloc (.map #[] 0)):=rfl;exact ⟨.map (some w.heap.size),.map #[] 0,by simp [execOp,IT],.mp (tw w _) bg λc=>Iff.rfl⟩
 | @buildSlice t e _ z parts xs ys cs aw au J aX aa av kA hzero =>
  obtain ⟨hu,he,fX⟩:=qK (w:=w) aw;obtain ⟨aj,ao⟩:=zX h aP J;have gX:=Sb aX aa;have WC:∀ v∈xs.map a.eval,v.cells.size=z:=by
   intro v hv;obtain ⟨x,zI,rfl⟩:=List.mem_map.1 hv;obtain ⟨k,hk,rfl⟩:=List.mem_iff_getElem.1 zI;have oS:ys[k]?=some (ys[k]'(by omega)):=List.getElem?_eq_getElem (by omega);obtain ⟨c,h1,af⟩:=aX _ (List.getElem_mem (l:=ys) (n:=k) (by omega));obtain ⟨aI,_,_⟩:=(ao k _ _ oS (List.getElem?_eq_getElem hk)).jT (λ_ h=>h) (λ_ _ J ao=>ao.Fy J) h1
   grind
  obtain ⟨dI,Xb⟩:∃ dI:Array Value,(xs.length * z=0/\dI=#[])\/(xs.length * z≠0/\∃ v,dI=v.cells/\(zeroValue e).run P w=.ok v w):=by
   by_cases aQ:xs.length * z=0
   ·grind
   ·rcases hzero with h1 | ⟨v,h1,af⟩
    ·grind
    simp_all [G8]
  obtain ⟨arr,cy,b9⟩:=MT z (xs.map a.eval) 0 ((Array.range (xs.length * z)).map (dI[· % dI.size]!)) [] ((Array.range (xs.length * z)).map (dI[· % dI.size]!)).toList WC (by simp) (by simp) (by simp);have N_:(parts.map λ(p:Nat × Operand)=>(p.1,a.eval p.2)).toList=(xs.map a.eval).mapIdx λi v=>(0+i,v):=by
   rw [Array.toList_map,au];apply List.ext_getElem?
   grind
  obtain ⟨hJ,il,Vx⟩:=L9 (ρ:=dU w T g) (λ_ _ J ao=>ao.Fy J) (ys:=ys) (vs:=xs.map a.eval) (by simp [aj]) (λk y v ax hv=>by
   rw [List.getElem?_map] at hv;cases oR:xs[k]? with
   | none=>simp [oR] at hv
   | some x=>simp [oR] at hv; subst hv; exact ao k y x ax oR) aa
  have sI:arr.toList=(xs.map a.eval).flatMap λv=>v.cells.toList:=by simpa using b9
  have Wp:arr.size=xs.length * z:=by rw [<- Array.length_toList,sI,<- hJ,gX,aj]
  have hR:(execOp a.eval { dst:=dst,op:=.buildSlice t xs.length parts,type:=ty,pos:=pos,after:=after,guard:=guard }).run P w=.ok (.value (.slice (some ⟨w.heap.size,0,none⟩) xs.length xs.length)) (w.alloc (.cells arr e)):=by
   have hle:¬ (16777216<xs.length * z):=by omega
   rcases Xb with ⟨aQ,rfl⟩ | ⟨aQ,v,rfl,Xa⟩
   ·simp only [aQ] at cy;rw [<- N_] at cy;simp at cy;simp [execOp,Instr.buildSlice,run_underlying hu,fX,aQ,cy,newRow]
   ·rw [<- N_] at cy;simp at cy;simp [execOp,Instr.buildSlice,run_underlying hu,fX,aQ,hle,Xa,cy,newRow]
  refine ⟨_,_,hR,R.Pr (e:=e) (arr:=arr) (tw w _) (Nat.le_refl _) ?_ Wp (by rw [gX,aj]) (λk u hu=>il k u (by rw [<- sI]; simpa using hu)) λk x u J hu=>nk _ (Vx k x u J ?_)⟩
  ·grind [maxLen]
  grind
 | @makeSlice t e _ x y z n b xH oV dI aw J ax hzero hy pK av aF ob yA vB E1 =>
  obtain ⟨hu,he,fX⟩:=qK (w:=w) aw;have h1:=(kh h J aP).hD.1;have af:=(kh h ax aP).hD.1;cases hi:P.info? e with
  | none=>simp [hi] at av
  | some i =>
   simp [hi] at av hzero;have NV:i.size=z:=by
    grind [fq]
   have EA:(i.bytes:Int) * (n:Int)<=281474976710656:=by
    grind
   have ao:=run_make (P:=P) w t e i dI hu hi hzero xH oV n n (by omega) (Int.le_refl _) EA (by omega);simp only [Int.toNat_natCast] at ao;refine ⟨_,.cells (madeCells dI.cells (n * i.size)) e,by simp [execOp,h1,af,ao],R.Pr (e:=e) (tw w _) (Nat.le_refl _) (by unfold maxLen; omega) (by rw [size_madeCells,NV]) (by simp [pK,vB]) (λk u hu=>?_) λk x u J hu=>?_⟩
   ·grind [madeCells,Nat.mod_lt]
   have hk:k<n * dI.cells.size:=by
    have:=(List.getElem?_eq_some_iff.1 J).1
    simp_all
   have aQ:0<dI.cells.size:=by
    grind
   have hm:k % dI.cells.size<dI.cells.size:=Nat.mod_lt _ aQ;rw [M3 _ n k (by simpa [vB] using hk),vB] at J;rw [madeCells,Array.getElem?_map,Array.getElem?_range,if_pos (by rw [NV,<- pK]; exact hk)] at hu;simp only [Option.map_some,Option.some.injEq] at hu;have jR:dI.cells[k % dI.cells.size]! = dI.cells[k % dI.cells.size]:=by simp [hm]
   rw [jR] at hu;subst hu;rcases E1 _ _ x (Array.getElem?_eq_getElem hm) J with rfl | ⟨h1,bC,rfl⟩
   ·grind [CI]
   ·have aY:=CI (w:=w) (I:=I) (ρ:=dU w T g) dI.cells[k % dI.cells.size];rw [h1] at aY;rw [aY.sf];exact .hK λ_ h=>h
def Cells (w:World) (I:bb) (ρ:ab->Value->Prop) (cs:List ab) (vs:List Value):Prop :=
 cs.length=vs.length/\(∀ (k:Nat) (u:Value),vs[k]?=some u->u.oneCell'=true)/\∀ (k:Nat) (x:ab) (u:Value),cs[k]?=some x->vs[k]?=some u->R w I ρ x u cw
theorem Cells.append {ρ:ab->Value->Prop}{a b:List ab}{u v:List Value}(h:Cells w I ρ a u) (aR:Cells w I ρ b v):Cells w I ρ (a++b) (u++v):=by
 refine ⟨by simp [h.1,aR.1],λk y ax=>?_,λk x y J ax=>?_⟩
 ·by_cases hk:k<u.length
  ·rw [List.getElem?_append_left hk] at ax; exact h.2.1 k y ax
  ·rw [List.getElem?_append_right (by omega)] at ax; exact aR.2.1 _ y ax
 ·by_cases hk:k<a.length
  ·rw [List.getElem?_append_left hk] at J;rw [List.getElem?_append_left (by rw [<- h.1]; exact hk)] at ax;exact h.2.2 k x y J ax
  ·rw [List.getElem?_append_right (by omega)] at J;rw [List.getElem?_append_right (by rw [<- h.1]; omega)] at ax;exact aR.2.2 _ x y J (by rw [h.1]; exact ax)
theorem Cells.take {ρ:ab->Value->Prop}{a:List ab}{u:List Value}(h:Cells w I ρ a u) (n:Nat):Cells w I ρ (a.take n) (u.take n):=by
 refine ⟨by simp [h.1],λk y ax=>?_,λk x y J ax=>?_⟩
 ·rw [List.getElem?_take] at ax
  split at ax
  ·exact h.2.1 k y ax
  grind
 ·rw [List.getElem?_take] at J ax
  split at J
  ·rename_i hk;rw [if_pos hk] at ax;exact h.2.2 k x y J ax
  grind
theorem Cells.drop {ρ:ab->Value->Prop}{a:List ab}{u:List Value}(h:Cells w I ρ a u) (n:Nat):Cells w I ρ (a.drop n) (u.drop n):=by
 refine ⟨by simp [h.1],λk y ax=>?_,λk x y J ax=>?_⟩
 ·rw [List.getElem?_drop] at ax; exact h.2.1 _ y ax
 ·rw [List.getElem?_drop] at J ax;exact h.2.2 _ x y J ax
theorem MS {ρ:ab->Value->Prop}{place:Nat->Option (Nat × Nat)}:∀ (ps:List (Nat × List ab)) (tg:List (Nat × Value)) {cells cs:List ab}{arr:Array Value},Cells w I ρ cells arr.toList ->
  ps.map (·.1)=tg.map (·.1)->(∀ (k:Nat) (p:Nat × List ab) (q:Nat × Value),ps[k]?=some p->tg[k]?=some q->Cells w I ρ p.2 q.2.cells.toList)->u6 place cells ps=some cs ->
  ∃ jr:Array Value,Instr.fill place arr tg=some jr/\Cells w I ρ cs jr.toList
 | [],tg,cells,cs,arr,aa,hk,_,aW=>by
  cases tg with
  | nil=>simp only [u6,Option.some.injEq] at aW; subst aW; exact ⟨arr,rfl,aa⟩
  | cons=>simp at hk
 | (i,c)::ps,tg,cells,cs,arr,aa,hk,ao,aW=>by
  cases tg with
  | nil=>simp at hk
  | cons q tg =>
   obtain ⟨j,v⟩:=q;simp only [List.map_cons,List.cons.injEq] at hk;obtain ⟨rfl,hk⟩:=hk;have aQ:=ao 0 _ _ rfl rfl;simp only [u6] at aW;cases au:place i with
   | none=>simp [au] at aW
   | some os =>
    obtain ⟨off,size⟩:=os;simp only [au] at aW
    split at aW
    ·rename_i acD;have hlen:v.cells.size=c.length:=by rw [<- Array.length_toList]; exact aQ.1.symm
     have N1:arr.size=cells.length:=by rw [<- Array.length_toList]; exact aa.1.symm
     obtain ⟨D7,cy,b9⟩:=MU (arr:=arr) (v:=v) au (by omega) (by omega) tg;have il:Cells w I ρ (cells.take off++c++cells.drop (off+c.length)) D7.toList:=by
      rw [b9,hlen];exact ((aa.take off).append aQ).append (aa.drop _)
     obtain ⟨jr,fH,mR⟩:=MS ps tg il hk (λk p q au bg=>ao (k+1) p q au bg) aW;exact ⟨jr,by rw [cy,fH],mR⟩
    ·cases aW
theorem Px (h:cI w I T g Fs) {a:Act}(aP:a.tmps=T):∀ {l:List (Nat × Operand)}{ps:List (Nat × List ab)},rk g l=some ps ->
  ps.map (·.1)=(l.map λp=>(p.1,a.eval p.2)).map (·.1)/\∀ (k:Nat) (p:Nat × List ab) (q:Nat × Value),ps[k]?=some p->(l.map λp=>(p.1,a.eval p.2))[k]?=some q->Cells w I (dU w T g) p.2 q.2.cells.toList
 | [],ps,au=>by simp only [rk,Option.some.injEq] at au; subst au; simp
 | (i,x)::l,ps,au=>by
  simp only [rk] at au;cases J:br g x with
  | none=>simp [J] at au
  | some y =>
   cases aj:rk g l with
   | none=>simp [J,aj] at au
   | some adp =>
    simp only [J,aj,Option.map_eq_some_iff] at au;obtain ⟨c,aa,rfl⟩:=au;obtain ⟨h1,af⟩:=Px h aP aj;refine ⟨by simp [h1],λk p q au bg=>?_⟩;cases k with
    | zero =>
     simp at au bg;subst au bg;obtain ⟨aI,T4,bF⟩:=(kh h J aP).jT (λ_ h=>h) (λ_ _ J ao=>ao.Fy J) aa;exact ⟨by simpa using aI,λk u hu=>T4 k u (by simpa using hu),λk x u J hu=>bF k x u J (by simpa using hu)⟩
    | succ k=>simp at au bg; exact af k p q au (by simpa using bg)
theorem Zi {t:TypeId}{pl:List (Nat × Nat)}(h:kG P t pl=true):∃ fs,P.underlying t=some (.struct fs)/\fs.toList.mapM (λf=>(P.info? f.type).map λi=>(f.offset,i.size))=some pl:=by
 unfold kG at h;cases hu:P.underlying t with
 | none=>simp [hu] at h
 | some d =>
  cases d <;> simp only [hu,Bool.false_eq_true] at h;rename_i fs;refine ⟨fs,rfl,?_⟩;replace h:=LawfulBEq.eq_of_beq h;generalize fs.toList=l at h
  induction l generalizing pl with
  | nil=>cases pl with
   | nil=>rfl
   | cons=>simp at h
  | cons f l aU =>
   cases pl with
   | nil=>simp at h
   | cons p pl =>
    obtain ⟨o,s⟩:=p;simp only [List.map_cons,List.cons.injEq,Prod.mk.injEq] at h;obtain ⟨⟨rfl,h1⟩,af⟩:=h;have:=aU af;rw [List.mapM_cons,this];cases hi:P.info? f.type with
    | none=>simp [hi] at h1
    | some i=>simp [hi] at h1; subst h1; rfl
theorem uX.sound (h:cI w I T g Fs) {a:Act}(aP:a.tmps=T) {o:Oper}{kL:ab}(au:uX P g o.op o.type kL) :
  ∃ v,(execOp a.eval o).run P w=.ok (.value v) w/\R w I (dU w T g) kL v cw:=by
 obtain ⟨dst,op,ty,pos,after,guard⟩:=o;simp only at au;cases au with
 | @build t _ parts pl dI ps cs aw aX hy au aa =>
  obtain ⟨fs,hu,ue⟩:=Zi aw;obtain ⟨h1,af⟩:=Px h aP au;obtain ⟨jr,cy,b9⟩:=MS (w:=w) (I:=I) (ρ:=dU w T g) (place:=λi=>pl[i]?) ps _ (arr:=dI.cells) ⟨by simp,λk u hu=>LN hy k u (by simpa using hu),λk x u J hu=>Pf k x u J hu⟩ h1 af aa;refine ⟨.agg jr,?_,.agg (Fs:=λ_=>cw) (by simpa using b9.1) (λk u hu=>b9.2.1 k u (by simpa using hu)) (λk x u J hu=>b9.2.2 k x u J (by simpa using hu)) (λ_ _ _ _ _ h=>h.elim) (λc=>⟨λh=>h.elim,λ⟨_,_,h⟩=>h⟩)⟩;have ac_:=run_places (P:=P) w fs.toList pl ue;have av:P.built t ((parts.map λ(p:Nat × Operand)=>(p.1,a.eval p.2))).toList=some jr:=by
   rw [Array.toList_map];cases hi:P.info? t with
   | none=>simp [hi] at aX
   | some it =>
    simp_all [Program.built]
  simp_all [run_build,execOp]
 | @makeFunc fn first caps _ gS gn h1 af =>
  obtain ⟨aD,a2⟩:=zX h aP h1;obtain ⟨hp,iB⟩:=zX h aP af;refine ⟨.func fn (first.map a.eval) (caps.map a.eval),by simp [execOp,Instr.makeFunc],.cX (λ_ h=>h) (by simpa using aD) (by simpa using hp) (λk x u J hu=>?_) (λk x u J hu=>?_)⟩
  ·grind
  grind
end
end Go.Own
namespace Go.Own
open Go
structure DN (w w':World) (bv gx:Value) (e b9:TypeId) (z n m:Nat) (us news:List Value):Prop where
 nk:w'.ownsRow 0 e z bv n us
 new:w'.ownsRow 0 b9 z gx (n+m) (us++news)
 eR:Fr w w' (λc=>bv.ownBlock=some c)
 D_:∀ c,gx.ownBlock=some c->bv.ownBlock=some c\/w.heap.size<=c
 sp:∀ c,bv.ownBlock=some c->∃ arr jr:Array Value,w.heap[c]?=some (.cells arr e (0,0))/\w'.heap[c]?=some (.cells jr e (0,0))/\jr.size=arr.size/\jr.toList.take (n * z)=arr.toList.take (n * z)
section
variable {P:Program}{w:World}
theorem DN.same {bv gx:Value}{e b9:TypeId}{z n m:Nat}{us news:List Value}{w':World}(ll:w.ownsRow 0 e z bv n us) (av:∀ c,c<w.heap.size->w'.heap[c]?=w.heap[c]?) (aB:w.heap.size<=w'.heap.size)
  (h1:w'.os=w.os) (af:w'.tape=w.tape) (aI:w'.output=w.output) (r4:w'.ownsRow 0 b9 z gx (n+m) (us++news)) (hblk:∀ c,gx.ownBlock=some c->bv.ownBlock=some c\/w.heap.size<=c) (q_:∀ a,w'.frozen? a=w.frozen? a) (VA:w.drawn<=w'.drawn:=by first | exact Nat.le_refl _ | exact Nat.le_succ _):DN w w' bv gx e b9 z n m us news:=by
 have aT:=ll.lt;refine ⟨vO ll λc aa=>av c (aT c aa).2,r4,⟨h1,af,aI,aB,λb l3 _=>av b l3,λa _=>q_ a,VA⟩,hblk,λc aa=>?_⟩;obtain ⟨_,bY⟩:=ll;rcases bY with ⟨rfl,_⟩ | ⟨b,cap,cur,rfl,_,aO,_⟩
 ·simp [Value.ownBlock] at aa
 ·simp only [Value.ownBlock,Option.some.injEq] at aa;subst aa;exact ⟨cur,cur,aO,(av _ (aT b rfl).2).trans aO,rfl,rfl⟩
theorem YI (t ty e cj:TypeId) (i:TypeInfo) (aw:P.underlying t=some (.slice e)) (hi:P.info? e=some i)
  (b yl KF:Nat) (cur:Array Value) (aO:w.heap[b]?=some (.cells cur cj (0,0)))
  (a:Addr) (m c:Nat) (news:List Value) (aj:news.length=m * i.size) (uc:∀ j u,news[j]?=some u->w.cell? (a.add j)=some u) (h1:∀ u∈news,u.oneCell'=true)
  (B6:yl+m<=KF) (xf:yl * i.size+news.length<=cur.size) :
  (Builtin.append_ #[t,t] ty #[.slice (some ⟨b,0,none⟩) yl KF,.slice (some a) m c]).run P w =
   .ok (.slice (some ⟨b,0,none⟩) (yl+m) KF) (w.setRow b (cur.toList.take (yl * i.size)++news++cur.toList.drop (yl * i.size+news.length)).toArray):=by
 have aW:=run_firstCells_some (P:=P) w i.size m a m c news aj uc;have b1:=run_storeCells_at P b (yl * i.size) cj news 0 cur w aO (by simpa using xf) h1;simp only [Nat.add_zero] at b1;simp [Builtin.append_,run_underlying aw,sizeOf,typeInfo,hi,Builtin.lenOf,B6,aW,Addr.add_lit,b1]
theorem PS (t ty e cj:TypeId) (i:TypeInfo) (dI:Value) (aw:P.underlying t=some (.slice e)) (hi:P.info? e=some i) (aX:i.zero=some dI) (pK:dI.cells.size=i.size) (_h0:0<i.size)
  {bv:Value}{n m c:Nat}{us news:List Value}(ll:w.ownsRow 0 cj i.size bv n us) {a:Option Addr}(aP:0<m->a.isSome=true)
  (aj:news.length=m * i.size) (uc:∀ ad,a=some ad->∀ (j:Nat) (u:Value),news[j]?=some u->w.cell? (ad.add j)=some u) (h1:∀ u∈news,u.oneCell'=true)
  (q8:n+m<=maxLen) (EA:(n+m) * i.bytes<=140737488355328) :
  ∃ gx w' b9,(Builtin.append_ #[t,t] ty #[bv,.slice a m c]).run P w=.ok gx w'/\DN w w' bv gx cj b9 i.size n m us news:=by
 have l8:=ll.1;by_cases hm:m=0
 ·subst hm;have aF:news=[]:=List.eq_nil_of_length_eq_zero (by simpa using aj);subst aF;refine ⟨bv,w,cj,?_,.same ll (λ_ _=>rfl) (Nat.le_refl _) rfl rfl rfl (by simpa using ll) (λc aa=>.inl aa) λ_=>rfl⟩;obtain ⟨_,bY⟩:=ll;rcases bY with ⟨rfl,rfl⟩ | ⟨b,cap,cur,rfl,_,aO,hle,_⟩
  ·cases a <;> simp [Builtin.append_,run_underlying aw,sizeOf,typeInfo,hi,Builtin.lenOf,Builtin.firstCells,loadCells,loadCellsFrom]
  ·cases a <;> simp [Builtin.append_,run_underlying aw,sizeOf,typeInfo,hi,Builtin.lenOf,Builtin.firstCells,loadCells,loadCellsFrom,hle,storeCells]
 ·cases a with
  | none=>simp at aP; omega
  | some ad =>
   replace uc:=uc ad rfl;have ac':n+m<=9223372036854775807:=by simp only [maxLen] at q8; omega
   have grown:∀ (nk:Nat),nk<n+m ->
     (w.drew.alloc (.cells (us.toArray++news.toArray++Builtin.zeroCells dI.cells (grownCap w (n+m) nk e - (n+m))) e)).ownsRow 0 e i.size (.slice (some ⟨w.heap.size,0,none⟩) (n+m) (grownCap w (n+m) nk e)) (n+m) (us++news):=by
    intro nk a1;have dV:=grownCap_ge w (n+m) nk e;have hlen:(us++news).length=(n+m) * i.size:=by rw [List.length_append,l8,aj,Nat.add_mul]
    refine ⟨hlen,.inr ⟨w.heap.size,_,_,rfl,Nat.zero_le _,tw w.drew _,dV,grownCap_le_maxLen w (n+m) nk e q8,?_,?_⟩⟩
    ·simp only [Array.size_append,List.size_toArray,size_zeroCells,pK,l8,aj,<- Nat.add_mul];congr 1;omega
    ·simp only [Array.toList_append,List.append_assoc];rw [<- List.append_assoc,<- hlen];exact List.take_left
   have IX:=ll;obtain ⟨_,bY⟩:=ll;rcases bY with ⟨rfl,rfl⟩ | ⟨b,cap,cur,rfl,_,aO,hle,vg,hJ,Om⟩
   ·have J:us=[]:=List.eq_nil_of_length_eq_zero (by simpa using l8);subst J;have ao:=run_append_nil (P:=P) w t ty e i dI aw hi aX ad m c news aj uc (by omega) (by omega) (by simp only [Nat.zero_add] at EA; omega);have r2:=grown 0 (by omega);simp only [Nat.zero_add,List.nil_append,Array.empty_append] at r2;exact ⟨_,_,e,ao,.same IX (λc aa=>sw w.drew _ c aa) (by simp) rfl rfl rfl (by simpa using r2) (λc aa=>.inr (by simp [Value.ownBlock] at aa; omega)) (λa=>HI w.drew _ _ a)⟩
   ·by_cases B6:n+m<=cap
    ·have xf:n * i.size+news.length<=cur.size:=by rw [aj,hJ,<- Nat.add_mul]; exact Nat.mul_le_mul_right _ B6
     have ao:=YI (P:=P) (w:=w) t ty e cj i aw hi b n cap cur aO ad m c news aj uc h1 B6 xf;have hlen:(us++news).length=(n+m) * i.size:=by rw [List.length_append,l8,aj,Nat.add_mul]
     have fX:(cur.toList.take (n * i.size)++news++cur.toList.drop (n * i.size+news.length)).toArray.size=cur.size:=by
      simp only [List.size_toArray,List.length_append,List.length_take,List.length_drop,Array.length_toList];omega
     have gb:(cur.toList.take (n * i.size)++news++cur.toList.drop (n * i.size+news.length)).take (n * i.size)=cur.toList.take (n * i.size):=by
      rw [List.append_assoc];exact List.take_left' (by simp; omega)
     refine ⟨_,_,cj,ao,⟨⟨l8,.inr ⟨b,cap,_,rfl,Nat.zero_le _,setRow_heap w b cur _ cj _ aO,hle,vg,fX.trans hJ,?_⟩⟩,⟨hlen,.inr ⟨b,cap,_,rfl,Nat.zero_le _,setRow_heap w b cur _ cj _ aO,B6,vg,fX.trans hJ,?_⟩⟩,
      ⟨rfl,rfl,rfl,by simp,λk _ hk=>setRow_other w b k _ (λe=>hk (by simp [Value.ownBlock,e])),λa _=>HK w b _ a,Nat.le_refl _⟩,λc aa=>.inl aa,λc aa=>?_⟩⟩
     ·rw [<- Om]; exact gb
     ·rw [Om,<- hlen];exact List.take_left
     ·simp only [Value.ownBlock,Option.some.injEq] at aa;subst aa;exact ⟨cur,_,aO,setRow_heap w b cur _ cj _ aO,fX,gb⟩
    ·have holds:∀ (j:Nat) (u:Value),us[j]?=some u->w.cell? ((⟨b,0,none⟩:Addr).add j)=some u:=IX.cells (g:=b) rfl;have ao:=run_append_grow (P:=P) w t ty e i dI aw hi aX ⟨b,0,none⟩ n cap us l8 holds ad m c news aj uc (by omega) (by omega) (growslice_fits (by omega) EA);have r2:=grown cap (by omega);exact ⟨_,_,e,ao,.same IX (λc aa=>sw w.drew _ c aa) (by simp) rfl rfl rfl r2 (λc aa=>.inr (by simp [Value.ownBlock] at aa; omega)) (λa=>HI w.drew _ _ a)⟩
end
end Go.Own
namespace Go.Own
open Go
section
variable {w w':World}{I:bb}{ρ ρ':ab->Value->Prop}
theorem R.kids {x:ab}{v:Value}{F:bb}(h:R w I ρ x v F) (J:x.kids≠[]):∃ Fs:Nat->bb,
  (∀ k y,x.kids[k]?=some y->∃ u,child w v k=some u/\R w I ρ y u (Fs k))/\(∀ (j k c:Nat),j<x.kids.length->k<x.kids.length->Fs j c->Fs k c->j=k) /\
  (∀ k c,k<x.kids.length->Fs k c->F c)/\(∀ z n cs,x=.own z n cs->∀ c,v.ownBlock=some c->∀ k,k<x.kids.length->¬ Fs k c):=by
 cases h with
 | @own z n cs _ e us Fs _ a1 aj h1 ao aS av aN =>
  refine ⟨Fs,λk y hk=>?_,aS,λk c hk aa=>(aN c).2 (.inr ⟨k,hk,aa⟩),λ_ _ _ _ c aa k hk h=>av k c hk h aa⟩;simp only [ab.kids] at hk;have aT:k<cs.length:=(List.getElem?_eq_some_iff.1 hk).1;have hu:us[k]?=some us[k]:=List.getElem?_eq_getElem (aj ▸ aT)
  grind [pS]
 | @obj cs b e arr Fs _ a1 aj h1 ao aS av aN =>
  refine ⟨Fs,λk y hk=>?_,aS,λk c hk aa=>(aN c).2 (.inr ⟨k,hk,aa⟩),λ_ _ _ h=>by simp at h⟩;simp only [ab.kids] at hk;have aT:k<cs.length:=(List.getElem?_eq_some_iff.1 hk).1;have hu:arr[k]?=some arr[k]:=Array.getElem?_eq_getElem (aj ▸ aT);exact ⟨_,by simp [child,World.cell?,a1,hu],ao k y _ hk hu⟩
 | @agg cs vs Fs _ aj h1 ao aS aN =>
  refine ⟨Fs,λk y hk=>?_,aS,λk c hk aa=>(aN c).2 ⟨k,hk,aa⟩,λ_ _ _ h=>by simp at h⟩;simp only [ab.kids] at hk;have aT:k<cs.length:=(List.getElem?_eq_some_iff.1 hk).1
  simp_all [child]
 | @bV cs vs Fs _ aj ao aS aN =>
  refine ⟨Fs,λk y hk=>?_,aS,λk c hk aa=>(aN c).2 ⟨k,hk,aa⟩,λ_ _ _ h=>by simp at h⟩;simp only [ab.kids] at hk;have aT:k<cs.length:=(List.getElem?_eq_some_iff.1 hk).1
  simp_all [child]
 | ref gj=>cases x <;> simp [ab.isRef,ab.kids] at gj J
 | _=>simp [ab.kids] at J
theorem ab.u2 {x y:ab}{k:Nat}{p:List Nat}(h:x.at (k::p)=some y):∃ c,x.kids[k]?=some c/\c.at p=some y:=by
 grind [ab.at]
theorem R.J5 {b:Nat}:∀ (q r:List Nat) {x:ab}{v:Value}{F:bb}{z n bC cH:Nat}{cs cs':List ab}{mH Dx:Value},R w I ρ x v F->x.at q=some (.own z n cs)->x.at r=some (.own bC cH cs') ->
  walk w v q=some mH->walk w v r=some Dx->mH.ownBlock=some b->Dx.ownBlock=some b->q=r
 | [],[],_,_,_,_,_,_,_,_,_,_,_,_,_,_,_,_,_,_=>rfl
 | [],k::r,x,v,F,z,n,bC,cH,cs,cs',mH,Dx,h,bg,ao,ov,wr,y9,y_=>by
  obtain ⟨c,hk,aa⟩:=ab.u2 ao;simp only [ab.at,Option.some.injEq] at bg;simp only [walk,Option.some.injEq] at ov;subst bg ov;have aT:k<(ab.own z n cs).kids.length:=(List.getElem?_eq_some_iff.1 hk).1;obtain ⟨Fs,h1,af,aI,bF⟩:=h.kids (by intro e; rw [e] at aT; simp at aT);obtain ⟨u,hu,mU⟩:=h1 k c hk;simp only [walk,hu] at wr;obtain ⟨h3,cz,hw,dH,dx,_⟩:=R.focus r mU aa;rw [hw] at wr;cases wr;exact absurd (dx b (dH.qC b y_)) (bF z n cs rfl b y9 k aT)
 | j::q,[],x,v,F,z,n,bC,cH,cs,cs',mH,Dx,h,bg,ao,ov,wr,y9,y_=>by
  obtain ⟨c,hk,aa⟩:=ab.u2 bg;simp only [ab.at,Option.some.injEq] at ao;simp only [walk,Option.some.injEq] at wr;subst ao wr;have aT:j<(ab.own bC cH cs').kids.length:=(List.getElem?_eq_some_iff.1 hk).1;obtain ⟨Fs,h1,af,aI,bF⟩:=h.kids (by intro e; rw [e] at aT; simp at aT);obtain ⟨u,hu,mU⟩:=h1 j c hk;simp only [walk,hu] at ov;obtain ⟨h3,cz,hw,dH,dx,_⟩:=R.focus q mU aa;rw [hw] at ov;cases ov;exact absurd (dx b (dH.qC b y9)) (bF bC cH cs' rfl b y_ j aT)
 | j::q,k::r,x,v,F,z,n,bC,cH,cs,cs',mH,Dx,h,bg,ao,ov,wr,y9,y_=>by
  obtain ⟨c,ah,aa⟩:=ab.u2 bg;obtain ⟨d,hk,aS⟩:=ab.u2 ao;have eZ:j<x.kids.length:=(List.getElem?_eq_some_iff.1 ah).1;have fv:k<x.kids.length:=(List.getElem?_eq_some_iff.1 hk).1;obtain ⟨Fs,h1,af,aI,bF⟩:=h.kids (by intro e; rw [e] at eZ; simp at eZ);obtain ⟨u,hu,mU⟩:=h1 j c ah;obtain ⟨wi,jR,H5⟩:=h1 k d hk;simp only [walk,hu] at ov;simp only [walk,jR] at wr;by_cases gY:j=k
  ·subst gY;rw [ah] at hk; cases hk;rw [hu] at jR; cases jR;rw [R.J5 q r mU aa aS ov wr y9 y_]
  ·exfalso;obtain ⟨h3,cz,hw,dH,dx,_⟩:=R.focus q mU aa;obtain ⟨ZP,jm,vx,BC,Ux,_⟩:=R.focus r H5 aS;rw [hw] at ov; cases ov;rw [vx] at wr; cases wr;exact gY (af j k b eZ fv (dx b (dH.qC b y9)) (Ux b (BC.qC b y_)))
theorem ab.P6:∀ (q:List Nat) {x y:ab},x.at q=some y->x.setAt q y=x
 | [],x,y,h=>by simp [ab.at] at h; simp [ab.setAt,h]
 | k::q,x,y,h=>by
  obtain ⟨c,hk,aa⟩:=ab.u2 h;simp only [ab.setAt,hk,ab.P6 q aa];have:∀ (l:List ab),l[k]?=some c->l.set k c=l:=by
   intro l aj;apply List.ext_getElem?;intro j;by_cases gY:k=j
   ·subst gY;have aT:k<l.length:=(List.getElem?_eq_some_iff.1 aj).1;rw [List.getElem?_set_self aT,aj]
   ·rw [List.getElem?_set_ne gY]
  cases x <;> simp [ab.kids] at hk <;> simp [ab.wg,this _ hk]
theorem DA (w:World):∀ (p:List Nat) (v:Value) (r:List Nat),walk w v (p++r)=(walk w v p).bind λu=>walk w u r
 | [],v,r=>rfl
 | k::p,v,r=>by
  simp only [List.cons_append,walk];cases child w v k with
  | none=>rfl
  | some u=>exact DA w p u r
theorem ab.G0:∀ (p:List Nat) (x:ab) (r:List Nat),x.at (p++r)=(x.at p).bind λy=>y.at r
 | [],x,r=>rfl
 | k::p,x,r=>by
  simp only [List.cons_append,ab.at];cases x.kids[k]? with
  | none=>rfl
  | some u=>exact ab.G0 p u r
structure D1 (w w':World) (b M:Nat):Prop where
 other:∀ c,c<w.heap.size->c≠b->w'.heap[c]?=w.heap[c]?
 here:∃ (arr jr:Array Value) (e:TypeId),w.heap[b]?=some (.cells arr e (0,0))/\w'.heap[b]?=some (.cells jr e (0,0))/\jr.size=arr.size/\jr.toList.take M=arr.toList.take M
theorem D1.row {b M:Nat}(s:D1 w w' b M) {e:TypeId}{z n:Nat}{v:Value}{us:List Value}(h:w.ownsRow 0 e z v n us) (aF:v.ownBlock=some b->n * z<=M):w'.ownsRow 0 e z v n us:=by
 by_cases av:v.ownBlock=some b
 ·obtain ⟨arr,jr,cy,h1,af,aI,bF⟩:=s.here;obtain ⟨hu,bY⟩:=h;rcases bY with ⟨rfl,rfl⟩ | ⟨g,cap,cur,rfl,aO,aa,v',lx,Aw,yd⟩
  ·grind [Value.ownBlock]
  ·simp only [Value.ownBlock,Option.some.injEq] at av;subst av;rw [h1] at aa;cases aa;refine ⟨hu,.inr ⟨g,cap,jr,rfl,aO,af,v',lx,by omega,?_⟩⟩;rw [<- yd];have:=congrArg (List.take (n * z)) bF
   rwa [List.take_take,List.take_take,Nat.min_eq_left (aF rfl)] at this
 ·exact vO h λc aa=>s.other c (h.lt c aa).2 λe=>av (e ▸ aa)
theorem R.spare {b M:Nat}(s:D1 w w' b M) (bf:∀ c,I c->c<w.heap.size/\c≠b) (lQ:∀ x v,ρ x v->ρ' x v) {x:ab}{v:Value}{F:bb}(h:R w I ρ x v F) {q:List Nat}{z n:Nat}{cs:List ab}{h3:Value}
  (gu:x.at q=some (.own z n cs)) (hw:walk w v q=some h3) (av:h3.ownBlock=some b) (aF:n * z<=M) :
  R w' I ρ' x v F/\∀ r y,x.at r=some y->walk w' v r=walk w v r:=by
 obtain ⟨ZP,cz,vx,dH,dx,eX,ki⟩:=R.focus q h gu;rw [hw] at vx;cases vx;have mw:cz b:=dH.qC b av;have aT:=h.lt;have same:∀ c,F c->c≠b->w'.heap[c]?=w.heap[c]?:=λc aa dq=>s.other c (aT c aa) dq;have acx:=dH;cases dH with
 | ref J=>simp [ab.isRef] at J
 | @own _ _ _ _ e us Fs _ a1 aj h1 ao aS iN aN =>
  have nI:=s.row a1 λ_=>aF;have dq:∀ k c,k<cs.length->Fs k c->c≠b:=λk c hk aa e=>iN k c hk aa (e ▸ av);have jN:∀ k c,k<cs.length->Fs k c->F c:=λk c hk aa=>dx c ((aN c).2 (.inr ⟨k,hk,aa⟩));have r4:R w' I ρ' (.own z n cs) h3 cz:=by
   refine .own nI aj h1 (λk x u J hu=>?_) aS iN aN;have hk:k<cs.length:=(List.getElem?_eq_some_iff.1 J).1;exact (ao k x u J hu).frame (λc aa=>s.other c (bf c aa).1 (bf c aa).2) (λ_ h=>h) lQ λc aa=>same c (jN k c hk aa) (dq k c hk aa)
  constructor
  ·obtain ⟨c8,jO,pr⟩:=ki w' I ρ' _ cz ⟨λc aa=>s.other c (bf c aa).1 (bf c aa).2,λc aa aF=>same c aa λe=>aF (e ▸ mw),λ_ h=>h,lQ⟩ r4 λc aa _=>aa;rw [ab.P6 q gu] at jO;refine jO.ze λc=>?_
   grind
  ·obtain ⟨ic,hA⟩:=eX w' λc aa aF=>same c aa λe=>aF (e ▸ mw);intro r y ed;rcases hA r y ed with ⟨dm,rfl⟩ | h
   ·rw [DA,DA,ic,hw];simp only [Option.bind_some];cases dm with
    | nil=>rfl
    | cons k dm =>
     grind [ab.G0,ab.u2,ab.kids,R.pZ,walk,pS]
   ·exact h
end
end Go.Own
namespace Go.Own
open Go
section
variable {w w':World}{I:bb}{T:Array Value}{g:aK}{Fs:Nat->bb}
theorem cI.KR (h:cI w I T g Fs) {t:Nat}{x:ab}(J:g t=some x):∃ v,T[t]?=some v/\dY w T ⟨t,[]⟩=some v/\jF w I (dU w T g) x v (Fs t):=by
 obtain ⟨v,hv,aY⟩:=h.rel t x J;exact ⟨v,hv,by simp [dY,hv,walk],aY⟩
theorem cI.app (h:cI w I T g Fs) {z n m:Nat}{p:Place}{bv gx:Value}{e b9:TypeId}{us news:List Value}(jV:dU w T g (.bL z p n 0 []) bv)
  (e8:∀ t bC cH m' c3,g t≠some (.bL bC p cH m' c3)) (A:DN w w' bv gx e b9 z n m us news):cI w' I T g Fs/\∀ r v,dU w T g r v->dU w' T g r v:=by
 cases iN:bv.ownBlock with
 | none =>
  have same:∀ c,c<w.heap.size->w'.heap[c]?=w.heap[c]?:=λc aa=>A.eR.block c aa (by rw [iN]; simp);exact ⟨h.world (λt c aa=>same c (h.j1 t c aa)) (λc aa=>same c (h.lt c aa)) A.eR.size,λr v ao=>h.FQ (λ_ _=>rfl) (λt c aa=>same c (h.j1 t c aa)) (λ_ _ h=>h) ao⟩
 | some b =>
  have s:D1 w w' b (n * z):=by
   refine ⟨λc aa dq=>A.eR.block c aa (by rw [iN]; simpa using Ne.symm dq),?_⟩;obtain ⟨arr,jr,h1,af,aI,bF⟩:=A.sp b iN;exact ⟨arr,jr,e,h1,af,aI,bF⟩
  obtain ⟨t0,sQ⟩:=h.D9 jV b iN;have bf:∀ c,I c->c<w.heap.size/\c≠b:=λc aa=>⟨h.lt c aa,λe=>h.bk t0 b sQ (e ▸ aa)⟩;obtain ⟨⟨wK,wM,Im,rfl⟩,db⟩:=jV
  -- the home of the block
  have home:∃ N:Place->Prop,(∀ q bC cH cs' mH,bB g q=some (.own bC cH cs')->dY w T q=some mH->mH.ownBlock=some b->N q) /\
    (∀ q,N q->∀ t bC cH m' c3,g t=some (.bL bC q cH m' c3)->t=p.root/\p.path=[]) /\
    (∀ t bC fQ cH m' c3,Fs t b->g t=some (.bL bC fQ cH m' c3)->t=p.root/\p.path=[]) /\
    (∀ bC fQ cH m' c3,p.path=[]->g p.root=some (.bL bC fQ cH m' c3)->bC=z/\n=cH+m') /\
    (∀ t x v,Fs t b->g t=some x->T[t]?=some v->R w I (dU w T g) x v (Fs t)->∃ q bC cH cs' h3,x.at q=some (.own bC cH cs')/\walk w v q=some h3/\h3.ownBlock=some b/\cH * bC<=n * z):=by
   rcases db with ⟨cs,au⟩ | ⟨fI,lT,nj,m1,adi,cs,au,aF,B4⟩
   ·-- the base is a row of a tree
    obtain ⟨qL,qQ,gZ,hI,nA⟩:=h.part au (by simp);rw [Im] at gZ;cases gZ;have kg:t0=p.root:=h.eK _ _ _ sQ (nA b (hI.qC b iN));obtain ⟨eB,iF⟩:∃ eB,g p.root=some eB:=by
     unfold bB at au;cases J:g p.root with
     | none=>rw [J] at au; cases au
     | some x=>exact ⟨x,rfl⟩
    have py:eB.at p.path=some (.own z n cs):=by simpa [bB,iF] using au
    have lq:∀ bC fQ cH m' c3,g p.root≠some (.bL bC fQ cH m' c3):=by
     intro bC fQ cH m' c3 bY;rw [iF] at bY;cases bY;have:=(ab.sz py).2;simp at this
    obtain ⟨v0,iP,gG⟩:=h.rel _ _ iF;have BB:=gG.gI (λbC fQ cH m' c3 e=>lq bC fQ cH m' c3 (by rw [iF,e]));have Cd:walk w v0 p.path=some (.slice wK n wM):=by simpa [dY,iP] using Im
    refine ⟨λq=>q=p,?_,?_,?_,?_,?_⟩
    ·intro q bC cH cs' mH bg sS xb;obtain ⟨QD,GK,vv,H3,HX⟩:=h.part bg (by simp);rw [sS] at vv;cases vv;have ao:q.root=p.root:=(h.eK _ _ _ (HX b (H3.qC b xb)) sQ).trans kg;have BH:eB.at q.path=some (.own bC cH cs'):=by simpa [bB,ao,iF] using bg
     have Jb:walk w v0 q.path=some mH:=by simpa [dY,ao,iP] using sS
     have:=R.J5 q.path p.path BB BH py Jb Cd xb iN;cases q; cases p; simp_all
    ·rintro q rfl t bC cH m' c3 bY; exact absurd bY (e8 t bC cH m' c3)
    ·intro t bC fQ cH m' c3 pD bY;have:t=p.root:=(h.eK _ _ _ pD sQ).trans kg;rw [this] at bY;exact absurd bY (lq _ _ _ _ _)
    ·intro bC fQ cH m' c3 _ bY; exact absurd bY (lq _ _ _ _ _)
    ·intro t x v pD J hv aY;have:t=p.root:=(h.eK _ _ _ pD sQ).trans kg;subst this;rw [iF] at J; cases J;rw [iP] at hv; cases hv;exact ⟨_,_,_,_,_,py,Cd,iN,Nat.le_refl _⟩
   ·-- the base is behind an append itself
    obtain ⟨v0,iP,Cb,gG⟩:=h.KR au;have Wy:v0=.slice wK n wM:=by
     have:(⟨p.root,[]⟩:Place)=p:=by cases p; simp_all
     rw [this,Im] at Cb;exact (Option.some.inj Cb).symm
    subst Wy;obtain ⟨Sc,cy,ab3,ZJ,adk,gG⟩:=gG.vD;by_cases nB:Sc.ownBlock=some b
    ·obtain ⟨⟨aD,Mm,Ot,rfl⟩,_⟩:=gG.jV;obtain ⟨mH,GK,sS,H3,HX⟩:=h.part B4 (by simp);rw [Ot] at sS;cases sS;have kg:t0=lT.root:=h.eK _ _ _ sQ (HX b (H3.qC b nB));obtain ⟨eB,iF⟩:∃ eB,g lT.root=some eB:=by
      unfold bB at B4;cases J:g lT.root with
      | none=>rw [J] at B4; cases B4
      | some x=>exact ⟨x,rfl⟩
     have py:eB.at lT.path=some (.own z nj cs):=by simpa [bB,iF] using B4
     have lq:∀ bC fQ cH m' c3,g lT.root≠some (.bL bC fQ cH m' c3):=by
      intro bC fQ cH m' c3 bY;rw [iF] at bY;cases bY;have:=(ab.sz py).2;simp at this
     obtain ⟨v1,ui,qk⟩:=h.rel _ _ iF;have UM:=qk.gI (λbC fQ cH m' c3 e=>lq bC fQ cH m' c3 (by rw [iF,e]));have Cd:walk w v1 lT.path=some (.slice aD nj Mm):=by simpa [dY,ui] using Ot
     refine ⟨λq=>q=lT,?_,?_,?_,?_,?_⟩
     ·intro q bC cH cs' mH bg sS xb;obtain ⟨QD,Q',vv,H4,HY⟩:=h.part bg (by simp);rw [sS] at vv;cases vv;have ao:q.root=lT.root:=(h.eK _ _ _ (HY b (H4.qC b xb)) sQ).trans kg;have BH:eB.at q.path=some (.own bC cH cs'):=by simpa [bB,ao,iF] using bg
      have Jb:walk w v1 q.path=some mH:=by simpa [dY,ao,ui] using sS
      have:=R.J5 q.path lT.path UM BH py Jb Cd xb nB;cases q; cases lT; simp_all
     ·rintro q rfl t bC cH m' c3 bY; exact ⟨h.rn _ _ _ _ _ _ _ _ _ _ _ bY au,fI⟩
     ·intro t bC fQ cH m' c3 pD bY;have:t=lT.root:=(h.eK _ _ _ pD sQ).trans kg;rw [this] at bY;exact absurd bY (lq _ _ _ _ _)
     ·intro bC fQ cH m' c3 _ bY;rw [au] at bY; cases bY; exact ⟨rfl,aF⟩
     ·intro t x v pD J hv aY;have:t=lT.root:=(h.eK _ _ _ pD sQ).trans kg;subst this;rw [iF] at J; cases J;rw [ui] at hv; cases hv;exact ⟨_,_,_,_,_,py,Cd,nB,Nat.mul_le_mul_right _ (by omega)⟩
    ·have mo:Fs p.root b:=(gG.aN b).2 ⟨iN,nB⟩;have kg:t0=p.root:=h.eK _ _ _ sQ mo;refine ⟨λ_=>False,?_,λ_ h=>h.elim,?_,?_,?_⟩
     ·intro q bC cH cs' mH bg sS xb;obtain ⟨QD,Q',vv,H4,HY⟩:=h.part bg (by simp);rw [sS] at vv;cases vv;have ao:q.root=p.root:=h.eK _ _ _ (HY b (H4.qC b xb)) mo;unfold bB at bg;rw [ao,au] at bg;have:=(ab.sz bg).2;simp at this
     ·intro t bC fQ cH m' c3 pD _; exact ⟨h.eK _ _ _ pD mo,fI⟩
     ·intro bC fQ cH m' c3 _ bY;rw [au] at bY; cases bY; exact ⟨rfl,aF⟩
     ·intro t x v pD J hv aY;have:t=p.root:=h.eK _ _ _ pD mo;subst this;rw [au] at J; cases J;exact aY.lq.elim
  obtain ⟨N,Nk,Nl,Nn,UI,UJ⟩:=home
  -- rows of pends
  have pends:∀ t bC fQ cH m' c3 v za cj tH iU Fl,g t=some (.bL bC fQ cH m' c3)->T[t]?=some v->GN w I (dU w T g) bC fQ cH m' c3 v (Fs t) za cj tH iU Fl ->
    (v.ownBlock=some b->(cH+m') * bC<=n * z)/\(za.ownBlock=some b->cH * bC<=n * z):=by
   intro t bC fQ cH m' c3 v za cj tH iU Fl aO hv aY;by_cases aw:t=p.root/\p.path=[]
   ·obtain ⟨rfl,fI⟩:=aw;obtain ⟨rfl,rfl⟩:=UI _ _ _ _ _ fI aO;exact ⟨λ_=>Nat.le_refl _,λ_=>Nat.mul_le_mul_right _ (by omega)⟩
   ·have vf:za.ownBlock≠some b:=by
     intro l3;obtain ⟨⟨a2,rO,Ou,rfl⟩,V6⟩:=aY.jV;rcases V6 with ⟨cs2,af⟩ | ⟨aQ,Di,O3,m3,adj,ab0,af,aI,bF⟩
     ·exact aw (Nl fQ (Nk fQ _ _ _ _ af Ou l3) t _ _ _ _ aO)
     ·obtain ⟨v2,Ca,Oo,mr⟩:=h.KR af;have zy:(⟨fQ.root,[]⟩:Place)=fQ:=by cases fQ; simp_all
      rw [zy,Ou] at Oo;cases Oo;have Od:fQ.root=p.root/\p.path=[]->False:=by
       rintro ⟨ao,fI⟩;have:fQ=p:=by cases fQ; cases p; simp_all
       exact e8 t bC cH m' c3 (this ▸ aO)
      obtain ⟨Sd,fH,ab4,adv,adl,mr⟩:=mr.vD;by_cases pz:Sd.ownBlock=some b
      ·obtain ⟨⟨a4,aad,WA,rfl⟩,_⟩:=mr.jV;exact Od (Nl Di (Nk Di _ _ _ _ bF WA pz) _ _ _ _ _ af)
      ·exact Od (Nn _ _ _ _ _ _ ((mr.aN b).2 ⟨l3,pz⟩) af)
    refine ⟨λCc=>?_,λl3=>absurd l3 vf⟩;exact absurd (Nn _ _ _ _ _ _ ((aY.aN b).2 ⟨Cc,vf⟩) aO) aw
  -- trees
  have aT:=h.j1;have trees:∀ t x v (ρ':ab->Value->Prop),(∀ x v,dU w T g x v->ρ' x v)->g t=some x->T[t]?=some v->R w I (dU w T g) x v (Fs t)->R w' I ρ' x v (Fs t)/\∀ r y,x.at r=some y->walk w' v r=walk w v r:=by
   intro t x v ρ' lQ J hv aY;by_cases pD:Fs t b
   ·obtain ⟨q,bC,cH,cs',h3,h1,af,aI,bF⟩:=UJ t x v pD J hv aY;exact aY.spare s bf lQ h1 af aI bF
   ·have same:∀ c,Fs t c->w'.heap[c]?=w.heap[c]?:=λc aa=>s.other c (aT t c aa) λe=>pD (e ▸ aa);exact ⟨aY.frame (λc aa=>s.other c (bf c aa).1 (bf c aa).2) (λ_ h=>h) lQ same,λr y ao=>R.pZ r aY ao same⟩
  have val:∀ q y,bB g q=some y->dY w' T q=dY w T q:=by
   intro q y bg;unfold bB at bg;cases J:g q.root with
   | none=>rw [J] at bg; cases bg
   | some x =>
    rw [J] at bg;obtain ⟨v,hv,aY⟩:=h.rel _ _ J;cases aY with
    | tree aY=>have:=(trees _ x v _ (λ_ _ h=>h) J hv aY).2 q.path y bg; simp [dY,hv,this]
    | bL aY=>simp [dY,hv,(ab.sz bg).1,walk]
  have slot:∀ {q:Place}{x:ab},q.path=[]->g q.root=some x->dY w' T q=dY w T q:=by
   intro q x bg J;obtain ⟨v,hv,_⟩:=h.rel _ _ J;simp [dY,bg,walk]
  have refs:∀ r v,dU w T g r v->dU w' T g r v:=by
   rintro r v ⟨h1,af⟩;refine ⟨?_,af⟩;cases r <;> simp only [fA,gE] at h1 af ⊢
   case ptr q k=>obtain ⟨y,ax,_⟩:=af; rw [val q y ax]; exact h1
   case a6 bC q cH =>
    rcases af with ⟨_,_,af,_⟩ | ⟨aQ,_,_,_,_,af,_⟩
    ·rw [val q _ af]; exact h1
    ·rw [slot aQ af]; exact h1
   case sub bC q lo cH=>obtain ⟨_,_,af,_⟩:=af; rw [val q _ af]; exact h1
   case gz q=>obtain ⟨_,af⟩:=af; rw [val q _ af]; exact h1
   case bL bC q cH m' c3 =>
    rcases af with ⟨_,af⟩ | ⟨aQ,_,_,_,_,_,af,_⟩
    ·rw [val q _ af]; exact h1
    ·rw [slot aQ af]; exact h1
  refine ⟨⟨λt x J=>?_,h.k2,h.eK,h.bk,λc aa=>Nat.lt_of_lt_of_le (h.lt c aa) A.eR.size,h.rn⟩,refs⟩;obtain ⟨v,hv,aY⟩:=h.rel t x J;refine ⟨v,hv,?_⟩;cases aY with
  | tree aY=>exact .tree (trees t x v _ refs J hv aY).1
  | @bL bC cH m' fQ c3 _ za cj tH iU Fl _ aY =>
   obtain ⟨eW,rj⟩:=pends t _ _ _ _ _ v za cj tH iU Fl J hv aY;refine .bL ⟨refs _ _ aY.jV,s.row aY.ll rj,s.row aY.nJ eW,aY.aj,aY.h1,λk x u J hu=>?_,aY.aN⟩;exact (aY.ao k x u J hu).frame (λc aa=>s.other c (bf c aa).1 (bf c aa).2) (λ_ h=>h) refs λc aa=>aa.elim
end
end Go.Own
namespace Go.Own
open Go
def uV (w:World) (I:bb) (T:Array Value) (g:aK) (Fs:Nat->bb) (x:ab) (v:Value) (w':World):Prop :=
 ∃ F I',cI w' I' T g Fs/\jF w' I' (dU w' T g) x v F/\(∀ t c,F c->¬ Fs t c)/\(∀ c,F c->w.heap.size<=c/\¬ I' c)/\(∀ c,I c->I' c)/\(∀ c,I' c->I c\/w.heap.size<=c)/\Fr w w' (λc=>∃ t,Fs t c)/\(∀ z p n m new,x=.bL z p n m new->∀ t bC cH m' c3,g t≠some (.bL bC p cH m' c3))
inductive Src (g:aK):ab->Nat->Nat->List ab->Prop
 | bk {z m:Nat}{cs:List ab}:Src g (.bk z m cs) z m cs
 | aL {z:Nat}:Src g .aL z 0 []
 | a6 {z m N:Nat}{q:Place}{cs:List ab}(bg:bB g q=some (.own z N cs)) (hm:m<=N):Src g (.a6 z q m) z m ((cs.take (m * z)).mapIdx λi x=>gw 0 (q.push i) x)
 | sub {z lo m N:Nat}{q:Place}{cs:List ab}(bg:bB g q=some (.own z N cs)) (hm:lo+m<=N):Src g (.sub z q lo m) z m (((cs.drop (lo * z)).take (m * z)).mapIdx λi x=>gw 0 (q.push (lo * z+i)) x)
def jI (P:Program) (t e:TypeId) (z b:Nat):Bool :=
 match P.underlying t,P.info? e with
 | some (.slice cj),some i=>cj == e&&i.size == z&&i.bytes == b&&z != 0&&(match i.zero with | some v=>v.cells.size == z | none=>false)
 | _,_=>false
section
variable {P:Program}{w:World}{I:bb}{T:Array Value}{g:aK}{Fs:Nat->bb}
theorem LY {t e:TypeId}{z b:Nat}(h:jI P t e z b=true):∃ i dI,P.underlying t=some (.slice e)/\P.info? e=some i/\i.size=z/\i.bytes=b/\0<z/\i.zero=some dI/\dI.cells.size=z:=by
 unfold jI at h;cases hu:P.underlying t with
 | none=>simp [hu] at h
 | some d =>
  cases hi:P.info? e with
  | none=>cases d <;> simp [hu,hi] at h
  | some i =>
   cases d <;> simp [hu,hi] at h;obtain ⟨⟨⟨⟨rfl,h1⟩,af⟩,aI⟩,bF⟩:=h;cases aX:i.zero with
   | none=>simp [aX] at bF
   | some dI=>simp [aX] at bF; exact ⟨i,dI,rfl,rfl,h1,af,by omega,aX,bF⟩
theorem Src.sound (h:cI w I T g Fs) {y:ab}{v:Value}{z m:Nat}{cells:List ab}(aB:Src g y z m cells) (aY:R w I (dU w T g) y v cw) :
  ∃ (a:Option Addr) (c:Nat) (news:List Value),v=.slice a m c/\news.length=m * z/\(0<m->0<z->a.isSome=true)/\(∀ ad,a=some ad->∀ (j:Nat) (u:Value),news[j]?=some u->w.cell? (ad.add j)=some u)/\Cells w I (dU w T g) cells news:=by
 have Pg:∀ {q:Place}{N:Nat}{cs:List ab}(lo:Nat) {a:Option Addr}{cap:Nat},bB g q=some (.own z N cs)->dY w T q=some (.slice a N cap)->lo+m<=N ->
   ∃ news:List Value,news.length=m * z/\(∀ ad,a=some ad->∀ (j:Nat) (u:Value),news[j]?=some u->w.cell? ⟨ad.block,lo * z+j,none⟩=some u)/\Cells w I (dU w T g) (((cs.drop (lo * z)).take (m * z)).mapIdx λi x=>gw 0 (q.push (lo * z+i)) x) news/\(0<m->0<z->∃ b,a=some ⟨b,0,none⟩):=by
  intro q N cs lo a cap bg hv hm;obtain ⟨gx,cz,iq,dH,_⟩:=h.part bg (by simp);rw [hv] at iq;cases iq;obtain ⟨ca,mQ,jd,_,hlen,ra,_⟩:=dH.nm;cases jd;have acA:lo * z+m * z<=cs.length:=by rw [hlen,<- Nat.add_mul]; exact Nat.mul_le_mul_right _ hm
  have cell:∀ j,j<m * z->∃ b hb lW,a=some ⟨b,0,none⟩/\w.cell? ⟨b,lo * z+j,none⟩=some hb/\hb.oneCell'=true/\cs[lo * z+j]?=some lW/\R w I (dU w T g) (gw 0 (q.push (lo * z+j)) lW) hb cw:=by
   intro j ah;have gj:cs[lo * z+j]?=some cs[lo * z+j]:=List.getElem?_eq_getElem (by omega);obtain ⟨b,hb,fP,l5,n9,hy,bM,kT⟩:=dH.node (.inl rfl) gj;refine ⟨b,hb,_,?_,l5,hy,gj,FP 0 (by rw [tC,bg]; simp [ab.kids]) (by rw [yv,hv]; exact n9) kT⟩;cases a with
   | none=>simp [addrOf] at fP
   | some ad=>simp only [addrOf] at fP; rw [Option.some.inj fP]
  have uc:∃ news:List Value,news.length=m * z/\∀ j,j<m * z->∃ b hb lW,news[j]?=some hb/\a=some ⟨b,0,none⟩/\w.cell? ⟨b,lo * z+j,none⟩=some hb/\hb.oneCell'=true/\cs[lo * z+j]?=some lW/\R w I (dU w T g) (gw 0 (q.push (lo * z+j)) lW) hb cw:=by
   refine ⟨(List.range (m * z)).map λj=>(w.cell? ⟨(a.map (·.block)).getD 0,lo * z+j,none⟩).getD undef,by simp,λj ah=>?_⟩;obtain ⟨b,hb,lW,h1,af,aI,bF,cG⟩:=cell j ah;refine ⟨b,hb,lW,?_,h1,af,aI,bF,cG⟩;rw [List.getElem?_map,List.getElem?_range ah,h1];simp [af]
  obtain ⟨news,aj,aF⟩:=uc;refine ⟨news,aj,λad fP j u ah=>?_,⟨?_,λj u ah=>?_,λj x u J ah=>?_⟩,λIQ Jq=>?_⟩
  ·obtain ⟨b,hb,lW,h1,af,aI,_⟩:=aF j (by rw [<- aj]; exact (List.getElem?_eq_some_iff.1 ah).1);rw [h1] at ah; cases ah;rw [fP] at af; cases af;exact aI
  ·simp; omega
  ·obtain ⟨b,hb,lW,h1,af,aI,bF,_⟩:=aF j (by rw [<- aj]; exact (List.getElem?_eq_some_iff.1 ah).1);rw [h1] at ah; cases ah; exact bF
  ·obtain ⟨b,hb,lW,h1,af,aI,bF,cG,eh⟩:=aF j (by rw [<- aj]; exact (List.getElem?_eq_some_iff.1 ah).1);rw [h1] at ah; cases ah;rw [List.getElem?_mapIdx,List.getElem?_take] at J
   split at J
   ·rw [List.getElem?_drop,cG] at J;simp only [Option.map_some,Option.some.injEq] at J;rw [<- J]; exact eh
   ·cases J
  ·obtain ⟨b,_,_,h1,_⟩:=cell 0 (Nat.mul_pos IQ Jq);exact ⟨b,h1⟩
 cases aB with
 | bk =>
  obtain ⟨a,cap,rfl,_,hlen,hm⟩:=aY.zK;by_cases aQ:cells≠[]\/0<m
  ·obtain ⟨ad,us,rfl,bf,je,hy,aa,ao⟩:=hm aQ;refine ⟨_,cap,(List.range cells.length).map us,rfl,by simp [hlen],by simp,λRE fP j u ah=>?_,⟨by simp,λj u ah=>?_,λj x u J ah=>?_⟩⟩
   ·cases fP;rw [List.getElem?_map] at ah;by_cases eZ:j<cells.length
    ·rw [List.getElem?_range eZ] at ah;simp only [Option.map_some,Option.some.injEq] at ah;obtain ⟨b,o,sp⟩:=ad;simp only at je;subst je;rw [add_eq,<- ah];exact aa j _ (List.getElem?_eq_getElem eZ)
    ·rw [List.getElem?_eq_none (by simp; omega)] at ah; cases ah
   ·rw [List.getElem?_map] at ah;by_cases eZ:j<cells.length
    ·rw [List.getElem?_range eZ] at ah;simp only [Option.map_some,Option.some.injEq] at ah;rw [<- ah];exact hy j _ (List.getElem?_eq_getElem eZ)
    ·rw [List.getElem?_eq_none (by simp; omega)] at ah; cases ah
   ·rw [List.getElem?_map] at ah;have eZ:j<cells.length:=(List.getElem?_eq_some_iff.1 J).1;rw [List.getElem?_range eZ] at ah;simp only [Option.map_some,Option.some.injEq] at ah;rw [<- ah];exact ao j x J
  ·have IQ:m=0:=by omega
   have Vp:cells=[]:=Classical.byContradiction λe=>aQ (.inl e);subst IQ Vp;exact ⟨a,cap,[],rfl,by simp,by simp,by simp,by simp [Cells]⟩
 | aL =>
  rw [aY.sf];exact ⟨none,0,[],rfl,by simp,by simp,by simp,by simp [Cells]⟩
 | @a6 _ _ N q cs bg hm =>
  obtain ⟨⟨a,i_,cap,h1,rfl,aI⟩,bF⟩:=aY.nc;obtain ⟨gx,cz,iq,dH,_⟩:=h.part bg (by simp);obtain ⟨ca,mQ,jd,_⟩:=dH.nm;rw [h1] at iq;cases iq;cases jd;obtain ⟨news,aj,aa,hJ,aP⟩:=Pg 0 bg h1 (by omega);simp only [Nat.zero_mul,List.drop_zero,Nat.zero_add] at hJ aa;refine ⟨a,cap,news,rfl,aj,λaQ HN=>by obtain ⟨b,rfl⟩:=aP aQ HN; rfl,λad fP j u ah=>?_,hJ⟩;have xg:=aa ad fP j u ah;by_cases aQ:0<m/\0<z
  ·obtain ⟨b,av⟩:=aP aQ.1 aQ.2;rw [fP] at av; cases av;rw [add_eq]; simpa using xg
  ·have:m * z=0:=by
    rcases Nat.eq_zero_or_pos m with h | h
    ·simp [h]
    ·rcases Nat.eq_zero_or_pos z with aR | aR
     ·simp [aR]
     ·exact absurd ⟨h,aR⟩ aQ
   have:=(List.getElem?_eq_some_iff.1 ah).1;omega
 | @sub _ lo _ N q cs bg hm =>
  obtain ⟨⟨a,i_,cap,ca,mQ,h1,rfl,_,aI,cG⟩,bF⟩:=aY.xB;obtain ⟨gx,cz,iq,dH,_⟩:=h.part bg (by simp);obtain ⟨a2,rO,jd,_⟩:=dH.nm;rw [h1] at iq;cases iq;cases jd;obtain ⟨news,aj,aa,hJ,aP⟩:=Pg lo bg h1 hm;refine ⟨ca,mQ,news,rfl,aj,λaQ _=>by obtain ⟨ad,_,rfl⟩:=cG aQ; rfl,λad fP j u ah=>?_,hJ⟩;have aT:=(List.getElem?_eq_some_iff.1 ah).1;have aQ:0<m:=(Nat.eq_zero_or_pos m).elim (λh=>by rw [h] at aj; omega) id

  have aX:0<z:=(Nat.eq_zero_or_pos z).elim (λh=>by rw [h] at aj; omega) id

  obtain ⟨RE,eh,mT⟩:=cG aQ;obtain ⟨b,av⟩:=aP aQ aX;rw [eh] at av; cases av;rw [fP] at mT; cases mT;have xg:=aa _ eh j u ah;rw [add_eq]; simpa using xg
end
end Go.Own
namespace Go.Own
open Go
inductive A1 (P:Program) (g:aK):Op->TypeId->ab->Prop
 | grow {s x:Operand}{t e ty:TypeId}{z b n m:Nat}{p:Place}{y:ab}{cells:List ab}(aB:br g s=some (.a6 z p n)) (db:gE g (.bL z p n 0 [])) (e8:∀ t bC cH m' c3,g t≠some (.bL bC p cH m' c3))
   (J:br g x=some y) (r9:Src g y z m cells) (aw:jI P t e z b=true) (q8:n+m<=4611686018427387904) (av:(n+m) * b<=140737488355328) :
   A1 P g (.call { callee:=.builtin .append,args:=#[s,x],argTypes:=#[t,t] }) ty (.bL z p n m cells)
 | nil {s x:Operand}{t e ty:TypeId}{z b m:Nat}{y:ab}{cells:List ab}(aB:br g s=some .aL)
   (J:br g x=some y) (r9:Src g y z m cells) (aw:jI P t e z b=true) (q8:m<=4611686018427387904) (av:m * b<=140737488355328) :
   A1 P g (.call { callee:=.builtin .append,args:=#[s,x],argTypes:=#[t,t] }) ty (.own z m cells)
inductive ch (P:Program) (g:aK):Op->TypeId->ab->Prop
 | eW {op:Op}{ty:TypeId}{x:ab}(h:c6 P g op ty x):ch P g op ty x
 | rj {op:Op}{ty:TypeId}{x:ab}(h:p8 P g op ty x):ch P g op ty x
 | CM {op:Op}{ty:TypeId}{x:ab}(h:uX P g op ty x):ch P g op ty x
 | lS {op:Op}{ty:TypeId}{x:ab}(h:A1 P g op ty x):ch P g op ty x
section
variable {P:Program}{w:World}{I:bb}{T:Array Value}{g:aK}{Fs:Nat->bb}
theorem Cells.frame {w':World}{cells:List ab}{news:List Value}(aa:Cells w I (dU w T g) cells news) (bf:∀ c,I c->w'.heap[c]?=w.heap[c]?) (ao:∀ r v,dU w T g r v->dU w' T g r v):Cells w' I (dU w' T g) cells news :=
 ⟨aa.1,aa.2.1,λk x u J hu=>(aa.2.2 k x u J hu).frame bf (λ_ h=>h) ao λ_ h=>h.elim⟩
theorem A1.sound (h:cI w I T g Fs) {a:Act}(aP:a.tmps=T) {o:Oper}{kL:ab}(au:A1 P g o.op o.type kL) :
  ∃ v w',(execOp a.eval o).run P w=.ok (.value v) w'/\uV w I T g Fs kL v w':=by
 obtain ⟨dst,op,ty,pos,after,guard⟩:=o;simp only at au;cases au with
 | @grow s x t e _ z b n m p y cells aB db e8 J r9 aw q8 av =>
  obtain ⟨i,dI,hu,hi,rfl,rfl,aQ,aX,pK⟩:=LY aw;obtain ⟨⟨wK,N,wM,h1,af,aI⟩,bF⟩:=(kh h aB aP).nc;obtain ⟨Dn,KH,news,vr,aj,B7,I5,hJ⟩:=r9.sound h (kh h J aP)
  -- the row of the base
  have qp:N=n/\∃ cj us,w.ownsRow 0 cj i.size (.slice wK n wM) n us:=by
   rcases db with ⟨cs,au⟩ | ⟨fI,q,gJ,m0,new,cs,au,rfl,_⟩
   ·obtain ⟨gx,cz,iq,dH,_⟩:=h.part au (by simp);rw [h1] at iq;cases iq;obtain ⟨ca,mQ,jd,_⟩:=dH.nm;cases jd;cases dH with
    | own a1=>exact ⟨rfl,_,_,a1⟩
    | ref J=>simp [ab.isRef] at J
   ·obtain ⟨v0,iP,Cb,gG⟩:=h.KR au;have bg:(⟨p.root,[]⟩:Place)=p:=by cases p; simp_all
    rw [bg,h1] at Cb;cases Cb;obtain ⟨bv,cy,b9,us,adm,gG⟩:=gG.vD;have bc:N=gJ+m0:=by
     obtain ⟨_,bY⟩:=gG.nJ;rcases bY with ⟨bY,aF⟩ | ⟨g,cap,cur,bY,_⟩
     ·cases bY; omega
     ·cases bY; rfl
    subst bc;exact ⟨rfl,_,_,gG.nJ⟩
  obtain ⟨rfl,cj,us,ll⟩:=qp;have jV:dU w T g (.bL i.size p N 0 []) (.slice wK N wM):=⟨⟨wK,wM,h1,rfl⟩,db⟩;obtain ⟨gx,w',b9,hR,A⟩:=PS (P:=P) (w:=w) t ty e cj i dI hu hi aX pK aQ ll (a:=Dn) (c:=KH) (m:=m) (news:=news) (λhm=>B7 hm aQ) aj I5 (λu hu=>by
   obtain ⟨k,hk,rfl⟩:=List.mem_iff_getElem.1 hu;exact hJ.2.1 k _ (List.getElem?_eq_getElem hk)) (by unfold maxLen; omega) av
  obtain ⟨bj,hrefs⟩:=h.app jV e8 A;refine ⟨gx,w',by simp [execOp,resolve,invoke,builtin,af,vr,hR],(λc=>gx.ownBlock=some c/\(Value.slice wK N wM).ownBlock≠some c),I,bj,?_,?_,?_,λ_ h=>h,λ_ h=>.inl h,?_,?_⟩
  ·have bf:∀ c,I c->w'.heap[c]?=w.heap[c]?:=by
    intro c aa;refine A.eR.block c (h.lt c aa) λav=>?_;obtain ⟨t,aw⟩:=h.D9 jV c av;exact h.bk t c aw aa
   have lN:=hJ.frame bf hrefs;exact .bL ⟨hrefs _ _ jV,A.nk,A.new,lN.1,lN.2.1,lN.2.2,λc=>Iff.rfl⟩
  ·rintro t c ⟨il,tX⟩ aW;rcases A.D_ c il with h | aR
   ·exact tX h
   ·have:=h.j1 t c aW; omega
  ·rintro c ⟨il,tX⟩;rcases A.D_ c il with aR | aR
   ·exact absurd aR tX
   ·exact ⟨aR,λhi=>by have:=h.lt c hi; omega⟩
  ·exact A.eR.mono λc _ aa=>h.D9 jV c aa
  ·intro bC XY cH m' c3 he;cases he;exact e8
 | @nil s x t e _ z b m y cells aB J r9 aw q8 av =>
  obtain ⟨i,dI,hu,hi,rfl,rfl,aQ,aX,pK⟩:=LY aw;have af:=(kh h aB aP).sf;obtain ⟨Dn,KH,news,vr,aj,B7,I5,hJ⟩:=r9.sound h (kh h J aP);obtain ⟨gx,w',b9,hR,A⟩:=PS (P:=P) (w:=w) t ty e e i dI hu hi aX pK aQ (World.ownsRow_nil w 0 e i.size) (a:=Dn) (c:=KH) (m:=m) (news:=news) (λhm=>B7 hm aQ) aj I5 (λu hu=>by
   obtain ⟨k,hk,rfl⟩:=List.mem_iff_getElem.1 hu;exact hJ.2.1 k _ (List.getElem?_eq_getElem hk)) (by unfold maxLen; omega) (by simpa using av)
  have same:∀ c,c<w.heap.size->w'.heap[c]?=w.heap[c]?:=λc aa=>A.eR.block c aa (by simp [Value.ownBlock]);have r4:=A.new;simp only [Nat.zero_add,List.nil_append] at r4;have lN:=hJ.frame (λc aa=>same c (h.lt c aa)) λr v ao=>h.FQ (λ_ _=>rfl) (λt c aa=>same c (h.j1 t c aa)) (λ_ _ h=>h) ao;have hblk:∀ c,gx.ownBlock=some c->w.heap.size<=c:=λc aa=>(A.D_ c aa).elim (λh=>by simp [Value.ownBlock] at h) id;refine ⟨gx,w',by simp [execOp,resolve,invoke,builtin,af,vr,hR],(λc=>gx.ownBlock=some c),I,h.world (λt c aa=>same c (h.j1 t c aa)) (λc aa=>same c (h.lt c aa)) A.eR.size,?_,?_,λc aa=>⟨hblk c aa,λhi=>by have:=h.lt c hi; have:=hblk c aa; omega⟩,λ_ h=>h,λ_ h=>.inl h,?_,?_⟩
  ·exact .tree (.own (Fs:=λ_=>cw) r4 lN.1 lN.2.1 lN.2.2 (λ_ _ _ _ _ h=>h.elim) (λ_ _ _ h=>h.elim) λc=>⟨.inl,λh=>h.elim id λ⟨_,_,h⟩=>h.elim⟩)
  ·intro t c aa aW; have:=hblk c aa; have:=h.j1 t c aW; omega
  ·exact A.eR.mono λc _ aa=>by simp [Value.ownBlock] at aa
  ·intro bC XY cH m' c3 he; cases he
theorem ch.sound (h:cI w I T g Fs) {a:Act}(aP:a.tmps=T) {o:Oper}{kL:ab}(au:ch P g o.op o.type kL) :
  ∃ v w',(execOp a.eval o).run P w=.ok (.value v) w'/\uV w I T g Fs kL v w':=by
 have CF:∀ {v:Value}{F:bb},R w I (dU w T g) kL v F->∀ z p n m new,kL=.bL z p n m new->∀ t bC cH m' c3,g t≠some (.bL bC p cH m' c3):=by
  rintro v F aY z p n m new rfl;exact aY.lq.elim
 cases au with
 | eW au =>
  obtain ⟨v,ao,aY⟩:=au.sound h aP;exact ⟨v,w,ao,cw,I,h,.tree aY,λ_ _ h=>h.elim,λ_ h=>h.elim,λ_ h=>h,λ_ h=>.inl h,Fr.refl _ _,CF aY⟩
 | CM au =>
  obtain ⟨v,ao,aY⟩:=au.sound h aP;exact ⟨v,w,ao,cw,I,h,.tree aY,λ_ _ h=>h.elim,λ_ h=>h.elim,λ_ h=>h,λ_ h=>.inl h,Fr.refl _ _,CF aY⟩
 | rj au =>
  obtain ⟨v,sk,ao,aY⟩:=au.sound h aP;refine ⟨v,_,ao,_,I,h.alloc sk,.tree aY,λt c aa aW=>?_,λc aa=>⟨by rw [aa]; exact Nat.le_refl _,λhi=>by have:=h.lt c hi; omega⟩,λ_ h=>h,λ_ h=>.inl h,Fr.alloc w sk _ (by
   obtain ⟨o,h1,af⟩:=aY.Yj w.heap.size rfl;rw [tw] at h1;cases h1;exact af),?_⟩
  ·have:=h.j1 t c aW; omega
  ·rintro z p n m new rfl; exact aY.lq.elim
 | lS au=>exact au.sound h aP
end
end Go.Own
namespace Go.Own
open Go
inductive cU:ab->Prop
 | lit {v:Value}:cU (.lit v)
 | aL:cU .aL
 | dead:cU .dead
 | bk {z n:Nat}{cs:List ab}(h:∀ x∈cs,cU x):cU (.bk z n cs)
 | own {z n:Nat}{cs:List ab}(h:∀ x∈cs,cU x):cU (.own z n cs)
 | obj {cs:List ab}(h:∀ x∈cs,cU x):cU (.obj cs)
 | agg {cs:List ab}(h:∀ x∈cs,cU x):cU (.agg cs)
 | bV {cs:List ab}(h:∀ x∈cs,cU x):cU (.bV cs)
 | cJ {cs:List ab}(h:∀ x∈cs,cU x):cU (.cJ cs)
 | cX {fn:Fn}{a b:List ab}(h1:∀ x∈a,cU x) (af:∀ x∈b,cU x):cU (.cX fn a b)
 | mp {p:Array MapEntry->Nat->Prop}:cU (.mp p)
 | imp {p:Array MapEntry->Nat->Prop}:cU (.imp p)
inductive kM:ab->Prop
 | lit {v:Value}:kM (.lit v)
 | aL:kM .aL
 | dead:kM .dead
 | own {z n:Nat}{cs:List ab}(h:∀ x∈cs,kM x):kM (.own z n cs)
 | obj {cs:List ab}(h:∀ x∈cs,kM x):kM (.obj cs)
 | agg {cs:List ab}(h:∀ x∈cs,kM x):kM (.agg cs)
 | bV {cs:List ab}(h:∀ x∈cs,kM x):kM (.bV cs)
 | mp {p:Array MapEntry->Nat->Prop}:kM (.mp p)
theorem kM.bl {x:ab}(h:kM x):cU x:=by
 induction h with
 | lit=>exact .lit
 | aL=>exact .aL
 | dead=>exact .dead
 | own _ aU=>exact .own aU
 | obj _ aU=>exact .obj aU
 | agg _ aU=>exact .agg aU
 | bV _ aU=>exact .bV aU
 | mp=>exact .mp
inductive Rows (g:aK):Place->Nat->Nat->List ab->Prop
 | own {p:Place}{z n:Nat}{cs:List ab}(au:bB g p=some (.own z n cs)):Rows g p z n cs
 | bL {t z n m:Nat}{q:Place}{new cs:List ab}(aw:g t=some (.bL z q n m new)) (bg:Rows g q z n cs):Rows g ⟨t,[]⟩ z (n+m) (cs++new)
theorem Rows.mono {g g':aK}(h:∀ {p:Place}{y:ab},bB g p=some y->bB g' p=some y) {p:Place}{z n:Nat}{cs:List ab}(ao:Rows g p z n cs) (af:∀ t x,g t=some x->g' t=some x):Rows g' p z n cs:=by
 induction ao with
 | own au=>exact .own (h au)
 | bL aw _ aU=>exact .bL (af _ _ aw) aU
inductive View (g:aK):ab->ab->Prop
 | self {x:ab}(h:cU x) (J:∀ z n cs,x≠.own z n cs) (a1:∀ cs,x≠.obj cs) (aP:∀ cs,x≠.agg cs) (aw:∀ cs,x≠.bV cs) (hm:∀ p,x≠.mp p):View g x x
 | mp {p:Array MapEntry->Nat->Prop}:View g (.mp p) (.imp p)
 | gz {p:Place}{q:Array MapEntry->Nat->Prop}(au:bB g p=some (.mp q)):View g (.gz p) (.imp q)
 | qB {z:Nat}:View g .aL (.bk z 0 [])
 | agg {cs cs':List ab}(aj:cs'.length=cs.length) (h:∀ (k:Nat) (x y:ab),cs[k]?=some x->cs'[k]?=some y->View g x y):View g (.agg cs) (.agg cs')
 | own {z n:Nat}{cs cs':List ab}(aj:cs'.length=cs.length) (h:∀ (k:Nat) (x y:ab),cs[k]?=some x->cs'[k]?=some y->View g x y):View g (.own z n cs) (.bk z n cs')
 | obj {cs cs':List ab}(aj:cs'.length=cs.length) (h:∀ (k:Nat) (x y:ab),cs[k]?=some x->cs'[k]?=some y->View g x y):View g (.obj cs) (.cJ cs')
 | a6 {z n N:Nat}{p:Place}{cs cs':List ab}(au:bB g p=some (.own z N cs)) (aF:n<=N) (aj:cs'.length=(cs.take (n * z)).length) (h:∀ (k:Nat) (x y:ab),(cs.take (n * z))[k]?=some x->cs'[k]?=some y->View g x y):View g (.a6 z p n) (.bk z n cs')
 | sub {z lo n N:Nat}{p:Place}{cs cs':List ab}(au:bB g p=some (.own z N cs)) (aF:lo+n<=N) (aj:cs'.length=((cs.drop (lo * z)).take (n * z)).length) (h:∀ (k:Nat) (x y:ab),((cs.drop (lo * z)).take (n * z))[k]?=some x->cs'[k]?=some y->View g x y):View g (.sub z p lo n) (.bk z n cs')
 | ptr {p:Place}{k z n:Nat}{y:ab}{cs cs':List ab}(au:bB g p=some y) (ax:y=.own z n cs\/y=.obj cs) (hk:k<cs.length) (aj:cs'.length=(cs.drop k).length) (h:∀ (j:Nat) (x y:ab),(cs.drop k)[j]?=some x->cs'[j]?=some y->View g x y):View g (.ptr p k) (.cJ cs')
 | cX {fn:Fn}{cs cs':List ab}(aj:cs'.length=cs.length) (h:∀ (k:Nat) (x y:ab),cs[k]?=some x->cs'[k]?=some y->View g x y):View g (.cX fn [] cs) (.cX fn [] cs')
 | rows {z n:Nat}{p:Place}{cs cs':List ab}(au:Rows g p z n cs) (aj:cs'.length=cs.length) (h:∀ (k:Nat) (x y:ab),cs[k]?=some x->cs'[k]?=some y->View g x y):View g (.a6 z p n) (.bk z n cs')
section
variable {P:Program}{w:World}{I:bb}{T:Array Value}{g:aK}{Fs:Nat->bb}
theorem R.bl {ρ ρ':ab->Value->Prop}{x:ab}{v:Value}{F:bb}(h:R w I ρ x v F):cU x->R w I ρ' x v F:=by
 induction h with
 | lit h aN=>exact λ_=>.lit h aN
 | aL aN=>exact λ_=>.aL aN
 | dead aN=>exact λ_=>.dead aN
 | @ref x _ _ J h aN=>intro aF; cases aF <;> simp [ab.isRef] at J
 | hK aN=>exact λ_=>.hK aN
 | bk aN lh bf aB aj h1 aa ao aU=>exact λaF=>.bk aN lh bf aB aj h1 aa λk x J=>aU k x J (by cases aF with | bk h=>exact h x (List.mem_of_getElem? J))
 | cJ aN bf aB h1 aa ao aU=>exact λaF=>.cJ aN bf aB h1 aa λk x J=>aU k x J (by cases aF with | cJ h=>exact h x (List.mem_of_getElem? J))
 | own a1 aj h1 ao aS av aN aU=>exact λaF=>.own a1 aj h1 (λk x u J hu=>aU k x u J hu (by cases aF with | own h=>exact h x (List.mem_of_getElem? J))) aS av aN
 | obj a1 aj h1 ao aS av aN aU=>exact λaF=>.obj a1 aj h1 (λk x u J hu=>aU k x u J hu (by cases aF with | obj h=>exact h x (List.mem_of_getElem? J))) aS av aN
 | agg aj h1 ao aS aN aU=>exact λaF=>.agg aj h1 (λk x u J hu=>aU k x u J hu (by cases aF with | agg h=>exact h x (List.mem_of_getElem? J))) aS aN
 | bV aj ao aS aN aU=>exact λaF=>.bV aj (λk x u J hu=>aU k x u J hu (by cases aF with | bV h=>exact h x (List.mem_of_getElem? J))) aS aN
 | mp a1 au aN=>exact λ_=>.mp a1 au aN
 | imp aN bf a1 au=>exact λ_=>.imp aN bf a1 au
 | cX aN h1 af kB iO gy gk=>exact λaF=>.cX aN h1 af (λk x u J hu=>gy k x u J hu (by cases aF with | cX h _=>exact h x (List.mem_of_getElem? J))) (λk x u J hu=>gk k x u J hu (by cases aF with | cX _ h=>exact h x (List.mem_of_getElem? J)))
theorem R.om {ρ:ab->Value->Prop}{I':bb}{x:ab}{v:Value}{F:bb}(h:R w I ρ x v F) (bf:∀ c,I c->I' c):R w I' ρ x v F :=
 h.frame (λ_ _=>rfl) bf (λ_ _ h=>h) λ_ _=>rfl
theorem R.lu {ρ ρ':ab->Value->Prop}{I':bb}{x:ab}{v:Value}{F:bb}(h:R w I ρ x v F):kM x->R w I' ρ' x v F:=by
 induction h with
 | lit h aN=>exact λ_=>.lit h aN
 | aL aN=>exact λ_=>.aL aN
 | dead aN=>exact λ_=>.dead aN
 | @ref x _ _ J h aN=>intro aF; cases aF <;> simp [ab.isRef] at J
 | hK=>intro aF; cases aF
 | bk=>intro aF; cases aF
 | cJ=>intro aF; cases aF
 | own a1 aj h1 ao aS av aN aU=>exact λaF=>.own a1 aj h1 (λk x u J hu=>aU k x u J hu (by cases aF with | own h=>exact h x (List.mem_of_getElem? J))) aS av aN
 | obj a1 aj h1 ao aS av aN aU=>exact λaF=>.obj a1 aj h1 (λk x u J hu=>aU k x u J hu (by cases aF with | obj h=>exact h x (List.mem_of_getElem? J))) aS av aN
 | agg aj h1 ao aS aN aU=>exact λaF=>.agg aj h1 (λk x u J hu=>aU k x u J hu (by cases aF with | agg h=>exact h x (List.mem_of_getElem? J))) aS aN
 | bV aj ao aS aN aU=>exact λaF=>.bV aj (λk x u J hu=>aU k x u J hu (by cases aF with | bV h=>exact h x (List.mem_of_getElem? J))) aS aN
 | cX=>intro aF; cases aF
 | mp a1 au aN=>exact λ_=>.mp a1 au aN
 | imp=>intro aF; cases aF
theorem R.zZ {ρ:ab->Value->Prop}{z n:Nat}{cs:List ab}{v:Value}{F:bb}(h:R w I ρ (.own z n cs) v F):∃ (a:Option Addr) (cap:Nat) (us:Nat->Value) (bM:Nat->bb),v=.slice a n cap/\n<=cap/\cs.length=n * z /\
  (∀ ad,a=some ad->∃ b,ad=⟨b,0,none⟩/\F b)/\(∀ (k:Nat) (x:ab),cs[k]?=some x->∃ b,a=some ⟨b,0,none⟩/\w.cell? ⟨b,k,none⟩=some (us k)/\(us k).oneCell'=true/\R w I ρ x (us k) (bM k)/\∀ c,bM k c->F c):=by
 have aQ:=h;cases h with
 | ref J=>simp [ab.isRef] at J
 | @own _ _ _ _ e us Fs _ a1 aj h1 ao aS av aN =>
  obtain ⟨a,cap,rfl,aF,hlen,ra,rb⟩:=aQ.nm;refine ⟨a,cap,λk=>us.getD k undef,Fs,rfl,aF,hlen,λad fP=>?_,λk x hk=>?_⟩
  ·obtain ⟨BW,BX⟩:=ra ad fP;obtain ⟨b,o,sp⟩:=ad;simp only at BW BX;subst BW BX;exact ⟨b,rfl,(aN b).2 (.inl (by rw [fP]; rfl))⟩
  ·have aT:k<cs.length:=(List.getElem?_eq_some_iff.1 hk).1;have hu:us[k]?=some us[k]:=List.getElem?_eq_getElem (aj ▸ aT);obtain ⟨b,u,fP,l5,n9,hy,_⟩:=aQ.node (.inl rfl) hk;have:a=some ⟨b,0,none⟩:=by
    cases a with
    | none=>simp [addrOf] at fP
    | some ad=>simp only [addrOf] at fP; rw [Option.some.inj fP]
   grind [pS]
theorem R.Ft {ρ:ab->Value->Prop}{y:ab}{v:Value}{F:bb}{z n:Nat}{cs:List ab}(h:R w I ρ y v F) (ax:y=.own z n cs\/y=.obj cs) {ad:Addr}(aP:addrOf v=some ad):F ad.block:=by
 rcases ax with rfl | rfl
 ·obtain ⟨a,cap,rfl,_⟩:=h.nm;refine h.qC _ ?_;cases a with
  | none=>simp [addrOf] at aP
  | some a=>simp only [addrOf,Option.some.injEq] at aP; subst aP; rfl
 ·cases h with
  | ref J=>simp [ab.isRef] at J
  | obj a1 aj h1 ao aS av aN=>simp only [addrOf,Option.some.injEq] at aP; subst aP; exact (aN _).2 (.inl rfl)
theorem XW {w:World}{e cj:TypeId}{z n:Nat}{v:Value}{us iU:List Value}(h:w.ownsRow 0 e z v n us) (aR:w.ownsRow 0 cj z v n iU):us=iU:=by
 obtain ⟨h1,af⟩:=h;obtain ⟨aI,bF⟩:=aR;rcases af with ⟨rfl,rfl⟩ | ⟨b,cap,cur,rfl,_,bY,_,_,_,aw⟩
 ·grind
 grind
theorem Rows.sound {ρ:ab->Value->Prop}(H1:∀ t z q n m new,g t=some (.bL z q n m new)->∃ v,T[t]?=some v/\jF w I ρ (.bL z q n m new) v (Fs t))
  (Rc:∀ p z n cs,bB g p=some (.own z n cs)->∃ v cz,dY w T p=some v/\R w I ρ (.own z n cs) v cz/\∀ c,cz c->Fs p.root c) (AW:∀ z p n v,ρ (.bL z p n 0 []) v->dY w T p=some v) {p:Place}{z n:Nat}{cs:List ab}(h:Rows g p z n cs) :
  ∃ v e us,dY w T p=some v/\w.ownsRow 0 e z v n us/\us.length=cs.length/\(∀ (k:Nat) (u:Value),us[k]?=some u->u.oneCell'=true)/\(∀ c,v.ownBlock=some c->∃ t,Fs t c) /\
   (∀ (k:Nat) (x:ab) (u:Value),cs[k]?=some x->us[k]?=some u->∃ bM,R w I ρ x u bM/\∀ c,bM c->∃ t,Fs t c):=by
 induction h with
 | @own p z n cs au =>
  obtain ⟨v,cz,hv,aY,aN⟩:=Rc p z n cs au;cases aY with
  | ref J=>simp [ab.isRef] at J
  | @own _ _ _ _ e us bM _ a1 aj h1 ao aS av mq =>
   grind
 | @bL t z n m q new cs aw _ aU =>
  obtain ⟨v,hv,aY⟩:=H1 t z q n m new aw;obtain ⟨v0,e,us,iP,a1,aj,h1,av,ao⟩:=aU;cases aY with
  | tree aY=>exact aY.lq.elim
  | @bL _ _ _ _ _ _ bv cy b9 ZJ news _ aY =>
   have hd:=AW _ _ _ _ aY.jV;rw [iP] at hd;cases hd;have:=XW a1 aY.ll;subst this;refine ⟨v,b9,us++news,by simp [dY,hv,walk],aY.nJ,by rw [List.length_append,List.length_append,aj,aY.aj],λk u hu=>?_,λc aa=>?_,λk x u J hu=>?_⟩
   ·by_cases hk:k<us.length
    ·grind
    ·rw [List.getElem?_append_right (by omega)] at hu; exact aY.h1 _ u hu
   ·by_cases q9:v0.ownBlock=some c
    ·grind
    ·exact ⟨t,(aY.aN c).2 ⟨aa,q9⟩⟩
   ·by_cases hk:k<us.length
    ·grind
    ·rw [List.getElem?_append_right (by omega)] at J;rw [List.getElem?_append_right (by omega),aj] at hu;exact ⟨_,aY.ao _ x u J hu,λc aa=>aa.elim⟩
theorem PM {ρ':ab->Value->Prop}{e:TypeId}{z n N cap:Nat}{a:Option Addr}{us:List Value}{cs cs':List ab}(a1:w.ownsRow 0 e z (.slice a N cap) n us) (hlen:us.length=cs.length) (h1:∀ (k:Nat) (u:Value),us[k]?=some u->u.oneCell'=true) (av:∀ c,(Value.slice a N cap).ownBlock=some c->∃ t,Fs t c) (aj:cs'.length=cs.length)
  (ao:∀ (k:Nat) (x y:ab) (u:Value),cs[k]?=some x->cs'[k]?=some y->us[k]?=some u->R w (λc=>I c\/∃ t,Fs t c) ρ' y u cw):R w (λc=>I c\/∃ t,Fs t c) ρ' (.bk z n cs') (.slice a n cap) cw:=by
 obtain ⟨N3,a1⟩:=a1;rcases a1 with ⟨hd,aQ⟩ | ⟨b,rO,cur,cy,_,bY,EK,aa,aB,aw⟩
 ·cases hd;subst aQ;have lN:cs'=[]:=List.eq_nil_of_length_eq_zero (by rw [aj,<- hlen,N3]; simp);subst lN;exact .hK λ_ h=>h
 ·cases cy;refine .bk (us:=λk=>us.getD k undef) (λ_ h=>h) EK (.inr (av b rfl)) rfl (by rw [aj,<- hlen,N3]) (λk y ax=>?_) (λk y ax=>?_) λk y ax=>?_
  all_goals
   have hk:k<us.length:=by rw [hlen,<- aj]; exact (List.getElem?_eq_some_iff.1 ax).1
   have hu:us[k]?=some us[k]:=List.getElem?_eq_getElem hk;have aO:us.getD k undef=us[k]:=by simp [List.getD,hu]
  ·grind
  ·rw [aO];have zD:∀ u,us[k]?=some u->w.cell? ⟨b,k,none⟩=some u:=λu zD=>by
    rw [<- aw,List.getElem?_take] at zD
    split at zD
    ·simpa [World.cell?,bY] using zD
    grind
   grind
  grind
theorem View.sound (h:cI w I T g Fs) {x x':ab}(hv:View g x x'):∀ {v:Value}{F:bb},R w I (dU w T g) x v F->(∀ c,F c->∃ t,Fs t c)->∀ ρ',R w (λc=>I c\/∃ t,Fs t c) ρ' x' v cw:=by
 induction hv with
 | qB =>
  intro v F aY aN ρ';have:=aY.sf;subst this;exact .hK λ_ h=>h
 | mp =>
  intro v F aY aN ρ';cases aY with
  | ref J=>simp [ab.isRef] at J
  | mp a1 au av=>exact .imp (λ_ h=>h) (.inr (aN _ ((av _).2 rfl))) a1 au
 | gz au =>
  intro v F aY aN ρ';cases aY with
  | ref _ ao _ =>
   obtain ⟨⟨b,av,rfl⟩,_⟩:=ao;obtain ⟨gx,cz,iq,dH,dx⟩:=h.part au (by simp);rw [av] at iq;cases iq;cases dH with
   | ref J=>simp [ab.isRef] at J
   | mp a1 au av=>exact .imp (λ_ h=>h) (.inr ⟨_,dx _ ((av _).2 rfl)⟩) a1 au
 | self aF h1 af aI bF cG =>
  intro v F aY aN ρ';refine ((aY.bl aF).om λc aa=>.inl aa).empty ?_;cases aY with
  | mp=>exact absurd rfl (cG _)
  | lit _ aN | aL aN | dead aN | ref _ _ aN | hK aN | bk aN | cJ aN | cX aN | imp aN=>exact aN
  | own=>exact absurd rfl (h1 _ _ _)
  | obj=>exact absurd rfl (af _)
  | agg=>exact absurd rfl (aI _)
  | bV=>exact absurd rfl (bF _)
 | @agg cs cs' aj _ aU =>
  intro v F aY aN ρ';cases aY with
  | ref J=>simp [ab.isRef] at J
  | @agg _ vs bM _ hY h1 ao aS mq =>
   refine .agg (Fs:=λ_=>cw) (by rw [aj,hY]) h1 (λk y u ax hu=>?_) (λ_ _ _ _ _ h=>h.elim) (λc=>⟨λh=>h.elim,λ⟨_,_,h⟩=>h⟩);have hk:k<cs.length:=by rw [<- aj]; exact (List.getElem?_eq_some_iff.1 ax).1
   have J:=List.getElem?_eq_getElem hk;exact aU k _ y J ax (ao k _ u J hu) (λc aa=>aN c ((mq c).2 ⟨k,hk,aa⟩)) ρ'
 | @cX fn cs cs' aj _ aU =>
  intro v F aY aN ρ';cases aY with
  | ref J=>simp [ab.isRef] at J
  | @cX _ _ _ v1 v2 _ mo h1 af kB iO =>
   refine .cX (λ_ h=>h) h1 (by rw [aj,af]) (λk x u J=>by simp at J) (λk y u ax hu=>?_);have hk:k<cs.length:=by rw [<- aj]; exact (List.getElem?_eq_some_iff.1 ax).1
   have J:=List.getElem?_eq_getElem hk
   grind
 | @own z n cs cs' aj _ aU =>
  intro v F aY aN ρ';obtain ⟨a,cap,us,bM,rfl,aF,hlen,aP,aa⟩:=aY.zZ;cases a with
  | none =>
   have hJ:cs=[]:=by
    cases cs with
    | nil=>rfl
    | cons c cs=>obtain ⟨b,av,_⟩:=aa 0 c rfl; cases av
   subst hJ;have lN:cs'=[]:=List.eq_nil_of_length_eq_zero (by simpa using aj);subst lN;have kz:n=0:=by
    cases aY with
    | ref J=>simp [ab.isRef] at J
    | own a1 =>
     obtain ⟨_,bY⟩:=a1
     grind
   subst kz;exact .hK λ_ h=>h
  | some ad =>
   obtain ⟨b,rfl,rY⟩:=aP ad rfl;refine .bk (us:=us) (λ_ h=>h) aF (.inr (aN b rY)) rfl (by rw [aj,hlen]) (λk y ax=>?_) (λk y ax=>?_) λk y ax=>?_
   all_goals
    have hk:k<cs.length:=by rw [<- aj]; exact (List.getElem?_eq_some_iff.1 ax).1
    have J:=List.getElem?_eq_getElem hk;obtain ⟨eC,l3,h1,af,aI,bF⟩:=aa k _ J;cases l3
   all_goals grind
 | @obj cs cs' aj _ aU =>
  intro v F aY aN ρ';cases aY with
  | ref J=>simp [ab.isRef] at J
  | @obj _ b e arr bM _ a1 hY h1 ao aS av mq =>
   refine .cJ (us:=λk=>arr.getD k undef) (λ_ h=>h) (.inr (aN b ((mq b).2 (.inl rfl)))) rfl (λk y ax=>?_) (λk y ax=>?_) λk y ax=>?_
   all_goals
    have hk:k<cs.length:=by rw [<- aj]; exact (List.getElem?_eq_some_iff.1 ax).1
    have J:=List.getElem?_eq_getElem hk;have hu:arr[k]?=some arr[k]:=Array.getElem?_eq_getElem (hY ▸ hk)
   ·simpa [hu] using h1 k _ hu
   ·simp [World.cell?,a1,hu]
   ·simpa [hu] using aU k _ y J ax (ao k _ _ J hu) (λc aa=>aN c ((mq c).2 (.inr ⟨k,hk,aa⟩))) ρ'
 | @a6 z n N p cs cs' au aF aj _ aU =>
  intro v F aY aN ρ';obtain ⟨⟨a,i_,cap,h1,rfl,aI⟩,_⟩:=aY.nc;obtain ⟨qL,qQ,gZ,hI,nA⟩:=h.part au (by simp);rw [h1] at gZ;cases gZ;obtain ⟨a2,rO,us,bM,jd,lh,hlen,aP,aa⟩:=hI.zZ;cases jd;have hle:n * z<=N * z:=Nat.mul_le_mul_right _ aF;have cell:∀ k,k<cs'.length->∃ x b,(cs.take (n * z))[k]?=some x/\a=some ⟨b,0,none⟩/\w.cell? ⟨b,k,none⟩=some (us k)/\(us k).oneCell'=true/\R w I (dU w T g) x (us k) (bM k)/\∀ c,bM k c->qQ c:=by
   simp_all
  cases a with
  | none =>
   have lN:cs'=[]:=by
    cases cs' with
    | nil=>rfl
    | cons c l=>obtain ⟨_,b,_,av,_⟩:=cell 0 (by simp); cases av
   subst lN;obtain ⟨_,_,jd,_,_,_,rb⟩:=hI.nm;cases jd;have kz:n=0:=by
    grind
   subst kz;exact .hK λ_ h=>h
  | some ad =>
   obtain ⟨b,rfl,rY⟩:=aP ad rfl;refine .bk (us:=us) (λ_ h=>h) (by omega) (.inr ⟨_,nA b rY⟩) rfl (by rw [aj,List.length_take,hlen]; omega) (λk y ax=>?_) (λk y ax=>?_) λk y ax=>?_
   all_goals grind
 | @sub z lo n N p cs cs' au aF aj _ aU =>
  intro v F aY aN ρ';obtain ⟨⟨a,i_,cap,ca,mQ,h1,rfl,IV,aI,cG⟩,_⟩:=aY.xB;obtain ⟨qL,qQ,gZ,hI,nA⟩:=h.part au (by simp);rw [h1] at gZ;cases gZ;obtain ⟨a2,rO,us,bM,jd,lh,hlen,aP,aa⟩:=hI.zZ;cases jd;have hle:lo * z+n * z<=N * z:=by rw [<- Nat.add_mul]; exact Nat.mul_le_mul_right _ aF
  have hY:cs'.length=n * z:=by rw [aj,List.length_take,List.length_drop,hlen]; omega
  have cell:∀ k,k<cs'.length->∃ x b,((cs.drop (lo * z)).take (n * z))[k]?=some x/\a=some ⟨b,0,none⟩/\w.cell? ⟨b,lo * z+k,none⟩=some (us (lo * z+k))/\(us (lo * z+k)).oneCell'=true/\R w I (dU w T g) x (us (lo * z+k)) (bM (lo * z+k))/\∀ c,bM (lo * z+k) c->qQ c:=by
   grind
  by_cases kz:n=0
  ·subst kz;have lN:cs'=[]:=List.eq_nil_of_length_eq_zero (by simpa using hY);subst lN;exact .hK λ_ h=>h
  ·obtain ⟨ad,rfl,rfl⟩:=cG (by omega);obtain ⟨b,rfl,rY⟩:=aP ad rfl;refine .bk (us:=λk=>us (lo * z+k)) (λ_ h=>h) IV (.inr ⟨_,nA b rY⟩) rfl hY (λk y ax=>?_) (λk y ax=>?_) λk y ax=>?_
   all_goals grind
 | @ptr p k z n y cs cs' au ax hk aj _ aU =>
  intro v F aY aN ρ';obtain ⟨⟨u,ad,h1,af,rfl⟩,_⟩:=aY.nP;obtain ⟨qL,qQ,gZ,hI,nA⟩:=h.part au (by rcases ax with rfl | rfl <;> simp);rw [h1] at gZ;cases gZ;have cell:∀ j,j<cs'.length->∃ hb lW yM,w.cell? ⟨ad.block,k+j,none⟩=some hb/\hb.oneCell'=true/\(cs.drop k)[j]?=some lW/\R w I (dU w T g) lW hb yM/\(∀ c,yM c->∃ t,Fs t c):=by
   intro j ah;rw [aj,List.length_drop] at ah;have gj:cs[k+j]?=some cs[k+j]:=List.getElem?_eq_getElem (by omega);obtain ⟨b,hb,fP,l5,n9,hy,_⟩:=hI.node ax gj;rw [af] at fP;cases fP;have gu:bB g (p.push (k+j))=some cs[k+j]:=by rw [tC,au]; rcases ax with rfl | rfl <;> simp [ab.kids]
   by_cases gR:∃ bC fQ cH m' c3,cs[k+j]=.bL bC fQ cH m' c3
   ·obtain ⟨bC,fQ,cH,m',c3,gR⟩:=gR;obtain ⟨b,ZL,_,_,BL,_,bM,kT⟩:=hI.node ax gj;rw [gR] at kT;exact kT.lq.elim
   ·obtain ⟨o7,Ln,xp,Nq,mq⟩:=h.part gu (λbC fQ cH m' c3 e=>gR ⟨_,_,_,_,_,e⟩)
    grind [yv]
  obtain ⟨b,hb,fP,_⟩:=hI.node ax (List.getElem?_eq_getElem hk);rw [af] at fP;cases fP;have hblk:∃ t,Fs t b:=⟨_,nA b (hI.Ft ax af)⟩;refine .cJ (us:=λj=>(w.cell? ⟨b,k+j,none⟩).getD undef) (λ_ h=>h) (.inr hblk) rfl (λj jk vA=>?_) (λj jk vA=>?_) λj jk vA=>?_
  all_goals grind
 | @rows z n p cs cs' au aj _ aU =>
  intro v F aY aN ρ';obtain ⟨a,i_,cap,h1,rfl,aI⟩:=aY.nc.1;obtain ⟨v0,e,us,iP,a1,hlen,qi,av,ao⟩:=Rows.sound (w:=w) (I:=I) (T:=T) (Fs:=Fs) (λt z q n m new aw=>h.rel t _ aw) (λp z n cs au=>h.part au (by simp)) (λz p n v hv=>by obtain ⟨⟨a,cap,h1,rfl⟩,_⟩:=hv; exact h1) au;rw [h1] at iP;cases iP;refine PM a1 hlen qi av aj λk x y u J ax hu=>?_
  grind
end
end Go.Own
namespace Go.Own
open Go
def qb (args:List ab):aK:=λt=>args[t]?
def k3 (outs:List (Option ab)) (res:ab):aK:=λt=>if t=outs.length then some res else (outs[t]?).join
structure kq (w:World) (I U:bb) (w':World) (I' D2:bb):Prop where
 eR:Fr w w' U
 more:∀ c,I c->I' c
 new:∀ c,I' c->I c\/U c\/w.heap.size<=c
 own:∀ c,D2 c->U c\/w.heap.size<=c
def bU (P:Program) (f:FuncId) (args:List ab) (outs:List (Option ab)) (res:ab):Prop :=
 outs.length=args.length/\∀ (w:World) (I:bb) (vs:List Value) (Fs:Nat->bb),vs.length=args.length->cI w I vs.toArray (qb args) Fs ->
  Calls P f vs.toArray w λe w'=>∃ v I' b7,e=.returned v/\cI w' I' (vs++[v]).toArray (k3 outs res) b7/\kq w I (λc=>∃ t,Fs t c) w' I' (λc=>∃ t,b7 t c)
def gO (P:Program) (f:FuncId):Bool :=
 match P.funcs[f]? with
 | some fn => fn.name != "runtime.NumGoroutine" && fn.body.isSome
 | none=>false
inductive cK (P:Program) (g:aK):Op->ab->Prop
 | plain {c:Operand}{xs:Array Operand}{gq:Array TypeId}{f:FuncId}{first caps ys:List ab}{res:ab}(aa:br g c=some (.cX (.func f) first caps)) (J:gp g xs.toList=some ys) (aW:gO P f=true)
   (aF:∀ y∈first++ys++caps,cU y) (gQ:bU P f (first++ys++caps) ((first++ys++caps).map λ_=>none) res) (ao:cU res):cK P g (.call { callee:=.value c,args:=xs,argTypes:=gq }) res
 | Fe {c:Operand}{xs:Array Operand}{gq:Array TypeId}{f:FuncId}{first caps ys args:List ab}{res:ab}(aa:br g c=some (.cX (.func f) first caps)) (J:gp g xs.toList=some ys) (aW:gO P f=true)
   (aj:args.length=(first++ys++caps).length) (hv:∀ (k:Nat) (x y:ab),(first++ys++caps)[k]?=some x->args[k]?=some y->View g x y) (gQ:bU P f args (args.map λ_=>none) res) (ao:kM res) :
   cK P g (.call { callee:=.value c,args:=xs,argTypes:=gq }) res
section
variable {P:Program}{w:World}{I:bb}{T:Array Value}{g:aK}{Fs:Nat->bb}
theorem Be {f:FuncId}(h:gO P f=true) (args:Array Value):(callFunc f args).run P w=.ok (.enter f args) w:=by
 unfold gO at h;cases aW:P.funcs[f]? with
 | none=>simp [aW] at h
 | some fn =>
  simp [aW] at h;obtain ⟨h1,af⟩:=h;cases av:fn.body with
  | none=>simp [av] at af
  | some c=>simp [callFunc,aW,h1,av]
theorem Hl (h:cI w I T g Fs) {a:Act}(aP:a.tmps=T) {c:Operand}{xs:Array Operand}{f:FuncId}{first caps ys:List ab}(aa:br g c=some (.cX (.func f) first caps)) (J:gp g xs.toList=some ys) :
  ∃ v1 v2:Array Value,a.eval c=.func (.func f) v1 v2/\(first++ys++caps).length=(v1++xs.map a.eval++v2).toList.length /\
   ∀ (k:Nat) (x:ab) (u:Value),(first++ys++caps)[k]?=some x->(v1++xs.map a.eval++v2).toList[k]?=some u->R w I (dU w T g) x u cw:=by
 have zn:=kh h aa aP;obtain ⟨aj,ao⟩:=zX h aP J;generalize vh:a.eval c=adw at zn;cases zn with
 | ref J=>simp [ab.isRef] at J
 | @cX _ _ _ v1 v2 _ _ h1 af kB iO =>
  have hlen:xs.size=ys.length:=by rw [<- Array.length_toList,aj]
  refine ⟨v1,v2,rfl,by simp [h1,af,hlen],λk x u oR pE=>?_⟩;simp only [Array.toList_append,Array.toList_map] at pE;by_cases hh:k<first.length
  ·rw [List.append_assoc,List.getElem?_append_left hh] at oR;rw [List.append_assoc,List.getElem?_append_left (by simp; omega)] at pE;exact kB k x u oR (by simpa using pE)
  ·rw [List.append_assoc,List.getElem?_append_right (by omega)] at oR;rw [List.append_assoc,List.getElem?_append_right (by simp; omega)] at pE;simp only [Array.length_toList,<- h1] at pE;by_cases fW:k - first.length<ys.length
   ·rw [List.getElem?_append_left fW] at oR;rw [List.getElem?_append_left (by simp; omega),List.getElem?_map] at pE;cases Jp:xs.toList[k - first.length]? with
    | none=>rw [Jp] at pE; cases pE
    | some o=>rw [Jp] at pE; cases pE; exact ao _ x o oR Jp
   ·rw [List.getElem?_append_right (by omega)] at oR;rw [List.getElem?_append_right (by simp; omega)] at pE;simp only [List.length_map,Array.length_toList] at pE;rw [hlen] at pE;exact iO _ x u oR (by simpa using pE)
theorem cI.args {I':bb}(h:cI w I T g Fs) (bf:∀ c,I' c->I c\/∃ t,Fs t c) {args:List ab}{vs:List Value}(aj:args.length=vs.length)
  (ao:∀ (ρ':ab->Value->Prop) (k:Nat) (x:ab) (u:Value),args[k]?=some x->vs[k]?=some u->R w I' ρ' x u cw):cI w I' vs.toArray (qb args) (λ_=>cw):=by
 refine ⟨λt x J=>?_,λ_ _ _ h=>h,λ_ _ _ h=>h.elim,λ_ _ h=>h.elim,λc aa=>?_,λt t' z p n m new bC cH m' c3 h1 af=>?_⟩
 ·have aw:t<args.length:=(List.getElem?_eq_some_iff.1 J).1;have hu:vs[t]?=some vs[t]:=List.getElem?_eq_getElem (aj ▸ aw);exact ⟨vs[t],by rw [List.getElem?_toArray]; exact hu,.tree (ao _ t x _ J hu)⟩
 ·rcases bf c aa with aR | ⟨t,aR⟩
  ·exact h.lt c aR
  ·exact h.j1 t c aR
 ·have aw:t<args.length:=(List.getElem?_eq_some_iff.1 h1).1;exact (ao (λ_ _=>False) t _ _ h1 (List.getElem?_eq_getElem (aj ▸ aw))).lq.elim
theorem cK.sound (h:cI w I T g Fs) {a:Act}(aP:a.tmps=T) {o:Oper}{kL:ab}(au:cK P g o.op kL) {K:Act->World->Prop}{Q:Exit->Act->World->Prop}
  (di:∀ v w',uV w I T g Fs kL v w'->K (a.put o.dst v) w'):o.wp P a w K Q:=by
 obtain ⟨dst,op,ty,pos,after,guard⟩:=o;simp only at au di;have CF:cU kL->∀ z p n m new,kL=.bL z p n m new->∀ t bC cH m' c3,g t≠some (.bL bC p cH m' c3):=by
  rintro aF z p n m new rfl;cases aF
 have last:∀ {args:List ab}{res:ab}{v:Value}{vs:List Value}{w':World}{I':bb}{b7:Nat->bb},vs.length=args.length->cI w' I' (vs++[v]).toArray (k3 (args.map λ_=>none) res) b7->jF w' I' (dU w' (vs++[v]).toArray (k3 (args.map λ_=>none) res)) res v (b7 args.length)/\∀ t,t≠args.length->∀ c,¬ b7 t c:=by
  intro args res v vs w' I' b7 aj bj;constructor
  ·obtain ⟨u,hu,aY⟩:=bj.rel args.length res (by simp [k3]);have:u=v:=by
    rw [<- aj] at hu;simpa using hu.symm
   subst this; exact aY
  ·intro t aw c aa;refine bj.k2 t ?_ c aa;have ET:t≠(args.map λ_=>(none:Option ab)).length:=by simpa using aw
   simp only [k3,if_neg ET,List.getElem?_map];cases args[t]? <;> rfl
 cases au with
 | @plain c xs gq f first caps ys _ aa J aW aF gQ ao =>
  obtain ⟨v1,v2,vh,aj,ql⟩:=Hl h aP aa J;have hR:(execOp a.eval { dst:=dst,op:=.call { callee:=.value c,args:=xs,argTypes:=gq },type:=ty,pos:=pos,after:=after,guard:=guard }).run P w=.ok (.enter f (v1++xs.map a.eval++v2)) w:=by
   simp [execOp,resolve,Deferred.ofValue,vh,invoke,Be aW]
  have bj:=h.args (I':=I) (λc aa=>.inl aa) aj λρ' k x u J hu=>(ql k x u J hu).bl (aF x (List.mem_of_getElem? J));have pA:=gQ.2 w I (v1++xs.map a.eval++v2).toList _ aj.symm bj;unfold Oper.wp Oper.upon;simp only [hR];rw [Array.toArray_toList] at pA;refine Calls.mono pA ?_;rintro e w' ⟨v,I',b7,rfl,d_,b1⟩;obtain ⟨zA,e8⟩:=last aj.symm d_;have oO:Fr w w' (λ_=>False):=b1.eR.mono λb _ ⟨_,av⟩=>av;refine di v w' ⟨b7 (first++ys++caps).length,I',?_,?_,?_,?_,b1.more,?_,oO.mono λ_ _ h=>h.elim,CF ao⟩
  ·have:=h.world (w':=w') (λt c aa=>oO.block c (h.j1 t c aa) (λh=>h)) (λc aa=>oO.block c (h.lt c aa) λh=>h) oO.size;refine ⟨λt x J=>?_,this.k2,this.eK,λt c aa hi=>?_,d_.lt,this.rn⟩
   ·obtain ⟨v,hv,aY⟩:=this.rel t x J;exact ⟨v,hv,aY.frame (λ_ _=>rfl) b1.more (λ_ _ h=>h) (λ_ _ _ _ _ _ _=>rfl) λ_ _=>rfl⟩
   ·rcases b1.new c hi with aR | ⟨_,aR⟩ | aR
    ·exact h.bk t c aa aR
    ·exact aR
    ·have:=h.j1 t c aa; omega
  ·exact .tree ((zA.gI (by rintro z p n m new rfl; cases ao)).bl ao)
  ·intro t c aa vj;rcases b1.own c ⟨_,aa⟩ with ⟨_,aR⟩ | aR
   ·exact aR
   ·have:=h.j1 t c vj; omega
  ·intro c aa;rcases b1.own c ⟨_,aa⟩ with ⟨_,aR⟩ | aR
   ·exact aR.elim
   ·exact ⟨aR,d_.bk _ c aa⟩
  ·intro c aa;rcases b1.new c aa with aR | ⟨_,aR⟩ | aR
   ·exact .inl aR
   ·exact aR.elim
   ·exact .inr aR
 | @Fe c xs gq f first caps ys args _ aa J aW IK hv gQ ao =>
  obtain ⟨v1,v2,vh,aj,ql⟩:=Hl h aP aa J;have hR:(execOp a.eval { dst:=dst,op:=.call { callee:=.value c,args:=xs,argTypes:=gq },type:=ty,pos:=pos,after:=after,guard:=guard }).run P w=.ok (.enter f (v1++xs.map a.eval++v2)) w:=by
   simp [execOp,resolve,Deferred.ofValue,vh,invoke,Be aW]
  have hY:args.length=(v1++xs.map a.eval++v2).toList.length:=by rw [IK,aj]
  have bj:=h.args (I':=λc=>I c\/∃ t,Fs t c) (λc aa=>aa) hY λρ' k x u J hu=>by
   have hk:k<(first++ys++caps).length:=by rw [<- IK]; exact (List.getElem?_eq_some_iff.1 J).1
   have iF:=List.getElem?_eq_getElem hk;exact (hv k _ x iF J).sound h (ql k _ u iF hu) (λ_ h=>h.elim) ρ'
  have pA:=gQ.2 w _ (v1++xs.map a.eval++v2).toList _ hY.symm bj;unfold Oper.wp Oper.upon;simp only [hR];rw [Array.toArray_toList] at pA;refine Calls.mono pA ?_;rintro e w' ⟨v,I',b7,rfl,d_,b1⟩;obtain ⟨zA,e8⟩:=last hY.symm d_;have oO:Fr w w' (λ_=>False):=b1.eR.mono λb _ ⟨_,av⟩=>av;refine di v w' ⟨b7 args.length,I,?_,?_,?_,?_,λ_ h=>h,λ_ h=>.inl h,oO.mono λ_ _ h=>h.elim,CF ao.bl⟩
  ·exact h.world (w':=w') (λt c aa=>oO.block c (h.j1 t c aa) (λh=>h)) (λc aa=>oO.block c (h.lt c aa) λh=>h) oO.size
  ·exact .tree ((zA.gI (by rintro z p n m new rfl; cases ao)).lu ao)
  ·intro t c aa vj;rcases b1.own c ⟨_,aa⟩ with ⟨_,aR⟩ | aR
   ·exact aR
   ·have:=h.j1 t c vj; omega
  ·intro c aa;rcases b1.own c ⟨_,aa⟩ with ⟨_,aR⟩ | aR
   ·exact aR.elim
   ·exact ⟨aR,λhi=>by have:=h.lt c hi; omega⟩
end
end Go.Own
namespace Go.Own
open Go
structure jG (w:World) (I:bb) (T:Array Value) (g:aK) (Fs:Nat->bb):Prop where
 rel:∀ t x,g t=some x->∃ v,T[t]?=some v/\jF w I (fA w T) x v (Fs t)
 k2:∀ t,g t=none->∀ c,¬ Fs t c
 eK:∀ t t' c,Fs t c->Fs t' c->t=t'
 bk:∀ t c,Fs t c->¬ I c
 lt:∀ c,I c->c<w.heap.size
def cu (g:aK) (p:Place) (y:ab):aK:=λt=>if t=p.root then (g t).map λx=>x.setAt p.path y else g t
inductive dh (g:aK):ab->Prop
 | bl {x:ab}(h:cU x):dh g x
 | ref {x:ab}(J:x.isRef=true) (h:gE g x):dh g x
 | own {z n:Nat}{cs:List ab}(h:∀ x∈cs,dh g x):dh g (.own z n cs)
 | obj {cs:List ab}(h:∀ x∈cs,dh g x):dh g (.obj cs)
 | agg {cs:List ab}(h:∀ x∈cs,dh g x):dh g (.agg cs)
 | bV {cs:List ab}(h:∀ x∈cs,dh g x):dh g (.bV cs)
 | cX {fn:Fn}{a b:List ab}(h1:∀ x∈a,dh g x) (af:∀ x∈b,dh g x):dh g (.cX fn a b)
 | bL {z n m:Nat}{p:Place}{new:List ab}(au:gE g (.bL z p n 0 [])) (h:∀ x∈new,dh g x):dh g (.bL z p n m new)
section
variable {w:World}{I:bb}{T:Array Value}{g:aK}{Fs:Nat->bb}
theorem R.bX {x:ab}{v:Value}{F:bb}(h:R w I (fA w T) x v F):dh g x->R w I (dU w T g) x v F:=by
 induction h with
 | lit h aN=>exact λ_=>.lit h aN
 | aL aN=>exact λ_=>.aL aN
 | dead aN=>exact λ_=>.dead aN
 | @ref x _ _ J h aN =>
  intro hk;refine .ref J ⟨h,?_⟩ aN;cases hk with
  | ref _ h=>exact h
  | bl h=>cases h <;> simp [ab.isRef] at J
  | _=>simp [ab.isRef] at J
 | hK aN=>exact λ_=>.hK aN
 | mp a1 au aN=>exact λ_=>.mp a1 au aN
 | imp aN bf a1 au=>exact λ_=>.imp aN bf a1 au
 | bk aN lh bf aB aj h1 aa ao aU =>
  intro hk;cases hk with
  | ref J=>simp [ab.isRef] at J
  | bl h=>cases h with | bk h=>exact .bk aN lh bf aB aj h1 aa λk x J=>aU k x J (.bl (h x (List.mem_of_getElem? J)))
 | cJ aN bf aB h1 aa ao aU =>
  intro hk;cases hk with
  | ref J=>simp [ab.isRef] at J
  | bl h=>cases h with | cJ h=>exact .cJ aN bf aB h1 aa λk x J=>aU k x J (.bl (h x (List.mem_of_getElem? J)))
 | own a1 aj h1 ao aS av aN aU =>
  intro hk;refine .own a1 aj h1 (λk x u J hu=>aU k x u J hu ?_) aS av aN;cases hk with
  | ref J=>simp [ab.isRef] at J
  | bl h=>cases h with | own h=>exact .bl (h x (List.mem_of_getElem? J))
  | own h=>exact h x (List.mem_of_getElem? J)
 | obj a1 aj h1 ao aS av aN aU =>
  intro hk;refine .obj a1 aj h1 (λk x u J hu=>aU k x u J hu ?_) aS av aN;cases hk with
  | ref J=>simp [ab.isRef] at J
  | bl h=>cases h with | obj h=>exact .bl (h x (List.mem_of_getElem? J))
  | obj h=>exact h x (List.mem_of_getElem? J)
 | agg aj h1 ao aS aN aU =>
  intro hk;refine .agg aj h1 (λk x u J hu=>aU k x u J hu ?_) aS aN;cases hk with
  | ref J=>simp [ab.isRef] at J
  | bl h=>cases h with | agg h=>exact .bl (h x (List.mem_of_getElem? J))
  | agg h=>exact h x (List.mem_of_getElem? J)
 | bV aj ao aS aN aU =>
  intro hk;refine .bV aj (λk x u J hu=>aU k x u J hu ?_) aS aN;cases hk with
  | ref J=>simp [ab.isRef] at J
  | bl h=>cases h with | bV h=>exact .bl (h x (List.mem_of_getElem? J))
  | bV h=>exact h x (List.mem_of_getElem? J)
 | @cX fn first caps v1 v2 F aN h1 af kB iO gy gk =>
  intro hk;have:(∀ x∈first,dh g x)/\∀ x∈caps,dh g x:=by
   cases hk with
   | ref J=>simp [ab.isRef] at J
   | bl h=>cases h with | cX h1 af=>exact ⟨λx J=>.bl (h1 x J),λx J=>.bl (af x J)⟩
   | cX h1 af=>exact ⟨h1,af⟩
  exact .cX aN h1 af (λk x u J hu=>gy k x u J hu (this.1 x (List.mem_of_getElem? J))) (λk x u J hu=>gk k x u J hu (this.2 x (List.mem_of_getElem? J)))
theorem jF.bX {x:ab}{v:Value}{F:bb}(h:jF w I (fA w T) x v F) (hk:dh g x):jF w I (dU w T g) x v F:=by
 cases h with
 | tree h=>exact .tree (h.bX hk)
 | bL h =>
  cases hk with
  | bl h=>cases h
  | ref J=>simp [ab.isRef] at J
  | bL au aF=>exact .bL ⟨⟨h.jV,au⟩,h.ll,h.nJ,h.aj,h.h1,λk x u J hu=>(h.ao k x u J hu).bX (aF x (List.mem_of_getElem? J)),h.aN⟩
theorem cI.mF (h:cI w I T g Fs):jG w I T g Fs :=
  ⟨λt x J=>by
    obtain ⟨v,hv,aY⟩:=h.rel t x J;refine ⟨v,hv,?_⟩;cases aY with
    | tree aY=>exact .tree (aY.frame (λ_ _=>rfl) (λ_ h=>h) (λ_ _ h=>h.1) λ_ _=>rfl)
    | bL aY=>exact .bL ⟨aY.jV.1,aY.ll,aY.nJ,aY.aj,aY.h1,λk x u J hu=>(aY.ao k x u J hu).frame (λ_ _=>rfl) (λ_ h=>h) (λ_ _ h=>h.1) λ_ _=>rfl,aY.aN⟩,
   h.k2,h.eK,h.bk,h.lt⟩
theorem jG.ZC (h:jG w I T g Fs) {g':aK}(aO:∀ t x,g' t=some x->g t=some x) (hk:∀ t x,g' t=some x->dh g' x)
  (au:∀ t t' z p n m new bC cH m' c3,g' t=some (.bL z p n m new)->g' t'=some (.bL bC p cH m' c3)->t=t'):cI w I T g' (λt c=>g' t≠none/\Fs t c):=by
 refine ⟨λt x J=>?_,λt aw c aa=>aa.1 aw,λt t' c aa fo=>h.eK t t' c aa.2 fo.2,λt c aa=>h.bk t c aa.2,h.lt,au⟩;obtain ⟨v,hv,aY⟩:=h.rel t x (aO t x J);have:Fs t=λc=>g' t≠none/\Fs t c:=by
  grind
 refine ⟨v,hv,?_⟩;rw [<- this];exact aY.bX (hk t x J)
theorem jG.part (h:jG w I T g Fs) {p:Place}{y:ab}(au:bB g p=some y) (ax:∀ z q n m new,y≠.bL z q n m new):∃ v cz,dY w T p=some v/\R w I (fA w T) y v cz/\(∀ c,cz c->Fs p.root c) /\
  ∀ (y':ab) (jm:bb),R w I (fA w T) y' v jm->(∀ c,jm c->Fs p.root c->cz c)->(∀ c,jm c->¬ I c)->(∀ t c,t≠p.root->jm c->¬ Fs t c) ->
   ∃ b7,jG w I T (cu g p y') b7/\(∀ c,b7 p.root c↔(Fs p.root c/\¬ cz c)\/jm c)/\∀ t,t≠p.root->b7 t=Fs t:=by
 unfold bB at au;cases J:g p.root with
 | none=>rw [J] at au; cases au
 | some x =>
  rw [J] at au;obtain ⟨v,hv,aY⟩:=h.rel _ _ J;replace aY:=aY.gI (by
   grind [ab.sz])
  obtain ⟨h3,cz,hw,dH,dx,eX,ki⟩:=R.focus p.path aY au;refine ⟨h3,cz,by simp [dY,hv,hw],dH,dx,λy' jm jO mW bf ac7=>?_⟩;obtain ⟨c8,Ey,pr⟩:=ki w I (fA w T) y' jm ⟨λ_ _=>rfl,λ_ _ _=>rfl,λ_ h=>h,λ_ _ h=>h⟩ jO mW;refine ⟨λt=>if t=p.root then c8 else Fs t,⟨λt x' gj=>?_,λt aw c=>?_,λt t' c aa fo=>?_,λt c aa=>?_,h.lt⟩,λc=>by simp [pr c],λt aw=>by simp [aw]⟩
  ·by_cases iE:t=p.root
   ·subst iE;have WL:x.setAt p.path y'=x':=by simpa [cu,J] using gj
    subst WL;exact ⟨v,hv,.tree (by simpa using Ey)⟩
   ·simp only [cu,if_neg iE] at gj;simpa [iE] using h.rel t x' gj
  ·by_cases iE:t=p.root
   ·grind [cu]
   ·simp only [cu,if_neg iE] at aw;simpa [iE] using h.k2 t aw c
  ·by_cases h1:t=p.root <;> by_cases af:t'=p.root <;> simp only [h1,af,if_true,if_false] at aa fo
   ·grind
   ·rcases (pr c).1 aa with ⟨aI,_⟩ | aI
    ·rw [h1];exact h.eK _ _ _ aI fo
    grind
   ·rcases (pr c).1 fo with ⟨aI,_⟩ | aI
    ·rw [af];exact h.eK _ _ _ aa aI
    grind
   ·exact h.eK _ _ _ aa fo
  ·by_cases h1:t=p.root <;> simp only [h1,if_true,if_false] at aa
   ·rcases (pr c).1 aa with ⟨aI,_⟩ | aI
    ·exact h.bk _ c aI
    grind
   ·exact h.bk t c aa
end
end Go.Own
namespace Go.Own
open Go
inductive Take:aK->List ab->List ab->aK->Prop
 | bl {g:aK}{xs:List ab}(h:∀ x∈xs,cU x):Take g xs xs g
 | cons {g g':aK}{x:ab}{xs xs':List ab}(h:cU x) (aw:Take g xs xs' g'):Take g (x::xs) (x::xs') g'
 | a6 {g g1 g':aK}{z n N:Nat}{p:Place}{cs cs' xs xs':List ab}(au:bB g p=some (.own z N cs)) (aF:n<=N) (h1:Take (cu g p .dead) (cs.take (n * z)) cs' g1) (af:Take g1 xs xs' g') :
   Take g (.a6 z p n::xs) (.own z n cs'::xs') g'
 | bL {g g1 g':aK}{z n m t:Nat}{q:Place}{cs new cs' xs xs':List ab}(aw:g t=some (.bL z q n m new)) (au:bB g q=some (.own z n cs)) (bg:q.root≠t) (h1:Take (cu (cu g ⟨t,[]⟩ .dead) q .dead) (cs++new) cs' g1) (af:Take g1 xs xs' g') :
   Take g (.a6 z ⟨t,[]⟩ (n+m)::xs) (.own z (n+m) cs'::xs') g'
 | FB {g g1 g':aK}{z n m t oX m2 t2:Nat}{q:Place}{cs new zS cs' xs xs':List ab}(aw:g t=some (.bL z ⟨t2,[]⟩ n m new)) (Ol:g t2=some (.bL z q oX m2 zS)) (aF:n=oX+m2) (au:bB g q=some (.own z oX cs)) (bg:q.root≠t) (ug:q.root≠t2) (Wv:t≠t2)
   (h1:Take (cu (cu (cu g ⟨t,[]⟩ .dead) ⟨t2,[]⟩ .dead) q .dead) (cs++zS++new) cs' g1) (af:Take g1 xs xs' g') :
   Take g (.a6 z ⟨t,[]⟩ (n+m)::xs) (.own z (n+m) cs'::xs') g'
 | obj {g g1 g':aK}{p:Place}{cs cs' xs xs':List ab}(au:bB g p=some (.obj cs)) (h1:Take (cu g p .dead) cs cs' g1) (af:Take g1 xs xs' g'):Take g (.ptr p 0::xs) (.obj cs'::xs') g'
 | mp {g g1 g':aK}{p:Place}{q:Array MapEntry->Nat->Prop}{xs xs':List ab}(au:bB g p=some (.mp q)) (h1:Take (cu g p .dead) [] [] g1) (af:Take g1 xs xs' g'):Take g (.gz p::xs) (.mp q::xs') g'
 | agg {g g1 g':aK}{cs cs' xs xs':List ab}(h1:Take g cs cs' g1) (af:Take g1 xs xs' g'):Take g (.agg cs::xs) (.agg cs'::xs') g'
 | bV {g g1 g':aK}{cs cs' xs xs':List ab}(h1:Take g cs cs' g1) (af:Take g1 xs xs' g'):Take g (.bV cs::xs) (.bV cs'::xs') g'
structure Hand (w:World) (I:bb) (ρ:ab->Value->Prop) (Fs:Nat->bb) (xs:List ab) (vs:List Value) (dE:Nat->bb):Prop where
 len:xs.length=vs.length
 rel:∀ (k:Nat) (x:ab) (u:Value),xs[k]?=some x->vs[k]?=some u->R w I ρ x u (dE k)
 eK:∀ (j k c:Nat),j<xs.length->k<xs.length->dE j c->dE k c->j=k
 off:∀ (k t c:Nat),k<xs.length->dE k c->¬ Fs t c
 bk:∀ (k c:Nat),k<xs.length->dE k c->¬ I c
def lB (Fs:Nat->bb) (n:Nat) (dE:Nat->bb):bb:=λc=>(∃ t,Fs t c)\/∃ k,k<n/\dE k c
section
variable {w:World}{I:bb}{T:Array Value}
theorem Take.length {g g':aK}{xs xs':List ab}(h:Take g xs xs' g'):xs'.length=xs.length:=by
 induction h with
 | bl=>rfl
 | cons _ _ aU=>simp [aU]
 | a6 _ _ _ _ _ aU=>simp [aU]
 | bL _ _ _ _ _ _ aU=>simp [aU]
 | FB _ _ _ _ _ _ _ _ _ _ aU=>simp [aU]
 | obj _ _ _ _ aU=>simp [aU]
 | mp _ _ _ _ aU=>simp [aU]
 | agg _ _ _ aU=>simp [aU]
 | bV _ _ _ aU=>simp [aU]
theorem Hand.cons {ρ:ab->Value->Prop}{Fs:Nat->bb}{x:ab}{v:Value}{F:bb}{xs:List ab}{vs:List Value}{dE:Nat->bb}(h:Hand w I ρ Fs xs vs dE) (J:R w I ρ x v F)
  (aS:∀ k c,k<xs.length->F c->¬ dE k c) (a1:∀ t c,F c->¬ Fs t c) (hi:∀ c,F c->¬ I c):Hand w I ρ Fs (x::xs) (v::vs) (λk=>match k with | 0=>F | k+1=>dE k):=by
 refine ⟨by simp [h.len],λk y u ax hu=>?_,λj k c ah hk h1 af=>?_,λk t c hk aa=>?_,λk c hk aa=>?_⟩
 ·cases k with
  | zero=>simp at ax hu; subst ax hu; exact J
  | succ k=>simp at ax hu; exact h.rel k y u ax hu
 ·cases j <;> cases k
  ·rfl
  ·exact absurd af (aS _ c (by simpa using hk) h1)
  ·exact absurd h1 (aS _ c (by simpa using ah) af)
  ·rw [h.eK _ _ c (by simpa using ah) (by simpa using hk) h1 af]
 ·cases k with
  | zero=>exact a1 t c aa
  | succ k=>exact h.off k t c (by simpa using hk) aa
 ·cases k with
  | zero=>exact hi c aa
  | succ k=>exact h.bk k c (by simpa using hk) aa
theorem Hand.tail {ρ:ab->Value->Prop}{Fs:Nat->bb}{x:ab}{v:Value}{xs:List ab}{vs:List Value}{dE:Nat->bb}(h:Hand w I ρ Fs (x::xs) (v::vs) dE):Hand w I ρ Fs xs vs (λk=>dE (k+1)) :=
  ⟨by simpa using h.len,λk y u ax hu=>h.rel (k+1) y u ax hu,λj k c ah hk h1 af=>by have:=h.eK (j+1) (k+1) c (by simpa using ah) (by simpa using hk) h1 af; omega,
   λk t c hk aa=>h.off (k+1) t c (by simpa using hk) aa,λk c hk aa=>h.bk (k+1) c (by simpa using hk) aa⟩
theorem pQ {x:ab}{xs:List ab}(h:cU x) (aU:∀ y∈xs,cU y):∀ y∈x::xs,cU y:=by
 intro y ax;rcases List.mem_cons.1 ax with rfl | ax
 ·exact h
 ·exact aU y ax
theorem Take.Fv {g g':aK}{xs xs':List ab}(h:Take g xs xs' g'):∀ x∈xs',cU x:=by
 induction h with
 | bl h=>exact h
 | cons h _ aU=>exact pQ h aU
 | a6 _ _ _ _ gy gk=>exact pQ (.own gy) gk
 | bL _ _ _ _ _ gy gk=>exact pQ (.own gy) gk
 | FB _ _ _ _ _ _ _ _ _ gy gk=>exact pQ (.own gy) gk
 | obj _ _ _ gy gk=>exact pQ (.obj gy) gk
 | mp _ _ _ _ gk=>exact pQ .mp gk
 | agg _ _ gy gk=>exact pQ (.agg gy) gk
 | bV _ _ gy gk=>exact pQ (.bV gy) gk
def GP (w:World) (I:bb) (T:Array Value) (g:aK) (xs xs':List ab) (g':aK):Prop :=
 ∀ {Fs:Nat->bb}{vs:List Value}{dE:Nat->bb},jG w I T g Fs->Hand w I (fA w T) Fs xs vs dE ->
  ∃ b7 lY,jG w I T g' b7/\Hand w I (fA w T) b7 xs' vs lY/\∀ c,lB b7 xs'.length lY c->lB Fs xs.length dE c
theorem Kb {w:World}{e cj:TypeId}{z n:Nat}{v:Value}{us iU:List Value}(h:w.ownsRow 0 e z v n us) (aR:w.ownsRow 0 cj z v n iU):us=iU:=by
 obtain ⟨h1,af⟩:=h;obtain ⟨qi,T1⟩:=aR;rcases af with ⟨rfl,rfl⟩ | ⟨b,cap,cur,rfl,_,aO,_,_,_,aw⟩
 ·simp at h1 qi; rw [h1,qi]
 ·rcases T1 with ⟨bY,_⟩ | ⟨eC,mQ,ab1,bY,_,NP,_,_,_,ET⟩
  ·cases bY
  ·cases bY;rw [aO] at NP;cases NP;rw [<- aw,<- ET]
theorem Take.node {g1 g2 g':aK}{Fs f_:Nat->bb}{B H0:bb}{cs cs' xs xs':List ab}{us vs:List Value}{bM dE:Nat->bb}{X:ab}{v0:Value}
  (bj:jG w I T g1 f_) (hH:Hand w I (fA w T) f_ cs us bM) (ff:∀ c,B c->(∃ t,Fs t c)/\(∀ t,¬ f_ t c)/\(∀ k,k<cs.length->¬ bM k c)/\¬ I c)
  (gH:∀ c,lB f_ cs.length bM c->(∃ t,Fs t c)\/H0 c) (dM:Hand w I (fA w T) Fs xs vs dE) (u':∀ c,H0 c->(∀ t,¬ Fs t c)/\∀ k,k<xs.length->¬ dE k c)
  (gy:GP w I T g1 cs cs' g2) (gk:GP w I T g2 xs xs' g')
  (build:∀ lY:Nat->bb,(∀ (k:Nat) (x:ab) (u:Value),cs'[k]?=some x->us[k]?=some u->R w I (fA w T) x u (lY k))->(∀ (j k c:Nat),j<cs'.length->k<cs'.length->lY j c->lY k c->j=k) ->
   (∀ k c,k<cs'.length->lY k c->¬ B c)->R w I (fA w T) X v0 (λc=>B c\/∃ k,k<cs'.length/\lY k c)) :
  ∃ b7 lY,jG w I T g' b7/\Hand w I (fA w T) b7 (X::xs') (v0::vs) lY/\∀ c,lB b7 (X::xs').length lY c->(∃ t,Fs t c)\/H0 c\/∃ k,k<xs.length/\dE k c:=by
 obtain ⟨iZ,H1,h9,Ex,BF⟩:=gy bj hH;have XM:∀ k t c,k<xs.length->dE k c->¬ iZ t c:=by
  intro k t c hk aa aW;rcases gH c (BF c (.inl ⟨t,aW⟩)) with ⟨t',h⟩ | h
  ·exact dM.off k t' c hk aa h
  ·exact (u' c h).2 k hk aa
 obtain ⟨yL,AW,H7,UC,Nv⟩:=gk h9 (⟨dM.len,dM.rel,dM.eK,XM,dM.bk⟩:Hand w I (fA w T) iZ xs vs dE);have Uo:∀ k c,k<cs'.length->H1 k c->¬ B c:=by
  intro k c hk aa av;obtain ⟨_,h1,af,_⟩:=ff c av;rcases BF c (.inr ⟨k,hk,aa⟩) with ⟨t,h⟩ | ⟨j,ah,h⟩
  ·exact h1 t h
  ·exact af j ah h
 have tQ:=build H1 Ex.rel Ex.eK Uo
 -- the node's blocks: apart from all else
 have key:∀ c,(B c\/∃ k,k<cs'.length/\H1 k c)->(∀ t,¬ iZ t c)/\(∀ k,k<xs.length->¬ dE k c)/\¬ I c/\((∃ t,Fs t c)\/H0 c):=by
  rintro c (av | ⟨k,hk,aa⟩)
  ·obtain ⟨⟨t0,aQ⟩,h1,af,aI⟩:=ff c av;refine ⟨λt aW=>?_,λk hk aa=>dM.off k t0 c hk aa aQ,aI,.inl ⟨t0,aQ⟩⟩;rcases BF c (.inl ⟨t,aW⟩) with ⟨t',h⟩ | ⟨j,ah,h⟩
   ·exact h1 t' h
   ·exact af j ah h
  ·have aB:=gH c (BF c (.inr ⟨k,hk,aa⟩));refine ⟨λt aW=>Ex.off k t c hk aa aW,λj ah xd=>?_,Ex.bk k c hk aa,aB⟩;rcases aB with ⟨t,h⟩ | h
   ·exact dM.off j t c ah xd h
   ·exact (u' c h).2 j ah xd
 have fin:∀ c,(B c\/∃ k,k<cs'.length/\H1 k c)->(∀ t,¬ yL t c)/\∀ k,k<xs'.length->¬ AW k c:=by
  intro c aa;obtain ⟨h1,af,_,_⟩:=key c aa;have none:¬ lB yL xs'.length AW c:=by
   intro h;rcases Nv c h with ⟨t,h⟩ | ⟨k,hk,h⟩
   ·exact h1 t h
   ·exact af k hk h
  exact ⟨λt h=>none (.inl ⟨t,h⟩),λk hk h=>none (.inr ⟨k,hk,h⟩)⟩
 refine ⟨yL,_,H7,UC.cons tQ (λk c hk aa=>(fin c aa).2 k hk) (λt c aa=>(fin c aa).1 t) (λc aa=>(key c aa).2.2.1),?_⟩;have back:∀ c,lB yL xs'.length AW c->(∃ t,Fs t c)\/H0 c\/∃ k,k<xs.length/\dE k c:=by
  intro c h;rcases Nv c h with ⟨t,h⟩ | h
  ·rcases gH c (BF c (.inl ⟨t,h⟩)) with h | h
   ·exact .inl h
   ·exact .inr (.inl h)
  ·exact .inr (.inr h)
 rintro c (h | ⟨k,hk,aa⟩)
 ·exact back c (.inl h)
 ·cases k with
  | zero =>
   rcases (key c aa).2.2.2 with h | h
   ·exact .inl h
   ·exact .inr (.inl h)
  | succ k=>exact back c (.inr ⟨k,by simpa using hk,aa⟩)
end
end Go.Own
namespace Go.Own
open Go
section
variable {w:World}{I:bb}{T:Array Value}
theorem jG.kill {g:aK}{Fs:Nat->bb}(h:jG w I T g Fs) (t:Nat):∃ b7,jG w I T (cu g ⟨t,[]⟩ .dead) b7/\(∀ c,¬ b7 t c)/\∀ s,s≠t->b7 s=Fs s:=by
 refine ⟨λs=>if s=t then cw else Fs s,⟨λs x J=>?_,λs aB c=>?_,λs cT c aa fo=>?_,λs c aa=>?_,h.lt⟩,λc=>by simp,λs aB=>by simp [aB]⟩
 ·by_cases b1:s=t
  ·subst b1;simp only [cu,if_pos] at J;cases aO:g s with
   | none=>rw [aO] at J; cases J
   | some y =>
    rw [aO] at J;have:x=.dead:=by simpa [ab.setAt] using J.symm
    subst this;obtain ⟨v,hv,_⟩:=h.rel s y aO;exact ⟨v,hv,.tree (.dead (by simp))⟩
  ·simp only [cu,if_neg b1] at J; simpa [b1] using h.rel s x J
 ·by_cases b1:s=t
  ·simp [b1]
  ·simp only [cu,if_neg b1] at aB; simpa [b1] using h.k2 s aB c
 ·by_cases h1:s=t <;> by_cases af:cT=t <;> simp [h1,af,cw] at aa fo;exact h.eK _ _ _ aa fo
 ·by_cases h1:s=t <;> simp [h1,cw] at aa;exact h.bk _ _ aa
theorem R.vi {ρ:ab->Value->Prop}{Fs:Nat->bb}{x:ab}{v:Value}{xs:List ab}{vs:List Value}{dE:Nat->bb}(h:Hand w I ρ Fs (x::xs) (v::vs) dE):∀ c,dE 0 c->(∀ t,¬ Fs t c)/\∀ k,k<xs.length->¬ dE (k+1) c:=by
 intro c aa;refine ⟨λt=>h.off 0 t c (by simp) aa,λk hk h'=>?_⟩;have:=h.eK 0 (k+1) c (by simp) (by simpa using hk) aa h';omega
theorem lB.head {Fs:Nat->bb}{x:ab}{xs:List ab}{dE:Nat->bb}{c:Nat}(h:(∃ t,Fs t c)\/dE 0 c\/∃ k,k<xs.length/\dE (k+1) c):lB Fs (x::xs).length dE c:=by
 rcases h with h | h | ⟨k,hk,h⟩
 ·exact .inl h
 ·exact .inr ⟨0,by simp,h⟩
 ·exact .inr ⟨k+1,by simpa using hk,h⟩
theorem F1 {g:aK}{p:Place}{y:ab}{q:Place}(h:q.root≠p.root):bB (cu g p y) q=bB g q:=by
 grind [bB,cu]
theorem uH {g:aK}{p:Place}{y:ab}{t:Nat}(h:t≠p.root):cu g p y t=g t:=by
 grind [cu]
theorem Pq {a:Option Addr}{n cap cH mQ:Nat}:(Value.slice a n cap).ownBlock=(Value.slice a cH mQ).ownBlock:=by cases a <;> rfl
theorem XX {e:TypeId}{z n N:Nat}{a:Option Addr}{cap:Nat}{us:List Value}(h:w.ownsRow 0 e z (.slice a N cap) N us) (aF:n<=N):w.ownsRow 0 e z (.slice a n cap) n (us.take (n * z)):=by
 have hle:n * z<=N * z:=Nat.mul_le_mul_right _ aF;obtain ⟨hu,bY⟩:=h;refine ⟨by rw [List.length_take,hu]; omega,?_⟩
 grind
theorem Take.sound {g g':aK}{xs xs':List ab}(h:Take g xs xs' g'):GP w I T g xs xs' g':=by
 induction h with
 | bl h=>exact λ{Fs vs dE} bj hH=>⟨Fs,dE,bj,hH,λ_ h=>h⟩
 | @cons g g' x xs xs' J _ aU =>
  intro Fs vs dE bj hH;cases vs with
  | nil=>have:=hH.len; simp at this
  | cons v vs =>
   obtain ⟨b7,lY,d_,UB,hQ⟩:=aU bj hH.tail;have aQ:=R.vi hH;have off:∀ c,dE 0 c->¬ lB b7 xs'.length lY c:=by
    intro c aa av;rcases hQ c av with ⟨t,h⟩ | ⟨k,hk,h⟩
    ·grind
    grind
   refine ⟨b7,_,d_,UB.cons (hH.rel 0 x v rfl rfl) (λk c hk aa h=>off c aa (.inr ⟨k,hk,h⟩)) (λt c aa h=>off c aa (.inl ⟨t,h⟩)) (λc aa=>hH.bk 0 c (by simp) aa),?_⟩;rintro c (h | ⟨k,hk,h⟩)
   ·rcases hQ c (.inl h) with h | ⟨j,ah,h⟩
    ·exact .inl h
    ·exact .inr ⟨j+1,by simpa using ah,h⟩
   ·cases k with
    | zero=>exact .inr ⟨0,by simp,h⟩
    | succ k =>
     rcases hQ c (.inr ⟨k,by simpa using hk,h⟩) with h | ⟨j,ah,h⟩
     ·exact .inl h
     ·exact .inr ⟨j+1,by simpa using ah,h⟩
 | @a6 g g1 g' z n N p cs cs' xs xs' au aF t1 _ gy gk =>
  intro Fs vs dE bj hH;cases vs with
  | nil=>have:=hH.len; simp at this
  | cons v vs =>
   obtain ⟨qL,cz,gZ,hI,dx,ki⟩:=bj.part au (by simp);obtain ⟨a,i_,cap,h1,rfl,aI⟩:=(hH.rel 0 _ v rfl rfl).nc;rw [h1] at gZ;cases gZ;obtain ⟨a2,rO,jd,_⟩:=hI.nm;cases jd;obtain ⟨f_,jc,kB,iO⟩:=ki .dead cw (.dead λ_ h=>h) (λ_ h=>h.elim) (λ_ h=>h.elim) (λ_ _ _ h=>h.elim);have pw:∀ t c,f_ t c->Fs t c/\¬ cz c:=by
    intro t c aa;by_cases aw:t=p.root
    ·grind
    ·rw [iO t aw] at aa;exact ⟨aa,λeM=>aw (bj.eK _ _ _ aa (dx c eM))⟩
   cases hI with
   | ref J=>simp [ab.isRef] at J
   | @own _ _ _ _ e us bM _ a1 aj qi ao aS av aN =>
    have ES:∀ k,k<(cs.take (n * z)).length->k<cs.length:=λk hk=>by rw [List.length_take] at hk; omega
    have fV:∀ k c,k<(cs.take (n * z)).length->bM k c->cz c:=λk c hk aa=>(aN c).2 (.inr ⟨k,ES k hk,aa⟩);have iL:Hand w I (fA w T) f_ (cs.take (n * z)) (us.take (n * z)) bM:=by
     refine ⟨by simp [aj],λk x u J hu=>?_,λj k c ah hk=>aS j k c (ES j ah) (ES k hk),λk t c hk aa aW=>(pw t c aW).2 (fV k c hk aa),λk c hk aa=>bj.bk _ c (dx c (fV k c hk aa))⟩
     grind
    have qp:=XX a1 aF;obtain ⟨b7,lY,aD,a2,a3⟩:=Take.node (g1:=cu g p .dead) (Fs:=Fs) (B:=λc=>(Value.slice a n cap).ownBlock=some c) (H0:=dE 0) (X:=.own z n cs') (v0:=.slice a n cap) jc iL
     (λc aa=>by
      have eM:cz c:=(aN c).2 (.inl (by rw [<- aa]; exact Pq));exact ⟨⟨_,dx c eM⟩,λt aW=>(pw t c aW).2 eM,λk hk h'=>av k c (ES k hk) h' (by rw [<- aa]; exact Pq),bj.bk _ c (dx c eM)⟩)
     (λc aa=>by
      rcases aa with ⟨t,h⟩ | ⟨k,hk,h⟩
      ·grind
      grind)
     hH.tail (R.vi hH) gy gk (λyO hp iB lH=>by
      refine .own qp (by rw [t1.length]; simp [aj]) (λk u hu=>?_) hp iB (λk c hk aa h=>lH k c hk aa h) λc=>Iff.rfl
      grind)
    grind [lB.head]
 | @bL g g1 g' z n m t q cs new cs' xs xs' aw au bg t1 _ gy gk =>
  intro Fs vs dE bj hH;cases vs with
  | nil=>have:=hH.len; simp at this
  | cons v vs =>
   obtain ⟨a,i_,cap,h1,rfl,aI⟩:=(hH.rel 0 _ v rfl rfl).nc;obtain ⟨v0,iP,gG⟩:=bj.rel t _ aw;simp only [dY,iP,walk,Option.some.injEq] at h1;subst h1;obtain ⟨bv,e,b9,us,news,gG⟩:=gG.vD;have bc:i_=n+m:=by
    obtain ⟨_,bY⟩:=gG.nJ
    grind
   subst bc;obtain ⟨Ra,H9,hh,fW⟩:=bj.kill t;have IZ:bB (cu g ⟨t,[]⟩ .dead) q=some (.own z n cs):=by rw [F1 (by simpa using bg)]; exact au
   obtain ⟨qL,cz,gZ,hI,dx,ki⟩:=H9.part IZ (by simp);obtain ⟨ca,mQ,bF,rfl⟩:=gG.jV;rw [bF] at gZ;cases gZ;obtain ⟨f_,jc,kB,iO⟩:=ki .dead cw (.dead λ_ h=>h) (λ_ h=>h.elim) (λ_ h=>h.elim) (λ_ _ _ h=>h.elim);have rZ:∀ c,cz c->Fs q.root c:=λc aa=>by have:=dx c aa; rwa [fW _ bg] at this
   have pw:∀ s c,f_ s c->Fs s c/\¬ cz c/\s≠t:=by
    intro s c aa;have b1:s≠t:=by
     rintro rfl;by_cases Oi:s=q.root
     ·grind
     simp_all
    by_cases aB:s=q.root
    ·grind
    ·rw [iO s aB,fW s b1] at aa;exact ⟨aa,λeM=>aB (bj.eK _ _ _ aa (rZ c eM)),b1⟩
   cases hI with
   | ref J=>simp [ab.isRef] at J
   | @own _ _ _ _ cj iU bM _ a1 aj qi ao aS av aN =>
    have:=Kb a1 gG.ll;subst this;have fV:∀ k c,k<cs.length->bM k c->cz c:=λk c hk aa=>(aN c).2 (.inr ⟨k,hk,aa⟩);have iL:Hand w I (fA w T) f_ (cs++new) (iU++news) (λk=>if k<cs.length then bM k else cw):=by
     refine ⟨by simp [aj,gG.aj],λk x u J hu=>?_,λj k c ah hk aa fo=>?_,λk s c hk aa aW=>?_,λk c hk aa=>?_⟩
     ·by_cases fv:k<cs.length
      ·grind
      ·rw [List.getElem?_append_right (by omega)] at J;rw [List.getElem?_append_right (by omega),<- aj] at hu;simpa [fv] using gG.ao _ x u J hu
     ·by_cases eZ:j<cs.length <;> by_cases fv:k<cs.length <;> simp [eZ,fv,cw] at aa fo
      grind
     ·by_cases fv:k<cs.length <;> simp [fv,cw] at aa
      grind
     ·by_cases fv:k<cs.length <;> simp [fv,cw] at aa;exact bj.bk _ c (rZ c (fV k c fv aa))
    obtain ⟨b7,lY,aD,a2,a3⟩:=Take.node (g1:=cu (cu g ⟨t,[]⟩ .dead) q .dead) (Fs:=Fs) (B:=λc=>(Value.slice a (n+m) cap).ownBlock=some c) (H0:=dE 0) (X:=.own z (n+m) cs') (v0:=.slice a (n+m) cap) jc iL
     (λc aa=>by
      by_cases q9:(Value.slice ca n mQ).ownBlock=some c
      ·have eM:cz c:=(aN c).2 (.inl q9);refine ⟨⟨_,rZ c eM⟩,λs aW=>(pw s c aW).2.1 eM,λk hk h'=>?_,bj.bk _ c (rZ c eM)⟩;by_cases fv:k<cs.length <;> simp [fv,cw] at h'
       grind
      ·have EU:Fs t c:=(gG.aN c).2 ⟨aa,q9⟩;refine ⟨⟨_,EU⟩,λs aW=>(pw s c aW).2.2 (bj.eK _ _ _ (pw s c aW).1 EU),λk hk h'=>?_,bj.bk _ c EU⟩;by_cases fv:k<cs.length <;> simp [fv,cw] at h';exact bg (bj.eK _ _ _ (rZ c (fV k c fv h')) EU))
     (λc aa=>by
      rcases aa with ⟨s,h⟩ | ⟨k,hk,h⟩
      ·grind
      ·by_cases fv:k<cs.length <;> simp [fv,cw] at h
       grind)
     hH.tail (R.vi hH) gy gk (λyO hp iB lH=>by
      refine .own gG.nJ (by rw [t1.length]; simp [aj,gG.aj]) (λk u hu=>?_) hp iB (λk c hk aa h=>lH k c hk aa h) λc=>Iff.rfl;by_cases fv:k<iU.length
      ·grind
      ·rw [List.getElem?_append_right (by omega)] at hu; exact gG.h1 _ u hu)
    grind [lB.head]
 | @FB g g1 g' z n m t oX m2 t2 q cs new zS cs' xs xs' aw Ol aF au bg ug Wv t1 _ gy gk =>
  subst aF;intro Fs vs dE bj hH;cases vs with
  | nil=>have:=hH.len; simp at this
  | cons v vs =>
   obtain ⟨a,i_,cap,h1,rfl,aI⟩:=(hH.rel 0 _ v rfl rfl).nc;obtain ⟨v0,iP,gG⟩:=bj.rel t _ aw;simp only [dY,iP,walk,Option.some.injEq] at h1;subst h1;obtain ⟨bv,e,b9,us,news,gG⟩:=gG.vD;have bc:i_=oX+m2+m:=by
    obtain ⟨_,bY⟩:=gG.nJ
    grind
   subst bc;obtain ⟨v2,Ca,mr⟩:=bj.rel t2 _ Ol;obtain ⟨L_,cj,tH,ZK,J2,mr⟩:=mr.vD;have jV:bv=v2:=by
    obtain ⟨aD,Mm,cG,rfl⟩:=gG.jV
    grind [dY,walk]
   subst jV;have l8:us=ZK++J2:=Kb gG.ll mr.nJ;subst l8;obtain ⟨Z8,UT,acR,NW⟩:=bj.kill t;obtain ⟨Ra,H9,hh,fW⟩:=UT.kill t2;have IZ:bB (cu (cu g ⟨t,[]⟩ .dead) ⟨t2,[]⟩ .dead) q=some (.own z oX cs):=by rw [F1 (by simpa using ug),F1 (by simpa using bg)]; exact au
   obtain ⟨qL,cz,gZ,hI,dx,ki⟩:=H9.part IZ (by simp);obtain ⟨ca,mQ,bF,rfl⟩:=mr.jV;rw [bF] at gZ;cases gZ;obtain ⟨f_,jc,kB,iO⟩:=ki .dead cw (.dead λ_ h=>h) (λ_ h=>h.elim) (λ_ h=>h.elim) (λ_ _ _ h=>h.elim);have rZ:∀ c,cz c->Fs q.root c:=λc aa=>by have:=dx c aa; rwa [fW _ ug,NW _ bg] at this
   have pw:∀ s c,f_ s c->Fs s c/\¬ cz c/\s≠t/\s≠t2:=by
    intro s c aa;have qq:s≠t2:=by
     rintro rfl;by_cases Oi:s=q.root
     ·grind
     simp_all
    have b1:s≠t:=by
     rintro rfl;by_cases Oi:s=q.root
     ·grind
     simp_all
    by_cases aB:s=q.root
    ·grind
    ·rw [iO s aB,fW s qq,NW s b1] at aa;exact ⟨aa,λeM=>aB (bj.eK _ _ _ aa (rZ c eM)),b1,qq⟩
   cases hI with
   | ref J=>simp [ab.isRef] at J
   | @own _ _ _ _ fH iU bM _ a1 aj qi ao aS av aN =>
    have:=Kb a1 mr.ll;subst this;have fV:∀ k c,k<cs.length->bM k c->cz c:=λk c hk aa=>(aN c).2 (.inr ⟨k,hk,aa⟩);have iL:Hand w I (fA w T) f_ (cs++zS++new) (iU++J2++news) (λk=>if k<cs.length then bM k else cw):=by
     have gn:=mr.aj;have Cs:=gG.aj;refine ⟨by simp [aj,gn,Cs],λk x u J hu=>?_,λj k c ah hk aa fo=>?_,λk s c hk aa aW=>?_,λk c hk aa=>?_⟩
     ·rw [List.append_assoc] at J hu;by_cases fv:k<cs.length
      ·grind
      ·rw [List.getElem?_append_right (by omega)] at J;rw [List.getElem?_append_right (by omega),<- aj] at hu;simp only [fv,if_false];by_cases II:k - cs.length<zS.length
       ·rw [List.getElem?_append_left II] at J;rw [List.getElem?_append_left (by omega)] at hu;exact mr.ao _ x u J hu
       ·rw [List.getElem?_append_right (by omega)] at J;rw [List.getElem?_append_right (by omega),<- gn] at hu;exact gG.ao _ x u J hu
     ·by_cases eZ:j<cs.length <;> by_cases fv:k<cs.length <;> simp [eZ,fv,cw] at aa fo
      grind
     ·by_cases fv:k<cs.length <;> simp [fv,cw] at aa
      grind
     ·by_cases fv:k<cs.length <;> simp [fv,cw] at aa;exact bj.bk _ c (rZ c (fV k c fv aa))
    have Qh:∀ s c,Fs s c->s=t\/s=t2->(∃ s,Fs s c)/\(∀ s,¬ f_ s c)/\(∀ k,k<(cs++zS++new).length->¬ (if k<cs.length then bM k else cw) c)/\¬ I c:=by
     intro s c aa aB;refine ⟨⟨_,aa⟩,λcT aW=>?_,λk hk h'=>?_,bj.bk _ c aa⟩
     ·obtain ⟨f1,_,f2,f3⟩:=pw cT c aW;have:=bj.eK _ _ _ f1 aa
      grind
     ·by_cases fv:k<cs.length <;> simp [fv,cw] at h';have:=bj.eK _ _ _ (rZ c (fV k c fv h')) aa
      grind
    obtain ⟨b7,lY,aD,a2,a3⟩:=Take.node (g1:=cu (cu (cu g ⟨t,[]⟩ .dead) ⟨t2,[]⟩ .dead) q .dead) (Fs:=Fs) (B:=λc=>(Value.slice a (oX+m2+m) cap).ownBlock=some c) (H0:=dE 0) (X:=.own z (oX+m2+m) cs') (v0:=.slice a (oX+m2+m) cap) jc iL
     (λc aa=>by
      by_cases q9:bv.ownBlock=some c
      ·by_cases NA:(Value.slice ca oX mQ).ownBlock=some c
       ·have eM:cz c:=(aN c).2 (.inl NA);refine ⟨⟨_,rZ c eM⟩,λs aW=>(pw s c aW).2.1 eM,λk hk h'=>?_,bj.bk _ c (rZ c eM)⟩;by_cases fv:k<cs.length <;> simp [fv,cw] at h'
        grind
       ·exact Qh t2 c ((mr.aN c).2 ⟨q9,NA⟩) (.inr rfl)
      ·exact Qh t c ((gG.aN c).2 ⟨aa,q9⟩) (.inl rfl))
     (λc aa=>by
      rcases aa with ⟨s,h⟩ | ⟨k,hk,h⟩
      ·grind
      ·by_cases fv:k<cs.length <;> simp [fv,cw] at h
       grind)
     hH.tail (R.vi hH) gy gk (λyO hp iB lH=>by
      refine .own gG.nJ (by rw [t1.length]; simp [aj,mr.aj,gG.aj]) (λk u hu=>?_) hp iB (λk c hk aa h=>lH k c hk aa h) λc=>Iff.rfl;rw [List.append_assoc] at hu;by_cases fv:k<iU.length
      ·grind
      ·rw [List.getElem?_append_right (by omega)] at hu;by_cases II:k - iU.length<J2.length
       ·rw [List.getElem?_append_left II] at hu;exact mr.h1 _ u hu
       ·rw [List.getElem?_append_right (by omega)] at hu; exact gG.h1 _ u hu)
    grind [lB.head]
 | @obj g g1 g' p cs cs' xs xs' au t1 _ gy gk =>
  intro Fs vs dE bj hH;cases vs with
  | nil=>have:=hH.len; simp at this
  | cons v vs =>
   obtain ⟨qL,cz,gZ,hI,dx,ki⟩:=bj.part au (by simp);obtain ⟨u,ad,h1,af,rfl⟩:=(hH.rel 0 _ v rfl rfl).nP;rw [h1] at gZ;cases gZ;obtain ⟨f_,jc,kB,iO⟩:=ki .dead cw (.dead λ_ h=>h) (λ_ h=>h.elim) (λ_ h=>h.elim) (λ_ _ _ h=>h.elim);have pw:∀ t c,f_ t c->Fs t c/\¬ cz c:=by
    intro t c aa;by_cases aw:t=p.root
    ·grind
    ·rw [iO t aw] at aa;exact ⟨aa,λeM=>aw (bj.eK _ _ _ aa (dx c eM))⟩
   cases hI with
   | ref J=>simp [ab.isRef] at J
   | @obj _ b e arr bM _ a1 aj qi ao aS av aN =>
    simp only [addrOf,Option.some.injEq] at af;subst af;have fV:∀ k c,k<cs.length->bM k c->cz c:=λk c hk aa=>(aN c).2 (.inr ⟨k,hk,aa⟩);have iL:Hand w I (fA w T) f_ cs arr.toList bM :=
     ⟨by simp [aj],λk x u J hu=>ao k x u J (by simpa using hu),aS,λk t c hk aa aW=>(pw t c aW).2 (fV k c hk aa),λk c hk aa=>bj.bk _ c (dx c (fV k c hk aa))⟩
    obtain ⟨b7,lY,aD,a2,a3⟩:=Take.node (g1:=cu g p .dead) (Fs:=Fs) (B:=λc=>c=b) (H0:=dE 0) (X:=.obj cs') (v0:=.pointer (some ⟨b,0,none⟩)) jc iL
     (λc aa=>by
      subst aa;have eM:cz c:=(aN c).2 (.inl rfl);exact ⟨⟨_,dx c eM⟩,λt aW=>(pw t c aW).2 eM,λk hk h'=>av k hk h',bj.bk _ c (dx c eM)⟩)
     (λc aa=>by
      rcases aa with ⟨t,h⟩ | ⟨k,hk,h⟩
      ·grind
      grind)
     hH.tail (R.vi hH) gy gk (λyO hp iB lH=>by
      refine .obj a1 (by rw [t1.length,aj]) qi (λk x u J hu=>hp k x u J (by simpa using hu)) iB (λk hk h=>lH k b hk h rfl) λc=>Iff.rfl)
    grind [lB.head]
 | @mp g g1 g' p q xs xs' au t1 _ gy gk =>
  intro Fs vs dE bj hH;cases vs with
  | nil=>have:=hH.len; simp at this
  | cons v vs =>
   obtain ⟨qL,cz,gZ,hI,dx,ki⟩:=bj.part au (by simp);have hm:=hH.rel 0 _ v rfl rfl;cases hm with
   | ref _ hm _ =>
   obtain ⟨G3,h1,rfl⟩:=hm;rw [h1] at gZ;cases gZ;obtain ⟨f_,jc,kB,iO⟩:=ki .dead cw (.dead λ_ h=>h) (λ_ h=>h.elim) (λ_ h=>h.elim) (λ_ _ _ h=>h.elim);have pw:∀ t c,f_ t c->Fs t c/\¬ cz c:=by
    intro t c aa;by_cases aw:t=p.root
    ·grind
    ·rw [iO t aw] at aa;exact ⟨aa,λeM=>aw (bj.eK _ _ _ aa (dx c eM))⟩
   cases hI with
   | ref J=>simp [ab.isRef] at J
   | @mp _ b es clock _ a1 bg aN =>
    have iL:Hand w I (fA w T) f_ [] [] (λ_=>cw) :=
     ⟨rfl,λk x u J=>by simp at J,λ_ _ _ _ _ h=>h.elim,λ_ _ _ _ h=>h.elim,λ_ _ _ h=>h.elim⟩
    obtain ⟨b7,lY,aD,a2,a3⟩:=Take.node (g1:=cu g p .dead) (Fs:=Fs) (B:=λc=>c=b) (H0:=dE 0) (X:=.mp q) (v0:=.map (some b)) jc iL
     (λc aa=>by
      subst aa;have eM:cz c:=(aN c).2 rfl;exact ⟨⟨_,dx c eM⟩,λt aW=>(pw t c aW).2 eM,λk hk _=>by simp at hk,bj.bk _ c (dx c eM)⟩)
     (λc aa=>by
      rcases aa with ⟨t,h⟩ | ⟨k,hk,h⟩
      ·grind
      grind)
     hH.tail (R.vi hH) gy gk (λyO hp iB lH=>by
      refine .mp a1 bg λc=>⟨λh=>h.elim id λ⟨_,hk,_⟩=>by simp at hk,.inl⟩)
    grind [lB.head]
 | @agg g g1 g' cs cs' xs xs' t1 _ gy gk =>
  intro Fs vs dE bj hH;cases vs with
  | nil=>have:=hH.len; simp at this
  | cons v vs =>
   have J:=hH.rel 0 _ v rfl rfl;have aQ:=R.vi hH;cases J with
   | ref J=>simp [ab.isRef] at J
   | @agg _ us bM _ aj qi ao aS aN =>
    have fV:∀ k c,k<cs.length->bM k c->dE 0 c:=λk c hk aa=>(aN c).2 ⟨k,hk,aa⟩;obtain ⟨b7,lY,aD,a2,a3⟩:=Take.node (g1:=g) (Fs:=Fs) (B:=cw) (H0:=dE 0) (X:=.agg cs') (v0:=.agg us) bj
     (⟨by simp [aj],λk x u J hu=>ao k x u J (by simpa using hu),aS,λk t c hk aa=>(aQ c (fV k c hk aa)).1 t,λk c hk aa=>hH.bk 0 c (by simp) (fV k c hk aa)⟩:Hand w I (fA w T) Fs cs us.toList bM)
     (λc aa=>aa.elim)
     (λc aa=>by
      rcases aa with h | ⟨k,hk,h⟩
      ·grind
      grind)
     hH.tail aQ gy gk (λyO hp iB lH=>by
      refine .agg (by rw [t1.length,aj]) qi (λk x u J hu=>hp k x u J (by simpa using hu)) iB λc=>⟨λh=>h.elim (λh=>h.elim) id,.inr⟩)
    grind [lB.head]
 | @bV g g1 g' cs cs' xs xs' t1 _ gy gk =>
  intro Fs vs dE bj hH;cases vs with
  | nil=>have:=hH.len; simp at this
  | cons v vs =>
   have J:=hH.rel 0 _ v rfl rfl;have aQ:=R.vi hH;cases J with
   | ref J=>simp [ab.isRef] at J
   | @bV _ us bM _ aj ao aS aN =>
    have fV:∀ k c,k<cs.length->bM k c->dE 0 c:=λk c hk aa=>(aN c).2 ⟨k,hk,aa⟩;obtain ⟨b7,lY,aD,a2,a3⟩:=Take.node (g1:=g) (Fs:=Fs) (B:=cw) (H0:=dE 0) (X:=.bV cs') (v0:=.tuple us) bj
     (⟨by simp [aj],λk x u J hu=>ao k x u J (by simpa using hu),aS,λk t c hk aa=>(aQ c (fV k c hk aa)).1 t,λk c hk aa=>hH.bk 0 c (by simp) (fV k c hk aa)⟩:Hand w I (fA w T) Fs cs us.toList bM)
     (λc aa=>aa.elim)
     (λc aa=>by
      rcases aa with h | ⟨k,hk,h⟩
      ·grind
      grind)
     hH.tail aQ gy gk (λyO hp iB lH=>by
      refine .bV (by rw [t1.length,aj]) (λk x u J hu=>hp k x u J (by simpa using hu)) iB λc=>⟨λh=>h.elim (λh=>h.elim) id,.inr⟩)
    grind [lB.head]
end
end Go.Own
namespace Go.Own
open Go
inductive jo (mJ:ab->Prop):ab->Prop
 | bl {x:ab}(h:cU x):jo mJ x
 | ref {x:ab}(J:x.isRef=true) (h:mJ x):jo mJ x
 | own {z n:Nat}{cs:List ab}(h:∀ x∈cs,jo mJ x):jo mJ (.own z n cs)
 | obj {cs:List ab}(h:∀ x∈cs,jo mJ x):jo mJ (.obj cs)
 | agg {cs:List ab}(h:∀ x∈cs,jo mJ x):jo mJ (.agg cs)
 | bV {cs:List ab}(h:∀ x∈cs,jo mJ x):jo mJ (.bV cs)
 | cX {fn:Fn}{a b:List ab}(h1:∀ x∈a,jo mJ x) (af:∀ x∈b,jo mJ x):jo mJ (.cX fn a b)
def Az:ab->Option Place
 | .ptr p _=>some p
 | .a6 _ p _=>some p
 | .sub _ p _ _=>some p
 | .bL _ p _ _ _=>some p
 | .gz p=>some p
 | _=>none
def Clear (p:Place) (k m:Nat) (r:ab):Prop:=∀ q,Az r=some q->q.root=p.root->∀ j dm,q.path=p.path++j::dm->j<k\/k+m<=j
def e5 {α:Type}(l:List α) (k:Nat) (c:List α):List α:=l.take k++c++l.drop (k+c.length)
theorem rD {α:Type}{l:List α}{k:Nat}{c:List α}(h:k+c.length<=l.length):(e5 l k c).length=l.length:=by
 simp [e5]; omega
theorem tc {α:Type}{l:List α}{k:Nat}{c:List α}(h:k+c.length<=l.length) (j:Nat):(e5 l k c)[j]?=if k<=j/\j<k+c.length then c[j - k]? else l[j]?:=by
 unfold e5;rw [List.append_assoc];by_cases h1:j<k
 ·rw [List.getElem?_append_left (by simp; omega),List.getElem?_take,if_pos h1,if_neg (by omega)]
 ·rw [List.getElem?_append_right (by simp; omega)];have:(l.take k).length=k:=by simp; omega
  rw [this];by_cases af:j<k+c.length
  ·rw [List.getElem?_append_left (by omega),if_pos ⟨by omega,af⟩]
  ·rw [List.getElem?_append_right (by omega),List.getElem?_drop,if_neg (by omega)];congr 1; omega
theorem Zg {α:Type}{l:List α}{k:Nat}{c:List α}{m:Nat}(h:k+c.length<=m) (hm:m<=l.length):(e5 l k c).take m=e5 (l.take m) k c:=by
 have h1:k+c.length<=(l.take m).length:=by rw [List.length_take]; omega
 apply List.ext_getElem?;intro j;rw [List.getElem?_take,tc h1,tc (l:=l) (by omega),List.getElem?_take];by_cases ah:j<m
 ·rw [if_pos ah,if_pos ah]
 ·rw [if_neg ah,if_neg ah,if_neg (by omega)]
def ab.e5 (x:ab) (k:Nat) (c:List ab):ab :=
 match x with
 | .own z n cs=>.own z n (Own.e5 cs k c)
 | .obj cs=>.obj (Own.e5 cs k c)
 | x=>x
section
variable {w:World}{I:bb}{T:Array Value}{g:aK}{Fs:Nat->bb}
theorem R.yh {ρ:ab->Value->Prop}{mJ:ab->Prop}{x:ab}{v:Value}{F:bb}(h:R w I ρ x v F):jo mJ x->R w I (λr u=>ρ r u/\mJ r) x v F:=by
 induction h with
 | lit h aN=>exact λ_=>.lit h aN
 | aL aN=>exact λ_=>.aL aN
 | dead aN=>exact λ_=>.dead aN
 | @ref x _ _ J h aN =>
  intro hk;refine .ref J ⟨h,?_⟩ aN;cases hk with
  | ref _ h=>exact h
  | bl h=>cases h <;> simp [ab.isRef] at J
  | _=>simp [ab.isRef] at J
 | hK aN=>exact λ_=>.hK aN
 | mp a1 au aN=>exact λ_=>.mp a1 au aN
 | imp aN bf a1 au=>exact λ_=>.imp aN bf a1 au
 | bk aN lh bf aB aj h1 aa ao aU =>
  intro hk;cases hk with
  | ref J=>simp [ab.isRef] at J
  | bl h=>cases h with | bk h=>exact .bk aN lh bf aB aj h1 aa λk x J=>aU k x J (.bl (h x (List.mem_of_getElem? J)))
 | cJ aN bf aB h1 aa ao aU =>
  intro hk;cases hk with
  | ref J=>simp [ab.isRef] at J
  | bl h=>cases h with | cJ h=>exact .cJ aN bf aB h1 aa λk x J=>aU k x J (.bl (h x (List.mem_of_getElem? J)))
 | own a1 aj h1 ao aS av aN aU =>
  intro hk;refine .own a1 aj h1 (λk x u J hu=>aU k x u J hu ?_) aS av aN;cases hk with
  | ref J=>simp [ab.isRef] at J
  | bl h=>cases h with | own h=>exact .bl (h x (List.mem_of_getElem? J))
  | own h=>exact h x (List.mem_of_getElem? J)
 | obj a1 aj h1 ao aS av aN aU =>
  intro hk;refine .obj a1 aj h1 (λk x u J hu=>aU k x u J hu ?_) aS av aN;cases hk with
  | ref J=>simp [ab.isRef] at J
  | bl h=>cases h with | obj h=>exact .bl (h x (List.mem_of_getElem? J))
  | obj h=>exact h x (List.mem_of_getElem? J)
 | agg aj h1 ao aS aN aU =>
  intro hk;refine .agg aj h1 (λk x u J hu=>aU k x u J hu ?_) aS aN;cases hk with
  | ref J=>simp [ab.isRef] at J
  | bl h=>cases h with | agg h=>exact .bl (h x (List.mem_of_getElem? J))
  | agg h=>exact h x (List.mem_of_getElem? J)
 | bV aj ao aS aN aU =>
  intro hk;refine .bV aj (λk x u J hu=>aU k x u J hu ?_) aS aN;cases hk with
  | ref J=>simp [ab.isRef] at J
  | bl h=>cases h with | bV h=>exact .bl (h x (List.mem_of_getElem? J))
  | bV h=>exact h x (List.mem_of_getElem? J)
 | @cX fn first caps v1 v2 F aN h1 af kB iO gy gk =>
  intro hk;have:(∀ x∈first,jo mJ x)/\∀ x∈caps,jo mJ x:=by
   cases hk with
   | ref J=>simp [ab.isRef] at J
   | bl h=>cases h with | cX h1 af=>exact ⟨λx J=>.bl (h1 x J),λx J=>.bl (af x J)⟩
   | cX h1 af=>exact ⟨h1,af⟩
  exact .cX aN h1 af (λk x u J hu=>gy k x u J hu (this.1 x (List.mem_of_getElem? J))) (λk x u J hu=>gk k x u J hu (this.2 x (List.mem_of_getElem? J)))
theorem jG.store (bj:jG w I T g Fs) {p:Place}{nd:ab}{z n:Nat}{cs:List ab}(au:bB g p=some nd) (fp:nd=.own z n cs\/nd=.obj cs) {k:Nat}{cs':List ab}(hk:k+cs'.length<=cs.length)
  {iU:List Value}{dE:Nat->bb}(hH:Hand w I (fA w T) Fs cs' iU dE) (mY:∀ x∈cs',cU x) (hy:∀ (j:Nat) (u:Value),iU[j]?=some u->u.oneCell'=true)
  {g2:aK}(zt:∀ t x,g2 t=some x->cu g p (nd.e5 k cs') t=some x)
  (r8:∀ t x,g2 t=some x->∀ y,g t=some y->jo (λr=>gE g r/\Clear p k cs'.length r/\gE g2 r) y) (lk:∀ t z q n m new,g2 t≠some (.bL z q n m new)) (kg:g2 p.root≠none) {b:Nat}{v:Value}
  (hv:dY w T p=some v) (av:addrOf v=some ⟨b,0,none⟩) {e:TypeId}{arr:Array Value}(kd:w.heap[b]?=some (.cells arr e (0,0))) :
  ∃ b7,cI (w.setRow b (e5 arr.toList k iU).toArray) I T g2 b7/\∀ t c,b7 t c->Fs t c\/∃ j,j<cs'.length/\dE j c:=by
 have lq:∀ z q n m new,nd≠.bL z q n m new:=by rcases fp with rfl | rfl <;> simp
 have hlen:=hH.len;have o8:∀ c,c≠b->(w.setRow b (e5 arr.toList k iU).toArray).heap[c]?=w.heap[c]?:=λc aa=>setRow_other w b c _ aa;have Dz:(w.setRow b (e5 arr.toList k iU).toArray).heap[b]?=some (.cells (e5 arr.toList k iU).toArray e (0,0)):=setRow_heap w b arr _ e (0,0) kd;have QE:(w.setRow b (e5 arr.toList k iU).toArray).heap.size=w.heap.size:=by simp
 generalize vx:w.setRow b (e5 arr.toList k iU).toArray=w' at *
 -- the slot of the node
 obtain ⟨eB,iF⟩:∃ eB,g p.root=some eB:=by
  unfold bB at au;cases J:g p.root with
  | none=>rw [J] at au; cases au
  | some x=>exact ⟨x,rfl⟩
 have py:eB.at p.path=some nd:=by simpa [bB,iF] using au
 obtain ⟨v0,iP,gG⟩:=bj.rel _ _ iF;have BB:=gG.gI (by rintro z q n m new rfl; exact lq _ _ _ _ _ (ab.sz py).2);have lO:jo (λr=>gE g r/\Clear p k cs'.length r/\gE g2 r) eB:=by
  cases af:g2 p.root with
  | none=>exact absurd af kg
  | some y=>exact r8 _ _ af _ iF
 let Li:ab->Value->Prop:=λr u=>fA w T r u/\gE g r/\Clear p k cs'.length r/\gE g2 r;have qk:R w I Li eB v0 (Fs p.root):=BB.yh lO;obtain ⟨h3,cz,hw,dH,dx,eX,ki⟩:=R.focus p.path qk py;have Ja:h3=v:=by simp only [dY,iP,hw,Option.some.injEq] at hv; exact hv
 subst Ja;have mw:cz b:=dH.Ft (z:=z) (n:=n) fp av;have same:∀ t c,Fs t c->c≠b->w'.heap[c]?=w.heap[c]?:=λ_ c _ aa=>o8 c aa;have vc:∀ c,I c->w'.heap[c]?=w.heap[c]?:=λc aa=>o8 c λe=>bj.bk _ b (dx b mw) (e ▸ aa);have EN:∀ t,t≠p.root->¬ Fs t b:=λt aw h=>aw (bj.eK _ _ _ h (dx b mw))
 -- ways that are clear of the cells
 obtain ⟨ZR,ZS⟩:=eX w' λc aa aF=>o8 c λe=>aF (e ▸ mw);have OR:∀ (ρ':ab->Value->Prop),(∀ x v,Li x v->ρ' x v)->(∃ c8,R w' I ρ' (nd.e5 k cs') h3 c8/\∀ c,c8 c->cz c\/∃ j,j<cs'.length/\dE j c)/\∀ j dm y,(j<k\/k+cs'.length<=j)->nd.at (j::dm)=some y->walk w' h3 (j::dm)=walk w h3 (j::dm):=by
  intro ρ' lQ;have new:∀ (j:Nat) (x:ab) (u:Value),cs'[j]?=some x->iU[j]?=some u->R w' I ρ' x u (dE j):=by
   intro j x u J hu;have ah:j<cs'.length:=(List.getElem?_eq_some_iff.1 J).1;have:=(hH.rel j x u J hu).bl (ρ':=ρ') (mY x (List.mem_of_getElem? J));exact this.frame vc (λ_ h=>h) (λ_ _ h=>h) λc aa=>o8 c λe=>hH.off j p.root b ah (e ▸ aa) (dx b mw)
  rcases fp with rfl | rfl
  ·cases dH with
   | ref J=>simp [ab.isRef] at J
   | @own _ _ _ _ cj us bM _ a1 aj h1 ao aS iN aN =>
    obtain ⟨l8,bY⟩:=a1;rcases bY with ⟨rfl,_⟩ | ⟨eC,cap,cur,rfl,v',lx,Aw,yd,Dj,Dk⟩
    ·simp [addrOf] at av
    ·simp only [addrOf,Option.some.injEq,Addr.mk.injEq,and_true] at av;subst av;rw [kd] at lx;cases lx;have NF:n * z<=arr.toList.length:=by
      rw [<- l8,<- Dk,List.length_take] ; simp; omega
     have ada:us.length=cs.length:=aj.symm;have nI:w'.ownsRow 0 e z (.slice (some ⟨eC,0,none⟩) n cap) n (e5 us k iU):=by
      refine ⟨by rw [rD (by omega),l8],.inr ⟨eC,cap,_,rfl,v',Dz,Aw,yd,?_,?_⟩⟩
      ·rw [List.size_toArray,rD (by omega),Array.length_toList,Dj]
      ·show (e5 arr.toList k iU).take (n * z)=_;rw [Zg (by omega) NF,Dk]
     have Nc:∀ j,j<cs.length->¬ bM j eC:=λj ah h=>iN j eC ah h rfl;have fV:∀ j c,j<cs.length->bM j c->Fs p.root c:=λj c ah aa=>dx c ((aN c).2 (.inr ⟨j,ah,aa⟩));refine ⟨⟨_,.own (Fs:=λj=>if k<=j/\j<k+cs'.length then dE (j - k) else bM j) nI (by rw [rD hk,rD (by omega),aj]) (λj u hu=>?_) (λj x u J hu=>?_) (λi j c hi ah aa fo=>?_) (λj c ah aa vu=>?_) (λc=>Iff.rfl),λc aa=>?_⟩,λj dm y ah ax=>?_⟩
     ·rw [tc (by omega)] at hu
      split at hu
      ·exact hy _ u hu
      ·exact h1 j u hu
     ·rw [tc hk] at J;rw [tc (by omega),<- hlen] at hu;by_cases gY:k<=j/\j<k+cs'.length
      ·rw [if_pos gY] at J hu;simpa [gY] using new (j - k) x u J hu
      ·rw [if_neg gY] at J hu;have eZ:j<cs.length:=(List.getElem?_eq_some_iff.1 J).1;rw [if_neg gY];exact (ao j x u J hu).frame vc (λ_ h=>h) lQ λc aa=>o8 c λe=>Nc j eZ (e ▸ aa)
     ·rw [rD hk] at hi ah;by_cases h1:k<=i/\i<k+cs'.length <;> by_cases af:k<=j/\j<k+cs'.length <;> simp only [h1,af,if_false] at aa fo
      ·have:=hH.eK (i - k) (j - k) c (by omega) (by omega) (by simpa using aa) (by simpa using fo);omega
      ·exact absurd (fV j c ah fo) (hH.off (i - k) _ c (by omega) (by simpa using aa))
      ·exact absurd (fV i c hi aa) (hH.off (j - k) _ c (by omega) (by simpa using fo))
      ·exact aS i j c hi ah aa fo
     ·rw [rD hk] at ah;by_cases h1:k<=j/\j<k+cs'.length
      ·rw [if_pos h1] at aa;simp only [Value.ownBlock,Option.some.injEq] at vu;subst vu;exact hH.off (j - k) p.root eC (by omega) aa (dx eC mw)
      ·rw [if_neg h1] at aa; exact iN j c ah aa vu
     ·rcases aa with aa | ⟨j,ah,aa⟩
      ·exact .inl ((aN c).2 (.inl aa))
      ·rw [rD hk] at ah;by_cases h1:k<=j/\j<k+cs'.length
       ·rw [if_pos h1] at aa; exact .inr ⟨j - k,by omega,aa⟩
       ·rw [if_neg h1] at aa; exact .inl ((aN c).2 (.inr ⟨j,ah,aa⟩))
     ·obtain ⟨c,oP,aa⟩:=ab.u2 ax;simp only [ab.kids] at oP;have eZ:j<cs.length:=(List.getElem?_eq_some_iff.1 oP).1;have hu:us[j]?=some us[j]:=List.getElem?_eq_getElem (by omega);have n9:child w (.slice (some ⟨eC,0,none⟩) n cap) j=some us[j]:=by
       refine pS (e:=e) (z:=z) (n:=n) (us:=us) ⟨l8,.inr ⟨eC,cap,arr,rfl,v',kd,Aw,yd,Dj,Dk⟩⟩ hu
      have BL:child w' (.slice (some ⟨eC,0,none⟩) n cap) j=some us[j]:=by
       refine pS nI ?_;rw [tc (by omega),if_neg (by omega)]; exact hu
      have:=R.pZ (w':=w') dm (ao j c _ oP hu) aa λc aa=>o8 c λe=>Nc j eZ (e ▸ aa);simp [walk,n9,BL,this]
  ·cases dH with
   | ref J=>simp [ab.isRef] at J
   | @obj _ eC cj jr bM _ a1 aj h1 ao aS iN aN =>
    simp only [addrOf,Option.some.injEq,Addr.mk.injEq,and_true] at av;subst av;rw [kd] at a1;cases a1;have sI:cs.length=arr.toList.length:=by simp [aj]
    have fV:∀ j c,j<cs.length->bM j c->Fs p.root c:=λj c ah aa=>dx c ((aN c).2 (.inr ⟨j,ah,aa⟩));refine ⟨⟨_,.obj (Fs:=λj=>if k<=j/\j<k+cs'.length then dE (j - k) else bM j) Dz (by rw [rD hk,List.size_toArray,rD (by omega),sI]) (λj u hu=>?_) (λj x u J hu=>?_) (λi j c hi ah aa fo=>?_) (λj ah aa=>?_) (λc=>Iff.rfl),λc aa=>?_⟩,λj dm y ah ax=>?_⟩
    ·rw [List.getElem?_toArray,tc (by omega)] at hu
     split at hu
     ·exact hy _ u hu
     ·exact h1 j u (by simpa using hu)
    ·rw [tc hk] at J;rw [List.getElem?_toArray,tc (by omega),<- hlen] at hu;by_cases gY:k<=j/\j<k+cs'.length
     ·rw [if_pos gY] at J hu;simpa [gY] using new (j - k) x u J hu
     ·rw [if_neg gY] at J hu;have eZ:j<cs.length:=(List.getElem?_eq_some_iff.1 J).1;rw [if_neg gY];exact (ao j x u J (by simpa using hu)).frame vc (λ_ h=>h) lQ λc aa=>o8 c λe=>iN j eZ (e ▸ aa)
    ·rw [rD hk] at hi ah;by_cases h1:k<=i/\i<k+cs'.length <;> by_cases af:k<=j/\j<k+cs'.length <;> simp only [h1,af,if_false] at aa fo
     ·have:=hH.eK (i - k) (j - k) c (by omega) (by omega) (by simpa using aa) (by simpa using fo);omega
     ·exact absurd (fV j c ah fo) (hH.off (i - k) _ c (by omega) (by simpa using aa))
     ·exact absurd (fV i c hi aa) (hH.off (j - k) _ c (by omega) (by simpa using fo))
     ·exact aS i j c hi ah aa fo
    ·rw [rD hk] at ah;by_cases h1:k<=j/\j<k+cs'.length
     ·rw [if_pos h1] at aa;exact hH.off (j - k) p.root eC (by omega) aa (dx eC mw)
     ·rw [if_neg h1] at aa; exact iN j ah aa
    ·rcases aa with aa | ⟨j,ah,aa⟩
     ·exact .inl ((aN c).2 (.inl aa))
     ·rw [rD hk] at ah;by_cases h1:k<=j/\j<k+cs'.length
      ·rw [if_pos h1] at aa; exact .inr ⟨j - k,by omega,aa⟩
      ·rw [if_neg h1] at aa; exact .inl ((aN c).2 (.inr ⟨j,ah,aa⟩))
    ·obtain ⟨c,oP,aa⟩:=ab.u2 ax;simp only [ab.kids] at oP;have eZ:j<cs.length:=(List.getElem?_eq_some_iff.1 oP).1;have hu:arr[j]?=some arr[j]:=Array.getElem?_eq_getElem (by omega);have n9:child w (.pointer (some ⟨eC,0,none⟩)) j=some arr[j]:=by simp [child,World.cell?,kd,hu]
     have BL:child w' (.pointer (some ⟨eC,0,none⟩)) j=some arr[j]:=by
      have aI:(e5 arr.toList k iU)[j]?=some arr[j]:=by
       rw [tc (by omega),if_neg (by omega)]; simp
      simp [child,World.cell?,Dz,aI]
     have:=R.pZ (w':=w') dm (ao j c _ oP hu) aa λc aa=>o8 c λe=>iN j eZ (e ▸ aa);simp [walk,n9,BL,this]
 have val:∀ q y,bB g q=some y->(q.root=p.root->∀ j dm,q.path=p.path++j::dm->j<k\/k+cs'.length<=j)->dY w' T q=dY w T q:=by
  intro q y bg gX;by_cases ao:q.root=p.root
  ·have gu:eB.at q.path=some y:=by simpa [bB,ao,iF] using bg
   rcases ZS q.path y gu with ⟨dm,ed⟩ | h
   ·have vx:walk w' v0 q.path=walk w v0 q.path:=by
     rw [ed,DA,DA,ZR,hw];simp only [Option.bind_some];cases dm with
     | nil=>rfl
     | cons j dm =>
      rw [ed,ab.G0,py] at gu;exact (OR (λ_ _=>True) (λ_ _ _=>trivial)).2 j dm y (gX ao j dm ed) gu
    simp [dY,ao,iP,vx]
   ·simp [dY,ao,iP,h]
  ·unfold bB at bg;cases J:g q.root with
   | none=>rw [J] at bg; cases bg
   | some x =>
    rw [J] at bg;obtain ⟨u,hu,aY⟩:=bj.rel _ _ J;cases aY with
    | tree aY =>
     have:=R.pZ (w':=w') q.path aY bg λc aa=>o8 c λe=>EN _ ao (e ▸ aa);simp [dY,hu,this]
    | bL aY=>simp [dY,hu,(ab.sz bg).1,walk]
 have slot:∀ {q:Place}{x:ab},q.path=[]->g q.root=some x->dY w' T q=dY w T q:=by
  intro q x bg J;obtain ⟨u,hu,_⟩:=bj.rel _ _ J;simp [dY,bg,walk]
 have refs:∀ r u,Li r u->dU w' T g2 r u:=by
  rintro r u ⟨h1,af,aI,bF⟩;refine ⟨?_,bF⟩;cases r <;> simp only [fA,gE] at h1 af ⊢
  case ptr q j=>obtain ⟨y,ax,_⟩:=af; rw [val q y ax (aI q rfl)]; exact h1
  case a6 bC q cH =>
   rcases af with ⟨_,_,af,_⟩ | ⟨aQ,_,_,_,_,af,_⟩
   ·rw [val q _ af (aI q rfl)]; exact h1
   ·rw [slot aQ af]; exact h1
  case sub bC q lo cH=>obtain ⟨_,_,af,_⟩:=af; rw [val q _ af (aI q rfl)]; exact h1
  case gz q=>obtain ⟨_,af⟩:=af; rw [val q _ af (aI q rfl)]; exact h1
  case bL bC q cH m' c3 =>
   rcases af with ⟨_,af⟩ | ⟨aQ,_,_,_,_,_,af,_⟩
   ·rw [val q _ af (aI q rfl)]; exact h1
   ·rw [slot aQ af]; exact h1
 obtain ⟨⟨Fn,UO,Nd⟩,_⟩:=OR (dU w' T g2) refs;obtain ⟨c8,Ey,pr⟩:=ki w' I (dU w' T g2) _ Fn ⟨vc,λc aa aF=>o8 c λe=>aF (e ▸ mw),λ_ h=>h,refs⟩ UO λc aa fo=>by
  rcases Nd c aa with h | ⟨j,ah,h⟩
  ·exact h
  ·exact absurd fo (hH.off j _ c ah h)
 have Ev:∀ c,c8 c->Fs p.root c\/∃ j,j<cs'.length/\dE j c:=by
  intro c aa;rcases (pr c).1 aa with h | h
  ·exact .inl h.1
  ·rcases Nd c h with h | h
   ·exact .inl (dx c h)
   ·exact .inr h
 let b7:Nat->bb:=λt c=>if t=p.root then c8 c else g2 t≠none/\Fs t c
 have pt:∀ t c,b7 t c->Fs t c\/∃ j,j<cs'.length/\dE j c:=by
  intro t c aa;by_cases aw:t=p.root
  ·simp only [b7,if_pos aw] at aa; rw [aw]; exact Ev c aa
  ·simp only [b7,if_neg aw] at aa; exact .inl aa.2
 refine ⟨b7,⟨λt x J=>?_,λt aw c aa=>?_,λt t' c aa fo=>?_,λt c aa hi=>?_,λc aa=>by have:=bj.lt c aa; omega,λt t' z q n m new bC cH m' c3 h1=>absurd h1 (lk _ _ _ _ _ _)⟩,pt⟩
 ·have gj:=zt t x J;by_cases aw:t=p.root
  ·subst aw;have EX:eB.setAt p.path (nd.e5 k cs')=x:=by simpa [cu,iF] using gj
   refine ⟨v0,iP,.tree ?_⟩;have Bv:b7 p.root=c8:=by funext c; simp [b7]
   rw [<- EX,Bv]; exact Ey
  ·rw [uH aw] at gj;obtain ⟨u,hu,aY⟩:=bj.rel t x gj;replace aY:=aY.gI (by rintro z q n m new rfl; exact lk _ _ _ _ _ _ J);have Bv:b7 t=Fs t:=by
    funext c;exact propext ⟨λh=>by simp only [b7,if_neg aw] at h; exact h.2,λh=>by simp only [b7,if_neg aw]; exact ⟨by rw [J]; simp,h⟩⟩
   refine ⟨u,hu,.tree ?_⟩;rw [Bv];exact (aY.yh (r8 t x J x gj)).frame vc (λ_ h=>h) refs λc aa=>o8 c λe=>EN t aw (e ▸ aa)
 ·by_cases iE:t=p.root
  ·exact kg (iE ▸ aw)
  ·simp only [b7,if_neg iE] at aa; exact aa.1 aw
 ·by_cases h1:t=p.root <;> by_cases af:t'=p.root
  ·rw [h1,af]
  ·simp only [b7,if_pos h1] at aa; simp only [b7,if_neg af] at fo;rcases Ev c aa with h | ⟨j,ah,h⟩
   ·exact absurd (bj.eK _ _ _ h fo.2) (Ne.symm af)
   ·exact absurd fo.2 (hH.off j _ c ah h)
  ·simp only [b7,if_neg h1] at aa; simp only [b7,if_pos af] at fo;rcases Ev c fo with h | ⟨j,ah,h⟩
   ·exact absurd (bj.eK _ _ _ aa.2 h) h1
   ·exact absurd aa.2 (hH.off j _ c ah h)
  ·simp only [b7,if_neg h1] at aa; simp only [b7,if_neg af] at fo;exact bj.eK _ _ _ aa.2 fo.2
 ·rcases pt t c aa with h | ⟨j,ah,h⟩
  ·exact bj.bk _ c h hi
  ·exact hH.bk j c ah h hi
end
end Go.Own
namespace Go.Own
open Go
section
variable {P:Program}{w:World}{I:bb}{T:Array Value}{g:aK}{Fs:Nat->bb}
theorem View.Qm (h:jG w I T g Fs) {x x':ab}(hv:View g x x'):∀ {v:Value}{F:bb},R w I (fA w T) x v F->(∀ c,F c->∃ t,Fs t c)->∀ ρ',R w (λc=>I c\/∃ t,Fs t c) ρ' x' v cw:=by
 induction hv with
 | qB =>
  intro v F aY aN ρ';have:=aY.sf;subst this;exact .hK λ_ h=>h
 | mp =>
  intro v F aY aN ρ';cases aY with
  | ref J=>simp [ab.isRef] at J
  | mp a1 au av=>exact .imp (λ_ h=>h) (.inr (aN _ ((av _).2 rfl))) a1 au
 | gz au =>
  intro v F aY aN ρ';cases aY with
  | ref _ ao _ =>
   obtain ⟨b,av,rfl⟩:=ao;obtain ⟨gx,cz,iq,dH,dx,_⟩:=h.part au (by simp);rw [av] at iq;cases iq;cases dH with
   | ref J=>simp [ab.isRef] at J
   | mp a1 au av=>exact .imp (λ_ h=>h) (.inr ⟨_,dx _ ((av _).2 rfl)⟩) a1 au
 | self aF h1 af aI bF cG =>
  intro v F aY aN ρ';refine ((aY.bl aF).om λc aa=>.inl aa).empty ?_;cases aY with
  | mp=>exact absurd rfl (cG _)
  | lit _ aN | aL aN | dead aN | ref _ _ aN | hK aN | bk aN | cJ aN | cX aN | imp aN=>exact aN
  | own=>exact absurd rfl (h1 _ _ _)
  | obj=>exact absurd rfl (af _)
  | agg=>exact absurd rfl (aI _)
  | bV=>exact absurd rfl (bF _)
 | @agg cs cs' aj _ aU =>
  intro v F aY aN ρ';cases aY with
  | ref J=>simp [ab.isRef] at J
  | @agg _ vs bM _ hY h1 ao aS mq =>
   refine .agg (Fs:=λ_=>cw) (by rw [aj,hY]) h1 (λk y u ax hu=>?_) (λ_ _ _ _ _ h=>h.elim) (λc=>⟨λh=>h.elim,λ⟨_,_,h⟩=>h⟩);have hk:k<cs.length:=by rw [<- aj]; exact (List.getElem?_eq_some_iff.1 ax).1
   have J:=List.getElem?_eq_getElem hk;exact aU k _ y J ax (ao k _ u J hu) (λc aa=>aN c ((mq c).2 ⟨k,hk,aa⟩)) ρ'
 | @cX fn cs cs' aj _ aU =>
  intro v F aY aN ρ';cases aY with
  | ref J=>simp [ab.isRef] at J
  | @cX _ _ _ v1 v2 _ mo h1 af kB iO =>
   refine .cX (λ_ h=>h) h1 (by rw [aj,af]) (λk x u J=>by simp at J) (λk y u ax hu=>?_);have hk:k<cs.length:=by rw [<- aj]; exact (List.getElem?_eq_some_iff.1 ax).1
   have J:=List.getElem?_eq_getElem hk;exact aU k _ y J ax (iO k _ u J hu) (λc aa=>aa.elim) ρ'
 | @own z n cs cs' aj _ aU =>
  intro v F aY aN ρ';obtain ⟨a,cap,us,bM,rfl,aF,hlen,aP,aa⟩:=aY.zZ;cases a with
  | none =>
   have hJ:cs=[]:=by
    cases cs with
    | nil=>rfl
    | cons c cs=>obtain ⟨b,av,_⟩:=aa 0 c rfl; cases av
   subst hJ;have lN:cs'=[]:=List.eq_nil_of_length_eq_zero (by simpa using aj);subst lN;have kz:n=0:=by
    cases aY with
    | ref J=>simp [ab.isRef] at J
    | own a1 =>
     obtain ⟨_,bY⟩:=a1;rcases bY with ⟨bY,aQ⟩ | ⟨b,c2,cur,bY,_⟩
     ·exact aQ
     ·cases bY
   subst kz;exact .hK λ_ h=>h
  | some ad =>
   obtain ⟨b,rfl,rY⟩:=aP ad rfl;refine .bk (us:=us) (λ_ h=>h) aF (.inr (aN b rY)) rfl (by rw [aj,hlen]) (λk y ax=>?_) (λk y ax=>?_) λk y ax=>?_
   all_goals
    have hk:k<cs.length:=by rw [<- aj]; exact (List.getElem?_eq_some_iff.1 ax).1
    have J:=List.getElem?_eq_getElem hk;obtain ⟨eC,l3,h1,af,aI,bF⟩:=aa k _ J;cases l3
   ·exact af
   ·simpa using h1
   ·exact aU k _ y J ax aI (λc aa=>aN c (bF c aa)) ρ'
 | @obj cs cs' aj _ aU =>
  intro v F aY aN ρ';cases aY with
  | ref J=>simp [ab.isRef] at J
  | @obj _ b e arr bM _ a1 hY h1 ao aS av mq =>
   refine .cJ (us:=λk=>arr.getD k undef) (λ_ h=>h) (.inr (aN b ((mq b).2 (.inl rfl)))) rfl (λk y ax=>?_) (λk y ax=>?_) λk y ax=>?_
   all_goals
    have hk:k<cs.length:=by rw [<- aj]; exact (List.getElem?_eq_some_iff.1 ax).1
    have J:=List.getElem?_eq_getElem hk;have hu:arr[k]?=some arr[k]:=Array.getElem?_eq_getElem (hY ▸ hk)
   ·simpa [hu] using h1 k _ hu
   ·simp [World.cell?,a1,hu]
   ·simpa [hu] using aU k _ y J ax (ao k _ _ J hu) (λc aa=>aN c ((mq c).2 (.inr ⟨k,hk,aa⟩))) ρ'
 | @a6 z n N p cs cs' au aF aj _ aU =>
  intro v F aY aN ρ';obtain ⟨a,i_,cap,h1,rfl,aI⟩:=aY.nc;obtain ⟨qL,qQ,gZ,hI,nA,_⟩:=h.part au (by simp);rw [h1] at gZ;cases gZ;obtain ⟨a2,rO,us,bM,jd,lh,hlen,aP,aa⟩:=hI.zZ;cases jd;have hle:n * z<=N * z:=Nat.mul_le_mul_right _ aF;have cell:∀ k,k<cs'.length->∃ x b,(cs.take (n * z))[k]?=some x/\a=some ⟨b,0,none⟩/\w.cell? ⟨b,k,none⟩=some (us k)/\(us k).oneCell'=true/\R w I (fA w T) x (us k) (bM k)/\∀ c,bM k c->qQ c:=by
   intro k hk;rw [aj,List.length_take] at hk;have J:cs[k]?=some cs[k]:=List.getElem?_eq_getElem (by omega);obtain ⟨b,r⟩:=aa k _ J;exact ⟨_,b,by rw [List.getElem?_take,if_pos (by omega)]; exact J,r⟩
  cases a with
  | none =>
   have lN:cs'=[]:=by
    cases cs' with
    | nil=>rfl
    | cons c l=>obtain ⟨_,b,_,av,_⟩:=cell 0 (by simp); cases av
   subst lN;obtain ⟨_,_,jd,_,_,_,rb⟩:=hI.nm;cases jd;have kz:n=0:=by
    rcases Nat.eq_zero_or_pos n with aQ | aQ
    ·exact aQ
    ·have:=rb (by omega); simp at this
   subst kz;exact .hK λ_ h=>h
  | some ad =>
   obtain ⟨b,rfl,rY⟩:=aP ad rfl;refine .bk (us:=us) (λ_ h=>h) (by omega) (.inr ⟨_,nA b rY⟩) rfl (by rw [aj,List.length_take,hlen]; omega) (λk y ax=>?_) (λk y ax=>?_) λk y ax=>?_
   all_goals
    obtain ⟨x,eC,J,l3,bF,cG,eh,mT⟩:=cell k (List.getElem?_eq_some_iff.1 ax).1;cases l3
   ·exact cG
   ·simpa using bF
   ·exact aU k x y J ax eh (λc aa=>⟨_,nA c (mT c aa)⟩) ρ'
 | @sub z lo n N p cs cs' au aF aj _ aU =>
  intro v F aY aN ρ';obtain ⟨a,i_,cap,ca,mQ,h1,rfl,IV,aI,cG⟩:=aY.xB;obtain ⟨qL,qQ,gZ,hI,nA,_⟩:=h.part au (by simp);rw [h1] at gZ;cases gZ;obtain ⟨a2,rO,us,bM,jd,lh,hlen,aP,aa⟩:=hI.zZ;cases jd;have hle:lo * z+n * z<=N * z:=by rw [<- Nat.add_mul]; exact Nat.mul_le_mul_right _ aF
  have hY:cs'.length=n * z:=by rw [aj,List.length_take,List.length_drop,hlen]; omega
  have cell:∀ k,k<cs'.length->∃ x b,((cs.drop (lo * z)).take (n * z))[k]?=some x/\a=some ⟨b,0,none⟩/\w.cell? ⟨b,lo * z+k,none⟩=some (us (lo * z+k))/\(us (lo * z+k)).oneCell'=true/\R w I (fA w T) x (us (lo * z+k)) (bM (lo * z+k))/\∀ c,bM (lo * z+k) c->qQ c:=by
   intro k hk;have J:cs[lo * z+k]?=some cs[lo * z+k]:=List.getElem?_eq_getElem (by omega);obtain ⟨b,r⟩:=aa _ _ J;exact ⟨_,b,by rw [List.getElem?_take,if_pos (by omega),List.getElem?_drop]; exact J,r⟩
  by_cases kz:n=0
  ·subst kz;have lN:cs'=[]:=List.eq_nil_of_length_eq_zero (by simpa using hY);subst lN;exact .hK λ_ h=>h
  ·obtain ⟨ad,rfl,rfl⟩:=cG (by omega);obtain ⟨b,rfl,rY⟩:=aP ad rfl;refine .bk (us:=λk=>us (lo * z+k)) (λ_ h=>h) IV (.inr ⟨_,nA b rY⟩) rfl hY (λk y ax=>?_) (λk y ax=>?_) λk y ax=>?_
   all_goals
    obtain ⟨x,eC,J,l3,bF,Ua,eh,mT⟩:=cell k (List.getElem?_eq_some_iff.1 ax).1;cases l3
   ·exact Ua
   ·simpa using bF
   ·exact aU k x y J ax eh (λc aa=>⟨_,nA c (mT c aa)⟩) ρ'
 | @rows z n p cs cs' au aj _ aU =>
  intro v F aY aN ρ';obtain ⟨a,i_,cap,h1,rfl,aI⟩:=aY.nc;obtain ⟨v0,e,us,iP,a1,hlen,qi,av,ao⟩:=Rows.sound (w:=w) (I:=I) (T:=T) (Fs:=Fs) (λt z q n m new aw=>h.rel t _ aw) (λp z n cs au=>by obtain ⟨v,cz,h1,af,aI,_⟩:=h.part au (by simp); exact ⟨v,cz,h1,af,aI⟩) (λz p n v hv=>by obtain ⟨a,cap,h1,rfl⟩:=hv; exact h1) au;rw [h1] at iP;cases iP;refine PM a1 hlen qi av aj λk x y u J ax hu=>?_;obtain ⟨bM,kT,fV⟩:=ao k x u J hu;exact aU k x y J ax kT fV ρ'
 | @ptr p k z n y cs cs' au ax hk aj _ aU =>
  intro v F aY aN ρ';obtain ⟨u,ad,h1,af,rfl⟩:=aY.nP;obtain ⟨qL,qQ,gZ,hI,nA,_⟩:=h.part au (by rcases ax with rfl | rfl <;> simp);rw [h1] at gZ;cases gZ;have cell:∀ j,j<cs'.length->∃ hb lW yM,w.cell? ⟨ad.block,k+j,none⟩=some hb/\hb.oneCell'=true/\(cs.drop k)[j]?=some lW/\R w I (fA w T) lW hb yM/\(∀ c,yM c->∃ t,Fs t c):=by
   intro j ah;rw [aj,List.length_drop] at ah;have gj:cs[k+j]?=some cs[k+j]:=List.getElem?_eq_getElem (by omega);obtain ⟨b,hb,fP,l5,n9,hy,_⟩:=hI.node ax gj;rw [af] at fP;cases fP;have gu:bB g (p.push (k+j))=some cs[k+j]:=by rw [tC,au]; rcases ax with rfl | rfl <;> simp [ab.kids]
   by_cases gR:∃ bC fQ cH m' c3,cs[k+j]=.bL bC fQ cH m' c3
   ·obtain ⟨bC,fQ,cH,m',c3,gR⟩:=gR;obtain ⟨b,ZL,_,_,BL,_,bM,kT⟩:=hI.node ax gj;rw [gR] at kT;exact kT.lq.elim
   ·obtain ⟨o7,Ln,xp,Nq,mq,_⟩:=h.part gu (λbC fQ cH m' c3 e=>gR ⟨_,_,_,_,_,e⟩);rw [yv,h1] at xp;simp only [Option.bind_some] at xp;rw [n9] at xp;cases xp;exact ⟨hb,_,Ln,l5,hy,by rw [List.getElem?_drop]; exact gj,Nq,λc aa=>⟨_,mq c aa⟩⟩
  obtain ⟨b,hb,fP,_⟩:=hI.node ax (List.getElem?_eq_getElem hk);rw [af] at fP;cases fP;have hblk:∃ t,Fs t b:=⟨_,nA b (hI.Ft ax af)⟩;refine .cJ (us:=λj=>(w.cell? ⟨b,k+j,none⟩).getD undef) (λ_ h=>h) (.inr hblk) rfl (λj jk vA=>?_) (λj jk vA=>?_) λj jk vA=>?_
  all_goals
   obtain ⟨hb,lW,yM,c1,c2,jU,c4,kP⟩:=cell j (List.getElem?_eq_some_iff.1 vA).1
  ·simpa [c1] using c2
  ·simp [c1]
  ·simpa [c1] using aU j lW jk jU vA c4 kP ρ'
end
end Go.Own
namespace Go.Own
open Go
def qE (g:aK):List (Place × ab)->aK
 | []=>g
 | (p,x)::l=>qE (cu g p x) l
structure Re (g g2:aK) (all:List ab) (outs:List (Option ab)) (k:Nat) (p:Place) (x:ab):Prop where
 out:outs[k]?=some (some x)
 L2:bB g2 p=some .dead
 arg:(∃ z n cs,all[k]?=some (.a6 z p n)/\bB g p=some (.own z n cs))\/(∃ cs,all[k]?=some (.ptr p 0)/\bB g p=some (.obj cs))
section
variable {P:Program}{w:World}{I:bb}{T:Array Value}{g:aK}{Fs:Nat->bb}
theorem RS (h:cI w I T g Fs) {z n:Nat}{p:Place}{cs:List ab}{v:Value}{F:bb}(aY:R w I (dU w T g) (.a6 z p n) v F) (au:bB g p=some (.own z n cs)):dY w T p=some v:=by
 obtain ⟨⟨a,i_,cap,h1,rfl,aI⟩,_⟩:=aY.nc;obtain ⟨qL,qQ,gZ,hI,nA⟩:=h.part au (by simp);rw [h1] at gZ;cases gZ;obtain ⟨a2,rO,jd,_⟩:=hI.nm;cases jd;exact h1
theorem RR (h:cI w I T g Fs) {p:Place}{cs:List ab}{v:Value}{F:bb}(aY:R w I (dU w T g) (.ptr p 0) v F) (au:bB g p=some (.obj cs)):dY w T p=some v:=by
 obtain ⟨⟨u,ad,h1,af,rfl⟩,_⟩:=aY.nP;obtain ⟨qL,qQ,gZ,hI,nA⟩:=h.part au (by simp);rw [h1] at gZ;cases gZ;cases hI with
 | ref J=>simp [ab.isRef] at J
 | obj=>simp only [addrOf,Option.some.injEq] at af; subst af; exact h1
theorem YW {g:aK}{p q:Place}{y:ab}(bg:bB g q=some .dead) (au:bB g p=some .dead) (dq:p≠q):bB (cu g p y) q=some .dead:=by
 by_cases ao:q.root=p.root
 ·obtain ⟨r,pp⟩:=p;obtain ⟨dm,ta⟩:=q;simp only at ao;subst ao;have EO:pp≠ta:=λe=>dq (by rw [e]);simp only [bB,cu,if_true] at *;cases J:g dm with
  | none=>rw [J] at au; cases au
  | some x =>
   rw [J] at au bg;simp only [Option.map_some];have:∀ (pp ta:List Nat) (x:ab),pp≠ta->x.at pp=some .dead->x.at ta=some .dead->(x.setAt pp y).at ta=some .dead:=by
    intro pp
    induction pp with
    | nil =>
     intro ta x dq h1 af;simp only [ab.at,Option.some.injEq] at h1;subst h1;cases ta with
     | nil=>exact absurd rfl dq
     | cons k q=>simp [ab.at,ab.kids] at af
    | cons k pp aU =>
     intro ta x dq h1 af;cases ta with
     | nil =>
      simp only [ab.at,Option.some.injEq] at af;subst af;simp [ab.at,ab.kids] at h1
     | cons j q =>
      simp only [ab.at] at h1 af;cases hk:x.kids[k]? with
      | none=>rw [hk] at h1; cases h1
      | some c =>
       rw [hk] at h1;simp only at h1;have zC:x.setAt (k::pp) y=x.wg k (c.setAt pp y):=by simp only [ab.setAt,hk]
       rw [zC];have fv:k<x.kids.length:=(List.getElem?_eq_some_iff.1 hk).1;have IH:(x.wg k (c.setAt pp y)).kids=x.kids.set k (c.setAt pp y):=by
        cases x <;> simp [ab.wg,ab.kids] at fv ⊢
       simp only [ab.at,IH];by_cases gY:j=k
       ·subst gY;rw [List.getElem?_set_self fv];rw [hk] at af;exact aU q c (λe=>dq (by rw [e])) h1 af
       ·rw [List.getElem?_set_ne (Ne.symm gY)];exact af
   exact this pp ta x EO au bg
 ·rw [F1 ao]; exact bg
theorem jG.qE:∀ (l:List (Place × ab)) (dE:Nat->bb) (vs:Nat->Value) {g:aK}{Fs:Nat->bb},jG w I T g Fs->(l.map (·.1)).Nodup->(∀ (j:Nat) (p:Place) (x:ab),l[j]?=some (p,x)->bB g p=some .dead/\dY w T p=some (vs j)/\R w I (fA w T) x (vs j) (dE j)) ->
  (∀ (j t c:Nat),j<l.length->dE j c->¬ Fs t c)->(∀ (j c:Nat),j<l.length->dE j c->¬ I c)->(∀ (i j c:Nat),i<l.length->j<l.length->dE i c->dE j c->i=j) ->
  ∃ b7,jG w I T (qE g l) b7/\∀ t c,b7 t c->Fs t c\/∃ j,j<l.length/\dE j c
 | [],_,_,g,Fs,bj,_,_,_,_,_=>⟨Fs,bj,λ_ _ h=>.inl h⟩
 | (p,x)::l,dE,vs,g,Fs,bj,fp,aj,ra,NU,mW=>by
  obtain ⟨h1,af,aI⟩:=aj 0 p x rfl;obtain ⟨v,cz,hv,dH,dx,put⟩:=bj.part h1 (by simp);rw [af] at hv;cases hv;obtain ⟨f_,jc,zl,Bu⟩:=put x (dE 0) aI (λc aa aW=>absurd aW (ra 0 _ c (by simp) aa)) (λc aa=>NU 0 c (by simp) aa) (λt c _ aa=>ra 0 t c (by simp) aa);have gH:∀ t c,f_ t c->Fs t c\/dE 0 c:=by
   intro t c aa;by_cases aw:t=p.root
   ·subst aw;rcases (zl c).1 aa with ⟨h,_⟩ | h
    ·exact .inl h
    ·exact .inr h
   ·rw [Bu t aw] at aa; exact .inl aa
  simp only [List.map_cons,List.nodup_cons] at fp;obtain ⟨iZ,h9,Ew⟩:=jG.qE l (λj=>dE (j+1)) (λj=>vs (j+1)) jc fp.2 (λj q y ah=>by
    obtain ⟨aD,a2,a3⟩:=aj (j+1) q y (by simpa using ah);refine ⟨YW aD h1 ?_,a2,a3⟩;rintro rfl;exact fp.1 (List.mem_map.2 ⟨(p,y),List.mem_of_getElem? ah,rfl⟩))
   (λj t c ah aa aW=>by
    rcases gH t c aW with h | h
    ·exact ra (j+1) t c (by simpa using ah) aa h
    ·have:=mW (j+1) 0 c (by simpa using ah) (by simp) aa h; omega)
   (λj c ah aa=>NU (j+1) c (by simpa using ah) aa)
   (λi j c hi ah h1 af=>by have:=mW (i+1) (j+1) c (by simpa using hi) (by simpa using ah) h1 af; omega)
  refine ⟨iZ,h9,λt c aa=>?_⟩;rcases Ew t c aa with h | ⟨j,ah,h⟩
  ·rcases gH t c h with h | h
   ·exact .inl h
   ·exact .inr ⟨0,by simp,h⟩
  ·exact .inr ⟨j+1,by simpa using ah,h⟩
end
end Go.Own
namespace Go.Own
open Go
inductive h5:ab->ab->Prop
 | refl {x:ab}:h5 x x
 | CD {z:Nat}:h5 .aL (.own z 0 [])
 | pL {x y:ab}(aF:cU x) (h:View (λ_=>none) x y):h5 x y
 | own {z n:Nat}{cs cs':List ab}(aj:cs'.length=cs.length) (h:∀ (k:Nat) (x y:ab),cs[k]?=some x->cs'[k]?=some y->h5 x y):h5 (.own z n cs) (.own z n cs')
 | obj {cs cs':List ab}(aj:cs'.length=cs.length) (h:∀ (k:Nat) (x y:ab),cs[k]?=some x->cs'[k]?=some y->h5 x y):h5 (.obj cs) (.obj cs')
 | agg {cs cs':List ab}(aj:cs'.length=cs.length) (h:∀ (k:Nat) (x y:ab),cs[k]?=some x->cs'[k]?=some y->h5 x y):h5 (.agg cs) (.agg cs')
theorem View.up {g g':aK}(h:∀ t x,g t=some x->g' t=some x) {x y:ab}(hv:View g x y):View g' x y:=by
 induction hv with
 | qB=>exact .qB
 | self h1 af aI bF cG eh=>exact .self h1 af aI bF cG eh
 | mp=>exact .mp
 | gz au=>exact .gz (kO h au)
 | agg aj _ aU=>exact .agg aj aU
 | own aj _ aU=>exact .own aj aU
 | obj aj _ aU=>exact .obj aj aU
 | cX aj _ aU=>exact .cX aj aU
 | a6 au aF aj _ aU=>exact .a6 (kO h au) aF aj aU
 | sub au aF aj _ aU=>exact .sub (kO h au) aF aj aU
 | ptr au ax hk aj _ aU=>exact .ptr (kO h au) ax hk aj aU
 | rows au aj _ aU=>exact .rows (au.mono (λau=>kO h au) h) aj aU
theorem xT {cs cs':List ab}(aj:cs'.length=cs.length) (aF:∀ x∈cs,cU x) (aU:∀ (k:Nat) (x y:ab),cs[k]?=some x->cs'[k]?=some y->cU x->cU y):∀ y∈cs',cU y:=by
 intro y ax;obtain ⟨k,hk⟩:=List.getElem?_of_mem ax;have fv:=(List.getElem?_eq_some_iff.1 hk).1;have J:=List.getElem?_eq_getElem (aj ▸ fv:k<cs.length)
 grind
section
variable {w:World}{I:bb}
theorem R.pL {ρ:ab->Value->Prop}{x y:ab}{v:Value}{F:bb}(aY:R w I ρ x v F) (aF:cU x) (h:View (λ_=>none) x y) (bf:∀ c,F c->¬ I c) (aT:∀ c,I c->c<w.heap.size):R w (λc=>I c\/F c) ρ y v cw:=by
 have bj:jG w I #[v] (λt=>if t=0 then some x else none) (λt c=>t=0/\F c):=by
  refine ⟨λt z aX=>?_,λt aw c aa=>?_,λt t' c aa fo=>aa.1.trans fo.1.symm,λt c aa=>bf c aa.2,aT⟩
  ·by_cases aQ:t=0
   ·subst aQ;rw [if_pos rfl] at aX;cases aX;exact ⟨v,rfl,.tree ((aY.bl aF).ze λc=>⟨λh=>⟨rfl,h⟩,λh=>h.2⟩)⟩
   grind
  grind
 have:=View.Qm bj (h.up λ_ _ h=>by cases h) (aY.bl aF) (λc aa=>⟨0,rfl,aa⟩) ρ
 grind
theorem h5.bl {x y:ab}(h:h5 x y):cU x->cU y:=by
 induction h with
 | refl=>exact id
 | CD=>exact λ_=>.own (by simp)
 | pL aF h =>
  intro _;have key:∀ {x y:ab},View (λ_=>none) x y->cU x->cU y:=by
   intro x y h
   induction h with
   | qB=>exact λ_=>.bk (by simp)
   | self h=>exact λ_=>h
   | mp=>exact λ_=>.imp
   | gz au=>simp [bB] at au
   | agg aj _ aU=>intro aF; cases aF with | agg aF=>exact .agg (xT aj aF aU)
   | own aj _ aU=>intro aF; cases aF with | own aF=>exact .bk (xT aj aF aU)
   | obj aj _ aU=>intro aF; cases aF with | obj aF=>exact .cJ (xT aj aF aU)
   | cX aj _ aU=>intro aF; cases aF with | cX h1 af=>exact .cX h1 (xT aj af aU)
   | a6 au=>simp [bB] at au
   | sub au=>simp [bB] at au
   | ptr au=>simp [bB] at au
   | rows au =>
    cases au with
    | own au=>simp [bB] at au
    | bL aw=>cases aw
  grind
 | own aj _ aU=>intro aF; cases aF with | own aF=>exact .own (xT aj aF aU)
 | obj aj _ aU=>intro aF; cases aF with | obj aF=>exact .obj (xT aj aF aU)
 | agg aj _ aU=>intro aF; cases aF with | agg aF=>exact .agg (xT aj aF aU)
theorem HJ {ρ:ab->Value->Prop}{cs cs':List ab}{get:Nat->Option Value}{Fs:Nat->bb}{F B:bb}(aj:cs'.length=cs.length)
  (aO:∀ k,k<cs.length->∃ u,get k=some u)
  (aS:∀ (j k c:Nat),j<cs.length->k<cs.length->Fs j c->Fs k c->j=k) (av:∀ k c,k<cs.length->Fs k c->¬ B c) (aN:∀ c,F c↔B c\/∃ k,k<cs.length/\Fs k c)
  (aU:∀ (k:Nat) (x y:ab),cs[k]?=some x->cs'[k]?=some y->∀ u,get k=some u->∃ c8,(∀ c,c8 c->Fs k c)/\R w (λc=>I c\/(Fs k c/\¬ c8 c)) ρ y u c8) :
  ∃ qR:Nat->bb,(∀ k c,k<cs'.length->qR k c->Fs k c)/\(∀ (k:Nat) (y:ab) (u:Value),cs'[k]?=some y->get k=some u->R w (λc=>I c\/(F c/\¬ (B c\/∃ j,j<cs'.length/\qR j c))) ρ y u (qR k)):=by
 have:∀ k,∃ G:bb,k<cs.length->(∀ c,G c->Fs k c)/\∀ (y:ab) (u:Value),cs'[k]?=some y->get k=some u->R w (λc=>I c\/(Fs k c/\¬ G c)) ρ y u G:=by
  intro k;by_cases hk:k<cs.length
  ·have J:=List.getElem?_eq_getElem hk;have ax:=List.getElem?_eq_getElem (aj ▸ hk:k<cs'.length);obtain ⟨u,hu⟩:=aO k hk
   simp_all
  ·exact ⟨cw,λh=>absurd h hk⟩
 obtain ⟨qR,Ng⟩:=Classical.axiomOfChoice this;refine ⟨qR,λk c hk=>(Ng k (aj ▸ hk)).1 c,λk y u ax hu=>?_⟩;have hk:k<cs'.length:=(List.getElem?_eq_some_iff.1 ax).1;have h':k<cs.length:=aj ▸ hk;refine ((Ng k h').2 y u ax hu).om λc aa=>?_
 grind
theorem R.dO {ρ:ab->Value->Prop}{x y:ab}(h:h5 x y):∀ {v:Value}{F:bb},R w I ρ x v F->cU x->(∀ c,F c->¬ I c)->(∀ c,I c->c<w.heap.size)->∃ c8,(∀ c,c8 c->F c)/\R w (λc=>I c\/(F c/\¬ c8 c)) ρ y v c8:=by
 induction h with
 | refl=>exact λaY _ _ _=>⟨_,λ_ h=>h,aY.om λ_ h=>.inl h⟩
 | CD =>
  intro v F aY _ _ _;have:=aY.sf;subst this;refine ⟨cw,λ_ h=>h.elim,.own (e:=0) (us:=[]) (Fs:=λ_=>cw) ⟨by simp,.inl ⟨rfl,rfl⟩⟩ rfl (by simp) (by simp) (λ_ _ _ _ _ h=>h.elim) (λ_ _ _ h=>h.elim) λc=>⟨λh=>h.elim,λh=>?_⟩⟩;rcases h with h | ⟨_,_,h⟩
  ·cases h
  ·exact h
 | pL aF h=>exact λaY _ bf aT=>⟨cw,λ_ h=>h.elim,(aY.pL aF h bf aT).om λc aa=>aa.elim .inl λh=>.inr ⟨h,λh=>h⟩⟩
 | @own z n cs cs' aj _ aU =>
  intro v F aY aF bf aT;cases aY with
  | ref J=>simp [ab.isRef] at J
  | @own _ _ _ _ e us Fs _ a1 hY h1 ao aS av aN =>
   cases aF with
   | own aF =>
    obtain ⟨qR,qj,Bx⟩:=HJ (get:=λk=>us[k]?) (B:=λc=>v.ownBlock=some c) aj (λk hk=>⟨_,List.getElem?_eq_getElem (hY ▸ hk)⟩) aS (λk c hk aa e=>av k c hk aa e) aN (λk x y J ax u hu=>aU k x y J ax (ao k x u J hu) (aF x (List.mem_of_getElem? J)) (λc aa=>bf c ((aN c).2 (.inr ⟨k,(List.getElem?_eq_some_iff.1 J).1,aa⟩))) aT);exact ⟨_,λc aa=>(aN c).2 (aa.imp id λ⟨k,hk,h⟩=>⟨k,aj ▸ hk,qj k c hk h⟩),
     .own a1 (by rw [aj,hY]) h1 (λk y u ax hu=>Bx k y u ax hu) (λj k c ah hk af aI=>aS j k c (aj ▸ ah) (aj ▸ hk) (qj j c ah af) (qj k c hk aI)) (λk c hk aa=>av k c (aj ▸ hk) (qj k c hk aa)) (λc=>Iff.rfl)⟩
 | @obj cs cs' aj _ aU =>
  intro v F aY aF bf aT;cases aY with
  | ref J=>simp [ab.isRef] at J
  | @obj _ b e arr Fs _ a1 hY h1 ao aS av aN =>
   cases aF with
   | obj aF =>
    obtain ⟨qR,qj,Bx⟩:=HJ (get:=λk=>arr[k]?) (B:=λc=>c=b) aj (λk hk=>⟨_,Array.getElem?_eq_getElem (hY ▸ hk)⟩) aS (λk c hk aa e=>av k hk (e ▸ aa)) aN (λk x y J ax u hu=>aU k x y J ax (ao k x u J hu) (aF x (List.mem_of_getElem? J)) (λc aa=>bf c ((aN c).2 (.inr ⟨k,(List.getElem?_eq_some_iff.1 J).1,aa⟩))) aT);exact ⟨_,λc aa=>(aN c).2 (aa.imp id λ⟨k,hk,h⟩=>⟨k,aj ▸ hk,qj k c hk h⟩),
     .obj a1 (by rw [aj,hY]) h1 (λk y u ax hu=>Bx k y u ax hu) (λj k c ah hk af aI=>aS j k c (aj ▸ ah) (aj ▸ hk) (qj j c ah af) (qj k c hk aI)) (λk hk aa=>av k (aj ▸ hk) (qj k b hk aa)) (λc=>Iff.rfl)⟩
 | @agg cs cs' aj _ aU =>
  intro v F aY aF bf aT;cases aY with
  | ref J=>simp [ab.isRef] at J
  | @agg _ vs Fs _ hY h1 ao aS aN =>
   cases aF with
   | agg aF =>
    obtain ⟨qR,qj,Bx⟩:=HJ (get:=λk=>vs[k]?) (B:=λ_=>False) aj (λk hk=>⟨_,Array.getElem?_eq_getElem (hY ▸ hk)⟩) aS (λk c hk aa e=>e) (λc=>(aN c).trans ⟨.inr,λh=>h.elim (λh=>h.elim) id⟩) (λk x y J ax u hu=>aU k x y J ax (ao k x u J hu) (aF x (List.mem_of_getElem? J)) (λc aa=>bf c ((aN c).2 ⟨k,(List.getElem?_eq_some_iff.1 J).1,aa⟩)) aT);refine ⟨λc=>∃ k,k<cs'.length/\qR k c,λc ⟨k,hk,h⟩=>(aN c).2 ⟨k,aj ▸ hk,qj k c hk h⟩,
     .agg (Fs:=qR) (by rw [aj,hY]) h1 (λk y u ax hu=>(Bx k y u ax hu).om λc aa=>aa.imp id λ⟨h1,af⟩=>⟨h1,λh=>af (.inr h)⟩) (λj k c ah hk af aI=>aS j k c (aj ▸ ah) (aj ▸ hk) (qj j c ah af) (qj k c hk aI)) (λc=>Iff.rfl)⟩
end
end Go.Own
