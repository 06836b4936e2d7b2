/-
  Parts of the proof that the last text states. No condition of their own.
-/
import Derived.Orders
import Derived.WalkKit
namespace Go.Own
open Go
structure Place where
 root:Nat
 path:List Nat
 deriving DecidableEq,Repr
def Place.push (p:Place) (k:Nat):Place:=⟨p.root,p.path++[k]⟩
inductive ab where
 | lit (v:Value)
 | aL
 | bk (z n:Nat) (cs:List ab)
 | own (z n:Nat) (cs:List ab)
 | obj (cs:List ab)
 | agg (cs:List ab)
 | bW (cs:List ab)
 | cI (cs:List ab)
 | ptr (p:Place) (k:Nat)
 | a6 (z:Nat) (p:Place) (n:Nat)
 | sub (z:Nat) (p:Place) (lo n:Nat)
 | bL (z:Nat) (p:Place) (n m:Nat) (new:List ab)
 | cX (fn:Fn) (first caps:List ab)
 | mp (p:Array MapEntry->Nat->Prop)
 | gx (p:Place)
 | imp (p:Array MapEntry->Nat->Prop)
 | dead
 deriving Inhabited
abbrev bb:=Nat->Prop
def ab.isRef:ab->Bool
 | .ptr .. | .a6 .. | .sub .. | .gx ..=>true
 | _=>false
inductive R (w:World) (I:bb) (ρ:ab->Value->Prop):ab->Value->bb->Prop
 | lit {v:Value}{F:bb}(hv:v.oneCell'=true) (aN:∀ c,¬ F c):R w I ρ (.lit v) v F
 | aL {F:bb}(aN:∀ c,¬ F c):R w I ρ .aL (.slice none 0 0) F
 | dead {v:Value}{F:bb}(aN:∀ c,¬ F c):R w I ρ .dead v F
 | ref {x:ab}{v:Value}{F:bb}(J:x.isRef=true) (h:ρ x v) (aN:∀ c,¬ F c):R w I ρ x v F
 | hM {z cap:Nat}{a:Option Addr}{F:bb}(aN:∀ c,¬ F c):R w I ρ (.bk z 0 []) (.slice a 0 cap) F
 | bk {z n cap:Nat}{cs:List ab}{ad:Addr}{us:Nat->Value}{F:bb}(aN:∀ c,¬ F c) (lg:n<=cap) (bc:I ad.block) (aB:ad.spot=none) (ak:cs.length=n * z) (h1:∀ (k:Nat) (x:ab),cs[k]?=some x->(us k).oneCell'=true)
   (aa:∀ (k:Nat) (x:ab),cs[k]?=some x->w.cell? ⟨ad.block,ad.off+k,none⟩=some (us k)) (aq:∀ (k:Nat) (x:ab),cs[k]?=some x->R w I ρ x (us k) (λ_=>False)) :
   R w I ρ (.bk z n cs) (.slice (some ad) n cap) F
 | cI {cs:List ab}{ad:Addr}{us:Nat->Value}{F:bb}(aN:∀ c,¬ F c) (bc:I ad.block) (aB:ad.spot=none) (h1:∀ (k:Nat) (x:ab),cs[k]?=some x->(us k).oneCell'=true)
   (aa:∀ (k:Nat) (x:ab),cs[k]?=some x->w.cell? ⟨ad.block,ad.off+k,none⟩=some (us k)) (aq:∀ (k:Nat) (x:ab),cs[k]?=some x->R w I ρ x (us k) (λ_=>False)) :
   R w I ρ (.cI cs) (.pointer (some ad)) F
 | own {z n:Nat}{cs:List ab}{v:Value}{e:TypeId}{us:List Value}{Fs:Nat->bb}{F:bb}
   (a1:w.ownsRow 0 e z v n us) (ak:cs.length=us.length) (h1:∀ (k:Nat) (u:Value),us[k]?=some u->u.oneCell'=true)
   (aq:∀ (k:Nat) (x:ab) (u:Value),cs[k]?=some x->us[k]?=some u->R w I ρ x u (Fs k))
   (aS:∀ (j k c:Nat),j<cs.length->k<cs.length->Fs j c->Fs k c->j=k) (av:∀ (k c:Nat),k<cs.length->Fs k c->v.ownBlock≠some c)
   (aN:∀ c,F c↔v.ownBlock=some c\/∃ k,k<cs.length/\Fs k c):R w I ρ (.own z n cs) v F
 | obj {cs:List ab}{b:Nat}{e:TypeId}{arr:Array Value}{Fs:Nat->bb}{F:bb}
   (a1:w.heap[b]?=some (.cells arr e (0,0))) (ak:cs.length=arr.size) (h1:∀ (k:Nat) (u:Value),arr[k]?=some u->u.oneCell'=true)
   (aq:∀ (k:Nat) (x:ab) (u:Value),cs[k]?=some x->arr[k]?=some u->R w I ρ x u (Fs k))
   (aS:∀ (j k c:Nat),j<cs.length->k<cs.length->Fs j c->Fs k c->j=k) (av:∀ (k:Nat),k<cs.length->¬ Fs k b)
   (aN:∀ c,F c↔c=b\/∃ k,k<cs.length/\Fs k c):R w I ρ (.obj cs) (.pointer (some ⟨b,0,none⟩)) F
 | agg {cs:List ab}{vs:Array Value}{Fs:Nat->bb}{F:bb}(ak:cs.length=vs.size) (h1:∀ (k:Nat) (u:Value),vs[k]?=some u->u.oneCell'=true)
   (aq:∀ (k:Nat) (x:ab) (u:Value),cs[k]?=some x->vs[k]?=some u->R w I ρ x u (Fs k))
   (aS:∀ (j k c:Nat),j<cs.length->k<cs.length->Fs j c->Fs k c->j=k)
   (aN:∀ c,F c↔∃ k,k<cs.length/\Fs k c):R w I ρ (.agg cs) (.agg vs) F
 | bW {cs:List ab}{vs:Array Value}{Fs:Nat->bb}{F:bb}(ak:cs.length=vs.size)
   (aq:∀ (k:Nat) (x:ab) (u:Value),cs[k]?=some x->vs[k]?=some u->R w I ρ x u (Fs k))
   (aS:∀ (j k c:Nat),j<cs.length->k<cs.length->Fs j c->Fs k c->j=k)
   (aN:∀ c,F c↔∃ k,k<cs.length/\Fs k c):R w I ρ (.bW cs) (.tuple vs) F
 | cX {fn:Fn}{first caps:List ab}{v1 v2:Array Value}{F:bb}(aN:∀ c,¬ F c) (h1:first.length=v1.size) (af:caps.length=v2.size)
   (ky:∀ (k:Nat) (x:ab) (u:Value),first[k]?=some x->v1[k]?=some u->R w I ρ x u (λ_=>False))
   (iP:∀ (k:Nat) (x:ab) (u:Value),caps[k]?=some x->v2[k]?=some u->R w I ρ x u (λ_=>False)):R w I ρ (.cX fn first caps) (.func fn v1 v2) F
 | mp {p:Array MapEntry->Nat->Prop}{b:Nat}{es:Array MapEntry}{clock:Nat}{F:bb}(a1:w.heap[b]?=some (.map es clock)) (au:p es clock) (aN:∀ c,F c↔c=b):R w I ρ (.mp p) (.map (some b)) F
 | imp {p:Array MapEntry->Nat->Prop}{b:Nat}{es:Array MapEntry}{clock:Nat}{F:bb}(aN:∀ c,¬ F c) (bc:I b) (a1:w.heap[b]?=some (.map es clock)) (au:p es clock):R w I ρ (.imp p) (.map (some b)) F
theorem R.zc {w:World}{I:bb}{ρ:ab->Value->Prop}{x:ab}{v:Value}{F c8:bb}(h:R w I ρ x v F) (aN:∀ c,F c↔c8 c):R w I ρ x v c8:=by
 have:F=c8:=funext λc=>propext (aN c)
 grind
theorem R.lt {w:World}{I:bb}{ρ:ab->Value->Prop}{x:ab}{v:Value}{F:bb}(h:R w I ρ x v F):∀ c,F c->c<w.heap.size:=by
 induction h with
 | lit _ aN | aL aN | dead aN | ref _ _ aN | hM aN | bk aN | cI aN | cX aN | imp aN=>exact λc aa=>absurd aa (aN c)
 | mp a1 _ aN=>exact λc aa=>by rw [(aN c).1 aa]; exact (Array.getElem?_eq_some_iff.1 a1).1
 | own a1 ak h1 aq aS av aN aU =>
  intro c aa;rcases (aN c).1 aa with h | ⟨k,hk,h⟩
  ·exact (a1.lt c h).2
  ·exact aU k _ _ (List.getElem?_eq_getElem hk) (List.getElem?_eq_getElem (ak ▸ hk)) c h
 | obj a1 ak h1 aq aS av aN aU =>
  intro c aa;rcases (aN c).1 aa with rfl | ⟨k,hk,h⟩
  ·grind
  ·exact aU k _ _ (List.getElem?_eq_getElem hk) (Array.getElem?_eq_getElem (ak ▸ hk)) c h
 | agg ak h1 aq aS aN aU =>
  intro c aa;obtain ⟨k,hk,h⟩:=(aN c).1 aa;exact aU k _ _ (List.getElem?_eq_getElem hk) (Array.getElem?_eq_getElem (ak ▸ hk)) c h
 | bW ak aq aS aN aU =>
  intro c aa;obtain ⟨k,hk,h⟩:=(aN c).1 aa;exact aU k _ _ (List.getElem?_eq_getElem hk) (Array.getElem?_eq_getElem (ak ▸ hk)) c h
theorem vO {w w':World}{e:TypeId}{z n:Nat}{v:Value}{us:List Value}(h:w.ownsRow 0 e z v n us) (av:∀ c,v.ownBlock=some c->w'.heap[c]?=w.heap[c]?):w'.ownsRow 0 e z v n us:=by
 obtain ⟨h1,af⟩:=h;refine ⟨h1,?_⟩;rcases af with af | ⟨g,cap,cur,rfl,aO,bY,rest⟩
 ·grind
 ·exact .inr ⟨g,cap,cur,rfl,aO,by rw [av g rfl]; exact bY,rest⟩
theorem R.frame {w w':World}{I I':bb}{ρ ρ':ab->Value->Prop}{x:ab}{v:Value}{F:bb}(h:R w I ρ x v F)
  (bc:∀ c,I c->w'.heap[c]?=w.heap[c]?) (px:∀ c,I c->I' c) (lP:∀ x v,ρ x v->ρ' x v) :
  (∀ c,F c->w'.heap[c]?=w.heap[c]?)->R w' I' ρ' x v F:=by
 induction h with
 | lit hv aN=>exact λ_=>.lit hv aN
 | aL aN=>exact λ_=>.aL aN
 | dead aN=>exact λ_=>.dead aN
 | ref J h aN=>exact λ_=>.ref J (lP _ _ h) aN
 | hM aN=>exact λ_=>.hM aN
 | bk aN lg hi aB ak h1 aa aq aU =>
  exact λ_=>.bk aN lg (px _ hi) aB ak h1 (λk x hk=>(World.cell?_of_block (a:=⟨_,_,none⟩) (bc _ hi)).trans (aa k x hk)) λk x hk=>aU k x hk (λc aa=>aa.elim)
 | cI aN hi aB h1 aa aq aU =>
  exact λ_=>.cI aN (px _ hi) aB h1 (λk x hk=>(World.cell?_of_block (a:=⟨_,_,none⟩) (bc _ hi)).trans (aa k x hk)) λk x hk=>aU k x hk (λc aa=>aa.elim)
 | own a1 ak h1 aq aS av aN aU =>
  intro aW;refine .own (vO a1 λc aa=>aW c ((aN c).2 (.inl aa))) ak h1 (λk x u J hu=>aU k x u J hu λc aa=>aW c ((aN c).2 (.inr ⟨k,?_,aa⟩))) aS av aN
  grind
 | obj a1 ak h1 aq aS av aN aU =>
  intro aW;refine .obj ((aW _ ((aN _).2 (.inl rfl))).trans a1) ak h1 (λk x u J hu=>aU k x u J hu λc aa=>aW c ((aN c).2 (.inr ⟨k,?_,aa⟩))) aS av aN
  grind
 | agg ak h1 aq aS aN aU =>
  intro aW;refine .agg ak h1 (λk x u J hu=>aU k x u J hu λc aa=>aW c ((aN c).2 ⟨k,?_,aa⟩)) aS aN
  grind
 | bW ak aq aS aN aU =>
  intro aW;refine .bW ak (λk x u J hu=>aU k x u J hu λc aa=>aW c ((aN c).2 ⟨k,?_,aa⟩)) aS aN
  grind
 | imp aN hi a1 au=>exact λ_=>.imp aN (px _ hi) ((bc _ hi).trans a1) au
 | mp a1 au aN=>exact λaW=>.mp ((aW _ ((aN _).2 rfl)).trans a1) au aN
 | cX aN h1 af ky iP gw gh=>exact λ_=>.cX aN h1 af (λk x u J hu=>gw k x u J hu λc aa=>aa.elim) (λk x u J hu=>gh k x u J hu λc aa=>aa.elim)
def ab.kids:ab->List ab
 | .own _ _ cs=>cs
 | .obj cs=>cs
 | .agg cs=>cs
 | .bW cs=>cs
 | _=>[]
def ab.wi (x:ab) (k:Nat) (y:ab):ab :=
 match x with
 | .own z n cs=>.own z n (cs.set k y)
 | .obj cs=>.obj (cs.set k y)
 | .agg cs=>.agg (cs.set k y)
 | .bW cs=>.bW (cs.set k y)
 | x=>x
def ab.at:ab->List Nat->Option ab
 | x,[]=>some x
 | x,k::p =>
  match x.kids[k]? with
  | some c=>c.at p
  | none=>none
def ab.setAt:ab->List Nat->ab->ab
 | _,[],y=>y
 | x,k::p,y =>
  match x.kids[k]? with
  | some c=>x.wi k (c.setAt p y)
  | none=>x
def child (w:World) (v:Value) (k:Nat):Option Value :=
 match v with
 | .agg cs=>cs[k]?
 | .tuple cs=>cs[k]?
 | .slice (some a) _ _=>w.cell? ⟨a.block,a.off+k,none⟩
 | .pointer (some a)=>w.cell? ⟨a.block,a.off+k,none⟩
 | _=>none
def walk (w:World):Value->List Nat->Option Value
 | v,[]=>some v
 | v,k::p =>
  match child w v k with
  | some u=>walk w u p
  | none=>none
theorem pS {w:World}{e:TypeId}{z n:Nat}{v:Value}{us:List Value}(h:w.ownsRow 0 e z v n us) {k:Nat}{u:Value}(hu:us[k]?=some u):child w v k=some u:=by
 obtain ⟨h1,af⟩:=h;rcases af with ⟨rfl,rfl⟩ | ⟨g,cap,cur,rfl,aO,bY,aF,aa,aB,aw⟩
 ·grind
 ·rw [<- aw] at hu;rw [List.getElem?_take] at hu
  split at hu
  ·simpa [child,World.cell?,bY] using hu
  grind
theorem YG {α:Type}{l:List α}{k j:Nat}{y x:α}(h:(l.set k y)[j]?=some x):(j=k/\x=y/\k<l.length)\/(j≠k/\l[j]?=some x):=by
 grind
structure Out (w w':World) (I I':bb) (ρ ρ':ab->Value->Prop) (F cy:bb):Prop where
 bk:∀ c,I c->w'.heap[c]?=w.heap[c]?
 rest:∀ c,F c->¬ cy c->w'.heap[c]?=w.heap[c]?
 more:∀ c,I c->I' c
 ref:∀ x v,ρ x v->ρ' x v
theorem Out.mono {w w':World}{I I':bb}{ρ ρ':ab->Value->Prop}{F cy c8 jn:bb}(h:Out w w' I I' ρ ρ' F cy) (h1:∀ c,c8 c->F c) (af:∀ c,c8 c->¬ jn c->¬ cy c):Out w w' I I' ρ ρ' c8 jn :=
 ⟨h.bk,λc aa aF=>h.rest c (h1 c aa) (af c aa aF),h.more,h.ref⟩
theorem R.outside {w w':World}{I I':bb}{ρ ρ':ab->Value->Prop}{F cy:bb}(o:Out w w' I I' ρ ρ' F cy) {x:ab}{v:Value}{G:bb}(h:R w I ρ x v G) (c9:∀ c,G c->F c/\¬ cy c):R w' I' ρ' x v G :=
 h.frame o.bk o.more o.ref λc aa=>o.rest c (c9 c aa).1 (c9 c aa).2
theorem E9 {w w':World}{I I':bb}{ρ ρ':ab->Value->Prop}{cs:List ab}{get:Nat->Option Value}{Fs:Nat->bb}{F cy:bb}
  (aq:∀ (k:Nat) (x:ab) (u:Value),cs[k]?=some x->get k=some u->R w I ρ x u (Fs k))
  (aS:∀ (j k c:Nat),j<cs.length->k<cs.length->Fs j c->Fs k c->j=k)
  (aN:∀ k c,k<cs.length->Fs k c->F c) {k:Nat}(hk:k<cs.length) (ax:∀ c,cy c->Fs k c) (o:Out w w' I I' ρ ρ' F cy)
  {y:ab}{u:Value}{bM:bb}(hu:get k=some u) (aY:R w' I' ρ' y u bM) (fV:∀ c,bM c↔(Fs k c/\¬ cy c)\/(bM c/\¬ (F c/\¬ cy c))) :
  (∀ (j:Nat) (x:ab) (u:Value),(cs.set k y)[j]?=some x->get j=some u->R w' I' ρ' x u (if j=k then bM else Fs j)) /\
  (∀ (i j c:Nat),i<(cs.set k y).length->j<(cs.set k y).length->(if i=k then bM else Fs i) c->(if j=k then bM else Fs j) c->i=j):=by
 constructor
 ·intro j x wk J jP;rcases YG J with ⟨rfl,rfl,aT⟩ | ⟨dq,J⟩
  ·grind
  ·rw [if_neg dq];have ah:j<cs.length:=(List.getElem?_eq_some_iff.1 J).1;exact (aq j x wk J jP).outside o λc aa=>⟨aN j c ah aa,λeO=>dq (aS j k c ah hk aa (ax c eO))⟩
 grind
theorem E_ {m:Nat}{Fs:Nat->bb}{bM cy jn:bb}{k:Nat}(hk:k<m)
  (aS:∀ (j k c:Nat),j<m->k<m->Fs j c->Fs k c->j=k) (ax:∀ c,cy c->Fs k c) (fV:∀ c,bM c↔(Fs k c/\¬ cy c)\/jn c) (c:Nat) :
  (∃ j,j<m/\(if j=k then bM else Fs j) c)↔((∃ j,j<m/\Fs j c)/\¬ cy c)\/jn c:=by
 grind
theorem R.pZ {w w':World}{I:bb}{ρ:ab->Value->Prop}:∀ (r:List Nat) {x:ab}{v:Value}{F:bb}{y:ab},R w I ρ x v F->x.at r=some y ->
  (∀ c,F c->w'.heap[c]?=w.heap[c]?)->walk w' v r=walk w v r
 | [],_,_,_,_,_,_,_=>rfl
 | k::p,x,v,F,y,h,gp,aW=>by
  simp only [ab.at] at gp;cases hs:x.kids[k]? with
  | none=>rw [hs] at gp; cases gp
  | some sE =>
   rw [hs] at gp;simp only at gp;cases h with
   | @own z n cs _ e us Fs _ a1 ak h1 aq aS av aN =>
    simp only [ab.kids] at hs;have hk:k<cs.length:=(List.getElem?_eq_some_iff.1 hs).1;have hu:us[k]?=some us[k]:=List.getElem?_eq_getElem (ak ▸ hk);have nK:=vO (w':=w') a1 λc aa=>aW c ((aN c).2 (.inl aa));have:=R.pZ (w':=w') p (aq k sE _ hs hu) gp λc aa=>aW c ((aN c).2 (.inr ⟨k,hk,aa⟩));simp [walk,pS a1 hu,pS nK hu,this]
   | @obj cs b e arr Fs _ a1 ak h1 aq aS av aN =>
    simp only [ab.kids] at hs;have hk:k<cs.length:=(List.getElem?_eq_some_iff.1 hs).1;have hu:arr[k]?=some arr[k]:=Array.getElem?_eq_getElem (ak ▸ hk);have nK:=(aW b ((aN b).2 (.inl rfl))).trans a1;have:=R.pZ (w':=w') p (aq k sE _ hs hu) gp λc aa=>aW c ((aN c).2 (.inr ⟨k,hk,aa⟩));simp [walk,child,World.cell?,a1,nK,hu,this]
   | @agg cs vs Fs _ ak h1 aq aS aN =>
    simp only [ab.kids] at hs;have hk:k<cs.length:=(List.getElem?_eq_some_iff.1 hs).1;have hu:vs[k]?=some vs[k]:=Array.getElem?_eq_getElem (ak ▸ hk);have:=R.pZ (w':=w') p (aq k sE _ hs hu) gp λc aa=>aW c ((aN c).2 ⟨k,hk,aa⟩);simp [walk,child,hu,this]
   | @bW cs vs Fs _ ak aq aS aN =>
    simp only [ab.kids] at hs;have hk:k<cs.length:=(List.getElem?_eq_some_iff.1 hs).1;have hu:vs[k]?=some vs[k]:=Array.getElem?_eq_getElem (ak ▸ hk);have:=R.pZ (w':=w') p (aq k sE _ hs hu) gp λc aa=>aW c ((aN c).2 ⟨k,hk,aa⟩);simp [walk,child,hu,this]
   | ref J _ _=>cases x <;> simp [ab.isRef,ab.kids] at J hs
   | _=>simp [ab.kids] at hs
theorem R.focus {w:World}{I:bb}{ρ:ab->Value->Prop}:∀ (q:List Nat) {x:ab}{v:Value}{F:bb}{y:ab},R w I ρ x v F->x.at q=some y ->
  ∃ h5 cy,walk w v q=some h5/\R w I ρ y h5 cy/\(∀ c,cy c->F c) /\
   (∀ (w':World),(∀ c,F c->¬ cy c->w'.heap[c]?=w.heap[c]?)->walk w' v q=some h5/\∀ r uS,x.at r=some uS->(∃ dm,r=q++dm)\/walk w' v r=walk w v r) /\
   ∀ (w':World) (I':bb) (ρ':ab->Value->Prop) (y':ab) (jn:bb),Out w w' I I' ρ ρ' F cy->R w' I' ρ' y' h5 jn->(∀ c,jn c->F c->cy c) ->
    ∃ c8,R w' I' ρ' (x.setAt q y') v c8/\∀ c,c8 c↔(F c/\¬ cy c)\/jn c
 | [],x,v,F,y,h,gp=>by
  simp only [ab.at,Option.some.injEq] at gp;subst gp;exact ⟨v,F,rfl,h,λ_ h=>h,λ_ _=>⟨rfl,λr _ _=>.inl ⟨r,rfl⟩⟩,λw' I' ρ' y' jn _ aY _=>⟨jn,aY,λc=>by simp⟩⟩
 | k::p,x,v,F,y,h,gp=>by
  simp only [ab.at] at gp;cases hs:x.kids[k]? with
  | none=>rw [hs] at gp; cases gp
  | some sE =>
   rw [hs] at gp;simp only at gp;have zB:∀ y',x.setAt (k::p) y'=x.wi k (sE.setAt p y'):=λy'=>by simp [ab.setAt,hs]
   cases h with
   | @own z n cs _ e us Fs _ a1 ak h1 aq aS av aN =>
    simp only [ab.kids] at hs;have hk:k<cs.length:=(List.getElem?_eq_some_iff.1 hs).1;have hu:us[k]?=some us[k]:=List.getElem?_eq_getElem (ak ▸ hk);obtain ⟨h5,cy,hw,dH,dw,eY,kh⟩:=R.focus p (aq k sE _ hs hu) gp;refine ⟨h5,cy,by simp [walk,pS a1 hu,hw],dH,λc aa=>(aN c).2 (.inr ⟨k,hk,dw c aa⟩),?_,?_⟩
    ·intro w' aB;have pC:∀ j c,j<cs.length->Fs j c->¬ cy c->w'.heap[c]?=w.heap[c]?:=λj c ah aa aF=>aB c ((aN c).2 (.inr ⟨j,ah,aa⟩)) aF;obtain ⟨ig,hy⟩:=eY w' λc aa aF=>pC k c hk aa aF;have nK:=vO (w':=w') a1 λc aa=>aB c ((aN c).2 (.inl aa)) λeO=>av k c hk (dw c eO) aa;refine ⟨by simp [walk,pS nK hu,ig],?_⟩;intro r uS ec;cases r with
     | nil=>exact .inr rfl
     | cons j r =>
      simp only [ab.at,ab.kids] at ec;cases ah:cs[j]? with
      | none=>rw [ah] at ec; cases ec
      | some wU =>
       rw [ah] at ec;simp only at ec;have eZ:j<cs.length:=(List.getElem?_eq_some_iff.1 ah).1;have rf:us[j]?=some us[j]:=List.getElem?_eq_getElem (ak ▸ eZ);by_cases gX:j=k
       ·subst gX;rw [hs] at ah;cases ah;rcases hy r uS ec with ⟨dm,rfl⟩ | h
        ·exact .inl ⟨dm,rfl⟩
        ·exact .inr (by simp [walk,pS a1 hu,pS nK hu,h])
       ·have h:=R.pZ (w':=w') r (aq j wU _ ah rf) ec λc aa=>pC j c eZ aa λeO=>gX (aS j k c eZ hk aa (dw c eO));exact .inr (by simp [walk,pS a1 rf,pS nK rf,h])
    intro w' I' ρ' y' jn o jM mZ;have jL:∀ j c,j<cs.length->Fs j c->F c:=λj c ah aa=>(aN c).2 (.inr ⟨j,ah,aa⟩);obtain ⟨bM,kR,fV⟩:=kh w' I' ρ' y' jn (o.mono (λc aa=>jL k c hk aa) λc _ h=>h) jM λc aa oR=>mZ c aa (jL k c hk oR);obtain ⟨ec,n_⟩:=E9 (get:=λj=>us[j]?) aq aS jL hk dw o hu kR λc=>by
     constructor
     ·intro h;rcases (fV c).1 h with h1 | h1
      ·exact .inl h1
      ·exact .inr ⟨h,λ⟨af,aI⟩=>aI (mZ c h1 af)⟩
     ·rintro (h1 | ⟨h1,_⟩)
      ·exact (fV c).2 (.inl h1)
      ·exact h1
    rw [zB];refine ⟨_,.own (Fs:=λj=>if j=k then bM else Fs j) (vO a1 λc aa=>o.rest c ((aN c).2 (.inl aa)) λeO=>av k c hk (dw c eO) aa) (by simpa using ak) h1 ec n_ ?_ (λc=>Iff.rfl),λc=>?_⟩
    ·intro j c ah aa vx;rw [List.length_set] at ah;by_cases gX:j=k
     ·rw [if_pos gX] at aa;rcases (fV c).1 aa with ⟨h1,_⟩ | h1
      ·exact av k c hk h1 vx
      ·exact av k c hk (dw c (mZ c h1 ((aN c).2 (.inl vx)))) vx
     ·rw [if_neg gX] at aa; exact av j c ah aa vx
    ·have hu:=E_ hk aS dw fV c;simp only [List.length_set];rw [hu,aN c];have e9:v.ownBlock=some c->¬ cy c:=λh1 af=>av k c hk (dw c af) h1;constructor
     ·rintro (h1 | ⟨h1,af⟩ | h1)
      ·exact .inl ⟨.inl h1,e9 h1⟩
      ·exact .inl ⟨.inr h1,af⟩
      ·exact .inr h1
     ·rintro (⟨h1 | h1,af⟩ | h1)
      ·exact .inl h1
      ·exact .inr (.inl ⟨h1,af⟩)
      ·exact .inr (.inr h1)
   | @obj cs b e arr Fs _ a1 ak h1 aq aS av aN =>
    simp only [ab.kids] at hs;have hk:k<cs.length:=(List.getElem?_eq_some_iff.1 hs).1;have hu:arr[k]?=some arr[k]:=Array.getElem?_eq_getElem (ak ▸ hk);obtain ⟨h5,cy,hw,dH,dw,eY,kh⟩:=R.focus p (aq k sE _ hs hu) gp;refine ⟨h5,cy,by simp [walk,child,World.cell?,a1,hu,hw],dH,λc aa=>(aN c).2 (.inr ⟨k,hk,dw c aa⟩),?_,?_⟩
    ·intro w' aB;have pC:∀ j c,j<cs.length->Fs j c->¬ cy c->w'.heap[c]?=w.heap[c]?:=λj c ah aa aF=>aB c ((aN c).2 (.inr ⟨j,ah,aa⟩)) aF;obtain ⟨ig,hy⟩:=eY w' λc aa aF=>pC k c hk aa aF;have nK:=(aB b ((aN b).2 (.inl rfl)) λeO=>av k hk (dw b eO)).trans a1;refine ⟨by simp [walk,child,World.cell?,nK,hu,ig],?_⟩;intro r uS ec;cases r with
     | nil=>exact .inr rfl
     | cons j r =>
      simp only [ab.at,ab.kids] at ec;cases ah:cs[j]? with
      | none=>rw [ah] at ec; cases ec
      | some wU =>
       rw [ah] at ec;simp only at ec;have eZ:j<cs.length:=(List.getElem?_eq_some_iff.1 ah).1;have rf:arr[j]?=some arr[j]:=Array.getElem?_eq_getElem (ak ▸ eZ);by_cases gX:j=k
       ·subst gX;rw [hs] at ah;cases ah;rcases hy r uS ec with ⟨dm,rfl⟩ | h
        ·exact .inl ⟨dm,rfl⟩
        ·exact .inr (by simp [walk,child,World.cell?,a1,nK,hu,h])
       ·have h:=R.pZ (w':=w') r (aq j wU _ ah rf) ec λc aa=>pC j c eZ aa λeO=>gX (aS j k c eZ hk aa (dw c eO));exact .inr (by simp [walk,child,World.cell?,a1,nK,rf,h])
    intro w' I' ρ' y' jn o jM mZ;have jL:∀ j c,j<cs.length->Fs j c->F c:=λj c ah aa=>(aN c).2 (.inr ⟨j,ah,aa⟩);obtain ⟨bM,kR,fV⟩:=kh w' I' ρ' y' jn (o.mono (λc aa=>jL k c hk aa) λc _ h=>h) jM λc aa oR=>mZ c aa (jL k c hk oR);obtain ⟨ec,n_⟩:=E9 (get:=λj=>arr[j]?) aq aS jL hk dw o hu kR λc=>by
     constructor
     ·intro h;rcases (fV c).1 h with h1 | h1
      ·exact .inl h1
      ·exact .inr ⟨h,λ⟨af,aI⟩=>aI (mZ c h1 af)⟩
     ·rintro (h1 | ⟨h1,_⟩)
      ·exact (fV c).2 (.inl h1)
      ·exact h1
    rw [zB];have my:F b:=(aN b).2 (.inl rfl);have Ii:¬ cy b:=λh=>av k hk (dw b h);refine ⟨_,.obj (Fs:=λj=>if j=k then bM else Fs j) ((o.rest b my Ii).trans a1) (by simpa using ak) h1 ec n_ ?_ (λc=>Iff.rfl),λc=>?_⟩
    ·intro j ah aa;rw [List.length_set] at ah;by_cases gX:j=k
     ·rw [if_pos gX] at aa;rcases (fV b).1 aa with ⟨h1,_⟩ | h1
      ·exact av k hk h1
      ·exact Ii (mZ b h1 my)
     ·rw [if_neg gX] at aa; exact av j ah aa
    ·have hu:=E_ hk aS dw fV c;simp only [List.length_set];rw [hu,aN c];constructor
     ·rintro (rfl | ⟨h1,af⟩ | h1)
      ·exact .inl ⟨.inl rfl,Ii⟩
      ·exact .inl ⟨.inr h1,af⟩
      ·exact .inr h1
     ·rintro (⟨h1 | h1,af⟩ | h1)
      ·exact .inl h1
      ·exact .inr (.inl ⟨h1,af⟩)
      ·exact .inr (.inr h1)
   | @agg cs vs Fs _ ak h1 aq aS aN =>
    simp only [ab.kids] at hs;have hk:k<cs.length:=(List.getElem?_eq_some_iff.1 hs).1;have hu:vs[k]?=some vs[k]:=Array.getElem?_eq_getElem (ak ▸ hk);obtain ⟨h5,cy,hw,dH,dw,eY,kh⟩:=R.focus p (aq k sE _ hs hu) gp;refine ⟨h5,cy,by simp [walk,child,hu,hw],dH,λc aa=>(aN c).2 ⟨k,hk,dw c aa⟩,?_,?_⟩
    ·intro w' aB;have pC:∀ j c,j<cs.length->Fs j c->¬ cy c->w'.heap[c]?=w.heap[c]?:=λj c ah aa aF=>aB c ((aN c).2 ⟨j,ah,aa⟩) aF;obtain ⟨ig,hy⟩:=eY w' λc aa aF=>pC k c hk aa aF
     
     refine ⟨by simp [walk,child,hu,ig],?_⟩;intro r uS ec;cases r with
     | nil=>exact .inr rfl
     | cons j r =>
      simp only [ab.at,ab.kids] at ec;cases ah:cs[j]? with
      | none=>rw [ah] at ec; cases ec
      | some wU =>
       rw [ah] at ec;simp only at ec;have eZ:j<cs.length:=(List.getElem?_eq_some_iff.1 ah).1;have rf:vs[j]?=some vs[j]:=Array.getElem?_eq_getElem (ak ▸ eZ);by_cases gX:j=k
       ·subst gX;rw [hs] at ah;cases ah;rcases hy r uS ec with ⟨dm,rfl⟩ | h
        ·exact .inl ⟨dm,rfl⟩
        ·exact .inr (by simp [walk,child,hu,h])
       ·have h:=R.pZ (w':=w') r (aq j wU _ ah rf) ec λc aa=>pC j c eZ aa λeO=>gX (aS j k c eZ hk aa (dw c eO));exact .inr (by simp [walk,child,rf,h])
    intro w' I' ρ' y' jn o jM mZ;have jL:∀ j c,j<cs.length->Fs j c->F c:=λj c ah aa=>(aN c).2 ⟨j,ah,aa⟩;obtain ⟨bM,kR,fV⟩:=kh w' I' ρ' y' jn (o.mono (λc aa=>jL k c hk aa) λc _ h=>h) jM λc aa oR=>mZ c aa (jL k c hk oR);obtain ⟨ec,n_⟩:=E9 (get:=λj=>vs[j]?) aq aS jL hk dw o hu kR λc=>by
     constructor
     ·intro h;rcases (fV c).1 h with h1 | h1
      ·exact .inl h1
      ·exact .inr ⟨h,λ⟨af,aI⟩=>aI (mZ c h1 af)⟩
     ·rintro (h1 | ⟨h1,_⟩)
      ·exact (fV c).2 (.inl h1)
      ·exact h1
    rw [zB];refine ⟨_,.agg (Fs:=λj=>if j=k then bM else Fs j) (by simpa using ak) h1 ec n_ (λc=>Iff.rfl),λc=>?_⟩;have hu:=E_ hk aS dw fV c;simp only [List.length_set];rw [hu,aN c]
   | @bW cs vs Fs _ ak aq aS aN =>
    simp only [ab.kids] at hs;have hk:k<cs.length:=(List.getElem?_eq_some_iff.1 hs).1;have hu:vs[k]?=some vs[k]:=Array.getElem?_eq_getElem (ak ▸ hk);obtain ⟨h5,cy,hw,dH,dw,eY,kh⟩:=R.focus p (aq k sE _ hs hu) gp;refine ⟨h5,cy,by simp [walk,child,hu,hw],dH,λc aa=>(aN c).2 ⟨k,hk,dw c aa⟩,?_,?_⟩
    ·intro w' aB;have pC:∀ j c,j<cs.length->Fs j c->¬ cy c->w'.heap[c]?=w.heap[c]?:=λj c ah aa aF=>aB c ((aN c).2 ⟨j,ah,aa⟩) aF;obtain ⟨ig,hy⟩:=eY w' λc aa aF=>pC k c hk aa aF
     
     refine ⟨by simp [walk,child,hu,ig],?_⟩;intro r uS ec;cases r with
     | nil=>exact .inr rfl
     | cons j r =>
      simp only [ab.at,ab.kids] at ec;cases ah:cs[j]? with
      | none=>rw [ah] at ec; cases ec
      | some wU =>
       rw [ah] at ec;simp only at ec;have eZ:j<cs.length:=(List.getElem?_eq_some_iff.1 ah).1;have rf:vs[j]?=some vs[j]:=Array.getElem?_eq_getElem (ak ▸ eZ);by_cases gX:j=k
       ·subst gX;rw [hs] at ah;cases ah;rcases hy r uS ec with ⟨dm,rfl⟩ | h
        ·exact .inl ⟨dm,rfl⟩
        ·exact .inr (by simp [walk,child,hu,h])
       ·have h:=R.pZ (w':=w') r (aq j wU _ ah rf) ec λc aa=>pC j c eZ aa λeO=>gX (aS j k c eZ hk aa (dw c eO));exact .inr (by simp [walk,child,rf,h])
    intro w' I' ρ' y' jn o jM mZ;have jL:∀ j c,j<cs.length->Fs j c->F c:=λj c ah aa=>(aN c).2 ⟨j,ah,aa⟩;obtain ⟨bM,kR,fV⟩:=kh w' I' ρ' y' jn (o.mono (λc aa=>jL k c hk aa) λc _ h=>h) jM λc aa oR=>mZ c aa (jL k c hk oR);obtain ⟨ec,n_⟩:=E9 (get:=λj=>vs[j]?) aq aS jL hk dw o hu kR λc=>by
     constructor
     ·intro h;rcases (fV c).1 h with h1 | h1
      ·exact .inl h1
      ·exact .inr ⟨h,λ⟨af,aI⟩=>aI (mZ c h1 af)⟩
     ·rintro (h1 | ⟨h1,_⟩)
      ·exact (fV c).2 (.inl h1)
      ·exact h1
    rw [zB];refine ⟨_,.bW (Fs:=λj=>if j=k then bM else Fs j) (by simpa using ak) ec n_ (λc=>Iff.rfl),λc=>?_⟩;have hu:=E_ hk aS dw fV c;simp only [List.length_set];rw [hu,aN c]
   | ref J _ _=>cases x <;> simp [ab.isRef,ab.kids] at J hs
   | _=>simp [ab.kids] at hs
end Go.Own
namespace Go.Own
open Go
abbrev aK:=Nat->Option ab
def bB (g:aK) (p:Place):Option ab :=
 match g p.root with
 | some x=>x.at p.path
 | none=>none
def dW (w:World) (T:Array Value) (p:Place):Option Value :=
 match T[p.root]? with
 | some v=>walk w v p.path
 | none=>none
def addrOf:Value->Option Addr
 | .slice (some a) _ _=>some a
 | .pointer (some a)=>some a
 | _=>none
def fz (w:World) (T:Array Value):ab->Value->Prop
 | .ptr p k,v=>∃ u a,dW w T p=some u/\addrOf u=some a/\v=.pointer (some ⟨a.block,a.off+k,none⟩)
 | .a6 _ p n,v=>∃ a N cap,dW w T p=some (.slice a N cap)/\v=.slice a n cap/\n<=N
 | .sub z p lo n,v=>∃ a N cap ca mT,dW w T p=some (.slice a N cap)/\v=.slice ca n mT/\n<=mT/\lo+n<=N/\(0<n->∃ ad,a=some ad/\ca=some ⟨ad.block,ad.off+lo * z,none⟩)
 | .bL _ p n _ _,v=>∃ a cap,dW w T p=some (.slice a n cap)/\v=.slice a n cap
 | .gx p,v=>∃ b,dW w T p=some (.map b)/\v=.map b
 | _,_=>False
def gC (g:aK):ab->Prop
 | .ptr p k=>∃ y,bB g p=some y/\(∃ z n cs,(y=.own z n cs\/y=.obj cs)/\k<cs.length)
 | .a6 z p n=>(∃ N cs,bB g p=some (.own z N cs)/\n<=N)\/(p.path=[]/\∃ q gH m new,g p.root=some (.bL z q gH m new)/\n=gH+m)
 | .sub z p lo n=>∃ N cs,bB g p=some (.own z N cs)/\lo+n<=N
 | .bL z p n _ _=>(∃ cs,bB g p=some (.own z n cs))\/(p.path=[]/\∃ q gH m new cs,g p.root=some (.bL z q gH m new)/\n=gH+m/\bB g q=some (.own z gH cs))
 | .gx p=>∃ q,bB g p=some (.mp q)
 | _=>False
def dT (w:World) (T:Array Value) (g:aK) (r:ab) (v:Value):Prop:=fz w T r v/\gC g r
structure GL (w:World) (I:bb) (ρ:ab->Value->Prop) (z:Nat) (p:Place) (n m:Nat) (new:List ab) (v:Value) (F:bb) (bv:Value) (e b9:TypeId) (us news:List Value):Prop where
 jT:ρ (.bL z p n 0 []) bv
 lk:w.ownsRow 0 e z bv n us
 nL:w.ownsRow 0 b9 z v (n+m) (us++news)
 ak:new.length=news.length
 h1:∀ (k:Nat) (u:Value),news[k]?=some u->u.oneCell'=true
 aq:∀ (k:Nat) (x:ab) (u:Value),new[k]?=some x->news[k]?=some u->R w I ρ x u (λ_=>False)
 aN:∀ c,F c↔v.ownBlock=some c/\bv.ownBlock≠some c
inductive jD (w:World) (I:bb) (ρ:ab->Value->Prop):ab->Value->bb->Prop
 | tree {x:ab}{v:Value}{F:bb}(h:R w I ρ x v F):jD w I ρ x v F
 | bL {z n m:Nat}{p:Place}{new:List ab}{v bv:Value}{e b9:TypeId}{us news:List Value}{F:bb}(h:GL w I ρ z p n m new v F bv e b9 us news):jD w I ρ (.bL z p n m new) v F
theorem R.lp {w:World}{I:bb}{ρ:ab->Value->Prop}{z n m:Nat}{p:Place}{new:List ab}{v:Value}{F:bb}(h:R w I ρ (.bL z p n m new) v F):False:=by
 cases h with
 | ref J=>simp [ab.isRef] at J
theorem jD.gG {w:World}{I:bb}{ρ:ab->Value->Prop}{x:ab}{v:Value}{F:bb}(h:jD w I ρ x v F) (J:∀ z p n m new,x≠.bL z p n m new):R w I ρ x v F:=by
 cases h with
 | tree h=>exact h
 | bL=>exact absurd rfl (J _ _ _ _ _)
theorem jD.vF {w:World}{I:bb}{ρ:ab->Value->Prop}{z n m:Nat}{p:Place}{new:List ab}{v:Value}{F:bb}(h:jD w I ρ (.bL z p n m new) v F):∃ bv e b9 us news,GL w I ρ z p n m new v F bv e b9 us news:=by
 cases h with
 | tree h=>exact h.lp.elim
 | bL h=>exact ⟨_,_,_,_,_,h⟩
theorem jD.lt {w:World}{I:bb}{ρ:ab->Value->Prop}{x:ab}{v:Value}{F:bb}(h:jD w I ρ x v F):∀ c,F c->c<w.heap.size:=by
 cases h with
 | tree h=>exact h.lt
 | bL h=>exact λc aa=>(h.nL.lt c ((h.aN c).1 aa).1).2
theorem jD.frame {w w':World}{I I':bb}{ρ ρ':ab->Value->Prop}{x:ab}{v:Value}{F:bb}(h:jD w I ρ x v F)
  (bc:∀ c,I c->w'.heap[c]?=w.heap[c]?) (px:∀ c,I c->I' c) (lP:∀ x v,ρ x v->ρ' x v)
  (cn:∀ z p n bv,ρ (.bL z p n 0 []) bv->∀ c,bv.ownBlock=some c->w'.heap[c]?=w.heap[c]?)
  (aW:∀ c,F c->w'.heap[c]?=w.heap[c]?):jD w' I' ρ' x v F:=by
 cases h with
 | tree h=>exact .tree (h.frame bc px lP aW)
 | @bL z n m p new v bv e b9 us news F h =>
  have av:=cn _ _ _ _ h.jT;refine .bL ⟨lP _ _ h.jT,vO h.lk av,vO h.nL λc aa=>?_,h.ak,h.h1,λk x u J hu=>(h.aq k x u J hu).frame bc px lP λc aa=>aa.elim,h.aN⟩;by_cases q_:bv.ownBlock=some c
  ·exact av c q_
  ·exact aW c ((h.aN c).2 ⟨aa,q_⟩)
theorem ab.sC {z n m:Nat}{p:Place}{new:List ab}{q:List Nat}{y:ab}(h:(ab.bL z p n m new).at q=some y):q=[]/\y=.bL z p n m new:=by
 cases q with
 | nil=>simp [ab.at] at h; exact ⟨rfl,h.symm⟩
 | cons k q=>simp [ab.at,ab.kids] at h
structure cH (w:World) (I:bb) (T:Array Value) (g:aK) (Fs:Nat->bb):Prop where
 rel:∀ t x,g t=some x->∃ v,T[t]?=some v/\jD w I (dT w T g) x v (Fs t)
 kY:∀ t,g t=none->∀ c,¬ Fs t c
 eI:∀ t t' c,Fs t c->Fs t' c->t=t'
 bk:∀ t c,Fs t c->¬ I c
 lt:∀ c,I c->c<w.heap.size
 rp:∀ t t' z p n m new bC cG m' c3,g t=some (.bL z p n m new)->g t'=some (.bL bC p cG m' c3)->t=t'
section
variable {w:World}{I:bb}{T:Array Value}{g:aK}{Fs:Nat->bb}
theorem cH.part (h:cH w I T g Fs) {p:Place}{y:ab}(au:bB g p=some y) (ax:∀ z q n m new,y≠.bL z q n m new):∃ v cy,dW w T p=some v/\R w I (dT w T g) y v cy/\(∀ c,cy c->Fs p.root c):=by
 unfold bB at au;cases J:g p.root with
 | none=>rw [J] at au; cases au
 | some x =>
  rw [J] at au;obtain ⟨v,hv,aY⟩:=h.rel _ _ J;replace aY:=aY.gG (by
   rintro z q n m new rfl;exact ax _ _ _ _ _ (ab.sC au).2)
  obtain ⟨h5,cy,hw,dH,dw,_⟩:=R.focus p.path aY au;exact ⟨h5,cy,by simp [dW,hv,hw],dH,dw⟩
theorem R.qC {ρ:ab->Value->Prop}{z n:Nat}{cs:List ab}{v:Value}{F:bb}(h:R w I ρ (.own z n cs) v F):∀ c,v.ownBlock=some c->F c:=by
 cases h with
 | own a1 ak h1 aq aS av aN=>exact λc aa=>(aN c).2 (.inl aa)
 | ref J=>simp [ab.isRef] at J
theorem R.np {ρ:ab->Value->Prop}{z n:Nat}{cs:List ab}{v:Value}{F:bb}(h:R w I ρ (.own z n cs) v F) :
  ∃ a cap,v=.slice a n cap/\n<=cap/\cs.length=n * z/\(∀ ad,a=some ad->ad.off=0/\ad.spot=none)/\(0<n->a.isSome=true):=by
 cases h with
 | own a1 ak h1 aq aS av aN =>
  obtain ⟨h1,af⟩:=a1;rcases af with ⟨rfl,rfl⟩ | ⟨b,cap,cur,rfl,_,_,aF,_⟩
  ·exact ⟨none,0,rfl,Nat.le_refl _,by simp [ak,h1],by simp,by simp⟩
  ·exact ⟨_,cap,rfl,aF,by simp [ak,h1],by rintro ad ⟨⟩; exact ⟨rfl,rfl⟩,by simp⟩
 | ref J=>simp [ab.isRef] at J
theorem cH.yv (h:cH w I T g Fs) {w':World}{T':Array Value}(dM:∀ t,g t≠none->T'[t]?=T[t]?) (aN:∀ t c,Fs t c->w'.heap[c]?=w.heap[c]?) {p:Place}{y:ab}(au:bB g p=some y) :
  dW w' T' p=dW w T p:=by
 unfold bB at au;cases J:g p.root with
 | none=>rw [J] at au; cases au
 | some x =>
  rw [J] at au;obtain ⟨v,hv,aY⟩:=h.rel _ _ J;have iu:T'[p.root]?=some v:=by rw [dM _ (by rw [J]; simp),hv]
  cases aY with
  | tree aY =>
   have:=R.pZ (w':=w') p.path aY au λc aa=>aN _ c aa;simp [dW,hv,iu,this]
  | bL aY=>simp [dW,hv,iu,(ab.sC au).1,walk]
theorem kL {g g':aK}(aO:∀ t x,g t=some x->g' t=some x) {p:Place}{y:ab}(au:bB g p=some y):bB g' p=some y:=by
 unfold bB at *;cases J:g p.root with
 | none=>rw [J] at au; cases au
 | some x=>rw [J] at au; rw [aO _ _ J]; exact au
theorem gC.mono {g g':aK}(aO:∀ t x,g t=some x->g' t=some x) {r:ab}(h:gC g r):gC g' r:=by
 cases r <;> simp only [gC] at h ⊢
 case ptr p k=>obtain ⟨y,ax,h⟩:=h; exact ⟨y,kL aO ax,h⟩
 case a6 z p n =>
  rcases h with ⟨N,cs,h1,af⟩ | ⟨aQ,q,gH,m,new,h1,af⟩
  ·exact .inl ⟨N,cs,kL aO h1,af⟩
  ·exact .inr ⟨aQ,q,gH,m,new,aO _ _ h1,af⟩
 case sub z p lo n=>obtain ⟨N,cs,h1,af⟩:=h; exact ⟨N,cs,kL aO h1,af⟩
 case bL z p n m new =>
  rcases h with ⟨cs,h1⟩ | ⟨aQ,q,gH,m',c3,cs,h1,af,aI⟩
  ·exact .inl ⟨cs,kL aO h1⟩
  ·exact .inr ⟨aQ,q,gH,m',c3,cs,aO _ _ h1,af,kL aO aI⟩
 case gx p=>obtain ⟨q,h⟩:=h; exact ⟨q,kL aO h⟩
theorem cH.FO (h:cH w I T g Fs) {w':World}{T':Array Value}{g':aK}(dM:∀ t,g t≠none->T'[t]?=T[t]?) (aN:∀ t c,Fs t c->w'.heap[c]?=w.heap[c]?)
  (aO:∀ t x,g t=some x->g' t=some x) {r:ab}{v:Value}(aq:dT w T g r v):dT w' T' g' r v:=by
 obtain ⟨h1,af⟩:=aq;refine ⟨?_,af.mono aO⟩;have slot:∀ {p:Place}{x:ab},p.path=[]->g p.root=some x->dW w' T' p=dW w T p:=by
  intro p x au J;obtain ⟨v,hv,_⟩:=h.rel _ _ J;simp [dW,au,walk,dM p.root (by rw [J]; simp)]
 cases r <;> simp only [fz,gC] at h1 af ⊢
 case ptr p k =>
  obtain ⟨y,ax,_⟩:=af;rw [h.yv dM aN ax]; exact h1
 case a6 z p n =>
  rcases af with ⟨N,cs,af,_⟩ | ⟨aQ,q,gH,m,new,af,_⟩
  ·rw [h.yv dM aN af]; exact h1
  ·rw [slot aQ af]; exact h1
 case sub z p lo n =>
  obtain ⟨N,cs,af,_⟩:=af;rw [h.yv dM aN af]; exact h1
 case bL z p n m new =>
  rcases af with ⟨cs,af⟩ | ⟨aQ,q,gH,m',c3,cs,af,_⟩
  ·rw [h.yv dM aN af]; exact h1
  ·rw [slot aQ af]; exact h1
 case gx p =>
  obtain ⟨q,af⟩:=af;rw [h.yv dM aN af]; exact h1
theorem cH.D7 (h:cH w I T g Fs) {z n:Nat}{p:Place}{bv:Value}(aq:dT w T g (.bL z p n 0 []) bv):∀ c,bv.ownBlock=some c->∃ t,Fs t c:=by
 obtain ⟨⟨a,cap,h1,rfl⟩,af⟩:=aq;intro c aa;have own:∀ {q:Place}{gH:Nat}{cs:List ab}{v:Value},bB g q=some (.own z gH cs)->dW w T q=some v->v.ownBlock=some c->∃ t,Fs t c:=by
  intro q gH cs v bg hv aa;obtain ⟨gv,cy,iu,aY,dw⟩:=h.part bg (by simp);rw [hv] at iu;cases iu;exact ⟨_,dw c (aY.qC c aa)⟩
 rcases af with ⟨cs,af⟩ | ⟨aQ,q,gH,m,new,cs,af,rfl,aI⟩
 ·exact own af h1 aa
 ·obtain ⟨v,hv,aY⟩:=h.rel _ _ af;have xo:v=.slice a (gH+m) cap:=by
   simp only [dW,hv,aQ,walk,Option.some.injEq] at h1;exact h1
  obtain ⟨L3,e,b9,us,news,aY⟩:=aY.vF;by_cases gW:L3.ownBlock=some c
  ·obtain ⟨⟨a2,rP,bF,rfl⟩,_⟩:=aY.jT;exact own aI bF gW
  ·exact ⟨_,(aY.aN c).2 ⟨by rw [xo]; exact aa,gW⟩⟩
theorem cH.frame (h:cH w I T g Fs) {w':World}{I':bb}{T':Array Value}{g':aK}(dM:∀ t,g t≠none->T'[t]?=T[t]?) (aN:∀ t c,Fs t c->w'.heap[c]?=w.heap[c]?)
  (bc:∀ c,I c->w'.heap[c]?=w.heap[c]?) (px:∀ c,I c->I' c) (aO:∀ t x,g t=some x->g' t=some x) {x:ab}{v:Value}{F:bb}(aY:R w I (dT w T g) x v F)
  (mu:∀ c,F c->w'.heap[c]?=w.heap[c]?):R w' I' (dT w' T' g') x v F :=
 aY.frame bc px (λ_ _ aq=>h.FO dM aN aO aq) mu
theorem cH.w2 (h:cH w I T g Fs) {w':World}{I':bb}{T':Array Value}{g':aK}(dM:∀ t,g t≠none->T'[t]?=T[t]?) (aN:∀ t c,Fs t c->w'.heap[c]?=w.heap[c]?)
  (bc:∀ c,I c->w'.heap[c]?=w.heap[c]?) (px:∀ c,I c->I' c) (aO:∀ t x,g t=some x->g' t=some x) {x:ab}{v:Value}{F:bb}(aY:jD w I (dT w T g) x v F)
  (mu:∀ c,F c->w'.heap[c]?=w.heap[c]?):jD w' I' (dT w' T' g') x v F :=
 aY.frame bc px (λ_ _ aq=>h.FO dM aN aO aq) (λ_ _ _ _ aq c aa=>by obtain ⟨t,aw⟩:=h.D7 aq c aa; exact aN t c aw) mu
def cV (g:aK) (d:Nat) (x:ab):aK:=λt=>if t=d then some x else g t
def uP (Fs:Nat->bb) (d:Nat) (F:bb):Nat->bb:=λt=>if t=d then F else Fs t
theorem Qx {d:Nat}{x:ab}(aS:g d=none):∀ t y,g t=some y->cV g d x t=some y:=by
 intro t y ax;unfold cV;split
 ·rename_i h; subst h; rw [aS] at ax; cases ax
 ·exact ax
end
end Go.Own
namespace Go.Own
open Go
theorem QB (w:World):∀ (p:List Nat) (v:Value) (k:Nat),walk w v (p++[k])=(walk w v p).bind λu=>child w u k
 | [],v,k=>by simp [walk]; cases child w v k <;> rfl
 | j::p,v,k=>by
  simp only [List.cons_append,walk];cases child w v j with
  | none=>rfl
  | some u=>exact QB w p u k
theorem LZ:∀ (p:List Nat) (x:ab) (k:Nat),x.at (p++[k])=(x.at p).bind λy=>y.kids[k]?
 | [],x,k=>by simp [ab.at]; cases x.kids[k]? <;> rfl
 | j::p,x,k=>by
  simp only [List.cons_append,ab.at];cases x.kids[j]? with
  | none=>rfl
  | some u=>exact LZ p u k
theorem tC (g:aK) (p:Place) (k:Nat):bB g (p.push k)=(bB g p).bind λy=>y.kids[k]?:=by
 unfold bB Place.push;cases g p.root with
 | none=>rfl
 | some x=>simp [LZ]
theorem yu (w:World) (T:Array Value) (p:Place) (k:Nat):dW w T (p.push k)=(dW w T p).bind λu=>child w u k:=by
 unfold dW Place.push;cases T[p.root]? with
 | none=>rfl
 | some x=>simp [QB]
def gr:Nat->Place->ab->ab
 | _,p,.own z n _=>.a6 z p n
 | _,p,.obj (_::_)=>.ptr p 0
 | _,_,.obj []=>.dead
 | _,_,.bL ..=>.dead
 | _,p,.mp _=>.gx p
 | d+1,p,.agg cs=>.agg (cs.mapIdx λi x=>gr d (p.push i) x)
 | d+1,p,.bW cs=>.bW (cs.mapIdx λi x=>gr d (p.push i) x)
 | 0,_,.agg _=>.dead
 | 0,_,.bW _=>.dead
 | _,_,x=>x
def rr (t:Nat):ab->ab
 | .bL z _ n m _=>.a6 z ⟨t,[]⟩ (n+m)
 | x=>gr 2 ⟨t,[]⟩ x
def lR:Value->ab
 | .slice none 0 0=>.aL
 | .agg _=>.dead
 | .tuple _=>.dead
 | v=>.lit v
def ofConst:Value->ab
 | .agg vs=>if vs.all Value.oneCell' then .agg (vs.toList.map lR) else .dead
 | .tuple _=>.dead
 | v=>lR v
def bs (g:aK):Operand->Option ab
 | .tmp t=>(g t).map (rr t)
 | .const v=>some (ofConst v)
 | .func f=>some (.cX (.func f) [] [])
 | .global _=>none
abbrev cx:bb:=λ_=>False
section
variable {w:World}{I:bb}{T:Array Value}{g:aK}{Fs:Nat->bb}
theorem R.empty {ρ:ab->Value->Prop}{x:ab}{v:Value}{F:bb}(h:R w I ρ x v F) (aN:∀ c,¬ F c):R w I ρ x v cx:=h.zc λc=>⟨λaa=>aN c aa,λaa=>aa.elim⟩
theorem FN:∀ (d:Nat) {p:Place}{x:ab}{v:Value}{F:bb},bB g p=some x->dW w T p=some v->R w I (dT w T g) x v F->R w I (dT w T g) (gr d p x) v cx:=by
 intro d
 induction d with
 | zero =>
  intro p x v F au hv aY;cases aY with
  | lit ak aN=>exact .lit ak λ_ h=>h
  | aL aN=>exact .aL λ_ h=>h
  | dead aN=>exact .dead λ_ h=>h
  | ref J aq aN=>cases x <;> simp [ab.isRef] at J <;> exact .ref rfl aq λ_ h=>h
  | mp=>exact .ref rfl ⟨⟨_,hv,rfl⟩,⟨_,au⟩⟩ λ_ h=>h
  | imp aN bc a1 bg=>exact .imp (λ_ h=>h) bc a1 bg
  | hM aN=>exact .hM λ_ h=>h
  | bk aN lg bc aB ak h1 aa aq=>exact .bk (λ_ h=>h) lg bc aB ak h1 aa aq
  | cI aN bc aB h1 aa aq=>exact .cI (λ_ h=>h) bc aB h1 aa aq
  | own a1 ak h1 aq aS av aN =>
   have IU:=R.own (I:=I) (ρ:=dT w T g) a1 ak h1 aq aS av aN;obtain ⟨a,cap,rfl,aF,_⟩:=IU.np;exact .ref rfl ⟨⟨a,_,cap,hv,rfl,Nat.le_refl _⟩,.inl ⟨_,_,au,Nat.le_refl _⟩⟩ λ_ h=>h
  | @obj cs b e arr b7 _ a1 ak h1 aq aS av aN =>
   cases cs with
   | nil=>exact .dead λ_ h=>h
   | cons c cs=>exact .ref rfl ⟨⟨_,_,hv,rfl,rfl⟩,⟨_,au,0,0,_,.inr rfl,by simp⟩⟩ λ_ h=>h
  | agg=>exact .dead λ_ h=>h
  | bW=>exact .dead λ_ h=>h
  | cX aN h1 af ky iP=>exact .cX (λ_ h=>h) h1 af ky iP
 | succ d aU =>
  intro p x v F au hv aY;cases aY with
  | lit ak aN=>exact .lit ak λ_ h=>h
  | aL aN=>exact .aL λ_ h=>h
  | dead aN=>exact .dead λ_ h=>h
  | ref J aq aN=>cases x <;> simp [ab.isRef] at J <;> exact .ref rfl aq λ_ h=>h
  | mp=>exact .ref rfl ⟨⟨_,hv,rfl⟩,⟨_,au⟩⟩ λ_ h=>h
  | imp aN bc a1 bg=>exact .imp (λ_ h=>h) bc a1 bg
  | hM aN=>exact .hM λ_ h=>h
  | bk aN lg bc aB ak h1 aa aq=>exact .bk (λ_ h=>h) lg bc aB ak h1 aa aq
  | cI aN bc aB h1 aa aq=>exact .cI (λ_ h=>h) bc aB h1 aa aq
  | own a1 ak h1 aq aS av aN =>
   have IU:=R.own (I:=I) (ρ:=dT w T g) a1 ak h1 aq aS av aN;obtain ⟨a,cap,rfl,aF,_⟩:=IU.np;exact .ref rfl ⟨⟨a,_,cap,hv,rfl,Nat.le_refl _⟩,.inl ⟨_,_,au,Nat.le_refl _⟩⟩ λ_ h=>h
  | @obj cs b e arr b7 _ a1 ak h1 aq aS av aN =>
   cases cs with
   | nil=>exact .dead λ_ h=>h
   | cons c cs=>exact .ref rfl ⟨⟨_,_,hv,rfl,rfl⟩,⟨_,au,0,0,_,.inr rfl,by simp⟩⟩ λ_ h=>h
  | @agg cs vs b7 _ ak h1 aq aS aN =>
   refine .agg (Fs:=λ_=>cx) (by simpa using ak) h1 ?_ (λ_ _ _ _ _ h=>h.elim) (λc=>⟨λh=>h.elim,λ⟨_,_,h⟩=>h⟩);intro k y u ax hu;rw [List.getElem?_mapIdx] at ax;cases hk:cs[k]? with
   | none=>rw [hk] at ax; cases ax
   | some z =>
    rw [hk] at ax;cases ax;exact aU (by rw [tC,au]; exact hk) (by rw [yu,hv]; exact hu) (aq k z u hk hu)
  | @bW cs vs b7 _ ak aq aS aN =>
   refine .bW (Fs:=λ_=>cx) (by simpa using ak) ?_ (λ_ _ _ _ _ h=>h.elim) (λc=>⟨λh=>h.elim,λ⟨_,_,h⟩=>h⟩);intro k y u ax hu;rw [List.getElem?_mapIdx] at ax;cases hk:cs[k]? with
   | none=>rw [hk] at ax; cases ax
   | some z =>
    rw [hk] at ax;cases ax;exact aU (by rw [tC,au]; exact hk) (by rw [yu,hv]; exact hu) (aq k z u hk hu)
  | cX aN h1 af ky iP=>exact .cX (λ_ h=>h) h1 af ky iP
theorem CE {ρ:ab->Value->Prop}(v:Value):R w I ρ (lR v) v cx:=by
 unfold lR;split
 ·exact .aL λ_ h=>h
 ·exact .dead λ_ h=>h
 ·exact .dead λ_ h=>h
 ·rename_i h1 af aI;refine .lit ?_ λ_ h=>h;cases v <;> first | rfl | (exact absurd rfl (af _)) | (exact absurd rfl (aI _))
theorem Xu {ρ:ab->Value->Prop}(v:Value):R w I ρ (ofConst v) v cx:=by
 unfold ofConst;split
 ·rename_i vs;split
  ·rename_i hS;refine .agg (Fs:=λ_=>cx) (by simp) (λk u hu=>?_) ?_ (λ_ _ _ _ _ h=>h.elim) (λc=>⟨λh=>h.elim,λ⟨_,_,h⟩=>h⟩)
   ·exact Array.all_eq_true_iff_forall_mem.1 hS u (Array.mem_of_getElem? hu)
   ·intro k x u J hu;simp only [List.getElem?_map,Array.getElem?_toList,hu,Option.map_some,Option.some.injEq] at J;subst J;exact CE u
  ·exact .dead λ_ h=>h
 ·exact .dead λ_ h=>h
 ·exact CE v
theorem kg (h:cH w I T g Fs) {x:Operand}{y:ab}(ax:bs g x=some y) {a:Act}(aP:a.tmps=T):R w I (dT w T g) y (a.eval x) cx:=by
 cases x with
 | tmp t =>
  simp only [bs] at ax;cases J:g t with
  | none=>rw [J] at ax; cases ax
  | some z =>
   rw [J] at ax;simp only [Option.map_some,Option.some.injEq] at ax;obtain ⟨v,hv,aY⟩:=h.rel t z J;have t_:a.eval (.tmp t)=v:=by simp [Act.eval,aP,hv]
   rw [t_];have au:bB g ⟨t,[]⟩=some z:=by simp [bB,J,ab.at]
   have zD:dW w T ⟨t,[]⟩=some v:=by simp [dW,hv,walk]
   subst ax;cases aY with
   | tree aY =>
    cases z with
    | bL=>exact aY.lp.elim
    | _=>exact FN 2 au zD aY
   | @bL j4 n m p new v bv e b9 us news _ aY =>
    simp only [rr];have:∃ a cap,v=.slice a (n+m) cap:=by
     obtain ⟨_,af⟩:=aY.nL;rcases af with ⟨af,aI⟩ | ⟨b,cap,cur,af,_⟩
     ·exact ⟨none,0,by rw [af]; congr 1; omega⟩
     ·exact ⟨_,cap,af⟩
    obtain ⟨ca,cap,rfl⟩:=this;exact .ref rfl ⟨⟨ca,_,cap,zD,rfl,Nat.le_refl _⟩,.inr ⟨rfl,p,n,m,new,J,rfl⟩⟩ λ_ h=>h
 | const v=>simp only [bs,Option.some.injEq] at ax; subst ax; exact Xu v
 | global n=>simp [bs] at ax
 | func f =>
  simp only [bs,Option.some.injEq] at ax;subst ax;exact .cX (λ_ h=>h) rfl rfl (by simp) (by simp)
end
end Go.Own
namespace Go.Own
open Go
def jt (P:Program) (t:TypeId):Bool :=
 match P.underlying t,P.info? t with
 | some (.struct _),_=>false
 | some (.array ..),_=>false
 | some _,some i=>i.size == 1
 | _,_=>false
def iB (P:Program) (t:TypeId) (k:Nat):Bool :=
 match P.underlying t,P.info? t with
 | some (.struct _),some i=>i.size == k
 | some (.array ..),some i=>i.size == k
 | _,_=>false
def fo (P:Program) (t e:TypeId) (z:Nat):Bool :=
 match P.underlying t,P.info? e with
 | some (.slice cj),some i=>cj == e&&i.size == z
 | _,_=>false
def y5 (P:Program) (t e:TypeId) (n z:Nat):Bool :=
 match P.underlying t,P.info? e with
 | some (.array cG cj),some i=>cG == n&&cj == e&&i.size == z
 | _,_=>false
def o3 (P:Program) (t:TypeId):Bool :=
 match P.underlying t with
 | some .string=>true
 | _=>false
def wP (P:Program) (s d:TypeId):Bool :=
 match P.underlying s,P.underlying d with
 | some (.slice e),some .string=>match P.underlying e with
  | some (.int .u8)=>true
  | _=>false
 | _,_=>false
def hR (P:Program) (s:TypeId) (f off:Nat) (t:TypeId):Bool :=
 match P.underlying s with
 | some (.struct fs) =>
  match fs[f]? with
  | some fd=>fd.offset == off&&fd.type == t&&(match P.info? t with | some i=>i.size != 0 | none=>false)
  | none=>false
 | _=>false
section
variable {P:Program}{w:World}
theorem Hm {t:TypeId}(h:jt P t=true):(isAgg t).run P w=.ok false w/\(sizeOf t).run P w=.ok 1 w:=by
 unfold jt at h;cases hu:P.underlying t with
 | none=>simp [hu] at h
 | some d =>
  cases hi:P.info? t with
  | none=>cases d <;> simp [hu,hi] at h
  | some i=>cases d <;> simp [hu,hi] at h <;> simp [isAgg,run_underlying hu,sizeOf,typeInfo,hi,h]
theorem D2 {t:TypeId}{k:Nat}(h:iB P t k=true):(isAgg t).run P w=.ok true w/\(sizeOf t).run P w=.ok k w:=by
 unfold iB at h;cases hu:P.underlying t with
 | none=>simp [hu] at h
 | some d =>
  cases hi:P.info? t with
  | none=>cases d <;> simp [hu,hi] at h
  | some i=>cases d <;> simp [hu,hi] at h <;> simp [isAgg,run_underlying hu,sizeOf,typeInfo,hi,h]
theorem qK {t e:TypeId}{z:Nat}(h:fo P t e z=true):P.underlying t=some (.slice e)/\P.elem t=e/\(sizeOf e).run P w=.ok z w:=by
 unfold fo at h;cases hu:P.underlying t with
 | none=>simp [hu] at h
 | some d =>
  cases hi:P.info? e with
  | none=>cases d <;> simp [hu,hi] at h
  | some i =>
   cases d <;> simp [hu,hi] at h;obtain ⟨rfl,h⟩:=h;exact ⟨rfl,by simp [Program.elem,hu],by simp [sizeOf,typeInfo,hi,h]⟩
theorem LS {t e:TypeId}{n z:Nat}(h:y5 P t e n z=true):P.underlying t=some (.array n e)/\(sizeOf e).run P w=.ok z w:=by
 unfold y5 at h;cases hu:P.underlying t with
 | none=>simp [hu] at h
 | some d =>
  cases hi:P.info? e with
  | none=>cases d <;> simp [hu,hi] at h
  | some i =>
   cases d <;> simp [hu,hi] at h;obtain ⟨⟨rfl,rfl⟩,h⟩:=h;exact ⟨rfl,by simp [sizeOf,typeInfo,hi,h]⟩
theorem L5 {s d:TypeId}(h:wP P s d=true):∃ e,P.underlying s=some (.slice e)/\P.underlying e=some (.int .u8)/\P.underlying d=some .string:=by
 unfold wP at h
 split at h
 ·rename_i e h1 af
  split at h
  ·rename_i aI;exact ⟨e,h1,aI,af⟩
  ·cases h
 ·cases h
theorem KN {t:TypeId}(h:o3 P t=true):P.underlying t=some .string:=by
 unfold o3 at h;cases hu:P.underlying t with
 | none=>simp [hu] at h
 | some d=>cases d <;> simp [hu] at h; rfl
theorem HE {s:TypeId}{f off:Nat}{t:TypeId}(h:hR P s f off t=true):∃ fs fd,P.underlying s=some (.struct fs)/\fs[f]?=some fd/\fd.offset=off/\fd.type=t/\∃ i,P.info? t=some i/\i.size≠0:=by
 unfold hR at h;cases hu:P.underlying s with
 | none=>simp [hu] at h
 | some d =>
  cases d <;> simp [hu] at h;rename_i fs;cases aW:fs[f]? with
  | none=>simp [aW] at h
  | some fd =>
   simp [aW] at h;obtain ⟨⟨h1,af⟩,aI⟩:=h;cases hi:P.info? t with
   | none=>simp [hi] at aI
   | some i=>simp [hi] at aI; exact ⟨fs,fd,rfl,aW,h1,af,i,rfl,aI⟩
theorem add_eq (b o k:Nat):(⟨b,o,none⟩:Addr).add k=⟨b,o+k,none⟩:=by
 unfold Addr.add;split
 ·rename_i h; subst h; rfl
 ·rfl
theorem PO {s:TypeId}{f off:Nat}{t:TypeId}(h:hR P s f off t=true) (b o:Nat):(Instr.fieldAt s (.pointer (some ⟨b,o,none⟩)) f).run P w=.ok (.pointer (some ⟨b,o+off,none⟩)) w:=by
 obtain ⟨fs,fd,hu,aW,rfl,rfl,i,hi,aQ⟩:=HE h;simp [Instr.fieldAt,run_underlying hu,aW,Instr.sureAddr,fieldPlace,sizeOf,typeInfo,hi,aQ,add_eq]
theorem PR {t:TypeId}(h:jt P t=true) {a:Addr}{v:Value}(aa:w.cell? a=some v):(Instr.loadAt t (.pointer (some a))).run P w=.ok v w:=by
 obtain ⟨h1,af⟩:=Hm (w:=w) h;simp [Instr.loadAt,Instr.sureAddr,loadVar,h1,aa]
theorem PQ {t:TypeId}{k:Nat}(h:iB P t k=true) {b o:Nat}{vs:List Value}(ak:vs.length=k) (aa:∀ j v,vs[j]?=some v->w.cell? ⟨b,o+j,none⟩=some v) :
  (Instr.loadAt t (.pointer (some ⟨b,o,none⟩))).run P w=.ok (.agg vs.toArray) w:=by
 obtain ⟨h1,af⟩:=D2 (w:=w) h;have:=run_loadCells_list (P:=P) w ⟨b,o,none⟩ vs (λj v ah=>by rw [add_eq]; exact aa j v ah);rw [ak] at this;simp [Instr.loadAt,Instr.sureAddr,loadVar,h1,af,this]
end
end Go.Own
namespace Go.Own
open Go
section
variable {w:World}{I:bb}{ρ:ab->Value->Prop}{v:Value}{F:bb}
theorem R.hC {a:Value}(h:R w I ρ (.lit a) v F):v=a/\a.oneCell'=true:=by
 cases h with
 | lit hv=>exact ⟨rfl,hv⟩
 | ref J=>simp [ab.isRef] at J
theorem R.sh (h:R w I ρ .aL v F):v=.slice none 0 0:=by
 cases h with
 | aL=>rfl
 | ref J=>simp [ab.isRef] at J
theorem R.nR {p:Place}{k:Nat}(h:R w I ρ (.ptr p k) v F):ρ (.ptr p k) v:=by
 cases h with
 | ref J h=>exact h
theorem R.nh {z:Nat}{p:Place}{n:Nat}(h:R w I ρ (.a6 z p n) v F):ρ (.a6 z p n) v:=by
 cases h with
 | ref J h=>exact h
theorem R.xA {z:Nat}{p:Place}{lo n:Nat}(h:R w I ρ (.sub z p lo n) v F):ρ (.sub z p lo n) v:=by
 cases h with
 | ref J h=>exact h
theorem R.zJ {z n:Nat}{cs:List ab}(h:R w I ρ (.bk z n cs) v F):∃ a cap,v=.slice a n cap/\n<=cap/\cs.length=n * z /\
  (cs≠[]\/0<n->∃ (ad:Addr) (us:Nat->Value),a=some ad/\I ad.block/\ad.spot=none/\(∀ (k:Nat) (x:ab),cs[k]?=some x->(us k).oneCell'=true)/\(∀ (k:Nat) (x:ab),cs[k]?=some x->w.cell? ⟨ad.block,ad.off+k,none⟩=some (us k))/\∀ (k:Nat) (x:ab),cs[k]?=some x->R w I ρ x (us k) cx):=by
 cases h with
 | @hM _ cap a=>exact ⟨a,cap,rfl,Nat.zero_le _,by simp,λh=>by simp at h⟩
 | @bk _ _ cap _ ad us _ aN lg bc aB ak h1 aa aq=>exact ⟨_,cap,rfl,lg,ak,λ_=>⟨ad,us,rfl,bc,aB,h1,aa,aq⟩⟩
 | ref J=>simp [ab.isRef] at J
theorem R.xz {cs:List ab}(h:R w I ρ (.cI cs) v F):∃ (ad:Addr) (us:Nat->Value),v=.pointer (some ad)/\I ad.block/\ad.spot=none/\(∀ (k:Nat) (x:ab),cs[k]?=some x->(us k).oneCell'=true)/\(∀ (k:Nat) (x:ab),cs[k]?=some x->w.cell? ⟨ad.block,ad.off+k,none⟩=some (us k))/\∀ (k:Nat) (x:ab),cs[k]?=some x->R w I ρ x (us k) cx:=by
 cases h with
 | @cI _ ad us _ aN bc aB h1 aa aq=>exact ⟨ad,us,rfl,bc,aB,h1,aa,aq⟩
 | ref J=>simp [ab.isRef] at J
theorem R.Cg {cs:List ab}(h:R w I ρ (.agg cs) v F) (aN:∀ c,¬ F c):∃ vs:Array Value,v=.agg vs/\cs.length=vs.size/\(∀ (k:Nat) (u:Value),vs[k]?=some u->u.oneCell'=true)/\∀ (k:Nat) (x:ab) (u:Value),cs[k]?=some x->vs[k]?=some u->R w I ρ x u cx:=by
 cases h with
 | @agg _ vs Fs _ ak h1 aq aS pr=>exact ⟨vs,rfl,ak,h1,λk x u J hu=>(aq k x u J hu).empty λc aa=>aN c ((pr c).2 ⟨k,(List.getElem?_eq_some_iff.1 J).1,aa⟩)⟩
 | ref J=>simp [ab.isRef] at J
theorem R.W8 {cs:List ab}(h:R w I ρ (.bW cs) v F) (aN:∀ c,¬ F c):∃ vs:Array Value,v=.tuple vs/\cs.length=vs.size/\∀ (k:Nat) (x:ab) (u:Value),cs[k]?=some x->vs[k]?=some u->R w I ρ x u cx:=by
 cases h with
 | @bW _ vs Fs _ ak aq aS pr=>exact ⟨vs,rfl,ak,λk x u J hu=>(aq k x u J hu).empty λc aa=>aN c ((pr c).2 ⟨k,(List.getElem?_eq_some_iff.1 J).1,aa⟩)⟩
 | ref J=>simp [ab.isRef] at J
theorem R.node {y:ab}{z n:Nat}{cs:List ab}(h:R w I ρ y v F) (ax:y=.own z n cs\/y=.obj cs) {k:Nat}{x:ab}(hk:cs[k]?=some x) :
  ∃ b u,addrOf v=some ⟨b,0,none⟩/\w.cell? ⟨b,k,none⟩=some u/\child w v k=some u/\u.oneCell'=true/\∃ bM,R w I ρ x u bM:=by
 rcases ax with rfl | rfl
 ·cases h with
  | @own _ _ _ _ e us Fs _ a1 ak h1 aq aS av aN =>
   have aT:k<cs.length:=(List.getElem?_eq_some_iff.1 hk).1;have hu:us[k]?=some us[k]:=List.getElem?_eq_getElem (ak ▸ aT);have n9:=pS a1 hu;obtain ⟨l8,af⟩:=a1;rcases af with ⟨rfl,rfl⟩ | ⟨b,cap,cur,rfl,aO,bY,rest⟩
   ·grind
   ·exact ⟨b,_,rfl,by simpa [child] using n9,n9,h1 k _ hu,Fs k,aq k x _ hk hu⟩
  | ref J=>simp [ab.isRef] at J
 ·cases h with
  | @obj _ b e arr Fs _ a1 ak h1 aq aS av aN =>
   have aT:k<cs.length:=(List.getElem?_eq_some_iff.1 hk).1;have hu:arr[k]?=some arr[k]:=Array.getElem?_eq_getElem (ak ▸ aT);exact ⟨b,_,rfl,by simp [World.cell?,a1,hu],by simp [child,World.cell?,a1,hu],h1 k _ hu,Fs k,aq k x _ hk hu⟩
  | ref J=>simp [ab.isRef] at J
end
def p3 (g:aK) (d:Nat):Option Operand->Nat->Prop
 | none,j=>j=d
 | some o,j=>∃ k,bs g o=some (.lit (.int k (j:Int)))
inductive c6 (P:Program) (g:aK):Op->TypeId->ab->Prop
 | move {x:Operand}{ty:TypeId}{y:ab}(J:bs g x=some y):c6 P g (.move x) ty y
 | assign {x:Operand}{ty:TypeId}{y:ab}(J:bs g x=some y):c6 P g (.assign x) ty y
 | pick {c a b:Operand}{ty:TypeId}{t:Bool}{r:ab}(aa:bs g c=some (.lit (.bool t))) (aq:bs g (if t then a else b)=some r):c6 P g (.pick c a b) ty r
 | Fm {x:Operand}{ty:TypeId}{p:Place}{k:Nat}(J:bs g x=some (.ptr p k)):c6 P g (.nilCheck x) ty (.ptr p k)
 | qB {x:Operand}{ty:TypeId}{cs:List ab}(J:bs g x=some (.cI cs)):c6 P g (.nilCheck x) ty (.cI cs)
 | Bn {x:Operand}{ty s t:TypeId}{f off:Nat}{p:Place}{k:Nat}(J:bs g x=some (.ptr p k)) (aW:hR P s f off t=true) (db:gC g (.ptr p (k+off))):c6 P g (.fieldAddr s x f) ty (.ptr p (k+off))
 | Em {x:Operand}{ty s t:TypeId}{f off:Nat}{cs:List ab}(J:bs g x=some (.cI cs)) (aW:hR P s f off t=true):c6 P g (.fieldAddr s x f) ty (.cI (cs.drop off))
 | El {x:Operand}{ty s t:TypeId}{f off:Nat}{cs:List ab}{y:ab}(J:bs g x=some (.agg cs)) (aW:hR P s f off t=true) (aw:jt P t=true) (ax:cs[off]?=some y):c6 P g (.field s x f) ty y
 | HC {x:Operand}{ty s t:TypeId}{f off k:Nat}{cs:List ab}(J:bs g x=some (.agg cs)) (aW:hR P s f off t=true) (aw:iB P t k=true) (hk:off+k<=cs.length):c6 P g (.field s x f) ty (.agg ((cs.drop off).take k))
 | E1 {x i:Operand}{ty t e:TypeId}{z n:Nat}{cs:List ab}{nT:IntKind}{j:Nat}(J:bs g x=some (.bk z n cs)) (hi:bs g i=some (.lit (.int nT (j:Int)))) (aw:fo P t e z=true) (ah:j<n):c6 P g (.indexAddr t x i) ty (.cI (cs.drop (j * z)))
 | E0 {x i:Operand}{ty t e:TypeId}{z n:Nat}{p:Place}{nT:IntKind}{j:Nat}(J:bs g x=some (.a6 z p n)) (hi:bs g i=some (.lit (.int nT (j:Int)))) (aw:fo P t e z=true) (ah:j<n) (db:gC g (.ptr p (j * z))):c6 P g (.indexAddr t x i) ty (.ptr p (j * z))
 | Js {x i:Operand}{ty t e:TypeId}{z lo n:Nat}{p:Place}{nT:IntKind}{j:Nat}(J:bs g x=some (.sub z p lo n)) (hi:bs g i=some (.lit (.int nT (j:Int)))) (aw:fo P t e z=true) (ah:j<n) (db:gC g (.ptr p ((lo+j) * z))):c6 P g (.indexAddr t x i) ty (.ptr p ((lo+j) * z))
 | EZ {x i:Operand}{ty t e:TypeId}{n z k:Nat}{p:Place}{nT:IntKind}{j:Nat}(J:bs g x=some (.ptr p k)) (hi:bs g i=some (.lit (.int nT (j:Int)))) (aw:y5 P t e n z=true) (ah:j<n) (db:gC g (.ptr p (k+j * z))):c6 P g (.indexAddr t x i) ty (.ptr p (k+j * z))
 | Jr {x i:Operand}{ty t e:TypeId}{n z:Nat}{cs:List ab}{nT:IntKind}{j:Nat}(J:bs g x=some (.cI cs)) (hi:bs g i=some (.lit (.int nT (j:Int)))) (aw:y5 P t e n z=true) (ah:j<n):c6 P g (.indexAddr t x i) ty (.cI (cs.drop (j * z)))
 | Fe {x:Operand}{ty t:TypeId}{c:ab}{cs:List ab}(J:bs g x=some (.cI (c::cs))) (aw:jt P t=true):c6 P g (.load t x) ty c
 | Ff {x:Operand}{ty t:TypeId}{k:Nat}{cs:List ab}(J:bs g x=some (.cI cs)) (aw:iB P t k=true) (hk:k<=cs.length):c6 P g (.load t x) ty (.agg (cs.take k))
 | Cu {x:Operand}{ty t:TypeId}{p:Place}{k:Nat}{y:ab}(J:bs g x=some (.ptr p k)) (aw:jt P t=true) (ax:bB g (p.push k)=some y):c6 P g (.load t x) ty (gr 0 (p.push k) y)
 | xM {x:Operand}{ty t:TypeId}{p:Place}{k m z n:Nat}{y:ab}{cs:List ab}(J:bs g x=some (.ptr p k)) (aw:iB P t m=true) (ax:bB g p=some y) (aa:y=.own z n cs\/y=.obj cs) (hm:k+m<=cs.length):c6 P g (.load t x) ty (.agg (((cs.drop k).take m).mapIdx λi x=>gr 0 (p.push (k+i)) x))
 | E2 {x i:Operand}{ty t:TypeId}{s:ByteArray}{nT:IntKind}{j:Nat}{b:UInt8}(J:bs g x=some (.lit (.string s))) (hi:bs g i=some (.lit (.int nT (j:Int)))) (aw:o3 P t=true) (av:s[j]?=some b):c6 P g (.index t x i) ty (.lit (.int .u8 b.toNat))
 | bin {op:BinOp}{x y:Operand}{ty t t2:TypeId}{a b v:Value}(J:bs g x=some (.lit a)) (ax:bs g y=some (.lit b)) (hv:v.oneCell'=true) (aq:∀ w,(do eqGuard op t x y a b; binOp op t a b:Sem Value).run P w=.ok v w):c6 P g (.binOp op t x y t2) ty (.lit v)
 | A6 {op:BinOp}{x y:Operand}{ty t t2:TypeId}{az df:List Value}{v:Value}(J:bs g x=some (.agg (az.map .lit))) (ax:bs g y=some (.agg (df.map .lit))) (hv:v.oneCell'=true) (aq:∀ w,(do eqGuard op t x y (.agg az.toArray) (.agg df.toArray); binOp op t (.agg az.toArray) (.agg df.toArray):Sem Value).run P w=.ok v w):c6 P g (.binOp op t x y t2) ty (.lit v)
 | un {op:UnOp}{x:Operand}{ty t:TypeId}{a v:Value}(J:bs g x=some (.lit a)) (hv:v.oneCell'=true) (aq:∀ w,(Op.unary op a).run P w=.ok v w):c6 P g (.unOp op t x) ty (.lit v)
 | conv {x:Operand}{ty s d:TypeId}{a v:Value}(J:bs g x=some (.lit a)) (hv:v.oneCell'=true) (aq:∀ w,(convert s d a).run P w=.ok v w):c6 P g (.convert s d x) ty (.lit v)
 | Eb {x:Operand}{ty s d:TypeId}{n N:Nat}{p:Place}{cs:List ab}{xs:List Int}(J:bs g x=some (.a6 1 p n)) (au:bB g p=some (.own 1 N cs)) (aF:n<=N) (hL:cs.take n=xs.map λb=>.lit (.int .u8 b)) (aw:wP P s d=true):c6 P g (.convert s d x) ty (.lit (.string (strOfNums xs)))
 | Ec {x:Operand}{ty s d:TypeId}{n:Nat}{xs:List Int}(J:bs g x=some (.bk 1 n (xs.map λb=>.lit (.int .u8 b)))) (aw:wP P s d=true):c6 P g (.convert s d x) ty (.lit (.string (strOfNums xs)))
 | Hz {xs:Array Operand}{gm:Array TypeId}{ty:TypeId}{f:FuncId}{vs:List Value}{v:Value}(J:xs.toList.map (bs g)=vs.map λv=>some (.lit v)) (hv:v.oneCell'=true)
   (aq:∀ w,(callFunc f vs.toArray).run P w=.ok (.value v) w):c6 P g (.call { callee:=.value (.func f),args:=xs,argTypes:=gm }) ty (.lit v)
 | Ei {x:Operand}{ty:TypeId}{i:Nat}{cs:List ab}{y:ab}(J:bs g x=some (.bW cs)) (ax:cs[i]?=some y):c6 P g (.extract x i) ty y
 | Az {x:Operand}{lo hi:Option Operand}{ty t e:TypeId}{z n l h:Nat}{cs:List ab}(J:bs g x=some (.bk z n cs)) (ak:p3 g 0 lo l) (bY:p3 g n hi h) (aw:fo P t e z=true) (sP:l<=h) (aF:h<=n):c6 P g (.slice t x lo hi none) ty (.bk z (h - l) ((cs.drop (l * z)).take ((h - l) * z)))
 | KK {x:Operand}{lo hi:Option Operand}{ty t e:TypeId}{z n h:Nat}{p:Place}(J:bs g x=some (.a6 z p n)) (ak:p3 g 0 lo 0) (bY:p3 g n hi h) (aw:fo P t e z=true) (aF:h<=n) (db:gC g (.a6 z p h)):c6 P g (.slice t x lo hi none) ty (.a6 z p h)
 | F6 {x:Operand}{lo hi:Option Operand}{ty t e:TypeId}{z n l h:Nat}{p:Place}(J:bs g x=some (.a6 z p n)) (ak:p3 g 0 lo l) (bY:p3 g n hi h) (aw:fo P t e z=true) (sP:l<=h) (aF:h<=n) (db:gC g (.sub z p l (h - l))):c6 P g (.slice t x lo hi none) ty (.sub z p l (h - l))
 | AA {x:Operand}{lo hi:Option Operand}{ty t:TypeId}{l h:Nat}{s:ByteArray}(J:bs g x=some (.lit (.string s))) (ak:p3 g 0 lo l) (bY:p3 g s.size hi h) (aw:o3 P t=true) (sP:l<=h) (aF:h<=s.size):c6 P g (.slice t x lo hi none) ty (.lit (.string (s.extract l h)))
 | Cr {x:Operand}{ty t e:TypeId}{z bC n:Nat}{cs:List ab}(J:bs g x=some (.bk z n cs)) (aw:fo P t e bC=true):c6 P g (.call { callee:=.builtin .len,args:=#[x],argTypes:=#[t] }) ty (.lit (.int .i64 n))
 | Cq {x:Operand}{ty t e:TypeId}{z bC n:Nat}{p:Place}(J:bs g x=some (.a6 z p n)) (aw:fo P t e bC=true):c6 P g (.call { callee:=.builtin .len,args:=#[x],argTypes:=#[t] }) ty (.lit (.int .i64 n))
 | JO {x:Operand}{ty t e:TypeId}{z bC lo n:Nat}{p:Place}(J:bs g x=some (.sub z p lo n)) (aw:fo P t e bC=true):c6 P g (.call { callee:=.builtin .len,args:=#[x],argTypes:=#[t] }) ty (.lit (.int .i64 n))
 | JN {x:Operand}{ty t e:TypeId}{bC:Nat}(J:bs g x=some .aL) (aw:fo P t e bC=true):c6 P g (.call { callee:=.builtin .len,args:=#[x],argTypes:=#[t] }) ty (.lit (.int .i64 0))
 | lits {b:Builtin}{xs:Array Operand}{gm:Array TypeId}{ty:TypeId}{vs:List Value}{v:Value}(J:xs.toList.map (bs g)=vs.map λv=>some (.lit v)) (hv:v.oneCell'=true)
   (aq:∀ w (cs:Array Bool),(builtin b gm ty cs vs.toArray).run P w=.ok (.value v) w):c6 P g (.call { callee:=.builtin b,args:=xs,argTypes:=gm }) ty (.lit v)
 | Fc {x y:Operand}{ty t:TypeId}{p:Place}{q:Array MapEntry->Nat->Prop}{ok:Bool}{Y X:ab}{oj V:Value}(J:bs g x=some (.gx p)) (au:bB g p=some (.mp q)) (ax:bs g y=some Y)
   (di:∀ (w:World) (I:bb) (ρ:ab->Value->Prop) (v:Value),R w I ρ Y v cx->v=oj) (aY:∀ (w:World) (I:bb) (ρ:ab->Value->Prop),R w I ρ X V cx)
   (aq:∀ (w:World) (b:Nat) (es:Array MapEntry) (clock:Nat),w.heap[b]?=some (.map es clock)->q es clock->(Instr.lookup t (.map (some b)) oj ok).run P w=.ok V w):c6 P g (.lookup t x y ok) ty X
 | Ct {x y:Operand}{ty t:TypeId}{q:Array MapEntry->Nat->Prop}{ok:Bool}{Y X:ab}{oj V:Value}(J:bs g x=some (.imp q)) (ax:bs g y=some Y)
   (di:∀ (w:World) (I:bb) (ρ:ab->Value->Prop) (v:Value),R w I ρ Y v cx->v=oj) (aY:∀ (w:World) (I:bb) (ρ:ab->Value->Prop),R w I ρ X V cx)
   (aq:∀ (w:World) (b:Nat) (es:Array MapEntry) (clock:Nat),w.heap[b]?=some (.map es clock)->q es clock->(Instr.lookup t (.map (some b)) oj ok).run P w=.ok V w):c6 P g (.lookup t x y ok) ty X
theorem R.OE {w:World}{I:bb}{ρ:ab->Value->Prop}{p:Place}{v:Value}{F:bb}(h:R w I ρ (.gx p) v F):ρ (.gx p) v:=by
 cases h with
 | ref _ h _=>exact h
theorem R.Jv {w:World}{I:bb}{ρ:ab->Value->Prop}{q:Array MapEntry->Nat->Prop}{v:Value}{F:bb}(h:R w I ρ (.mp q) v F):∃ b es clock,v=.map (some b)/\w.heap[b]?=some (.map es clock)/\q es clock/\∀ c,F c↔c=b:=by
 cases h with
 | ref J=>simp [ab.isRef] at J
 | mp a1 bg aN=>exact ⟨_,_,_,rfl,a1,bg,aN⟩
theorem R.W7 {w:World}{I:bb}{ρ:ab->Value->Prop}{q:Array MapEntry->Nat->Prop}{v:Value}{F:bb}(h:R w I ρ (.imp q) v F):∃ b es clock,v=.map (some b)/\w.heap[b]?=some (.map es clock)/\q es clock:=by
 cases h with
 | ref J=>simp [ab.isRef] at J
 | imp _ _ a1 bg=>exact ⟨_,_,_,rfl,a1,bg⟩
end Go.Own
namespace Go.Own
open Go
section
variable {P:Program}{w:World}{I:bb}{T:Array Value}{g:aK}{Fs:Nat->bb}
theorem p3.sound (h:cH w I T g Fs) {d:Nat}{x:Option Operand}{j:Nat}(av:p3 g d x j) {a:Act}(aP:a.tmps=T):(x.map a.eval=none/\j=d)\/∃ k,x.map a.eval=some (.int k (j:Int)):=by
 cases x with
 | none=>exact .inl ⟨rfl,av⟩
 | some o =>
  obtain ⟨k,hk⟩:=av;exact .inr ⟨k,by rw [Option.map_some,(kg h hk aP).hC.1]⟩
theorem FT {len cap l h:Nat}{lo hi:Option Value}(ak:(lo=none/\l=0)\/∃ k,lo=some (.int k (l:Int))) (bY:(hi=none/\h=len)\/∃ k,hi=some (.int k (h:Int))) (b:Bool) (sP:l<=h) (aa:h<=cap) :
  (Instr.sliceBounds b len cap lo hi none).run P w=.ok (l,h,cap) w:=by
 rcases ak with ⟨rfl,rfl⟩ | ⟨k,rfl⟩ <;> rcases bY with ⟨rfl,rfl⟩ | ⟨kX,rfl⟩ <;> simp [Instr.sliceBounds,Instr.sliceBound,asIntOf,sP,aa]
theorem OQ (h:cH w I T g Fs) {a:Act}(aP:a.tmps=T):∀ (xs:List Operand) (vs:List Value),xs.map (bs g)=vs.map (λv=>some (.lit v))->xs.map a.eval=vs
 | [],[],_=>rfl
 | [],_::_,h=>by simp at h
 | _::_,[],h=>by simp at h
 | x::xs,v::vs,J=>by
  simp only [List.map_cons,List.cons.injEq] at J;rw [List.map_cons,(kg h J.1 aP).hC.1,OQ h aP xs vs J.2]
theorem LF {w:World}{I:bb}{ρ:ab->Value->Prop}{v:Value}{az:List Value}
  (h:∃ vs:Array Value,v=.agg vs/\(az.map ab.lit).length=vs.size/\(∀ (k:Nat) (u:Value),vs[k]?=some u->u.oneCell'=true)/\∀ (k:Nat) (x:ab) (u:Value),(az.map ab.lit)[k]?=some x->vs[k]?=some u->R w I ρ x u cx):v=.agg az.toArray:=by
 obtain ⟨vs,rfl,ak,-,aq⟩:=h;congr 1;apply Array.ext (by simpa using ak.symm);intro i h1 af;have aI:i<az.length:=by simpa using af
 have:=(aq i (.lit az[i]) vs[i] (by simp [aI]) (Array.getElem?_eq_getElem h1)).hC.1
 grind
theorem c6.sound (h:cH w I T g Fs) {a:Act}(aP:a.tmps=T) {o:Oper}{kI:ab}(au:c6 P g o.op o.type kI) :
  ∃ v,(execOp a.eval o).run P w=.ok (.value v) w/\R w I (dT w T g) kI v cx:=by
 obtain ⟨dst,op,ty,pos,after,guard⟩:=o;simp only at au;have f_:∀ {x:Operand}{y:ab},bs g x=some y->R w I (dT w T g) y (a.eval x) cx:=λax=>kg h ax aP;have no:∀ c,¬ cx c:=λ_ h=>h;cases au with
 | move J=>exact ⟨_,by simp [execOp],f_ J⟩
 | assign J=>exact ⟨_,by simp [execOp],f_ J⟩
 | @pick c x y _ t r aa aq =>
  have vj:=(f_ aa).hC.1;refine ⟨_,?_,f_ aq⟩;simp [execOp,vj,asBool]
  grind
 | @Fm x _ p k J =>
  have aq:=f_ J;obtain ⟨⟨u,ad,h1,af,aI⟩,bF⟩:=aq.nR
  simp_all [execOp]
 | @qB x _ cs J =>
  have aq:=f_ J;obtain ⟨ad,us,aI,_⟩:=aq.xz
  simp_all [execOp]
 | @Bn x _ s t f off p k J aW db =>
  obtain ⟨⟨u,ad,h1,af,aI⟩,bF⟩:=(f_ J).nR;refine ⟨.pointer (some ⟨ad.block,ad.off+k+off,none⟩),by simp [execOp,aI,PO aW],.ref rfl ⟨⟨u,ad,h1,af,by rw [Nat.add_assoc]⟩,db⟩ no⟩
 | @Em x _ s t f off cs J aW =>
  obtain ⟨ad,us,aI,bc,aB,ht,aa,aq⟩:=(f_ J).xz;obtain ⟨b,o,sp⟩:=ad;simp only at aB;subst aB;refine ⟨.pointer (some ⟨b,o+off,none⟩),by simp [execOp,aI,PO aW],.cI (us:=λk=>us (off+k)) no bc rfl (λk x hk=>ht _ x (by rwa [List.getElem?_drop] at hk)) (λk x hk=>?_) λk x hk=>?_⟩
  ·grind
  grind
 | @El x _ s t f off cs y J aW aw ax =>
  obtain ⟨vs,aI,ak,ht,aq⟩:=(f_ J).Cg no;obtain ⟨fs,fd,hu,Iu,rfl,rfl,i,hi,aQ⟩:=HE aW;have hk:fd.offset<cs.length:=(List.getElem?_eq_some_iff.1 ax).1;have hv:vs[fd.offset]?=some vs[fd.offset]:=Array.getElem?_eq_getElem (ak ▸ hk);refine ⟨_,?_,aq _ kI _ ax hv⟩;simp [execOp,aI,Instr.field,run_underlying hu,Iu,asAgg,part,(Hm (w:=w) aw).1,hv]
 | @HC x _ s t f off k cs J aW aw hk =>
  obtain ⟨vs,aI,ak,ht,aq⟩:=(f_ J).Cg no;obtain ⟨fs,fd,hu,Iu,rfl,rfl,i,hi,aQ⟩:=HE aW;refine ⟨.agg (vs.extract fd.offset (fd.offset+k)),?_,.agg (Fs:=λ_=>cx) (by simp [ak]; omega) (λj u jP=>by
   rw [Array.getElem?_extract] at jP
   grind) (λj y u ax jP=>?_) (λ_ _ _ _ _ h=>h.elim) (λc=>⟨λh=>h.elim,λ⟨_,_,h⟩=>h⟩)⟩
  ·simp [execOp,aI,Instr.field,run_underlying hu,Iu,asAgg,part,(D2 (w:=w) aw).1,(D2 (w:=w) aw).2]
  grind
 | @E1 x i _ t e z n cs nT j J hi aw ah =>
  obtain ⟨hu,he,aX⟩:=qK (w:=w) aw;obtain ⟨lE,cap,aI,_,ak,hm⟩:=(f_ J).zJ;obtain ⟨ad,us,rfl,bc,aB,ht,aa,aq⟩:=hm (.inr (by omega));obtain ⟨b,o,sp⟩:=ad;simp only at aB;subst aB;have sO:=(f_ hi).hC.1;refine ⟨.pointer (some ⟨b,o+j * z,none⟩),?_,.cI (us:=λk=>us (j * z+k)) no bc rfl (λk x hk=>ht _ x (by rwa [List.getElem?_drop] at hk)) (λk x hk=>?_) λk x hk=>?_⟩
  ·simp [execOp,aI,sO,Instr.indexAt,run_underlying hu,asIntOf,ah,aX,add_eq]
  ·grind
  grind
 | @E0 x i _ t e z n p nT j J hi aw ah db =>
  obtain ⟨hu,he,aX⟩:=qK (w:=w) aw;obtain ⟨⟨lE,N,cap,h1,af,aI⟩,bF⟩:=(f_ J).nh;have sO:=(f_ hi).hC.1;obtain ⟨y,ax,j4,dx,cs,eO,aT⟩:=db;obtain ⟨v,cy,hv,dH,_⟩:=h.part ax (by rcases eO with rfl | rfl <;> simp);rw [h1] at hv;cases hv;obtain ⟨b,u,fP,l4,_,_⟩:=dH.node eO (List.getElem?_eq_getElem aT);cases lE with
  | none=>simp [addrOf] at fP
  | some ad =>
   simp only [addrOf,Option.some.injEq] at fP;subst fP;refine ⟨.pointer (some ⟨b,j * z,none⟩),?_,.ref rfl ⟨⟨_,_,h1,rfl,by simp⟩,y,ax,j4,dx,cs,eO,aT⟩ no⟩;simp [execOp,af,sO,Instr.indexAt,run_underlying hu,asIntOf,ah,aX,add_eq]
 | @Js x i _ t e z lo n p nT j J hi aw ah db =>
  obtain ⟨hu,he,aX⟩:=qK (w:=w) aw;obtain ⟨⟨lE,N,cap,ca,mT,h1,af,_,aI,cF⟩,bF⟩:=(f_ J).xA;obtain ⟨ad,rfl,rfl⟩:=cF (by omega);have sO:=(f_ hi).hC.1;obtain ⟨y,ax,j4,dx,cs,eO,aT⟩:=db;obtain ⟨v,cy,hv,dH,_⟩:=h.part ax (by rcases eO with rfl | rfl <;> simp);rw [h1] at hv;cases hv;obtain ⟨b,u,fP,l4,_,_⟩:=dH.node eO (List.getElem?_eq_getElem aT);simp only [addrOf,Option.some.injEq] at fP;subst fP;refine ⟨.pointer (some ⟨b,(lo+j) * z,none⟩),?_,.ref rfl ⟨⟨_,_,h1,rfl,by simp⟩,y,ax,j4,dx,cs,eO,aT⟩ no⟩;simp [execOp,af,sO,Instr.indexAt,run_underlying hu,asIntOf,ah,aX,add_eq,Nat.add_mul]
 | @EZ x i _ t e n z k p nT j J hi aw ah db =>
  obtain ⟨hu,aX⟩:=LS (w:=w) aw;obtain ⟨⟨u,ad,h1,af,aI⟩,bF⟩:=(f_ J).nR;have sO:=(f_ hi).hC.1;refine ⟨.pointer (some ⟨ad.block,ad.off+k+j * z,none⟩),?_,.ref rfl ⟨⟨u,ad,h1,af,by rw [Nat.add_assoc]⟩,db⟩ no⟩;simp [execOp,aI,sO,Instr.indexAt,run_underlying hu,Instr.sureAddr,asIntOf,ah,aX,add_eq]
 | @Jr x i _ t e n z cs nT j J hi aw ah =>
  obtain ⟨hu,aX⟩:=LS (w:=w) aw;obtain ⟨ad,us,aI,bc,aB,ht,aa,aq⟩:=(f_ J).xz;obtain ⟨b,o,sp⟩:=ad;simp only at aB;subst aB;have sO:=(f_ hi).hC.1;refine ⟨.pointer (some ⟨b,o+j * z,none⟩),?_,.cI (us:=λk=>us (j * z+k)) no bc rfl (λk x hk=>ht _ x (by rwa [List.getElem?_drop] at hk)) (λk x hk=>?_) λk x hk=>?_⟩
  ·simp [execOp,aI,sO,Instr.indexAt,run_underlying hu,Instr.sureAddr,asIntOf,ah,aX,add_eq]
  ·grind
  grind
 | @Fe x _ t c cs J aw =>
  obtain ⟨ad,us,aI,bc,aB,ht,aa,aq⟩:=(f_ J).xz;obtain ⟨b,o,sp⟩:=ad;simp only at aB;subst aB;have aQ:w.cell? ⟨b,o,none⟩=some (us 0):=by simpa using aa 0 kI rfl
  simp_all [execOp,PR]
 | @Ff x _ t k cs J aw hk =>
  obtain ⟨ad,us,aI,bc,aB,ht,aa,aq⟩:=(f_ J).xz;obtain ⟨b,o,sp⟩:=ad;simp only at aB;subst aB;have VI:∀ j v,((List.range k).map us)[j]?=some v->w.cell? ⟨b,o+j,none⟩=some v:=by
   grind
  refine ⟨.agg ((List.range k).map us).toArray,by simp [execOp,aI,PQ aw (by simp) VI],.agg (Fs:=λ_=>cx) (by simp; omega) (λj u jP=>by
   grind) (λj y u ax jP=>?_) (λ_ _ _ _ _ h=>h.elim) (λc=>⟨λh=>h.elim,λ⟨_,_,h⟩=>h⟩)⟩
  grind
 | @Cu x _ t p k y J aw ax =>
  obtain ⟨⟨u,ad,h1,af,aI⟩,bF⟩:=(f_ J).nR;rw [tC] at ax;cases aF:bB g p with
  | none=>rw [aF] at ax; cases ax
  | some nd =>
   rw [aF] at ax;simp only [Option.bind_some] at ax;obtain ⟨y',oT,j4,dx,cs,eO,aT⟩:=bF;rw [aF] at oT;cases oT;obtain ⟨v,cy,hv,dH,dw⟩:=h.part aF (by rcases eO with rfl | rfl <;> simp);rw [h1] at hv;cases hv;have ib:cs[k]?=some y:=by rcases eO with rfl | rfl <;> simpa [ab.kids] using ax
   obtain ⟨b,ha,fP,l4,n9,ht,bM,kR⟩:=dH.node eO ib;rw [fP] at af;cases af;refine ⟨ha,by simp only [execOp,aI]; simp [PR aw l4],FN 0 (by rw [tC,aF]; exact ax) (by rw [yu,h1]; exact n9) kR⟩
 | @xM x _ t p k m z n y cs J aw ax eO hm =>
  obtain ⟨⟨u,ad,h1,af,aI⟩,bF⟩:=(f_ J).nR;obtain ⟨v,cy,hv,dH,dw⟩:=h.part ax (by rcases eO with rfl | rfl <;> simp);rw [h1] at hv;cases hv;have vh:∃ b,ad=⟨b,0,none⟩:=by
   obtain ⟨y',oT,j4,dx,cs',Ox,aT⟩:=bF;rw [ax] at oT;cases oT;have:cs'=cs:=by rcases eO with rfl | rfl <;> rcases Ox with bY | bY <;> cases bY <;> rfl
   subst this;obtain ⟨b,ha,fP,_⟩:=dH.node Ox (List.getElem?_eq_getElem aT)
   grind
  obtain ⟨b,rfl⟩:=vh;have IF:y.kids=cs:=by rcases eO with rfl | rfl <;> rfl
  have cell:∀ j,j<m->∃ ha,w.cell? ⟨b,k+j,none⟩=some ha/\ha.oneCell'=true/\∃ lV,cs[k+j]?=some lV/\R w I (dT w T g) (gr 0 (p.push (k+j)) lV) ha cx:=by
   intro j ah;have gg:cs[k+j]?=some cs[k+j]:=List.getElem?_eq_getElem (by omega);obtain ⟨eD,ha,fP,l4,n9,ht,bM,kR⟩:=dH.node eO gg;rw [af] at fP;cases fP;exact ⟨ha,l4,ht,_,gg,FN 0 (by rw [tC,ax]; simp [IF]) (by rw [yu,h1]; exact n9) kR⟩
  have hex:∃ us:List Value,us.length=m/\∀ j v,us[j]?=some v->w.cell? ⟨b,k+j,none⟩=some v:=by
   refine ⟨(List.range m).map λj=>(w.cell? ⟨b,k+j,none⟩).getD undef,by simp,?_⟩
   grind
  obtain ⟨us,oc,Wg⟩:=hex;refine ⟨.agg us.toArray,by simp only [execOp,aI]; simp [PQ aw oc (b:=b) (o:=k) Wg],.agg (Fs:=λ_=>cx) (by simp; omega) (λj u jP=>by
   grind) (λj jl u vC jP=>?_) (λ_ _ _ _ _ h=>h.elim) (λc=>⟨λh=>h.elim,λ⟨_,_,h⟩=>h⟩)⟩
  grind
 | @Eb x _ s d n N p cs xs J au aF hL aw =>
  obtain ⟨e,aB,he,aS⟩:=L5 aw;obtain ⟨⟨lE,i',cap,h1,af,aI⟩,_⟩:=(f_ J).nh;obtain ⟨v,cy,hv,dH,dw⟩:=h.part au (by simp);rw [h1] at hv;cases hv;have hf:(cs.take n).length=n:=by
   obtain ⟨_,_,_,ak⟩:=dH.np
   grind
  have hlen:xs.length=n:=by rw [<- hf,hL,List.length_map]
  refine ⟨_,?_,.lit rfl no⟩;obtain ⟨_,_,je,_,_,rb,re⟩:=dH.np;cases je;cases lE with
  | none =>
   have aQ:n=0:=by
    grind
   have:xs=[]:=List.eq_nil_of_length_eq_zero (hlen.trans aQ);subst this;have aq:=run_convert_bytes_nil (P:=P) (w:=w) s e aB he n cap d aS;simp [execOp,af,aq];rfl
  | some ad =>
   obtain ⟨b,o,sp⟩:=ad;obtain ⟨rfl,rfl⟩:=rb _ rfl;have aq:=run_convert_bytes_arg (P:=P) w s e aB he b 0 n cap xs hlen (λi hi=>by
    have Im:(cs.take n)[i]?=some (.lit (.int .u8 (xs.getD i 0))):=by
     grind
    have Ve:cs[i]?=some (.lit (.int .u8 (xs.getD i 0))):=by
     grind
    obtain ⟨eD,u,fP,l4,_,_,bM,kR⟩:=dH.node (.inl rfl) Ve;simp only [addrOf,Option.some.injEq,Addr.mk.injEq,and_true] at fP;subst fP;rw [Nat.zero_add,l4,kR.hC.1]) d aS
   simp_all [execOp]
 | @Ec x _ s d n xs J aw =>
  obtain ⟨e,aB,he,aS⟩:=L5 aw;have aY:=f_ J;generalize t_:a.eval x=v at aY;refine ⟨_,?_,.lit rfl no⟩;generalize hL:(xs.map λb=>ab.lit (.int .u8 b))=cs at aY;cases aY with
  | ref J=>simp [ab.isRef] at J
  | @hM _ cap lE _ aN =>
   have:xs=[]:=by simpa using hL
   subst this;cases lE with
   | none =>
    have aq:=run_convert_bytes_nil (P:=P) (w:=w) s e aB he 0 cap d aS;simp [execOp,t_,aq];rfl
   | some ad =>
    have ak:(loadCells ad 0).run P w=.ok (([]:List Int).map (Value.int .u8)).toArray w:=by
     have:=run_loadCells_list (P:=P) w ad [] (λj v ah=>by simp at ah)
     grind
    have aq:=run_bytesToString w ad 0 cap [] ak;have aa:=run_convert_bytes_string (P:=P) w s d e (some ad) 0 cap aB he aS;rw [aq] at aa;simp [execOp,t_,aa];rfl
  | @bk _ _ cap _ ad us _ aN lg bc ll ak h1 aa aq =>
   obtain ⟨b,o,sp⟩:=ad;simp only at ll;subst ll;have hlen:xs.length=n:=by rw [<- List.length_map (f:=λb=>ab.lit (.int .u8 b)),hL,ak,Nat.mul_one]
   have ec:=run_convert_bytes_arg (P:=P) w s e aB he b o n cap xs hlen (λi hi=>by
    have Im:cs[i]?=some (.lit (.int .u8 (xs.getD i 0))):=by
     grind
    have:=aa i _ Im;simp only at this;rw [this,(aq i _ Im).hC.1]) d aS
   simp_all [execOp]
 | @Hz xs gm _ f vs v J hv aq =>
  refine ⟨v,?_,.lit hv no⟩;have xn:xs.map a.eval=vs.toArray:=by
   apply Array.toList_inj.1;apply List.ext_getElem?;intro k;have:=congrArg (·[k]?) J;simp only [List.getElem?_map] at this;rw [Array.toList_map,List.getElem?_map];cases hk:xs.toList[k]? with
   | none =>
    grind
   | some o =>
    rw [hk] at this;cases hv:vs[k]? with
    | none=>rw [hv] at this; cases this
    | some v =>
     rw [hv] at this;simp only [Option.map_some,Option.some.injEq] at this ⊢;rw [(f_ this).hC.1]
  have aW:a.eval (.func f)=.func (.func f) #[] #[]:=rfl
  simp_all [execOp,resolve,Deferred.ofValue,invoke]
 | @E2 x i _ t s nT j b J hi aw av =>
  have vu:=(f_ J).hC.1;have sO:=(f_ hi).hC.1;refine ⟨.int .u8 b.toNat,?_,.lit rfl no⟩
  simp_all [execOp,Instr.index,run_underlying,KN,asIntOf]
 | @bin op x y _ t t2 ca b v J ax hv aq =>
  have h1:=(f_ J).hC.1;have af:=(f_ ax).hC.1;refine ⟨v,?_,.lit hv no⟩
  grind [execOp,Sem.run_bind,Result.andThen_ok,Sem.run_pure]
 | @A6 op x y _ t t2 az df v J ax hv aq =>
  have h1:=LF ((f_ J).Cg no);have af:=LF ((f_ ax).Cg no);refine ⟨v,?_,.lit hv no⟩
  grind [execOp,Sem.run_bind,Result.andThen_ok,Sem.run_pure]
 | @un op x _ t ca v J hv aq =>
  have h1:=(f_ J).hC.1;exact ⟨v,by simp [execOp,h1,aq],.lit hv no⟩
 | @conv x _ s d ca v J hv aq =>
  have h1:=(f_ J).hC.1;exact ⟨v,by simp [execOp,h1,aq],.lit hv no⟩
 | @Ei x _ i cs y J ax =>
  obtain ⟨vs,aI,ak,aq⟩:=(f_ J).W8 no;have hk:i<cs.length:=(List.getElem?_eq_some_iff.1 ax).1;have hv:vs[i]?=some vs[i]:=Array.getElem?_eq_getElem (ak ▸ hk);exact ⟨_,by simp [execOp,aI,Instr.extract,hv],aq _ kI _ ax hv⟩
 | @Az x lo hi _ t e z n l bY cs J ak vn aw sP aF =>
  obtain ⟨hu,he,aX⟩:=qK (w:=w) aw;obtain ⟨lE,cap,aI,lg,hlen,hm⟩:=(f_ J).zJ;have av:=FT (P:=P) (w:=w) (len:=n) (cap:=cap) (ak.sound h aP) (vn.sound h aP) true sP (by omega);have hT:(execOp a.eval { dst:=dst,op:=.slice t x lo hi none,type:=ty,pos:=pos,after:=after,guard:=guard }).run P w=.ok (.value (sliced lE l bY cap z)) w:=by
   simp_all [execOp,Instr.sliceAt,run_underlying,Instr.slice,sliced]
  refine ⟨_,hT,?_⟩;by_cases aQ:bY - l=0
  ·rw [aQ];simp only [Nat.zero_mul,List.take_zero,sliced,aQ];exact .hM no
  ·obtain ⟨ad,us,rfl,bc,aB,ht,aa,aq⟩:=hm (.inr (by omega));obtain ⟨b,o,sp⟩:=ad;simp only at aB;subst aB;have hf:cap≠l:=by omega
   simp only [sliced,hf,if_false,Option.map_some,add_eq];have BL:((cs.drop (l * z)).take ((bY - l) * z)).length=(bY - l) * z:=by
    rw [List.length_take,List.length_drop,hlen];have:(bY - l) * z+l * z<=n * z:=by rw [<- Nat.add_mul]; exact Nat.mul_le_mul_right _ (by omega)
    omega
   refine .bk (us:=λk=>us (l * z+k)) no (by omega) bc rfl BL (λk x hk=>ht (l * z+k) x (by
    grind)) (λk x hk=>?_) λk x hk=>?_
   ·grind
   grind
 | @KK x lo hi _ t e z n bY p J ak vn aw aF db =>
  obtain ⟨hu,he,aX⟩:=qK (w:=w) aw;obtain ⟨⟨lE,N,cap,h1,af,aI⟩,bF⟩:=(f_ J).nh;have lg:N<=cap:=by
   rcases bF with ⟨i',cs,cF,ej⟩ | ⟨aQ,q,gH,m,new,cF,ej⟩
   ·obtain ⟨v,cy,hv,dH,_⟩:=h.part cF (by simp);rw [h1] at hv;obtain ⟨_,rP,NN,hle,_⟩:=dH.np
    grind
   ·obtain ⟨v,hv,dH⟩:=h.rel _ _ cF;simp only [dW,hv,aQ,walk,Option.some.injEq] at h1;subst h1;obtain ⟨bv,cj,b9,us,news,dH⟩:=dH.vF;obtain ⟨_,nL⟩:=dH.nL
    grind
  have av:=FT (P:=P) (w:=w) (len:=n) (cap:=cap) (ak.sound h aP) (vn.sound h aP) true (Nat.zero_le _) (by omega);refine ⟨.slice lE bY cap,?_,.ref rfl ⟨⟨lE,N,cap,h1,rfl,by omega⟩,db⟩ no⟩
  simp_all [execOp,Instr.sliceAt,run_underlying,Instr.slice,Addr.add]
 | @F6 x lo hi _ t e z n l bY p J ak vn aw sP aF db =>
  obtain ⟨hu,he,aX⟩:=qK (w:=w) aw;obtain ⟨⟨lE,N,cap,h1,af,aI⟩,bF⟩:=(f_ J).nh;obtain ⟨i',cs,cF,ej⟩:=db;obtain ⟨v,cy,hv,dH,_⟩:=h.part cF (by simp);rw [h1] at hv;obtain ⟨a2,rP,NN,hle,hlen,rb,re⟩:=dH.np;rw [NN] at hv;cases hv;have av:=FT (P:=P) (w:=w) (len:=n) (cap:=cap) (ak.sound h aP) (vn.sound h aP) true sP (by omega);refine ⟨sliced lE l bY cap z,?_,.ref rfl ⟨⟨lE,_,cap,_,_,h1,rfl,by omega,by omega,λsS=>?_⟩,_,cs,cF,ej⟩ no⟩
  ·simp_all [execOp,Instr.sliceAt,run_underlying,Instr.slice,sliced]
  ·have aB:=re (by omega);cases lE with
   | none=>simp at aB
   | some ad =>
    obtain ⟨aQ,jf⟩:=rb ad rfl;obtain ⟨b,o,sp⟩:=ad
    grind [add_eq]
 | @AA x lo hi _ t l bY s J ak vn aw sP aF =>
  have vu:=(f_ J).hC.1;have av:=FT (P:=P) (w:=w) (len:=s.size) (cap:=s.size) (ak.sound h aP) (vn.sound h aP) false sP aF;exact ⟨.string (s.extract l bY),by simp [execOp,vu,Instr.sliceAt,run_underlying (KN aw),Instr.slice,av],.lit rfl no⟩
 | @Cr x _ t e z bC n cs J aw =>
  obtain ⟨hu,he,aX⟩:=qK (w:=w) aw;obtain ⟨lE,cap,aI,_⟩:=(f_ J).zJ;exact ⟨_,by simp [execOp,resolve,invoke,builtin,aI,Builtin.len_,run_underlying hu,goInt],.lit rfl no⟩
 | @Cq x _ t e z bC n p J aw =>
  obtain ⟨hu,he,aX⟩:=qK (w:=w) aw;obtain ⟨⟨lE,N,cap,h1,af,aI⟩,bF⟩:=(f_ J).nh;exact ⟨_,by simp [execOp,resolve,invoke,builtin,af,Builtin.len_,run_underlying hu,goInt],.lit rfl no⟩
 | @JO x _ t e z bC lo n p J aw =>
  obtain ⟨hu,he,aX⟩:=qK (w:=w) aw;obtain ⟨⟨lE,N,cap,ca,mT,h1,af,_,aI,cF⟩,bF⟩:=(f_ J).xA;exact ⟨_,by simp [execOp,resolve,invoke,builtin,af,Builtin.len_,run_underlying hu,goInt],.lit rfl no⟩
 | @JN x _ t e bC J aw =>
  obtain ⟨hu,he,aX⟩:=qK (w:=w) aw;have af:=(f_ J).sh;exact ⟨_,by simp [execOp,resolve,invoke,builtin,af,Builtin.len_,run_underlying hu,goInt],.lit rfl no⟩
 | @lits b xs gm _ vs v J hv aq =>
  have qk:xs.map a.eval=vs.toArray:=by
   grind [Array.toList_map,OQ]
  refine ⟨v,?_,.lit hv no⟩
  grind [execOp,resolve,invoke]
 | @Fc x y _ t p q ok Y _ oj V J au ax di aY aq =>
  obtain ⟨⟨b,av,hv⟩,_⟩:=(f_ J).OE;obtain ⟨gv,cy,iu,dH,_⟩:=h.part au (by simp);rw [av] at iu;cases iu;obtain ⟨eD,es,clock,e,a1,bg,_⟩:=dH.Jv;cases e;refine ⟨V,?_,aY _ _ _⟩;simp [execOp,hv,di _ _ _ _ (f_ ax),aq w _ _ _ a1 bg]
 | @Ct x y _ t q ok Y _ oj V J ax di aY aq =>
  obtain ⟨b,es,clock,hv,a1,bg⟩:=(f_ J).W7;refine ⟨V,?_,aY _ _ _⟩;simp [execOp,hv,di _ _ _ _ (f_ ax),aq w _ _ _ a1 bg]
end
end Go.Own
namespace Go.Own
open Go
structure Fr (w w':World) (U:bb):Prop where
 os:w'.os=w.os
 tape:w'.tape=w.tape
 output:w'.output=w.output
 size:w.heap.size<=w'.heap.size
 block:∀ b,b<w.heap.size->¬ U b->w'.heap[b]?=w.heap[b]?
 dN:∀ a,a.block<w.heap.size->w'.frozen? a=w.frozen? a
 w0:w.drawn<=w'.drawn
theorem Fr.refl (w:World) (U:bb):Fr w w U:=⟨rfl,rfl,rfl,Nat.le_refl _,λ_ _ _=>rfl,λ_ _=>rfl,Nat.le_refl _⟩
theorem Fr.mono {w w':World}{U D0:bb}(h:Fr w w' U) (f':∀ b,b<w.heap.size->U b->D0 b):Fr w w' D0:=⟨h.os,h.tape,h.output,h.size,λb av aF=>h.block b av λhu=>aF (f' b av hu),h.dN,h.w0⟩
theorem Fr.trans {w ig hy:World}{U y1:bb}(h:Fr w ig U) (h1:Fr ig hy y1) (f':∀ b,b<w.heap.size->y1 b->U b):Fr w hy U :=
 ⟨h1.os.trans h.os,h1.tape.trans h.tape,h1.output.trans h.output,Nat.le_trans h.size h1.size,λb av aF=>(h1.block b (Nat.lt_of_lt_of_le av h.size) λhu=>aF (f' b av hu)).trans (h.block b av aF),λa aP=>(h1.dN a (Nat.lt_of_lt_of_le aP h.size)).trans (h.dN a aP),Nat.le_trans h.w0 h1.w0⟩
theorem sz (w:World) (o:Obj) (k:Nat) (h:k<w.heap.size):(w.alloc o).heap[k]?=w.heap[k]?:=by
 show (w.heap.push o)[k]?=_;rw [Array.getElem?_push,if_neg (by omega)]
theorem tw (w:World) (o:Obj):(w.alloc o).heap[w.heap.size]?=some o:=by
 show (w.heap.push o)[w.heap.size]?=_;simp
theorem HF (w:World) (arr:Array Value) (t:TypeId) (a:Addr):(w.alloc (.cells arr t (0,0))).frozen? a=w.frozen? a:=by
 unfold World.frozen?;by_cases h:a.block=w.heap.size
 ·rw [h,tw];have:w.heap[w.heap.size]?=none:=by simp
  rw [this];simp
 ·by_cases af:a.block<w.heap.size
  ·rw [sz w _ _ af]
  ·have aI:(w.alloc (.cells arr t (0,0))).heap[a.block]?=none:=by
    show (w.heap.push _)[a.block]?=_;rw [Array.getElem?_eq_none];simp; omega
   have bF:w.heap[a.block]?=none:=Array.getElem?_eq_none (by omega);rw [aI,bF]
theorem HH (w:World) (g:Nat) (cs:Array Value) (a:Addr):(w.setRow g cs).frozen? a=w.frozen? a:=by
 unfold World.frozen? World.setRow;simp only [Array.getElem?_modify];by_cases h:g=a.block
 ·subst h;rw [if_pos rfl];cases bY:w.heap[a.block]? with
  | none=>rfl
  | some o=>cases o <;> rfl
 ·rw [if_neg h]
theorem TG (w:World) (es:Array MapEntry) (n:Nat) (a:Addr):(w.alloc (.map es n)).frozen? a=w.frozen? a:=by
 unfold World.frozen?;by_cases h:a.block=w.heap.size
 ·rw [h,tw];have:w.heap[w.heap.size]?=none:=by simp
  rw [this]
 ·by_cases af:a.block<w.heap.size
  ·rw [sz w _ _ af]
  ·have aI:(w.alloc (.map es n)).heap[a.block]?=none:=by
    show (w.heap.push _)[a.block]?=_;rw [Array.getElem?_eq_none];simp; omega
   have bF:w.heap[a.block]?=none:=Array.getElem?_eq_none (by omega);rw [aI,bF]
def Pw (o:Obj):Prop:=(∃ arr e,o=.cells arr e (0,0))\/∃ es n,o=.map es n
theorem Fr.alloc (w:World) (o:Obj) (U:bb) (a1:Pw o):Fr w (w.alloc o) U:=by
 refine ⟨rfl,rfl,rfl,by simp,λb av _=>sz w o b av,λa _=>?_,Nat.le_refl _⟩;rcases a1 with ⟨arr,e,rfl⟩ | ⟨es,n,rfl⟩
 ·exact HF w arr e a
 ·exact TG w es n a
theorem R.X4 {w:World}{I:bb}{ρ:ab->Value->Prop}{x:ab}{v:Value}{F:bb}(h:R w I ρ x v F):∀ c,F c->∃ o,w.heap[c]?=some o/\Pw o:=by
 induction h with
 | mp a1 _ aN =>
  intro c aa;cases (aN c).1 aa;exact ⟨_,a1,.inr ⟨_,_,rfl⟩⟩
 | lit _ aN | aL aN | dead aN | ref _ _ aN | hM aN | bk aN | cI aN | cX aN | imp aN=>exact λc aa=>absurd aa (aN c)
 | own a1 ak h1 aq aS av aN aU =>
  intro c aa;rcases (aN c).1 aa with h | ⟨k,hk,h⟩
  ·obtain ⟨_,bY⟩:=a1;rcases bY with ⟨rfl,_⟩ | ⟨b,cap,cur,rfl,_,lu,_⟩
   ·simp [Value.ownBlock] at h
   ·simp only [Value.ownBlock,Option.some.injEq] at h;subst h;exact ⟨_,lu,.inl ⟨_,_,rfl⟩⟩
  ·exact aU k _ _ (List.getElem?_eq_getElem hk) (List.getElem?_eq_getElem (ak ▸ hk)) c h
 | obj a1 ak h1 aq aS av aN aU =>
  intro c aa;rcases (aN c).1 aa with rfl | ⟨k,hk,h⟩
  ·exact ⟨_,a1,.inl ⟨_,_,rfl⟩⟩
  ·exact aU k _ _ (List.getElem?_eq_getElem hk) (Array.getElem?_eq_getElem (ak ▸ hk)) c h
 | agg ak h1 aq aS aN aU =>
  intro c aa;obtain ⟨k,hk,h⟩:=(aN c).1 aa;exact aU k _ _ (List.getElem?_eq_getElem hk) (Array.getElem?_eq_getElem (ak ▸ hk)) c h
 | bW ak aq aS aN aU =>
  intro c aa;obtain ⟨k,hk,h⟩:=(aN c).1 aa;exact aU k _ _ (List.getElem?_eq_getElem hk) (Array.getElem?_eq_getElem (ak ▸ hk)) c h
theorem Fr.drew {w w':World}{U:bb}(h:Fr w w' U):Fr w w'.drew U:=⟨h.os,h.tape,h.output,h.size,h.block,h.dN,Nat.le_succ_of_le h.w0⟩
section
variable {w:World}{I:bb}{T:Array Value}{g:aK}{Fs:Nat->bb}
theorem cH.jZ (h:cH w I T g Fs):∀ t c,Fs t c->c<w.heap.size:=by
 intro t c aa;cases J:g t with
 | none=>exact absurd aa (h.kY t J c)
 | some y=>obtain ⟨u,_,dH⟩:=h.rel t y J; exact dH.lt c aa
theorem cH.world (h:cH w I T g Fs) {w':World}(aN:∀ t c,Fs t c->w'.heap[c]?=w.heap[c]?) (bc:∀ c,I c->w'.heap[c]?=w.heap[c]?) (fX:w.heap.size<=w'.heap.size):cH w' I T g Fs :=
  ⟨λt x J=>by
    obtain ⟨v,hv,aY⟩:=h.rel t x J;exact ⟨v,hv,h.w2 (λ_ _=>rfl) aN bc (λ_ h=>h) (λ_ _ h=>h) aY λc aa=>aN t c aa⟩,
   h.kY,h.eI,h.bk,λc aa=>Nat.lt_of_lt_of_le (h.lt c aa) fX,h.rp⟩
theorem cH.alloc (h:cH w I T g Fs) (o:Obj):cH (w.alloc o) I T g Fs :=
 h.world (λt c aa=>sz w o c (h.jZ t c aa)) (λc aa=>sz w o c (h.lt c aa)) (by simp)
theorem cH.uG (h:cH w I T g Fs) {d:Nat}{x:ab}{v:Value}{F:bb}(aS:g d=none) (Vj:d<T.size)
  (aY:jD w I (dT w T g) x v F) (r6:∀ t c,F c->¬ Fs t c) (VN:∀ c,F c->¬ I c)
  (au:∀ z p n m new,x=.bL z p n m new->∀ t bC cG m' c3,g t≠some (.bL bC p cG m' c3)) :
  cH w I (T.setIfInBounds d v) (cV g d x) (uP Fs d F):=by
 have dM:∀ t,g t≠none->(T.setIfInBounds d v)[t]?=T[t]?:=by
  intro t aw;rw [Array.getElem?_setIfInBounds_ne];rintro rfl; exact aw aS
 refine ⟨?_,?_,?_,?_,h.lt,?_⟩
 ·intro t y ax;unfold cV at ax
  split at ax
  ·rename_i vv;subst vv;cases ax;exact ⟨v,by simp [Vj],by simpa [uP] using h.w2 dM (λ_ _ _=>rfl) (λ_ _=>rfl) (λ_ h=>h) (Qx aS) aY λ_ _=>rfl⟩
  ·rename_i vv;obtain ⟨u,hu,dH⟩:=h.rel t y ax;exact ⟨u,by rw [dM t (by rw [ax]; simp)]; exact hu,by simpa [uP,vv] using h.w2 dM (λ_ _ _=>rfl) (λ_ _=>rfl) (λ_ h=>h) (Qx aS) dH λ_ _=>rfl⟩
 ·intro t aw c;unfold cV at aw
  split at aw
  ·cases aw
  ·rename_i vv; simpa [uP,vv] using h.kY t aw c
 ·intro t t' c aa fl;by_cases h1:t=d <;> by_cases af:t'=d <;> simp [uP,h1,af] at aa fl
  ·rw [h1,af]
  ·exact absurd fl (r6 t' c aa)
  ·exact absurd aa (r6 t c fl)
  ·exact h.eI t t' c aa fl
 ·intro t c aa hi;by_cases h1:t=d <;> simp [uP,h1] at aa
  ·exact VN c aa hi
  ·exact h.bk t c aa hi
 ·intro t t' z p n m new bC cG m' c3 h1 af;unfold cV at h1 af
  split at h1 <;> split at af
  ·rename_i a b; rw [a,b]
  ·cases h1; exact absurd af (au z p n m new rfl t' bC cG m' c3)
  ·cases af; exact absurd h1 (au bC p cG m' c3 rfl t z n m new)
  ·exact h.rp _ _ _ _ _ _ _ _ _ _ _ h1 af
end
def jR:ab->Option (List ab)
 | .agg cs=>some cs
 | .lit v=>some [.lit v]
 | .aL=>some [.aL]
 | .bk z n cs=>some [.bk z n cs]
 | .cI cs=>some [.cI cs]
 | .ptr p k=>some [.ptr p k]
 | .a6 z p n=>some [.a6 z p n]
 | .sub z p l n=>some [.sub z p l n]
 | .cX f a b=>some [.cX f a b]
 | _=>none
theorem R.jR {w:World}{I:bb}{ρ:ab->Value->Prop}{y:ab}{v:Value}{F:bb}(h:R w I ρ y v F) (aN:∀ c,¬ F c) (lP:∀ x v,x.isRef=true->ρ x v->v.oneCell'=true) {cs:List ab}(aa:jR y=some cs) :
  cs.length=v.cells.size/\(∀ (k:Nat) (u:Value),v.cells[k]?=some u->u.oneCell'=true)/\(∀ (k:Nat) (x:ab) (u:Value),cs[k]?=some x->v.cells[k]?=some u->R w I ρ x u cx):=by
 have one:∀ {y:ab},R w I ρ y v F->v.oneCell'=true->[y].length=v.cells.size/\(∀ (k:Nat) (u:Value),v.cells[k]?=some u->u.oneCell'=true)/\(∀ (k:Nat) (x:ab) (u:Value),[y][k]?=some x->v.cells[k]?=some u->R w I ρ x u cx):=by
  intro y h h1;have Ez:v.cells=#[v]:=by cases v <;> first | rfl | (simp [Value.oneCell'] at h1)
  refine ⟨by simp [Ez],λk u hu=>?_,λk x u J hu=>?_⟩
  ·rw [Ez] at hu;cases k with
   | zero=>simp at hu; subst hu; exact h1
   | succ k=>simp at hu
  rw [Ez] at hu;cases k with
  | zero=>simp at J hu; subst J hu; exact h.empty aN
  | succ k=>simp at J
 cases y <;> simp only [Go.Own.jR,Option.some.injEq,reduceCtorEq] at aa
 case agg l =>
  subst aa;obtain ⟨vs,rfl,ak,h1,aq⟩:=h.Cg aN;exact ⟨ak,h1,aq⟩
 case lit a=>subst aa; exact one h (by obtain ⟨rfl,h1⟩:=h.hC; exact h1)
 case aL=>subst aa; exact one h (by rw [h.sh]; rfl)
 case bk z n l=>subst aa; exact one h (by obtain ⟨a,cap,rfl,_⟩:=h.zJ; rfl)
 case cI l=>subst aa; exact one h (by obtain ⟨ad,us,rfl,_⟩:=h.xz; rfl)
 case ptr p k=>subst aa; exact one h (lP _ _ rfl h.nR)
 case a6 z p n=>subst aa; exact one h (lP _ _ rfl h.nh)
 case sub z p l n=>subst aa; exact one h (lP _ _ rfl h.xA)
 case cX f a b =>
  subst aa;refine one h ?_;cases h with
  | cX=>rfl
  | ref J=>simp [ab.isRef] at J
theorem dT.Fv {w:World}{T:Array Value}{g:aK}{x:ab}{v:Value}(J:x.isRef=true) (h:dT w T g x v):v.oneCell'=true:=by
 obtain ⟨h,_⟩:=h;cases x <;> simp [ab.isRef] at J
 case ptr p k=>obtain ⟨_,_,_,_,rfl⟩:=h; rfl
 case a6 z p n=>obtain ⟨_,_,_,_,rfl,_⟩:=h; rfl
 case sub z p lo n=>obtain ⟨_,_,_,_,_,_,rfl,_⟩:=h; rfl
 case gx p=>obtain ⟨_,_,rfl⟩:=h; rfl
def mn:List ab->Option (List ab)
 | []=>some []
 | y::ys =>
  match jR y,mn ys with
  | some a,some b=>some (a++b)
  | _,_=>none
def gl (g:aK):List Operand->Option (List ab)
 | []=>some []
 | x::xs =>
  match bs g x,gl g xs with
  | some y,some ys=>some (y::ys)
  | _,_=>none
def u9 (place:Nat->Option (Nat × Nat)) (cells:List ab):List (Nat × List ab)->Option (List ab)
 | []=>some cells
 | (i,c)::rest =>
  match place i with
  | none=>none
  | some (off,size)=>if c.length=size/\off+c.length<=cells.length then u9 place (cells.take off++c++cells.drop (off+c.length)) rest else none
def rl (g:aK):List (Nat × Operand)->Option (List (Nat × List ab))
 | []=>some []
 | (i,x)::xs =>
  match bs g x,rl g xs with
  | some y,some ys=>(jR y).map λc=>(i,c)::ys
  | _,_=>none
def kD (P:Program) (t:TypeId) (pl:List (Nat × Nat)):Bool :=
 match P.underlying t with
 | some (.struct fs)=>fs.toList.map (λf=>(f.offset,(P.info? f.type).map (·.size))) == pl.map λ(a,b)=>(a,some b)
 | _=>false
inductive p7 (P:Program) (g:aK):Op->TypeId->ab->Prop
 | box {e ty:TypeId}{x:Operand}{y:ab}{cs:List ab}(J:bs g x=some y) (aa:jR y=some cs):p7 P g (.box e x) ty (.obj cs)
 | alloc {e ty:TypeId}{z:Value}(aX:(P.info? e).bind (·.zero)=some z) (h1:z.cells.all Value.oneCell'=true):p7 P g (.alloc e) ty (.obj (z.cells.toList.map lR))
 | buildSlice {t e ty:TypeId}{z:Nat}{parts:Array (Nat × Operand)}{xs:List Operand}{ys:List ab}{cs:List ab}(aw:fo P t e z=true)
   (au:parts.toList=xs.mapIdx (λi x=>(i,x))) (J:gl g xs=some ys) (aX:∀ y∈ys,∃ c,jR y=some c/\c.length=z) (aa:mn ys=some cs) (av:xs.length * z<=16777216) (aF:xs.length<=16777216) (hzero:xs.length * z=0\/∃ v,(P.info? e).bind (·.zero)=some v/\v.cells.size=z) :
   p7 P g (.buildSlice t xs.length parts) ty (.own z xs.length cs)
 | makeSlice {t e ty:TypeId}{x y:Operand}{z n b:Nat}{xF oV:IntKind}{dI:Value}(aw:fo P t e z=true) (J:bs g x=some (.lit (.int xF (n:Int)))) (ax:bs g y=some (.lit (.int oV (n:Int))))
   (hzero:(P.info? e).bind (·.zero)=some dI) (h1:dI.cells.all Value.oneCell'=true) (pK:dI.cells.size=z) (av:(P.info? e).map (·.bytes)=some b) (aF:n * b<=140737488355328) (ob:n<=4611686018427387904) {yA:List ab}(vD:yA.length=dI.cells.size)
   (EY:∀ (k:Nat) (u:Value) (x:ab),dI.cells[k]?=some u->yA[k]?=some x->x=lR u\/(lR u=.aL/\∃ bC,x=.bk bC 0 [])) :
   p7 P g (.makeSlice t x y) ty (.own z n (List.replicate n yA).flatten)
 | makeMap {t ty:TypeId}{q:Array MapEntry->Nat->Prop}(bg:q #[] 0):p7 P g (.makeMap t none) ty (.mp q)
inductive u0 (P:Program) (g:aK):Op->TypeId->ab->Prop
 | build {t ty:TypeId}{parts:Array (Nat × Operand)}{pl:List (Nat × Nat)}{dI:Value}{ps:List (Nat × List ab)}{cs:List ab}(aw:kD P t pl=true) (aX:(P.info? t).bind (·.zero)=some dI) (h1:dI.cells.all Value.oneCell'=true)
   (au:rl g parts.toList=some ps) (aa:u9 (λi=>pl[i]?) (dI.cells.toList.map lR) ps=some cs):u0 P g (.build t parts) ty (.agg cs)
 | makeFunc {fn:Fn}{first caps:Array Operand}{ty:TypeId}{a b:List ab}(aP:gl g first.toList=some a) (av:gl g caps.toList=some b):u0 P g (.makeFunc fn first caps) ty (.cX fn a b)
section
variable {P:Program}{w:World}{I:bb}{T:Array Value}{g:aK}{Fs:Nat->bb}
theorem zV (h:cH w I T g Fs) {a:Act}(aP:a.tmps=T):∀ {xs:List Operand}{ys:List ab},gl g xs=some ys->ys.length=xs.length/\∀ (k:Nat) (y:ab) (x:Operand),ys[k]?=some y->xs[k]?=some x->R w I (dT w T g) y (a.eval x) cx
 | [],ys,ax=>by simp only [gl,Option.some.injEq] at ax; subst ax; simp
 | x::xs,ys,ax=>by
  simp only [gl] at ax;cases J:bs g x with
  | none=>simp [J] at ax
  | some y =>
   cases sf:gl g xs with
   | none=>simp [J,sf] at ax
   | some DE =>
    simp only [J,sf,Option.some.injEq] at ax;subst ax;obtain ⟨h1,af⟩:=zV h aP sf;refine ⟨by simp [h1],λk y' x' oT gg=>?_⟩;cases k with
    | zero=>simp at oT gg; subst oT gg; exact kg h J aP
    | succ k=>simp at oT gg; exact af k y' x' oT gg
theorem R.alloc (h:cH w I T g Fs) (o:Obj) {x:ab}{v:Value}{F:bb}(aY:R w I (dT w T g) x v F) (aN:∀ c,F c->c<w.heap.size):R (w.alloc o) I (dT (w.alloc o) T g) x v F :=
 h.frame (λ_ _=>rfl) (λt c aa=>sz w o c (h.jZ t c aa)) (λc aa=>sz w o c (h.lt c aa)) (λ_ h=>h) (λ_ _ h=>h) aY λc aa=>sz w o c (aN c aa)
theorem Pa {ρ:ab->Value->Prop}{vs:List Value}:∀ (k:Nat) (x:ab) (u:Value),(vs.map lR)[k]?=some x->vs[k]?=some u->R w I ρ x u cx:=by
 intro k x u J hu;rw [List.getElem?_map,hu] at J;simp only [Option.map_some,Option.some.injEq] at J;subst J;exact CE u
theorem R.O' {ρ:ab->Value->Prop}{cs:List ab}{b:Nat}{e:TypeId}{arr:Array Value}(a1:w.heap[b]?=some (.cells arr e (0,0))) (ak:cs.length=arr.size) (h1:∀ (k:Nat) (u:Value),arr[k]?=some u->u.oneCell'=true)
  (aq:∀ (k:Nat) (x:ab) (u:Value),cs[k]?=some x->arr[k]?=some u->R w I ρ x u cx):R w I ρ (.obj cs) (.pointer (some ⟨b,0,none⟩)) (λc=>c=b) :=
 .obj (Fs:=λ_=>cx) a1 ak h1 aq (λ_ _ _ _ _ h=>h.elim) (λ_ _ h=>h) (λ_=>⟨λh=>.inl h,λh=>h.elim id λ⟨_,_,h⟩=>h.elim⟩)
theorem R.Pm {ρ:ab->Value->Prop}{z n:Nat}{cs:List ab}{b cap:Nat}{e:TypeId}{arr:Array Value}(a1:w.heap[b]?=some (.cells arr e (0,0))) (aF:n<=cap) (aa:cap<=maxLen) (aB:arr.size=cap * z) (ak:cs.length=n * z) (h1:∀ (k:Nat) (u:Value),arr[k]?=some u->u.oneCell'=true)
  (aq:∀ (k:Nat) (x:ab) (u:Value),cs[k]?=some x->arr[k]?=some u->R w I ρ x u cx):R w I ρ (.own z n cs) (.slice (some ⟨b,0,none⟩) n cap) (λc=>c=b):=by
 have hle:n * z<=arr.size:=by rw [aB]; exact Nat.mul_le_mul_right _ aF
 refine .own (e:=e) (us:=arr.toList.take (n * z)) (Fs:=λ_=>cx) ⟨by simp; omega,.inr ⟨b,cap,arr,rfl,Nat.zero_le _,a1,aF,aa,aB,rfl⟩⟩ (by simp; omega) (λk u hu=>?_) ?_ (λ_ _ _ _ _ h=>h.elim) (λ_ _ _ h=>h.elim) (λc=>?_)
 ·rw [List.getElem?_take] at hu
  split at hu
  ·exact h1 k u (by simpa using hu)
  ·cases hu
 ·intro k x u J hu;rw [List.getElem?_take] at hu
  split at hu
  ·exact aq k x u J (by simpa using hu)
  ·cases hu
 ·simp only [Value.ownBlock,Option.some.injEq];exact ⟨λh=>.inl h.symm,λh=>h.elim Eq.symm λ⟨_,_,h⟩=>h.elim⟩
theorem L2 {ρ:ab->Value->Prop}(lP:∀ x v,x.isRef=true->ρ x v->v.oneCell'=true):∀ {ys:List ab}{vs:List Value}{cs:List ab},ys.length=vs.length->(∀ (k:Nat) (y:ab) (v:Value),ys[k]?=some y->vs[k]?=some v->R w I ρ y v cx)->mn ys=some cs ->
  cs.length=(vs.flatMap λv=>v.cells.toList).length/\(∀ (k:Nat) (u:Value),(vs.flatMap λv=>v.cells.toList)[k]?=some u->u.oneCell'=true)/\∀ (k:Nat) (x:ab) (u:Value),cs[k]?=some x->(vs.flatMap λv=>v.cells.toList)[k]?=some u->R w I ρ x u cx
 | [],vs,cs,ak,aq,aa=>by
  cases vs with
  | nil=>simp only [mn,Option.some.injEq] at aa; subst aa; simp
  | cons=>simp at ak
 | y::ys,vs,cs,ak,aq,aa=>by
  cases vs with
  | nil=>simp at ak
  | cons v vs =>
   simp only [mn] at aa;cases aP:jR y with
   | none=>simp [aP] at aa
   | some a =>
    cases av:mn ys with
    | none=>simp [aP,av] at aa
    | some b =>
     simp only [aP,av,Option.some.injEq] at aa;subst aa;obtain ⟨h1,HO,af⟩:=(aq 0 y v rfl rfl).jR (λ_ h=>h) lP aP;obtain ⟨aI,TT,bF⟩:=L2 lP (by simpa using ak) (λk y' gv ax hv=>aq (k+1) y' gv ax hv) av;refine ⟨by simp [h1,aI],λk u hu=>?_,λk x u J hu=>?_⟩
     ·simp only [List.flatMap_cons] at hu;by_cases hk:k<v.cells.toList.length
      ·rw [List.getElem?_append_left hk] at hu;exact HO k u (by simpa using hu)
      ·rw [List.getElem?_append_right (by omega)] at hu;exact TT _ u hu
     simp only [List.flatMap_cons] at hu;by_cases hk:k<a.length
     ·rw [List.getElem?_append_left hk] at J;rw [List.getElem?_append_left (by simp; omega)] at hu;exact af k x u J (by simpa using hu)
     ·rw [List.getElem?_append_right (by omega)] at J;rw [List.getElem?_append_right (by simp; omega)] at hu;refine bF (k - a.length) x u J ?_;rw [<- hu]; simp [h1]
end
end Go.Own
namespace Go.Own
open Go
theorem MU (off:Nat):∀ (l:List Value) (s:Nat) (arr:Array Value),off+s+l.length<=arr.size ->
  ((l.zipIdx s).foldl (λcs (x:Value × Nat)=>cs.setIfInBounds (off+x.2) x.1) arr).toList=arr.toList.take (off+s)++l++arr.toList.drop (off+s+l.length)
 | [],s,arr,h=>by simp
 | v::l,s,arr,h=>by
  simp only [List.length_cons] at h;rw [List.zipIdx_cons,List.foldl_cons,MU off l (s+1) _ (by simp; omega)];simp only [Array.toList_setIfInBounds,List.length_cons];have h1:(arr.toList.set (off+s) v).take (off+(s+1))=arr.toList.take (off+s)++[v]:=by
   rw [show off+(s+1)=off+s+1 by omega,List.take_succ_eq_append_getElem (by simp; omega)];rw [List.take_set_of_le (Nat.le_refl _)];simp
  have af:(arr.toList.set (off+s) v).drop (off+(s+1)+l.length)=arr.toList.drop (off+s+(l.length+1)):=by
   rw [List.drop_set_of_lt (by omega)];congr 1; omega
  rw [h1,af];simp
theorem MP {place:Nat->Option (Nat × Nat)}{i off size:Nat}(au:place i=some (off,size)) {arr:Array Value}{v:Value}(h1:v.cells.size=size) (af:off+v.cells.size<=arr.size) (rest:List (Nat × Value)) :
  ∃ jr:Array Value,Instr.fill place arr ((i,v)::rest)=Instr.fill place jr rest/\jr.toList=arr.toList.take off++v.cells.toList++arr.toList.drop (off+v.cells.size):=by
 refine ⟨_,by simp only [Instr.fill,au]; rw [if_neg (by simp; omega)],?_⟩;have:=MU off v.cells.toList 0 arr (by simpa using af)
 grind [Array.toList_zipIdx]
theorem MO (z:Nat):∀ (vs:List Value) (k:Nat) (arr:Array Value) (done rest:List Value),(∀ v∈vs,v.cells.size=z)->arr.toList=done++rest->done.length=k * z->rest.length=vs.length * z ->
  ∃ jr:Array Value,Instr.fill (λi=>some (i * z,z)) arr (vs.mapIdx λi v=>(k+i,v))=some jr/\jr.toList=done++vs.flatMap λv=>v.cells.toList
 | [],k,arr,done,rest,_,h1,af,aI=>by
  have:rest=[]:=List.eq_nil_of_length_eq_zero (by simpa using aI);subst this;exact ⟨arr,rfl,by simpa using h1⟩
 | v::vs,k,arr,done,rest,aX,h1,af,aI=>by
  have hv:=aX v (by simp);have hlen:arr.size=done.length+rest.length:=by rw [<- Array.length_toList,h1,List.length_append]
  simp only [List.length_cons,Nat.add_mul,Nat.one_mul] at aI;rw [List.mapIdx_cons];obtain ⟨D5,cv,b9⟩:=MP (place:=λi=>some (i * z,z)) (i:=k+0) (off:=k * z) (size:=z) (by simp) (arr:=arr) (v:=v) hv (by omega) ((vs.mapIdx λi v=>(k+(i+1),v)));have tI:D5.toList=(done++v.cells.toList)++rest.drop z:=by
   rw [b9,h1,<- af,List.take_left,hv,List.drop_append];simp
  obtain ⟨jr,fG,mU⟩:=MO z vs (k+1) D5 (done++v.cells.toList) (rest.drop z) (λu hu=>aX u (by simp [hu])) tI (by simp [af,hv,Nat.add_mul]) (by simp; omega);refine ⟨jr,?_,by rw [mU]; simp⟩;rw [cv,<- fG];congr 1;congr 1;funext i u;congr 1; omega
theorem LG {vs:Array Value}(h:vs.all Value.oneCell'=true):∀ (k:Nat) (u:Value),vs[k]?=some u->u.oneCell'=true:=by grind
theorem G6 {P:Program}{e:TypeId}{z:Value}(h:(P.info? e).bind (·.zero)=some z) (w:World):(zeroValue e).run P w=.ok z w:=by
 cases hi:P.info? e with
 | none=>simp [hi] at h
 | some i=>simp [hi] at h; simp [zeroValue,typeInfo,hi,h]
theorem MX {α:Type}(l:List α):∀ (n k:Nat),k<n * l.length->(List.replicate n l).flatten[k]?=l[k % l.length]?
 | 0,k,h=>by simp at h
 | n+1,k,h=>by
  rw [List.replicate_succ,List.flatten_cons];by_cases hk:k<l.length
  ·rw [List.getElem?_append_left hk,Nat.mod_eq_of_lt hk]
  ·rw [List.getElem?_append_right (by omega),MX l n (k - l.length) (by rw [Nat.add_mul] at h; omega)];rw [<- Nat.mod_eq_sub_mod (by omega)]
section
variable {P:Program}{w:World}{I:bb}{T:Array Value}{g:aK}{Fs:Nat->bb}
theorem R0 {ys cs:List ab}{z:Nat}(aX:∀ y∈ys,∃ c,jR y=some c/\c.length=z) (aa:mn ys=some cs):cs.length=ys.length * z:=by
 induction ys generalizing cs with
 | nil=>simp [mn] at aa; subst aa; simp
 | cons y ys aU =>
  obtain ⟨c,h1,af⟩:=aX y (by simp);simp only [mn,h1] at aa
  grind
theorem p7.sound (h:cH w I T g Fs) {a:Act}(aP:a.tmps=T) {o:Oper}{kI:ab}(au:p7 P g o.op o.type kI) :
  ∃ v sm,(execOp a.eval o).run P w=.ok (.value v) (w.alloc sm)/\R (w.alloc sm) I (dT (w.alloc sm) T g) kI v (λc=>c=w.heap.size):=by
 obtain ⟨dst,op,ty,pos,after,guard⟩:=o;simp only at au;have nn:∀ (sm:Obj) {x:ab}{v:Value},R w I (dT w T g) x v cx->R (w.alloc sm) I (dT (w.alloc sm) T g) x v cx:=λsm _ _ aY=>R.alloc h sm aY λ_ h=>h.elim;cases au with
 | @box e _ x y cs J aa =>
  have ax:=kg h J aP;obtain ⟨h1,HO,af⟩:=ax.jR (λ_ h=>h) (λ_ _ J aq=>aq.Fv J) aa;refine ⟨_,.cells (a.eval x).cells e,by simp [execOp,Instr.box,newVar,newRow],R.O' (e:=e) (tw w _) h1 HO λk x u J hu=>nn _ (af k x u J hu)⟩
 | @alloc e _ z aX ht =>
  refine ⟨_,.cells z.cells e,by simp [execOp,Instr.alloc,newVar,newRow,G6 aX],R.O' (e:=e) (tw w _) (by simp) (LG ht) λk x u J hu=>nn _ (Pa k x u J (by simpa using hu))⟩
 | @makeMap t _ q bg =>
  have IN:(Instr.makeMap t none).run P w=.ok (.map (some w.heap.size)) (w.alloc (.map #[] 0)):=rfl;exact ⟨.map (some w.heap.size),.map #[] 0,by simp [execOp,IN],.mp (tw w _) bg λc=>Iff.rfl⟩
 | @buildSlice t e _ z parts xs ys cs aw au J aX aa av kx hzero =>
  obtain ⟨hu,he,fX⟩:=qK (w:=w) aw;obtain ⟨ak,aq⟩:=zV h aP J;have hf:=R0 aX aa;have Wm:∀ v∈xs.map a.eval,v.cells.size=z:=by
   intro v hv;obtain ⟨x,zH,rfl⟩:=List.mem_map.1 hv;obtain ⟨k,hk,rfl⟩:=List.mem_iff_getElem.1 zH;have oT:ys[k]?=some (ys[k]'(by omega)):=List.getElem?_eq_getElem (by omega);obtain ⟨c,h1,af⟩:=aX _ (List.getElem_mem (l:=ys) (n:=k) (by omega));obtain ⟨aI,_,_⟩:=(aq k _ _ oT (List.getElem?_eq_getElem hk)).jR (λ_ h=>h) (λ_ _ J aq=>aq.Fv J) h1
   grind
  obtain ⟨dI,WX⟩:∃ dI:Array Value,(xs.length * z=0/\dI=#[])\/(xs.length * z≠0/\∃ v,dI=v.cells/\(zeroValue e).run P w=.ok v w):=by
   by_cases aQ:xs.length * z=0
   ·grind
   ·rcases hzero with h1 | ⟨v,h1,af⟩
    ·grind
    simp_all [G6]
  obtain ⟨arr,cv,b9⟩:=MO z (xs.map a.eval) 0 ((Array.range (xs.length * z)).map (dI[· % dI.size]!)) [] ((Array.range (xs.length * z)).map (dI[· % dI.size]!)).toList Wm (by simp) (by simp) (by simp);have N5:(parts.map λ(p:Nat × Operand)=>(p.1,a.eval p.2)).toList=(xs.map a.eval).mapIdx λi v=>(0+i,v):=by
   rw [Array.toList_map,au];apply List.ext_getElem?
   grind
  obtain ⟨hL,iq,Vi⟩:=L2 (ρ:=dT w T g) (λ_ _ J aq=>aq.Fv J) (ys:=ys) (vs:=xs.map a.eval) (by simp [ak]) (λk y v ax hv=>by
   rw [List.getElem?_map] at hv;cases qx:xs[k]? with
   | none=>simp [qx] at hv
   | some x=>simp [qx] at hv; subst hv; exact aq k y x ax qx) aa
  have sL:arr.toList=(xs.map a.eval).flatMap λv=>v.cells.toList:=by simpa using b9
  have Wa:arr.size=xs.length * z:=by rw [<- Array.length_toList,sL,<- hL,hf,ak]
  have hT:(execOp a.eval { dst:=dst,op:=.buildSlice t xs.length parts,type:=ty,pos:=pos,after:=after,guard:=guard }).run P w=.ok (.value (.slice (some ⟨w.heap.size,0,none⟩) xs.length xs.length)) (w.alloc (.cells arr e)):=by
   have hle:¬ (16777216<xs.length * z):=by omega
   rcases WX with ⟨aQ,rfl⟩ | ⟨aQ,v,rfl,WW⟩
   ·simp only [aQ] at cv;rw [<- N5] at cv;simp at cv;simp [execOp,Instr.buildSlice,run_underlying hu,fX,aQ,cv,newRow]
   ·rw [<- N5] at cv;simp at cv;simp [execOp,Instr.buildSlice,run_underlying hu,fX,aQ,hle,WW,cv,newRow]
  refine ⟨_,_,hT,R.Pm (e:=e) (arr:=arr) (tw w _) (Nat.le_refl _) ?_ Wa (by rw [hf,ak]) (λk u hu=>iq k u (by rw [<- sL]; simpa using hu)) λk x u J hu=>nn _ (Vi k x u J ?_)⟩
  ·grind [maxLen]
  grind
 | @makeSlice t e _ x y z n b xF oV dI aw J ax hzero ht pK av aF ob yA vD EY =>
  obtain ⟨hu,he,fX⟩:=qK (w:=w) aw;have h1:=(kg h J aP).hC.1;have af:=(kg h ax aP).hC.1;cases hi:P.info? e with
  | none=>simp [hi] at av
  | some i =>
   simp [hi] at av hzero;have NQ:i.size=z:=by
    grind [fo]
   have Ey:(i.bytes:Int) * (n:Int)<=281474976710656:=by
    grind
   have aq:=run_make (P:=P) w t e i dI hu hi hzero xF oV n n (by omega) (Int.le_refl _) Ey (by omega);simp only [Int.toNat_natCast] at aq;refine ⟨_,.cells (madeCells dI.cells (n * i.size)) e,by simp [execOp,h1,af,aq],R.Pm (e:=e) (tw w _) (Nat.le_refl _) (by unfold maxLen; omega) (by rw [size_madeCells,NQ]) (by simp [pK,vD]) (λk u hu=>?_) λk x u J hu=>?_⟩
   ·grind [madeCells,Nat.mod_lt]
   have hk:k<n * dI.cells.size:=by
    have:=(List.getElem?_eq_some_iff.1 J).1
    simp_all
   have aQ:0<dI.cells.size:=by
    grind
   have hm:k % dI.cells.size<dI.cells.size:=Nat.mod_lt _ aQ;rw [MX _ n k (by simpa [vD] using hk),vD] at J;rw [madeCells,Array.getElem?_map,Array.getElem?_range,if_pos (by rw [NQ,<- pK]; exact hk)] at hu;simp only [Option.map_some,Option.some.injEq] at hu;have jP:dI.cells[k % dI.cells.size]! = dI.cells[k % dI.cells.size]:=by simp [hm]
   rw [jP] at hu;subst hu;rcases EY _ _ x (Array.getElem?_eq_getElem hm) J with rfl | ⟨h1,bC,rfl⟩
   ·grind [CE]
   ·have aY:=CE (w:=w) (I:=I) (ρ:=dT w T g) dI.cells[k % dI.cells.size];rw [h1] at aY;rw [aY.sh];exact .hM λ_ h=>h
def Cells (w:World) (I:bb) (ρ:ab->Value->Prop) (cs:List ab) (vs:List Value):Prop :=
 cs.length=vs.length/\(∀ (k:Nat) (u:Value),vs[k]?=some u->u.oneCell'=true)/\∀ (k:Nat) (x:ab) (u:Value),cs[k]?=some x->vs[k]?=some u->R w I ρ x u cx
theorem Cells.append {ρ:ab->Value->Prop}{a b:List ab}{u v:List Value}(h:Cells w I ρ a u) (aR:Cells w I ρ b v):Cells w I ρ (a++b) (u++v):=by
 refine ⟨by simp [h.1,aR.1],λk y ax=>?_,λk x y J ax=>?_⟩
 ·by_cases hk:k<u.length
  ·rw [List.getElem?_append_left hk] at ax; exact h.2.1 k y ax
  ·rw [List.getElem?_append_right (by omega)] at ax; exact aR.2.1 _ y ax
 ·by_cases hk:k<a.length
  ·rw [List.getElem?_append_left hk] at J;rw [List.getElem?_append_left (by rw [<- h.1]; exact hk)] at ax;exact h.2.2 k x y J ax
  ·rw [List.getElem?_append_right (by omega)] at J;rw [List.getElem?_append_right (by rw [<- h.1]; omega)] at ax;exact aR.2.2 _ x y J (by rw [h.1]; exact ax)
theorem Cells.take {ρ:ab->Value->Prop}{a:List ab}{u:List Value}(h:Cells w I ρ a u) (n:Nat):Cells w I ρ (a.take n) (u.take n):=by
 refine ⟨by simp [h.1],λk y ax=>?_,λk x y J ax=>?_⟩
 ·rw [List.getElem?_take] at ax
  split at ax
  ·exact h.2.1 k y ax
  grind
 ·rw [List.getElem?_take] at J ax
  split at J
  ·rename_i hk;rw [if_pos hk] at ax;exact h.2.2 k x y J ax
  grind
theorem Cells.drop {ρ:ab->Value->Prop}{a:List ab}{u:List Value}(h:Cells w I ρ a u) (n:Nat):Cells w I ρ (a.drop n) (u.drop n):=by
 refine ⟨by simp [h.1],λk y ax=>?_,λk x y J ax=>?_⟩
 ·rw [List.getElem?_drop] at ax; exact h.2.1 _ y ax
 ·rw [List.getElem?_drop] at J ax;exact h.2.2 _ x y J ax
theorem MN {ρ:ab->Value->Prop}{place:Nat->Option (Nat × Nat)}:∀ (ps:List (Nat × List ab)) (ti:List (Nat × Value)) {cells cs:List ab}{arr:Array Value},Cells w I ρ cells arr.toList ->
  ps.map (·.1)=ti.map (·.1)->(∀ (k:Nat) (p:Nat × List ab) (q:Nat × Value),ps[k]?=some p->ti[k]?=some q->Cells w I ρ p.2 q.2.cells.toList)->u9 place cells ps=some cs ->
  ∃ jr:Array Value,Instr.fill place arr ti=some jr/\Cells w I ρ cs jr.toList
 | [],ti,cells,cs,arr,aa,hk,_,aW=>by
  cases ti with
  | nil=>simp only [u9,Option.some.injEq] at aW; subst aW; exact ⟨arr,rfl,aa⟩
  | cons=>simp at hk
 | (i,c)::ps,ti,cells,cs,arr,aa,hk,aq,aW=>by
  cases ti with
  | nil=>simp at hk
  | cons q ti =>
   obtain ⟨j,v⟩:=q;simp only [List.map_cons,List.cons.injEq] at hk;obtain ⟨rfl,hk⟩:=hk;have aQ:=aq 0 _ _ rfl rfl;simp only [u9] at aW;cases au:place i with
   | none=>simp [au] at aW
   | some os =>
    obtain ⟨off,size⟩:=os;simp only [au] at aW
    split at aW
    ·rename_i ack;have hlen:v.cells.size=c.length:=by rw [<- Array.length_toList]; exact aQ.1.symm
     have NW:arr.size=cells.length:=by rw [<- Array.length_toList]; exact aa.1.symm
     obtain ⟨D5,cv,b9⟩:=MP (arr:=arr) (v:=v) au (by omega) (by omega) ti;have iq:Cells w I ρ (cells.take off++c++cells.drop (off+c.length)) D5.toList:=by
      rw [b9,hlen];exact ((aa.take off).append aQ).append (aa.drop _)
     obtain ⟨jr,fG,mU⟩:=MN ps ti iq hk (λk p q au bg=>aq (k+1) p q au bg) aW;exact ⟨jr,by rw [cv,fG],mU⟩
    ·cases aW
theorem Ps (h:cH w I T g Fs) {a:Act}(aP:a.tmps=T):∀ {l:List (Nat × Operand)}{ps:List (Nat × List ab)},rl g l=some ps ->
  ps.map (·.1)=(l.map λp=>(p.1,a.eval p.2)).map (·.1)/\∀ (k:Nat) (p:Nat × List ab) (q:Nat × Value),ps[k]?=some p->(l.map λp=>(p.1,a.eval p.2))[k]?=some q->Cells w I (dT w T g) p.2 q.2.cells.toList
 | [],ps,au=>by simp only [rl,Option.some.injEq] at au; subst au; simp
 | (i,x)::l,ps,au=>by
  simp only [rl] at au;cases J:bs g x with
  | none=>simp [J] at au
  | some y =>
   cases ak:rl g l with
   | none=>simp [J,ak] at au
   | some ac7 =>
    simp only [J,ak,Option.map_eq_some_iff] at au;obtain ⟨c,aa,rfl⟩:=au;obtain ⟨h1,af⟩:=Ps h aP ak;refine ⟨by simp [h1],λk p q au bg=>?_⟩;cases k with
    | zero =>
     simp at au bg;subst au bg;obtain ⟨aI,TR,bF⟩:=(kg h J aP).jR (λ_ h=>h) (λ_ _ J aq=>aq.Fv J) aa;exact ⟨by simpa using aI,λk u hu=>TR k u (by simpa using hu),λk x u J hu=>bF k x u J (by simpa using hu)⟩
    | succ k=>simp at au bg; exact af k p q au (by simpa using bg)
theorem Y2 {t:TypeId}{pl:List (Nat × Nat)}(h:kD P t pl=true):∃ fs,P.underlying t=some (.struct fs)/\fs.toList.mapM (λf=>(P.info? f.type).map λi=>(f.offset,i.size))=some pl:=by
 unfold kD at h;cases hu:P.underlying t with
 | none=>simp [hu] at h
 | some d =>
  cases d <;> simp only [hu,Bool.false_eq_true] at h;rename_i fs;refine ⟨fs,rfl,?_⟩;replace h:=LawfulBEq.eq_of_beq h;generalize fs.toList=l at h
  induction l generalizing pl with
  | nil=>cases pl with
   | nil=>rfl
   | cons=>simp at h
  | cons f l aU =>
   cases pl with
   | nil=>simp at h
   | cons p pl =>
    obtain ⟨o,s⟩:=p;simp only [List.map_cons,List.cons.injEq,Prod.mk.injEq] at h;obtain ⟨⟨rfl,h1⟩,af⟩:=h;have:=aU af;rw [List.mapM_cons,this];cases hi:P.info? f.type with
    | none=>simp [hi] at h1
    | some i=>simp [hi] at h1; subst h1; rfl
theorem u0.sound (h:cH w I T g Fs) {a:Act}(aP:a.tmps=T) {o:Oper}{kI:ab}(au:u0 P g o.op o.type kI) :
  ∃ v,(execOp a.eval o).run P w=.ok (.value v) w/\R w I (dT w T g) kI v cx:=by
 obtain ⟨dst,op,ty,pos,after,guard⟩:=o;simp only at au;cases au with
 | @build t _ parts pl dI ps cs aw aX ht au aa =>
  obtain ⟨fs,hu,ug⟩:=Y2 aw;obtain ⟨h1,af⟩:=Ps h aP au;obtain ⟨jr,cv,b9⟩:=MN (w:=w) (I:=I) (ρ:=dT w T g) (place:=λi=>pl[i]?) ps _ (arr:=dI.cells) ⟨by simp,λk u hu=>LG ht k u (by simpa using hu),λk x u J hu=>Pa k x u J hu⟩ h1 af aa;refine ⟨.agg jr,?_,.agg (Fs:=λ_=>cx) (by simpa using b9.1) (λk u hu=>b9.2.1 k u (by simpa using hu)) (λk x u J hu=>b9.2.2 k x u J (by simpa using hu)) (λ_ _ _ _ _ h=>h.elim) (λc=>⟨λh=>h.elim,λ⟨_,_,h⟩=>h⟩)⟩;have acS:=run_places (P:=P) w fs.toList pl ug;have av:P.built t ((parts.map λ(p:Nat × Operand)=>(p.1,a.eval p.2))).toList=some jr:=by
   rw [Array.toList_map];cases hi:P.info? t with
   | none=>simp [hi] at aX
   | some it =>
    simp_all [Program.built]
  simp_all [run_build,execOp]
 | @makeFunc fn first caps _ gS gk h1 af =>
  obtain ⟨aD,a2⟩:=zV h aP h1;obtain ⟨hn,iD⟩:=zV h aP af;refine ⟨.func fn (first.map a.eval) (caps.map a.eval),by simp [execOp,Instr.makeFunc],.cX (λ_ h=>h) (by simpa using aD) (by simpa using hn) (λk x u J hu=>?_) (λk x u J hu=>?_)⟩
  ·grind
  grind
end
end Go.Own
namespace Go.Own
open Go
structure DL (w w':World) (bv gv:Value) (e b9:TypeId) (z n m:Nat) (us news:List Value):Prop where
 nn:w'.ownsRow 0 e z bv n us
 new:w'.ownsRow 0 b9 z gv (n+m) (us++news)
 eT:Fr w w' (λc=>bv.ownBlock=some c)
 D8:∀ c,gv.ownBlock=some c->bv.ownBlock=some c\/w.heap.size<=c
 sp:∀ c,bv.ownBlock=some c->∃ arr jr:Array Value,w.heap[c]?=some (.cells arr e (0,0))/\w'.heap[c]?=some (.cells jr e (0,0))/\jr.size=arr.size/\jr.toList.take (n * z)=arr.toList.take (n * z)
section
variable {P:Program}{w:World}
theorem DL.same {bv gv:Value}{e b9:TypeId}{z n m:Nat}{us news:List Value}{w':World}(lk:w.ownsRow 0 e z bv n us) (av:∀ c,c<w.heap.size->w'.heap[c]?=w.heap[c]?) (aB:w.heap.size<=w'.heap.size)
  (h1:w'.os=w.os) (af:w'.tape=w.tape) (aI:w'.output=w.output) (r6:w'.ownsRow 0 b9 z gv (n+m) (us++news)) (hblk:∀ c,gv.ownBlock=some c->bv.ownBlock=some c\/w.heap.size<=c) (q':∀ a,w'.frozen? a=w.frozen? a) (Vl:w.drawn<=w'.drawn:=by first | exact Nat.le_refl _ | exact Nat.le_succ _):DL w w' bv gv e b9 z n m us news:=by
 have aT:=lk.lt;refine ⟨vO lk λc aa=>av c (aT c aa).2,r6,⟨h1,af,aI,aB,λb l2 _=>av b l2,λa _=>q' a,Vl⟩,hblk,λc aa=>?_⟩;obtain ⟨_,bY⟩:=lk;rcases bY with ⟨rfl,_⟩ | ⟨b,cap,cur,rfl,_,aO,_⟩
 ·simp [Value.ownBlock] at aa
 ·simp only [Value.ownBlock,Option.some.injEq] at aa;subst aa;exact ⟨cur,cur,aO,(av _ (aT b rfl).2).trans aO,rfl,rfl⟩
theorem Yq (t ty e cj:TypeId) (i:TypeInfo) (aw:P.underlying t=some (.slice e)) (hi:P.info? e=some i)
  (b yk Ky:Nat) (cur:Array Value) (aO:w.heap[b]?=some (.cells cur cj (0,0)))
  (a:Addr) (m c:Nat) (news:List Value) (ak:news.length=m * i.size) (uf:∀ j u,news[j]?=some u->w.cell? (a.add j)=some u) (h1:∀ u∈news,u.oneCell'=true)
  (B2:yk+m<=Ky) (xf:yk * i.size+news.length<=cur.size) :
  (Builtin.append_ #[t,t] ty #[.slice (some ⟨b,0,none⟩) yk Ky,.slice (some a) m c]).run P w =
   .ok (.slice (some ⟨b,0,none⟩) (yk+m) Ky) (w.setRow b (cur.toList.take (yk * i.size)++news++cur.toList.drop (yk * i.size+news.length)).toArray):=by
 have aW:=run_firstCells_some (P:=P) w i.size m a m c news ak uf;have b0:=run_storeCells_at P b (yk * i.size) cj news 0 cur w aO (by simpa using xf) h1;simp only [Nat.add_zero] at b0;simp [Builtin.append_,run_underlying aw,sizeOf,typeInfo,hi,Builtin.lenOf,B2,aW,Addr.add_lit,b0]
theorem PN (t ty e cj:TypeId) (i:TypeInfo) (dI:Value) (aw:P.underlying t=some (.slice e)) (hi:P.info? e=some i) (aX:i.zero=some dI) (pK:dI.cells.size=i.size) (_h0:0<i.size)
  {bv:Value}{n m c:Nat}{us news:List Value}(lk:w.ownsRow 0 cj i.size bv n us) {a:Option Addr}(aP:0<m->a.isSome=true)
  (ak:news.length=m * i.size) (uf:∀ ad,a=some ad->∀ (j:Nat) (u:Value),news[j]?=some u->w.cell? (ad.add j)=some u) (h1:∀ u∈news,u.oneCell'=true)
  (q9:n+m<=maxLen) (Ey:(n+m) * i.bytes<=140737488355328) :
  ∃ gv w' b9,(Builtin.append_ #[t,t] ty #[bv,.slice a m c]).run P w=.ok gv w'/\DL w w' bv gv cj b9 i.size n m us news:=by
 have l8:=lk.1;by_cases hm:m=0
 ·subst hm;have aF:news=[]:=List.eq_nil_of_length_eq_zero (by simpa using ak);subst aF;refine ⟨bv,w,cj,?_,.same lk (λ_ _=>rfl) (Nat.le_refl _) rfl rfl rfl (by simpa using lk) (λc aa=>.inl aa) λ_=>rfl⟩;obtain ⟨_,bY⟩:=lk;rcases bY with ⟨rfl,rfl⟩ | ⟨b,cap,cur,rfl,_,aO,hle,_⟩
  ·cases a <;> simp [Builtin.append_,run_underlying aw,sizeOf,typeInfo,hi,Builtin.lenOf,Builtin.firstCells,loadCells,loadCellsFrom]
  ·cases a <;> simp [Builtin.append_,run_underlying aw,sizeOf,typeInfo,hi,Builtin.lenOf,Builtin.firstCells,loadCells,loadCellsFrom,hle,storeCells]
 ·cases a with
  | none=>simp at aP; omega
  | some ad =>
   replace uf:=uf ad rfl;have acT:n+m<=9223372036854775807:=by simp only [maxLen] at q9; omega
   have grown:∀ (nn:Nat),nn<n+m ->
     (w.drew.alloc (.cells (us.toArray++news.toArray++Builtin.zeroCells dI.cells (grownCap w (n+m) nn e - (n+m))) e)).ownsRow 0 e i.size (.slice (some ⟨w.heap.size,0,none⟩) (n+m) (grownCap w (n+m) nn e)) (n+m) (us++news):=by
    intro nn a1;have dS:=grownCap_ge w (n+m) nn e;have hlen:(us++news).length=(n+m) * i.size:=by rw [List.length_append,l8,ak,Nat.add_mul]
    refine ⟨hlen,.inr ⟨w.heap.size,_,_,rfl,Nat.zero_le _,tw w.drew _,dS,grownCap_le_maxLen w (n+m) nn e q9,?_,?_⟩⟩
    ·simp only [Array.size_append,List.size_toArray,size_zeroCells,pK,l8,ak,<- Nat.add_mul];congr 1;omega
    ·simp only [Array.toList_append,List.append_assoc];rw [<- List.append_assoc,<- hlen];exact List.take_left
   have IT:=lk;obtain ⟨_,bY⟩:=lk;rcases bY with ⟨rfl,rfl⟩ | ⟨b,cap,cur,rfl,_,aO,hle,vi,hL,Og⟩
   ·have J:us=[]:=List.eq_nil_of_length_eq_zero (by simpa using l8);subst J;have aq:=run_append_nil (P:=P) w t ty e i dI aw hi aX ad m c news ak uf (by omega) (by omega) (by simp only [Nat.zero_add] at Ey; omega);have r4:=grown 0 (by omega);simp only [Nat.zero_add,List.nil_append,Array.empty_append] at r4;exact ⟨_,_,e,aq,.same IT (λc aa=>sz w.drew _ c aa) (by simp) rfl rfl rfl (by simpa using r4) (λc aa=>.inr (by simp [Value.ownBlock] at aa; omega)) (λa=>HF w.drew _ _ a)⟩
   ·by_cases B2:n+m<=cap
    ·have xf:n * i.size+news.length<=cur.size:=by rw [ak,hL,<- Nat.add_mul]; exact Nat.mul_le_mul_right _ B2
     have aq:=Yq (P:=P) (w:=w) t ty e cj i aw hi b n cap cur aO ad m c news ak uf h1 B2 xf;have hlen:(us++news).length=(n+m) * i.size:=by rw [List.length_append,l8,ak,Nat.add_mul]
     have fX:(cur.toList.take (n * i.size)++news++cur.toList.drop (n * i.size+news.length)).toArray.size=cur.size:=by
      simp only [List.size_toArray,List.length_append,List.length_take,List.length_drop,Array.length_toList];omega
     have ga:(cur.toList.take (n * i.size)++news++cur.toList.drop (n * i.size+news.length)).take (n * i.size)=cur.toList.take (n * i.size):=by
      rw [List.append_assoc];exact List.take_left' (by simp; omega)
     refine ⟨_,_,cj,aq,⟨⟨l8,.inr ⟨b,cap,_,rfl,Nat.zero_le _,setRow_heap w b cur _ cj _ aO,hle,vi,fX.trans hL,?_⟩⟩,⟨hlen,.inr ⟨b,cap,_,rfl,Nat.zero_le _,setRow_heap w b cur _ cj _ aO,B2,vi,fX.trans hL,?_⟩⟩,
      ⟨rfl,rfl,rfl,by simp,λk _ hk=>setRow_other w b k _ (λe=>hk (by simp [Value.ownBlock,e])),λa _=>HH w b _ a,Nat.le_refl _⟩,λc aa=>.inl aa,λc aa=>?_⟩⟩
     ·rw [<- Og]; exact ga
     ·rw [Og,<- hlen];exact List.take_left
     ·simp only [Value.ownBlock,Option.some.injEq] at aa;subst aa;exact ⟨cur,_,aO,setRow_heap w b cur _ cj _ aO,fX,ga⟩
    ·have holds:∀ (j:Nat) (u:Value),us[j]?=some u->w.cell? ((⟨b,0,none⟩:Addr).add j)=some u:=IT.cells (g:=b) rfl;have aq:=run_append_grow (P:=P) w t ty e i dI aw hi aX ⟨b,0,none⟩ n cap us l8 holds ad m c news ak uf (by omega) (by omega) (growslice_fits (by omega) Ey);have r4:=grown cap (by omega);exact ⟨_,_,e,aq,.same IT (λc aa=>sz w.drew _ c aa) (by simp) rfl rfl rfl r4 (λc aa=>.inr (by simp [Value.ownBlock] at aa; omega)) (λa=>HF w.drew _ _ a)⟩
end
end Go.Own
namespace Go.Own
open Go
section
variable {w w':World}{I:bb}{ρ ρ':ab->Value->Prop}
theorem R.kids {x:ab}{v:Value}{F:bb}(h:R w I ρ x v F) (J:x.kids≠[]):∃ Fs:Nat->bb,
  (∀ k y,x.kids[k]?=some y->∃ u,child w v k=some u/\R w I ρ y u (Fs k))/\(∀ (j k c:Nat),j<x.kids.length->k<x.kids.length->Fs j c->Fs k c->j=k) /\
  (∀ k c,k<x.kids.length->Fs k c->F c)/\(∀ z n cs,x=.own z n cs->∀ c,v.ownBlock=some c->∀ k,k<x.kids.length->¬ Fs k c):=by
 cases h with
 | @own z n cs _ e us Fs _ a1 ak h1 aq aS av aN =>
  refine ⟨Fs,λk y hk=>?_,aS,λk c hk aa=>(aN c).2 (.inr ⟨k,hk,aa⟩),λ_ _ _ _ c aa k hk h=>av k c hk h aa⟩;simp only [ab.kids] at hk;have aT:k<cs.length:=(List.getElem?_eq_some_iff.1 hk).1;have hu:us[k]?=some us[k]:=List.getElem?_eq_getElem (ak ▸ aT)
  grind [pS]
 | @obj cs b e arr Fs _ a1 ak h1 aq aS av aN =>
  refine ⟨Fs,λk y hk=>?_,aS,λk c hk aa=>(aN c).2 (.inr ⟨k,hk,aa⟩),λ_ _ _ h=>by simp at h⟩;simp only [ab.kids] at hk;have aT:k<cs.length:=(List.getElem?_eq_some_iff.1 hk).1;have hu:arr[k]?=some arr[k]:=Array.getElem?_eq_getElem (ak ▸ aT);exact ⟨_,by simp [child,World.cell?,a1,hu],aq k y _ hk hu⟩
 | @agg cs vs Fs _ ak h1 aq aS aN =>
  refine ⟨Fs,λk y hk=>?_,aS,λk c hk aa=>(aN c).2 ⟨k,hk,aa⟩,λ_ _ _ h=>by simp at h⟩;simp only [ab.kids] at hk;have aT:k<cs.length:=(List.getElem?_eq_some_iff.1 hk).1
  simp_all [child]
 | @bW cs vs Fs _ ak aq aS aN =>
  refine ⟨Fs,λk y hk=>?_,aS,λk c hk aa=>(aN c).2 ⟨k,hk,aa⟩,λ_ _ _ h=>by simp at h⟩;simp only [ab.kids] at hk;have aT:k<cs.length:=(List.getElem?_eq_some_iff.1 hk).1
  simp_all [child]
 | ref gg=>cases x <;> simp [ab.isRef,ab.kids] at gg J
 | _=>simp [ab.kids] at J
theorem ab.u5 {x y:ab}{k:Nat}{p:List Nat}(h:x.at (k::p)=some y):∃ c,x.kids[k]?=some c/\c.at p=some y:=by
 grind [ab.at]
theorem R.J3 {b:Nat}:∀ (q r:List Nat) {x:ab}{v:Value}{F:bb}{z n bC cG:Nat}{cs cs':List ab}{mJ Du:Value},R w I ρ x v F->x.at q=some (.own z n cs)->x.at r=some (.own bC cG cs') ->
  walk w v q=some mJ->walk w v r=some Du->mJ.ownBlock=some b->Du.ownBlock=some b->q=r
 | [],[],_,_,_,_,_,_,_,_,_,_,_,_,_,_,_,_,_,_=>rfl
 | [],k::r,x,v,F,z,n,bC,cG,cs,cs',mJ,Du,h,bg,aq,ou,wr,y8,y9=>by
  obtain ⟨c,hk,aa⟩:=ab.u5 aq;simp only [ab.at,Option.some.injEq] at bg;simp only [walk,Option.some.injEq] at ou;subst bg ou;have aT:k<(ab.own z n cs).kids.length:=(List.getElem?_eq_some_iff.1 hk).1;obtain ⟨Fs,h1,af,aI,bF⟩:=h.kids (by intro e; rw [e] at aT; simp at aT);obtain ⟨u,hu,mX⟩:=h1 k c hk;simp only [walk,hu] at wr;obtain ⟨h5,cy,hw,dH,dw,_⟩:=R.focus r mX aa;rw [hw] at wr;cases wr;exact absurd (dw b (dH.qC b y9)) (bF z n cs rfl b y8 k aT)
 | j::q,[],x,v,F,z,n,bC,cG,cs,cs',mJ,Du,h,bg,aq,ou,wr,y8,y9=>by
  obtain ⟨c,hk,aa⟩:=ab.u5 bg;simp only [ab.at,Option.some.injEq] at aq;simp only [walk,Option.some.injEq] at wr;subst aq wr;have aT:j<(ab.own bC cG cs').kids.length:=(List.getElem?_eq_some_iff.1 hk).1;obtain ⟨Fs,h1,af,aI,bF⟩:=h.kids (by intro e; rw [e] at aT; simp at aT);obtain ⟨u,hu,mX⟩:=h1 j c hk;simp only [walk,hu] at ou;obtain ⟨h5,cy,hw,dH,dw,_⟩:=R.focus q mX aa;rw [hw] at ou;cases ou;exact absurd (dw b (dH.qC b y8)) (bF bC cG cs' rfl b y9 j aT)
 | j::q,k::r,x,v,F,z,n,bC,cG,cs,cs',mJ,Du,h,bg,aq,ou,wr,y8,y9=>by
  obtain ⟨c,ah,aa⟩:=ab.u5 bg;obtain ⟨d,hk,aS⟩:=ab.u5 aq;have eZ:j<x.kids.length:=(List.getElem?_eq_some_iff.1 ah).1;have fu:k<x.kids.length:=(List.getElem?_eq_some_iff.1 hk).1;obtain ⟨Fs,h1,af,aI,bF⟩:=h.kids (by intro e; rw [e] at eZ; simp at eZ);obtain ⟨u,hu,mX⟩:=h1 j c ah;obtain ⟨wk,jP,H2⟩:=h1 k d hk;simp only [walk,hu] at ou;simp only [walk,jP] at wr;by_cases gX:j=k
  ·subst gX;rw [ah] at hk; cases hk;rw [hu] at jP; cases jP;rw [R.J3 q r mX aa aS ou wr y8 y9]
  ·exfalso;obtain ⟨h5,cy,hw,dH,dw,_⟩:=R.focus q mX aa;obtain ⟨Zx,jn,vz,Bz,Uk,_⟩:=R.focus r H2 aS;rw [hw] at ou; cases ou;rw [vz] at wr; cases wr;exact gX (af j k b eZ fu (dw b (dH.qC b y8)) (Uk b (Bz.qC b y9)))
theorem ab.P2:∀ (q:List Nat) {x y:ab},x.at q=some y->x.setAt q y=x
 | [],x,y,h=>by simp [ab.at] at h; simp [ab.setAt,h]
 | k::q,x,y,h=>by
  obtain ⟨c,hk,aa⟩:=ab.u5 h;simp only [ab.setAt,hk,ab.P2 q aa];have:∀ (l:List ab),l[k]?=some c->l.set k c=l:=by
   intro l ak;apply List.ext_getElem?;intro j;by_cases gX:k=j
   ·subst gX;have aT:k<l.length:=(List.getElem?_eq_some_iff.1 ak).1;rw [List.getElem?_set_self aT,ak]
   ·rw [List.getElem?_set_ne gX]
  cases x <;> simp [ab.kids] at hk <;> simp [ab.wi,this _ hk]
theorem Dx (w:World):∀ (p:List Nat) (v:Value) (r:List Nat),walk w v (p++r)=(walk w v p).bind λu=>walk w u r
 | [],v,r=>rfl
 | k::p,v,r=>by
  simp only [List.cons_append,walk];cases child w v k with
  | none=>rfl
  | some u=>exact Dx w p u r
theorem ab.GY:∀ (p:List Nat) (x:ab) (r:List Nat),x.at (p++r)=(x.at p).bind λy=>y.at r
 | [],x,r=>rfl
 | k::p,x,r=>by
  simp only [List.cons_append,ab.at];cases x.kids[k]? with
  | none=>rfl
  | some u=>exact ab.GY p u r
structure DZ (w w':World) (b M:Nat):Prop where
 other:∀ c,c<w.heap.size->c≠b->w'.heap[c]?=w.heap[c]?
 here:∃ (arr jr:Array Value) (e:TypeId),w.heap[b]?=some (.cells arr e (0,0))/\w'.heap[b]?=some (.cells jr e (0,0))/\jr.size=arr.size/\jr.toList.take M=arr.toList.take M
theorem DZ.row {b M:Nat}(s:DZ w w' b M) {e:TypeId}{z n:Nat}{v:Value}{us:List Value}(h:w.ownsRow 0 e z v n us) (aF:v.ownBlock=some b->n * z<=M):w'.ownsRow 0 e z v n us:=by
 by_cases av:v.ownBlock=some b
 ·obtain ⟨arr,jr,cv,h1,af,aI,bF⟩:=s.here;obtain ⟨hu,bY⟩:=h;rcases bY with ⟨rfl,rfl⟩ | ⟨g,cap,cur,rfl,aO,aa,wa,lu,As,yd⟩
  ·grind [Value.ownBlock]
  ·simp only [Value.ownBlock,Option.some.injEq] at av;subst av;rw [h1] at aa;cases aa;refine ⟨hu,.inr ⟨g,cap,jr,rfl,aO,af,wa,lu,by omega,?_⟩⟩;rw [<- yd];have:=congrArg (List.take (n * z)) bF
   rwa [List.take_take,List.take_take,Nat.min_eq_left (aF rfl)] at this
 ·exact vO h λc aa=>s.other c (h.lt c aa).2 λe=>av (e ▸ aa)
theorem R.spare {b M:Nat}(s:DZ w w' b M) (bc:∀ c,I c->c<w.heap.size/\c≠b) (lP:∀ x v,ρ x v->ρ' x v) {x:ab}{v:Value}{F:bb}(h:R w I ρ x v F) {q:List Nat}{z n:Nat}{cs:List ab}{h5:Value}
  (gp:x.at q=some (.own z n cs)) (hw:walk w v q=some h5) (av:h5.ownBlock=some b) (aF:n * z<=M) :
  R w' I ρ' x v F/\∀ r y,x.at r=some y->walk w' v r=walk w v r:=by
 obtain ⟨Zx,cy,vz,dH,dw,eY,kh⟩:=R.focus q h gp;rw [hw] at vz;cases vz;have my:cy b:=dH.qC b av;have aT:=h.lt;have same:∀ c,F c->c≠b->w'.heap[c]?=w.heap[c]?:=λc aa dq=>s.other c (aT c aa) dq;have ace:=dH;cases dH with
 | ref J=>simp [ab.isRef] at J
 | @own _ _ _ _ e us Fs _ a1 ak h1 aq aS iO aN =>
  have nK:=s.row a1 λ_=>aF;have dq:∀ k c,k<cs.length->Fs k c->c≠b:=λk c hk aa e=>iO k c hk aa (e ▸ av);have jL:∀ k c,k<cs.length->Fs k c->F c:=λk c hk aa=>dw c ((aN c).2 (.inr ⟨k,hk,aa⟩));have r6:R w' I ρ' (.own z n cs) h5 cy:=by
   refine .own nK ak h1 (λk x u J hu=>?_) aS iO aN;have hk:k<cs.length:=(List.getElem?_eq_some_iff.1 J).1;exact (aq k x u J hu).frame (λc aa=>s.other c (bc c aa).1 (bc c aa).2) (λ_ h=>h) lP λc aa=>same c (jL k c hk aa) (dq k c hk aa)
  constructor
  ·obtain ⟨c8,jM,pr⟩:=kh w' I ρ' _ cy ⟨λc aa=>s.other c (bc c aa).1 (bc c aa).2,λc aa aF=>same c aa λe=>aF (e ▸ my),λ_ h=>h,lP⟩ r6 λc aa _=>aa;rw [ab.P2 q gp] at jM;refine jM.zc λc=>?_
   grind
  ·obtain ⟨ig,hy⟩:=eY w' λc aa aF=>same c aa λe=>aF (e ▸ my);intro r y ec;rcases hy r y ec with ⟨dm,rfl⟩ | h
   ·rw [Dx,Dx,ig,hw];simp only [Option.bind_some];cases dm with
    | nil=>rfl
    | cons k dm =>
     grind [ab.GY,ab.u5,ab.kids,R.pZ,walk,pS]
   ·exact h
end
end Go.Own
namespace Go.Own
open Go
section
variable {w w':World}{I:bb}{T:Array Value}{g:aK}{Fs:Nat->bb}
theorem cH.KL (h:cH w I T g Fs) {t:Nat}{x:ab}(J:g t=some x):∃ v,T[t]?=some v/\dW w T ⟨t,[]⟩=some v/\jD w I (dT w T g) x v (Fs t):=by
 obtain ⟨v,hv,aY⟩:=h.rel t x J;exact ⟨v,hv,by simp [dW,hv,walk],aY⟩
theorem cH.app (h:cH w I T g Fs) {z n m:Nat}{p:Place}{bv gv:Value}{e b9:TypeId}{us news:List Value}(jT:dT w T g (.bL z p n 0 []) bv)
  (e9:∀ t bC cG m' c3,g t≠some (.bL bC p cG m' c3)) (A:DL w w' bv gv e b9 z n m us news):cH w' I T g Fs/\∀ r v,dT w T g r v->dT w' T g r v:=by
 cases iO:bv.ownBlock with
 | none =>
  have same:∀ c,c<w.heap.size->w'.heap[c]?=w.heap[c]?:=λc aa=>A.eT.block c aa (by rw [iO]; simp);exact ⟨h.world (λt c aa=>same c (h.jZ t c aa)) (λc aa=>same c (h.lt c aa)) A.eT.size,λr v aq=>h.FO (λ_ _=>rfl) (λt c aa=>same c (h.jZ t c aa)) (λ_ _ h=>h) aq⟩
 | some b =>
  have s:DZ w w' b (n * z):=by
   refine ⟨λc aa dq=>A.eT.block c aa (by rw [iO]; simpa using Ne.symm dq),?_⟩;obtain ⟨arr,jr,h1,af,aI,bF⟩:=A.sp b iO;exact ⟨arr,jr,e,h1,af,aI,bF⟩
  obtain ⟨t0,sU⟩:=h.D7 jT b iO;have bc:∀ c,I c->c<w.heap.size/\c≠b:=λc aa=>⟨h.lt c aa,λe=>h.bk t0 b sU (e ▸ aa)⟩;obtain ⟨⟨wJ,wL,Ij,rfl⟩,db⟩:=jT
  -- the home of the block
  have home:∃ N:Place->Prop,(∀ q bC cG cs' mJ,bB g q=some (.own bC cG cs')->dW w T q=some mJ->mJ.ownBlock=some b->N q) /\
    (∀ q,N q->∀ t bC cG m' c3,g t=some (.bL bC q cG m' c3)->t=p.root/\p.path=[]) /\
    (∀ t bC fQ cG m' c3,Fs t b->g t=some (.bL bC fQ cG m' c3)->t=p.root/\p.path=[]) /\
    (∀ bC fQ cG m' c3,p.path=[]->g p.root=some (.bL bC fQ cG m' c3)->bC=z/\n=cG+m') /\
    (∀ t x v,Fs t b->g t=some x->T[t]?=some v->R w I (dT w T g) x v (Fs t)->∃ q bC cG cs' h5,x.at q=some (.own bC cG cs')/\walk w v q=some h5/\h5.ownBlock=some b/\cG * bC<=n * z):=by
   rcases db with ⟨cs,au⟩ | ⟨fH,lT,nm,m1,ac0,cs,au,aF,B0⟩
   ·-- the base is a row of a tree
    obtain ⟨qL,qQ,gY,hK,nC⟩:=h.part au (by simp);rw [Ij] at gY;cases gY;have kf:t0=p.root:=h.eI _ _ _ sU (nC b (hK.qC b iO));obtain ⟨eC,iH⟩:∃ eC,g p.root=some eC:=by
     unfold bB at au;cases J:g p.root with
     | none=>rw [J] at au; cases au
     | some x=>exact ⟨x,rfl⟩
    have py:eC.at p.path=some (.own z n cs):=by simpa [bB,iH] using au
    have lp:∀ bC fQ cG m' c3,g p.root≠some (.bL bC fQ cG m' c3):=by
     intro bC fQ cG m' c3 bY;rw [iH] at bY;cases bY;have:=(ab.sC py).2;simp at this
    obtain ⟨v0,iQ,gE⟩:=h.rel _ _ iH;have By:=gE.gG (λbC fQ cG m' c3 e=>lp bC fQ cG m' c3 (by rw [iH,e]));have B':walk w v0 p.path=some (.slice wJ n wL):=by simpa [dW,iQ] using Ij
    refine ⟨λq=>q=p,?_,?_,?_,?_,?_⟩
    ·intro q bC cG cs' mJ bg sW xb;obtain ⟨Qz,GI,vy,HY,HU⟩:=h.part bg (by simp);rw [sW] at vy;cases vy;have aq:q.root=p.root:=(h.eI _ _ _ (HU b (HY.qC b xb)) sU).trans kf;have BD:eC.at q.path=some (.own bC cG cs'):=by simpa [bB,aq,iH] using bg
     have I9:walk w v0 q.path=some mJ:=by simpa [dW,aq,iQ] using sW
     have:=R.J3 q.path p.path By BD py I9 B' xb iO;cases q; cases p; simp_all
    ·rintro q rfl t bC cG m' c3 bY; exact absurd bY (e9 t bC cG m' c3)
    ·intro t bC fQ cG m' c3 pD bY;have:t=p.root:=(h.eI _ _ _ pD sU).trans kf;rw [this] at bY;exact absurd bY (lp _ _ _ _ _)
    ·intro bC fQ cG m' c3 _ bY; exact absurd bY (lp _ _ _ _ _)
    ·intro t x v pD J hv aY;have:t=p.root:=(h.eI _ _ _ pD sU).trans kf;subst this;rw [iH] at J; cases J;rw [iQ] at hv; cases hv;exact ⟨_,_,_,_,_,py,B',iO,Nat.le_refl _⟩
   ·-- the base is behind an append itself
    obtain ⟨v0,iQ,B9,gE⟩:=h.KL au;have Wi:v0=.slice wJ n wL:=by
     have:(⟨p.root,[]⟩:Place)=p:=by cases p; simp_all
     rw [this,Ij] at B9;exact (Option.some.inj B9).symm
    subst Wi;obtain ⟨R1,cv,abL,Zr,ac2,gE⟩:=gE.vF;by_cases nD:R1.ownBlock=some b
    ·obtain ⟨⟨aD,Mf,Ol,rfl⟩,_⟩:=gE.jT;obtain ⟨mJ,GI,sW,HY,HU⟩:=h.part B0 (by simp);rw [Ol] at sW;cases sW;have kf:t0=lT.root:=h.eI _ _ _ sU (HU b (HY.qC b nD));obtain ⟨eC,iH⟩:∃ eC,g lT.root=some eC:=by
      unfold bB at B0;cases J:g lT.root with
      | none=>rw [J] at B0; cases B0
      | some x=>exact ⟨x,rfl⟩
     have py:eC.at lT.path=some (.own z nm cs):=by simpa [bB,iH] using B0
     have lp:∀ bC fQ cG m' c3,g lT.root≠some (.bL bC fQ cG m' c3):=by
      intro bC fQ cG m' c3 bY;rw [iH] at bY;cases bY;have:=(ab.sC py).2;simp at this
     obtain ⟨v1,uj,qj⟩:=h.rel _ _ iH;have Uy:=qj.gG (λbC fQ cG m' c3 e=>lp bC fQ cG m' c3 (by rw [iH,e]));have B':walk w v1 lT.path=some (.slice aD nm Mf):=by simpa [dW,uj] using Ol
     refine ⟨λq=>q=lT,?_,?_,?_,?_,?_⟩
     ·intro q bC cG cs' mJ bg sW xb;obtain ⟨Qz,Q7,vy,HZ,HV⟩:=h.part bg (by simp);rw [sW] at vy;cases vy;have aq:q.root=lT.root:=(h.eI _ _ _ (HV b (HZ.qC b xb)) sU).trans kf;have BD:eC.at q.path=some (.own bC cG cs'):=by simpa [bB,aq,iH] using bg
      have I9:walk w v1 q.path=some mJ:=by simpa [dW,aq,uj] using sW
      have:=R.J3 q.path lT.path Uy BD py I9 B' xb nD;cases q; cases lT; simp_all
     ·rintro q rfl t bC cG m' c3 bY; exact ⟨h.rp _ _ _ _ _ _ _ _ _ _ _ bY au,fH⟩
     ·intro t bC fQ cG m' c3 pD bY;have:t=lT.root:=(h.eI _ _ _ pD sU).trans kf;rw [this] at bY;exact absurd bY (lp _ _ _ _ _)
     ·intro bC fQ cG m' c3 _ bY;rw [au] at bY; cases bY; exact ⟨rfl,aF⟩
     ·intro t x v pD J hv aY;have:t=lT.root:=(h.eI _ _ _ pD sU).trans kf;subst this;rw [iH] at J; cases J;rw [uj] at hv; cases hv;exact ⟨_,_,_,_,_,py,B',nD,Nat.mul_le_mul_right _ (by omega)⟩
    ·have mr:Fs p.root b:=(gE.aN b).2 ⟨iO,nD⟩;have kf:t0=p.root:=h.eI _ _ _ sU mr;refine ⟨λ_=>False,?_,λ_ h=>h.elim,?_,?_,?_⟩
     ·intro q bC cG cs' mJ bg sW xb;obtain ⟨Qz,Q7,vy,HZ,HV⟩:=h.part bg (by simp);rw [sW] at vy;cases vy;have aq:q.root=p.root:=h.eI _ _ _ (HV b (HZ.qC b xb)) mr;unfold bB at bg;rw [aq,au] at bg;have:=(ab.sC bg).2;simp at this
     ·intro t bC fQ cG m' c3 pD _; exact ⟨h.eI _ _ _ pD mr,fH⟩
     ·intro bC fQ cG m' c3 _ bY;rw [au] at bY; cases bY; exact ⟨rfl,aF⟩
     ·intro t x v pD J hv aY;have:t=p.root:=h.eI _ _ _ pD mr;subst this;rw [au] at J; cases J;exact aY.lp.elim
  obtain ⟨N,Nf,Ng,Nh,Uu,Uv⟩:=home
  -- rows of pends
  have pends:∀ t bC fQ cG m' c3 v y_ cj tI iV Fi,g t=some (.bL bC fQ cG m' c3)->T[t]?=some v->GL w I (dT w T g) bC fQ cG m' c3 v (Fs t) y_ cj tI iV Fi ->
    (v.ownBlock=some b->(cG+m') * bC<=n * z)/\(y_.ownBlock=some b->cG * bC<=n * z):=by
   intro t bC fQ cG m' c3 v y_ cj tI iV Fi aO hv aY;by_cases aw:t=p.root/\p.path=[]
   ·obtain ⟨rfl,fH⟩:=aw;obtain ⟨rfl,rfl⟩:=Uu _ _ _ _ _ fH aO;exact ⟨λ_=>Nat.le_refl _,λ_=>Nat.mul_le_mul_right _ (by omega)⟩
   ·have vh:y_.ownBlock≠some b:=by
     intro l2;obtain ⟨⟨a2,rP,Om,rfl⟩,VR⟩:=aY.jT;rcases VR with ⟨cs2,af⟩ | ⟨aQ,Df,OY,m3,ac1,abI,af,aI,bF⟩
     ·exact aw (Ng fQ (Nf fQ _ _ _ _ af Om l2) t _ _ _ _ aO)
     ·obtain ⟨v2,B8,Oi,mv⟩:=h.KL af;have zx:(⟨fQ.root,[]⟩:Place)=fQ:=by cases fQ; simp_all
      rw [zx,Om] at Oi;cases Oi;have N_:fQ.root=p.root/\p.path=[]->False:=by
       rintro ⟨aq,fH⟩;have:fQ=p:=by cases fQ; cases p; simp_all
       exact e9 t bC cG m' c3 (this ▸ aO)
      obtain ⟨R2,fG,abM,adb,ac3,mv⟩:=mv.vF;by_cases pz:R2.ownBlock=some b
      ·obtain ⟨⟨a4,ZX,Wk,rfl⟩,_⟩:=mv.jT;exact N_ (Ng Df (Nf Df _ _ _ _ bF Wk pz) _ _ _ _ _ af)
      ·exact N_ (Nh _ _ _ _ _ _ ((mv.aN b).2 ⟨l2,pz⟩) af)
    refine ⟨λB_=>?_,λl2=>absurd l2 vh⟩;exact absurd (Nh _ _ _ _ _ _ ((aY.aN b).2 ⟨B_,vh⟩) aO) aw
  -- trees
  have aT:=h.jZ;have trees:∀ t x v (ρ':ab->Value->Prop),(∀ x v,dT w T g x v->ρ' x v)->g t=some x->T[t]?=some v->R w I (dT w T g) x v (Fs t)->R w' I ρ' x v (Fs t)/\∀ r y,x.at r=some y->walk w' v r=walk w v r:=by
   intro t x v ρ' lP J hv aY;by_cases pD:Fs t b
   ·obtain ⟨q,bC,cG,cs',h5,h1,af,aI,bF⟩:=Uv t x v pD J hv aY;exact aY.spare s bc lP h1 af aI bF
   ·have same:∀ c,Fs t c->w'.heap[c]?=w.heap[c]?:=λc aa=>s.other c (aT t c aa) λe=>pD (e ▸ aa);exact ⟨aY.frame (λc aa=>s.other c (bc c aa).1 (bc c aa).2) (λ_ h=>h) lP same,λr y aq=>R.pZ r aY aq same⟩
  have val:∀ q y,bB g q=some y->dW w' T q=dW w T q:=by
   intro q y bg;unfold bB at bg;cases J:g q.root with
   | none=>rw [J] at bg; cases bg
   | some x =>
    rw [J] at bg;obtain ⟨v,hv,aY⟩:=h.rel _ _ J;cases aY with
    | tree aY=>have:=(trees _ x v _ (λ_ _ h=>h) J hv aY).2 q.path y bg; simp [dW,hv,this]
    | bL aY=>simp [dW,hv,(ab.sC bg).1,walk]
  have slot:∀ {q:Place}{x:ab},q.path=[]->g q.root=some x->dW w' T q=dW w T q:=by
   intro q x bg J;obtain ⟨v,hv,_⟩:=h.rel _ _ J;simp [dW,bg,walk]
  have refs:∀ r v,dT w T g r v->dT w' T g r v:=by
   rintro r v ⟨h1,af⟩;refine ⟨?_,af⟩;cases r <;> simp only [fz,gC] at h1 af ⊢
   case ptr q k=>obtain ⟨y,ax,_⟩:=af; rw [val q y ax]; exact h1
   case a6 bC q cG =>
    rcases af with ⟨_,_,af,_⟩ | ⟨aQ,_,_,_,_,af,_⟩
    ·rw [val q _ af]; exact h1
    ·rw [slot aQ af]; exact h1
   case sub bC q lo cG=>obtain ⟨_,_,af,_⟩:=af; rw [val q _ af]; exact h1
   case gx q=>obtain ⟨_,af⟩:=af; rw [val q _ af]; exact h1
   case bL bC q cG m' c3 =>
    rcases af with ⟨_,af⟩ | ⟨aQ,_,_,_,_,_,af,_⟩
    ·rw [val q _ af]; exact h1
    ·rw [slot aQ af]; exact h1
  refine ⟨⟨λt x J=>?_,h.kY,h.eI,h.bk,λc aa=>Nat.lt_of_lt_of_le (h.lt c aa) A.eT.size,h.rp⟩,refs⟩;obtain ⟨v,hv,aY⟩:=h.rel t x J;refine ⟨v,hv,?_⟩;cases aY with
  | tree aY=>exact .tree (trees t x v _ refs J hv aY).1
  | @bL bC cG m' fQ c3 _ y_ cj tI iV Fi _ aY =>
   obtain ⟨eX,rk⟩:=pends t _ _ _ _ _ v y_ cj tI iV Fi J hv aY;refine .bL ⟨refs _ _ aY.jT,s.row aY.lk rk,s.row aY.nL eX,aY.ak,aY.h1,λk x u J hu=>?_,aY.aN⟩;exact (aY.aq k x u J hu).frame (λc aa=>s.other c (bc c aa).1 (bc c aa).2) (λ_ h=>h) refs λc aa=>aa.elim
end
end Go.Own
namespace Go.Own
open Go
def uY (w:World) (I:bb) (T:Array Value) (g:aK) (Fs:Nat->bb) (x:ab) (v:Value) (w':World):Prop :=
 ∃ F I',cH w' I' T g Fs/\jD w' I' (dT w' T g) x v F/\(∀ t c,F c->¬ Fs t c)/\(∀ c,F c->w.heap.size<=c/\¬ I' c)/\(∀ c,I c->I' c)/\(∀ c,I' c->I c\/w.heap.size<=c)/\Fr w w' (λc=>∃ t,Fs t c)/\(∀ z p n m new,x=.bL z p n m new->∀ t bC cG m' c3,g t≠some (.bL bC p cG m' c3))
inductive Src (g:aK):ab->Nat->Nat->List ab->Prop
 | bk {z m:Nat}{cs:List ab}:Src g (.bk z m cs) z m cs
 | aL {z:Nat}:Src g .aL z 0 []
 | a6 {z m N:Nat}{q:Place}{cs:List ab}(bg:bB g q=some (.own z N cs)) (hm:m<=N):Src g (.a6 z q m) z m ((cs.take (m * z)).mapIdx λi x=>gr 0 (q.push i) x)
 | sub {z lo m N:Nat}{q:Place}{cs:List ab}(bg:bB g q=some (.own z N cs)) (hm:lo+m<=N):Src g (.sub z q lo m) z m (((cs.drop (lo * z)).take (m * z)).mapIdx λi x=>gr 0 (q.push (lo * z+i)) x)
def jG (P:Program) (t e:TypeId) (z b:Nat):Bool :=
 match P.underlying t,P.info? e with
 | some (.slice cj),some i=>cj == e&&i.size == z&&i.bytes == b&&z != 0&&(match i.zero with | some v=>v.cells.size == z | none=>false)
 | _,_=>false
section
variable {P:Program}{w:World}{I:bb}{T:Array Value}{g:aK}{Fs:Nat->bb}
theorem LQ {t e:TypeId}{z b:Nat}(h:jG P t e z b=true):∃ i dI,P.underlying t=some (.slice e)/\P.info? e=some i/\i.size=z/\i.bytes=b/\0<z/\i.zero=some dI/\dI.cells.size=z:=by
 unfold jG at h;cases hu:P.underlying t with
 | none=>simp [hu] at h
 | some d =>
  cases hi:P.info? e with
  | none=>cases d <;> simp [hu,hi] at h
  | some i =>
   cases d <;> simp [hu,hi] at h;obtain ⟨⟨⟨⟨rfl,h1⟩,af⟩,aI⟩,bF⟩:=h;cases aX:i.zero with
   | none=>simp [aX] at bF
   | some dI=>simp [aX] at bF; exact ⟨i,dI,rfl,rfl,h1,af,by omega,aX,bF⟩
theorem Src.sound (h:cH w I T g Fs) {y:ab}{v:Value}{z m:Nat}{cells:List ab}(aB:Src g y z m cells) (aY:R w I (dT w T g) y v cx) :
  ∃ (a:Option Addr) (c:Nat) (news:List Value),v=.slice a m c/\news.length=m * z/\(0<m->0<z->a.isSome=true)/\(∀ ad,a=some ad->∀ (j:Nat) (u:Value),news[j]?=some u->w.cell? (ad.add j)=some u)/\Cells w I (dT w T g) cells news:=by
 have Pb:∀ {q:Place}{N:Nat}{cs:List ab}(lo:Nat) {a:Option Addr}{cap:Nat},bB g q=some (.own z N cs)->dW w T q=some (.slice a N cap)->lo+m<=N ->
   ∃ news:List Value,news.length=m * z/\(∀ ad,a=some ad->∀ (j:Nat) (u:Value),news[j]?=some u->w.cell? ⟨ad.block,lo * z+j,none⟩=some u)/\Cells w I (dT w T g) (((cs.drop (lo * z)).take (m * z)).mapIdx λi x=>gr 0 (q.push (lo * z+i)) x) news/\(0<m->0<z->∃ b,a=some ⟨b,0,none⟩):=by
  intro q N cs lo a cap bg hv hm;obtain ⟨gv,cy,iu,dH,_⟩:=h.part bg (by simp);rw [hv] at iu;cases iu;obtain ⟨ca,mT,je,_,hlen,rb,_⟩:=dH.np;cases je;have ach:lo * z+m * z<=cs.length:=by rw [hlen,<- Nat.add_mul]; exact Nat.mul_le_mul_right _ hm
  have cell:∀ j,j<m * z->∃ b ha lV,a=some ⟨b,0,none⟩/\w.cell? ⟨b,lo * z+j,none⟩=some ha/\ha.oneCell'=true/\cs[lo * z+j]?=some lV/\R w I (dT w T g) (gr 0 (q.push (lo * z+j)) lV) ha cx:=by
   intro j ah;have gg:cs[lo * z+j]?=some cs[lo * z+j]:=List.getElem?_eq_getElem (by omega);obtain ⟨b,ha,fP,l4,n9,ht,bM,kR⟩:=dH.node (.inl rfl) gg;refine ⟨b,ha,_,?_,l4,ht,gg,FN 0 (by rw [tC,bg]; simp [ab.kids]) (by rw [yu,hv]; exact n9) kR⟩;cases a with
   | none=>simp [addrOf] at fP
   | some ad=>simp only [addrOf] at fP; rw [Option.some.inj fP]
  have uf:∃ news:List Value,news.length=m * z/\∀ j,j<m * z->∃ b ha lV,news[j]?=some ha/\a=some ⟨b,0,none⟩/\w.cell? ⟨b,lo * z+j,none⟩=some ha/\ha.oneCell'=true/\cs[lo * z+j]?=some lV/\R w I (dT w T g) (gr 0 (q.push (lo * z+j)) lV) ha cx:=by
   refine ⟨(List.range (m * z)).map λj=>(w.cell? ⟨(a.map (·.block)).getD 0,lo * z+j,none⟩).getD undef,by simp,λj ah=>?_⟩;obtain ⟨b,ha,lV,h1,af,aI,bF,cF⟩:=cell j ah;refine ⟨b,ha,lV,?_,h1,af,aI,bF,cF⟩;rw [List.getElem?_map,List.getElem?_range ah,h1];simp [af]
  obtain ⟨news,ak,aF⟩:=uf;refine ⟨news,ak,λad fP j u ah=>?_,⟨?_,λj u ah=>?_,λj x u J ah=>?_⟩,λIL Jn=>?_⟩
  ·obtain ⟨b,ha,lV,h1,af,aI,_⟩:=aF j (by rw [<- ak]; exact (List.getElem?_eq_some_iff.1 ah).1);rw [h1] at ah; cases ah;rw [fP] at af; cases af;exact aI
  ·simp; omega
  ·obtain ⟨b,ha,lV,h1,af,aI,bF,_⟩:=aF j (by rw [<- ak]; exact (List.getElem?_eq_some_iff.1 ah).1);rw [h1] at ah; cases ah; exact bF
  ·obtain ⟨b,ha,lV,h1,af,aI,bF,cF,ej⟩:=aF j (by rw [<- ak]; exact (List.getElem?_eq_some_iff.1 ah).1);rw [h1] at ah; cases ah;rw [List.getElem?_mapIdx,List.getElem?_take] at J
   split at J
   ·rw [List.getElem?_drop,cF] at J;simp only [Option.map_some,Option.some.injEq] at J;rw [<- J]; exact ej
   ·cases J
  ·obtain ⟨b,_,_,h1,_⟩:=cell 0 (Nat.mul_pos IL Jn);exact ⟨b,h1⟩
 cases aB with
 | bk =>
  obtain ⟨a,cap,rfl,_,hlen,hm⟩:=aY.zJ;by_cases aQ:cells≠[]\/0<m
  ·obtain ⟨ad,us,rfl,bc,jf,ht,aa,aq⟩:=hm aQ;refine ⟨_,cap,(List.range cells.length).map us,rfl,by simp [hlen],by simp,λRs fP j u ah=>?_,⟨by simp,λj u ah=>?_,λj x u J ah=>?_⟩⟩
   ·cases fP;rw [List.getElem?_map] at ah;by_cases eZ:j<cells.length
    ·rw [List.getElem?_range eZ] at ah;simp only [Option.map_some,Option.some.injEq] at ah;obtain ⟨b,o,sp⟩:=ad;simp only at jf;subst jf;rw [add_eq,<- ah];exact aa j _ (List.getElem?_eq_getElem eZ)
    ·rw [List.getElem?_eq_none (by simp; omega)] at ah; cases ah
   ·rw [List.getElem?_map] at ah;by_cases eZ:j<cells.length
    ·rw [List.getElem?_range eZ] at ah;simp only [Option.map_some,Option.some.injEq] at ah;rw [<- ah];exact ht j _ (List.getElem?_eq_getElem eZ)
    ·rw [List.getElem?_eq_none (by simp; omega)] at ah; cases ah
   ·rw [List.getElem?_map] at ah;have eZ:j<cells.length:=(List.getElem?_eq_some_iff.1 J).1;rw [List.getElem?_range eZ] at ah;simp only [Option.map_some,Option.some.injEq] at ah;rw [<- ah];exact aq j x J
  ·have IL:m=0:=by omega
   have Vc:cells=[]:=Classical.byContradiction λe=>aQ (.inl e);subst IL Vc;exact ⟨a,cap,[],rfl,by simp,by simp,by simp,by simp [Cells]⟩
 | aL =>
  rw [aY.sh];exact ⟨none,0,[],rfl,by simp,by simp,by simp,by simp [Cells]⟩
 | @a6 _ _ N q cs bg hm =>
  obtain ⟨⟨a,i',cap,h1,rfl,aI⟩,bF⟩:=aY.nh;obtain ⟨gv,cy,iu,dH,_⟩:=h.part bg (by simp);obtain ⟨ca,mT,je,_⟩:=dH.np;rw [h1] at iu;cases iu;cases je;obtain ⟨news,ak,aa,hL,aP⟩:=Pb 0 bg h1 (by omega);simp only [Nat.zero_mul,List.drop_zero,Nat.zero_add] at hL aa;refine ⟨a,cap,news,rfl,ak,λaQ HK=>by obtain ⟨b,rfl⟩:=aP aQ HK; rfl,λad fP j u ah=>?_,hL⟩;have xg:=aa ad fP j u ah;by_cases aQ:0<m/\0<z
  ·obtain ⟨b,av⟩:=aP aQ.1 aQ.2;rw [fP] at av; cases av;rw [add_eq]; simpa using xg
  ·have:m * z=0:=by
    rcases Nat.eq_zero_or_pos m with h | h
    ·simp [h]
    ·rcases Nat.eq_zero_or_pos z with aR | aR
     ·simp [aR]
     ·exact absurd ⟨h,aR⟩ aQ
   have:=(List.getElem?_eq_some_iff.1 ah).1;omega
 | @sub _ lo _ N q cs bg hm =>
  obtain ⟨⟨a,i',cap,ca,mT,h1,rfl,_,aI,cF⟩,bF⟩:=aY.xA;obtain ⟨gv,cy,iu,dH,_⟩:=h.part bg (by simp);obtain ⟨a2,rP,je,_⟩:=dH.np;rw [h1] at iu;cases iu;cases je;obtain ⟨news,ak,aa,hL,aP⟩:=Pb lo bg h1 hm;refine ⟨ca,mT,news,rfl,ak,λaQ _=>by obtain ⟨ad,_,rfl⟩:=cF aQ; rfl,λad fP j u ah=>?_,hL⟩;have aT:=(List.getElem?_eq_some_iff.1 ah).1;have aQ:0<m:=(Nat.eq_zero_or_pos m).elim (λh=>by rw [h] at ak; omega) id

  have aX:0<z:=(Nat.eq_zero_or_pos z).elim (λh=>by rw [h] at ak; omega) id

  obtain ⟨Rs,ej,mW⟩:=cF aQ;obtain ⟨b,av⟩:=aP aQ aX;rw [ej] at av; cases av;rw [fP] at mW; cases mW;have xg:=aa _ ej j u ah;rw [add_eq]; simpa using xg
end
end Go.Own
namespace Go.Own
open Go
inductive AX (P:Program) (g:aK):Op->TypeId->ab->Prop
 | grow {s x:Operand}{t e ty:TypeId}{z b n m:Nat}{p:Place}{y:ab}{cells:List ab}(aB:bs g s=some (.a6 z p n)) (db:gC g (.bL z p n 0 [])) (e9:∀ t bC cG m' c3,g t≠some (.bL bC p cG m' c3))
   (J:bs g x=some y) (r':Src g y z m cells) (aw:jG P t e z b=true) (q9:n+m<=4611686018427387904) (av:(n+m) * b<=140737488355328) :
   AX P g (.call { callee:=.builtin .append,args:=#[s,x],argTypes:=#[t,t] }) ty (.bL z p n m cells)
 | nil {s x:Operand}{t e ty:TypeId}{z b m:Nat}{y:ab}{cells:List ab}(aB:bs g s=some .aL)
   (J:bs g x=some y) (r':Src g y z m cells) (aw:jG P t e z b=true) (q9:m<=4611686018427387904) (av:m * b<=140737488355328) :
   AX P g (.call { callee:=.builtin .append,args:=#[s,x],argTypes:=#[t,t] }) ty (.own z m cells)
inductive cg (P:Program) (g:aK):Op->TypeId->ab->Prop
 | eX {op:Op}{ty:TypeId}{x:ab}(h:c6 P g op ty x):cg P g op ty x
 | rk {op:Op}{ty:TypeId}{x:ab}(h:p7 P g op ty x):cg P g op ty x
 | CI {op:Op}{ty:TypeId}{x:ab}(h:u0 P g op ty x):cg P g op ty x
 | lS {op:Op}{ty:TypeId}{x:ab}(h:AX P g op ty x):cg P g op ty x
section
variable {P:Program}{w:World}{I:bb}{T:Array Value}{g:aK}{Fs:Nat->bb}
theorem Cells.frame {w':World}{cells:List ab}{news:List Value}(aa:Cells w I (dT w T g) cells news) (bc:∀ c,I c->w'.heap[c]?=w.heap[c]?) (aq:∀ r v,dT w T g r v->dT w' T g r v):Cells w' I (dT w' T g) cells news :=
 ⟨aa.1,aa.2.1,λk x u J hu=>(aa.2.2 k x u J hu).frame bc (λ_ h=>h) aq λ_ h=>h.elim⟩
theorem AX.sound (h:cH w I T g Fs) {a:Act}(aP:a.tmps=T) {o:Oper}{kI:ab}(au:AX P g o.op o.type kI) :
  ∃ v w',(execOp a.eval o).run P w=.ok (.value v) w'/\uY w I T g Fs kI v w':=by
 obtain ⟨dst,op,ty,pos,after,guard⟩:=o;simp only at au;cases au with
 | @grow s x t e _ z b n m p y cells aB db e9 J r' aw q9 av =>
  obtain ⟨i,dI,hu,hi,rfl,rfl,aQ,aX,pK⟩:=LQ aw;obtain ⟨⟨wJ,N,wL,h1,af,aI⟩,bF⟩:=(kg h aB aP).nh;obtain ⟨Dk,KB,news,vu,ak,B3,I1,hL⟩:=r'.sound h (kg h J aP)
  -- the row of the base
  have qo:N=n/\∃ cj us,w.ownsRow 0 cj i.size (.slice wJ n wL) n us:=by
   rcases db with ⟨cs,au⟩ | ⟨fH,q,gH,m0,new,cs,au,rfl,_⟩
   ·obtain ⟨gv,cy,iu,dH,_⟩:=h.part au (by simp);rw [h1] at iu;cases iu;obtain ⟨ca,mT,je,_⟩:=dH.np;cases je;cases dH with
    | own a1=>exact ⟨rfl,_,_,a1⟩
    | ref J=>simp [ab.isRef] at J
   ·obtain ⟨v0,iQ,B9,gE⟩:=h.KL au;have bg:(⟨p.root,[]⟩:Place)=p:=by cases p; simp_all
    rw [bg,h1] at B9;cases B9;obtain ⟨bv,cv,b9,us,ac4,gE⟩:=gE.vF;have bd:N=gH+m0:=by
     obtain ⟨_,bY⟩:=gE.nL;rcases bY with ⟨bY,aF⟩ | ⟨g,cap,cur,bY,_⟩
     ·cases bY; omega
     ·cases bY; rfl
    subst bd;exact ⟨rfl,_,_,gE.nL⟩
  obtain ⟨rfl,cj,us,lk⟩:=qo;have jT:dT w T g (.bL i.size p N 0 []) (.slice wJ N wL):=⟨⟨wJ,wL,h1,rfl⟩,db⟩;obtain ⟨gv,w',b9,hT,A⟩:=PN (P:=P) (w:=w) t ty e cj i dI hu hi aX pK aQ lk (a:=Dk) (c:=KB) (m:=m) (news:=news) (λhm=>B3 hm aQ) ak I1 (λu hu=>by
   obtain ⟨k,hk,rfl⟩:=List.mem_iff_getElem.1 hu;exact hL.2.1 k _ (List.getElem?_eq_getElem hk)) (by unfold maxLen; omega) av
  obtain ⟨bj,hrefs⟩:=h.app jT e9 A;refine ⟨gv,w',by simp [execOp,resolve,invoke,builtin,af,vu,hT],(λc=>gv.ownBlock=some c/\(Value.slice wJ N wL).ownBlock≠some c),I,bj,?_,?_,?_,λ_ h=>h,λ_ h=>.inl h,?_,?_⟩
  ·have bc:∀ c,I c->w'.heap[c]?=w.heap[c]?:=by
    intro c aa;refine A.eT.block c (h.lt c aa) λav=>?_;obtain ⟨t,aw⟩:=h.D7 jT c av;exact h.bk t c aw aa
   have lL:=hL.frame bc hrefs;exact .bL ⟨hrefs _ _ jT,A.nn,A.new,lL.1,lL.2.1,lL.2.2,λc=>Iff.rfl⟩
  ·rintro t c ⟨iq,tZ⟩ aW;rcases A.D8 c iq with h | aR
   ·exact tZ h
   ·have:=h.jZ t c aW; omega
  ·rintro c ⟨iq,tZ⟩;rcases A.D8 c iq with aR | aR
   ·exact absurd aR tZ
   ·exact ⟨aR,λhi=>by have:=h.lt c hi; omega⟩
  ·exact A.eT.mono λc _ aa=>h.D7 jT c aa
  ·intro bC XH cG m' c3 he;cases he;exact e9
 | @nil s x t e _ z b m y cells aB J r' aw q9 av =>
  obtain ⟨i,dI,hu,hi,rfl,rfl,aQ,aX,pK⟩:=LQ aw;have af:=(kg h aB aP).sh;obtain ⟨Dk,KB,news,vu,ak,B3,I1,hL⟩:=r'.sound h (kg h J aP);obtain ⟨gv,w',b9,hT,A⟩:=PN (P:=P) (w:=w) t ty e e i dI hu hi aX pK aQ (World.ownsRow_nil w 0 e i.size) (a:=Dk) (c:=KB) (m:=m) (news:=news) (λhm=>B3 hm aQ) ak I1 (λu hu=>by
   obtain ⟨k,hk,rfl⟩:=List.mem_iff_getElem.1 hu;exact hL.2.1 k _ (List.getElem?_eq_getElem hk)) (by unfold maxLen; omega) (by simpa using av)
  have same:∀ c,c<w.heap.size->w'.heap[c]?=w.heap[c]?:=λc aa=>A.eT.block c aa (by simp [Value.ownBlock]);have r6:=A.new;simp only [Nat.zero_add,List.nil_append] at r6;have lL:=hL.frame (λc aa=>same c (h.lt c aa)) λr v aq=>h.FO (λ_ _=>rfl) (λt c aa=>same c (h.jZ t c aa)) (λ_ _ h=>h) aq;have hblk:∀ c,gv.ownBlock=some c->w.heap.size<=c:=λc aa=>(A.D8 c aa).elim (λh=>by simp [Value.ownBlock] at h) id;refine ⟨gv,w',by simp [execOp,resolve,invoke,builtin,af,vu,hT],(λc=>gv.ownBlock=some c),I,h.world (λt c aa=>same c (h.jZ t c aa)) (λc aa=>same c (h.lt c aa)) A.eT.size,?_,?_,λc aa=>⟨hblk c aa,λhi=>by have:=h.lt c hi; have:=hblk c aa; omega⟩,λ_ h=>h,λ_ h=>.inl h,?_,?_⟩
  ·exact .tree (.own (Fs:=λ_=>cx) r6 lL.1 lL.2.1 lL.2.2 (λ_ _ _ _ _ h=>h.elim) (λ_ _ _ h=>h.elim) λc=>⟨.inl,λh=>h.elim id λ⟨_,_,h⟩=>h.elim⟩)
  ·intro t c aa aW; have:=hblk c aa; have:=h.jZ t c aW; omega
  ·exact A.eT.mono λc _ aa=>by simp [Value.ownBlock] at aa
  ·intro bC XH cG m' c3 he; cases he
theorem cg.sound (h:cH w I T g Fs) {a:Act}(aP:a.tmps=T) {o:Oper}{kI:ab}(au:cg P g o.op o.type kI) :
  ∃ v w',(execOp a.eval o).run P w=.ok (.value v) w'/\uY w I T g Fs kI v w':=by
 have CB:∀ {v:Value}{F:bb},R w I (dT w T g) kI v F->∀ z p n m new,kI=.bL z p n m new->∀ t bC cG m' c3,g t≠some (.bL bC p cG m' c3):=by
  rintro v F aY z p n m new rfl;exact aY.lp.elim
 cases au with
 | eX au =>
  obtain ⟨v,aq,aY⟩:=au.sound h aP;exact ⟨v,w,aq,cx,I,h,.tree aY,λ_ _ h=>h.elim,λ_ h=>h.elim,λ_ h=>h,λ_ h=>.inl h,Fr.refl _ _,CB aY⟩
 | CI au =>
  obtain ⟨v,aq,aY⟩:=au.sound h aP;exact ⟨v,w,aq,cx,I,h,.tree aY,λ_ _ h=>h.elim,λ_ h=>h.elim,λ_ h=>h,λ_ h=>.inl h,Fr.refl _ _,CB aY⟩
 | rk au =>
  obtain ⟨v,sm,aq,aY⟩:=au.sound h aP;refine ⟨v,_,aq,_,I,h.alloc sm,.tree aY,λt c aa aW=>?_,λc aa=>⟨by rw [aa]; exact Nat.le_refl _,λhi=>by have:=h.lt c hi; omega⟩,λ_ h=>h,λ_ h=>.inl h,Fr.alloc w sm _ (by
   obtain ⟨o,h1,af⟩:=aY.X4 w.heap.size rfl;rw [tw] at h1;cases h1;exact af),?_⟩
  ·have:=h.jZ t c aW; omega
  ·rintro z p n m new rfl; exact aY.lp.elim
 | lS au=>exact au.sound h aP
end
end Go.Own
namespace Go.Own
open Go
inductive cU:ab->Prop
 | lit {v:Value}:cU (.lit v)
 | aL:cU .aL
 | dead:cU .dead
 | bk {z n:Nat}{cs:List ab}(h:∀ x∈cs,cU x):cU (.bk z n cs)
 | own {z n:Nat}{cs:List ab}(h:∀ x∈cs,cU x):cU (.own z n cs)
 | obj {cs:List ab}(h:∀ x∈cs,cU x):cU (.obj cs)
 | agg {cs:List ab}(h:∀ x∈cs,cU x):cU (.agg cs)
 | bW {cs:List ab}(h:∀ x∈cs,cU x):cU (.bW cs)
 | cI {cs:List ab}(h:∀ x∈cs,cU x):cU (.cI cs)
 | cX {fn:Fn}{a b:List ab}(h1:∀ x∈a,cU x) (af:∀ x∈b,cU x):cU (.cX fn a b)
 | mp {p:Array MapEntry->Nat->Prop}:cU (.mp p)
 | imp {p:Array MapEntry->Nat->Prop}:cU (.imp p)
inductive kJ:ab->Prop
 | lit {v:Value}:kJ (.lit v)
 | aL:kJ .aL
 | dead:kJ .dead
 | own {z n:Nat}{cs:List ab}(h:∀ x∈cs,kJ x):kJ (.own z n cs)
 | obj {cs:List ab}(h:∀ x∈cs,kJ x):kJ (.obj cs)
 | agg {cs:List ab}(h:∀ x∈cs,kJ x):kJ (.agg cs)
 | bW {cs:List ab}(h:∀ x∈cs,kJ x):kJ (.bW cs)
 | mp {p:Array MapEntry->Nat->Prop}:kJ (.mp p)
theorem kJ.bl {x:ab}(h:kJ x):cU x:=by
 induction h with
 | lit=>exact .lit
 | aL=>exact .aL
 | dead=>exact .dead
 | own _ aU=>exact .own aU
 | obj _ aU=>exact .obj aU
 | agg _ aU=>exact .agg aU
 | bW _ aU=>exact .bW aU
 | mp=>exact .mp
inductive Rows (g:aK):Place->Nat->Nat->List ab->Prop
 | own {p:Place}{z n:Nat}{cs:List ab}(au:bB g p=some (.own z n cs)):Rows g p z n cs
 | bL {t z n m:Nat}{q:Place}{new cs:List ab}(aw:g t=some (.bL z q n m new)) (bg:Rows g q z n cs):Rows g ⟨t,[]⟩ z (n+m) (cs++new)
theorem Rows.mono {g g':aK}(h:∀ {p:Place}{y:ab},bB g p=some y->bB g' p=some y) {p:Place}{z n:Nat}{cs:List ab}(aq:Rows g p z n cs) (af:∀ t x,g t=some x->g' t=some x):Rows g' p z n cs:=by
 induction aq with
 | own au=>exact .own (h au)
 | bL aw _ aU=>exact .bL (af _ _ aw) aU
inductive View (g:aK):ab->ab->Prop
 | self {x:ab}(h:cU x) (J:∀ z n cs,x≠.own z n cs) (a1:∀ cs,x≠.obj cs) (aP:∀ cs,x≠.agg cs) (aw:∀ cs,x≠.bW cs) (hm:∀ p,x≠.mp p):View g x x
 | mp {p:Array MapEntry->Nat->Prop}:View g (.mp p) (.imp p)
 | gx {p:Place}{q:Array MapEntry->Nat->Prop}(au:bB g p=some (.mp q)):View g (.gx p) (.imp q)
 | qB {z:Nat}:View g .aL (.bk z 0 [])
 | agg {cs cs':List ab}(ak:cs'.length=cs.length) (h:∀ (k:Nat) (x y:ab),cs[k]?=some x->cs'[k]?=some y->View g x y):View g (.agg cs) (.agg cs')
 | own {z n:Nat}{cs cs':List ab}(ak:cs'.length=cs.length) (h:∀ (k:Nat) (x y:ab),cs[k]?=some x->cs'[k]?=some y->View g x y):View g (.own z n cs) (.bk z n cs')
 | obj {cs cs':List ab}(ak:cs'.length=cs.length) (h:∀ (k:Nat) (x y:ab),cs[k]?=some x->cs'[k]?=some y->View g x y):View g (.obj cs) (.cI cs')
 | a6 {z n N:Nat}{p:Place}{cs cs':List ab}(au:bB g p=some (.own z N cs)) (aF:n<=N) (ak:cs'.length=(cs.take (n * z)).length) (h:∀ (k:Nat) (x y:ab),(cs.take (n * z))[k]?=some x->cs'[k]?=some y->View g x y):View g (.a6 z p n) (.bk z n cs')
 | sub {z lo n N:Nat}{p:Place}{cs cs':List ab}(au:bB g p=some (.own z N cs)) (aF:lo+n<=N) (ak:cs'.length=((cs.drop (lo * z)).take (n * z)).length) (h:∀ (k:Nat) (x y:ab),((cs.drop (lo * z)).take (n * z))[k]?=some x->cs'[k]?=some y->View g x y):View g (.sub z p lo n) (.bk z n cs')
 | ptr {p:Place}{k z n:Nat}{y:ab}{cs cs':List ab}(au:bB g p=some y) (ax:y=.own z n cs\/y=.obj cs) (hk:k<cs.length) (ak:cs'.length=(cs.drop k).length) (h:∀ (j:Nat) (x y:ab),(cs.drop k)[j]?=some x->cs'[j]?=some y->View g x y):View g (.ptr p k) (.cI cs')
 | cX {fn:Fn}{cs cs':List ab}(ak:cs'.length=cs.length) (h:∀ (k:Nat) (x y:ab),cs[k]?=some x->cs'[k]?=some y->View g x y):View g (.cX fn [] cs) (.cX fn [] cs')
 | rows {z n:Nat}{p:Place}{cs cs':List ab}(au:Rows g p z n cs) (ak:cs'.length=cs.length) (h:∀ (k:Nat) (x y:ab),cs[k]?=some x->cs'[k]?=some y->View g x y):View g (.a6 z p n) (.bk z n cs')
section
variable {P:Program}{w:World}{I:bb}{T:Array Value}{g:aK}{Fs:Nat->bb}
theorem R.bl {ρ ρ':ab->Value->Prop}{x:ab}{v:Value}{F:bb}(h:R w I ρ x v F):cU x->R w I ρ' x v F:=by
 induction h with
 | lit h aN=>exact λ_=>.lit h aN
 | aL aN=>exact λ_=>.aL aN
 | dead aN=>exact λ_=>.dead aN
 | @ref x _ _ J h aN=>intro aF; cases aF <;> simp [ab.isRef] at J
 | hM aN=>exact λ_=>.hM aN
 | bk aN lg bc aB ak h1 aa aq aU=>exact λaF=>.bk aN lg bc aB ak h1 aa λk x J=>aU k x J (by cases aF with | bk h=>exact h x (List.mem_of_getElem? J))
 | cI aN bc aB h1 aa aq aU=>exact λaF=>.cI aN bc aB h1 aa λk x J=>aU k x J (by cases aF with | cI h=>exact h x (List.mem_of_getElem? J))
 | own a1 ak h1 aq aS av aN aU=>exact λaF=>.own a1 ak h1 (λk x u J hu=>aU k x u J hu (by cases aF with | own h=>exact h x (List.mem_of_getElem? J))) aS av aN
 | obj a1 ak h1 aq aS av aN aU=>exact λaF=>.obj a1 ak h1 (λk x u J hu=>aU k x u J hu (by cases aF with | obj h=>exact h x (List.mem_of_getElem? J))) aS av aN
 | agg ak h1 aq aS aN aU=>exact λaF=>.agg ak h1 (λk x u J hu=>aU k x u J hu (by cases aF with | agg h=>exact h x (List.mem_of_getElem? J))) aS aN
 | bW ak aq aS aN aU=>exact λaF=>.bW ak (λk x u J hu=>aU k x u J hu (by cases aF with | bW h=>exact h x (List.mem_of_getElem? J))) aS aN
 | mp a1 au aN=>exact λ_=>.mp a1 au aN
 | imp aN bc a1 au=>exact λ_=>.imp aN bc a1 au
 | cX aN h1 af ky iP gw gh=>exact λaF=>.cX aN h1 af (λk x u J hu=>gw k x u J hu (by cases aF with | cX h _=>exact h x (List.mem_of_getElem? J))) (λk x u J hu=>gh k x u J hu (by cases aF with | cX _ h=>exact h x (List.mem_of_getElem? J)))
theorem R.om {ρ:ab->Value->Prop}{I':bb}{x:ab}{v:Value}{F:bb}(h:R w I ρ x v F) (bc:∀ c,I c->I' c):R w I' ρ x v F :=
 h.frame (λ_ _=>rfl) bc (λ_ _ h=>h) λ_ _=>rfl
theorem R.lq {ρ ρ':ab->Value->Prop}{I':bb}{x:ab}{v:Value}{F:bb}(h:R w I ρ x v F):kJ x->R w I' ρ' x v F:=by
 induction h with
 | lit h aN=>exact λ_=>.lit h aN
 | aL aN=>exact λ_=>.aL aN
 | dead aN=>exact λ_=>.dead aN
 | @ref x _ _ J h aN=>intro aF; cases aF <;> simp [ab.isRef] at J
 | hM=>intro aF; cases aF
 | bk=>intro aF; cases aF
 | cI=>intro aF; cases aF
 | own a1 ak h1 aq aS av aN aU=>exact λaF=>.own a1 ak h1 (λk x u J hu=>aU k x u J hu (by cases aF with | own h=>exact h x (List.mem_of_getElem? J))) aS av aN
 | obj a1 ak h1 aq aS av aN aU=>exact λaF=>.obj a1 ak h1 (λk x u J hu=>aU k x u J hu (by cases aF with | obj h=>exact h x (List.mem_of_getElem? J))) aS av aN
 | agg ak h1 aq aS aN aU=>exact λaF=>.agg ak h1 (λk x u J hu=>aU k x u J hu (by cases aF with | agg h=>exact h x (List.mem_of_getElem? J))) aS aN
 | bW ak aq aS aN aU=>exact λaF=>.bW ak (λk x u J hu=>aU k x u J hu (by cases aF with | bW h=>exact h x (List.mem_of_getElem? J))) aS aN
 | cX=>intro aF; cases aF
 | mp a1 au aN=>exact λ_=>.mp a1 au aN
 | imp=>intro aF; cases aF
theorem R.zX {ρ:ab->Value->Prop}{z n:Nat}{cs:List ab}{v:Value}{F:bb}(h:R w I ρ (.own z n cs) v F):∃ (a:Option Addr) (cap:Nat) (us:Nat->Value) (bM:Nat->bb),v=.slice a n cap/\n<=cap/\cs.length=n * z /\
  (∀ ad,a=some ad->∃ b,ad=⟨b,0,none⟩/\F b)/\(∀ (k:Nat) (x:ab),cs[k]?=some x->∃ b,a=some ⟨b,0,none⟩/\w.cell? ⟨b,k,none⟩=some (us k)/\(us k).oneCell'=true/\R w I ρ x (us k) (bM k)/\∀ c,bM k c->F c):=by
 have aQ:=h;cases h with
 | ref J=>simp [ab.isRef] at J
 | @own _ _ _ _ e us Fs _ a1 ak h1 aq aS av aN =>
  obtain ⟨a,cap,rfl,aF,hlen,rb,re⟩:=aQ.np;refine ⟨a,cap,λk=>us.getD k undef,Fs,rfl,aF,hlen,λad fP=>?_,λk x hk=>?_⟩
  ·obtain ⟨BS,BT⟩:=rb ad fP;obtain ⟨b,o,sp⟩:=ad;simp only at BS BT;subst BS BT;exact ⟨b,rfl,(aN b).2 (.inl (by rw [fP]; rfl))⟩
  ·have aT:k<cs.length:=(List.getElem?_eq_some_iff.1 hk).1;have hu:us[k]?=some us[k]:=List.getElem?_eq_getElem (ak ▸ aT);obtain ⟨b,u,fP,l4,n9,ht,_⟩:=aQ.node (.inl rfl) hk;have:a=some ⟨b,0,none⟩:=by
    cases a with
    | none=>simp [addrOf] at fP
    | some ad=>simp only [addrOf] at fP; rw [Option.some.inj fP]
   grind [pS]
theorem R.Fo {ρ:ab->Value->Prop}{y:ab}{v:Value}{F:bb}{z n:Nat}{cs:List ab}(h:R w I ρ y v F) (ax:y=.own z n cs\/y=.obj cs) {ad:Addr}(aP:addrOf v=some ad):F ad.block:=by
 rcases ax with rfl | rfl
 ·obtain ⟨a,cap,rfl,_⟩:=h.np;refine h.qC _ ?_;cases a with
  | none=>simp [addrOf] at aP
  | some a=>simp only [addrOf,Option.some.injEq] at aP; subst aP; rfl
 ·cases h with
  | ref J=>simp [ab.isRef] at J
  | obj a1 ak h1 aq aS av aN=>simp only [addrOf,Option.some.injEq] at aP; subst aP; exact (aN _).2 (.inl rfl)
theorem XF {w:World}{e cj:TypeId}{z n:Nat}{v:Value}{us iV:List Value}(h:w.ownsRow 0 e z v n us) (aR:w.ownsRow 0 cj z v n iV):us=iV:=by
 obtain ⟨h1,af⟩:=h;obtain ⟨aI,bF⟩:=aR;rcases af with ⟨rfl,rfl⟩ | ⟨b,cap,cur,rfl,_,bY,_,_,_,aw⟩
 ·grind
 grind
theorem Rows.sound {ρ:ab->Value->Prop}(H1:∀ t z q n m new,g t=some (.bL z q n m new)->∃ v,T[t]?=some v/\jD w I ρ (.bL z q n m new) v (Fs t))
  (Q_:∀ p z n cs,bB g p=some (.own z n cs)->∃ v cy,dW w T p=some v/\R w I ρ (.own z n cs) v cy/\∀ c,cy c->Fs p.root c) (AS:∀ z p n v,ρ (.bL z p n 0 []) v->dW w T p=some v) {p:Place}{z n:Nat}{cs:List ab}(h:Rows g p z n cs) :
  ∃ v e us,dW w T p=some v/\w.ownsRow 0 e z v n us/\us.length=cs.length/\(∀ (k:Nat) (u:Value),us[k]?=some u->u.oneCell'=true)/\(∀ c,v.ownBlock=some c->∃ t,Fs t c) /\
   (∀ (k:Nat) (x:ab) (u:Value),cs[k]?=some x->us[k]?=some u->∃ bM,R w I ρ x u bM/\∀ c,bM c->∃ t,Fs t c):=by
 induction h with
 | @own p z n cs au =>
  obtain ⟨v,cy,hv,aY,aN⟩:=Q_ p z n cs au;cases aY with
  | ref J=>simp [ab.isRef] at J
  | @own _ _ _ _ e us bM _ a1 ak h1 aq aS av mu =>
   grind
 | @bL t z n m q new cs aw _ aU =>
  obtain ⟨v,hv,aY⟩:=H1 t z q n m new aw;obtain ⟨v0,e,us,iQ,a1,ak,h1,av,aq⟩:=aU;cases aY with
  | tree aY=>exact aY.lp.elim
  | @bL _ _ _ _ _ _ bv cv b9 Zr news _ aY =>
   have hc:=AS _ _ _ _ aY.jT;rw [iQ] at hc;cases hc;have:=XF a1 aY.lk;subst this;refine ⟨v,b9,us++news,by simp [dW,hv,walk],aY.nL,by rw [List.length_append,List.length_append,ak,aY.ak],λk u hu=>?_,λc aa=>?_,λk x u J hu=>?_⟩
   ·by_cases hk:k<us.length
    ·grind
    ·rw [List.getElem?_append_right (by omega)] at hu; exact aY.h1 _ u hu
   ·by_cases q_:v0.ownBlock=some c
    ·grind
    ·exact ⟨t,(aY.aN c).2 ⟨aa,q_⟩⟩
   ·by_cases hk:k<us.length
    ·grind
    ·rw [List.getElem?_append_right (by omega)] at J;rw [List.getElem?_append_right (by omega),ak] at hu;exact ⟨_,aY.aq _ x u J hu,λc aa=>aa.elim⟩
theorem PI {ρ':ab->Value->Prop}{e:TypeId}{z n N cap:Nat}{a:Option Addr}{us:List Value}{cs cs':List ab}(a1:w.ownsRow 0 e z (.slice a N cap) n us) (hlen:us.length=cs.length) (h1:∀ (k:Nat) (u:Value),us[k]?=some u->u.oneCell'=true) (av:∀ c,(Value.slice a N cap).ownBlock=some c->∃ t,Fs t c) (ak:cs'.length=cs.length)
  (aq:∀ (k:Nat) (x y:ab) (u:Value),cs[k]?=some x->cs'[k]?=some y->us[k]?=some u->R w (λc=>I c\/∃ t,Fs t c) ρ' y u cx):R w (λc=>I c\/∃ t,Fs t c) ρ' (.bk z n cs') (.slice a n cap) cx:=by
 obtain ⟨NZ,a1⟩:=a1;rcases a1 with ⟨hc,aQ⟩ | ⟨b,rP,cur,cv,_,bY,EH,aa,aB,aw⟩
 ·cases hc;subst aQ;have lL:cs'=[]:=List.eq_nil_of_length_eq_zero (by rw [ak,<- hlen,NZ]; simp);subst lL;exact .hM λ_ h=>h
 ·cases cv;refine .bk (us:=λk=>us.getD k undef) (λ_ h=>h) EH (.inr (av b rfl)) rfl (by rw [ak,<- hlen,NZ]) (λk y ax=>?_) (λk y ax=>?_) λk y ax=>?_
  all_goals
   have hk:k<us.length:=by rw [hlen,<- ak]; exact (List.getElem?_eq_some_iff.1 ax).1
   have hu:us[k]?=some us[k]:=List.getElem?_eq_getElem hk;have aO:us.getD k undef=us[k]:=by simp [List.getD,hu]
  ·grind
  ·rw [aO];have zC:∀ u,us[k]?=some u->w.cell? ⟨b,k,none⟩=some u:=λu zC=>by
    rw [<- aw,List.getElem?_take] at zC
    split at zC
    ·simpa [World.cell?,bY] using zC
    grind
   grind
  grind
theorem View.sound (h:cH w I T g Fs) {x x':ab}(hv:View g x x'):∀ {v:Value}{F:bb},R w I (dT w T g) x v F->(∀ c,F c->∃ t,Fs t c)->∀ ρ',R w (λc=>I c\/∃ t,Fs t c) ρ' x' v cx:=by
 induction hv with
 | qB =>
  intro v F aY aN ρ';have:=aY.sh;subst this;exact .hM λ_ h=>h
 | mp =>
  intro v F aY aN ρ';cases aY with
  | ref J=>simp [ab.isRef] at J
  | mp a1 au av=>exact .imp (λ_ h=>h) (.inr (aN _ ((av _).2 rfl))) a1 au
 | gx au =>
  intro v F aY aN ρ';cases aY with
  | ref _ aq _ =>
   obtain ⟨⟨b,av,rfl⟩,_⟩:=aq;obtain ⟨gv,cy,iu,dH,dw⟩:=h.part au (by simp);rw [av] at iu;cases iu;cases dH with
   | ref J=>simp [ab.isRef] at J
   | mp a1 au av=>exact .imp (λ_ h=>h) (.inr ⟨_,dw _ ((av _).2 rfl)⟩) a1 au
 | self aF h1 af aI bF cF =>
  intro v F aY aN ρ';refine ((aY.bl aF).om λc aa=>.inl aa).empty ?_;cases aY with
  | mp=>exact absurd rfl (cF _)
  | lit _ aN | aL aN | dead aN | ref _ _ aN | hM aN | bk aN | cI aN | cX aN | imp aN=>exact aN
  | own=>exact absurd rfl (h1 _ _ _)
  | obj=>exact absurd rfl (af _)
  | agg=>exact absurd rfl (aI _)
  | bW=>exact absurd rfl (bF _)
 | @agg cs cs' ak _ aU =>
  intro v F aY aN ρ';cases aY with
  | ref J=>simp [ab.isRef] at J
  | @agg _ vs bM _ h0 h1 aq aS mu =>
   refine .agg (Fs:=λ_=>cx) (by rw [ak,h0]) h1 (λk y u ax hu=>?_) (λ_ _ _ _ _ h=>h.elim) (λc=>⟨λh=>h.elim,λ⟨_,_,h⟩=>h⟩);have hk:k<cs.length:=by rw [<- ak]; exact (List.getElem?_eq_some_iff.1 ax).1
   have J:=List.getElem?_eq_getElem hk;exact aU k _ y J ax (aq k _ u J hu) (λc aa=>aN c ((mu c).2 ⟨k,hk,aa⟩)) ρ'
 | @cX fn cs cs' ak _ aU =>
  intro v F aY aN ρ';cases aY with
  | ref J=>simp [ab.isRef] at J
  | @cX _ _ _ v1 v2 _ mr h1 af ky iP =>
   refine .cX (λ_ h=>h) h1 (by rw [ak,af]) (λk x u J=>by simp at J) (λk y u ax hu=>?_);have hk:k<cs.length:=by rw [<- ak]; exact (List.getElem?_eq_some_iff.1 ax).1
   have J:=List.getElem?_eq_getElem hk
   grind
 | @own z n cs cs' ak _ aU =>
  intro v F aY aN ρ';obtain ⟨a,cap,us,bM,rfl,aF,hlen,aP,aa⟩:=aY.zX;cases a with
  | none =>
   have hL:cs=[]:=by
    cases cs with
    | nil=>rfl
    | cons c cs=>obtain ⟨b,av,_⟩:=aa 0 c rfl; cases av
   subst hL;have lL:cs'=[]:=List.eq_nil_of_length_eq_zero (by simpa using ak);subst lL;have kv:n=0:=by
    cases aY with
    | ref J=>simp [ab.isRef] at J
    | own a1 =>
     obtain ⟨_,bY⟩:=a1
     grind
   subst kv;exact .hM λ_ h=>h
  | some ad =>
   obtain ⟨b,rfl,r0⟩:=aP ad rfl;refine .bk (us:=us) (λ_ h=>h) aF (.inr (aN b r0)) rfl (by rw [ak,hlen]) (λk y ax=>?_) (λk y ax=>?_) λk y ax=>?_
   all_goals
    have hk:k<cs.length:=by rw [<- ak]; exact (List.getElem?_eq_some_iff.1 ax).1
    have J:=List.getElem?_eq_getElem hk;obtain ⟨eD,l2,h1,af,aI,bF⟩:=aa k _ J;cases l2
   all_goals grind
 | @obj cs cs' ak _ aU =>
  intro v F aY aN ρ';cases aY with
  | ref J=>simp [ab.isRef] at J
  | @obj _ b e arr bM _ a1 h0 h1 aq aS av mu =>
   refine .cI (us:=λk=>arr.getD k undef) (λ_ h=>h) (.inr (aN b ((mu b).2 (.inl rfl)))) rfl (λk y ax=>?_) (λk y ax=>?_) λk y ax=>?_
   all_goals
    have hk:k<cs.length:=by rw [<- ak]; exact (List.getElem?_eq_some_iff.1 ax).1
    have J:=List.getElem?_eq_getElem hk;have hu:arr[k]?=some arr[k]:=Array.getElem?_eq_getElem (h0 ▸ hk)
   ·simpa [hu] using h1 k _ hu
   ·simp [World.cell?,a1,hu]
   ·simpa [hu] using aU k _ y J ax (aq k _ _ J hu) (λc aa=>aN c ((mu c).2 (.inr ⟨k,hk,aa⟩))) ρ'
 | @a6 z n N p cs cs' au aF ak _ aU =>
  intro v F aY aN ρ';obtain ⟨⟨a,i',cap,h1,rfl,aI⟩,_⟩:=aY.nh;obtain ⟨qL,qQ,gY,hK,nC⟩:=h.part au (by simp);rw [h1] at gY;cases gY;obtain ⟨a2,rP,us,bM,je,lg,hlen,aP,aa⟩:=hK.zX;cases je;have hle:n * z<=N * z:=Nat.mul_le_mul_right _ aF;have cell:∀ k,k<cs'.length->∃ x b,(cs.take (n * z))[k]?=some x/\a=some ⟨b,0,none⟩/\w.cell? ⟨b,k,none⟩=some (us k)/\(us k).oneCell'=true/\R w I (dT w T g) x (us k) (bM k)/\∀ c,bM k c->qQ c:=by
   simp_all
  cases a with
  | none =>
   have lL:cs'=[]:=by
    cases cs' with
    | nil=>rfl
    | cons c l=>obtain ⟨_,b,_,av,_⟩:=cell 0 (by simp); cases av
   subst lL;obtain ⟨_,_,je,_,_,_,re⟩:=hK.np;cases je;have kv:n=0:=by
    grind
   subst kv;exact .hM λ_ h=>h
  | some ad =>
   obtain ⟨b,rfl,r0⟩:=aP ad rfl;refine .bk (us:=us) (λ_ h=>h) (by omega) (.inr ⟨_,nC b r0⟩) rfl (by rw [ak,List.length_take,hlen]; omega) (λk y ax=>?_) (λk y ax=>?_) λk y ax=>?_
   all_goals grind
 | @sub z lo n N p cs cs' au aF ak _ aU =>
  intro v F aY aN ρ';obtain ⟨⟨a,i',cap,ca,mT,h1,rfl,IQ,aI,cF⟩,_⟩:=aY.xA;obtain ⟨qL,qQ,gY,hK,nC⟩:=h.part au (by simp);rw [h1] at gY;cases gY;obtain ⟨a2,rP,us,bM,je,lg,hlen,aP,aa⟩:=hK.zX;cases je;have hle:lo * z+n * z<=N * z:=by rw [<- Nat.add_mul]; exact Nat.mul_le_mul_right _ aF
  have h0:cs'.length=n * z:=by rw [ak,List.length_take,List.length_drop,hlen]; omega
  have cell:∀ k,k<cs'.length->∃ x b,((cs.drop (lo * z)).take (n * z))[k]?=some x/\a=some ⟨b,0,none⟩/\w.cell? ⟨b,lo * z+k,none⟩=some (us (lo * z+k))/\(us (lo * z+k)).oneCell'=true/\R w I (dT w T g) x (us (lo * z+k)) (bM (lo * z+k))/\∀ c,bM (lo * z+k) c->qQ c:=by
   grind
  by_cases kv:n=0
  ·subst kv;have lL:cs'=[]:=List.eq_nil_of_length_eq_zero (by simpa using h0);subst lL;exact .hM λ_ h=>h
  ·obtain ⟨ad,rfl,rfl⟩:=cF (by omega);obtain ⟨b,rfl,r0⟩:=aP ad rfl;refine .bk (us:=λk=>us (lo * z+k)) (λ_ h=>h) IQ (.inr ⟨_,nC b r0⟩) rfl h0 (λk y ax=>?_) (λk y ax=>?_) λk y ax=>?_
   all_goals grind
 | @ptr p k z n y cs cs' au ax hk ak _ aU =>
  intro v F aY aN ρ';obtain ⟨⟨u,ad,h1,af,rfl⟩,_⟩:=aY.nR;obtain ⟨qL,qQ,gY,hK,nC⟩:=h.part au (by rcases ax with rfl | rfl <;> simp);rw [h1] at gY;cases gY;have cell:∀ j,j<cs'.length->∃ ha lV yM,w.cell? ⟨ad.block,k+j,none⟩=some ha/\ha.oneCell'=true/\(cs.drop k)[j]?=some lV/\R w I (dT w T g) lV ha yM/\(∀ c,yM c->∃ t,Fs t c):=by
   intro j ah;rw [ak,List.length_drop] at ah;have gg:cs[k+j]?=some cs[k+j]:=List.getElem?_eq_getElem (by omega);obtain ⟨b,ha,fP,l4,n9,ht,_⟩:=hK.node ax gg;rw [af] at fP;cases fP;have gp:bB g (p.push (k+j))=some cs[k+j]:=by rw [tC,au]; rcases ax with rfl | rfl <;> simp [ab.kids]
   by_cases gR:∃ bC fQ cG m' c3,cs[k+j]=.bL bC fQ cG m' c3
   ·obtain ⟨bC,fQ,cG,m',c3,gR⟩:=gR;obtain ⟨b,Zt,_,_,BH,_,bM,kR⟩:=hK.node ax gg;rw [gR] at kR;exact kR.lp.elim
   ·obtain ⟨o8,Lf,xo,Nj,mu⟩:=h.part gp (λbC fQ cG m' c3 e=>gR ⟨_,_,_,_,_,e⟩)
    grind [yu]
  obtain ⟨b,ha,fP,_⟩:=hK.node ax (List.getElem?_eq_getElem hk);rw [af] at fP;cases fP;have hblk:∃ t,Fs t b:=⟨_,nC b (hK.Fo ax af)⟩;refine .cI (us:=λj=>(w.cell? ⟨b,k+j,none⟩).getD undef) (λ_ h=>h) (.inr hblk) rfl (λj jl vC=>?_) (λj jl vC=>?_) λj jl vC=>?_
  all_goals grind
 | @rows z n p cs cs' au ak _ aU =>
  intro v F aY aN ρ';obtain ⟨a,i',cap,h1,rfl,aI⟩:=aY.nh.1;obtain ⟨v0,e,us,iQ,a1,hlen,qh,av,aq⟩:=Rows.sound (w:=w) (I:=I) (T:=T) (Fs:=Fs) (λt z q n m new aw=>h.rel t _ aw) (λp z n cs au=>h.part au (by simp)) (λz p n v hv=>by obtain ⟨⟨a,cap,h1,rfl⟩,_⟩:=hv; exact h1) au;rw [h1] at iQ;cases iQ;refine PI a1 hlen qh av ak λk x y u J ax hu=>?_
  grind
end
end Go.Own
namespace Go.Own
open Go
def qa (args:List ab):aK:=λt=>args[t]?
def kZ (outs:List (Option ab)) (res:ab):aK:=λt=>if t=outs.length then some res else (outs[t]?).join
structure kp (w:World) (I U:bb) (w':World) (I' D0:bb):Prop where
 eT:Fr w w' U
 more:∀ c,I c->I' c
 new:∀ c,I' c->I c\/U c\/w.heap.size<=c
 own:∀ c,D0 c->U c\/w.heap.size<=c
def bU (P:Program) (f:FuncId) (args:List ab) (outs:List (Option ab)) (res:ab):Prop :=
 outs.length=args.length/\∀ (w:World) (I:bb) (vs:List Value) (Fs:Nat->bb),vs.length=args.length->cH w I vs.toArray (qa args) Fs ->
  Calls P f vs.toArray w λe w'=>∃ v I' b7,e=.returned v/\cH w' I' (vs++[v]).toArray (kZ outs res) b7/\kp w I (λc=>∃ t,Fs t c) w' I' (λc=>∃ t,b7 t c)
def gN (P:Program) (f:FuncId):Bool :=
 match P.funcs[f]? with
 | some fn => fn.name != "runtime.NumGoroutine" && fn.body.isSome
 | none=>false
inductive cJ (P:Program) (g:aK):Op->ab->Prop
 | plain {c:Operand}{xs:Array Operand}{gm:Array TypeId}{f:FuncId}{first caps ys:List ab}{res:ab}(aa:bs g c=some (.cX (.func f) first caps)) (J:gl g xs.toList=some ys) (aW:gN P f=true)
   (aF:∀ y∈first++ys++caps,cU y) (gQ:bU P f (first++ys++caps) ((first++ys++caps).map λ_=>none) res) (aq:cU res):cJ P g (.call { callee:=.value c,args:=xs,argTypes:=gm }) res
 | Fa {c:Operand}{xs:Array Operand}{gm:Array TypeId}{f:FuncId}{first caps ys args:List ab}{res:ab}(aa:bs g c=some (.cX (.func f) first caps)) (J:gl g xs.toList=some ys) (aW:gN P f=true)
   (ak:args.length=(first++ys++caps).length) (hv:∀ (k:Nat) (x y:ab),(first++ys++caps)[k]?=some x->args[k]?=some y->View g x y) (gQ:bU P f args (args.map λ_=>none) res) (aq:kJ res) :
   cJ P g (.call { callee:=.value c,args:=xs,argTypes:=gm }) res
section
variable {P:Program}{w:World}{I:bb}{T:Array Value}{g:aK}{Fs:Nat->bb}
theorem Bb {f:FuncId}(h:gN P f=true) (args:Array Value):(callFunc f args).run P w=.ok (.enter f args) w:=by
 unfold gN at h;cases aW:P.funcs[f]? with
 | none=>simp [aW] at h
 | some fn =>
  simp [aW] at h;obtain ⟨h1,af⟩:=h;cases av:fn.body with
  | none=>simp [av] at af
  | some c=>simp [callFunc,aW,h1,av]
theorem Hk (h:cH w I T g Fs) {a:Act}(aP:a.tmps=T) {c:Operand}{xs:Array Operand}{f:FuncId}{first caps ys:List ab}(aa:bs g c=some (.cX (.func f) first caps)) (J:gl g xs.toList=some ys) :
  ∃ v1 v2:Array Value,a.eval c=.func (.func f) v1 v2/\(first++ys++caps).length=(v1++xs.map a.eval++v2).toList.length /\
   ∀ (k:Nat) (x:ab) (u:Value),(first++ys++caps)[k]?=some x->(v1++xs.map a.eval++v2).toList[k]?=some u->R w I (dT w T g) x u cx:=by
 have zl:=kg h aa aP;obtain ⟨ak,aq⟩:=zV h aP J;generalize vj:a.eval c=ade at zl;cases zl with
 | ref J=>simp [ab.isRef] at J
 | @cX _ _ _ v1 v2 _ _ h1 af ky iP =>
  have hlen:xs.size=ys.length:=by rw [<- Array.length_toList,ak]
  refine ⟨v1,v2,rfl,by simp [h1,af,hlen],λk x u qx pE=>?_⟩;simp only [Array.toList_append,Array.toList_map] at pE;by_cases hg:k<first.length
  ·rw [List.append_assoc,List.getElem?_append_left hg] at qx;rw [List.append_assoc,List.getElem?_append_left (by simp; omega)] at pE;exact ky k x u qx (by simpa using pE)
  ·rw [List.append_assoc,List.getElem?_append_right (by omega)] at qx;rw [List.append_assoc,List.getElem?_append_right (by simp; omega)] at pE;simp only [Array.length_toList,<- h1] at pE;by_cases fW:k - first.length<ys.length
   ·rw [List.getElem?_append_left fW] at qx;rw [List.getElem?_append_left (by simp; omega),List.getElem?_map] at pE;cases Jm:xs.toList[k - first.length]? with
    | none=>rw [Jm] at pE; cases pE
    | some o=>rw [Jm] at pE; cases pE; exact aq _ x o qx Jm
   ·rw [List.getElem?_append_right (by omega)] at qx;rw [List.getElem?_append_right (by simp; omega)] at pE;simp only [List.length_map,Array.length_toList] at pE;rw [hlen] at pE;exact iP _ x u qx (by simpa using pE)
theorem cH.args {I':bb}(h:cH w I T g Fs) (bc:∀ c,I' c->I c\/∃ t,Fs t c) {args:List ab}{vs:List Value}(ak:args.length=vs.length)
  (aq:∀ (ρ':ab->Value->Prop) (k:Nat) (x:ab) (u:Value),args[k]?=some x->vs[k]?=some u->R w I' ρ' x u cx):cH w I' vs.toArray (qa args) (λ_=>cx):=by
 refine ⟨λt x J=>?_,λ_ _ _ h=>h,λ_ _ _ h=>h.elim,λ_ _ h=>h.elim,λc aa=>?_,λt t' z p n m new bC cG m' c3 h1 af=>?_⟩
 ·have aw:t<args.length:=(List.getElem?_eq_some_iff.1 J).1;have hu:vs[t]?=some vs[t]:=List.getElem?_eq_getElem (ak ▸ aw);exact ⟨vs[t],by rw [List.getElem?_toArray]; exact hu,.tree (aq _ t x _ J hu)⟩
 ·rcases bc c aa with aR | ⟨t,aR⟩
  ·exact h.lt c aR
  ·exact h.jZ t c aR
 ·have aw:t<args.length:=(List.getElem?_eq_some_iff.1 h1).1;exact (aq (λ_ _=>False) t _ _ h1 (List.getElem?_eq_getElem (ak ▸ aw))).lp.elim
theorem cJ.sound (h:cH w I T g Fs) {a:Act}(aP:a.tmps=T) {o:Oper}{kI:ab}(au:cJ P g o.op kI) {K:Act->World->Prop}{Q:Exit->Act->World->Prop}
  (di:∀ v w',uY w I T g Fs kI v w'->K (a.put o.dst v) w'):o.wp P a w K Q:=by
 obtain ⟨dst,op,ty,pos,after,guard⟩:=o;simp only at au di;have CB:cU kI->∀ z p n m new,kI=.bL z p n m new->∀ t bC cG m' c3,g t≠some (.bL bC p cG m' c3):=by
  rintro aF z p n m new rfl;cases aF
 have last:∀ {args:List ab}{res:ab}{v:Value}{vs:List Value}{w':World}{I':bb}{b7:Nat->bb},vs.length=args.length->cH w' I' (vs++[v]).toArray (kZ (args.map λ_=>none) res) b7->jD w' I' (dT w' (vs++[v]).toArray (kZ (args.map λ_=>none) res)) res v (b7 args.length)/\∀ t,t≠args.length->∀ c,¬ b7 t c:=by
  intro args res v vs w' I' b7 ak bj;constructor
  ·obtain ⟨u,hu,aY⟩:=bj.rel args.length res (by simp [kZ]);have:u=v:=by
    rw [<- ak] at hu;simpa using hu.symm
   subst this; exact aY
  ·intro t aw c aa;refine bj.kY t ?_ c aa;have EP:t≠(args.map λ_=>(none:Option ab)).length:=by simpa using aw
   simp only [kZ,if_neg EP,List.getElem?_map];cases args[t]? <;> rfl
 cases au with
 | @plain c xs gm f first caps ys _ aa J aW aF gQ aq =>
  obtain ⟨v1,v2,vj,ak,qk⟩:=Hk h aP aa J;have hT:(execOp a.eval { dst:=dst,op:=.call { callee:=.value c,args:=xs,argTypes:=gm },type:=ty,pos:=pos,after:=after,guard:=guard }).run P w=.ok (.enter f (v1++xs.map a.eval++v2)) w:=by
   simp [execOp,resolve,Deferred.ofValue,vj,invoke,Bb aW]
  have bj:=h.args (I':=I) (λc aa=>.inl aa) ak λρ' k x u J hu=>(qk k x u J hu).bl (aF x (List.mem_of_getElem? J));have pA:=gQ.2 w I (v1++xs.map a.eval++v2).toList _ ak.symm bj;unfold Oper.wp Oper.upon;simp only [hT];rw [Array.toArray_toList] at pA;refine Calls.mono pA ?_;rintro e w' ⟨v,I',b7,rfl,dX,b0⟩;obtain ⟨zz,e9⟩:=last ak.symm dX;have oQ:Fr w w' (λ_=>False):=b0.eT.mono λb _ ⟨_,av⟩=>av;refine di v w' ⟨b7 (first++ys++caps).length,I',?_,?_,?_,?_,b0.more,?_,oQ.mono λ_ _ h=>h.elim,CB aq⟩
  ·have:=h.world (w':=w') (λt c aa=>oQ.block c (h.jZ t c aa) (λh=>h)) (λc aa=>oQ.block c (h.lt c aa) λh=>h) oQ.size;refine ⟨λt x J=>?_,this.kY,this.eI,λt c aa hi=>?_,dX.lt,this.rp⟩
   ·obtain ⟨v,hv,aY⟩:=this.rel t x J;exact ⟨v,hv,aY.frame (λ_ _=>rfl) b0.more (λ_ _ h=>h) (λ_ _ _ _ _ _ _=>rfl) λ_ _=>rfl⟩
   ·rcases b0.new c hi with aR | ⟨_,aR⟩ | aR
    ·exact h.bk t c aa aR
    ·exact aR
    ·have:=h.jZ t c aa; omega
  ·exact .tree ((zz.gG (by rintro z p n m new rfl; cases aq)).bl aq)
  ·intro t c aa vl;rcases b0.own c ⟨_,aa⟩ with ⟨_,aR⟩ | aR
   ·exact aR
   ·have:=h.jZ t c vl; omega
  ·intro c aa;rcases b0.own c ⟨_,aa⟩ with ⟨_,aR⟩ | aR
   ·exact aR.elim
   ·exact ⟨aR,dX.bk _ c aa⟩
  ·intro c aa;rcases b0.new c aa with aR | ⟨_,aR⟩ | aR
   ·exact .inl aR
   ·exact aR.elim
   ·exact .inr aR
 | @Fa c xs gm f first caps ys args _ aa J aW IH hv gQ aq =>
  obtain ⟨v1,v2,vj,ak,qk⟩:=Hk h aP aa J;have hT:(execOp a.eval { dst:=dst,op:=.call { callee:=.value c,args:=xs,argTypes:=gm },type:=ty,pos:=pos,after:=after,guard:=guard }).run P w=.ok (.enter f (v1++xs.map a.eval++v2)) w:=by
   simp [execOp,resolve,Deferred.ofValue,vj,invoke,Bb aW]
  have h0:args.length=(v1++xs.map a.eval++v2).toList.length:=by rw [IH,ak]
  have bj:=h.args (I':=λc=>I c\/∃ t,Fs t c) (λc aa=>aa) h0 λρ' k x u J hu=>by
   have hk:k<(first++ys++caps).length:=by rw [<- IH]; exact (List.getElem?_eq_some_iff.1 J).1
   have iH:=List.getElem?_eq_getElem hk;exact (hv k _ x iH J).sound h (qk k _ u iH hu) (λ_ h=>h.elim) ρ'
  have pA:=gQ.2 w _ (v1++xs.map a.eval++v2).toList _ h0.symm bj;unfold Oper.wp Oper.upon;simp only [hT];rw [Array.toArray_toList] at pA;refine Calls.mono pA ?_;rintro e w' ⟨v,I',b7,rfl,dX,b0⟩;obtain ⟨zz,e9⟩:=last h0.symm dX;have oQ:Fr w w' (λ_=>False):=b0.eT.mono λb _ ⟨_,av⟩=>av;refine di v w' ⟨b7 args.length,I,?_,?_,?_,?_,λ_ h=>h,λ_ h=>.inl h,oQ.mono λ_ _ h=>h.elim,CB aq.bl⟩
  ·exact h.world (w':=w') (λt c aa=>oQ.block c (h.jZ t c aa) (λh=>h)) (λc aa=>oQ.block c (h.lt c aa) λh=>h) oQ.size
  ·exact .tree ((zz.gG (by rintro z p n m new rfl; cases aq)).lq aq)
  ·intro t c aa vl;rcases b0.own c ⟨_,aa⟩ with ⟨_,aR⟩ | aR
   ·exact aR
   ·have:=h.jZ t c vl; omega
  ·intro c aa;rcases b0.own c ⟨_,aa⟩ with ⟨_,aR⟩ | aR
   ·exact aR.elim
   ·exact ⟨aR,λhi=>by have:=h.lt c hi; omega⟩
end
end Go.Own
namespace Go.Own
open Go
structure jE (w:World) (I:bb) (T:Array Value) (g:aK) (Fs:Nat->bb):Prop where
 rel:∀ t x,g t=some x->∃ v,T[t]?=some v/\jD w I (fz w T) x v (Fs t)
 kY:∀ t,g t=none->∀ c,¬ Fs t c
 eI:∀ t t' c,Fs t c->Fs t' c->t=t'
 bk:∀ t c,Fs t c->¬ I c
 lt:∀ c,I c->c<w.heap.size
def cu (g:aK) (p:Place) (y:ab):aK:=λt=>if t=p.root then (g t).map λx=>x.setAt p.path y else g t
inductive dh (g:aK):ab->Prop
 | bl {x:ab}(h:cU x):dh g x
 | ref {x:ab}(J:x.isRef=true) (h:gC g x):dh g x
 | own {z n:Nat}{cs:List ab}(h:∀ x∈cs,dh g x):dh g (.own z n cs)
 | obj {cs:List ab}(h:∀ x∈cs,dh g x):dh g (.obj cs)
 | agg {cs:List ab}(h:∀ x∈cs,dh g x):dh g (.agg cs)
 | bW {cs:List ab}(h:∀ x∈cs,dh g x):dh g (.bW cs)
 | cX {fn:Fn}{a b:List ab}(h1:∀ x∈a,dh g x) (af:∀ x∈b,dh g x):dh g (.cX fn a b)
 | bL {z n m:Nat}{p:Place}{new:List ab}(au:gC g (.bL z p n 0 [])) (h:∀ x∈new,dh g x):dh g (.bL z p n m new)
section
variable {w:World}{I:bb}{T:Array Value}{g:aK}{Fs:Nat->bb}
theorem R.bV {x:ab}{v:Value}{F:bb}(h:R w I (fz w T) x v F):dh g x->R w I (dT w T g) x v F:=by
 induction h with
 | lit h aN=>exact λ_=>.lit h aN
 | aL aN=>exact λ_=>.aL aN
 | dead aN=>exact λ_=>.dead aN
 | @ref x _ _ J h aN =>
  intro hk;refine .ref J ⟨h,?_⟩ aN;cases hk with
  | ref _ h=>exact h
  | bl h=>cases h <;> simp [ab.isRef] at J
  | _=>simp [ab.isRef] at J
 | hM aN=>exact λ_=>.hM aN
 | mp a1 au aN=>exact λ_=>.mp a1 au aN
 | imp aN bc a1 au=>exact λ_=>.imp aN bc a1 au
 | bk aN lg bc aB ak h1 aa aq aU =>
  intro hk;cases hk with
  | ref J=>simp [ab.isRef] at J
  | bl h=>cases h with | bk h=>exact .bk aN lg bc aB ak h1 aa λk x J=>aU k x J (.bl (h x (List.mem_of_getElem? J)))
 | cI aN bc aB h1 aa aq aU =>
  intro hk;cases hk with
  | ref J=>simp [ab.isRef] at J
  | bl h=>cases h with | cI h=>exact .cI aN bc aB h1 aa λk x J=>aU k x J (.bl (h x (List.mem_of_getElem? J)))
 | own a1 ak h1 aq aS av aN aU =>
  intro hk;refine .own a1 ak h1 (λk x u J hu=>aU k x u J hu ?_) aS av aN;cases hk with
  | ref J=>simp [ab.isRef] at J
  | bl h=>cases h with | own h=>exact .bl (h x (List.mem_of_getElem? J))
  | own h=>exact h x (List.mem_of_getElem? J)
 | obj a1 ak h1 aq aS av aN aU =>
  intro hk;refine .obj a1 ak h1 (λk x u J hu=>aU k x u J hu ?_) aS av aN;cases hk with
  | ref J=>simp [ab.isRef] at J
  | bl h=>cases h with | obj h=>exact .bl (h x (List.mem_of_getElem? J))
  | obj h=>exact h x (List.mem_of_getElem? J)
 | agg ak h1 aq aS aN aU =>
  intro hk;refine .agg ak h1 (λk x u J hu=>aU k x u J hu ?_) aS aN;cases hk with
  | ref J=>simp [ab.isRef] at J
  | bl h=>cases h with | agg h=>exact .bl (h x (List.mem_of_getElem? J))
  | agg h=>exact h x (List.mem_of_getElem? J)
 | bW ak aq aS aN aU =>
  intro hk;refine .bW ak (λk x u J hu=>aU k x u J hu ?_) aS aN;cases hk with
  | ref J=>simp [ab.isRef] at J
  | bl h=>cases h with | bW h=>exact .bl (h x (List.mem_of_getElem? J))
  | bW h=>exact h x (List.mem_of_getElem? J)
 | @cX fn first caps v1 v2 F aN h1 af ky iP gw gh =>
  intro hk;have:(∀ x∈first,dh g x)/\∀ x∈caps,dh g x:=by
   cases hk with
   | ref J=>simp [ab.isRef] at J
   | bl h=>cases h with | cX h1 af=>exact ⟨λx J=>.bl (h1 x J),λx J=>.bl (af x J)⟩
   | cX h1 af=>exact ⟨h1,af⟩
  exact .cX aN h1 af (λk x u J hu=>gw k x u J hu (this.1 x (List.mem_of_getElem? J))) (λk x u J hu=>gh k x u J hu (this.2 x (List.mem_of_getElem? J)))
theorem jD.bV {x:ab}{v:Value}{F:bb}(h:jD w I (fz w T) x v F) (hk:dh g x):jD w I (dT w T g) x v F:=by
 cases h with
 | tree h=>exact .tree (h.bV hk)
 | bL h =>
  cases hk with
  | bl h=>cases h
  | ref J=>simp [ab.isRef] at J
  | bL au aF=>exact .bL ⟨⟨h.jT,au⟩,h.lk,h.nL,h.ak,h.h1,λk x u J hu=>(h.aq k x u J hu).bV (aF x (List.mem_of_getElem? J)),h.aN⟩
theorem cH.mH (h:cH w I T g Fs):jE w I T g Fs :=
  ⟨λt x J=>by
    obtain ⟨v,hv,aY⟩:=h.rel t x J;refine ⟨v,hv,?_⟩;cases aY with
    | tree aY=>exact .tree (aY.frame (λ_ _=>rfl) (λ_ h=>h) (λ_ _ h=>h.1) λ_ _=>rfl)
    | bL aY=>exact .bL ⟨aY.jT.1,aY.lk,aY.nL,aY.ak,aY.h1,λk x u J hu=>(aY.aq k x u J hu).frame (λ_ _=>rfl) (λ_ h=>h) (λ_ _ h=>h.1) λ_ _=>rfl,aY.aN⟩,
   h.kY,h.eI,h.bk,h.lt⟩
theorem jE.Zk (h:jE w I T g Fs) {g':aK}(aO:∀ t x,g' t=some x->g t=some x) (hk:∀ t x,g' t=some x->dh g' x)
  (au:∀ t t' z p n m new bC cG m' c3,g' t=some (.bL z p n m new)->g' t'=some (.bL bC p cG m' c3)->t=t'):cH w I T g' (λt c=>g' t≠none/\Fs t c):=by
 refine ⟨λt x J=>?_,λt aw c aa=>aa.1 aw,λt t' c aa fl=>h.eI t t' c aa.2 fl.2,λt c aa=>h.bk t c aa.2,h.lt,au⟩;obtain ⟨v,hv,aY⟩:=h.rel t x (aO t x J);have:Fs t=λc=>g' t≠none/\Fs t c:=by
  grind
 refine ⟨v,hv,?_⟩;rw [<- this];exact aY.bV (hk t x J)
theorem jE.part (h:jE w I T g Fs) {p:Place}{y:ab}(au:bB g p=some y) (ax:∀ z q n m new,y≠.bL z q n m new):∃ v cy,dW w T p=some v/\R w I (fz w T) y v cy/\(∀ c,cy c->Fs p.root c) /\
  ∀ (y':ab) (jn:bb),R w I (fz w T) y' v jn->(∀ c,jn c->Fs p.root c->cy c)->(∀ c,jn c->¬ I c)->(∀ t c,t≠p.root->jn c->¬ Fs t c) ->
   ∃ b7,jE w I T (cu g p y') b7/\(∀ c,b7 p.root c↔(Fs p.root c/\¬ cy c)\/jn c)/\∀ t,t≠p.root->b7 t=Fs t:=by
 unfold bB at au;cases J:g p.root with
 | none=>rw [J] at au; cases au
 | some x =>
  rw [J] at au;obtain ⟨v,hv,aY⟩:=h.rel _ _ J;replace aY:=aY.gG (by
   grind [ab.sC])
  obtain ⟨h5,cy,hw,dH,dw,eY,kh⟩:=R.focus p.path aY au;refine ⟨h5,cy,by simp [dW,hv,hw],dH,dw,λy' jn jM mZ bc acP=>?_⟩;obtain ⟨c8,Ew,pr⟩:=kh w I (fz w T) y' jn ⟨λ_ _=>rfl,λ_ _ _=>rfl,λ_ h=>h,λ_ _ h=>h⟩ jM mZ;refine ⟨λt=>if t=p.root then c8 else Fs t,⟨λt x' gg=>?_,λt aw c=>?_,λt t' c aa fl=>?_,λt c aa=>?_,h.lt⟩,λc=>by simp [pr c],λt aw=>by simp [aw]⟩
  ·by_cases iG:t=p.root
   ·subst iG;have Wu:x.setAt p.path y'=x':=by simpa [cu,J] using gg
    subst Wu;exact ⟨v,hv,.tree (by simpa using Ew)⟩
   ·simp only [cu,if_neg iG] at gg;simpa [iG] using h.rel t x' gg
  ·by_cases iG:t=p.root
   ·grind [cu]
   ·simp only [cu,if_neg iG] at aw;simpa [iG] using h.kY t aw c
  ·by_cases h1:t=p.root <;> by_cases af:t'=p.root <;> simp only [h1,af,if_true,if_false] at aa fl
   ·grind
   ·rcases (pr c).1 aa with ⟨aI,_⟩ | aI
    ·rw [h1];exact h.eI _ _ _ aI fl
    grind
   ·rcases (pr c).1 fl with ⟨aI,_⟩ | aI
    ·rw [af];exact h.eI _ _ _ aa aI
    grind
   ·exact h.eI _ _ _ aa fl
  ·by_cases h1:t=p.root <;> simp only [h1,if_true,if_false] at aa
   ·rcases (pr c).1 aa with ⟨aI,_⟩ | aI
    ·exact h.bk _ c aI
    grind
   ·exact h.bk t c aa
end
end Go.Own
namespace Go.Own
open Go
inductive Take:aK->List ab->List ab->aK->Prop
 | bl {g:aK}{xs:List ab}(h:∀ x∈xs,cU x):Take g xs xs g
 | cons {g g':aK}{x:ab}{xs xs':List ab}(h:cU x) (aw:Take g xs xs' g'):Take g (x::xs) (x::xs') g'
 | a6 {g g1 g':aK}{z n N:Nat}{p:Place}{cs cs' xs xs':List ab}(au:bB g p=some (.own z N cs)) (aF:n<=N) (h1:Take (cu g p .dead) (cs.take (n * z)) cs' g1) (af:Take g1 xs xs' g') :
   Take g (.a6 z p n::xs) (.own z n cs'::xs') g'
 | bL {g g1 g':aK}{z n m t:Nat}{q:Place}{cs new cs' xs xs':List ab}(aw:g t=some (.bL z q n m new)) (au:bB g q=some (.own z n cs)) (bg:q.root≠t) (h1:Take (cu (cu g ⟨t,[]⟩ .dead) q .dead) (cs++new) cs' g1) (af:Take g1 xs xs' g') :
   Take g (.a6 z ⟨t,[]⟩ (n+m)::xs) (.own z (n+m) cs'::xs') g'
 | Fy {g g1 g':aK}{z n m t oX m2 t2:Nat}{q:Place}{cs new zR cs' xs xs':List ab}(aw:g t=some (.bL z ⟨t2,[]⟩ n m new)) (Oe:g t2=some (.bL z q oX m2 zR)) (aF:n=oX+m2) (au:bB g q=some (.own z oX cs)) (bg:q.root≠t) (uh:q.root≠t2) (Wf:t≠t2)
   (h1:Take (cu (cu (cu g ⟨t,[]⟩ .dead) ⟨t2,[]⟩ .dead) q .dead) (cs++zR++new) cs' g1) (af:Take g1 xs xs' g') :
   Take g (.a6 z ⟨t,[]⟩ (n+m)::xs) (.own z (n+m) cs'::xs') g'
 | obj {g g1 g':aK}{p:Place}{cs cs' xs xs':List ab}(au:bB g p=some (.obj cs)) (h1:Take (cu g p .dead) cs cs' g1) (af:Take g1 xs xs' g'):Take g (.ptr p 0::xs) (.obj cs'::xs') g'
 | mp {g g1 g':aK}{p:Place}{q:Array MapEntry->Nat->Prop}{xs xs':List ab}(au:bB g p=some (.mp q)) (h1:Take (cu g p .dead) [] [] g1) (af:Take g1 xs xs' g'):Take g (.gx p::xs) (.mp q::xs') g'
 | agg {g g1 g':aK}{cs cs' xs xs':List ab}(h1:Take g cs cs' g1) (af:Take g1 xs xs' g'):Take g (.agg cs::xs) (.agg cs'::xs') g'
 | bW {g g1 g':aK}{cs cs' xs xs':List ab}(h1:Take g cs cs' g1) (af:Take g1 xs xs' g'):Take g (.bW cs::xs) (.bW cs'::xs') g'
structure Hand (w:World) (I:bb) (ρ:ab->Value->Prop) (Fs:Nat->bb) (xs:List ab) (vs:List Value) (dC:Nat->bb):Prop where
 len:xs.length=vs.length
 rel:∀ (k:Nat) (x:ab) (u:Value),xs[k]?=some x->vs[k]?=some u->R w I ρ x u (dC k)
 eI:∀ (j k c:Nat),j<xs.length->k<xs.length->dC j c->dC k c->j=k
 off:∀ (k t c:Nat),k<xs.length->dC k c->¬ Fs t c
 bk:∀ (k c:Nat),k<xs.length->dC k c->¬ I c
def lz (Fs:Nat->bb) (n:Nat) (dC:Nat->bb):bb:=λc=>(∃ t,Fs t c)\/∃ k,k<n/\dC k c
section
variable {w:World}{I:bb}{T:Array Value}
theorem Take.length {g g':aK}{xs xs':List ab}(h:Take g xs xs' g'):xs'.length=xs.length:=by
 induction h with
 | bl=>rfl
 | cons _ _ aU=>simp [aU]
 | a6 _ _ _ _ _ aU=>simp [aU]
 | bL _ _ _ _ _ _ aU=>simp [aU]
 | Fy _ _ _ _ _ _ _ _ _ _ aU=>simp [aU]
 | obj _ _ _ _ aU=>simp [aU]
 | mp _ _ _ _ aU=>simp [aU]
 | agg _ _ _ aU=>simp [aU]
 | bW _ _ _ aU=>simp [aU]
theorem Hand.cons {ρ:ab->Value->Prop}{Fs:Nat->bb}{x:ab}{v:Value}{F:bb}{xs:List ab}{vs:List Value}{dC:Nat->bb}(h:Hand w I ρ Fs xs vs dC) (J:R w I ρ x v F)
  (aS:∀ k c,k<xs.length->F c->¬ dC k c) (a1:∀ t c,F c->¬ Fs t c) (hi:∀ c,F c->¬ I c):Hand w I ρ Fs (x::xs) (v::vs) (λk=>match k with | 0=>F | k+1=>dC k):=by
 refine ⟨by simp [h.len],λk y u ax hu=>?_,λj k c ah hk h1 af=>?_,λk t c hk aa=>?_,λk c hk aa=>?_⟩
 ·cases k with
  | zero=>simp at ax hu; subst ax hu; exact J
  | succ k=>simp at ax hu; exact h.rel k y u ax hu
 ·cases j <;> cases k
  ·rfl
  ·exact absurd af (aS _ c (by simpa using hk) h1)
  ·exact absurd h1 (aS _ c (by simpa using ah) af)
  ·rw [h.eI _ _ c (by simpa using ah) (by simpa using hk) h1 af]
 ·cases k with
  | zero=>exact a1 t c aa
  | succ k=>exact h.off k t c (by simpa using hk) aa
 ·cases k with
  | zero=>exact hi c aa
  | succ k=>exact h.bk k c (by simpa using hk) aa
theorem Hand.tail {ρ:ab->Value->Prop}{Fs:Nat->bb}{x:ab}{v:Value}{xs:List ab}{vs:List Value}{dC:Nat->bb}(h:Hand w I ρ Fs (x::xs) (v::vs) dC):Hand w I ρ Fs xs vs (λk=>dC (k+1)) :=
  ⟨by simpa using h.len,λk y u ax hu=>h.rel (k+1) y u ax hu,λj k c ah hk h1 af=>by have:=h.eI (j+1) (k+1) c (by simpa using ah) (by simpa using hk) h1 af; omega,
   λk t c hk aa=>h.off (k+1) t c (by simpa using hk) aa,λk c hk aa=>h.bk (k+1) c (by simpa using hk) aa⟩
theorem pQ {x:ab}{xs:List ab}(h:cU x) (aU:∀ y∈xs,cU y):∀ y∈x::xs,cU y:=by
 intro y ax;rcases List.mem_cons.1 ax with rfl | ax
 ·exact h
 ·exact aU y ax
theorem Take.Fq {g g':aK}{xs xs':List ab}(h:Take g xs xs' g'):∀ x∈xs',cU x:=by
 induction h with
 | bl h=>exact h
 | cons h _ aU=>exact pQ h aU
 | a6 _ _ _ _ gw gh=>exact pQ (.own gw) gh
 | bL _ _ _ _ _ gw gh=>exact pQ (.own gw) gh
 | Fy _ _ _ _ _ _ _ _ _ gw gh=>exact pQ (.own gw) gh
 | obj _ _ _ gw gh=>exact pQ (.obj gw) gh
 | mp _ _ _ _ gh=>exact pQ .mp gh
 | agg _ _ gw gh=>exact pQ (.agg gw) gh
 | bW _ _ gw gh=>exact pQ (.bW gw) gh
def GN (w:World) (I:bb) (T:Array Value) (g:aK) (xs xs':List ab) (g':aK):Prop :=
 ∀ {Fs:Nat->bb}{vs:List Value}{dC:Nat->bb},jE w I T g Fs->Hand w I (fz w T) Fs xs vs dC ->
  ∃ b7 lX,jE w I T g' b7/\Hand w I (fz w T) b7 xs' vs lX/\∀ c,lz b7 xs'.length lX c->lz Fs xs.length dC c
theorem J7 {w:World}{e cj:TypeId}{z n:Nat}{v:Value}{us iV:List Value}(h:w.ownsRow 0 e z v n us) (aR:w.ownsRow 0 cj z v n iV):us=iV:=by
 obtain ⟨h1,af⟩:=h;obtain ⟨qh,TO⟩:=aR;rcases af with ⟨rfl,rfl⟩ | ⟨b,cap,cur,rfl,_,aO,_,_,_,aw⟩
 ·simp at h1 qh; rw [h1,qh]
 ·rcases TO with ⟨bY,_⟩ | ⟨eD,mT,abJ,bY,_,NK,_,_,_,EP⟩
  ·cases bY
  ·cases bY;rw [aO] at NK;cases NK;rw [<- aw,<- EP]
theorem Take.node {g1 g2 g':aK}{Fs fZ:Nat->bb}{B H0:bb}{cs cs' xs xs':List ab}{us vs:List Value}{bM dC:Nat->bb}{X:ab}{v0:Value}
  (bj:jE w I T g1 fZ) (hH:Hand w I (fz w T) fZ cs us bM) (fg:∀ c,B c->(∃ t,Fs t c)/\(∀ t,¬ fZ t c)/\(∀ k,k<cs.length->¬ bM k c)/\¬ I c)
  (gF:∀ c,lz fZ cs.length bM c->(∃ t,Fs t c)\/H0 c) (dM:Hand w I (fz w T) Fs xs vs dC) (vd:∀ c,H0 c->(∀ t,¬ Fs t c)/\∀ k,k<xs.length->¬ dC k c)
  (gw:GN w I T g1 cs cs' g2) (gh:GN w I T g2 xs xs' g')
  (build:∀ lX:Nat->bb,(∀ (k:Nat) (x:ab) (u:Value),cs'[k]?=some x->us[k]?=some u->R w I (fz w T) x u (lX k))->(∀ (j k c:Nat),j<cs'.length->k<cs'.length->lX j c->lX k c->j=k) ->
   (∀ k c,k<cs'.length->lX k c->¬ B c)->R w I (fz w T) X v0 (λc=>B c\/∃ k,k<cs'.length/\lX k c)) :
  ∃ b7 lX,jE w I T g' b7/\Hand w I (fz w T) b7 (X::xs') (v0::vs) lX/\∀ c,lz b7 (X::xs').length lX c->(∃ t,Fs t c)\/H0 c\/∃ k,k<xs.length/\dC k c:=by
 obtain ⟨i_,H1,h',Ev,BB⟩:=gw bj hH;have Xw:∀ k t c,k<xs.length->dC k c->¬ i_ t c:=by
  intro k t c hk aa aW;rcases gF c (BB c (.inl ⟨t,aW⟩)) with ⟨t',h⟩ | h
  ·exact dM.off k t' c hk aa h
  ·exact (vd c h).2 k hk aa
 obtain ⟨yL,AS,H4,Uo,Nq⟩:=gh h' (⟨dM.len,dM.rel,dM.eI,Xw,dM.bk⟩:Hand w I (fz w T) i_ xs vs dC);have Ub:∀ k c,k<cs'.length->H1 k c->¬ B c:=by
  intro k c hk aa av;obtain ⟨_,h1,af,_⟩:=fg c av;rcases BB c (.inr ⟨k,hk,aa⟩) with ⟨t,h⟩ | ⟨j,ah,h⟩
  ·exact h1 t h
  ·exact af j ah h
 have tR:=build H1 Ev.rel Ev.eI Ub
 -- the node's blocks: apart from all else
 have key:∀ c,(B c\/∃ k,k<cs'.length/\H1 k c)->(∀ t,¬ i_ t c)/\(∀ k,k<xs.length->¬ dC k c)/\¬ I c/\((∃ t,Fs t c)\/H0 c):=by
  rintro c (av | ⟨k,hk,aa⟩)
  ·obtain ⟨⟨t0,aQ⟩,h1,af,aI⟩:=fg c av;refine ⟨λt aW=>?_,λk hk aa=>dM.off k t0 c hk aa aQ,aI,.inl ⟨t0,aQ⟩⟩;rcases BB c (.inl ⟨t,aW⟩) with ⟨t',h⟩ | ⟨j,ah,h⟩
   ·exact h1 t' h
   ·exact af j ah h
  ·have aB:=gF c (BB c (.inr ⟨k,hk,aa⟩));refine ⟨λt aW=>Ev.off k t c hk aa aW,λj ah xd=>?_,Ev.bk k c hk aa,aB⟩;rcases aB with ⟨t,h⟩ | h
   ·exact dM.off j t c ah xd h
   ·exact (vd c h).2 j ah xd
 have fin:∀ c,(B c\/∃ k,k<cs'.length/\H1 k c)->(∀ t,¬ yL t c)/\∀ k,k<xs'.length->¬ AS k c:=by
  intro c aa;obtain ⟨h1,af,_,_⟩:=key c aa;have none:¬ lz yL xs'.length AS c:=by
   intro h;rcases Nq c h with ⟨t,h⟩ | ⟨k,hk,h⟩
   ·exact h1 t h
   ·exact af k hk h
  exact ⟨λt h=>none (.inl ⟨t,h⟩),λk hk h=>none (.inr ⟨k,hk,h⟩)⟩
 refine ⟨yL,_,H4,Uo.cons tR (λk c hk aa=>(fin c aa).2 k hk) (λt c aa=>(fin c aa).1 t) (λc aa=>(key c aa).2.2.1),?_⟩;have back:∀ c,lz yL xs'.length AS c->(∃ t,Fs t c)\/H0 c\/∃ k,k<xs.length/\dC k c:=by
  intro c h;rcases Nq c h with ⟨t,h⟩ | h
  ·rcases gF c (BB c (.inl ⟨t,h⟩)) with h | h
   ·exact .inl h
   ·exact .inr (.inl h)
  ·exact .inr (.inr h)
 rintro c (h | ⟨k,hk,aa⟩)
 ·exact back c (.inl h)
 ·cases k with
  | zero =>
   rcases (key c aa).2.2.2 with h | h
   ·exact .inl h
   ·exact .inr (.inl h)
  | succ k=>exact back c (.inr ⟨k,by simpa using hk,aa⟩)
end
end Go.Own
namespace Go.Own
open Go
section
variable {w:World}{I:bb}{T:Array Value}
theorem jE.kill {g:aK}{Fs:Nat->bb}(h:jE w I T g Fs) (t:Nat):∃ b7,jE w I T (cu g ⟨t,[]⟩ .dead) b7/\(∀ c,¬ b7 t c)/\∀ s,s≠t->b7 s=Fs s:=by
 refine ⟨λs=>if s=t then cx else Fs s,⟨λs x J=>?_,λs aB c=>?_,λs cT c aa fl=>?_,λs c aa=>?_,h.lt⟩,λc=>by simp,λs aB=>by simp [aB]⟩
 ·by_cases b0:s=t
  ·subst b0;simp only [cu,if_pos] at J;cases aO:g s with
   | none=>rw [aO] at J; cases J
   | some y =>
    rw [aO] at J;have:x=.dead:=by simpa [ab.setAt] using J.symm
    subst this;obtain ⟨v,hv,_⟩:=h.rel s y aO;exact ⟨v,hv,.tree (.dead (by simp))⟩
  ·simp only [cu,if_neg b0] at J; simpa [b0] using h.rel s x J
 ·by_cases b0:s=t
  ·simp [b0]
  ·simp only [cu,if_neg b0] at aB; simpa [b0] using h.kY s aB c
 ·by_cases h1:s=t <;> by_cases af:cT=t <;> simp [h1,af,cx] at aa fl;exact h.eI _ _ _ aa fl
 ·by_cases h1:s=t <;> simp [h1,cx] at aa;exact h.bk _ _ aa
theorem R.vk {ρ:ab->Value->Prop}{Fs:Nat->bb}{x:ab}{v:Value}{xs:List ab}{vs:List Value}{dC:Nat->bb}(h:Hand w I ρ Fs (x::xs) (v::vs) dC):∀ c,dC 0 c->(∀ t,¬ Fs t c)/\∀ k,k<xs.length->¬ dC (k+1) c:=by
 intro c aa;refine ⟨λt=>h.off 0 t c (by simp) aa,λk hk ib=>?_⟩;have:=h.eI 0 (k+1) c (by simp) (by simpa using hk) aa ib;omega
theorem lz.head {Fs:Nat->bb}{x:ab}{xs:List ab}{dC:Nat->bb}{c:Nat}(h:(∃ t,Fs t c)\/dC 0 c\/∃ k,k<xs.length/\dC (k+1) c):lz Fs (x::xs).length dC c:=by
 rcases h with h | h | ⟨k,hk,h⟩
 ·exact .inl h
 ·exact .inr ⟨0,by simp,h⟩
 ·exact .inr ⟨k+1,by simpa using hk,h⟩
theorem FZ {g:aK}{p:Place}{y:ab}{q:Place}(h:q.root≠p.root):bB (cu g p y) q=bB g q:=by
 grind [bB,cu]
theorem uK {g:aK}{p:Place}{y:ab}{t:Nat}(h:t≠p.root):cu g p y t=g t:=by
 grind [cu]
theorem Pl {a:Option Addr}{n cap cG mT:Nat}:(Value.slice a n cap).ownBlock=(Value.slice a cG mT).ownBlock:=by cases a <;> rfl
theorem XG {e:TypeId}{z n N:Nat}{a:Option Addr}{cap:Nat}{us:List Value}(h:w.ownsRow 0 e z (.slice a N cap) N us) (aF:n<=N):w.ownsRow 0 e z (.slice a n cap) n (us.take (n * z)):=by
 have hle:n * z<=N * z:=Nat.mul_le_mul_right _ aF;obtain ⟨hu,bY⟩:=h;refine ⟨by rw [List.length_take,hu]; omega,?_⟩
 grind
theorem Take.sound {g g':aK}{xs xs':List ab}(h:Take g xs xs' g'):GN w I T g xs xs' g':=by
 induction h with
 | bl h=>exact λ{Fs vs dC} bj hH=>⟨Fs,dC,bj,hH,λ_ h=>h⟩
 | @cons g g' x xs xs' J _ aU =>
  intro Fs vs dC bj hH;cases vs with
  | nil=>have:=hH.len; simp at this
  | cons v vs =>
   obtain ⟨b7,lX,dX,Un,hS⟩:=aU bj hH.tail;have aQ:=R.vk hH;have off:∀ c,dC 0 c->¬ lz b7 xs'.length lX c:=by
    intro c aa av;rcases hS c av with ⟨t,h⟩ | ⟨k,hk,h⟩
    ·grind
    grind
   refine ⟨b7,_,dX,Un.cons (hH.rel 0 x v rfl rfl) (λk c hk aa h=>off c aa (.inr ⟨k,hk,h⟩)) (λt c aa h=>off c aa (.inl ⟨t,h⟩)) (λc aa=>hH.bk 0 c (by simp) aa),?_⟩;rintro c (h | ⟨k,hk,h⟩)
   ·rcases hS c (.inl h) with h | ⟨j,ah,h⟩
    ·exact .inl h
    ·exact .inr ⟨j+1,by simpa using ah,h⟩
   ·cases k with
    | zero=>exact .inr ⟨0,by simp,h⟩
    | succ k =>
     rcases hS c (.inr ⟨k,by simpa using hk,h⟩) with h | ⟨j,ah,h⟩
     ·exact .inl h
     ·exact .inr ⟨j+1,by simpa using ah,h⟩
 | @a6 g g1 g' z n N p cs cs' xs xs' au aF t1 _ gw gh =>
  intro Fs vs dC bj hH;cases vs with
  | nil=>have:=hH.len; simp at this
  | cons v vs =>
   obtain ⟨qL,cy,gY,hK,dw,kh⟩:=bj.part au (by simp);obtain ⟨a,i',cap,h1,rfl,aI⟩:=(hH.rel 0 _ v rfl rfl).nh;rw [h1] at gY;cases gY;obtain ⟨a2,rP,je,_⟩:=hK.np;cases je;obtain ⟨fZ,jd,ky,iP⟩:=kh .dead cx (.dead λ_ h=>h) (λ_ h=>h.elim) (λ_ h=>h.elim) (λ_ _ _ h=>h.elim);have pw:∀ t c,fZ t c->Fs t c/\¬ cy c:=by
    intro t c aa;by_cases aw:t=p.root
    ·grind
    ·rw [iP t aw] at aa;exact ⟨aa,λeO=>aw (bj.eI _ _ _ aa (dw c eO))⟩
   cases hK with
   | ref J=>simp [ab.isRef] at J
   | @own _ _ _ _ e us bM _ a1 ak qh aq aS av aN =>
    have EO:∀ k,k<(cs.take (n * z)).length->k<cs.length:=λk hk=>by rw [List.length_take] at hk; omega
    have fV:∀ k c,k<(cs.take (n * z)).length->bM k c->cy c:=λk c hk aa=>(aN c).2 (.inr ⟨k,EO k hk,aa⟩);have iM:Hand w I (fz w T) fZ (cs.take (n * z)) (us.take (n * z)) bM:=by
     refine ⟨by simp [ak],λk x u J hu=>?_,λj k c ah hk=>aS j k c (EO j ah) (EO k hk),λk t c hk aa aW=>(pw t c aW).2 (fV k c hk aa),λk c hk aa=>bj.bk _ c (dw c (fV k c hk aa))⟩
     grind
    have qo:=XG a1 aF;obtain ⟨b7,lX,aD,a2,a3⟩:=Take.node (g1:=cu g p .dead) (Fs:=Fs) (B:=λc=>(Value.slice a n cap).ownBlock=some c) (H0:=dC 0) (X:=.own z n cs') (v0:=.slice a n cap) jd iM
     (λc aa=>by
      have eO:cy c:=(aN c).2 (.inl (by rw [<- aa]; exact Pl));exact ⟨⟨_,dw c eO⟩,λt aW=>(pw t c aW).2 eO,λk hk ib=>av k c (EO k hk) ib (by rw [<- aa]; exact Pl),bj.bk _ c (dw c eO)⟩)
     (λc aa=>by
      rcases aa with ⟨t,h⟩ | ⟨k,hk,h⟩
      ·grind
      grind)
     hH.tail (R.vk hH) gw gh (λyO hn iD lF=>by
      refine .own qo (by rw [t1.length]; simp [ak]) (λk u hu=>?_) hn iD (λk c hk aa h=>lF k c hk aa h) λc=>Iff.rfl
      grind)
    grind [lz.head]
 | @bL g g1 g' z n m t q cs new cs' xs xs' aw au bg t1 _ gw gh =>
  intro Fs vs dC bj hH;cases vs with
  | nil=>have:=hH.len; simp at this
  | cons v vs =>
   obtain ⟨a,i',cap,h1,rfl,aI⟩:=(hH.rel 0 _ v rfl rfl).nh;obtain ⟨v0,iQ,gE⟩:=bj.rel t _ aw;simp only [dW,iQ,walk,Option.some.injEq] at h1;subst h1;obtain ⟨bv,e,b9,us,news,gE⟩:=gE.vF;have bd:i'=n+m:=by
    obtain ⟨_,bY⟩:=gE.nL
    grind
   subst bd;obtain ⟨Q8,H6,hg,fW⟩:=bj.kill t;have IV:bB (cu g ⟨t,[]⟩ .dead) q=some (.own z n cs):=by rw [FZ (by simpa using bg)]; exact au
   obtain ⟨qL,cy,gY,hK,dw,kh⟩:=H6.part IV (by simp);obtain ⟨ca,mT,bF,rfl⟩:=gE.jT;rw [bF] at gY;cases gY;obtain ⟨fZ,jd,ky,iP⟩:=kh .dead cx (.dead λ_ h=>h) (λ_ h=>h.elim) (λ_ h=>h.elim) (λ_ _ _ h=>h.elim);have r1:∀ c,cy c->Fs q.root c:=λc aa=>by have:=dw c aa; rwa [fW _ bg] at this
   have pw:∀ s c,fZ s c->Fs s c/\¬ cy c/\s≠t:=by
    intro s c aa;have b0:s≠t:=by
     rintro rfl;by_cases Oc:s=q.root
     ·grind
     simp_all
    by_cases aB:s=q.root
    ·grind
    ·rw [iP s aB,fW s b0] at aa;exact ⟨aa,λeO=>aB (bj.eI _ _ _ aa (r1 c eO)),b0⟩
   cases hK with
   | ref J=>simp [ab.isRef] at J
   | @own _ _ _ _ cj iV bM _ a1 ak qh aq aS av aN =>
    have:=J7 a1 gE.lk;subst this;have fV:∀ k c,k<cs.length->bM k c->cy c:=λk c hk aa=>(aN c).2 (.inr ⟨k,hk,aa⟩);have iM:Hand w I (fz w T) fZ (cs++new) (iV++news) (λk=>if k<cs.length then bM k else cx):=by
     refine ⟨by simp [ak,gE.ak],λk x u J hu=>?_,λj k c ah hk aa fl=>?_,λk s c hk aa aW=>?_,λk c hk aa=>?_⟩
     ·by_cases fu:k<cs.length
      ·grind
      ·rw [List.getElem?_append_right (by omega)] at J;rw [List.getElem?_append_right (by omega),<- ak] at hu;simpa [fu] using gE.aq _ x u J hu
     ·by_cases eZ:j<cs.length <;> by_cases fu:k<cs.length <;> simp [eZ,fu,cx] at aa fl
      grind
     ·by_cases fu:k<cs.length <;> simp [fu,cx] at aa
      grind
     ·by_cases fu:k<cs.length <;> simp [fu,cx] at aa;exact bj.bk _ c (r1 c (fV k c fu aa))
    obtain ⟨b7,lX,aD,a2,a3⟩:=Take.node (g1:=cu (cu g ⟨t,[]⟩ .dead) q .dead) (Fs:=Fs) (B:=λc=>(Value.slice a (n+m) cap).ownBlock=some c) (H0:=dC 0) (X:=.own z (n+m) cs') (v0:=.slice a (n+m) cap) jd iM
     (λc aa=>by
      by_cases q_:(Value.slice ca n mT).ownBlock=some c
      ·have eO:cy c:=(aN c).2 (.inl q_);refine ⟨⟨_,r1 c eO⟩,λs aW=>(pw s c aW).2.1 eO,λk hk ib=>?_,bj.bk _ c (r1 c eO)⟩;by_cases fu:k<cs.length <;> simp [fu,cx] at ib
       grind
      ·have ER:Fs t c:=(gE.aN c).2 ⟨aa,q_⟩;refine ⟨⟨_,ER⟩,λs aW=>(pw s c aW).2.2 (bj.eI _ _ _ (pw s c aW).1 ER),λk hk ib=>?_,bj.bk _ c ER⟩;by_cases fu:k<cs.length <;> simp [fu,cx] at ib;exact bg (bj.eI _ _ _ (r1 c (fV k c fu ib)) ER))
     (λc aa=>by
      rcases aa with ⟨s,h⟩ | ⟨k,hk,h⟩
      ·grind
      ·by_cases fu:k<cs.length <;> simp [fu,cx] at h
       grind)
     hH.tail (R.vk hH) gw gh (λyO hn iD lF=>by
      refine .own gE.nL (by rw [t1.length]; simp [ak,gE.ak]) (λk u hu=>?_) hn iD (λk c hk aa h=>lF k c hk aa h) λc=>Iff.rfl;by_cases fu:k<iV.length
      ·grind
      ·rw [List.getElem?_append_right (by omega)] at hu; exact gE.h1 _ u hu)
    grind [lz.head]
 | @Fy g g1 g' z n m t oX m2 t2 q cs new zR cs' xs xs' aw Oe aF au bg uh Wf t1 _ gw gh =>
  subst aF;intro Fs vs dC bj hH;cases vs with
  | nil=>have:=hH.len; simp at this
  | cons v vs =>
   obtain ⟨a,i',cap,h1,rfl,aI⟩:=(hH.rel 0 _ v rfl rfl).nh;obtain ⟨v0,iQ,gE⟩:=bj.rel t _ aw;simp only [dW,iQ,walk,Option.some.injEq] at h1;subst h1;obtain ⟨bv,e,b9,us,news,gE⟩:=gE.vF;have bd:i'=oX+m2+m:=by
    obtain ⟨_,bY⟩:=gE.nL
    grind
   subst bd;obtain ⟨v2,B8,mv⟩:=bj.rel t2 _ Oe;obtain ⟨L3,cj,tI,Zs,J0,mv⟩:=mv.vF;have jT:bv=v2:=by
    obtain ⟨aD,Mf,cF,rfl⟩:=gE.jT
    grind [dW,walk]
   subst jT;have l8:us=Zs++J0:=J7 gE.lk mv.nL;subst l8;obtain ⟨ZQ,UF,acA,NR⟩:=bj.kill t;obtain ⟨Q8,H6,hg,fW⟩:=UF.kill t2;have IV:bB (cu (cu g ⟨t,[]⟩ .dead) ⟨t2,[]⟩ .dead) q=some (.own z oX cs):=by rw [FZ (by simpa using uh),FZ (by simpa using bg)]; exact au
   obtain ⟨qL,cy,gY,hK,dw,kh⟩:=H6.part IV (by simp);obtain ⟨ca,mT,bF,rfl⟩:=mv.jT;rw [bF] at gY;cases gY;obtain ⟨fZ,jd,ky,iP⟩:=kh .dead cx (.dead λ_ h=>h) (λ_ h=>h.elim) (λ_ h=>h.elim) (λ_ _ _ h=>h.elim);have r1:∀ c,cy c->Fs q.root c:=λc aa=>by have:=dw c aa; rwa [fW _ uh,NR _ bg] at this
   have pw:∀ s c,fZ s c->Fs s c/\¬ cy c/\s≠t/\s≠t2:=by
    intro s c aa;have qp:s≠t2:=by
     rintro rfl;by_cases Oc:s=q.root
     ·grind
     simp_all
    have b0:s≠t:=by
     rintro rfl;by_cases Oc:s=q.root
     ·grind
     simp_all
    by_cases aB:s=q.root
    ·grind
    ·rw [iP s aB,fW s qp,NR s b0] at aa;exact ⟨aa,λeO=>aB (bj.eI _ _ _ aa (r1 c eO)),b0,qp⟩
   cases hK with
   | ref J=>simp [ab.isRef] at J
   | @own _ _ _ _ fG iV bM _ a1 ak qh aq aS av aN =>
    have:=J7 a1 mv.lk;subst this;have fV:∀ k c,k<cs.length->bM k c->cy c:=λk c hk aa=>(aN c).2 (.inr ⟨k,hk,aa⟩);have iM:Hand w I (fz w T) fZ (cs++zR++new) (iV++J0++news) (λk=>if k<cs.length then bM k else cx):=by
     have gk:=mv.ak;have Co:=gE.ak;refine ⟨by simp [ak,gk,Co],λk x u J hu=>?_,λj k c ah hk aa fl=>?_,λk s c hk aa aW=>?_,λk c hk aa=>?_⟩
     ·rw [List.append_assoc] at J hu;by_cases fu:k<cs.length
      ·grind
      ·rw [List.getElem?_append_right (by omega)] at J;rw [List.getElem?_append_right (by omega),<- ak] at hu;simp only [fu,if_false];by_cases IG:k - cs.length<zR.length
       ·rw [List.getElem?_append_left IG] at J;rw [List.getElem?_append_left (by omega)] at hu;exact mv.aq _ x u J hu
       ·rw [List.getElem?_append_right (by omega)] at J;rw [List.getElem?_append_right (by omega),<- gk] at hu;exact gE.aq _ x u J hu
     ·by_cases eZ:j<cs.length <;> by_cases fu:k<cs.length <;> simp [eZ,fu,cx] at aa fl
      grind
     ·by_cases fu:k<cs.length <;> simp [fu,cx] at aa
      grind
     ·by_cases fu:k<cs.length <;> simp [fu,cx] at aa;exact bj.bk _ c (r1 c (fV k c fu aa))
    have Qd:∀ s c,Fs s c->s=t\/s=t2->(∃ s,Fs s c)/\(∀ s,¬ fZ s c)/\(∀ k,k<(cs++zR++new).length->¬ (if k<cs.length then bM k else cx) c)/\¬ I c:=by
     intro s c aa aB;refine ⟨⟨_,aa⟩,λcT aW=>?_,λk hk ib=>?_,bj.bk _ c aa⟩
     ·obtain ⟨f1,_,f2,f3⟩:=pw cT c aW;have:=bj.eI _ _ _ f1 aa
      grind
     ·by_cases fu:k<cs.length <;> simp [fu,cx] at ib;have:=bj.eI _ _ _ (r1 c (fV k c fu ib)) aa
      grind
    obtain ⟨b7,lX,aD,a2,a3⟩:=Take.node (g1:=cu (cu (cu g ⟨t,[]⟩ .dead) ⟨t2,[]⟩ .dead) q .dead) (Fs:=Fs) (B:=λc=>(Value.slice a (oX+m2+m) cap).ownBlock=some c) (H0:=dC 0) (X:=.own z (oX+m2+m) cs') (v0:=.slice a (oX+m2+m) cap) jd iM
     (λc aa=>by
      by_cases q_:bv.ownBlock=some c
      ·by_cases Nv:(Value.slice ca oX mT).ownBlock=some c
       ·have eO:cy c:=(aN c).2 (.inl Nv);refine ⟨⟨_,r1 c eO⟩,λs aW=>(pw s c aW).2.1 eO,λk hk ib=>?_,bj.bk _ c (r1 c eO)⟩;by_cases fu:k<cs.length <;> simp [fu,cx] at ib
        grind
       ·exact Qd t2 c ((mv.aN c).2 ⟨q_,Nv⟩) (.inr rfl)
      ·exact Qd t c ((gE.aN c).2 ⟨aa,q_⟩) (.inl rfl))
     (λc aa=>by
      rcases aa with ⟨s,h⟩ | ⟨k,hk,h⟩
      ·grind
      ·by_cases fu:k<cs.length <;> simp [fu,cx] at h
       grind)
     hH.tail (R.vk hH) gw gh (λyO hn iD lF=>by
      refine .own gE.nL (by rw [t1.length]; simp [ak,mv.ak,gE.ak]) (λk u hu=>?_) hn iD (λk c hk aa h=>lF k c hk aa h) λc=>Iff.rfl;rw [List.append_assoc] at hu;by_cases fu:k<iV.length
      ·grind
      ·rw [List.getElem?_append_right (by omega)] at hu;by_cases IG:k - iV.length<J0.length
       ·rw [List.getElem?_append_left IG] at hu;exact mv.h1 _ u hu
       ·rw [List.getElem?_append_right (by omega)] at hu; exact gE.h1 _ u hu)
    grind [lz.head]
 | @obj g g1 g' p cs cs' xs xs' au t1 _ gw gh =>
  intro Fs vs dC bj hH;cases vs with
  | nil=>have:=hH.len; simp at this
  | cons v vs =>
   obtain ⟨qL,cy,gY,hK,dw,kh⟩:=bj.part au (by simp);obtain ⟨u,ad,h1,af,rfl⟩:=(hH.rel 0 _ v rfl rfl).nR;rw [h1] at gY;cases gY;obtain ⟨fZ,jd,ky,iP⟩:=kh .dead cx (.dead λ_ h=>h) (λ_ h=>h.elim) (λ_ h=>h.elim) (λ_ _ _ h=>h.elim);have pw:∀ t c,fZ t c->Fs t c/\¬ cy c:=by
    intro t c aa;by_cases aw:t=p.root
    ·grind
    ·rw [iP t aw] at aa;exact ⟨aa,λeO=>aw (bj.eI _ _ _ aa (dw c eO))⟩
   cases hK with
   | ref J=>simp [ab.isRef] at J
   | @obj _ b e arr bM _ a1 ak qh aq aS av aN =>
    simp only [addrOf,Option.some.injEq] at af;subst af;have fV:∀ k c,k<cs.length->bM k c->cy c:=λk c hk aa=>(aN c).2 (.inr ⟨k,hk,aa⟩);have iM:Hand w I (fz w T) fZ cs arr.toList bM :=
     ⟨by simp [ak],λk x u J hu=>aq k x u J (by simpa using hu),aS,λk t c hk aa aW=>(pw t c aW).2 (fV k c hk aa),λk c hk aa=>bj.bk _ c (dw c (fV k c hk aa))⟩
    obtain ⟨b7,lX,aD,a2,a3⟩:=Take.node (g1:=cu g p .dead) (Fs:=Fs) (B:=λc=>c=b) (H0:=dC 0) (X:=.obj cs') (v0:=.pointer (some ⟨b,0,none⟩)) jd iM
     (λc aa=>by
      subst aa;have eO:cy c:=(aN c).2 (.inl rfl);exact ⟨⟨_,dw c eO⟩,λt aW=>(pw t c aW).2 eO,λk hk ib=>av k hk ib,bj.bk _ c (dw c eO)⟩)
     (λc aa=>by
      rcases aa with ⟨t,h⟩ | ⟨k,hk,h⟩
      ·grind
      grind)
     hH.tail (R.vk hH) gw gh (λyO hn iD lF=>by
      refine .obj a1 (by rw [t1.length,ak]) qh (λk x u J hu=>hn k x u J (by simpa using hu)) iD (λk hk h=>lF k b hk h rfl) λc=>Iff.rfl)
    grind [lz.head]
 | @mp g g1 g' p q xs xs' au t1 _ gw gh =>
  intro Fs vs dC bj hH;cases vs with
  | nil=>have:=hH.len; simp at this
  | cons v vs =>
   obtain ⟨qL,cy,gY,hK,dw,kh⟩:=bj.part au (by simp);have hm:=hH.rel 0 _ v rfl rfl;cases hm with
   | ref _ hm _ =>
   obtain ⟨GZ,h1,rfl⟩:=hm;rw [h1] at gY;cases gY;obtain ⟨fZ,jd,ky,iP⟩:=kh .dead cx (.dead λ_ h=>h) (λ_ h=>h.elim) (λ_ h=>h.elim) (λ_ _ _ h=>h.elim);have pw:∀ t c,fZ t c->Fs t c/\¬ cy c:=by
    intro t c aa;by_cases aw:t=p.root
    ·grind
    ·rw [iP t aw] at aa;exact ⟨aa,λeO=>aw (bj.eI _ _ _ aa (dw c eO))⟩
   cases hK with
   | ref J=>simp [ab.isRef] at J
   | @mp _ b es clock _ a1 bg aN =>
    have iM:Hand w I (fz w T) fZ [] [] (λ_=>cx) :=
     ⟨rfl,λk x u J=>by simp at J,λ_ _ _ _ _ h=>h.elim,λ_ _ _ _ h=>h.elim,λ_ _ _ h=>h.elim⟩
    obtain ⟨b7,lX,aD,a2,a3⟩:=Take.node (g1:=cu g p .dead) (Fs:=Fs) (B:=λc=>c=b) (H0:=dC 0) (X:=.mp q) (v0:=.map (some b)) jd iM
     (λc aa=>by
      subst aa;have eO:cy c:=(aN c).2 rfl;exact ⟨⟨_,dw c eO⟩,λt aW=>(pw t c aW).2 eO,λk hk _=>by simp at hk,bj.bk _ c (dw c eO)⟩)
     (λc aa=>by
      rcases aa with ⟨t,h⟩ | ⟨k,hk,h⟩
      ·grind
      grind)
     hH.tail (R.vk hH) gw gh (λyO hn iD lF=>by
      refine .mp a1 bg λc=>⟨λh=>h.elim id λ⟨_,hk,_⟩=>by simp at hk,.inl⟩)
    grind [lz.head]
 | @agg g g1 g' cs cs' xs xs' t1 _ gw gh =>
  intro Fs vs dC bj hH;cases vs with
  | nil=>have:=hH.len; simp at this
  | cons v vs =>
   have J:=hH.rel 0 _ v rfl rfl;have aQ:=R.vk hH;cases J with
   | ref J=>simp [ab.isRef] at J
   | @agg _ us bM _ ak qh aq aS aN =>
    have fV:∀ k c,k<cs.length->bM k c->dC 0 c:=λk c hk aa=>(aN c).2 ⟨k,hk,aa⟩;obtain ⟨b7,lX,aD,a2,a3⟩:=Take.node (g1:=g) (Fs:=Fs) (B:=cx) (H0:=dC 0) (X:=.agg cs') (v0:=.agg us) bj
     (⟨by simp [ak],λk x u J hu=>aq k x u J (by simpa using hu),aS,λk t c hk aa=>(aQ c (fV k c hk aa)).1 t,λk c hk aa=>hH.bk 0 c (by simp) (fV k c hk aa)⟩:Hand w I (fz w T) Fs cs us.toList bM)
     (λc aa=>aa.elim)
     (λc aa=>by
      rcases aa with h | ⟨k,hk,h⟩
      ·grind
      grind)
     hH.tail aQ gw gh (λyO hn iD lF=>by
      refine .agg (by rw [t1.length,ak]) qh (λk x u J hu=>hn k x u J (by simpa using hu)) iD λc=>⟨λh=>h.elim (λh=>h.elim) id,.inr⟩)
    grind [lz.head]
 | @bW g g1 g' cs cs' xs xs' t1 _ gw gh =>
  intro Fs vs dC bj hH;cases vs with
  | nil=>have:=hH.len; simp at this
  | cons v vs =>
   have J:=hH.rel 0 _ v rfl rfl;have aQ:=R.vk hH;cases J with
   | ref J=>simp [ab.isRef] at J
   | @bW _ us bM _ ak aq aS aN =>
    have fV:∀ k c,k<cs.length->bM k c->dC 0 c:=λk c hk aa=>(aN c).2 ⟨k,hk,aa⟩;obtain ⟨b7,lX,aD,a2,a3⟩:=Take.node (g1:=g) (Fs:=Fs) (B:=cx) (H0:=dC 0) (X:=.bW cs') (v0:=.tuple us) bj
     (⟨by simp [ak],λk x u J hu=>aq k x u J (by simpa using hu),aS,λk t c hk aa=>(aQ c (fV k c hk aa)).1 t,λk c hk aa=>hH.bk 0 c (by simp) (fV k c hk aa)⟩:Hand w I (fz w T) Fs cs us.toList bM)
     (λc aa=>aa.elim)
     (λc aa=>by
      rcases aa with h | ⟨k,hk,h⟩
      ·grind
      grind)
     hH.tail aQ gw gh (λyO hn iD lF=>by
      refine .bW (by rw [t1.length,ak]) (λk x u J hu=>hn k x u J (by simpa using hu)) iD λc=>⟨λh=>h.elim (λh=>h.elim) id,.inr⟩)
    grind [lz.head]
end
end Go.Own
namespace Go.Own
open Go
inductive jo (mM:ab->Prop):ab->Prop
 | bl {x:ab}(h:cU x):jo mM x
 | ref {x:ab}(J:x.isRef=true) (h:mM x):jo mM x
 | own {z n:Nat}{cs:List ab}(h:∀ x∈cs,jo mM x):jo mM (.own z n cs)
 | obj {cs:List ab}(h:∀ x∈cs,jo mM x):jo mM (.obj cs)
 | agg {cs:List ab}(h:∀ x∈cs,jo mM x):jo mM (.agg cs)
 | bW {cs:List ab}(h:∀ x∈cs,jo mM x):jo mM (.bW cs)
 | cX {fn:Fn}{a b:List ab}(h1:∀ x∈a,jo mM x) (af:∀ x∈b,jo mM x):jo mM (.cX fn a b)
def Av:ab->Option Place
 | .ptr p _=>some p
 | .a6 _ p _=>some p
 | .sub _ p _ _=>some p
 | .bL _ p _ _ _=>some p
 | .gx p=>some p
 | _=>none
def Clear (p:Place) (k m:Nat) (r:ab):Prop:=∀ q,Av r=some q->q.root=p.root->∀ j dm,q.path=p.path++j::dm->j<k\/k+m<=j
def e5 {α:Type}(l:List α) (k:Nat) (c:List α):List α:=l.take k++c++l.drop (k+c.length)
theorem rE {α:Type}{l:List α}{k:Nat}{c:List α}(h:k+c.length<=l.length):(e5 l k c).length=l.length:=by
 simp [e5]; omega
theorem te {α:Type}{l:List α}{k:Nat}{c:List α}(h:k+c.length<=l.length) (j:Nat):(e5 l k c)[j]?=if k<=j/\j<k+c.length then c[j - k]? else l[j]?:=by
 unfold e5;rw [List.append_assoc];by_cases h1:j<k
 ·rw [List.getElem?_append_left (by simp; omega),List.getElem?_take,if_pos h1,if_neg (by omega)]
 ·rw [List.getElem?_append_right (by simp; omega)];have:(l.take k).length=k:=by simp; omega
  rw [this];by_cases af:j<k+c.length
  ·rw [List.getElem?_append_left (by omega),if_pos ⟨by omega,af⟩]
  ·rw [List.getElem?_append_right (by omega),List.getElem?_drop,if_neg (by omega)];congr 1; omega
theorem Y0 {α:Type}{l:List α}{k:Nat}{c:List α}{m:Nat}(h:k+c.length<=m) (hm:m<=l.length):(e5 l k c).take m=e5 (l.take m) k c:=by
 have h1:k+c.length<=(l.take m).length:=by rw [List.length_take]; omega
 apply List.ext_getElem?;intro j;rw [List.getElem?_take,te h1,te (l:=l) (by omega),List.getElem?_take];by_cases ah:j<m
 ·rw [if_pos ah,if_pos ah]
 ·rw [if_neg ah,if_neg ah,if_neg (by omega)]
def ab.e5 (x:ab) (k:Nat) (c:List ab):ab :=
 match x with
 | .own z n cs=>.own z n (Own.e5 cs k c)
 | .obj cs=>.obj (Own.e5 cs k c)
 | x=>x
section
variable {w:World}{I:bb}{T:Array Value}{g:aK}{Fs:Nat->bb}
theorem R.yh {ρ:ab->Value->Prop}{mM:ab->Prop}{x:ab}{v:Value}{F:bb}(h:R w I ρ x v F):jo mM x->R w I (λr u=>ρ r u/\mM r) x v F:=by
 induction h with
 | lit h aN=>exact λ_=>.lit h aN
 | aL aN=>exact λ_=>.aL aN
 | dead aN=>exact λ_=>.dead aN
 | @ref x _ _ J h aN =>
  intro hk;refine .ref J ⟨h,?_⟩ aN;cases hk with
  | ref _ h=>exact h
  | bl h=>cases h <;> simp [ab.isRef] at J
  | _=>simp [ab.isRef] at J
 | hM aN=>exact λ_=>.hM aN
 | mp a1 au aN=>exact λ_=>.mp a1 au aN
 | imp aN bc a1 au=>exact λ_=>.imp aN bc a1 au
 | bk aN lg bc aB ak h1 aa aq aU =>
  intro hk;cases hk with
  | ref J=>simp [ab.isRef] at J
  | bl h=>cases h with | bk h=>exact .bk aN lg bc aB ak h1 aa λk x J=>aU k x J (.bl (h x (List.mem_of_getElem? J)))
 | cI aN bc aB h1 aa aq aU =>
  intro hk;cases hk with
  | ref J=>simp [ab.isRef] at J
  | bl h=>cases h with | cI h=>exact .cI aN bc aB h1 aa λk x J=>aU k x J (.bl (h x (List.mem_of_getElem? J)))
 | own a1 ak h1 aq aS av aN aU =>
  intro hk;refine .own a1 ak h1 (λk x u J hu=>aU k x u J hu ?_) aS av aN;cases hk with
  | ref J=>simp [ab.isRef] at J
  | bl h=>cases h with | own h=>exact .bl (h x (List.mem_of_getElem? J))
  | own h=>exact h x (List.mem_of_getElem? J)
 | obj a1 ak h1 aq aS av aN aU =>
  intro hk;refine .obj a1 ak h1 (λk x u J hu=>aU k x u J hu ?_) aS av aN;cases hk with
  | ref J=>simp [ab.isRef] at J
  | bl h=>cases h with | obj h=>exact .bl (h x (List.mem_of_getElem? J))
  | obj h=>exact h x (List.mem_of_getElem? J)
 | agg ak h1 aq aS aN aU =>
  intro hk;refine .agg ak h1 (λk x u J hu=>aU k x u J hu ?_) aS aN;cases hk with
  | ref J=>simp [ab.isRef] at J
  | bl h=>cases h with | agg h=>exact .bl (h x (List.mem_of_getElem? J))
  | agg h=>exact h x (List.mem_of_getElem? J)
 | bW ak aq aS aN aU =>
  intro hk;refine .bW ak (λk x u J hu=>aU k x u J hu ?_) aS aN;cases hk with
  | ref J=>simp [ab.isRef] at J
  | bl h=>cases h with | bW h=>exact .bl (h x (List.mem_of_getElem? J))
  | bW h=>exact h x (List.mem_of_getElem? J)
 | @cX fn first caps v1 v2 F aN h1 af ky iP gw gh =>
  intro hk;have:(∀ x∈first,jo mM x)/\∀ x∈caps,jo mM x:=by
   cases hk with
   | ref J=>simp [ab.isRef] at J
   | bl h=>cases h with | cX h1 af=>exact ⟨λx J=>.bl (h1 x J),λx J=>.bl (af x J)⟩
   | cX h1 af=>exact ⟨h1,af⟩
  exact .cX aN h1 af (λk x u J hu=>gw k x u J hu (this.1 x (List.mem_of_getElem? J))) (λk x u J hu=>gh k x u J hu (this.2 x (List.mem_of_getElem? J)))
theorem jE.store (bj:jE w I T g Fs) {p:Place}{nd:ab}{z n:Nat}{cs:List ab}(au:bB g p=some nd) (fm:nd=.own z n cs\/nd=.obj cs) {k:Nat}{cs':List ab}(hk:k+cs'.length<=cs.length)
  {iV:List Value}{dC:Nat->bb}(hH:Hand w I (fz w T) Fs cs' iV dC) (na:∀ x∈cs',cU x) (ht:∀ (j:Nat) (u:Value),iV[j]?=some u->u.oneCell'=true)
  {g2:aK}(zr:∀ t x,g2 t=some x->cu g p (nd.e5 k cs') t=some x)
  (r_:∀ t x,g2 t=some x->∀ y,g t=some y->jo (λr=>gC g r/\Clear p k cs'.length r/\gC g2 r) y) (lj:∀ t z q n m new,g2 t≠some (.bL z q n m new)) (kf:g2 p.root≠none) {b:Nat}{v:Value}
  (hv:dW w T p=some v) (av:addrOf v=some ⟨b,0,none⟩) {e:TypeId}{arr:Array Value}(kc:w.heap[b]?=some (.cells arr e (0,0))) :
  ∃ b7,cH (w.setRow b (e5 arr.toList k iV).toArray) I T g2 b7/\∀ t c,b7 t c->Fs t c\/∃ j,j<cs'.length/\dC j c:=by
 have lp:∀ z q n m new,nd≠.bL z q n m new:=by rcases fm with rfl | rfl <;> simp
 have hlen:=hH.len;have o9:∀ c,c≠b->(w.setRow b (e5 arr.toList k iV).toArray).heap[c]?=w.heap[c]?:=λc aa=>setRow_other w b c _ aa;have Dw:(w.setRow b (e5 arr.toList k iV).toArray).heap[b]?=some (.cells (e5 arr.toList k iV).toArray e (0,0)):=setRow_heap w b arr _ e (0,0) kc;have QA:(w.setRow b (e5 arr.toList k iV).toArray).heap.size=w.heap.size:=by simp
 generalize vz:w.setRow b (e5 arr.toList k iV).toArray=w' at *
 -- the slot of the node
 obtain ⟨eC,iH⟩:∃ eC,g p.root=some eC:=by
  unfold bB at au;cases J:g p.root with
  | none=>rw [J] at au; cases au
  | some x=>exact ⟨x,rfl⟩
 have py:eC.at p.path=some nd:=by simpa [bB,iH] using au
 obtain ⟨v0,iQ,gE⟩:=bj.rel _ _ iH;have By:=gE.gG (by rintro z q n m new rfl; exact lp _ _ _ _ _ (ab.sC py).2);have lM:jo (λr=>gC g r/\Clear p k cs'.length r/\gC g2 r) eC:=by
  cases af:g2 p.root with
  | none=>exact absurd af kf
  | some y=>exact r_ _ _ af _ iH
 let La:ab->Value->Prop:=λr u=>fz w T r u/\gC g r/\Clear p k cs'.length r/\gC g2 r;have qj:R w I La eC v0 (Fs p.root):=By.yh lM;obtain ⟨h5,cy,hw,dH,dw,eY,kh⟩:=R.focus p.path qj py;have I8:h5=v:=by simp only [dW,iQ,hw,Option.some.injEq] at hv; exact hv
 subst I8;have my:cy b:=dH.Fo (z:=z) (n:=n) fm av;have same:∀ t c,Fs t c->c≠b->w'.heap[c]?=w.heap[c]?:=λ_ c _ aa=>o9 c aa;have ve:∀ c,I c->w'.heap[c]?=w.heap[c]?:=λc aa=>o9 c λe=>bj.bk _ b (dw b my) (e ▸ aa);have EK:∀ t,t≠p.root->¬ Fs t b:=λt aw h=>aw (bj.eI _ _ _ h (dw b my))
 -- ways that are clear of the cells
 obtain ⟨Zz,ZA⟩:=eY w' λc aa aF=>o9 c λe=>aF (e ▸ my);have OM:∀ (ρ':ab->Value->Prop),(∀ x v,La x v->ρ' x v)->(∃ c8,R w' I ρ' (nd.e5 k cs') h5 c8/\∀ c,c8 c->cy c\/∃ j,j<cs'.length/\dC j c)/\∀ j dm y,(j<k\/k+cs'.length<=j)->nd.at (j::dm)=some y->walk w' h5 (j::dm)=walk w h5 (j::dm):=by
  intro ρ' lP;have new:∀ (j:Nat) (x:ab) (u:Value),cs'[j]?=some x->iV[j]?=some u->R w' I ρ' x u (dC j):=by
   intro j x u J hu;have ah:j<cs'.length:=(List.getElem?_eq_some_iff.1 J).1;have:=(hH.rel j x u J hu).bl (ρ':=ρ') (na x (List.mem_of_getElem? J));exact this.frame ve (λ_ h=>h) (λ_ _ h=>h) λc aa=>o9 c λe=>hH.off j p.root b ah (e ▸ aa) (dw b my)
  rcases fm with rfl | rfl
  ·cases dH with
   | ref J=>simp [ab.isRef] at J
   | @own _ _ _ _ cj us bM _ a1 ak h1 aq aS iO aN =>
    obtain ⟨l8,bY⟩:=a1;rcases bY with ⟨rfl,_⟩ | ⟨eD,cap,cur,rfl,wa,lu,As,yd,Dg,Dh⟩
    ·simp [addrOf] at av
    ·simp only [addrOf,Option.some.injEq,Addr.mk.injEq,and_true] at av;subst av;rw [kc] at lu;cases lu;have Nz:n * z<=arr.toList.length:=by
      rw [<- l8,<- Dh,List.length_take] ; simp; omega
     have acU:us.length=cs.length:=ak.symm;have nK:w'.ownsRow 0 e z (.slice (some ⟨eD,0,none⟩) n cap) n (e5 us k iV):=by
      refine ⟨by rw [rE (by omega),l8],.inr ⟨eD,cap,_,rfl,wa,Dw,As,yd,?_,?_⟩⟩
      ·rw [List.size_toArray,rE (by omega),Array.length_toList,Dg]
      ·show (e5 arr.toList k iV).take (n * z)=_;rw [Y0 (by omega) Nz,Dh]
     have M9:∀ j,j<cs.length->¬ bM j eD:=λj ah h=>iO j eD ah h rfl;have fV:∀ j c,j<cs.length->bM j c->Fs p.root c:=λj c ah aa=>dw c ((aN c).2 (.inr ⟨j,ah,aa⟩));refine ⟨⟨_,.own (Fs:=λj=>if k<=j/\j<k+cs'.length then dC (j - k) else bM j) nK (by rw [rE hk,rE (by omega),ak]) (λj u hu=>?_) (λj x u J hu=>?_) (λi j c hi ah aa fl=>?_) (λj c ah aa vx=>?_) (λc=>Iff.rfl),λc aa=>?_⟩,λj dm y ah ax=>?_⟩
     ·rw [te (by omega)] at hu
      split at hu
      ·exact ht _ u hu
      ·exact h1 j u hu
     ·rw [te hk] at J;rw [te (by omega),<- hlen] at hu;by_cases gX:k<=j/\j<k+cs'.length
      ·rw [if_pos gX] at J hu;simpa [gX] using new (j - k) x u J hu
      ·rw [if_neg gX] at J hu;have eZ:j<cs.length:=(List.getElem?_eq_some_iff.1 J).1;rw [if_neg gX];exact (aq j x u J hu).frame ve (λ_ h=>h) lP λc aa=>o9 c λe=>M9 j eZ (e ▸ aa)
     ·rw [rE hk] at hi ah;by_cases h1:k<=i/\i<k+cs'.length <;> by_cases af:k<=j/\j<k+cs'.length <;> simp only [h1,af,if_false] at aa fl
      ·have:=hH.eI (i - k) (j - k) c (by omega) (by omega) (by simpa using aa) (by simpa using fl);omega
      ·exact absurd (fV j c ah fl) (hH.off (i - k) _ c (by omega) (by simpa using aa))
      ·exact absurd (fV i c hi aa) (hH.off (j - k) _ c (by omega) (by simpa using fl))
      ·exact aS i j c hi ah aa fl
     ·rw [rE hk] at ah;by_cases h1:k<=j/\j<k+cs'.length
      ·rw [if_pos h1] at aa;simp only [Value.ownBlock,Option.some.injEq] at vx;subst vx;exact hH.off (j - k) p.root eD (by omega) aa (dw eD my)
      ·rw [if_neg h1] at aa; exact iO j c ah aa vx
     ·rcases aa with aa | ⟨j,ah,aa⟩
      ·exact .inl ((aN c).2 (.inl aa))
      ·rw [rE hk] at ah;by_cases h1:k<=j/\j<k+cs'.length
       ·rw [if_pos h1] at aa; exact .inr ⟨j - k,by omega,aa⟩
       ·rw [if_neg h1] at aa; exact .inl ((aN c).2 (.inr ⟨j,ah,aa⟩))
     ·obtain ⟨c,oR,aa⟩:=ab.u5 ax;simp only [ab.kids] at oR;have eZ:j<cs.length:=(List.getElem?_eq_some_iff.1 oR).1;have hu:us[j]?=some us[j]:=List.getElem?_eq_getElem (by omega);have n9:child w (.slice (some ⟨eD,0,none⟩) n cap) j=some us[j]:=by
       refine pS (e:=e) (z:=z) (n:=n) (us:=us) ⟨l8,.inr ⟨eD,cap,arr,rfl,wa,kc,As,yd,Dg,Dh⟩⟩ hu
      have BH:child w' (.slice (some ⟨eD,0,none⟩) n cap) j=some us[j]:=by
       refine pS nK ?_;rw [te (by omega),if_neg (by omega)]; exact hu
      have:=R.pZ (w':=w') dm (aq j c _ oR hu) aa λc aa=>o9 c λe=>M9 j eZ (e ▸ aa);simp [walk,n9,BH,this]
  ·cases dH with
   | ref J=>simp [ab.isRef] at J
   | @obj _ eD cj jr bM _ a1 ak h1 aq aS iO aN =>
    simp only [addrOf,Option.some.injEq,Addr.mk.injEq,and_true] at av;subst av;rw [kc] at a1;cases a1;have sL:cs.length=arr.toList.length:=by simp [ak]
    have fV:∀ j c,j<cs.length->bM j c->Fs p.root c:=λj c ah aa=>dw c ((aN c).2 (.inr ⟨j,ah,aa⟩));refine ⟨⟨_,.obj (Fs:=λj=>if k<=j/\j<k+cs'.length then dC (j - k) else bM j) Dw (by rw [rE hk,List.size_toArray,rE (by omega),sL]) (λj u hu=>?_) (λj x u J hu=>?_) (λi j c hi ah aa fl=>?_) (λj ah aa=>?_) (λc=>Iff.rfl),λc aa=>?_⟩,λj dm y ah ax=>?_⟩
    ·rw [List.getElem?_toArray,te (by omega)] at hu
     split at hu
     ·exact ht _ u hu
     ·exact h1 j u (by simpa using hu)
    ·rw [te hk] at J;rw [List.getElem?_toArray,te (by omega),<- hlen] at hu;by_cases gX:k<=j/\j<k+cs'.length
     ·rw [if_pos gX] at J hu;simpa [gX] using new (j - k) x u J hu
     ·rw [if_neg gX] at J hu;have eZ:j<cs.length:=(List.getElem?_eq_some_iff.1 J).1;rw [if_neg gX];exact (aq j x u J (by simpa using hu)).frame ve (λ_ h=>h) lP λc aa=>o9 c λe=>iO j eZ (e ▸ aa)
    ·rw [rE hk] at hi ah;by_cases h1:k<=i/\i<k+cs'.length <;> by_cases af:k<=j/\j<k+cs'.length <;> simp only [h1,af,if_false] at aa fl
     ·have:=hH.eI (i - k) (j - k) c (by omega) (by omega) (by simpa using aa) (by simpa using fl);omega
     ·exact absurd (fV j c ah fl) (hH.off (i - k) _ c (by omega) (by simpa using aa))
     ·exact absurd (fV i c hi aa) (hH.off (j - k) _ c (by omega) (by simpa using fl))
     ·exact aS i j c hi ah aa fl
    ·rw [rE hk] at ah;by_cases h1:k<=j/\j<k+cs'.length
     ·rw [if_pos h1] at aa;exact hH.off (j - k) p.root eD (by omega) aa (dw eD my)
     ·rw [if_neg h1] at aa; exact iO j ah aa
    ·rcases aa with aa | ⟨j,ah,aa⟩
     ·exact .inl ((aN c).2 (.inl aa))
     ·rw [rE hk] at ah;by_cases h1:k<=j/\j<k+cs'.length
      ·rw [if_pos h1] at aa; exact .inr ⟨j - k,by omega,aa⟩
      ·rw [if_neg h1] at aa; exact .inl ((aN c).2 (.inr ⟨j,ah,aa⟩))
    ·obtain ⟨c,oR,aa⟩:=ab.u5 ax;simp only [ab.kids] at oR;have eZ:j<cs.length:=(List.getElem?_eq_some_iff.1 oR).1;have hu:arr[j]?=some arr[j]:=Array.getElem?_eq_getElem (by omega);have n9:child w (.pointer (some ⟨eD,0,none⟩)) j=some arr[j]:=by simp [child,World.cell?,kc,hu]
     have BH:child w' (.pointer (some ⟨eD,0,none⟩)) j=some arr[j]:=by
      have aI:(e5 arr.toList k iV)[j]?=some arr[j]:=by
       rw [te (by omega),if_neg (by omega)]; simp
      simp [child,World.cell?,Dw,aI]
     have:=R.pZ (w':=w') dm (aq j c _ oR hu) aa λc aa=>o9 c λe=>iO j eZ (e ▸ aa);simp [walk,n9,BH,this]
 have val:∀ q y,bB g q=some y->(q.root=p.root->∀ j dm,q.path=p.path++j::dm->j<k\/k+cs'.length<=j)->dW w' T q=dW w T q:=by
  intro q y bg hf;by_cases aq:q.root=p.root
  ·have gp:eC.at q.path=some y:=by simpa [bB,aq,iH] using bg
   rcases ZA q.path y gp with ⟨dm,ec⟩ | h
   ·have vz:walk w' v0 q.path=walk w v0 q.path:=by
     rw [ec,Dx,Dx,Zz,hw];simp only [Option.bind_some];cases dm with
     | nil=>rfl
     | cons j dm =>
      rw [ec,ab.GY,py] at gp;exact (OM (λ_ _=>True) (λ_ _ _=>trivial)).2 j dm y (hf aq j dm ec) gp
    simp [dW,aq,iQ,vz]
   ·simp [dW,aq,iQ,h]
  ·unfold bB at bg;cases J:g q.root with
   | none=>rw [J] at bg; cases bg
   | some x =>
    rw [J] at bg;obtain ⟨u,hu,aY⟩:=bj.rel _ _ J;cases aY with
    | tree aY =>
     have:=R.pZ (w':=w') q.path aY bg λc aa=>o9 c λe=>EK _ aq (e ▸ aa);simp [dW,hu,this]
    | bL aY=>simp [dW,hu,(ab.sC bg).1,walk]
 have slot:∀ {q:Place}{x:ab},q.path=[]->g q.root=some x->dW w' T q=dW w T q:=by
  intro q x bg J;obtain ⟨u,hu,_⟩:=bj.rel _ _ J;simp [dW,bg,walk]
 have refs:∀ r u,La r u->dT w' T g2 r u:=by
  rintro r u ⟨h1,af,aI,bF⟩;refine ⟨?_,bF⟩;cases r <;> simp only [fz,gC] at h1 af ⊢
  case ptr q j=>obtain ⟨y,ax,_⟩:=af; rw [val q y ax (aI q rfl)]; exact h1
  case a6 bC q cG =>
   rcases af with ⟨_,_,af,_⟩ | ⟨aQ,_,_,_,_,af,_⟩
   ·rw [val q _ af (aI q rfl)]; exact h1
   ·rw [slot aQ af]; exact h1
  case sub bC q lo cG=>obtain ⟨_,_,af,_⟩:=af; rw [val q _ af (aI q rfl)]; exact h1
  case gx q=>obtain ⟨_,af⟩:=af; rw [val q _ af (aI q rfl)]; exact h1
  case bL bC q cG m' c3 =>
   rcases af with ⟨_,af⟩ | ⟨aQ,_,_,_,_,_,af,_⟩
   ·rw [val q _ af (aI q rfl)]; exact h1
   ·rw [slot aQ af]; exact h1
 obtain ⟨⟨Fn,UA,M_⟩,_⟩:=OM (dT w' T g2) refs;obtain ⟨c8,Ew,pr⟩:=kh w' I (dT w' T g2) _ Fn ⟨ve,λc aa aF=>o9 c λe=>aF (e ▸ my),λ_ h=>h,refs⟩ UA λc aa fl=>by
  rcases M_ c aa with h | ⟨j,ah,h⟩
  ·exact h
  ·exact absurd fl (hH.off j _ c ah h)
 have Et:∀ c,c8 c->Fs p.root c\/∃ j,j<cs'.length/\dC j c:=by
  intro c aa;rcases (pr c).1 aa with h | h
  ·exact .inl h.1
  ·rcases M_ c h with h | h
   ·exact .inl (dw c h)
   ·exact .inr h
 let b7:Nat->bb:=λt c=>if t=p.root then c8 c else g2 t≠none/\Fs t c
 have pt:∀ t c,b7 t c->Fs t c\/∃ j,j<cs'.length/\dC j c:=by
  intro t c aa;by_cases aw:t=p.root
  ·simp only [b7,if_pos aw] at aa; rw [aw]; exact Et c aa
  ·simp only [b7,if_neg aw] at aa; exact .inl aa.2
 refine ⟨b7,⟨λt x J=>?_,λt aw c aa=>?_,λt t' c aa fl=>?_,λt c aa hi=>?_,λc aa=>by have:=bj.lt c aa; omega,λt t' z q n m new bC cG m' c3 h1=>absurd h1 (lj _ _ _ _ _ _)⟩,pt⟩
 ·have gg:=zr t x J;by_cases aw:t=p.root
  ·subst aw;have EU:eC.setAt p.path (nd.e5 k cs')=x:=by simpa [cu,iH] using gg
   refine ⟨v0,iQ,.tree ?_⟩;have Bs:b7 p.root=c8:=by funext c; simp [b7]
   rw [<- EU,Bs]; exact Ew
  ·rw [uK aw] at gg;obtain ⟨u,hu,aY⟩:=bj.rel t x gg;replace aY:=aY.gG (by rintro z q n m new rfl; exact lj _ _ _ _ _ _ J);have Bs:b7 t=Fs t:=by
    funext c;exact propext ⟨λh=>by simp only [b7,if_neg aw] at h; exact h.2,λh=>by simp only [b7,if_neg aw]; exact ⟨by rw [J]; simp,h⟩⟩
   refine ⟨u,hu,.tree ?_⟩;rw [Bs];exact (aY.yh (r_ t x J x gg)).frame ve (λ_ h=>h) refs λc aa=>o9 c λe=>EK t aw (e ▸ aa)
 ·by_cases iG:t=p.root
  ·exact kf (iG ▸ aw)
  ·simp only [b7,if_neg iG] at aa; exact aa.1 aw
 ·by_cases h1:t=p.root <;> by_cases af:t'=p.root
  ·rw [h1,af]
  ·simp only [b7,if_pos h1] at aa; simp only [b7,if_neg af] at fl;rcases Et c aa with h | ⟨j,ah,h⟩
   ·exact absurd (bj.eI _ _ _ h fl.2) (Ne.symm af)
   ·exact absurd fl.2 (hH.off j _ c ah h)
  ·simp only [b7,if_neg h1] at aa; simp only [b7,if_pos af] at fl;rcases Et c fl with h | ⟨j,ah,h⟩
   ·exact absurd (bj.eI _ _ _ aa.2 h) h1
   ·exact absurd aa.2 (hH.off j _ c ah h)
  ·simp only [b7,if_neg h1] at aa; simp only [b7,if_neg af] at fl;exact bj.eI _ _ _ aa.2 fl.2
 ·rcases pt t c aa with h | ⟨j,ah,h⟩
  ·exact bj.bk _ c h hi
  ·exact hH.bk j c ah h hi
end
end Go.Own
namespace Go.Own
open Go
section
variable {P:Program}{w:World}{I:bb}{T:Array Value}{g:aK}{Fs:Nat->bb}
theorem View.Qi (h:jE w I T g Fs) {x x':ab}(hv:View g x x'):∀ {v:Value}{F:bb},R w I (fz w T) x v F->(∀ c,F c->∃ t,Fs t c)->∀ ρ',R w (λc=>I c\/∃ t,Fs t c) ρ' x' v cx:=by
 induction hv with
 | qB =>
  intro v F aY aN ρ';have:=aY.sh;subst this;exact .hM λ_ h=>h
 | mp =>
  intro v F aY aN ρ';cases aY with
  | ref J=>simp [ab.isRef] at J
  | mp a1 au av=>exact .imp (λ_ h=>h) (.inr (aN _ ((av _).2 rfl))) a1 au
 | gx au =>
  intro v F aY aN ρ';cases aY with
  | ref _ aq _ =>
   obtain ⟨b,av,rfl⟩:=aq;obtain ⟨gv,cy,iu,dH,dw,_⟩:=h.part au (by simp);rw [av] at iu;cases iu;cases dH with
   | ref J=>simp [ab.isRef] at J
   | mp a1 au av=>exact .imp (λ_ h=>h) (.inr ⟨_,dw _ ((av _).2 rfl)⟩) a1 au
 | self aF h1 af aI bF cF =>
  intro v F aY aN ρ';refine ((aY.bl aF).om λc aa=>.inl aa).empty ?_;cases aY with
  | mp=>exact absurd rfl (cF _)
  | lit _ aN | aL aN | dead aN | ref _ _ aN | hM aN | bk aN | cI aN | cX aN | imp aN=>exact aN
  | own=>exact absurd rfl (h1 _ _ _)
  | obj=>exact absurd rfl (af _)
  | agg=>exact absurd rfl (aI _)
  | bW=>exact absurd rfl (bF _)
 | @agg cs cs' ak _ aU =>
  intro v F aY aN ρ';cases aY with
  | ref J=>simp [ab.isRef] at J
  | @agg _ vs bM _ h0 h1 aq aS mu =>
   refine .agg (Fs:=λ_=>cx) (by rw [ak,h0]) h1 (λk y u ax hu=>?_) (λ_ _ _ _ _ h=>h.elim) (λc=>⟨λh=>h.elim,λ⟨_,_,h⟩=>h⟩);have hk:k<cs.length:=by rw [<- ak]; exact (List.getElem?_eq_some_iff.1 ax).1
   have J:=List.getElem?_eq_getElem hk;exact aU k _ y J ax (aq k _ u J hu) (λc aa=>aN c ((mu c).2 ⟨k,hk,aa⟩)) ρ'
 | @cX fn cs cs' ak _ aU =>
  intro v F aY aN ρ';cases aY with
  | ref J=>simp [ab.isRef] at J
  | @cX _ _ _ v1 v2 _ mr h1 af ky iP =>
   refine .cX (λ_ h=>h) h1 (by rw [ak,af]) (λk x u J=>by simp at J) (λk y u ax hu=>?_);have hk:k<cs.length:=by rw [<- ak]; exact (List.getElem?_eq_some_iff.1 ax).1
   have J:=List.getElem?_eq_getElem hk;exact aU k _ y J ax (iP k _ u J hu) (λc aa=>aa.elim) ρ'
 | @own z n cs cs' ak _ aU =>
  intro v F aY aN ρ';obtain ⟨a,cap,us,bM,rfl,aF,hlen,aP,aa⟩:=aY.zX;cases a with
  | none =>
   have hL:cs=[]:=by
    cases cs with
    | nil=>rfl
    | cons c cs=>obtain ⟨b,av,_⟩:=aa 0 c rfl; cases av
   subst hL;have lL:cs'=[]:=List.eq_nil_of_length_eq_zero (by simpa using ak);subst lL;have kv:n=0:=by
    cases aY with
    | ref J=>simp [ab.isRef] at J
    | own a1 =>
     obtain ⟨_,bY⟩:=a1;rcases bY with ⟨bY,aQ⟩ | ⟨b,c2,cur,bY,_⟩
     ·exact aQ
     ·cases bY
   subst kv;exact .hM λ_ h=>h
  | some ad =>
   obtain ⟨b,rfl,r0⟩:=aP ad rfl;refine .bk (us:=us) (λ_ h=>h) aF (.inr (aN b r0)) rfl (by rw [ak,hlen]) (λk y ax=>?_) (λk y ax=>?_) λk y ax=>?_
   all_goals
    have hk:k<cs.length:=by rw [<- ak]; exact (List.getElem?_eq_some_iff.1 ax).1
    have J:=List.getElem?_eq_getElem hk;obtain ⟨eD,l2,h1,af,aI,bF⟩:=aa k _ J;cases l2
   ·exact af
   ·simpa using h1
   ·exact aU k _ y J ax aI (λc aa=>aN c (bF c aa)) ρ'
 | @obj cs cs' ak _ aU =>
  intro v F aY aN ρ';cases aY with
  | ref J=>simp [ab.isRef] at J
  | @obj _ b e arr bM _ a1 h0 h1 aq aS av mu =>
   refine .cI (us:=λk=>arr.getD k undef) (λ_ h=>h) (.inr (aN b ((mu b).2 (.inl rfl)))) rfl (λk y ax=>?_) (λk y ax=>?_) λk y ax=>?_
   all_goals
    have hk:k<cs.length:=by rw [<- ak]; exact (List.getElem?_eq_some_iff.1 ax).1
    have J:=List.getElem?_eq_getElem hk;have hu:arr[k]?=some arr[k]:=Array.getElem?_eq_getElem (h0 ▸ hk)
   ·simpa [hu] using h1 k _ hu
   ·simp [World.cell?,a1,hu]
   ·simpa [hu] using aU k _ y J ax (aq k _ _ J hu) (λc aa=>aN c ((mu c).2 (.inr ⟨k,hk,aa⟩))) ρ'
 | @a6 z n N p cs cs' au aF ak _ aU =>
  intro v F aY aN ρ';obtain ⟨a,i',cap,h1,rfl,aI⟩:=aY.nh;obtain ⟨qL,qQ,gY,hK,nC,_⟩:=h.part au (by simp);rw [h1] at gY;cases gY;obtain ⟨a2,rP,us,bM,je,lg,hlen,aP,aa⟩:=hK.zX;cases je;have hle:n * z<=N * z:=Nat.mul_le_mul_right _ aF;have cell:∀ k,k<cs'.length->∃ x b,(cs.take (n * z))[k]?=some x/\a=some ⟨b,0,none⟩/\w.cell? ⟨b,k,none⟩=some (us k)/\(us k).oneCell'=true/\R w I (fz w T) x (us k) (bM k)/\∀ c,bM k c->qQ c:=by
   intro k hk;rw [ak,List.length_take] at hk;have J:cs[k]?=some cs[k]:=List.getElem?_eq_getElem (by omega);obtain ⟨b,r⟩:=aa k _ J;exact ⟨_,b,by rw [List.getElem?_take,if_pos (by omega)]; exact J,r⟩
  cases a with
  | none =>
   have lL:cs'=[]:=by
    cases cs' with
    | nil=>rfl
    | cons c l=>obtain ⟨_,b,_,av,_⟩:=cell 0 (by simp); cases av
   subst lL;obtain ⟨_,_,je,_,_,_,re⟩:=hK.np;cases je;have kv:n=0:=by
    rcases Nat.eq_zero_or_pos n with aQ | aQ
    ·exact aQ
    ·have:=re (by omega); simp at this
   subst kv;exact .hM λ_ h=>h
  | some ad =>
   obtain ⟨b,rfl,r0⟩:=aP ad rfl;refine .bk (us:=us) (λ_ h=>h) (by omega) (.inr ⟨_,nC b r0⟩) rfl (by rw [ak,List.length_take,hlen]; omega) (λk y ax=>?_) (λk y ax=>?_) λk y ax=>?_
   all_goals
    obtain ⟨x,eD,J,l2,bF,cF,ej,mW⟩:=cell k (List.getElem?_eq_some_iff.1 ax).1;cases l2
   ·exact cF
   ·simpa using bF
   ·exact aU k x y J ax ej (λc aa=>⟨_,nC c (mW c aa)⟩) ρ'
 | @sub z lo n N p cs cs' au aF ak _ aU =>
  intro v F aY aN ρ';obtain ⟨a,i',cap,ca,mT,h1,rfl,IQ,aI,cF⟩:=aY.xA;obtain ⟨qL,qQ,gY,hK,nC,_⟩:=h.part au (by simp);rw [h1] at gY;cases gY;obtain ⟨a2,rP,us,bM,je,lg,hlen,aP,aa⟩:=hK.zX;cases je;have hle:lo * z+n * z<=N * z:=by rw [<- Nat.add_mul]; exact Nat.mul_le_mul_right _ aF
  have h0:cs'.length=n * z:=by rw [ak,List.length_take,List.length_drop,hlen]; omega
  have cell:∀ k,k<cs'.length->∃ x b,((cs.drop (lo * z)).take (n * z))[k]?=some x/\a=some ⟨b,0,none⟩/\w.cell? ⟨b,lo * z+k,none⟩=some (us (lo * z+k))/\(us (lo * z+k)).oneCell'=true/\R w I (fz w T) x (us (lo * z+k)) (bM (lo * z+k))/\∀ c,bM (lo * z+k) c->qQ c:=by
   intro k hk;have J:cs[lo * z+k]?=some cs[lo * z+k]:=List.getElem?_eq_getElem (by omega);obtain ⟨b,r⟩:=aa _ _ J;exact ⟨_,b,by rw [List.getElem?_take,if_pos (by omega),List.getElem?_drop]; exact J,r⟩
  by_cases kv:n=0
  ·subst kv;have lL:cs'=[]:=List.eq_nil_of_length_eq_zero (by simpa using h0);subst lL;exact .hM λ_ h=>h
  ·obtain ⟨ad,rfl,rfl⟩:=cF (by omega);obtain ⟨b,rfl,r0⟩:=aP ad rfl;refine .bk (us:=λk=>us (lo * z+k)) (λ_ h=>h) IQ (.inr ⟨_,nC b r0⟩) rfl h0 (λk y ax=>?_) (λk y ax=>?_) λk y ax=>?_
   all_goals
    obtain ⟨x,eD,J,l2,bF,TY,ej,mW⟩:=cell k (List.getElem?_eq_some_iff.1 ax).1;cases l2
   ·exact TY
   ·simpa using bF
   ·exact aU k x y J ax ej (λc aa=>⟨_,nC c (mW c aa)⟩) ρ'
 | @rows z n p cs cs' au ak _ aU =>
  intro v F aY aN ρ';obtain ⟨a,i',cap,h1,rfl,aI⟩:=aY.nh;obtain ⟨v0,e,us,iQ,a1,hlen,qh,av,aq⟩:=Rows.sound (w:=w) (I:=I) (T:=T) (Fs:=Fs) (λt z q n m new aw=>h.rel t _ aw) (λp z n cs au=>by obtain ⟨v,cy,h1,af,aI,_⟩:=h.part au (by simp); exact ⟨v,cy,h1,af,aI⟩) (λz p n v hv=>by obtain ⟨a,cap,h1,rfl⟩:=hv; exact h1) au;rw [h1] at iQ;cases iQ;refine PI a1 hlen qh av ak λk x y u J ax hu=>?_;obtain ⟨bM,kR,fV⟩:=aq k x u J hu;exact aU k x y J ax kR fV ρ'
 | @ptr p k z n y cs cs' au ax hk ak _ aU =>
  intro v F aY aN ρ';obtain ⟨u,ad,h1,af,rfl⟩:=aY.nR;obtain ⟨qL,qQ,gY,hK,nC,_⟩:=h.part au (by rcases ax with rfl | rfl <;> simp);rw [h1] at gY;cases gY;have cell:∀ j,j<cs'.length->∃ ha lV yM,w.cell? ⟨ad.block,k+j,none⟩=some ha/\ha.oneCell'=true/\(cs.drop k)[j]?=some lV/\R w I (fz w T) lV ha yM/\(∀ c,yM c->∃ t,Fs t c):=by
   intro j ah;rw [ak,List.length_drop] at ah;have gg:cs[k+j]?=some cs[k+j]:=List.getElem?_eq_getElem (by omega);obtain ⟨b,ha,fP,l4,n9,ht,_⟩:=hK.node ax gg;rw [af] at fP;cases fP;have gp:bB g (p.push (k+j))=some cs[k+j]:=by rw [tC,au]; rcases ax with rfl | rfl <;> simp [ab.kids]
   by_cases gR:∃ bC fQ cG m' c3,cs[k+j]=.bL bC fQ cG m' c3
   ·obtain ⟨bC,fQ,cG,m',c3,gR⟩:=gR;obtain ⟨b,Zt,_,_,BH,_,bM,kR⟩:=hK.node ax gg;rw [gR] at kR;exact kR.lp.elim
   ·obtain ⟨o8,Lf,xo,Nj,mu,_⟩:=h.part gp (λbC fQ cG m' c3 e=>gR ⟨_,_,_,_,_,e⟩);rw [yu,h1] at xo;simp only [Option.bind_some] at xo;rw [n9] at xo;cases xo;exact ⟨ha,_,Lf,l4,ht,by rw [List.getElem?_drop]; exact gg,Nj,λc aa=>⟨_,mu c aa⟩⟩
  obtain ⟨b,ha,fP,_⟩:=hK.node ax (List.getElem?_eq_getElem hk);rw [af] at fP;cases fP;have hblk:∃ t,Fs t b:=⟨_,nC b (hK.Fo ax af)⟩;refine .cI (us:=λj=>(w.cell? ⟨b,k+j,none⟩).getD undef) (λ_ h=>h) (.inr hblk) rfl (λj jl vC=>?_) (λj jl vC=>?_) λj jl vC=>?_
  all_goals
   obtain ⟨ha,lV,yM,c1,c2,jS,c4,kM⟩:=cell j (List.getElem?_eq_some_iff.1 vC).1
  ·simpa [c1] using c2
  ·simp [c1]
  ·simpa [c1] using aU j lV jl jS vC c4 kM ρ'
end
end Go.Own
namespace Go.Own
open Go
def qE (g:aK):List (Place × ab)->aK
 | []=>g
 | (p,x)::l=>qE (cu g p x) l
structure Q' (g g2:aK) (all:List ab) (outs:List (Option ab)) (k:Nat) (p:Place) (x:ab):Prop where
 out:outs[k]?=some (some x)
 LV:bB g2 p=some .dead
 arg:(∃ z n cs,all[k]?=some (.a6 z p n)/\bB g p=some (.own z n cs))\/(∃ cs,all[k]?=some (.ptr p 0)/\bB g p=some (.obj cs))
section
variable {P:Program}{w:World}{I:bb}{T:Array Value}{g:aK}{Fs:Nat->bb}
theorem RG (h:cH w I T g Fs) {z n:Nat}{p:Place}{cs:List ab}{v:Value}{F:bb}(aY:R w I (dT w T g) (.a6 z p n) v F) (au:bB g p=some (.own z n cs)):dW w T p=some v:=by
 obtain ⟨⟨a,i',cap,h1,rfl,aI⟩,_⟩:=aY.nh;obtain ⟨qL,qQ,gY,hK,nC⟩:=h.part au (by simp);rw [h1] at gY;cases gY;obtain ⟨a2,rP,je,_⟩:=hK.np;cases je;exact h1
theorem RF (h:cH w I T g Fs) {p:Place}{cs:List ab}{v:Value}{F:bb}(aY:R w I (dT w T g) (.ptr p 0) v F) (au:bB g p=some (.obj cs)):dW w T p=some v:=by
 obtain ⟨⟨u,ad,h1,af,rfl⟩,_⟩:=aY.nR;obtain ⟨qL,qQ,gY,hK,nC⟩:=h.part au (by simp);rw [h1] at gY;cases gY;cases hK with
 | ref J=>simp [ab.isRef] at J
 | obj=>simp only [addrOf,Option.some.injEq] at af; subst af; exact h1
theorem YE {g:aK}{p q:Place}{y:ab}(bg:bB g q=some .dead) (au:bB g p=some .dead) (dq:p≠q):bB (cu g p y) q=some .dead:=by
 by_cases aq:q.root=p.root
 ·obtain ⟨r,pp⟩:=p;obtain ⟨dm,tc⟩:=q;simp only at aq;subst aq;have EL:pp≠tc:=λe=>dq (by rw [e]);simp only [bB,cu,if_true] at *;cases J:g dm with
  | none=>rw [J] at au; cases au
  | some x =>
   rw [J] at au bg;simp only [Option.map_some];have:∀ (pp tc:List Nat) (x:ab),pp≠tc->x.at pp=some .dead->x.at tc=some .dead->(x.setAt pp y).at tc=some .dead:=by
    intro pp
    induction pp with
    | nil =>
     intro tc x dq h1 af;simp only [ab.at,Option.some.injEq] at h1;subst h1;cases tc with
     | nil=>exact absurd rfl dq
     | cons k q=>simp [ab.at,ab.kids] at af
    | cons k pp aU =>
     intro tc x dq h1 af;cases tc with
     | nil =>
      simp only [ab.at,Option.some.injEq] at af;subst af;simp [ab.at,ab.kids] at h1
     | cons j q =>
      simp only [ab.at] at h1 af;cases hk:x.kids[k]? with
      | none=>rw [hk] at h1; cases h1
      | some c =>
       rw [hk] at h1;simp only at h1;have zB:x.setAt (k::pp) y=x.wi k (c.setAt pp y):=by simp only [ab.setAt,hk]
       rw [zB];have fu:k<x.kids.length:=(List.getElem?_eq_some_iff.1 hk).1;have IF:(x.wi k (c.setAt pp y)).kids=x.kids.set k (c.setAt pp y):=by
        cases x <;> simp [ab.wi,ab.kids] at fu ⊢
       simp only [ab.at,IF];by_cases gX:j=k
       ·subst gX;rw [List.getElem?_set_self fu];rw [hk] at af;exact aU q c (λe=>dq (by rw [e])) h1 af
       ·rw [List.getElem?_set_ne (Ne.symm gX)];exact af
   exact this pp tc x EL au bg
 ·rw [FZ aq]; exact bg
theorem jE.qE:∀ (l:List (Place × ab)) (dC:Nat->bb) (vs:Nat->Value) {g:aK}{Fs:Nat->bb},jE w I T g Fs->(l.map (·.1)).Nodup->(∀ (j:Nat) (p:Place) (x:ab),l[j]?=some (p,x)->bB g p=some .dead/\dW w T p=some (vs j)/\R w I (fz w T) x (vs j) (dC j)) ->
  (∀ (j t c:Nat),j<l.length->dC j c->¬ Fs t c)->(∀ (j c:Nat),j<l.length->dC j c->¬ I c)->(∀ (i j c:Nat),i<l.length->j<l.length->dC i c->dC j c->i=j) ->
  ∃ b7,jE w I T (qE g l) b7/\∀ t c,b7 t c->Fs t c\/∃ j,j<l.length/\dC j c
 | [],_,_,g,Fs,bj,_,_,_,_,_=>⟨Fs,bj,λ_ _ h=>.inl h⟩
 | (p,x)::l,dC,vs,g,Fs,bj,fm,ak,rb,NP,mZ=>by
  obtain ⟨h1,af,aI⟩:=ak 0 p x rfl;obtain ⟨v,cy,hv,dH,dw,put⟩:=bj.part h1 (by simp);rw [af] at hv;cases hv;obtain ⟨fZ,jd,zj,Br⟩:=put x (dC 0) aI (λc aa aW=>absurd aW (rb 0 _ c (by simp) aa)) (λc aa=>NP 0 c (by simp) aa) (λt c _ aa=>rb 0 t c (by simp) aa);have gF:∀ t c,fZ t c->Fs t c\/dC 0 c:=by
   intro t c aa;by_cases aw:t=p.root
   ·subst aw;rcases (zj c).1 aa with ⟨h,_⟩ | h
    ·exact .inl h
    ·exact .inr h
   ·rw [Br t aw] at aa; exact .inl aa
  simp only [List.map_cons,List.nodup_cons] at fm;obtain ⟨i_,h',Eu⟩:=jE.qE l (λj=>dC (j+1)) (λj=>vs (j+1)) jd fm.2 (λj q y ah=>by
    obtain ⟨aD,a2,a3⟩:=ak (j+1) q y (by simpa using ah);refine ⟨YE aD h1 ?_,a2,a3⟩;rintro rfl;exact fm.1 (List.mem_map.2 ⟨(p,y),List.mem_of_getElem? ah,rfl⟩))
   (λj t c ah aa aW=>by
    rcases gF t c aW with h | h
    ·exact rb (j+1) t c (by simpa using ah) aa h
    ·have:=mZ (j+1) 0 c (by simpa using ah) (by simp) aa h; omega)
   (λj c ah aa=>NP (j+1) c (by simpa using ah) aa)
   (λi j c hi ah h1 af=>by have:=mZ (i+1) (j+1) c (by simpa using hi) (by simpa using ah) h1 af; omega)
  refine ⟨i_,h',λt c aa=>?_⟩;rcases Eu t c aa with h | ⟨j,ah,h⟩
  ·rcases gF t c h with h | h
   ·exact .inl h
   ·exact .inr ⟨0,by simp,h⟩
  ·exact .inr ⟨j+1,by simpa using ah,h⟩
end
end Go.Own
namespace Go.Own
open Go
inductive h7:ab->ab->Prop
 | refl {x:ab}:h7 x x
 | Cz {z:Nat}:h7 .aL (.own z 0 [])
 | pL {x y:ab}(aF:cU x) (h:View (λ_=>none) x y):h7 x y
 | own {z n:Nat}{cs cs':List ab}(ak:cs'.length=cs.length) (h:∀ (k:Nat) (x y:ab),cs[k]?=some x->cs'[k]?=some y->h7 x y):h7 (.own z n cs) (.own z n cs')
 | obj {cs cs':List ab}(ak:cs'.length=cs.length) (h:∀ (k:Nat) (x y:ab),cs[k]?=some x->cs'[k]?=some y->h7 x y):h7 (.obj cs) (.obj cs')
 | agg {cs cs':List ab}(ak:cs'.length=cs.length) (h:∀ (k:Nat) (x y:ab),cs[k]?=some x->cs'[k]?=some y->h7 x y):h7 (.agg cs) (.agg cs')
theorem View.up {g g':aK}(h:∀ t x,g t=some x->g' t=some x) {x y:ab}(hv:View g x y):View g' x y:=by
 induction hv with
 | qB=>exact .qB
 | self h1 af aI bF cF ej=>exact .self h1 af aI bF cF ej
 | mp=>exact .mp
 | gx au=>exact .gx (kL h au)
 | agg ak _ aU=>exact .agg ak aU
 | own ak _ aU=>exact .own ak aU
 | obj ak _ aU=>exact .obj ak aU
 | cX ak _ aU=>exact .cX ak aU
 | a6 au aF ak _ aU=>exact .a6 (kL h au) aF ak aU
 | sub au aF ak _ aU=>exact .sub (kL h au) aF ak aU
 | ptr au ax hk ak _ aU=>exact .ptr (kL h au) ax hk ak aU
 | rows au ak _ aU=>exact .rows (au.mono (λau=>kL h au) h) ak aU
theorem xR {cs cs':List ab}(ak:cs'.length=cs.length) (aF:∀ x∈cs,cU x) (aU:∀ (k:Nat) (x y:ab),cs[k]?=some x->cs'[k]?=some y->cU x->cU y):∀ y∈cs',cU y:=by
 intro y ax;obtain ⟨k,hk⟩:=List.getElem?_of_mem ax;have fu:=(List.getElem?_eq_some_iff.1 hk).1;have J:=List.getElem?_eq_getElem (ak ▸ fu:k<cs.length)
 grind
section
variable {w:World}{I:bb}
theorem R.pL {ρ:ab->Value->Prop}{x y:ab}{v:Value}{F:bb}(aY:R w I ρ x v F) (aF:cU x) (h:View (λ_=>none) x y) (bc:∀ c,F c->¬ I c) (aT:∀ c,I c->c<w.heap.size):R w (λc=>I c\/F c) ρ y v cx:=by
 have bj:jE w I #[v] (λt=>if t=0 then some x else none) (λt c=>t=0/\F c):=by
  refine ⟨λt z aX=>?_,λt aw c aa=>?_,λt t' c aa fl=>aa.1.trans fl.1.symm,λt c aa=>bc c aa.2,aT⟩
  ·by_cases aQ:t=0
   ·subst aQ;rw [if_pos rfl] at aX;cases aX;exact ⟨v,rfl,.tree ((aY.bl aF).zc λc=>⟨λh=>⟨rfl,h⟩,λh=>h.2⟩)⟩
   grind
  grind
 have:=View.Qi bj (h.up λ_ _ h=>by cases h) (aY.bl aF) (λc aa=>⟨0,rfl,aa⟩) ρ
 grind
theorem h7.bl {x y:ab}(h:h7 x y):cU x->cU y:=by
 induction h with
 | refl=>exact id
 | Cz=>exact λ_=>.own (by simp)
 | pL aF h =>
  intro _;have key:∀ {x y:ab},View (λ_=>none) x y->cU x->cU y:=by
   intro x y h
   induction h with
   | qB=>exact λ_=>.bk (by simp)
   | self h=>exact λ_=>h
   | mp=>exact λ_=>.imp
   | gx au=>simp [bB] at au
   | agg ak _ aU=>intro aF; cases aF with | agg aF=>exact .agg (xR ak aF aU)
   | own ak _ aU=>intro aF; cases aF with | own aF=>exact .bk (xR ak aF aU)
   | obj ak _ aU=>intro aF; cases aF with | obj aF=>exact .cI (xR ak aF aU)
   | cX ak _ aU=>intro aF; cases aF with | cX h1 af=>exact .cX h1 (xR ak af aU)
   | a6 au=>simp [bB] at au
   | sub au=>simp [bB] at au
   | ptr au=>simp [bB] at au
   | rows au =>
    cases au with
    | own au=>simp [bB] at au
    | bL aw=>cases aw
  grind
 | own ak _ aU=>intro aF; cases aF with | own aF=>exact .own (xR ak aF aU)
 | obj ak _ aU=>intro aF; cases aF with | obj aF=>exact .obj (xR ak aF aU)
 | agg ak _ aU=>intro aF; cases aF with | agg aF=>exact .agg (xR ak aF aU)
theorem HG {ρ:ab->Value->Prop}{cs cs':List ab}{get:Nat->Option Value}{Fs:Nat->bb}{F B:bb}(ak:cs'.length=cs.length)
  (aO:∀ k,k<cs.length->∃ u,get k=some u)
  (aS:∀ (j k c:Nat),j<cs.length->k<cs.length->Fs j c->Fs k c->j=k) (av:∀ k c,k<cs.length->Fs k c->¬ B c) (aN:∀ c,F c↔B c\/∃ k,k<cs.length/\Fs k c)
  (aU:∀ (k:Nat) (x y:ab),cs[k]?=some x->cs'[k]?=some y->∀ u,get k=some u->∃ c8,(∀ c,c8 c->Fs k c)/\R w (λc=>I c\/(Fs k c/\¬ c8 c)) ρ y u c8) :
  ∃ qR:Nat->bb,(∀ k c,k<cs'.length->qR k c->Fs k c)/\(∀ (k:Nat) (y:ab) (u:Value),cs'[k]?=some y->get k=some u->R w (λc=>I c\/(F c/\¬ (B c\/∃ j,j<cs'.length/\qR j c))) ρ y u (qR k)):=by
 have:∀ k,∃ G:bb,k<cs.length->(∀ c,G c->Fs k c)/\∀ (y:ab) (u:Value),cs'[k]?=some y->get k=some u->R w (λc=>I c\/(Fs k c/\¬ G c)) ρ y u G:=by
  intro k;by_cases hk:k<cs.length
  ·have J:=List.getElem?_eq_getElem hk;have ax:=List.getElem?_eq_getElem (ak ▸ hk:k<cs'.length);obtain ⟨u,hu⟩:=aO k hk
   simp_all
  ·exact ⟨cx,λh=>absurd h hk⟩
 obtain ⟨qR,Na⟩:=Classical.axiomOfChoice this;refine ⟨qR,λk c hk=>(Na k (ak ▸ hk)).1 c,λk y u ax hu=>?_⟩;have hk:k<cs'.length:=(List.getElem?_eq_some_iff.1 ax).1;have ib:k<cs.length:=ak ▸ hk;refine ((Na k ib).2 y u ax hu).om λc aa=>?_
 grind
theorem R.dN {ρ:ab->Value->Prop}{x y:ab}(h:h7 x y):∀ {v:Value}{F:bb},R w I ρ x v F->cU x->(∀ c,F c->¬ I c)->(∀ c,I c->c<w.heap.size)->∃ c8,(∀ c,c8 c->F c)/\R w (λc=>I c\/(F c/\¬ c8 c)) ρ y v c8:=by
 induction h with
 | refl=>exact λaY _ _ _=>⟨_,λ_ h=>h,aY.om λ_ h=>.inl h⟩
 | Cz =>
  intro v F aY _ _ _;have:=aY.sh;subst this;refine ⟨cx,λ_ h=>h.elim,.own (e:=0) (us:=[]) (Fs:=λ_=>cx) ⟨by simp,.inl ⟨rfl,rfl⟩⟩ rfl (by simp) (by simp) (λ_ _ _ _ _ h=>h.elim) (λ_ _ _ h=>h.elim) λc=>⟨λh=>h.elim,λh=>?_⟩⟩;rcases h with h | ⟨_,_,h⟩
  ·cases h
  ·exact h
 | pL aF h=>exact λaY _ bc aT=>⟨cx,λ_ h=>h.elim,(aY.pL aF h bc aT).om λc aa=>aa.elim .inl λh=>.inr ⟨h,λh=>h⟩⟩
 | @own z n cs cs' ak _ aU =>
  intro v F aY aF bc aT;cases aY with
  | ref J=>simp [ab.isRef] at J
  | @own _ _ _ _ e us Fs _ a1 h0 h1 aq aS av aN =>
   cases aF with
   | own aF =>
    obtain ⟨qR,qi,Bu⟩:=HG (get:=λk=>us[k]?) (B:=λc=>v.ownBlock=some c) ak (λk hk=>⟨_,List.getElem?_eq_getElem (h0 ▸ hk)⟩) aS (λk c hk aa e=>av k c hk aa e) aN (λk x y J ax u hu=>aU k x y J ax (aq k x u J hu) (aF x (List.mem_of_getElem? J)) (λc aa=>bc c ((aN c).2 (.inr ⟨k,(List.getElem?_eq_some_iff.1 J).1,aa⟩))) aT);exact ⟨_,λc aa=>(aN c).2 (aa.imp id λ⟨k,hk,h⟩=>⟨k,ak ▸ hk,qi k c hk h⟩),
     .own a1 (by rw [ak,h0]) h1 (λk y u ax hu=>Bu k y u ax hu) (λj k c ah hk af aI=>aS j k c (ak ▸ ah) (ak ▸ hk) (qi j c ah af) (qi k c hk aI)) (λk c hk aa=>av k c (ak ▸ hk) (qi k c hk aa)) (λc=>Iff.rfl)⟩
 | @obj cs cs' ak _ aU =>
  intro v F aY aF bc aT;cases aY with
  | ref J=>simp [ab.isRef] at J
  | @obj _ b e arr Fs _ a1 h0 h1 aq aS av aN =>
   cases aF with
   | obj aF =>
    obtain ⟨qR,qi,Bu⟩:=HG (get:=λk=>arr[k]?) (B:=λc=>c=b) ak (λk hk=>⟨_,Array.getElem?_eq_getElem (h0 ▸ hk)⟩) aS (λk c hk aa e=>av k hk (e ▸ aa)) aN (λk x y J ax u hu=>aU k x y J ax (aq k x u J hu) (aF x (List.mem_of_getElem? J)) (λc aa=>bc c ((aN c).2 (.inr ⟨k,(List.getElem?_eq_some_iff.1 J).1,aa⟩))) aT);exact ⟨_,λc aa=>(aN c).2 (aa.imp id λ⟨k,hk,h⟩=>⟨k,ak ▸ hk,qi k c hk h⟩),
     .obj a1 (by rw [ak,h0]) h1 (λk y u ax hu=>Bu k y u ax hu) (λj k c ah hk af aI=>aS j k c (ak ▸ ah) (ak ▸ hk) (qi j c ah af) (qi k c hk aI)) (λk hk aa=>av k (ak ▸ hk) (qi k b hk aa)) (λc=>Iff.rfl)⟩
 | @agg cs cs' ak _ aU =>
  intro v F aY aF bc aT;cases aY with
  | ref J=>simp [ab.isRef] at J
  | @agg _ vs Fs _ h0 h1 aq aS aN =>
   cases aF with
   | agg aF =>
    obtain ⟨qR,qi,Bu⟩:=HG (get:=λk=>vs[k]?) (B:=λ_=>False) ak (λk hk=>⟨_,Array.getElem?_eq_getElem (h0 ▸ hk)⟩) aS (λk c hk aa e=>e) (λc=>(aN c).trans ⟨.inr,λh=>h.elim (λh=>h.elim) id⟩) (λk x y J ax u hu=>aU k x y J ax (aq k x u J hu) (aF x (List.mem_of_getElem? J)) (λc aa=>bc c ((aN c).2 ⟨k,(List.getElem?_eq_some_iff.1 J).1,aa⟩)) aT);refine ⟨λc=>∃ k,k<cs'.length/\qR k c,λc ⟨k,hk,h⟩=>(aN c).2 ⟨k,ak ▸ hk,qi k c hk h⟩,
     .agg (Fs:=qR) (by rw [ak,h0]) h1 (λk y u ax hu=>(Bu k y u ax hu).om λc aa=>aa.imp id λ⟨h1,af⟩=>⟨h1,λh=>af (.inr h)⟩) (λj k c ah hk af aI=>aS j k c (ak ▸ ah) (ak ▸ hk) (qi j c ah af) (qi k c hk aI)) (λc=>Iff.rfl)⟩
end
end Go.Own
