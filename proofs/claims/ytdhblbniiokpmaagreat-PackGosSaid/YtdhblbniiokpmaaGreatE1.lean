/-
  Parts of the proof that the last text states. No condition of their own.
-/
import Derived.Orders
import Derived.WalkKit
namespace Go.Own
open Go
structure Place where
 root:Nat
 path:List Nat
 deriving DecidableEq,Repr
def Place.push (p:Place) (k:Nat):Place:=⟨p.root,p.path++[k]⟩
inductive ab where
 | lit (v:Value)
 | aK
 | bm (z n:Nat) (cs:List ab)
 | own (z n:Nat) (cs:List ab)
 | obj (cs:List ab)
 | agg (cs:List ab)
 | bW (cs:List ab)
 | cI (cs:List ab)
 | ptr (p:Place) (k:Nat)
 | a6 (z:Nat) (p:Place) (n:Nat)
 | sub (z:Nat) (p:Place) (lo n:Nat)
 | bM (z:Nat) (p:Place) (n m:Nat) (new:List ab)
 | cW (fn:Fn) (first caps:List ab)
 | mp (p:Array MapEntry->Nat->Prop)
 | gB (p:Place)
 | imp (p:Array MapEntry->Nat->Prop)
 | dead
 deriving Inhabited
abbrev bb:=Nat->Prop
def ab.isRef:ab->Bool
 | .ptr .. | .a6 .. | .sub .. | .gB ..=>true
 | _=>false
inductive R (w:World) (I:bb) (ρ:ab->Value->Prop):ab->Value->bb->Prop
 | lit {v:Value}{F:bb}(hv:v.oneCell'=true) (aN:∀ c,¬ F c):R w I ρ (.lit v) v F
 | aK {F:bb}(aN:∀ c,¬ F c):R w I ρ .aK (.slice none 0 0) F
 | dead {v:Value}{F:bb}(aN:∀ c,¬ F c):R w I ρ .dead v F
 | ref {x:ab}{v:Value}{F:bb}(J:x.isRef=true) (h:ρ x v) (aN:∀ c,¬ F c):R w I ρ x v F
 | hF {z cap:Nat}{a:Option Addr}{F:bb}(aN:∀ c,¬ F c):R w I ρ (.bm z 0 []) (.slice a 0 cap) F
 | bm {z n cap:Nat}{cs:List ab}{ad:Addr}{us:Nat->Value}{F:bb}(aN:∀ c,¬ F c) (k9:n<=cap) (bf:I ad.block) (aC:ad.spot=none) (ak:cs.length=n * z) (h1:∀ (k:Nat) (x:ab),cs[k]?=some x->(us k).oneCell'=true)
   (aa:∀ (k:Nat) (x:ab),cs[k]?=some x->w.cell? ⟨ad.block,ad.off+k,none⟩=some (us k)) (ao:∀ (k:Nat) (x:ab),cs[k]?=some x->R w I ρ x (us k) (λ_=>False)) :
   R w I ρ (.bm z n cs) (.slice (some ad) n cap) F
 | cI {cs:List ab}{ad:Addr}{us:Nat->Value}{F:bb}(aN:∀ c,¬ F c) (bf:I ad.block) (aC:ad.spot=none) (h1:∀ (k:Nat) (x:ab),cs[k]?=some x->(us k).oneCell'=true)
   (aa:∀ (k:Nat) (x:ab),cs[k]?=some x->w.cell? ⟨ad.block,ad.off+k,none⟩=some (us k)) (ao:∀ (k:Nat) (x:ab),cs[k]?=some x->R w I ρ x (us k) (λ_=>False)) :
   R w I ρ (.cI cs) (.pointer (some ad)) F
 | own {z n:Nat}{cs:List ab}{v:Value}{e:TypeId}{us:List Value}{Fs:Nat->bb}{F:bb}
   (a1:w.ownsRow 0 e z v n us) (ak:cs.length=us.length) (h1:∀ (k:Nat) (u:Value),us[k]?=some u->u.oneCell'=true)
   (ao:∀ (k:Nat) (x:ab) (u:Value),cs[k]?=some x->us[k]?=some u->R w I ρ x u (Fs k))
   (aS:∀ (j k c:Nat),j<cs.length->k<cs.length->Fs j c->Fs k c->j=k) (av:∀ (k c:Nat),k<cs.length->Fs k c->v.ownBlock≠some c)
   (aN:∀ c,F c↔v.ownBlock=some c\/∃ k,k<cs.length/\Fs k c):R w I ρ (.own z n cs) v F
 | obj {cs:List ab}{b:Nat}{e:TypeId}{arr:Array Value}{Fs:Nat->bb}{F:bb}
   (a1:w.heap[b]?=some (.cells arr e (0,0))) (ak:cs.length=arr.size) (h1:∀ (k:Nat) (u:Value),arr[k]?=some u->u.oneCell'=true)
   (ao:∀ (k:Nat) (x:ab) (u:Value),cs[k]?=some x->arr[k]?=some u->R w I ρ x u (Fs k))
   (aS:∀ (j k c:Nat),j<cs.length->k<cs.length->Fs j c->Fs k c->j=k) (av:∀ (k:Nat),k<cs.length->¬ Fs k b)
   (aN:∀ c,F c↔c=b\/∃ k,k<cs.length/\Fs k c):R w I ρ (.obj cs) (.pointer (some ⟨b,0,none⟩)) F
 | agg {cs:List ab}{vs:Array Value}{Fs:Nat->bb}{F:bb}(ak:cs.length=vs.size) (h1:∀ (k:Nat) (u:Value),vs[k]?=some u->u.oneCell'=true)
   (ao:∀ (k:Nat) (x:ab) (u:Value),cs[k]?=some x->vs[k]?=some u->R w I ρ x u (Fs k))
   (aS:∀ (j k c:Nat),j<cs.length->k<cs.length->Fs j c->Fs k c->j=k)
   (aN:∀ c,F c↔∃ k,k<cs.length/\Fs k c):R w I ρ (.agg cs) (.agg vs) F
 | bW {cs:List ab}{vs:Array Value}{Fs:Nat->bb}{F:bb}(ak:cs.length=vs.size)
   (ao:∀ (k:Nat) (x:ab) (u:Value),cs[k]?=some x->vs[k]?=some u->R w I ρ x u (Fs k))
   (aS:∀ (j k c:Nat),j<cs.length->k<cs.length->Fs j c->Fs k c->j=k)
   (aN:∀ c,F c↔∃ k,k<cs.length/\Fs k c):R w I ρ (.bW cs) (.tuple vs) F
 | cW {fn:Fn}{first caps:List ab}{v1 v2:Array Value}{F:bb}(aN:∀ c,¬ F c) (h1:first.length=v1.size) (af:caps.length=v2.size)
   (ku:∀ (k:Nat) (x:ab) (u:Value),first[k]?=some x->v1[k]?=some u->R w I ρ x u (λ_=>False))
   (iP:∀ (k:Nat) (x:ab) (u:Value),caps[k]?=some x->v2[k]?=some u->R w I ρ x u (λ_=>False)):R w I ρ (.cW fn first caps) (.func fn v1 v2) F
 | mp {p:Array MapEntry->Nat->Prop}{b:Nat}{es:Array MapEntry}{clock:Nat}{F:bb}(a1:w.heap[b]?=some (.map es clock)) (au:p es clock) (aN:∀ c,F c↔c=b):R w I ρ (.mp p) (.map (some b)) F
 | imp {p:Array MapEntry->Nat->Prop}{b:Nat}{es:Array MapEntry}{clock:Nat}{F:bb}(aN:∀ c,¬ F c) (bf:I b) (a1:w.heap[b]?=some (.map es clock)) (au:p es clock):R w I ρ (.imp p) (.map (some b)) F
theorem R.y9 {w:World}{I:bb}{ρ:ab->Value->Prop}{x:ab}{v:Value}{F c9:bb}(h:R w I ρ x v F) (aN:∀ c,F c↔c9 c):R w I ρ x v c9:=by
 have:F=c9:=funext λc=>propext (aN c)
 grind
theorem R.lt {w:World}{I:bb}{ρ:ab->Value->Prop}{x:ab}{v:Value}{F:bb}(h:R w I ρ x v F):∀ c,F c->c<w.heap.size:=by
 induction h with
 | lit _ aN | aK aN | dead aN | ref _ _ aN | hF aN | bm aN | cI aN | cW aN | imp aN=>exact λc aa=>absurd aa (aN c)
 | mp a1 _ aN=>exact λc aa=>by rw [(aN c).1 aa]; exact (Array.getElem?_eq_some_iff.1 a1).1
 | own a1 ak h1 ao aS av aN aU =>
  intro c aa;rcases (aN c).1 aa with h | ⟨k,hk,h⟩
  ·exact (a1.lt c h).2
  ·exact aU k _ _ (List.getElem?_eq_getElem hk) (List.getElem?_eq_getElem (ak ▸ hk)) c h
 | obj a1 ak h1 ao aS av aN aU =>
  intro c aa;rcases (aN c).1 aa with rfl | ⟨k,hk,h⟩
  ·grind
  ·exact aU k _ _ (List.getElem?_eq_getElem hk) (Array.getElem?_eq_getElem (ak ▸ hk)) c h
 | agg ak h1 ao aS aN aU =>
  intro c aa;obtain ⟨k,hk,h⟩:=(aN c).1 aa;exact aU k _ _ (List.getElem?_eq_getElem hk) (Array.getElem?_eq_getElem (ak ▸ hk)) c h
 | bW ak ao aS aN aU =>
  intro c aa;obtain ⟨k,hk,h⟩:=(aN c).1 aa;exact aU k _ _ (List.getElem?_eq_getElem hk) (Array.getElem?_eq_getElem (ak ▸ hk)) c h
theorem vJ {w w':World}{e:TypeId}{z n:Nat}{v:Value}{us:List Value}(h:w.ownsRow 0 e z v n us) (av:∀ c,v.ownBlock=some c->w'.heap[c]?=w.heap[c]?):w'.ownsRow 0 e z v n us:=by
 obtain ⟨h1,af⟩:=h;refine ⟨h1,?_⟩;rcases af with af | ⟨g,cap,cur,rfl,aO,bY,rest⟩
 ·grind
 ·exact .inr ⟨g,cap,cur,rfl,aO,by rw [av g rfl]; exact bY,rest⟩
theorem R.frame {w w':World}{I I':bb}{ρ ρ':ab->Value->Prop}{x:ab}{v:Value}{F:bb}(h:R w I ρ x v F)
  (bf:∀ c,I c->w'.heap[c]?=w.heap[c]?) (pw:∀ c,I c->I' c) (lO:∀ x v,ρ x v->ρ' x v) :
  (∀ c,F c->w'.heap[c]?=w.heap[c]?)->R w' I' ρ' x v F:=by
 induction h with
 | lit hv aN=>exact λ_=>.lit hv aN
 | aK aN=>exact λ_=>.aK aN
 | dead aN=>exact λ_=>.dead aN
 | ref J h aN=>exact λ_=>.ref J (lO _ _ h) aN
 | hF aN=>exact λ_=>.hF aN
 | bm aN k9 hi aC ak h1 aa ao aU =>
  exact λ_=>.bm aN k9 (pw _ hi) aC ak h1 (λk x hk=>(World.cell?_of_block (a:=⟨_,_,none⟩) (bf _ hi)).trans (aa k x hk)) λk x hk=>aU k x hk (λc aa=>aa.elim)
 | cI aN hi aC h1 aa ao aU =>
  exact λ_=>.cI aN (pw _ hi) aC h1 (λk x hk=>(World.cell?_of_block (a:=⟨_,_,none⟩) (bf _ hi)).trans (aa k x hk)) λk x hk=>aU k x hk (λc aa=>aa.elim)
 | own a1 ak h1 ao aS av aN aU =>
  intro aW;refine .own (vJ a1 λc aa=>aW c ((aN c).2 (.inl aa))) ak h1 (λk x u J hu=>aU k x u J hu λc aa=>aW c ((aN c).2 (.inr ⟨k,?_,aa⟩))) aS av aN
  grind
 | obj a1 ak h1 ao aS av aN aU =>
  intro aW;refine .obj ((aW _ ((aN _).2 (.inl rfl))).trans a1) ak h1 (λk x u J hu=>aU k x u J hu λc aa=>aW c ((aN c).2 (.inr ⟨k,?_,aa⟩))) aS av aN
  grind
 | agg ak h1 ao aS aN aU =>
  intro aW;refine .agg ak h1 (λk x u J hu=>aU k x u J hu λc aa=>aW c ((aN c).2 ⟨k,?_,aa⟩)) aS aN
  grind
 | bW ak ao aS aN aU =>
  intro aW;refine .bW ak (λk x u J hu=>aU k x u J hu λc aa=>aW c ((aN c).2 ⟨k,?_,aa⟩)) aS aN
  grind
 | imp aN hi a1 au=>exact λ_=>.imp aN (pw _ hi) ((bf _ hi).trans a1) au
 | mp a1 au aN=>exact λaW=>.mp ((aW _ ((aN _).2 rfl)).trans a1) au aN
 | cW aN h1 af ku iP gA gi=>exact λ_=>.cW aN h1 af (λk x u J hu=>gA k x u J hu λc aa=>aa.elim) (λk x u J hu=>gi k x u J hu λc aa=>aa.elim)
def ab.kids:ab->List ab
 | .own _ _ cs=>cs
 | .obj cs=>cs
 | .agg cs=>cs
 | .bW cs=>cs
 | _=>[]
def ab.v' (x:ab) (k:Nat) (y:ab):ab :=
 match x with
 | .own z n cs=>.own z n (cs.set k y)
 | .obj cs=>.obj (cs.set k y)
 | .agg cs=>.agg (cs.set k y)
 | .bW cs=>.bW (cs.set k y)
 | x=>x
def ab.at:ab->List Nat->Option ab
 | x,[]=>some x
 | x,k::p =>
  match x.kids[k]? with
  | some c=>c.at p
  | none=>none
def ab.setAt:ab->List Nat->ab->ab
 | _,[],y=>y
 | x,k::p,y =>
  match x.kids[k]? with
  | some c=>x.v' k (c.setAt p y)
  | none=>x
def child (w:World) (v:Value) (k:Nat):Option Value :=
 match v with
 | .agg cs=>cs[k]?
 | .tuple cs=>cs[k]?
 | .slice (some a) _ _=>w.cell? ⟨a.block,a.off+k,none⟩
 | .pointer (some a)=>w.cell? ⟨a.block,a.off+k,none⟩
 | _=>none
def walk (w:World):Value->List Nat->Option Value
 | v,[]=>some v
 | v,k::p =>
  match child w v k with
  | some u=>walk w u p
  | none=>none
theorem pS {w:World}{e:TypeId}{z n:Nat}{v:Value}{us:List Value}(h:w.ownsRow 0 e z v n us) {k:Nat}{u:Value}(hu:us[k]?=some u):child w v k=some u:=by
 obtain ⟨h1,af⟩:=h;rcases af with ⟨rfl,rfl⟩ | ⟨g,cap,cur,rfl,aO,bY,aF,aa,aC,aw⟩
 ·grind
 ·rw [<- aw] at hu;rw [List.getElem?_take] at hu
  split at hu
  ·simpa [child,World.cell?,bY] using hu
  grind
theorem Yr {α:Type}{l:List α}{k j:Nat}{y x:α}(h:(l.set k y)[j]?=some x):(j=k/\x=y/\k<l.length)\/(j≠k/\l[j]?=some x):=by
 grind
structure Out (w w':World) (I I':bb) (ρ ρ':ab->Value->Prop) (F cA:bb):Prop where
 bm:∀ c,I c->w'.heap[c]?=w.heap[c]?
 rest:∀ c,F c->¬ cA c->w'.heap[c]?=w.heap[c]?
 more:∀ c,I c->I' c
 ref:∀ x v,ρ x v->ρ' x v
theorem Out.mono {w w':World}{I I':bb}{ρ ρ':ab->Value->Prop}{F cA c9 jl:bb}(h:Out w w' I I' ρ ρ' F cA) (h1:∀ c,c9 c->F c) (af:∀ c,c9 c->¬ jl c->¬ cA c):Out w w' I I' ρ ρ' c9 jl :=
 ⟨h.bm,λc aa aF=>h.rest c (h1 c aa) (af c aa aF),h.more,h.ref⟩
theorem R.outside {w w':World}{I I':bb}{ρ ρ':ab->Value->Prop}{F cA:bb}(o:Out w w' I I' ρ ρ' F cA) {x:ab}{v:Value}{G:bb}(h:R w I ρ x v G) (c_:∀ c,G c->F c/\¬ cA c):R w' I' ρ' x v G :=
 h.frame o.bm o.more o.ref λc aa=>o.rest c (c_ c aa).1 (c_ c aa).2
theorem E7 {w w':World}{I I':bb}{ρ ρ':ab->Value->Prop}{cs:List ab}{get:Nat->Option Value}{Fs:Nat->bb}{F cA:bb}
  (ao:∀ (k:Nat) (x:ab) (u:Value),cs[k]?=some x->get k=some u->R w I ρ x u (Fs k))
  (aS:∀ (j k c:Nat),j<cs.length->k<cs.length->Fs j c->Fs k c->j=k)
  (aN:∀ k c,k<cs.length->Fs k c->F c) {k:Nat}(hk:k<cs.length) (ax:∀ c,cA c->Fs k c) (o:Out w w' I I' ρ ρ' F cA)
  {y:ab}{u:Value}{bL:bb}(hu:get k=some u) (aZ:R w' I' ρ' y u bL) (fV:∀ c,bL c↔(Fs k c/\¬ cA c)\/(bL c/\¬ (F c/\¬ cA c))) :
  (∀ (j:Nat) (x:ab) (u:Value),(cs.set k y)[j]?=some x->get j=some u->R w' I' ρ' x u (if j=k then bL else Fs j)) /\
  (∀ (i j c:Nat),i<(cs.set k y).length->j<(cs.set k y).length->(if i=k then bL else Fs i) c->(if j=k then bL else Fs j) c->i=j):=by
 constructor
 ·intro j x wb J jP;rcases Yr J with ⟨rfl,rfl,aT⟩ | ⟨dq,J⟩
  ·grind
  ·rw [if_neg dq];have ah:j<cs.length:=(List.getElem?_eq_some_iff.1 J).1;exact (ao j x wb J jP).outside o λc aa=>⟨aN j c ah aa,λeN=>dq (aS j k c ah hk aa (ax c eN))⟩
 grind
theorem E8 {m:Nat}{Fs:Nat->bb}{bL cA jl:bb}{k:Nat}(hk:k<m)
  (aS:∀ (j k c:Nat),j<m->k<m->Fs j c->Fs k c->j=k) (ax:∀ c,cA c->Fs k c) (fV:∀ c,bL c↔(Fs k c/\¬ cA c)\/jl c) (c:Nat) :
  (∃ j,j<m/\(if j=k then bL else Fs j) c)↔((∃ j,j<m/\Fs j c)/\¬ cA c)\/jl c:=by
 grind
theorem R.p0 {w w':World}{I:bb}{ρ:ab->Value->Prop}:∀ (r:List Nat) {x:ab}{v:Value}{F:bb}{y:ab},R w I ρ x v F->x.at r=some y ->
  (∀ c,F c->w'.heap[c]?=w.heap[c]?)->walk w' v r=walk w v r
 | [],_,_,_,_,_,_,_=>rfl
 | k::p,x,v,F,y,h,gu,aW=>by
  simp only [ab.at] at gu;cases ho:x.kids[k]? with
  | none=>rw [ho] at gu; cases gu
  | some sD =>
   rw [ho] at gu;simp only at gu;cases h with
   | @own z n cs _ e us Fs _ a1 ak h1 ao aS av aN =>
    simp only [ab.kids] at ho;have hk:k<cs.length:=(List.getElem?_eq_some_iff.1 ho).1;have hu:us[k]?=some us[k]:=List.getElem?_eq_getElem (ak ▸ hk);have nJ:=vJ (w':=w') a1 λc aa=>aW c ((aN c).2 (.inl aa));have:=R.p0 (w':=w') p (ao k sD _ ho hu) gu λc aa=>aW c ((aN c).2 (.inr ⟨k,hk,aa⟩));simp [walk,pS a1 hu,pS nJ hu,this]
   | @obj cs b e arr Fs _ a1 ak h1 ao aS av aN =>
    simp only [ab.kids] at ho;have hk:k<cs.length:=(List.getElem?_eq_some_iff.1 ho).1;have hu:arr[k]?=some arr[k]:=Array.getElem?_eq_getElem (ak ▸ hk);have nJ:=(aW b ((aN b).2 (.inl rfl))).trans a1;have:=R.p0 (w':=w') p (ao k sD _ ho hu) gu λc aa=>aW c ((aN c).2 (.inr ⟨k,hk,aa⟩));simp [walk,child,World.cell?,a1,nJ,hu,this]
   | @agg cs vs Fs _ ak h1 ao aS aN =>
    simp only [ab.kids] at ho;have hk:k<cs.length:=(List.getElem?_eq_some_iff.1 ho).1;have hu:vs[k]?=some vs[k]:=Array.getElem?_eq_getElem (ak ▸ hk);have:=R.p0 (w':=w') p (ao k sD _ ho hu) gu λc aa=>aW c ((aN c).2 ⟨k,hk,aa⟩);simp [walk,child,hu,this]
   | @bW cs vs Fs _ ak ao aS aN =>
    simp only [ab.kids] at ho;have hk:k<cs.length:=(List.getElem?_eq_some_iff.1 ho).1;have hu:vs[k]?=some vs[k]:=Array.getElem?_eq_getElem (ak ▸ hk);have:=R.p0 (w':=w') p (ao k sD _ ho hu) gu λc aa=>aW c ((aN c).2 ⟨k,hk,aa⟩);simp [walk,child,hu,this]
   | ref J _ _=>cases x <;> simp [ab.isRef,ab.kids] at J ho
   | _=>simp [ab.kids] at ho
theorem R.focus {w:World}{I:bb}{ρ:ab->Value->Prop}:∀ (q:List Nat) {x:ab}{v:Value}{F:bb}{y:ab},R w I ρ x v F->x.at q=some y ->
  ∃ h0 cA,walk w v q=some h0/\R w I ρ y h0 cA/\(∀ c,cA c->F c) /\
   (∀ (w':World),(∀ c,F c->¬ cA c->w'.heap[c]?=w.heap[c]?)->walk w' v q=some h0/\∀ r uO,x.at r=some uO->(∃ dm,r=q++dm)\/walk w' v r=walk w v r) /\
   ∀ (w':World) (I':bb) (ρ':ab->Value->Prop) (y':ab) (jl:bb),Out w w' I I' ρ ρ' F cA->R w' I' ρ' y' h0 jl->(∀ c,jl c->F c->cA c) ->
    ∃ c9,R w' I' ρ' (x.setAt q y') v c9/\∀ c,c9 c↔(F c/\¬ cA c)\/jl c
 | [],x,v,F,y,h,gu=>by
  simp only [ab.at,Option.some.injEq] at gu;subst gu;exact ⟨v,F,rfl,h,λ_ h=>h,λ_ _=>⟨rfl,λr _ _=>.inl ⟨r,rfl⟩⟩,λw' I' ρ' y' jl _ aZ _=>⟨jl,aZ,λc=>by simp⟩⟩
 | k::p,x,v,F,y,h,gu=>by
  simp only [ab.at] at gu;cases ho:x.kids[k]? with
  | none=>rw [ho] at gu; cases gu
  | some sD =>
   rw [ho] at gu;simp only at gu;have zx:∀ y',x.setAt (k::p) y'=x.v' k (sD.setAt p y'):=λy'=>by simp [ab.setAt,ho]
   cases h with
   | @own z n cs _ e us Fs _ a1 ak h1 ao aS av aN =>
    simp only [ab.kids] at ho;have hk:k<cs.length:=(List.getElem?_eq_some_iff.1 ho).1;have hu:us[k]?=some us[k]:=List.getElem?_eq_getElem (ak ▸ hk);obtain ⟨h0,cA,hw,dI,dy,eW,kg⟩:=R.focus p (ao k sD _ ho hu) gu;refine ⟨h0,cA,by simp [walk,pS a1 hu,hw],dI,λc aa=>(aN c).2 (.inr ⟨k,hk,dy c aa⟩),?_,?_⟩
    ·intro w' aC;have pC:∀ j c,j<cs.length->Fs j c->¬ cA c->w'.heap[c]?=w.heap[c]?:=λj c ah aa aF=>aC c ((aN c).2 (.inr ⟨j,ah,aa⟩)) aF;obtain ⟨ib,hr⟩:=eW w' λc aa aF=>pC k c hk aa aF;have nJ:=vJ (w':=w') a1 λc aa=>aC c ((aN c).2 (.inl aa)) λeN=>av k c hk (dy c eN) aa;refine ⟨by simp [walk,pS nJ hu,ib],?_⟩;intro r uO ec;cases r with
     | nil=>exact .inr rfl
     | cons j r =>
      simp only [ab.at,ab.kids] at ec;cases ah:cs[j]? with
      | none=>rw [ah] at ec; cases ec
      | some wN =>
       rw [ah] at ec;simp only at ec;have eZ:j<cs.length:=(List.getElem?_eq_some_iff.1 ah).1;have ri:us[j]?=some us[j]:=List.getElem?_eq_getElem (ak ▸ eZ);by_cases gV:j=k
       ·subst gV;rw [ho] at ah;cases ah;rcases hr r uO ec with ⟨dm,rfl⟩ | h
        ·exact .inl ⟨dm,rfl⟩
        ·exact .inr (by simp [walk,pS a1 hu,pS nJ hu,h])
       ·have h:=R.p0 (w':=w') r (ao j wN _ ah ri) ec λc aa=>pC j c eZ aa λeN=>gV (aS j k c eZ hk aa (dy c eN));exact .inr (by simp [walk,pS a1 ri,pS nJ ri,h])
    intro w' I' ρ' y' jl o jM mW;have jL:∀ j c,j<cs.length->Fs j c->F c:=λj c ah aa=>(aN c).2 (.inr ⟨j,ah,aa⟩);obtain ⟨bL,kM,fV⟩:=kg w' I' ρ' y' jl (o.mono (λc aa=>jL k c hk aa) λc _ h=>h) jM λc aa oQ=>mW c aa (jL k c hk oQ);obtain ⟨ec,ob⟩:=E7 (get:=λj=>us[j]?) ao aS jL hk dy o hu kM λc=>by
     constructor
     ·intro h;rcases (fV c).1 h with h1 | h1
      ·exact .inl h1
      ·exact .inr ⟨h,λ⟨af,aI⟩=>aI (mW c h1 af)⟩
     ·rintro (h1 | ⟨h1,_⟩)
      ·exact (fV c).2 (.inl h1)
      ·exact h1
    rw [zx];refine ⟨_,.own (Fs:=λj=>if j=k then bL else Fs j) (vJ a1 λc aa=>o.rest c ((aN c).2 (.inl aa)) λeN=>av k c hk (dy c eN) aa) (by simpa using ak) h1 ec ob ?_ (λc=>Iff.rfl),λc=>?_⟩
    ·intro j c ah aa vq;rw [List.length_set] at ah;by_cases gV:j=k
     ·rw [if_pos gV] at aa;rcases (fV c).1 aa with ⟨h1,_⟩ | h1
      ·exact av k c hk h1 vq
      ·exact av k c hk (dy c (mW c h1 ((aN c).2 (.inl vq)))) vq
     ·rw [if_neg gV] at aa; exact av j c ah aa vq
    ·have hu:=E8 hk aS dy fV c;simp only [List.length_set];rw [hu,aN c];have e9:v.ownBlock=some c->¬ cA c:=λh1 af=>av k c hk (dy c af) h1;constructor
     ·rintro (h1 | ⟨h1,af⟩ | h1)
      ·exact .inl ⟨.inl h1,e9 h1⟩
      ·exact .inl ⟨.inr h1,af⟩
      ·exact .inr h1
     ·rintro (⟨h1 | h1,af⟩ | h1)
      ·exact .inl h1
      ·exact .inr (.inl ⟨h1,af⟩)
      ·exact .inr (.inr h1)
   | @obj cs b e arr Fs _ a1 ak h1 ao aS av aN =>
    simp only [ab.kids] at ho;have hk:k<cs.length:=(List.getElem?_eq_some_iff.1 ho).1;have hu:arr[k]?=some arr[k]:=Array.getElem?_eq_getElem (ak ▸ hk);obtain ⟨h0,cA,hw,dI,dy,eW,kg⟩:=R.focus p (ao k sD _ ho hu) gu;refine ⟨h0,cA,by simp [walk,child,World.cell?,a1,hu,hw],dI,λc aa=>(aN c).2 (.inr ⟨k,hk,dy c aa⟩),?_,?_⟩
    ·intro w' aC;have pC:∀ j c,j<cs.length->Fs j c->¬ cA c->w'.heap[c]?=w.heap[c]?:=λj c ah aa aF=>aC c ((aN c).2 (.inr ⟨j,ah,aa⟩)) aF;obtain ⟨ib,hr⟩:=eW w' λc aa aF=>pC k c hk aa aF;have nJ:=(aC b ((aN b).2 (.inl rfl)) λeN=>av k hk (dy b eN)).trans a1;refine ⟨by simp [walk,child,World.cell?,nJ,hu,ib],?_⟩;intro r uO ec;cases r with
     | nil=>exact .inr rfl
     | cons j r =>
      simp only [ab.at,ab.kids] at ec;cases ah:cs[j]? with
      | none=>rw [ah] at ec; cases ec
      | some wN =>
       rw [ah] at ec;simp only at ec;have eZ:j<cs.length:=(List.getElem?_eq_some_iff.1 ah).1;have ri:arr[j]?=some arr[j]:=Array.getElem?_eq_getElem (ak ▸ eZ);by_cases gV:j=k
       ·subst gV;rw [ho] at ah;cases ah;rcases hr r uO ec with ⟨dm,rfl⟩ | h
        ·exact .inl ⟨dm,rfl⟩
        ·exact .inr (by simp [walk,child,World.cell?,a1,nJ,hu,h])
       ·have h:=R.p0 (w':=w') r (ao j wN _ ah ri) ec λc aa=>pC j c eZ aa λeN=>gV (aS j k c eZ hk aa (dy c eN));exact .inr (by simp [walk,child,World.cell?,a1,nJ,ri,h])
    intro w' I' ρ' y' jl o jM mW;have jL:∀ j c,j<cs.length->Fs j c->F c:=λj c ah aa=>(aN c).2 (.inr ⟨j,ah,aa⟩);obtain ⟨bL,kM,fV⟩:=kg w' I' ρ' y' jl (o.mono (λc aa=>jL k c hk aa) λc _ h=>h) jM λc aa oQ=>mW c aa (jL k c hk oQ);obtain ⟨ec,ob⟩:=E7 (get:=λj=>arr[j]?) ao aS jL hk dy o hu kM λc=>by
     constructor
     ·intro h;rcases (fV c).1 h with h1 | h1
      ·exact .inl h1
      ·exact .inr ⟨h,λ⟨af,aI⟩=>aI (mW c h1 af)⟩
     ·rintro (h1 | ⟨h1,_⟩)
      ·exact (fV c).2 (.inl h1)
      ·exact h1
    rw [zx];have mw:F b:=(aN b).2 (.inl rfl);have Ia:¬ cA b:=λh=>av k hk (dy b h);refine ⟨_,.obj (Fs:=λj=>if j=k then bL else Fs j) ((o.rest b mw Ia).trans a1) (by simpa using ak) h1 ec ob ?_ (λc=>Iff.rfl),λc=>?_⟩
    ·intro j ah aa;rw [List.length_set] at ah;by_cases gV:j=k
     ·rw [if_pos gV] at aa;rcases (fV b).1 aa with ⟨h1,_⟩ | h1
      ·exact av k hk h1
      ·exact Ia (mW b h1 mw)
     ·rw [if_neg gV] at aa; exact av j ah aa
    ·have hu:=E8 hk aS dy fV c;simp only [List.length_set];rw [hu,aN c];constructor
     ·rintro (rfl | ⟨h1,af⟩ | h1)
      ·exact .inl ⟨.inl rfl,Ia⟩
      ·exact .inl ⟨.inr h1,af⟩
      ·exact .inr h1
     ·rintro (⟨h1 | h1,af⟩ | h1)
      ·exact .inl h1
      ·exact .inr (.inl ⟨h1,af⟩)
      ·exact .inr (.inr h1)
   | @agg cs vs Fs _ ak h1 ao aS aN =>
    simp only [ab.kids] at ho;have hk:k<cs.length:=(List.getElem?_eq_some_iff.1 ho).1;have hu:vs[k]?=some vs[k]:=Array.getElem?_eq_getElem (ak ▸ hk);obtain ⟨h0,cA,hw,dI,dy,eW,kg⟩:=R.focus p (ao k sD _ ho hu) gu;refine ⟨h0,cA,by simp [walk,child,hu,hw],dI,λc aa=>(aN c).2 ⟨k,hk,dy c aa⟩,?_,?_⟩
    ·intro w' aC;have pC:∀ j c,j<cs.length->Fs j c->¬ cA c->w'.heap[c]?=w.heap[c]?:=λj c ah aa aF=>aC c ((aN c).2 ⟨j,ah,aa⟩) aF;obtain ⟨ib,hr⟩:=eW w' λc aa aF=>pC k c hk aa aF
     
     refine ⟨by simp [walk,child,hu,ib],?_⟩;intro r uO ec;cases r with
     | nil=>exact .inr rfl
     | cons j r =>
      simp only [ab.at,ab.kids] at ec;cases ah:cs[j]? with
      | none=>rw [ah] at ec; cases ec
      | some wN =>
       rw [ah] at ec;simp only at ec;have eZ:j<cs.length:=(List.getElem?_eq_some_iff.1 ah).1;have ri:vs[j]?=some vs[j]:=Array.getElem?_eq_getElem (ak ▸ eZ);by_cases gV:j=k
       ·subst gV;rw [ho] at ah;cases ah;rcases hr r uO ec with ⟨dm,rfl⟩ | h
        ·exact .inl ⟨dm,rfl⟩
        ·exact .inr (by simp [walk,child,hu,h])
       ·have h:=R.p0 (w':=w') r (ao j wN _ ah ri) ec λc aa=>pC j c eZ aa λeN=>gV (aS j k c eZ hk aa (dy c eN));exact .inr (by simp [walk,child,ri,h])
    intro w' I' ρ' y' jl o jM mW;have jL:∀ j c,j<cs.length->Fs j c->F c:=λj c ah aa=>(aN c).2 ⟨j,ah,aa⟩;obtain ⟨bL,kM,fV⟩:=kg w' I' ρ' y' jl (o.mono (λc aa=>jL k c hk aa) λc _ h=>h) jM λc aa oQ=>mW c aa (jL k c hk oQ);obtain ⟨ec,ob⟩:=E7 (get:=λj=>vs[j]?) ao aS jL hk dy o hu kM λc=>by
     constructor
     ·intro h;rcases (fV c).1 h with h1 | h1
      ·exact .inl h1
      ·exact .inr ⟨h,λ⟨af,aI⟩=>aI (mW c h1 af)⟩
     ·rintro (h1 | ⟨h1,_⟩)
      ·exact (fV c).2 (.inl h1)
      ·exact h1
    rw [zx];refine ⟨_,.agg (Fs:=λj=>if j=k then bL else Fs j) (by simpa using ak) h1 ec ob (λc=>Iff.rfl),λc=>?_⟩;have hu:=E8 hk aS dy fV c;simp only [List.length_set];rw [hu,aN c]
   | @bW cs vs Fs _ ak ao aS aN =>
    simp only [ab.kids] at ho;have hk:k<cs.length:=(List.getElem?_eq_some_iff.1 ho).1;have hu:vs[k]?=some vs[k]:=Array.getElem?_eq_getElem (ak ▸ hk);obtain ⟨h0,cA,hw,dI,dy,eW,kg⟩:=R.focus p (ao k sD _ ho hu) gu;refine ⟨h0,cA,by simp [walk,child,hu,hw],dI,λc aa=>(aN c).2 ⟨k,hk,dy c aa⟩,?_,?_⟩
    ·intro w' aC;have pC:∀ j c,j<cs.length->Fs j c->¬ cA c->w'.heap[c]?=w.heap[c]?:=λj c ah aa aF=>aC c ((aN c).2 ⟨j,ah,aa⟩) aF;obtain ⟨ib,hr⟩:=eW w' λc aa aF=>pC k c hk aa aF
     
     refine ⟨by simp [walk,child,hu,ib],?_⟩;intro r uO ec;cases r with
     | nil=>exact .inr rfl
     | cons j r =>
      simp only [ab.at,ab.kids] at ec;cases ah:cs[j]? with
      | none=>rw [ah] at ec; cases ec
      | some wN =>
       rw [ah] at ec;simp only at ec;have eZ:j<cs.length:=(List.getElem?_eq_some_iff.1 ah).1;have ri:vs[j]?=some vs[j]:=Array.getElem?_eq_getElem (ak ▸ eZ);by_cases gV:j=k
       ·subst gV;rw [ho] at ah;cases ah;rcases hr r uO ec with ⟨dm,rfl⟩ | h
        ·exact .inl ⟨dm,rfl⟩
        ·exact .inr (by simp [walk,child,hu,h])
       ·have h:=R.p0 (w':=w') r (ao j wN _ ah ri) ec λc aa=>pC j c eZ aa λeN=>gV (aS j k c eZ hk aa (dy c eN));exact .inr (by simp [walk,child,ri,h])
    intro w' I' ρ' y' jl o jM mW;have jL:∀ j c,j<cs.length->Fs j c->F c:=λj c ah aa=>(aN c).2 ⟨j,ah,aa⟩;obtain ⟨bL,kM,fV⟩:=kg w' I' ρ' y' jl (o.mono (λc aa=>jL k c hk aa) λc _ h=>h) jM λc aa oQ=>mW c aa (jL k c hk oQ);obtain ⟨ec,ob⟩:=E7 (get:=λj=>vs[j]?) ao aS jL hk dy o hu kM λc=>by
     constructor
     ·intro h;rcases (fV c).1 h with h1 | h1
      ·exact .inl h1
      ·exact .inr ⟨h,λ⟨af,aI⟩=>aI (mW c h1 af)⟩
     ·rintro (h1 | ⟨h1,_⟩)
      ·exact (fV c).2 (.inl h1)
      ·exact h1
    rw [zx];refine ⟨_,.bW (Fs:=λj=>if j=k then bL else Fs j) (by simpa using ak) ec ob (λc=>Iff.rfl),λc=>?_⟩;have hu:=E8 hk aS dy fV c;simp only [List.length_set];rw [hu,aN c]
   | ref J _ _=>cases x <;> simp [ab.isRef,ab.kids] at J ho
   | _=>simp [ab.kids] at ho
end Go.Own
namespace Go.Own
open Go
abbrev aM:=Nat->Option ab
def bD (g:aM) (p:Place):Option ab :=
 match g p.root with
 | some x=>x.at p.path
 | none=>none
def dW (w:World) (T:Array Value) (p:Place):Option Value :=
 match T[p.root]? with
 | some v=>walk w v p.path
 | none=>none
def addrOf:Value->Option Addr
 | .slice (some a) _ _=>some a
 | .pointer (some a)=>some a
 | _=>none
def fD (w:World) (T:Array Value):ab->Value->Prop
 | .ptr p k,v=>∃ u a,dW w T p=some u/\addrOf u=some a/\v=.pointer (some ⟨a.block,a.off+k,none⟩)
 | .a6 _ p n,v=>∃ a N cap,dW w T p=some (.slice a N cap)/\v=.slice a n cap/\n<=N
 | .sub z p lo n,v=>∃ a N cap b' mP,dW w T p=some (.slice a N cap)/\v=.slice b' n mP/\n<=mP/\lo+n<=N/\(0<n->∃ ad,a=some ad/\b'=some ⟨ad.block,ad.off+lo * z,none⟩)
 | .bM _ p n _ _,v=>∃ a cap,dW w T p=some (.slice a n cap)/\v=.slice a n cap
 | .gB p,v=>∃ b,dW w T p=some (.map b)/\v=.map b
 | _,_=>False
def gE (g:aM):ab->Prop
 | .ptr p k=>∃ y,bD g p=some y/\(∃ z n cs,(y=.own z n cs\/y=.obj cs)/\k<cs.length)
 | .a6 z p n=>(∃ N cs,bD g p=some (.own z N cs)/\n<=N)\/(p.path=[]/\∃ q gY m new,g p.root=some (.bM z q gY m new)/\n=gY+m)
 | .sub z p lo n=>∃ N cs,bD g p=some (.own z N cs)/\lo+n<=N
 | .bM z p n _ _=>(∃ cs,bD g p=some (.own z n cs))\/(p.path=[]/\∃ q gY m new cs,g p.root=some (.bM z q gY m new)/\n=gY+m/\bD g q=some (.own z gY cs))
 | .gB p=>∃ q,bD g p=some (.mp q)
 | _=>False
def dT (w:World) (T:Array Value) (g:aM) (r:ab) (v:Value):Prop:=fD w T r v/\gE g r
structure GJ (w:World) (I:bb) (ρ:ab->Value->Prop) (z:Nat) (p:Place) (n m:Nat) (new:List ab) (v:Value) (F:bb) (bv:Value) (e cf:TypeId) (us news:List Value):Prop where
 jV:ρ (.bM z p n 0 []) bv
 lb:w.ownsRow 0 e z bv n us
 nK:w.ownsRow 0 cf z v (n+m) (us++news)
 ak:new.length=news.length
 h1:∀ (k:Nat) (u:Value),news[k]?=some u->u.oneCell'=true
 ao:∀ (k:Nat) (x:ab) (u:Value),new[k]?=some x->news[k]?=some u->R w I ρ x u (λ_=>False)
 aN:∀ c,F c↔v.ownBlock=some c/\bv.ownBlock≠some c
inductive jD (w:World) (I:bb) (ρ:ab->Value->Prop):ab->Value->bb->Prop
 | tree {x:ab}{v:Value}{F:bb}(h:R w I ρ x v F):jD w I ρ x v F
 | bM {z n m:Nat}{p:Place}{new:List ab}{v bv:Value}{e cf:TypeId}{us news:List Value}{F:bb}(h:GJ w I ρ z p n m new v F bv e cf us news):jD w I ρ (.bM z p n m new) v F
theorem R.lj {w:World}{I:bb}{ρ:ab->Value->Prop}{z n m:Nat}{p:Place}{new:List ab}{v:Value}{F:bb}(h:R w I ρ (.bM z p n m new) v F):False:=by
 cases h with
 | ref J=>simp [ab.isRef] at J
theorem jD.gJ {w:World}{I:bb}{ρ:ab->Value->Prop}{x:ab}{v:Value}{F:bb}(h:jD w I ρ x v F) (J:∀ z p n m new,x≠.bM z p n m new):R w I ρ x v F:=by
 cases h with
 | tree h=>exact h
 | bM=>exact absurd rfl (J _ _ _ _ _)
theorem jD.vA {w:World}{I:bb}{ρ:ab->Value->Prop}{z n m:Nat}{p:Place}{new:List ab}{v:Value}{F:bb}(h:jD w I ρ (.bM z p n m new) v F):∃ bv e cf us news,GJ w I ρ z p n m new v F bv e cf us news:=by
 cases h with
 | tree h=>exact h.lj.elim
 | bM h=>exact ⟨_,_,_,_,_,h⟩
theorem jD.lt {w:World}{I:bb}{ρ:ab->Value->Prop}{x:ab}{v:Value}{F:bb}(h:jD w I ρ x v F):∀ c,F c->c<w.heap.size:=by
 cases h with
 | tree h=>exact h.lt
 | bM h=>exact λc aa=>(h.nK.lt c ((h.aN c).1 aa).1).2
theorem jD.frame {w w':World}{I I':bb}{ρ ρ':ab->Value->Prop}{x:ab}{v:Value}{F:bb}(h:jD w I ρ x v F)
  (bf:∀ c,I c->w'.heap[c]?=w.heap[c]?) (pw:∀ c,I c->I' c) (lO:∀ x v,ρ x v->ρ' x v)
  (cx:∀ z p n bv,ρ (.bM z p n 0 []) bv->∀ c,bv.ownBlock=some c->w'.heap[c]?=w.heap[c]?)
  (aW:∀ c,F c->w'.heap[c]?=w.heap[c]?):jD w' I' ρ' x v F:=by
 cases h with
 | tree h=>exact .tree (h.frame bf pw lO aW)
 | @bM z n m p new v bv e cf us news F h =>
  have av:=cx _ _ _ _ h.jV;refine .bM ⟨lO _ _ h.jV,vJ h.lb av,vJ h.nK λc aa=>?_,h.ak,h.h1,λk x u J hu=>(h.ao k x u J hu).frame bf pw lO λc aa=>aa.elim,h.aN⟩;by_cases rb:bv.ownBlock=some c
  ·exact av c rb
  ·exact aW c ((h.aN c).2 ⟨aa,rb⟩)
theorem ab.sC {z n m:Nat}{p:Place}{new:List ab}{q:List Nat}{y:ab}(h:(ab.bM z p n m new).at q=some y):q=[]/\y=.bM z p n m new:=by
 cases q with
 | nil=>simp [ab.at] at h; exact ⟨rfl,h.symm⟩
 | cons k q=>simp [ab.at,ab.kids] at h
structure cG (w:World) (I:bb) (T:Array Value) (g:aM) (Fs:Nat->bb):Prop where
 rel:∀ t x,g t=some x->∃ v,T[t]?=some v/\jD w I (dT w T g) x v (Fs t)
 kU:∀ t,g t=none->∀ c,¬ Fs t c
 eJ:∀ t t' c,Fs t c->Fs t' c->t=t'
 bm:∀ t c,Fs t c->¬ I c
 lt:∀ c,I c->c<w.heap.size
 ru:∀ t t' z p n m new bE cF m' c5,g t=some (.bM z p n m new)->g t'=some (.bM bE p cF m' c5)->t=t'
section
variable {w:World}{I:bb}{T:Array Value}{g:aM}{Fs:Nat->bb}
theorem cG.part (h:cG w I T g Fs) {p:Place}{y:ab}(au:bD g p=some y) (ax:∀ z q n m new,y≠.bM z q n m new):∃ v cA,dW w T p=some v/\R w I (dT w T g) y v cA/\(∀ c,cA c->Fs p.root c):=by
 unfold bD at au;cases J:g p.root with
 | none=>rw [J] at au; cases au
 | some x =>
  rw [J] at au;obtain ⟨v,hv,aZ⟩:=h.rel _ _ J;replace aZ:=aZ.gJ (by
   rintro z q n m new rfl;exact ax _ _ _ _ _ (ab.sC au).2)
  obtain ⟨h0,cA,hw,dI,dy,_⟩:=R.focus p.path aZ au;exact ⟨h0,cA,by simp [dW,hv,hw],dI,dy⟩
theorem R.qF {ρ:ab->Value->Prop}{z n:Nat}{cs:List ab}{v:Value}{F:bb}(h:R w I ρ (.own z n cs) v F):∀ c,v.ownBlock=some c->F c:=by
 cases h with
 | own a1 ak h1 ao aS av aN=>exact λc aa=>(aN c).2 (.inl aa)
 | ref J=>simp [ab.isRef] at J
theorem R.nk {ρ:ab->Value->Prop}{z n:Nat}{cs:List ab}{v:Value}{F:bb}(h:R w I ρ (.own z n cs) v F) :
  ∃ a cap,v=.slice a n cap/\n<=cap/\cs.length=n * z/\(∀ ad,a=some ad->ad.off=0/\ad.spot=none)/\(0<n->a.isSome=true):=by
 cases h with
 | own a1 ak h1 ao aS av aN =>
  obtain ⟨h1,af⟩:=a1;rcases af with ⟨rfl,rfl⟩ | ⟨b,cap,cur,rfl,_,_,aF,_⟩
  ·exact ⟨none,0,rfl,Nat.le_refl _,by simp [ak,h1],by simp,by simp⟩
  ·exact ⟨_,cap,rfl,aF,by simp [ak,h1],by rintro ad ⟨⟩; exact ⟨rfl,rfl⟩,by simp⟩
 | ref J=>simp [ab.isRef] at J
theorem cG.yp (h:cG w I T g Fs) {w':World}{T':Array Value}(dL:∀ t,g t≠none->T'[t]?=T[t]?) (aN:∀ t c,Fs t c->w'.heap[c]?=w.heap[c]?) {p:Place}{y:ab}(au:bD g p=some y) :
  dW w' T' p=dW w T p:=by
 unfold bD at au;cases J:g p.root with
 | none=>rw [J] at au; cases au
 | some x =>
  rw [J] at au;obtain ⟨v,hv,aZ⟩:=h.rel _ _ J;have ir:T'[p.root]?=some v:=by rw [dL _ (by rw [J]; simp),hv]
  cases aZ with
  | tree aZ =>
   have:=R.p0 (w':=w') p.path aZ au λc aa=>aN _ c aa;simp [dW,hv,ir,this]
  | bM aZ=>simp [dW,hv,ir,(ab.sC au).1,walk]
theorem kH {g g':aM}(aO:∀ t x,g t=some x->g' t=some x) {p:Place}{y:ab}(au:bD g p=some y):bD g' p=some y:=by
 unfold bD at *;cases J:g p.root with
 | none=>rw [J] at au; cases au
 | some x=>rw [J] at au; rw [aO _ _ J]; exact au
theorem gE.mono {g g':aM}(aO:∀ t x,g t=some x->g' t=some x) {r:ab}(h:gE g r):gE g' r:=by
 cases r <;> simp only [gE] at h ⊢
 case ptr p k=>obtain ⟨y,ax,h⟩:=h; exact ⟨y,kH aO ax,h⟩
 case a6 z p n =>
  rcases h with ⟨N,cs,h1,af⟩ | ⟨aR,q,gY,m,new,h1,af⟩
  ·exact .inl ⟨N,cs,kH aO h1,af⟩
  ·exact .inr ⟨aR,q,gY,m,new,aO _ _ h1,af⟩
 case sub z p lo n=>obtain ⟨N,cs,h1,af⟩:=h; exact ⟨N,cs,kH aO h1,af⟩
 case bM z p n m new =>
  rcases h with ⟨cs,h1⟩ | ⟨aR,q,gY,m',c5,cs,h1,af,aI⟩
  ·exact .inl ⟨cs,kH aO h1⟩
  ·exact .inr ⟨aR,q,gY,m',c5,cs,aO _ _ h1,af,kH aO aI⟩
 case gB p=>obtain ⟨q,h⟩:=h; exact ⟨q,kH aO h⟩
theorem cG.FM (h:cG w I T g Fs) {w':World}{T':Array Value}{g':aM}(dL:∀ t,g t≠none->T'[t]?=T[t]?) (aN:∀ t c,Fs t c->w'.heap[c]?=w.heap[c]?)
  (aO:∀ t x,g t=some x->g' t=some x) {r:ab}{v:Value}(ao:dT w T g r v):dT w' T' g' r v:=by
 obtain ⟨h1,af⟩:=ao;refine ⟨?_,af.mono aO⟩;have slot:∀ {p:Place}{x:ab},p.path=[]->g p.root=some x->dW w' T' p=dW w T p:=by
  intro p x au J;obtain ⟨v,hv,_⟩:=h.rel _ _ J;simp [dW,au,walk,dL p.root (by rw [J]; simp)]
 cases r <;> simp only [fD,gE] at h1 af ⊢
 case ptr p k =>
  obtain ⟨y,ax,_⟩:=af;rw [h.yp dL aN ax]; exact h1
 case a6 z p n =>
  rcases af with ⟨N,cs,af,_⟩ | ⟨aR,q,gY,m,new,af,_⟩
  ·rw [h.yp dL aN af]; exact h1
  ·rw [slot aR af]; exact h1
 case sub z p lo n =>
  obtain ⟨N,cs,af,_⟩:=af;rw [h.yp dL aN af]; exact h1
 case bM z p n m new =>
  rcases af with ⟨cs,af⟩ | ⟨aR,q,gY,m',c5,cs,af,_⟩
  ·rw [h.yp dL aN af]; exact h1
  ·rw [slot aR af]; exact h1
 case gB p =>
  obtain ⟨q,af⟩:=af;rw [h.yp dL aN af]; exact h1
theorem cG.D7 (h:cG w I T g Fs) {z n:Nat}{p:Place}{bv:Value}(ao:dT w T g (.bM z p n 0 []) bv):∀ c,bv.ownBlock=some c->∃ t,Fs t c:=by
 obtain ⟨⟨a,cap,h1,rfl⟩,af⟩:=ao;intro c aa;have own:∀ {q:Place}{gY:Nat}{cs:List ab}{v:Value},bD g q=some (.own z gY cs)->dW w T q=some v->v.ownBlock=some c->∃ t,Fs t c:=by
  intro q gY cs v bg hv aa;obtain ⟨gz,cA,ir,aZ,dy⟩:=h.part bg (by simp);rw [hv] at ir;cases ir;exact ⟨_,dy c (aZ.qF c aa)⟩
 rcases af with ⟨cs,af⟩ | ⟨aR,q,gY,m,new,cs,af,rfl,aI⟩
 ·exact own af h1 aa
 ·obtain ⟨v,hv,aZ⟩:=h.rel _ _ af;have xj:v=.slice a (gY+m) cap:=by
   simp only [dW,hv,aR,walk,Option.some.injEq] at h1;exact h1
  obtain ⟨LS,e,cf,us,news,aZ⟩:=aZ.vA;by_cases gH:LS.ownBlock=some c
  ·obtain ⟨⟨a2,rR,bK,rfl⟩,_⟩:=aZ.jV;exact own aI bK gH
  ·exact ⟨_,(aZ.aN c).2 ⟨by rw [xj]; exact aa,gH⟩⟩
theorem cG.frame (h:cG w I T g Fs) {w':World}{I':bb}{T':Array Value}{g':aM}(dL:∀ t,g t≠none->T'[t]?=T[t]?) (aN:∀ t c,Fs t c->w'.heap[c]?=w.heap[c]?)
  (bf:∀ c,I c->w'.heap[c]?=w.heap[c]?) (pw:∀ c,I c->I' c) (aO:∀ t x,g t=some x->g' t=some x) {x:ab}{v:Value}{F:bb}(aZ:R w I (dT w T g) x v F)
  (mq:∀ c,F c->w'.heap[c]?=w.heap[c]?):R w' I' (dT w' T' g') x v F :=
 aZ.frame bf pw (λ_ _ ao=>h.FM dL aN aO ao) mq
theorem cG.wV (h:cG w I T g Fs) {w':World}{I':bb}{T':Array Value}{g':aM}(dL:∀ t,g t≠none->T'[t]?=T[t]?) (aN:∀ t c,Fs t c->w'.heap[c]?=w.heap[c]?)
  (bf:∀ c,I c->w'.heap[c]?=w.heap[c]?) (pw:∀ c,I c->I' c) (aO:∀ t x,g t=some x->g' t=some x) {x:ab}{v:Value}{F:bb}(aZ:jD w I (dT w T g) x v F)
  (mq:∀ c,F c->w'.heap[c]?=w.heap[c]?):jD w' I' (dT w' T' g') x v F :=
 aZ.frame bf pw (λ_ _ ao=>h.FM dL aN aO ao) (λ_ _ _ _ ao c aa=>by obtain ⟨t,aw⟩:=h.D7 ao c aa; exact aN t c aw) mq
def cV (g:aM) (d:Nat) (x:ab):aM:=λt=>if t=d then some x else g t
def uL (Fs:Nat->bb) (d:Nat) (F:bb):Nat->bb:=λt=>if t=d then F else Fs t
theorem Qo {d:Nat}{x:ab}(aS:g d=none):∀ t y,g t=some y->cV g d x t=some y:=by
 intro t y ax;unfold cV;split
 ·rename_i h; subst h; rw [aS] at ax; cases ax
 ·exact ax
end
end Go.Own
namespace Go.Own
open Go
theorem Qt (w:World):∀ (p:List Nat) (v:Value) (k:Nat),walk w v (p++[k])=(walk w v p).bind λu=>child w u k
 | [],v,k=>by simp [walk]; cases child w v k <;> rfl
 | j::p,v,k=>by
  simp only [List.cons_append,walk];cases child w v j with
  | none=>rfl
  | some u=>exact Qt w p u k
theorem LO:∀ (p:List Nat) (x:ab) (k:Nat),x.at (p++[k])=(x.at p).bind λy=>y.kids[k]?
 | [],x,k=>by simp [ab.at]; cases x.kids[k]? <;> rfl
 | j::p,x,k=>by
  simp only [List.cons_append,ab.at];cases x.kids[j]? with
  | none=>rfl
  | some u=>exact LO p u k
theorem tA (g:aM) (p:Place) (k:Nat):bD g (p.push k)=(bD g p).bind λy=>y.kids[k]?:=by
 unfold bD Place.push;cases g p.root with
 | none=>rfl
 | some x=>simp [LO]
theorem yo (w:World) (T:Array Value) (p:Place) (k:Nat):dW w T (p.push k)=(dW w T p).bind λu=>child w u k:=by
 unfold dW Place.push;cases T[p.root]? with
 | none=>rfl
 | some x=>simp [Qt]
def gx:Nat->Place->ab->ab
 | _,p,.own z n _=>.a6 z p n
 | _,p,.obj (_::_)=>.ptr p 0
 | _,_,.obj []=>.dead
 | _,_,.bM ..=>.dead
 | _,p,.mp _=>.gB p
 | d+1,p,.agg cs=>.agg (cs.mapIdx λi x=>gx d (p.push i) x)
 | d+1,p,.bW cs=>.bW (cs.mapIdx λi x=>gx d (p.push i) x)
 | 0,_,.agg _=>.dead
 | 0,_,.bW _=>.dead
 | _,_,x=>x
def ry (t:Nat):ab->ab
 | .bM z _ n m _=>.a6 z ⟨t,[]⟩ (n+m)
 | x=>gx 2 ⟨t,[]⟩ x
def lR:Value->ab
 | .slice none 0 0=>.aK
 | .agg _=>.dead
 | .tuple _=>.dead
 | v=>.lit v
def ofConst:Value->ab
 | .agg vs=>if vs.all Value.oneCell' then .agg (vs.toList.map lR) else .dead
 | .tuple _=>.dead
 | v=>lR v
def bt (g:aM):Operand->Option ab
 | .tmp t=>(g t).map (ry t)
 | .const v=>some (ofConst v)
 | .func f=>some (.cW (.func f) [] [])
 | .global _=>none
abbrev cy:bb:=λ_=>False
section
variable {w:World}{I:bb}{T:Array Value}{g:aM}{Fs:Nat->bb}
theorem R.empty {ρ:ab->Value->Prop}{x:ab}{v:Value}{F:bb}(h:R w I ρ x v F) (aN:∀ c,¬ F c):R w I ρ x v cy:=h.y9 λc=>⟨λaa=>aN c aa,λaa=>aa.elim⟩
theorem FL:∀ (d:Nat) {p:Place}{x:ab}{v:Value}{F:bb},bD g p=some x->dW w T p=some v->R w I (dT w T g) x v F->R w I (dT w T g) (gx d p x) v cy:=by
 intro d
 induction d with
 | zero =>
  intro p x v F au hv aZ;cases aZ with
  | lit ak aN=>exact .lit ak λ_ h=>h
  | aK aN=>exact .aK λ_ h=>h
  | dead aN=>exact .dead λ_ h=>h
  | ref J ao aN=>cases x <;> simp [ab.isRef] at J <;> exact .ref rfl ao λ_ h=>h
  | mp=>exact .ref rfl ⟨⟨_,hv,rfl⟩,⟨_,au⟩⟩ λ_ h=>h
  | imp aN bf a1 bg=>exact .imp (λ_ h=>h) bf a1 bg
  | hF aN=>exact .hF λ_ h=>h
  | bm aN k9 bf aC ak h1 aa ao=>exact .bm (λ_ h=>h) k9 bf aC ak h1 aa ao
  | cI aN bf aC h1 aa ao=>exact .cI (λ_ h=>h) bf aC h1 aa ao
  | own a1 ak h1 ao aS av aN =>
   have IM:=R.own (I:=I) (ρ:=dT w T g) a1 ak h1 ao aS av aN;obtain ⟨a,cap,rfl,aF,_⟩:=IM.nk;exact .ref rfl ⟨⟨a,_,cap,hv,rfl,Nat.le_refl _⟩,.inl ⟨_,_,au,Nat.le_refl _⟩⟩ λ_ h=>h
  | @obj cs b e arr b7 _ a1 ak h1 ao aS av aN =>
   cases cs with
   | nil=>exact .dead λ_ h=>h
   | cons c cs=>exact .ref rfl ⟨⟨_,_,hv,rfl,rfl⟩,⟨_,au,0,0,_,.inr rfl,by simp⟩⟩ λ_ h=>h
  | agg=>exact .dead λ_ h=>h
  | bW=>exact .dead λ_ h=>h
  | cW aN h1 af ku iP=>exact .cW (λ_ h=>h) h1 af ku iP
 | succ d aU =>
  intro p x v F au hv aZ;cases aZ with
  | lit ak aN=>exact .lit ak λ_ h=>h
  | aK aN=>exact .aK λ_ h=>h
  | dead aN=>exact .dead λ_ h=>h
  | ref J ao aN=>cases x <;> simp [ab.isRef] at J <;> exact .ref rfl ao λ_ h=>h
  | mp=>exact .ref rfl ⟨⟨_,hv,rfl⟩,⟨_,au⟩⟩ λ_ h=>h
  | imp aN bf a1 bg=>exact .imp (λ_ h=>h) bf a1 bg
  | hF aN=>exact .hF λ_ h=>h
  | bm aN k9 bf aC ak h1 aa ao=>exact .bm (λ_ h=>h) k9 bf aC ak h1 aa ao
  | cI aN bf aC h1 aa ao=>exact .cI (λ_ h=>h) bf aC h1 aa ao
  | own a1 ak h1 ao aS av aN =>
   have IM:=R.own (I:=I) (ρ:=dT w T g) a1 ak h1 ao aS av aN;obtain ⟨a,cap,rfl,aF,_⟩:=IM.nk;exact .ref rfl ⟨⟨a,_,cap,hv,rfl,Nat.le_refl _⟩,.inl ⟨_,_,au,Nat.le_refl _⟩⟩ λ_ h=>h
  | @obj cs b e arr b7 _ a1 ak h1 ao aS av aN =>
   cases cs with
   | nil=>exact .dead λ_ h=>h
   | cons c cs=>exact .ref rfl ⟨⟨_,_,hv,rfl,rfl⟩,⟨_,au,0,0,_,.inr rfl,by simp⟩⟩ λ_ h=>h
  | @agg cs vs b7 _ ak h1 ao aS aN =>
   refine .agg (Fs:=λ_=>cy) (by simpa using ak) h1 ?_ (λ_ _ _ _ _ h=>h.elim) (λc=>⟨λh=>h.elim,λ⟨_,_,h⟩=>h⟩);intro k y u ax hu;rw [List.getElem?_mapIdx] at ax;cases hk:cs[k]? with
   | none=>rw [hk] at ax; cases ax
   | some z =>
    rw [hk] at ax;cases ax;exact aU (by rw [tA,au]; exact hk) (by rw [yo,hv]; exact hu) (ao k z u hk hu)
  | @bW cs vs b7 _ ak ao aS aN =>
   refine .bW (Fs:=λ_=>cy) (by simpa using ak) ?_ (λ_ _ _ _ _ h=>h.elim) (λc=>⟨λh=>h.elim,λ⟨_,_,h⟩=>h⟩);intro k y u ax hu;rw [List.getElem?_mapIdx] at ax;cases hk:cs[k]? with
   | none=>rw [hk] at ax; cases ax
   | some z =>
    rw [hk] at ax;cases ax;exact aU (by rw [tA,au]; exact hk) (by rw [yo,hv]; exact hu) (ao k z u hk hu)
  | cW aN h1 af ku iP=>exact .cW (λ_ h=>h) h1 af ku iP
theorem CG {ρ:ab->Value->Prop}(v:Value):R w I ρ (lR v) v cy:=by
 unfold lR;split
 ·exact .aK λ_ h=>h
 ·exact .dead λ_ h=>h
 ·exact .dead λ_ h=>h
 ·rename_i h1 af aI;refine .lit ?_ λ_ h=>h;cases v <;> first | rfl | (exact absurd rfl (af _)) | (exact absurd rfl (aI _))
theorem Xi {ρ:ab->Value->Prop}(v:Value):R w I ρ (ofConst v) v cy:=by
 unfold ofConst;split
 ·rename_i vs;split
  ·rename_i hN;refine .agg (Fs:=λ_=>cy) (by simp) (λk u hu=>?_) ?_ (λ_ _ _ _ _ h=>h.elim) (λc=>⟨λh=>h.elim,λ⟨_,_,h⟩=>h⟩)
   ·exact Array.all_eq_true_iff_forall_mem.1 hN u (Array.mem_of_getElem? hu)
   ·intro k x u J hu;simp only [List.getElem?_map,Array.getElem?_toList,hu,Option.map_some,Option.some.injEq] at J;subst J;exact CG u
  ·exact .dead λ_ h=>h
 ·exact .dead λ_ h=>h
 ·exact CG v
theorem kf (h:cG w I T g Fs) {x:Operand}{y:ab}(ax:bt g x=some y) {a:Act}(aP:a.tmps=T):R w I (dT w T g) y (a.eval x) cy:=by
 cases x with
 | tmp t =>
  simp only [bt] at ax;cases J:g t with
  | none=>rw [J] at ax; cases ax
  | some z =>
   rw [J] at ax;simp only [Option.map_some,Option.some.injEq] at ax;obtain ⟨v,hv,aZ⟩:=h.rel t z J;have tY:a.eval (.tmp t)=v:=by simp [Act.eval,aP,hv]
   rw [tY];have au:bD g ⟨t,[]⟩=some z:=by simp [bD,J,ab.at]
   have zz:dW w T ⟨t,[]⟩=some v:=by simp [dW,hv,walk]
   subst ax;cases aZ with
   | tree aZ =>
    cases z with
    | bM=>exact aZ.lj.elim
    | _=>exact FL 2 au zz aZ
   | @bM j4 n m p new v bv e cf us news _ aZ =>
    simp only [ry];have:∃ a cap,v=.slice a (n+m) cap:=by
     obtain ⟨_,af⟩:=aZ.nK;rcases af with ⟨af,aI⟩ | ⟨b,cap,cur,af,_⟩
     ·exact ⟨none,0,by rw [af]; congr 1; omega⟩
     ·exact ⟨_,cap,af⟩
    obtain ⟨b',cap,rfl⟩:=this;exact .ref rfl ⟨⟨b',_,cap,zz,rfl,Nat.le_refl _⟩,.inr ⟨rfl,p,n,m,new,J,rfl⟩⟩ λ_ h=>h
 | const v=>simp only [bt,Option.some.injEq] at ax; subst ax; exact Xi v
 | global n=>simp [bt] at ax
 | func f =>
  simp only [bt,Option.some.injEq] at ax;subst ax;exact .cW (λ_ h=>h) rfl rfl (by simp) (by simp)
end
end Go.Own
namespace Go.Own
open Go
def jq (P:Program) (t:TypeId):Bool :=
 match P.underlying t,P.info? t with
 | some (.struct _),_=>false
 | some (.array ..),_=>false
 | some _,some i=>i.size == 1
 | _,_=>false
def ij (P:Program) (t:TypeId) (k:Nat):Bool :=
 match P.underlying t,P.info? t with
 | some (.struct _),some i=>i.size == k
 | some (.array ..),some i=>i.size == k
 | _,_=>false
def fu (P:Program) (t e:TypeId) (z:Nat):Bool :=
 match P.underlying t,P.info? e with
 | some (.slice cj),some i=>cj == e&&i.size == z
 | _,_=>false
def yY (P:Program) (t e:TypeId) (n z:Nat):Bool :=
 match P.underlying t,P.info? e with
 | some (.array cF cj),some i=>cF == n&&cj == e&&i.size == z
 | _,_=>false
def o1 (P:Program) (t:TypeId):Bool :=
 match P.underlying t with
 | some .string=>true
 | _=>false
def wI (P:Program) (s d:TypeId):Bool :=
 match P.underlying s,P.underlying d with
 | some (.slice e),some .string=>match P.underlying e with
  | some (.int .u8)=>true
  | _=>false
 | _,_=>false
def hM (P:Program) (s:TypeId) (f off:Nat) (t:TypeId):Bool :=
 match P.underlying s with
 | some (.struct fs) =>
  match fs[f]? with
  | some fd=>fd.offset == off&&fd.type == t&&(match P.info? t with | some i=>i.size != 0 | none=>false)
  | none=>false
 | _=>false
section
variable {P:Program}{w:World}
theorem Hj {t:TypeId}(h:jq P t=true):(isAgg t).run P w=.ok false w/\(sizeOf t).run P w=.ok 1 w:=by
 unfold jq at h;cases hu:P.underlying t with
 | none=>simp [hu] at h
 | some d =>
  cases hi:P.info? t with
  | none=>cases d <;> simp [hu,hi] at h
  | some i=>cases d <;> simp [hu,hi] at h <;> simp [isAgg,run_underlying hu,sizeOf,typeInfo,hi,h]
theorem D2 {t:TypeId}{k:Nat}(h:ij P t k=true):(isAgg t).run P w=.ok true w/\(sizeOf t).run P w=.ok k w:=by
 unfold ij at h;cases hu:P.underlying t with
 | none=>simp [hu] at h
 | some d =>
  cases hi:P.info? t with
  | none=>cases d <;> simp [hu,hi] at h
  | some i=>cases d <;> simp [hu,hi] at h <;> simp [isAgg,run_underlying hu,sizeOf,typeInfo,hi,h]
theorem qO {t e:TypeId}{z:Nat}(h:fu P t e z=true):P.underlying t=some (.slice e)/\P.elem t=e/\(sizeOf e).run P w=.ok z w:=by
 unfold fu at h;cases hu:P.underlying t with
 | none=>simp [hu] at h
 | some d =>
  cases hi:P.info? e with
  | none=>cases d <;> simp [hu,hi] at h
  | some i =>
   cases d <;> simp [hu,hi] at h;obtain ⟨rfl,h⟩:=h;exact ⟨rfl,by simp [Program.elem,hu],by simp [sizeOf,typeInfo,hi,h]⟩
theorem LI {t e:TypeId}{n z:Nat}(h:yY P t e n z=true):P.underlying t=some (.array n e)/\(sizeOf e).run P w=.ok z w:=by
 unfold yY at h;cases hu:P.underlying t with
 | none=>simp [hu] at h
 | some d =>
  cases hi:P.info? e with
  | none=>cases d <;> simp [hu,hi] at h
  | some i =>
   cases d <;> simp [hu,hi] at h;obtain ⟨⟨rfl,rfl⟩,h⟩:=h;exact ⟨rfl,by simp [sizeOf,typeInfo,hi,h]⟩
theorem LV {s d:TypeId}(h:wI P s d=true):∃ e,P.underlying s=some (.slice e)/\P.underlying e=some (.int .u8)/\P.underlying d=some .string:=by
 unfold wI at h
 split at h
 ·rename_i e h1 af
  split at h
  ·rename_i aI;exact ⟨e,h1,aI,af⟩
  ·cases h
 ·cases h
theorem KB {t:TypeId}(h:o1 P t=true):P.underlying t=some .string:=by
 unfold o1 at h;cases hu:P.underlying t with
 | none=>simp [hu] at h
 | some d=>cases d <;> simp [hu] at h; rfl
theorem Hz {s:TypeId}{f off:Nat}{t:TypeId}(h:hM P s f off t=true):∃ fs fd,P.underlying s=some (.struct fs)/\fs[f]?=some fd/\fd.offset=off/\fd.type=t/\∃ i,P.info? t=some i/\i.size≠0:=by
 unfold hM at h;cases hu:P.underlying s with
 | none=>simp [hu] at h
 | some d =>
  cases d <;> simp [hu] at h;rename_i fs;cases aW:fs[f]? with
  | none=>simp [aW] at h
  | some fd =>
   simp [aW] at h;obtain ⟨⟨h1,af⟩,aI⟩:=h;cases hi:P.info? t with
   | none=>simp [hi] at aI
   | some i=>simp [hi] at aI; exact ⟨fs,fd,rfl,aW,h1,af,i,rfl,aI⟩
theorem add_eq (b o k:Nat):(⟨b,o,none⟩:Addr).add k=⟨b,o+k,none⟩:=by
 unfold Addr.add;split
 ·rename_i h; subst h; rfl
 ·rfl
theorem PG {s:TypeId}{f off:Nat}{t:TypeId}(h:hM P s f off t=true) (b o:Nat):(Instr.fieldAt s (.pointer (some ⟨b,o,none⟩)) f).run P w=.ok (.pointer (some ⟨b,o+off,none⟩)) w:=by
 obtain ⟨fs,fd,hu,aW,rfl,rfl,i,hi,aR⟩:=Hz h;simp [Instr.fieldAt,run_underlying hu,aW,Instr.sureAddr,fieldPlace,sizeOf,typeInfo,hi,aR,add_eq]
theorem PI {t:TypeId}(h:jq P t=true) {a:Addr}{v:Value}(aa:w.cell? a=some v):(Instr.loadAt t (.pointer (some a))).run P w=.ok v w:=by
 obtain ⟨h1,af⟩:=Hj (w:=w) h;simp [Instr.loadAt,Instr.sureAddr,loadVar,h1,aa]
theorem PH {t:TypeId}{k:Nat}(h:ij P t k=true) {b o:Nat}{vs:List Value}(ak:vs.length=k) (aa:∀ j v,vs[j]?=some v->w.cell? ⟨b,o+j,none⟩=some v) :
  (Instr.loadAt t (.pointer (some ⟨b,o,none⟩))).run P w=.ok (.agg vs.toArray) w:=by
 obtain ⟨h1,af⟩:=D2 (w:=w) h;have:=run_loadCells_list (P:=P) w ⟨b,o,none⟩ vs (λj v ah=>by rw [add_eq]; exact aa j v ah);rw [ak] at this;simp [Instr.loadAt,Instr.sureAddr,loadVar,h1,af,this]
end
end Go.Own
namespace Go.Own
open Go
section
variable {w:World}{I:bb}{ρ:ab->Value->Prop}{v:Value}{F:bb}
theorem R.hA {a:Value}(h:R w I ρ (.lit a) v F):v=a/\a.oneCell'=true:=by
 cases h with
 | lit hv=>exact ⟨rfl,hv⟩
 | ref J=>simp [ab.isRef] at J
theorem R.sg (h:R w I ρ .aK v F):v=.slice none 0 0:=by
 cases h with
 | aK=>rfl
 | ref J=>simp [ab.isRef] at J
theorem R.nQ {p:Place}{k:Nat}(h:R w I ρ (.ptr p k) v F):ρ (.ptr p k) v:=by
 cases h with
 | ref J h=>exact h
theorem R.nc {z:Nat}{p:Place}{n:Nat}(h:R w I ρ (.a6 z p n) v F):ρ (.a6 z p n) v:=by
 cases h with
 | ref J h=>exact h
theorem R.xv {z:Nat}{p:Place}{lo n:Nat}(h:R w I ρ (.sub z p lo n) v F):ρ (.sub z p lo n) v:=by
 cases h with
 | ref J h=>exact h
theorem R.zG {z n:Nat}{cs:List ab}(h:R w I ρ (.bm z n cs) v F):∃ a cap,v=.slice a n cap/\n<=cap/\cs.length=n * z /\
  (cs≠[]\/0<n->∃ (ad:Addr) (us:Nat->Value),a=some ad/\I ad.block/\ad.spot=none/\(∀ (k:Nat) (x:ab),cs[k]?=some x->(us k).oneCell'=true)/\(∀ (k:Nat) (x:ab),cs[k]?=some x->w.cell? ⟨ad.block,ad.off+k,none⟩=some (us k))/\∀ (k:Nat) (x:ab),cs[k]?=some x->R w I ρ x (us k) cy):=by
 cases h with
 | @hF _ cap a=>exact ⟨a,cap,rfl,Nat.zero_le _,by simp,λh=>by simp at h⟩
 | @bm _ _ cap _ ad us _ aN k9 bf aC ak h1 aa ao=>exact ⟨_,cap,rfl,k9,ak,λ_=>⟨ad,us,rfl,bf,aC,h1,aa,ao⟩⟩
 | ref J=>simp [ab.isRef] at J
theorem R.xu {cs:List ab}(h:R w I ρ (.cI cs) v F):∃ (ad:Addr) (us:Nat->Value),v=.pointer (some ad)/\I ad.block/\ad.spot=none/\(∀ (k:Nat) (x:ab),cs[k]?=some x->(us k).oneCell'=true)/\(∀ (k:Nat) (x:ab),cs[k]?=some x->w.cell? ⟨ad.block,ad.off+k,none⟩=some (us k))/\∀ (k:Nat) (x:ab),cs[k]?=some x->R w I ρ x (us k) cy:=by
 cases h with
 | @cI _ ad us _ aN bf aC h1 aa ao=>exact ⟨ad,us,rfl,bf,aC,h1,aa,ao⟩
 | ref J=>simp [ab.isRef] at J
theorem R.Ci {cs:List ab}(h:R w I ρ (.agg cs) v F) (aN:∀ c,¬ F c):∃ vs:Array Value,v=.agg vs/\cs.length=vs.size/\(∀ (k:Nat) (u:Value),vs[k]?=some u->u.oneCell'=true)/\∀ (k:Nat) (x:ab) (u:Value),cs[k]?=some x->vs[k]?=some u->R w I ρ x u cy:=by
 cases h with
 | @agg _ vs Fs _ ak h1 ao aS pq=>exact ⟨vs,rfl,ak,h1,λk x u J hu=>(ao k x u J hu).empty λc aa=>aN c ((pq c).2 ⟨k,(List.getElem?_eq_some_iff.1 J).1,aa⟩)⟩
 | ref J=>simp [ab.isRef] at J
theorem R.WW {cs:List ab}(h:R w I ρ (.bW cs) v F) (aN:∀ c,¬ F c):∃ vs:Array Value,v=.tuple vs/\cs.length=vs.size/\∀ (k:Nat) (x:ab) (u:Value),cs[k]?=some x->vs[k]?=some u->R w I ρ x u cy:=by
 cases h with
 | @bW _ vs Fs _ ak ao aS pq=>exact ⟨vs,rfl,ak,λk x u J hu=>(ao k x u J hu).empty λc aa=>aN c ((pq c).2 ⟨k,(List.getElem?_eq_some_iff.1 J).1,aa⟩)⟩
 | ref J=>simp [ab.isRef] at J
theorem R.node {y:ab}{z n:Nat}{cs:List ab}(h:R w I ρ y v F) (ax:y=.own z n cs\/y=.obj cs) {k:Nat}{x:ab}(hk:cs[k]?=some x) :
  ∃ b u,addrOf v=some ⟨b,0,none⟩/\w.cell? ⟨b,k,none⟩=some u/\child w v k=some u/\u.oneCell'=true/\∃ bL,R w I ρ x u bL:=by
 rcases ax with rfl | rfl
 ·cases h with
  | @own _ _ _ _ e us Fs _ a1 ak h1 ao aS av aN =>
   have aT:k<cs.length:=(List.getElem?_eq_some_iff.1 hk).1;have hu:us[k]?=some us[k]:=List.getElem?_eq_getElem (ak ▸ aT);have oa:=pS a1 hu;obtain ⟨l_,af⟩:=a1;rcases af with ⟨rfl,rfl⟩ | ⟨b,cap,cur,rfl,aO,bY,rest⟩
   ·grind
   ·exact ⟨b,_,rfl,by simpa [child] using oa,oa,h1 k _ hu,Fs k,ao k x _ hk hu⟩
  | ref J=>simp [ab.isRef] at J
 ·cases h with
  | @obj _ b e arr Fs _ a1 ak h1 ao aS av aN =>
   have aT:k<cs.length:=(List.getElem?_eq_some_iff.1 hk).1;have hu:arr[k]?=some arr[k]:=Array.getElem?_eq_getElem (ak ▸ aT);exact ⟨b,_,rfl,by simp [World.cell?,a1,hu],by simp [child,World.cell?,a1,hu],h1 k _ hu,Fs k,ao k x _ hk hu⟩
  | ref J=>simp [ab.isRef] at J
end
def p5 (g:aM) (d:Nat):Option Operand->Nat->Prop
 | none,j=>j=d
 | some o,j=>∃ k,bt g o=some (.lit (.int k (j:Int)))
inductive c8 (P:Program) (g:aM):Op->TypeId->ab->Prop
 | move {x:Operand}{ty:TypeId}{y:ab}(J:bt g x=some y):c8 P g (.move x) ty y
 | assign {x:Operand}{ty:TypeId}{y:ab}(J:bt g x=some y):c8 P g (.assign x) ty y
 | pick {c a b:Operand}{ty:TypeId}{t:Bool}{r:ab}(aa:bt g c=some (.lit (.bool t))) (ao:bt g (if t then a else b)=some r):c8 P g (.pick c a b) ty r
 | Fk {x:Operand}{ty:TypeId}{p:Place}{k:Nat}(J:bt g x=some (.ptr p k)):c8 P g (.nilCheck x) ty (.ptr p k)
 | qE {x:Operand}{ty:TypeId}{cs:List ab}(J:bt g x=some (.cI cs)):c8 P g (.nilCheck x) ty (.cI cs)
 | Bo {x:Operand}{ty s t:TypeId}{f off:Nat}{p:Place}{k:Nat}(J:bt g x=some (.ptr p k)) (aW:hM P s f off t=true) (dd:gE g (.ptr p (k+off))):c8 P g (.fieldAddr s x f) ty (.ptr p (k+off))
 | El {x:Operand}{ty s t:TypeId}{f off:Nat}{cs:List ab}(J:bt g x=some (.cI cs)) (aW:hM P s f off t=true):c8 P g (.fieldAddr s x f) ty (.cI (cs.drop off))
 | Ek {x:Operand}{ty s t:TypeId}{f off:Nat}{cs:List ab}{y:ab}(J:bt g x=some (.agg cs)) (aW:hM P s f off t=true) (aw:jq P t=true) (ax:cs[off]?=some y):c8 P g (.field s x f) ty y
 | Hx {x:Operand}{ty s t:TypeId}{f off k:Nat}{cs:List ab}(J:bt g x=some (.agg cs)) (aW:hM P s f off t=true) (aw:ij P t k=true) (hk:off+k<=cs.length):c8 P g (.field s x f) ty (.agg ((cs.drop off).take k))
 | EZ {x i:Operand}{ty t e:TypeId}{z n:Nat}{cs:List ab}{nS:IntKind}{j:Nat}(J:bt g x=some (.bm z n cs)) (hi:bt g i=some (.lit (.int nS (j:Int)))) (aw:fu P t e z=true) (ah:j<n):c8 P g (.indexAddr t x i) ty (.cI (cs.drop (j * z)))
 | EY {x i:Operand}{ty t e:TypeId}{z n:Nat}{p:Place}{nS:IntKind}{j:Nat}(J:bt g x=some (.a6 z p n)) (hi:bt g i=some (.lit (.int nS (j:Int)))) (aw:fu P t e z=true) (ah:j<n) (dd:gE g (.ptr p (j * z))):c8 P g (.indexAddr t x i) ty (.ptr p (j * z))
 | Jk {x i:Operand}{ty t e:TypeId}{z lo n:Nat}{p:Place}{nS:IntKind}{j:Nat}(J:bt g x=some (.sub z p lo n)) (hi:bt g i=some (.lit (.int nS (j:Int)))) (aw:fu P t e z=true) (ah:j<n) (dd:gE g (.ptr p ((lo+j) * z))):c8 P g (.indexAddr t x i) ty (.ptr p ((lo+j) * z))
 | EX {x i:Operand}{ty t e:TypeId}{n z k:Nat}{p:Place}{nS:IntKind}{j:Nat}(J:bt g x=some (.ptr p k)) (hi:bt g i=some (.lit (.int nS (j:Int)))) (aw:yY P t e n z=true) (ah:j<n) (dd:gE g (.ptr p (k+j * z))):c8 P g (.indexAddr t x i) ty (.ptr p (k+j * z))
 | Jj {x i:Operand}{ty t e:TypeId}{n z:Nat}{cs:List ab}{nS:IntKind}{j:Nat}(J:bt g x=some (.cI cs)) (hi:bt g i=some (.lit (.int nS (j:Int)))) (aw:yY P t e n z=true) (ah:j<n):c8 P g (.indexAddr t x i) ty (.cI (cs.drop (j * z)))
 | Fb {x:Operand}{ty t:TypeId}{c:ab}{cs:List ab}(J:bt g x=some (.cI (c::cs))) (aw:jq P t=true):c8 P g (.load t x) ty c
 | Fc {x:Operand}{ty t:TypeId}{k:Nat}{cs:List ab}(J:bt g x=some (.cI cs)) (aw:ij P t k=true) (hk:k<=cs.length):c8 P g (.load t x) ty (.agg (cs.take k))
 | Cw {x:Operand}{ty t:TypeId}{p:Place}{k:Nat}{y:ab}(J:bt g x=some (.ptr p k)) (aw:jq P t=true) (ax:bD g (p.push k)=some y):c8 P g (.load t x) ty (gx 0 (p.push k) y)
 | xG {x:Operand}{ty t:TypeId}{p:Place}{k m z n:Nat}{y:ab}{cs:List ab}(J:bt g x=some (.ptr p k)) (aw:ij P t m=true) (ax:bD g p=some y) (aa:y=.own z n cs\/y=.obj cs) (hm:k+m<=cs.length):c8 P g (.load t x) ty (.agg (((cs.drop k).take m).mapIdx λi x=>gx 0 (p.push (k+i)) x))
 | E0 {x i:Operand}{ty t:TypeId}{s:ByteArray}{nS:IntKind}{j:Nat}{b:UInt8}(J:bt g x=some (.lit (.string s))) (hi:bt g i=some (.lit (.int nS (j:Int)))) (aw:o1 P t=true) (av:s[j]?=some b):c8 P g (.index t x i) ty (.lit (.int .u8 b.toNat))
 | bin {op:BinOp}{x y:Operand}{ty t t2:TypeId}{a b v:Value}(J:bt g x=some (.lit a)) (ax:bt g y=some (.lit b)) (hv:v.oneCell'=true) (ao:∀ w,(do eqGuard op t x y a b; binOp op t a b:Sem Value).run P w=.ok v w):c8 P g (.binOp op t x y t2) ty (.lit v)
 | A8 {op:BinOp}{x y:Operand}{ty t t2:TypeId}{az dc:List Value}{v:Value}(J:bt g x=some (.agg (az.map .lit))) (ax:bt g y=some (.agg (dc.map .lit))) (hv:v.oneCell'=true) (ao:∀ w,(do eqGuard op t x y (.agg az.toArray) (.agg dc.toArray); binOp op t (.agg az.toArray) (.agg dc.toArray):Sem Value).run P w=.ok v w):c8 P g (.binOp op t x y t2) ty (.lit v)
 | un {op:UnOp}{x:Operand}{ty t:TypeId}{a v:Value}(J:bt g x=some (.lit a)) (hv:v.oneCell'=true) (ao:∀ w,(Op.unary op a).run P w=.ok v w):c8 P g (.unOp op t x) ty (.lit v)
 | conv {x:Operand}{ty s d:TypeId}{a v:Value}(J:bt g x=some (.lit a)) (hv:v.oneCell'=true) (ao:∀ w,(convert s d a).run P w=.ok v w):c8 P g (.convert s d x) ty (.lit v)
 | Eb {x:Operand}{ty s d:TypeId}{n N:Nat}{p:Place}{cs:List ab}{xs:List Int}(J:bt g x=some (.a6 1 p n)) (au:bD g p=some (.own 1 N cs)) (aF:n<=N) (hE:cs.take n=xs.map λb=>.lit (.int .u8 b)) (aw:wI P s d=true):c8 P g (.convert s d x) ty (.lit (.string (strOfNums xs)))
 | Ec {x:Operand}{ty s d:TypeId}{n:Nat}{xs:List Int}(J:bt g x=some (.bm 1 n (xs.map λb=>.lit (.int .u8 b)))) (aw:wI P s d=true):c8 P g (.convert s d x) ty (.lit (.string (strOfNums xs)))
 | Hu {xs:Array Operand}{gq:Array TypeId}{ty:TypeId}{f:FuncId}{vs:List Value}{v:Value}(J:xs.toList.map (bt g)=vs.map λv=>some (.lit v)) (hv:v.oneCell'=true)
   (ao:∀ w,(callFunc f vs.toArray).run P w=.ok (.value v) w):c8 P g (.call { callee:=.value (.func f),args:=xs,argTypes:=gq }) ty (.lit v)
 | Eh {x:Operand}{ty:TypeId}{i:Nat}{cs:List ab}{y:ab}(J:bt g x=some (.bW cs)) (ax:cs[i]?=some y):c8 P g (.extract x i) ty y
 | AA {x:Operand}{lo hi:Option Operand}{ty t e:TypeId}{z n l h:Nat}{cs:List ab}(J:bt g x=some (.bm z n cs)) (ak:p5 g 0 lo l) (bY:p5 g n hi h) (aw:fu P t e z=true) (sO:l<=h) (aF:h<=n):c8 P g (.slice t x lo hi none) ty (.bm z (h - l) ((cs.drop (l * z)).take ((h - l) * z)))
 | Ky {x:Operand}{lo hi:Option Operand}{ty t e:TypeId}{z n h:Nat}{p:Place}(J:bt g x=some (.a6 z p n)) (ak:p5 g 0 lo 0) (bY:p5 g n hi h) (aw:fu P t e z=true) (aF:h<=n) (dd:gE g (.a6 z p h)):c8 P g (.slice t x lo hi none) ty (.a6 z p h)
 | F4 {x:Operand}{lo hi:Option Operand}{ty t e:TypeId}{z n l h:Nat}{p:Place}(J:bt g x=some (.a6 z p n)) (ak:p5 g 0 lo l) (bY:p5 g n hi h) (aw:fu P t e z=true) (sO:l<=h) (aF:h<=n) (dd:gE g (.sub z p l (h - l))):c8 P g (.slice t x lo hi none) ty (.sub z p l (h - l))
 | AB {x:Operand}{lo hi:Option Operand}{ty t:TypeId}{l h:Nat}{s:ByteArray}(J:bt g x=some (.lit (.string s))) (ak:p5 g 0 lo l) (bY:p5 g s.size hi h) (aw:o1 P t=true) (sO:l<=h) (aF:h<=s.size):c8 P g (.slice t x lo hi none) ty (.lit (.string (s.extract l h)))
 | Ct {x:Operand}{ty t e:TypeId}{z bE n:Nat}{cs:List ab}(J:bt g x=some (.bm z n cs)) (aw:fu P t e bE=true):c8 P g (.call { callee:=.builtin .len,args:=#[x],argTypes:=#[t] }) ty (.lit (.int .i64 n))
 | Cs {x:Operand}{ty t e:TypeId}{z bE n:Nat}{p:Place}(J:bt g x=some (.a6 z p n)) (aw:fu P t e bE=true):c8 P g (.call { callee:=.builtin .len,args:=#[x],argTypes:=#[t] }) ty (.lit (.int .i64 n))
 | JF {x:Operand}{ty t e:TypeId}{z bE lo n:Nat}{p:Place}(J:bt g x=some (.sub z p lo n)) (aw:fu P t e bE=true):c8 P g (.call { callee:=.builtin .len,args:=#[x],argTypes:=#[t] }) ty (.lit (.int .i64 n))
 | JE {x:Operand}{ty t e:TypeId}{bE:Nat}(J:bt g x=some .aK) (aw:fu P t e bE=true):c8 P g (.call { callee:=.builtin .len,args:=#[x],argTypes:=#[t] }) ty (.lit (.int .i64 0))
 | lits {b:Builtin}{xs:Array Operand}{gq:Array TypeId}{ty:TypeId}{vs:List Value}{v:Value}(J:xs.toList.map (bt g)=vs.map λv=>some (.lit v)) (hv:v.oneCell'=true)
   (ao:∀ w (cs:Array Bool),(builtin b gq ty cs vs.toArray).run P w=.ok (.value v) w):c8 P g (.call { callee:=.builtin b,args:=xs,argTypes:=gq }) ty (.lit v)
 | Fa {x y:Operand}{ty t:TypeId}{p:Place}{q:Array MapEntry->Nat->Prop}{ok:Bool}{Y X:ab}{ot V:Value}(J:bt g x=some (.gB p)) (au:bD g p=some (.mp q)) (ax:bt g y=some Y)
   (dj:∀ (w:World) (I:bb) (ρ:ab->Value->Prop) (v:Value),R w I ρ Y v cy->v=ot) (aZ:∀ (w:World) (I:bb) (ρ:ab->Value->Prop),R w I ρ X V cy)
   (ao:∀ (w:World) (b:Nat) (es:Array MapEntry) (clock:Nat),w.heap[b]?=some (.map es clock)->q es clock->(Instr.lookup t (.map (some b)) ot ok).run P w=.ok V w):c8 P g (.lookup t x y ok) ty X
 | Cv {x y:Operand}{ty t:TypeId}{q:Array MapEntry->Nat->Prop}{ok:Bool}{Y X:ab}{ot V:Value}(J:bt g x=some (.imp q)) (ax:bt g y=some Y)
   (dj:∀ (w:World) (I:bb) (ρ:ab->Value->Prop) (v:Value),R w I ρ Y v cy->v=ot) (aZ:∀ (w:World) (I:bb) (ρ:ab->Value->Prop),R w I ρ X V cy)
   (ao:∀ (w:World) (b:Nat) (es:Array MapEntry) (clock:Nat),w.heap[b]?=some (.map es clock)->q es clock->(Instr.lookup t (.map (some b)) ot ok).run P w=.ok V w):c8 P g (.lookup t x y ok) ty X
theorem R.Ow {w:World}{I:bb}{ρ:ab->Value->Prop}{p:Place}{v:Value}{F:bb}(h:R w I ρ (.gB p) v F):ρ (.gB p) v:=by
 cases h with
 | ref _ h _=>exact h
theorem R.Jn {w:World}{I:bb}{ρ:ab->Value->Prop}{q:Array MapEntry->Nat->Prop}{v:Value}{F:bb}(h:R w I ρ (.mp q) v F):∃ b es clock,v=.map (some b)/\w.heap[b]?=some (.map es clock)/\q es clock/\∀ c,F c↔c=b:=by
 cases h with
 | ref J=>simp [ab.isRef] at J
 | mp a1 bg aN=>exact ⟨_,_,_,rfl,a1,bg,aN⟩
theorem R.WV {w:World}{I:bb}{ρ:ab->Value->Prop}{q:Array MapEntry->Nat->Prop}{v:Value}{F:bb}(h:R w I ρ (.imp q) v F):∃ b es clock,v=.map (some b)/\w.heap[b]?=some (.map es clock)/\q es clock:=by
 cases h with
 | ref J=>simp [ab.isRef] at J
 | imp _ _ a1 bg=>exact ⟨_,_,_,rfl,a1,bg⟩
end Go.Own
namespace Go.Own
open Go
section
variable {P:Program}{w:World}{I:bb}{T:Array Value}{g:aM}{Fs:Nat->bb}
theorem p5.sound (h:cG w I T g Fs) {d:Nat}{x:Option Operand}{j:Nat}(av:p5 g d x j) {a:Act}(aP:a.tmps=T):(x.map a.eval=none/\j=d)\/∃ k,x.map a.eval=some (.int k (j:Int)):=by
 cases x with
 | none=>exact .inl ⟨rfl,av⟩
 | some o =>
  obtain ⟨k,hk⟩:=av;exact .inr ⟨k,by rw [Option.map_some,(kf h hk aP).hA.1]⟩
theorem FQ {len cap l h:Nat}{lo hi:Option Value}(ak:(lo=none/\l=0)\/∃ k,lo=some (.int k (l:Int))) (bY:(hi=none/\h=len)\/∃ k,hi=some (.int k (h:Int))) (b:Bool) (sO:l<=h) (aa:h<=cap) :
  (Instr.sliceBounds b len cap lo hi none).run P w=.ok (l,h,cap) w:=by
 rcases ak with ⟨rfl,rfl⟩ | ⟨k,rfl⟩ <;> rcases bY with ⟨rfl,rfl⟩ | ⟨kT,rfl⟩ <;> simp [Instr.sliceBounds,Instr.sliceBound,asIntOf,sO,aa]
theorem OI (h:cG w I T g Fs) {a:Act}(aP:a.tmps=T):∀ (xs:List Operand) (vs:List Value),xs.map (bt g)=vs.map (λv=>some (.lit v))->xs.map a.eval=vs
 | [],[],_=>rfl
 | [],_::_,h=>by simp at h
 | _::_,[],h=>by simp at h
 | x::xs,v::vs,J=>by
  simp only [List.map_cons,List.cons.injEq] at J;rw [List.map_cons,(kf h J.1 aP).hA.1,OI h aP xs vs J.2]
theorem Lu {w:World}{I:bb}{ρ:ab->Value->Prop}{v:Value}{az:List Value}
  (h:∃ vs:Array Value,v=.agg vs/\(az.map ab.lit).length=vs.size/\(∀ (k:Nat) (u:Value),vs[k]?=some u->u.oneCell'=true)/\∀ (k:Nat) (x:ab) (u:Value),(az.map ab.lit)[k]?=some x->vs[k]?=some u->R w I ρ x u cy):v=.agg az.toArray:=by
 obtain ⟨vs,rfl,ak,-,ao⟩:=h;congr 1;apply Array.ext (by simpa using ak.symm);intro i h1 af;have aI:i<az.length:=by simpa using af
 have:=(ao i (.lit az[i]) vs[i] (by simp [aI]) (Array.getElem?_eq_getElem h1)).hA.1
 grind
theorem c8.sound (h:cG w I T g Fs) {a:Act}(aP:a.tmps=T) {o:Oper}{kE:ab}(au:c8 P g o.op o.type kE) :
  ∃ v,(execOp a.eval o).run P w=.ok (.value v) w/\R w I (dT w T g) kE v cy:=by
 obtain ⟨dst,op,ty,pos,after,guard⟩:=o;simp only at au;have f':∀ {x:Operand}{y:ab},bt g x=some y->R w I (dT w T g) y (a.eval x) cy:=λax=>kf h ax aP;have no:∀ c,¬ cy c:=λ_ h=>h;cases au with
 | move J=>exact ⟨_,by simp [execOp],f' J⟩
 | assign J=>exact ⟨_,by simp [execOp],f' J⟩
 | @pick c x y _ t r aa ao =>
  have ve:=(f' aa).hA.1;refine ⟨_,?_,f' ao⟩;simp [execOp,ve,asBool]
  grind
 | @Fk x _ p k J =>
  have ao:=f' J;obtain ⟨⟨u,ad,h1,af,aI⟩,bK⟩:=ao.nQ
  simp_all [execOp]
 | @qE x _ cs J =>
  have ao:=f' J;obtain ⟨ad,us,aI,_⟩:=ao.xu
  simp_all [execOp]
 | @Bo x _ s t f off p k J aW dd =>
  obtain ⟨⟨u,ad,h1,af,aI⟩,bK⟩:=(f' J).nQ;refine ⟨.pointer (some ⟨ad.block,ad.off+k+off,none⟩),by simp [execOp,aI,PG aW],.ref rfl ⟨⟨u,ad,h1,af,by rw [Nat.add_assoc]⟩,dd⟩ no⟩
 | @El x _ s t f off cs J aW =>
  obtain ⟨ad,us,aI,bf,aC,hp,aa,ao⟩:=(f' J).xu;obtain ⟨b,o,sp⟩:=ad;simp only at aC;subst aC;refine ⟨.pointer (some ⟨b,o+off,none⟩),by simp [execOp,aI,PG aW],.cI (us:=λk=>us (off+k)) no bf rfl (λk x hk=>hp _ x (by rwa [List.getElem?_drop] at hk)) (λk x hk=>?_) λk x hk=>?_⟩
  ·grind
  grind
 | @Ek x _ s t f off cs y J aW aw ax =>
  obtain ⟨vs,aI,ak,hp,ao⟩:=(f' J).Ci no;obtain ⟨fs,fd,hu,Io,rfl,rfl,i,hi,aR⟩:=Hz aW;have hk:fd.offset<cs.length:=(List.getElem?_eq_some_iff.1 ax).1;have hv:vs[fd.offset]?=some vs[fd.offset]:=Array.getElem?_eq_getElem (ak ▸ hk);refine ⟨_,?_,ao _ kE _ ax hv⟩;simp [execOp,aI,Instr.field,run_underlying hu,Io,asAgg,part,(Hj (w:=w) aw).1,hv]
 | @Hx x _ s t f off k cs J aW aw hk =>
  obtain ⟨vs,aI,ak,hp,ao⟩:=(f' J).Ci no;obtain ⟨fs,fd,hu,Io,rfl,rfl,i,hi,aR⟩:=Hz aW;refine ⟨.agg (vs.extract fd.offset (fd.offset+k)),?_,.agg (Fs:=λ_=>cy) (by simp [ak]; omega) (λj u jP=>by
   rw [Array.getElem?_extract] at jP
   grind) (λj y u ax jP=>?_) (λ_ _ _ _ _ h=>h.elim) (λc=>⟨λh=>h.elim,λ⟨_,_,h⟩=>h⟩)⟩
  ·simp [execOp,aI,Instr.field,run_underlying hu,Io,asAgg,part,(D2 (w:=w) aw).1,(D2 (w:=w) aw).2]
  grind
 | @EZ x i _ t e z n cs nS j J hi aw ah =>
  obtain ⟨hu,he,aY⟩:=qO (w:=w) aw;obtain ⟨lB,cap,aI,_,ak,hm⟩:=(f' J).zG;obtain ⟨ad,us,rfl,bf,aC,hp,aa,ao⟩:=hm (.inr (by omega));obtain ⟨b,o,sp⟩:=ad;simp only at aC;subst aC;have sN:=(f' hi).hA.1;refine ⟨.pointer (some ⟨b,o+j * z,none⟩),?_,.cI (us:=λk=>us (j * z+k)) no bf rfl (λk x hk=>hp _ x (by rwa [List.getElem?_drop] at hk)) (λk x hk=>?_) λk x hk=>?_⟩
  ·simp [execOp,aI,sN,Instr.indexAt,run_underlying hu,asIntOf,ah,aY,add_eq]
  ·grind
  grind
 | @EY x i _ t e z n p nS j J hi aw ah dd =>
  obtain ⟨hu,he,aY⟩:=qO (w:=w) aw;obtain ⟨⟨lB,N,cap,h1,af,aI⟩,bK⟩:=(f' J).nc;have sN:=(f' hi).hA.1;obtain ⟨y,ax,j4,dz,cs,eN,aT⟩:=dd;obtain ⟨v,cA,hv,dI,_⟩:=h.part ax (by rcases eN with rfl | rfl <;> simp);rw [h1] at hv;cases hv;obtain ⟨b,u,fP,l6,_,_⟩:=dI.node eN (List.getElem?_eq_getElem aT);cases lB with
  | none=>simp [addrOf] at fP
  | some ad =>
   simp only [addrOf,Option.some.injEq] at fP;subst fP;refine ⟨.pointer (some ⟨b,j * z,none⟩),?_,.ref rfl ⟨⟨_,_,h1,rfl,by simp⟩,y,ax,j4,dz,cs,eN,aT⟩ no⟩;simp [execOp,af,sN,Instr.indexAt,run_underlying hu,asIntOf,ah,aY,add_eq]
 | @Jk x i _ t e z lo n p nS j J hi aw ah dd =>
  obtain ⟨hu,he,aY⟩:=qO (w:=w) aw;obtain ⟨⟨lB,N,cap,b',mP,h1,af,_,aI,cH⟩,bK⟩:=(f' J).xv;obtain ⟨ad,rfl,rfl⟩:=cH (by omega);have sN:=(f' hi).hA.1;obtain ⟨y,ax,j4,dz,cs,eN,aT⟩:=dd;obtain ⟨v,cA,hv,dI,_⟩:=h.part ax (by rcases eN with rfl | rfl <;> simp);rw [h1] at hv;cases hv;obtain ⟨b,u,fP,l6,_,_⟩:=dI.node eN (List.getElem?_eq_getElem aT);simp only [addrOf,Option.some.injEq] at fP;subst fP;refine ⟨.pointer (some ⟨b,(lo+j) * z,none⟩),?_,.ref rfl ⟨⟨_,_,h1,rfl,by simp⟩,y,ax,j4,dz,cs,eN,aT⟩ no⟩;simp [execOp,af,sN,Instr.indexAt,run_underlying hu,asIntOf,ah,aY,add_eq,Nat.add_mul]
 | @EX x i _ t e n z k p nS j J hi aw ah dd =>
  obtain ⟨hu,aY⟩:=LI (w:=w) aw;obtain ⟨⟨u,ad,h1,af,aI⟩,bK⟩:=(f' J).nQ;have sN:=(f' hi).hA.1;refine ⟨.pointer (some ⟨ad.block,ad.off+k+j * z,none⟩),?_,.ref rfl ⟨⟨u,ad,h1,af,by rw [Nat.add_assoc]⟩,dd⟩ no⟩;simp [execOp,aI,sN,Instr.indexAt,run_underlying hu,Instr.sureAddr,asIntOf,ah,aY,add_eq]
 | @Jj x i _ t e n z cs nS j J hi aw ah =>
  obtain ⟨hu,aY⟩:=LI (w:=w) aw;obtain ⟨ad,us,aI,bf,aC,hp,aa,ao⟩:=(f' J).xu;obtain ⟨b,o,sp⟩:=ad;simp only at aC;subst aC;have sN:=(f' hi).hA.1;refine ⟨.pointer (some ⟨b,o+j * z,none⟩),?_,.cI (us:=λk=>us (j * z+k)) no bf rfl (λk x hk=>hp _ x (by rwa [List.getElem?_drop] at hk)) (λk x hk=>?_) λk x hk=>?_⟩
  ·simp [execOp,aI,sN,Instr.indexAt,run_underlying hu,Instr.sureAddr,asIntOf,ah,aY,add_eq]
  ·grind
  grind
 | @Fb x _ t c cs J aw =>
  obtain ⟨ad,us,aI,bf,aC,hp,aa,ao⟩:=(f' J).xu;obtain ⟨b,o,sp⟩:=ad;simp only at aC;subst aC;have aR:w.cell? ⟨b,o,none⟩=some (us 0):=by simpa using aa 0 kE rfl
  simp_all [execOp,PI]
 | @Fc x _ t k cs J aw hk =>
  obtain ⟨ad,us,aI,bf,aC,hp,aa,ao⟩:=(f' J).xu;obtain ⟨b,o,sp⟩:=ad;simp only at aC;subst aC;have Vv:∀ j v,((List.range k).map us)[j]?=some v->w.cell? ⟨b,o+j,none⟩=some v:=by
   grind
  refine ⟨.agg ((List.range k).map us).toArray,by simp [execOp,aI,PH aw (by simp) Vv],.agg (Fs:=λ_=>cy) (by simp; omega) (λj u jP=>by
   grind) (λj y u ax jP=>?_) (λ_ _ _ _ _ h=>h.elim) (λc=>⟨λh=>h.elim,λ⟨_,_,h⟩=>h⟩)⟩
  grind
 | @Cw x _ t p k y J aw ax =>
  obtain ⟨⟨u,ad,h1,af,aI⟩,bK⟩:=(f' J).nQ;rw [tA] at ax;cases aF:bD g p with
  | none=>rw [aF] at ax; cases ax
  | some nd =>
   rw [aF] at ax;simp only [Option.bind_some] at ax;obtain ⟨y',oU,j4,dz,cs,eN,aT⟩:=bK;rw [aF] at oU;cases oU;obtain ⟨v,cA,hv,dI,dy⟩:=h.part aF (by rcases eN with rfl | rfl <;> simp);rw [h1] at hv;cases hv;have h9:cs[k]?=some y:=by rcases eN with rfl | rfl <;> simpa [ab.kids] using ax
   obtain ⟨b,gZ,fP,l6,oa,hp,bL,kM⟩:=dI.node eN h9;rw [fP] at af;cases af;refine ⟨gZ,by simp only [execOp,aI]; simp [PI aw l6],FL 0 (by rw [tA,aF]; exact ax) (by rw [yo,h1]; exact oa) kM⟩
 | @xG x _ t p k m z n y cs J aw ax eN hm =>
  obtain ⟨⟨u,ad,h1,af,aI⟩,bK⟩:=(f' J).nQ;obtain ⟨v,cA,hv,dI,dy⟩:=h.part ax (by rcases eN with rfl | rfl <;> simp);rw [h1] at hv;cases hv;have vc:∃ b,ad=⟨b,0,none⟩:=by
   obtain ⟨y',oU,j4,dz,cs',Om,aT⟩:=bK;rw [ax] at oU;cases oU;have:cs'=cs:=by rcases eN with rfl | rfl <;> rcases Om with bY | bY <;> cases bY <;> rfl
   subst this;obtain ⟨b,gZ,fP,_⟩:=dI.node Om (List.getElem?_eq_getElem aT)
   grind
  obtain ⟨b,rfl⟩:=vc;have Iz:y.kids=cs:=by rcases eN with rfl | rfl <;> rfl
  have cell:∀ j,j<m->∃ gZ,w.cell? ⟨b,k+j,none⟩=some gZ/\gZ.oneCell'=true/\∃ lX,cs[k+j]?=some lX/\R w I (dT w T g) (gx 0 (p.push (k+j)) lX) gZ cy:=by
   intro j ah;have gh:cs[k+j]?=some cs[k+j]:=List.getElem?_eq_getElem (by omega);obtain ⟨eC,gZ,fP,l6,oa,hp,bL,kM⟩:=dI.node eN gh;rw [af] at fP;cases fP;exact ⟨gZ,l6,hp,_,gh,FL 0 (by rw [tA,ax]; simp [Iz]) (by rw [yo,h1]; exact oa) kM⟩
  have hex:∃ us:List Value,us.length=m/\∀ j v,us[j]?=some v->w.cell? ⟨b,k+j,none⟩=some v:=by
   refine ⟨(List.range m).map λj=>(w.cell? ⟨b,k+j,none⟩).getD undef,by simp,?_⟩
   grind
  obtain ⟨us,og,V6⟩:=hex;refine ⟨.agg us.toArray,by simp only [execOp,aI]; simp [PH aw og (b:=b) (o:=k) V6],.agg (Fs:=λ_=>cy) (by simp; omega) (λj u jP=>by
   grind) (λj jj u vx jP=>?_) (λ_ _ _ _ _ h=>h.elim) (λc=>⟨λh=>h.elim,λ⟨_,_,h⟩=>h⟩)⟩
  grind
 | @Eb x _ s d n N p cs xs J au aF hE aw =>
  obtain ⟨e,aC,he,aS⟩:=LV aw;obtain ⟨⟨lB,iZ,cap,h1,af,aI⟩,_⟩:=(f' J).nc;obtain ⟨v,cA,hv,dI,dy⟩:=h.part au (by simp);rw [h1] at hv;cases hv;have ha:(cs.take n).length=n:=by
   obtain ⟨_,_,_,ak⟩:=dI.nk
   grind
  have hlen:xs.length=n:=by rw [<- ha,hE,List.length_map]
  refine ⟨_,?_,.lit rfl no⟩;obtain ⟨_,_,jd,_,_,rf,rh⟩:=dI.nk;cases jd;cases lB with
  | none =>
   have aR:n=0:=by
    grind
   have:xs=[]:=List.eq_nil_of_length_eq_zero (hlen.trans aR);subst this;have ao:=run_convert_bytes_nil (P:=P) (w:=w) s e aC he n cap d aS;simp [execOp,af,ao];rfl
  | some ad =>
   obtain ⟨b,o,sp⟩:=ad;obtain ⟨rfl,rfl⟩:=rf _ rfl;have ao:=run_convert_bytes_arg (P:=P) w s e aC he b 0 n cap xs hlen (λi hi=>by
    have Ig:(cs.take n)[i]?=some (.lit (.int .u8 (xs.getD i 0))):=by
     grind
    have U3:cs[i]?=some (.lit (.int .u8 (xs.getD i 0))):=by
     grind
    obtain ⟨eC,u,fP,l6,_,_,bL,kM⟩:=dI.node (.inl rfl) U3;simp only [addrOf,Option.some.injEq,Addr.mk.injEq,and_true] at fP;subst fP;rw [Nat.zero_add,l6,kM.hA.1]) d aS
   simp_all [execOp]
 | @Ec x _ s d n xs J aw =>
  obtain ⟨e,aC,he,aS⟩:=LV aw;have aZ:=f' J;generalize tY:a.eval x=v at aZ;refine ⟨_,?_,.lit rfl no⟩;generalize hE:(xs.map λb=>ab.lit (.int .u8 b))=cs at aZ;cases aZ with
  | ref J=>simp [ab.isRef] at J
  | @hF _ cap lB _ aN =>
   have:xs=[]:=by simpa using hE
   subst this;cases lB with
   | none =>
    have ao:=run_convert_bytes_nil (P:=P) (w:=w) s e aC he 0 cap d aS;simp [execOp,tY,ao];rfl
   | some ad =>
    have ak:(loadCells ad 0).run P w=.ok (([]:List Int).map (Value.int .u8)).toArray w:=by
     have:=run_loadCells_list (P:=P) w ad [] (λj v ah=>by simp at ah)
     grind
    have ao:=run_bytesToString w ad 0 cap [] ak;have aa:=run_convert_bytes_string (P:=P) w s d e (some ad) 0 cap aC he aS;rw [ao] at aa;simp [execOp,tY,aa];rfl
  | @bm _ _ cap _ ad us _ aN k9 bf lf ak h1 aa ao =>
   obtain ⟨b,o,sp⟩:=ad;simp only at lf;subst lf;have hlen:xs.length=n:=by rw [<- List.length_map (f:=λb=>ab.lit (.int .u8 b)),hE,ak,Nat.mul_one]
   have ec:=run_convert_bytes_arg (P:=P) w s e aC he b o n cap xs hlen (λi hi=>by
    have Ig:cs[i]?=some (.lit (.int .u8 (xs.getD i 0))):=by
     grind
    have:=aa i _ Ig;simp only at this;rw [this,(ao i _ Ig).hA.1]) d aS
   simp_all [execOp]
 | @Hu xs gq _ f vs v J hv ao =>
  refine ⟨v,?_,.lit hv no⟩;have xi:xs.map a.eval=vs.toArray:=by
   apply Array.toList_inj.1;apply List.ext_getElem?;intro k;have:=congrArg (·[k]?) J;simp only [List.getElem?_map] at this;rw [Array.toList_map,List.getElem?_map];cases hk:xs.toList[k]? with
   | none =>
    grind
   | some o =>
    rw [hk] at this;cases hv:vs[k]? with
    | none=>rw [hv] at this; cases this
    | some v =>
     rw [hv] at this;simp only [Option.map_some,Option.some.injEq] at this ⊢;rw [(f' this).hA.1]
  have aW:a.eval (.func f)=.func (.func f) #[] #[]:=rfl
  simp_all [execOp,resolve,Deferred.ofValue,invoke]
 | @E0 x i _ t s nS j b J hi aw av =>
  have vo:=(f' J).hA.1;have sN:=(f' hi).hA.1;refine ⟨.int .u8 b.toNat,?_,.lit rfl no⟩
  simp_all [execOp,Instr.index,run_underlying,KB,asIntOf]
 | @bin op x y _ t t2 b' b v J ax hv ao =>
  have h1:=(f' J).hA.1;have af:=(f' ax).hA.1;refine ⟨v,?_,.lit hv no⟩
  grind [execOp,Sem.run_bind,Result.andThen_ok,Sem.run_pure]
 | @A8 op x y _ t t2 az dc v J ax hv ao =>
  have h1:=Lu ((f' J).Ci no);have af:=Lu ((f' ax).Ci no);refine ⟨v,?_,.lit hv no⟩
  grind [execOp,Sem.run_bind,Result.andThen_ok,Sem.run_pure]
 | @un op x _ t b' v J hv ao =>
  have h1:=(f' J).hA.1;exact ⟨v,by simp [execOp,h1,ao],.lit hv no⟩
 | @conv x _ s d b' v J hv ao =>
  have h1:=(f' J).hA.1;exact ⟨v,by simp [execOp,h1,ao],.lit hv no⟩
 | @Eh x _ i cs y J ax =>
  obtain ⟨vs,aI,ak,ao⟩:=(f' J).WW no;have hk:i<cs.length:=(List.getElem?_eq_some_iff.1 ax).1;have hv:vs[i]?=some vs[i]:=Array.getElem?_eq_getElem (ak ▸ hk);exact ⟨_,by simp [execOp,aI,Instr.extract,hv],ao _ kE _ ax hv⟩
 | @AA x lo hi _ t e z n l bY cs J ak vi aw sO aF =>
  obtain ⟨hu,he,aY⟩:=qO (w:=w) aw;obtain ⟨lB,cap,aI,k9,hlen,hm⟩:=(f' J).zG;have av:=FQ (P:=P) (w:=w) (len:=n) (cap:=cap) (ak.sound h aP) (vi.sound h aP) true sO (by omega);have hP:(execOp a.eval { dst:=dst,op:=.slice t x lo hi none,type:=ty,pos:=pos,after:=after,guard:=guard }).run P w=.ok (.value (sliced lB l bY cap z)) w:=by
   simp_all [execOp,Instr.sliceAt,run_underlying,Instr.slice,sliced]
  refine ⟨_,hP,?_⟩;by_cases aR:bY - l=0
  ·rw [aR];simp only [Nat.zero_mul,List.take_zero,sliced,aR];exact .hF no
  ·obtain ⟨ad,us,rfl,bf,aC,hp,aa,ao⟩:=hm (.inr (by omega));obtain ⟨b,o,sp⟩:=ad;simp only at aC;subst aC;have ha:cap≠l:=by omega
   simp only [sliced,ha,if_false,Option.map_some,add_eq];have BP:((cs.drop (l * z)).take ((bY - l) * z)).length=(bY - l) * z:=by
    rw [List.length_take,List.length_drop,hlen];have:(bY - l) * z+l * z<=n * z:=by rw [<- Nat.add_mul]; exact Nat.mul_le_mul_right _ (by omega)
    omega
   refine .bm (us:=λk=>us (l * z+k)) no (by omega) bf rfl BP (λk x hk=>hp (l * z+k) x (by
    grind)) (λk x hk=>?_) λk x hk=>?_
   ·grind
   grind
 | @Ky x lo hi _ t e z n bY p J ak vi aw aF dd =>
  obtain ⟨hu,he,aY⟩:=qO (w:=w) aw;obtain ⟨⟨lB,N,cap,h1,af,aI⟩,bK⟩:=(f' J).nc;have k9:N<=cap:=by
   rcases bK with ⟨iZ,cs,cH,ei⟩ | ⟨aR,q,gY,m,new,cH,ei⟩
   ·obtain ⟨v,cA,hv,dI,_⟩:=h.part cH (by simp);rw [h1] at hv;obtain ⟨_,rR,NH,hle,_⟩:=dI.nk
    grind
   ·obtain ⟨v,hv,dI⟩:=h.rel _ _ cH;simp only [dW,hv,aR,walk,Option.some.injEq] at h1;subst h1;obtain ⟨bv,cj,cf,us,news,dI⟩:=dI.vA;obtain ⟨_,nK⟩:=dI.nK
    grind
  have av:=FQ (P:=P) (w:=w) (len:=n) (cap:=cap) (ak.sound h aP) (vi.sound h aP) true (Nat.zero_le _) (by omega);refine ⟨.slice lB bY cap,?_,.ref rfl ⟨⟨lB,N,cap,h1,rfl,by omega⟩,dd⟩ no⟩
  simp_all [execOp,Instr.sliceAt,run_underlying,Instr.slice,Addr.add]
 | @F4 x lo hi _ t e z n l bY p J ak vi aw sO aF dd =>
  obtain ⟨hu,he,aY⟩:=qO (w:=w) aw;obtain ⟨⟨lB,N,cap,h1,af,aI⟩,bK⟩:=(f' J).nc;obtain ⟨iZ,cs,cH,ei⟩:=dd;obtain ⟨v,cA,hv,dI,_⟩:=h.part cH (by simp);rw [h1] at hv;obtain ⟨a2,rR,NH,hle,hlen,rf,rh⟩:=dI.nk;rw [NH] at hv;cases hv;have av:=FQ (P:=P) (w:=w) (len:=n) (cap:=cap) (ak.sound h aP) (vi.sound h aP) true sO (by omega);refine ⟨sliced lB l bY cap z,?_,.ref rfl ⟨⟨lB,_,cap,_,_,h1,rfl,by omega,by omega,λsQ=>?_⟩,_,cs,cH,ei⟩ no⟩
  ·simp_all [execOp,Instr.sliceAt,run_underlying,Instr.slice,sliced]
  ·have aC:=rh (by omega);cases lB with
   | none=>simp at aC
   | some ad =>
    obtain ⟨aR,je⟩:=rf ad rfl;obtain ⟨b,o,sp⟩:=ad
    grind [add_eq]
 | @AB x lo hi _ t l bY s J ak vi aw sO aF =>
  have vo:=(f' J).hA.1;have av:=FQ (P:=P) (w:=w) (len:=s.size) (cap:=s.size) (ak.sound h aP) (vi.sound h aP) false sO aF;exact ⟨.string (s.extract l bY),by simp [execOp,vo,Instr.sliceAt,run_underlying (KB aw),Instr.slice,av],.lit rfl no⟩
 | @Ct x _ t e z bE n cs J aw =>
  obtain ⟨hu,he,aY⟩:=qO (w:=w) aw;obtain ⟨lB,cap,aI,_⟩:=(f' J).zG;exact ⟨_,by simp [execOp,resolve,invoke,builtin,aI,Builtin.len_,run_underlying hu,goInt],.lit rfl no⟩
 | @Cs x _ t e z bE n p J aw =>
  obtain ⟨hu,he,aY⟩:=qO (w:=w) aw;obtain ⟨⟨lB,N,cap,h1,af,aI⟩,bK⟩:=(f' J).nc;exact ⟨_,by simp [execOp,resolve,invoke,builtin,af,Builtin.len_,run_underlying hu,goInt],.lit rfl no⟩
 | @JF x _ t e z bE lo n p J aw =>
  obtain ⟨hu,he,aY⟩:=qO (w:=w) aw;obtain ⟨⟨lB,N,cap,b',mP,h1,af,_,aI,cH⟩,bK⟩:=(f' J).xv;exact ⟨_,by simp [execOp,resolve,invoke,builtin,af,Builtin.len_,run_underlying hu,goInt],.lit rfl no⟩
 | @JE x _ t e bE J aw =>
  obtain ⟨hu,he,aY⟩:=qO (w:=w) aw;have af:=(f' J).sg;exact ⟨_,by simp [execOp,resolve,invoke,builtin,af,Builtin.len_,run_underlying hu,goInt],.lit rfl no⟩
 | @lits b xs gq _ vs v J hv ao =>
  have qo:xs.map a.eval=vs.toArray:=by
   grind [Array.toList_map,OI]
  refine ⟨v,?_,.lit hv no⟩
  grind [execOp,resolve,invoke]
 | @Fa x y _ t p q ok Y _ ot V J au ax dj aZ ao =>
  obtain ⟨⟨b,av,hv⟩,_⟩:=(f' J).Ow;obtain ⟨gz,cA,ir,dI,_⟩:=h.part au (by simp);rw [av] at ir;cases ir;obtain ⟨eC,es,clock,e,a1,bg,_⟩:=dI.Jn;cases e;refine ⟨V,?_,aZ _ _ _⟩;simp [execOp,hv,dj _ _ _ _ (f' ax),ao w _ _ _ a1 bg]
 | @Cv x y _ t q ok Y _ ot V J ax dj aZ ao =>
  obtain ⟨b,es,clock,hv,a1,bg⟩:=(f' J).WV;refine ⟨V,?_,aZ _ _ _⟩;simp [execOp,hv,dj _ _ _ _ (f' ax),ao w _ _ _ a1 bg]
end
end Go.Own
namespace Go.Own
open Go
structure Fr (w w':World) (U:bb):Prop where
 os:w'.os=w.os
 tape:w'.tape=w.tape
 output:w'.output=w.output
 size:w.heap.size<=w'.heap.size
 block:∀ b,b<w.heap.size->¬ U b->w'.heap[b]?=w.heap[b]?
 dN:∀ a,a.block<w.heap.size->w'.frozen? a=w.frozen? a
 wT:w.drawn<=w'.drawn
theorem Fr.refl (w:World) (U:bb):Fr w w U:=⟨rfl,rfl,rfl,Nat.le_refl _,λ_ _ _=>rfl,λ_ _=>rfl,Nat.le_refl _⟩
theorem Fr.mono {w w':World}{U DZ:bb}(h:Fr w w' U) (ga:∀ b,b<w.heap.size->U b->DZ b):Fr w w' DZ:=⟨h.os,h.tape,h.output,h.size,λb av aF=>h.block b av λhu=>aF (ga b av hu),h.dN,h.wT⟩
theorem Fr.trans {w ib hr:World}{U yV:bb}(h:Fr w ib U) (h1:Fr ib hr yV) (ga:∀ b,b<w.heap.size->yV b->U b):Fr w hr U :=
 ⟨h1.os.trans h.os,h1.tape.trans h.tape,h1.output.trans h.output,Nat.le_trans h.size h1.size,λb av aF=>(h1.block b (Nat.lt_of_lt_of_le av h.size) λhu=>aF (ga b av hu)).trans (h.block b av aF),λa aP=>(h1.dN a (Nat.lt_of_lt_of_le aP h.size)).trans (h.dN a aP),Nat.le_trans h.wT h1.wT⟩
theorem sA (w:World) (o:Obj) (k:Nat) (h:k<w.heap.size):(w.alloc o).heap[k]?=w.heap[k]?:=by
 show (w.heap.push o)[k]?=_;rw [Array.getElem?_push,if_neg (by omega)]
theorem tu (w:World) (o:Obj):(w.alloc o).heap[w.heap.size]?=some o:=by
 show (w.heap.push o)[w.heap.size]?=_;simp
theorem HA (w:World) (arr:Array Value) (t:TypeId) (a:Addr):(w.alloc (.cells arr t (0,0))).frozen? a=w.frozen? a:=by
 unfold World.frozen?;by_cases h:a.block=w.heap.size
 ·rw [h,tu];have:w.heap[w.heap.size]?=none:=by simp
  rw [this];simp
 ·by_cases af:a.block<w.heap.size
  ·rw [sA w _ _ af]
  ·have aI:(w.alloc (.cells arr t (0,0))).heap[a.block]?=none:=by
    show (w.heap.push _)[a.block]?=_;rw [Array.getElem?_eq_none];simp; omega
   have bK:w.heap[a.block]?=none:=Array.getElem?_eq_none (by omega);rw [aI,bK]
theorem HC (w:World) (g:Nat) (cs:Array Value) (a:Addr):(w.setRow g cs).frozen? a=w.frozen? a:=by
 unfold World.frozen? World.setRow;simp only [Array.getElem?_modify];by_cases h:g=a.block
 ·subst h;rw [if_pos rfl];cases bY:w.heap[a.block]? with
  | none=>rfl
  | some o=>cases o <;> rfl
 ·rw [if_neg h]
theorem Tx (w:World) (es:Array MapEntry) (n:Nat) (a:Addr):(w.alloc (.map es n)).frozen? a=w.frozen? a:=by
 unfold World.frozen?;by_cases h:a.block=w.heap.size
 ·rw [h,tu];have:w.heap[w.heap.size]?=none:=by simp
  rw [this]
 ·by_cases af:a.block<w.heap.size
  ·rw [sA w _ _ af]
  ·have aI:(w.alloc (.map es n)).heap[a.block]?=none:=by
    show (w.heap.push _)[a.block]?=_;rw [Array.getElem?_eq_none];simp; omega
   have bK:w.heap[a.block]?=none:=Array.getElem?_eq_none (by omega);rw [aI,bK]
def Pn (o:Obj):Prop:=(∃ arr e,o=.cells arr e (0,0))\/∃ es n,o=.map es n
theorem Fr.alloc (w:World) (o:Obj) (U:bb) (a1:Pn o):Fr w (w.alloc o) U:=by
 refine ⟨rfl,rfl,rfl,by simp,λb av _=>sA w o b av,λa _=>?_,Nat.le_refl _⟩;rcases a1 with ⟨arr,e,rfl⟩ | ⟨es,n,rfl⟩
 ·exact HA w arr e a
 ·exact Tx w es n a
theorem R.XQ {w:World}{I:bb}{ρ:ab->Value->Prop}{x:ab}{v:Value}{F:bb}(h:R w I ρ x v F):∀ c,F c->∃ o,w.heap[c]?=some o/\Pn o:=by
 induction h with
 | mp a1 _ aN =>
  intro c aa;cases (aN c).1 aa;exact ⟨_,a1,.inr ⟨_,_,rfl⟩⟩
 | lit _ aN | aK aN | dead aN | ref _ _ aN | hF aN | bm aN | cI aN | cW aN | imp aN=>exact λc aa=>absurd aa (aN c)
 | own a1 ak h1 ao aS av aN aU =>
  intro c aa;rcases (aN c).1 aa with h | ⟨k,hk,h⟩
  ·obtain ⟨_,bY⟩:=a1;rcases bY with ⟨rfl,_⟩ | ⟨b,cap,cur,rfl,_,j1,_⟩
   ·simp [Value.ownBlock] at h
   ·simp only [Value.ownBlock,Option.some.injEq] at h;subst h;exact ⟨_,j1,.inl ⟨_,_,rfl⟩⟩
  ·exact aU k _ _ (List.getElem?_eq_getElem hk) (List.getElem?_eq_getElem (ak ▸ hk)) c h
 | obj a1 ak h1 ao aS av aN aU =>
  intro c aa;rcases (aN c).1 aa with rfl | ⟨k,hk,h⟩
  ·exact ⟨_,a1,.inl ⟨_,_,rfl⟩⟩
  ·exact aU k _ _ (List.getElem?_eq_getElem hk) (Array.getElem?_eq_getElem (ak ▸ hk)) c h
 | agg ak h1 ao aS aN aU =>
  intro c aa;obtain ⟨k,hk,h⟩:=(aN c).1 aa;exact aU k _ _ (List.getElem?_eq_getElem hk) (Array.getElem?_eq_getElem (ak ▸ hk)) c h
 | bW ak ao aS aN aU =>
  intro c aa;obtain ⟨k,hk,h⟩:=(aN c).1 aa;exact aU k _ _ (List.getElem?_eq_getElem hk) (Array.getElem?_eq_getElem (ak ▸ hk)) c h
theorem Fr.drew {w w':World}{U:bb}(h:Fr w w' U):Fr w w'.drew U:=⟨h.os,h.tape,h.output,h.size,h.block,h.dN,Nat.le_succ_of_le h.wT⟩
section
variable {w:World}{I:bb}{T:Array Value}{g:aM}{Fs:Nat->bb}
theorem cG.jZ (h:cG w I T g Fs):∀ t c,Fs t c->c<w.heap.size:=by
 intro t c aa;cases J:g t with
 | none=>exact absurd aa (h.kU t J c)
 | some y=>obtain ⟨u,_,dI⟩:=h.rel t y J; exact dI.lt c aa
theorem cG.world (h:cG w I T g Fs) {w':World}(aN:∀ t c,Fs t c->w'.heap[c]?=w.heap[c]?) (bf:∀ c,I c->w'.heap[c]?=w.heap[c]?) (fX:w.heap.size<=w'.heap.size):cG w' I T g Fs :=
  ⟨λt x J=>by
    obtain ⟨v,hv,aZ⟩:=h.rel t x J;exact ⟨v,hv,h.wV (λ_ _=>rfl) aN bf (λ_ h=>h) (λ_ _ h=>h) aZ λc aa=>aN t c aa⟩,
   h.kU,h.eJ,h.bm,λc aa=>Nat.lt_of_lt_of_le (h.lt c aa) fX,h.ru⟩
theorem cG.alloc (h:cG w I T g Fs) (o:Obj):cG (w.alloc o) I T g Fs :=
 h.world (λt c aa=>sA w o c (h.jZ t c aa)) (λc aa=>sA w o c (h.lt c aa)) (by simp)
theorem cG.uC (h:cG w I T g Fs) {d:Nat}{x:ab}{v:Value}{F:bb}(aS:g d=none) (U8:d<T.size)
  (aZ:jD w I (dT w T g) x v F) (r6:∀ t c,F c->¬ Fs t c) (VA:∀ c,F c->¬ I c)
  (au:∀ z p n m new,x=.bM z p n m new->∀ t bE cF m' c5,g t≠some (.bM bE p cF m' c5)) :
  cG w I (T.setIfInBounds d v) (cV g d x) (uL Fs d F):=by
 have dL:∀ t,g t≠none->(T.setIfInBounds d v)[t]?=T[t]?:=by
  intro t aw;rw [Array.getElem?_setIfInBounds_ne];rintro rfl; exact aw aS
 refine ⟨?_,?_,?_,?_,h.lt,?_⟩
 ·intro t y ax;unfold cV at ax
  split at ax
  ·rename_i vp;subst vp;cases ax;exact ⟨v,by simp [U8],by simpa [uL] using h.wV dL (λ_ _ _=>rfl) (λ_ _=>rfl) (λ_ h=>h) (Qo aS) aZ λ_ _=>rfl⟩
  ·rename_i vp;obtain ⟨u,hu,dI⟩:=h.rel t y ax;exact ⟨u,by rw [dL t (by rw [ax]; simp)]; exact hu,by simpa [uL,vp] using h.wV dL (λ_ _ _=>rfl) (λ_ _=>rfl) (λ_ h=>h) (Qo aS) dI λ_ _=>rfl⟩
 ·intro t aw c;unfold cV at aw
  split at aw
  ·cases aw
  ·rename_i vp; simpa [uL,vp] using h.kU t aw c
 ·intro t t' c aa fr;by_cases h1:t=d <;> by_cases af:t'=d <;> simp [uL,h1,af] at aa fr
  ·rw [h1,af]
  ·exact absurd fr (r6 t' c aa)
  ·exact absurd aa (r6 t c fr)
  ·exact h.eJ t t' c aa fr
 ·intro t c aa hi;by_cases h1:t=d <;> simp [uL,h1] at aa
  ·exact VA c aa hi
  ·exact h.bm t c aa hi
 ·intro t t' z p n m new bE cF m' c5 h1 af;unfold cV at h1 af
  split at h1 <;> split at af
  ·rename_i a b; rw [a,b]
  ·cases h1; exact absurd af (au z p n m new rfl t' bE cF m' c5)
  ·cases af; exact absurd h1 (au bE p cF m' c5 rfl t z n m new)
  ·exact h.ru _ _ _ _ _ _ _ _ _ _ _ h1 af
end
def jS:ab->Option (List ab)
 | .agg cs=>some cs
 | .lit v=>some [.lit v]
 | .aK=>some [.aK]
 | .bm z n cs=>some [.bm z n cs]
 | .cI cs=>some [.cI cs]
 | .ptr p k=>some [.ptr p k]
 | .a6 z p n=>some [.a6 z p n]
 | .sub z p l n=>some [.sub z p l n]
 | .cW f a b=>some [.cW f a b]
 | _=>none
theorem R.jS {w:World}{I:bb}{ρ:ab->Value->Prop}{y:ab}{v:Value}{F:bb}(h:R w I ρ y v F) (aN:∀ c,¬ F c) (lO:∀ x v,x.isRef=true->ρ x v->v.oneCell'=true) {cs:List ab}(aa:jS y=some cs) :
  cs.length=v.cells.size/\(∀ (k:Nat) (u:Value),v.cells[k]?=some u->u.oneCell'=true)/\(∀ (k:Nat) (x:ab) (u:Value),cs[k]?=some x->v.cells[k]?=some u->R w I ρ x u cy):=by
 have one:∀ {y:ab},R w I ρ y v F->v.oneCell'=true->[y].length=v.cells.size/\(∀ (k:Nat) (u:Value),v.cells[k]?=some u->u.oneCell'=true)/\(∀ (k:Nat) (x:ab) (u:Value),[y][k]?=some x->v.cells[k]?=some u->R w I ρ x u cy):=by
  intro y h h1;have Ey:v.cells=#[v]:=by cases v <;> first | rfl | (simp [Value.oneCell'] at h1)
  refine ⟨by simp [Ey],λk u hu=>?_,λk x u J hu=>?_⟩
  ·rw [Ey] at hu;cases k with
   | zero=>simp at hu; subst hu; exact h1
   | succ k=>simp at hu
  rw [Ey] at hu;cases k with
  | zero=>simp at J hu; subst J hu; exact h.empty aN
  | succ k=>simp at J
 cases y <;> simp only [Go.Own.jS,Option.some.injEq,reduceCtorEq] at aa
 case agg l =>
  subst aa;obtain ⟨vs,rfl,ak,h1,ao⟩:=h.Ci aN;exact ⟨ak,h1,ao⟩
 case lit a=>subst aa; exact one h (by obtain ⟨rfl,h1⟩:=h.hA; exact h1)
 case aK=>subst aa; exact one h (by rw [h.sg]; rfl)
 case bm z n l=>subst aa; exact one h (by obtain ⟨a,cap,rfl,_⟩:=h.zG; rfl)
 case cI l=>subst aa; exact one h (by obtain ⟨ad,us,rfl,_⟩:=h.xu; rfl)
 case ptr p k=>subst aa; exact one h (lO _ _ rfl h.nQ)
 case a6 z p n=>subst aa; exact one h (lO _ _ rfl h.nc)
 case sub z p l n=>subst aa; exact one h (lO _ _ rfl h.xv)
 case cW f a b =>
  subst aa;refine one h ?_;cases h with
  | cW=>rfl
  | ref J=>simp [ab.isRef] at J
theorem dT.Fu {w:World}{T:Array Value}{g:aM}{x:ab}{v:Value}(J:x.isRef=true) (h:dT w T g x v):v.oneCell'=true:=by
 obtain ⟨h,_⟩:=h;cases x <;> simp [ab.isRef] at J
 case ptr p k=>obtain ⟨_,_,_,_,rfl⟩:=h; rfl
 case a6 z p n=>obtain ⟨_,_,_,_,rfl,_⟩:=h; rfl
 case sub z p lo n=>obtain ⟨_,_,_,_,_,_,rfl,_⟩:=h; rfl
 case gB p=>obtain ⟨_,_,rfl⟩:=h; rfl
def mm:List ab->Option (List ab)
 | []=>some []
 | y::ys =>
  match jS y,mm ys with
  | some a,some b=>some (a++b)
  | _,_=>none
def gn (g:aM):List Operand->Option (List ab)
 | []=>some []
 | x::xs =>
  match bt g x,gn g xs with
  | some y,some ys=>some (y::ys)
  | _,_=>none
def u4 (place:Nat->Option (Nat × Nat)) (cells:List ab):List (Nat × List ab)->Option (List ab)
 | []=>some cells
 | (i,c)::rest =>
  match place i with
  | none=>none
  | some (off,size)=>if c.length=size/\off+c.length<=cells.length then u4 place (cells.take off++c++cells.drop (off+c.length)) rest else none
def rp (g:aM):List (Nat × Operand)->Option (List (Nat × List ab))
 | []=>some []
 | (i,x)::xs =>
  match bt g x,rp g xs with
  | some y,some ys=>(jS y).map λc=>(i,c)::ys
  | _,_=>none
def kA (P:Program) (t:TypeId) (pl:List (Nat × Nat)):Bool :=
 match P.underlying t with
 | some (.struct fs)=>fs.toList.map (λf=>(f.offset,(P.info? f.type).map (·.size))) == pl.map λ(a,b)=>(a,some b)
 | _=>false
inductive p9 (P:Program) (g:aM):Op->TypeId->ab->Prop
 | box {e ty:TypeId}{x:Operand}{y:ab}{cs:List ab}(J:bt g x=some y) (aa:jS y=some cs):p9 P g (.box e x) ty (.obj cs)
 | alloc {e ty:TypeId}{z:Value}(aY:(P.info? e).bind (·.zero)=some z) (h1:z.cells.all Value.oneCell'=true):p9 P g (.alloc e) ty (.obj (z.cells.toList.map lR))
 | buildSlice {t e ty:TypeId}{z:Nat}{parts:Array (Nat × Operand)}{xs:List Operand}{ys:List ab}{cs:List ab}(aw:fu P t e z=true)
   (au:parts.toList=xs.mapIdx (λi x=>(i,x))) (J:gn g xs=some ys) (aY:∀ y∈ys,∃ c,jS y=some c/\c.length=z) (aa:mm ys=some cs) (av:xs.length * z<=16777216) (aF:xs.length<=16777216) (hzero:xs.length * z=0\/∃ v,(P.info? e).bind (·.zero)=some v/\v.cells.size=z) :
   p9 P g (.buildSlice t xs.length parts) ty (.own z xs.length cs)
 | makeSlice {t e ty:TypeId}{x y:Operand}{z n b:Nat}{zH pN:IntKind}{dJ:Value}(aw:fu P t e z=true) (J:bt g x=some (.lit (.int zH (n:Int)))) (ax:bt g y=some (.lit (.int pN (n:Int))))
   (hzero:(P.info? e).bind (·.zero)=some dJ) (h1:dJ.cells.all Value.oneCell'=true) (pJ:dJ.cells.size=z) (av:(P.info? e).map (·.bytes)=some b) (aF:n * b<=140737488355328) (oe:n<=4611686018427387904) {yv:List ab}(vy:yv.length=dJ.cells.size)
   (EW:∀ (k:Nat) (u:Value) (x:ab),dJ.cells[k]?=some u->yv[k]?=some x->x=lR u\/(lR u=.aK/\∃ bE,x=.bm bE 0 [])) :
   p9 P g (.makeSlice t x y) ty (.own z n (List.replicate n yv).flatten)
 | makeMap {t ty:TypeId}{q:Array MapEntry->Nat->Prop}(bg:q #[] 0):p9 P g (.makeMap t none) ty (.mp q)
inductive uV (P:Program) (g:aM):Op->TypeId->ab->Prop
 | build {t ty:TypeId}{parts:Array (Nat × Operand)}{pl:List (Nat × Nat)}{dJ:Value}{ps:List (Nat × List ab)}{cs:List ab}(aw:kA P t pl=true) (aY:(P.info? t).bind (·.zero)=some dJ) (h1:dJ.cells.all Value.oneCell'=true)
   (au:rp g parts.toList=some ps) (aa:u4 (λi=>pl[i]?) (dJ.cells.toList.map lR) ps=some cs):uV P g (.build t parts) ty (.agg cs)
 | makeFunc {fn:Fn}{first caps:Array Operand}{ty:TypeId}{a b:List ab}(aP:gn g first.toList=some a) (av:gn g caps.toList=some b):uV P g (.makeFunc fn first caps) ty (.cW fn a b)
section
variable {P:Program}{w:World}{I:bb}{T:Array Value}{g:aM}{Fs:Nat->bb}
theorem zT (h:cG w I T g Fs) {a:Act}(aP:a.tmps=T):∀ {xs:List Operand}{ys:List ab},gn g xs=some ys->ys.length=xs.length/\∀ (k:Nat) (y:ab) (x:Operand),ys[k]?=some y->xs[k]?=some x->R w I (dT w T g) y (a.eval x) cy
 | [],ys,ax=>by simp only [gn,Option.some.injEq] at ax; subst ax; simp
 | x::xs,ys,ax=>by
  simp only [gn] at ax;cases J:bt g x with
  | none=>simp [J] at ax
  | some y =>
   cases se:gn g xs with
   | none=>simp [J,se] at ax
   | some DF =>
    simp only [J,se,Option.some.injEq] at ax;subst ax;obtain ⟨h1,af⟩:=zT h aP se;refine ⟨by simp [h1],λk y' x' oU gh=>?_⟩;cases k with
    | zero=>simp at oU gh; subst oU gh; exact kf h J aP
    | succ k=>simp at oU gh; exact af k y' x' oU gh
theorem R.alloc (h:cG w I T g Fs) (o:Obj) {x:ab}{v:Value}{F:bb}(aZ:R w I (dT w T g) x v F) (aN:∀ c,F c->c<w.heap.size):R (w.alloc o) I (dT (w.alloc o) T g) x v F :=
 h.frame (λ_ _=>rfl) (λt c aa=>sA w o c (h.jZ t c aa)) (λc aa=>sA w o c (h.lt c aa)) (λ_ h=>h) (λ_ _ h=>h) aZ λc aa=>sA w o c (aN c aa)
theorem O2 {ρ:ab->Value->Prop}{vs:List Value}:∀ (k:Nat) (x:ab) (u:Value),(vs.map lR)[k]?=some x->vs[k]?=some u->R w I ρ x u cy:=by
 intro k x u J hu;rw [List.getElem?_map,hu] at J;simp only [Option.map_some,Option.some.injEq] at J;subst J;exact CG u
theorem R.O1 {ρ:ab->Value->Prop}{cs:List ab}{b:Nat}{e:TypeId}{arr:Array Value}(a1:w.heap[b]?=some (.cells arr e (0,0))) (ak:cs.length=arr.size) (h1:∀ (k:Nat) (u:Value),arr[k]?=some u->u.oneCell'=true)
  (ao:∀ (k:Nat) (x:ab) (u:Value),cs[k]?=some x->arr[k]?=some u->R w I ρ x u cy):R w I ρ (.obj cs) (.pointer (some ⟨b,0,none⟩)) (λc=>c=b) :=
 .obj (Fs:=λ_=>cy) a1 ak h1 ao (λ_ _ _ _ _ h=>h.elim) (λ_ _ h=>h) (λ_=>⟨λh=>.inl h,λh=>h.elim id λ⟨_,_,h⟩=>h.elim⟩)
theorem R.Pc {ρ:ab->Value->Prop}{z n:Nat}{cs:List ab}{b cap:Nat}{e:TypeId}{arr:Array Value}(a1:w.heap[b]?=some (.cells arr e (0,0))) (aF:n<=cap) (aa:cap<=maxLen) (aC:arr.size=cap * z) (ak:cs.length=n * z) (h1:∀ (k:Nat) (u:Value),arr[k]?=some u->u.oneCell'=true)
  (ao:∀ (k:Nat) (x:ab) (u:Value),cs[k]?=some x->arr[k]?=some u->R w I ρ x u cy):R w I ρ (.own z n cs) (.slice (some ⟨b,0,none⟩) n cap) (λc=>c=b):=by
 have hle:n * z<=arr.size:=by rw [aC]; exact Nat.mul_le_mul_right _ aF
 refine .own (e:=e) (us:=arr.toList.take (n * z)) (Fs:=λ_=>cy) ⟨by simp; omega,.inr ⟨b,cap,arr,rfl,Nat.zero_le _,a1,aF,aa,aC,rfl⟩⟩ (by simp; omega) (λk u hu=>?_) ?_ (λ_ _ _ _ _ h=>h.elim) (λ_ _ _ h=>h.elim) (λc=>?_)
 ·rw [List.getElem?_take] at hu
  split at hu
  ·exact h1 k u (by simpa using hu)
  ·cases hu
 ·intro k x u J hu;rw [List.getElem?_take] at hu
  split at hu
  ·exact ao k x u J (by simpa using hu)
  ·cases hu
 ·simp only [Value.ownBlock,Option.some.injEq];exact ⟨λh=>.inl h.symm,λh=>h.elim Eq.symm λ⟨_,_,h⟩=>h.elim⟩
theorem LR {ρ:ab->Value->Prop}(lO:∀ x v,x.isRef=true->ρ x v->v.oneCell'=true):∀ {ys:List ab}{vs:List Value}{cs:List ab},ys.length=vs.length->(∀ (k:Nat) (y:ab) (v:Value),ys[k]?=some y->vs[k]?=some v->R w I ρ y v cy)->mm ys=some cs ->
  cs.length=(vs.flatMap λv=>v.cells.toList).length/\(∀ (k:Nat) (u:Value),(vs.flatMap λv=>v.cells.toList)[k]?=some u->u.oneCell'=true)/\∀ (k:Nat) (x:ab) (u:Value),cs[k]?=some x->(vs.flatMap λv=>v.cells.toList)[k]?=some u->R w I ρ x u cy
 | [],vs,cs,ak,ao,aa=>by
  cases vs with
  | nil=>simp only [mm,Option.some.injEq] at aa; subst aa; simp
  | cons=>simp at ak
 | y::ys,vs,cs,ak,ao,aa=>by
  cases vs with
  | nil=>simp at ak
  | cons v vs =>
   simp only [mm] at aa;cases aP:jS y with
   | none=>simp [aP] at aa
   | some a =>
    cases av:mm ys with
    | none=>simp [aP,av] at aa
    | some b =>
     simp only [aP,av,Option.some.injEq] at aa;subst aa;obtain ⟨h1,HJ,af⟩:=(ao 0 y v rfl rfl).jS (λ_ h=>h) lO aP;obtain ⟨aI,TJ,bK⟩:=LR lO (by simpa using ak) (λk y' gz ax hv=>ao (k+1) y' gz ax hv) av;refine ⟨by simp [h1,aI],λk u hu=>?_,λk x u J hu=>?_⟩
     ·simp only [List.flatMap_cons] at hu;by_cases hk:k<v.cells.toList.length
      ·rw [List.getElem?_append_left hk] at hu;exact HJ k u (by simpa using hu)
      ·rw [List.getElem?_append_right (by omega)] at hu;exact TJ _ u hu
     simp only [List.flatMap_cons] at hu;by_cases hk:k<a.length
     ·rw [List.getElem?_append_left hk] at J;rw [List.getElem?_append_left (by simp; omega)] at hu;exact af k x u J (by simpa using hu)
     ·rw [List.getElem?_append_right (by omega)] at J;rw [List.getElem?_append_right (by simp; omega)] at hu;refine bK (k - a.length) x u J ?_;rw [<- hu]; simp [h1]
end
end Go.Own
namespace Go.Own
open Go
theorem MN (off:Nat):∀ (l:List Value) (s:Nat) (arr:Array Value),off+s+l.length<=arr.size ->
  ((l.zipIdx s).foldl (λcs (x:Value × Nat)=>cs.setIfInBounds (off+x.2) x.1) arr).toList=arr.toList.take (off+s)++l++arr.toList.drop (off+s+l.length)
 | [],s,arr,h=>by simp
 | v::l,s,arr,h=>by
  simp only [List.length_cons] at h;rw [List.zipIdx_cons,List.foldl_cons,MN off l (s+1) _ (by simp; omega)];simp only [Array.toList_setIfInBounds,List.length_cons];have h1:(arr.toList.set (off+s) v).take (off+(s+1))=arr.toList.take (off+s)++[v]:=by
   rw [show off+(s+1)=off+s+1 by omega,List.take_succ_eq_append_getElem (by simp; omega)];rw [List.take_set_of_le (Nat.le_refl _)];simp
  have af:(arr.toList.set (off+s) v).drop (off+(s+1)+l.length)=arr.toList.drop (off+s+(l.length+1)):=by
   rw [List.drop_set_of_lt (by omega)];congr 1; omega
  rw [h1,af];simp
theorem MI {place:Nat->Option (Nat × Nat)}{i off size:Nat}(au:place i=some (off,size)) {arr:Array Value}{v:Value}(h1:v.cells.size=size) (af:off+v.cells.size<=arr.size) (rest:List (Nat × Value)) :
  ∃ jo:Array Value,Instr.fill place arr ((i,v)::rest)=Instr.fill place jo rest/\jo.toList=arr.toList.take off++v.cells.toList++arr.toList.drop (off+v.cells.size):=by
 refine ⟨_,by simp only [Instr.fill,au]; rw [if_neg (by simp; omega)],?_⟩;have:=MN off v.cells.toList 0 arr (by simpa using af)
 grind [Array.toList_zipIdx]
theorem MH (z:Nat):∀ (vs:List Value) (k:Nat) (arr:Array Value) (done rest:List Value),(∀ v∈vs,v.cells.size=z)->arr.toList=done++rest->done.length=k * z->rest.length=vs.length * z ->
  ∃ jo:Array Value,Instr.fill (λi=>some (i * z,z)) arr (vs.mapIdx λi v=>(k+i,v))=some jo/\jo.toList=done++vs.flatMap λv=>v.cells.toList
 | [],k,arr,done,rest,_,h1,af,aI=>by
  have:rest=[]:=List.eq_nil_of_length_eq_zero (by simpa using aI);subst this;exact ⟨arr,rfl,by simpa using h1⟩
 | v::vs,k,arr,done,rest,aY,h1,af,aI=>by
  have hv:=aY v (by simp);have hlen:arr.size=done.length+rest.length:=by rw [<- Array.length_toList,h1,List.length_append]
  simp only [List.length_cons,Nat.add_mul,Nat.one_mul] at aI;rw [List.mapIdx_cons];obtain ⟨D5,cz,cf⟩:=MI (place:=λi=>some (i * z,z)) (i:=k+0) (off:=k * z) (size:=z) (by simp) (arr:=arr) (v:=v) hv (by omega) ((vs.mapIdx λi v=>(k+(i+1),v)));have tG:D5.toList=(done++v.cells.toList)++rest.drop z:=by
   rw [cf,h1,<- af,List.take_left,hv,List.drop_append];simp
  obtain ⟨jo,fO,mR⟩:=MH z vs (k+1) D5 (done++v.cells.toList) (rest.drop z) (λu hu=>aY u (by simp [hu])) tG (by simp [af,hv,Nat.add_mul]) (by simp; omega);refine ⟨jo,?_,by rw [mR]; simp⟩;rw [cz,<- fO];congr 1;congr 1;funext i u;congr 1; omega
theorem Lv {vs:Array Value}(h:vs.all Value.oneCell'=true):∀ (k:Nat) (u:Value),vs[k]?=some u->u.oneCell'=true:=by grind
theorem G0 {P:Program}{e:TypeId}{z:Value}(h:(P.info? e).bind (·.zero)=some z) (w:World):(zeroValue e).run P w=.ok z w:=by
 cases hi:P.info? e with
 | none=>simp [hi] at h
 | some i=>simp [hi] at h; simp [zeroValue,typeInfo,hi,h]
theorem MQ {α:Type}(l:List α):∀ (n k:Nat),k<n * l.length->(List.replicate n l).flatten[k]?=l[k % l.length]?
 | 0,k,h=>by simp at h
 | n+1,k,h=>by
  rw [List.replicate_succ,List.flatten_cons];by_cases hk:k<l.length
  ·rw [List.getElem?_append_left hk,Nat.mod_eq_of_lt hk]
  ·rw [List.getElem?_append_right (by omega),MQ l n (k - l.length) (by rw [Nat.add_mul] at h; omega)];rw [<- Nat.mod_eq_sub_mod (by omega)]
section
variable {P:Program}{w:World}{I:bb}{T:Array Value}{g:aM}{Fs:Nat->bb}
theorem RT {ys cs:List ab}{z:Nat}(aY:∀ y∈ys,∃ c,jS y=some c/\c.length=z) (aa:mm ys=some cs):cs.length=ys.length * z:=by
 induction ys generalizing cs with
 | nil=>simp [mm] at aa; subst aa; simp
 | cons y ys aU =>
  obtain ⟨c,h1,af⟩:=aY y (by simp);simp only [mm,h1] at aa
  grind
theorem p9.sound (h:cG w I T g Fs) {a:Act}(aP:a.tmps=T) {o:Oper}{kE:ab}(au:p9 P g o.op o.type kE) :
  ∃ v sn,(execOp a.eval o).run P w=.ok (.value v) (w.alloc sn)/\R (w.alloc sn) I (dT (w.alloc sn) T g) kE v (λc=>c=w.heap.size):=by
 obtain ⟨dst,op,ty,pos,after,guard⟩:=o;simp only at au;have nj:∀ (sn:Obj) {x:ab}{v:Value},R w I (dT w T g) x v cy->R (w.alloc sn) I (dT (w.alloc sn) T g) x v cy:=λsn _ _ aZ=>R.alloc h sn aZ λ_ h=>h.elim;cases au with
 | @box e _ x y cs J aa =>
  have ax:=kf h J aP;obtain ⟨h1,HJ,af⟩:=ax.jS (λ_ h=>h) (λ_ _ J ao=>ao.Fu J) aa;refine ⟨_,.cells (a.eval x).cells e,by simp [execOp,Instr.box,newVar,newRow],R.O1 (e:=e) (tu w _) h1 HJ λk x u J hu=>nj _ (af k x u J hu)⟩
 | @alloc e _ z aY hp =>
  refine ⟨_,.cells z.cells e,by simp [execOp,Instr.alloc,newVar,newRow,G0 aY],R.O1 (e:=e) (tu w _) (by simp) (Lv hp) λk x u J hu=>nj _ (O2 k x u J (by simpa using hu))⟩
 | @makeMap t _ q bg =>
  have IH:(Instr.makeMap t none).run P w=.ok (.map (some w.heap.size)) (w.alloc (.map #[] 0)):=rfl;exact ⟨.map (some w.heap.size),.map #[] 0,by simp [execOp,IH],.mp (tu w _) bg λc=>Iff.rfl⟩
 | @buildSlice t e _ z parts xs ys cs aw au J aY aa av kO hzero =>
  obtain ⟨hu,he,fX⟩:=qO (w:=w) aw;obtain ⟨ak,ao⟩:=zT h aP J;have ha:=RT aY aa;have Wa:∀ v∈xs.map a.eval,v.cells.size=z:=by
   intro v hv;obtain ⟨x,zE,rfl⟩:=List.mem_map.1 hv;obtain ⟨k,hk,rfl⟩:=List.mem_iff_getElem.1 zE;have oU:ys[k]?=some (ys[k]'(by omega)):=List.getElem?_eq_getElem (by omega);obtain ⟨c,h1,af⟩:=aY _ (List.getElem_mem (l:=ys) (n:=k) (by omega));obtain ⟨aI,_,_⟩:=(ao k _ _ oU (List.getElem?_eq_getElem hk)).jS (λ_ h=>h) (λ_ _ J ao=>ao.Fu J) h1
   grind
  obtain ⟨dJ,WK⟩:∃ dJ:Array Value,(xs.length * z=0/\dJ=#[])\/(xs.length * z≠0/\∃ v,dJ=v.cells/\(zeroValue e).run P w=.ok v w):=by
   by_cases aR:xs.length * z=0
   ·grind
   ·rcases hzero with h1 | ⟨v,h1,af⟩
    ·grind
    simp_all [G0]
  obtain ⟨arr,cz,cf⟩:=MH z (xs.map a.eval) 0 ((Array.range (xs.length * z)).map (dJ[· % dJ.size]!)) [] ((Array.range (xs.length * z)).map (dJ[· % dJ.size]!)).toList Wa (by simp) (by simp) (by simp);have NY:(parts.map λ(p:Nat × Operand)=>(p.1,a.eval p.2)).toList=(xs.map a.eval).mapIdx λi v=>(0+i,v):=by
   rw [Array.toList_map,au];apply List.ext_getElem?
   grind
  obtain ⟨hE,im,U7⟩:=LR (ρ:=dT w T g) (λ_ _ J ao=>ao.Fu J) (ys:=ys) (vs:=xs.map a.eval) (by simp [ak]) (λk y v ax hv=>by
   rw [List.getElem?_map] at hv;cases qA:xs[k]? with
   | none=>simp [qA] at hv
   | some x=>simp [qA] at hv; subst hv; exact ao k y x ax qA) aa
  have tQ:arr.toList=(xs.map a.eval).flatMap λv=>v.cells.toList:=by simpa using cf
  have VZ:arr.size=xs.length * z:=by rw [<- Array.length_toList,tQ,<- hE,ha,ak]
  have hP:(execOp a.eval { dst:=dst,op:=.buildSlice t xs.length parts,type:=ty,pos:=pos,after:=after,guard:=guard }).run P w=.ok (.value (.slice (some ⟨w.heap.size,0,none⟩) xs.length xs.length)) (w.alloc (.cells arr e)):=by
   have hle:¬ (16777216<xs.length * z):=by omega
   rcases WK with ⟨aR,rfl⟩ | ⟨aR,v,rfl,WJ⟩
   ·simp only [aR] at cz;rw [<- NY] at cz;simp at cz;simp [execOp,Instr.buildSlice,run_underlying hu,fX,aR,cz,newRow]
   ·rw [<- NY] at cz;simp at cz;simp [execOp,Instr.buildSlice,run_underlying hu,fX,aR,hle,WJ,cz,newRow]
  refine ⟨_,_,hP,R.Pc (e:=e) (arr:=arr) (tu w _) (Nat.le_refl _) ?_ VZ (by rw [ha,ak]) (λk u hu=>im k u (by rw [<- tQ]; simpa using hu)) λk x u J hu=>nj _ (U7 k x u J ?_)⟩
  ·grind [maxLen]
  grind
 | @makeSlice t e _ x y z n b zH pN dJ aw J ax hzero hp pJ av aF oe yv vy EW =>
  obtain ⟨hu,he,fX⟩:=qO (w:=w) aw;have h1:=(kf h J aP).hA.1;have af:=(kf h ax aP).hA.1;cases hi:P.info? e with
  | none=>simp [hi] at av
  | some i =>
   simp [hi] at av hzero;have NK:i.size=z:=by
    grind [fu]
   have Ex:(i.bytes:Int) * (n:Int)<=281474976710656:=by
    grind
   have ao:=run_make (P:=P) w t e i dJ hu hi hzero zH pN n n (by omega) (Int.le_refl _) Ex (by omega);simp only [Int.toNat_natCast] at ao;refine ⟨_,.cells (madeCells dJ.cells (n * i.size)) e,by simp [execOp,h1,af,ao],R.Pc (e:=e) (tu w _) (Nat.le_refl _) (by unfold maxLen; omega) (by rw [size_madeCells,NK]) (by simp [pJ,vy]) (λk u hu=>?_) λk x u J hu=>?_⟩
   ·grind [madeCells,Nat.mod_lt]
   have hk:k<n * dJ.cells.size:=by
    have:=(List.getElem?_eq_some_iff.1 J).1
    simp_all
   have aR:0<dJ.cells.size:=by
    grind
   have hm:k % dJ.cells.size<dJ.cells.size:=Nat.mod_lt _ aR;rw [MQ _ n k (by simpa [vy] using hk),vy] at J;rw [madeCells,Array.getElem?_map,Array.getElem?_range,if_pos (by rw [NK,<- pJ]; exact hk)] at hu;simp only [Option.map_some,Option.some.injEq] at hu;have jP:dJ.cells[k % dJ.cells.size]! = dJ.cells[k % dJ.cells.size]:=by simp [hm]
   rw [jP] at hu;subst hu;rcases EW _ _ x (Array.getElem?_eq_getElem hm) J with rfl | ⟨h1,bE,rfl⟩
   ·grind [CG]
   ·have aZ:=CG (w:=w) (I:=I) (ρ:=dT w T g) dJ.cells[k % dJ.cells.size];rw [h1] at aZ;rw [aZ.sg];exact .hF λ_ h=>h
def Cells (w:World) (I:bb) (ρ:ab->Value->Prop) (cs:List ab) (vs:List Value):Prop :=
 cs.length=vs.length/\(∀ (k:Nat) (u:Value),vs[k]?=some u->u.oneCell'=true)/\∀ (k:Nat) (x:ab) (u:Value),cs[k]?=some x->vs[k]?=some u->R w I ρ x u cy
theorem Cells.append {ρ:ab->Value->Prop}{a b:List ab}{u v:List Value}(h:Cells w I ρ a u) (aQ:Cells w I ρ b v):Cells w I ρ (a++b) (u++v):=by
 refine ⟨by simp [h.1,aQ.1],λk y ax=>?_,λk x y J ax=>?_⟩
 ·by_cases hk:k<u.length
  ·rw [List.getElem?_append_left hk] at ax; exact h.2.1 k y ax
  ·rw [List.getElem?_append_right (by omega)] at ax; exact aQ.2.1 _ y ax
 ·by_cases hk:k<a.length
  ·rw [List.getElem?_append_left hk] at J;rw [List.getElem?_append_left (by rw [<- h.1]; exact hk)] at ax;exact h.2.2 k x y J ax
  ·rw [List.getElem?_append_right (by omega)] at J;rw [List.getElem?_append_right (by rw [<- h.1]; omega)] at ax;exact aQ.2.2 _ x y J (by rw [h.1]; exact ax)
theorem Cells.take {ρ:ab->Value->Prop}{a:List ab}{u:List Value}(h:Cells w I ρ a u) (n:Nat):Cells w I ρ (a.take n) (u.take n):=by
 refine ⟨by simp [h.1],λk y ax=>?_,λk x y J ax=>?_⟩
 ·rw [List.getElem?_take] at ax
  split at ax
  ·exact h.2.1 k y ax
  grind
 ·rw [List.getElem?_take] at J ax
  split at J
  ·rename_i hk;rw [if_pos hk] at ax;exact h.2.2 k x y J ax
  grind
theorem Cells.drop {ρ:ab->Value->Prop}{a:List ab}{u:List Value}(h:Cells w I ρ a u) (n:Nat):Cells w I ρ (a.drop n) (u.drop n):=by
 refine ⟨by simp [h.1],λk y ax=>?_,λk x y J ax=>?_⟩
 ·rw [List.getElem?_drop] at ax; exact h.2.1 _ y ax
 ·rw [List.getElem?_drop] at J ax;exact h.2.2 _ x y J ax
theorem MG {ρ:ab->Value->Prop}{place:Nat->Option (Nat × Nat)}:∀ (ps:List (Nat × List ab)) (tf:List (Nat × Value)) {cells cs:List ab}{arr:Array Value},Cells w I ρ cells arr.toList ->
  ps.map (·.1)=tf.map (·.1)->(∀ (k:Nat) (p:Nat × List ab) (q:Nat × Value),ps[k]?=some p->tf[k]?=some q->Cells w I ρ p.2 q.2.cells.toList)->u4 place cells ps=some cs ->
  ∃ jo:Array Value,Instr.fill place arr tf=some jo/\Cells w I ρ cs jo.toList
 | [],tf,cells,cs,arr,aa,hk,_,aW=>by
  cases tf with
  | nil=>simp only [u4,Option.some.injEq] at aW; subst aW; exact ⟨arr,rfl,aa⟩
  | cons=>simp at hk
 | (i,c)::ps,tf,cells,cs,arr,aa,hk,ao,aW=>by
  cases tf with
  | nil=>simp at hk
  | cons q tf =>
   obtain ⟨j,v⟩:=q;simp only [List.map_cons,List.cons.injEq] at hk;obtain ⟨rfl,hk⟩:=hk;have aR:=ao 0 _ _ rfl rfl;simp only [u4] at aW;cases au:place i with
   | none=>simp [au] at aW
   | some os =>
    obtain ⟨off,size⟩:=os;simp only [au] at aW
    split at aW
    ·rename_i ab7;have hlen:v.cells.size=c.length:=by rw [<- Array.length_toList]; exact aR.1.symm
     have NQ:arr.size=cells.length:=by rw [<- Array.length_toList]; exact aa.1.symm
     obtain ⟨D5,cz,cf⟩:=MI (arr:=arr) (v:=v) au (by omega) (by omega) tf;have im:Cells w I ρ (cells.take off++c++cells.drop (off+c.length)) D5.toList:=by
      rw [cf,hlen];exact ((aa.take off).append aR).append (aa.drop _)
     obtain ⟨jo,fO,mR⟩:=MG ps tf im hk (λk p q au bg=>ao (k+1) p q au bg) aW;exact ⟨jo,by rw [cz,fO],mR⟩
    ·cases aW
theorem Pj (h:cG w I T g Fs) {a:Act}(aP:a.tmps=T):∀ {l:List (Nat × Operand)}{ps:List (Nat × List ab)},rp g l=some ps ->
  ps.map (·.1)=(l.map λp=>(p.1,a.eval p.2)).map (·.1)/\∀ (k:Nat) (p:Nat × List ab) (q:Nat × Value),ps[k]?=some p->(l.map λp=>(p.1,a.eval p.2))[k]?=some q->Cells w I (dT w T g) p.2 q.2.cells.toList
 | [],ps,au=>by simp only [rp,Option.some.injEq] at au; subst au; simp
 | (i,x)::l,ps,au=>by
  simp only [rp] at au;cases J:bt g x with
  | none=>simp [J] at au
  | some y =>
   cases ak:rp g l with
   | none=>simp [J,ak] at au
   | some acW =>
    simp only [J,ak,Option.map_eq_some_iff] at au;obtain ⟨c,aa,rfl⟩:=au;obtain ⟨h1,af⟩:=Pj h aP ak;refine ⟨by simp [h1],λk p q au bg=>?_⟩;cases k with
    | zero =>
     simp at au bg;subst au bg;obtain ⟨aI,TH,bK⟩:=(kf h J aP).jS (λ_ h=>h) (λ_ _ J ao=>ao.Fu J) aa;exact ⟨by simpa using aI,λk u hu=>TH k u (by simpa using hu),λk x u J hu=>bK k x u J (by simpa using hu)⟩
    | succ k=>simp at au bg; exact af k p q au (by simpa using bg)
theorem YN {t:TypeId}{pl:List (Nat × Nat)}(h:kA P t pl=true):∃ fs,P.underlying t=some (.struct fs)/\fs.toList.mapM (λf=>(P.info? f.type).map λi=>(f.offset,i.size))=some pl:=by
 unfold kA at h;cases hu:P.underlying t with
 | none=>simp [hu] at h
 | some d =>
  cases d <;> simp only [hu,Bool.false_eq_true] at h;rename_i fs;refine ⟨fs,rfl,?_⟩;replace h:=LawfulBEq.eq_of_beq h;generalize fs.toList=l at h
  induction l generalizing pl with
  | nil=>cases pl with
   | nil=>rfl
   | cons=>simp at h
  | cons f l aU =>
   cases pl with
   | nil=>simp at h
   | cons p pl =>
    obtain ⟨o,s⟩:=p;simp only [List.map_cons,List.cons.injEq,Prod.mk.injEq] at h;obtain ⟨⟨rfl,h1⟩,af⟩:=h;have:=aU af;rw [List.mapM_cons,this];cases hi:P.info? f.type with
    | none=>simp [hi] at h1
    | some i=>simp [hi] at h1; subst h1; rfl
theorem uV.sound (h:cG w I T g Fs) {a:Act}(aP:a.tmps=T) {o:Oper}{kE:ab}(au:uV P g o.op o.type kE) :
  ∃ v,(execOp a.eval o).run P w=.ok (.value v) w/\R w I (dT w T g) kE v cy:=by
 obtain ⟨dst,op,ty,pos,after,guard⟩:=o;simp only at au;cases au with
 | @build t _ parts pl dJ ps cs aw aY hp au aa =>
  obtain ⟨fs,hu,ud⟩:=YN aw;obtain ⟨h1,af⟩:=Pj h aP au;obtain ⟨jo,cz,cf⟩:=MG (w:=w) (I:=I) (ρ:=dT w T g) (place:=λi=>pl[i]?) ps _ (arr:=dJ.cells) ⟨by simp,λk u hu=>Lv hp k u (by simpa using hu),λk x u J hu=>O2 k x u J hu⟩ h1 af aa;refine ⟨.agg jo,?_,.agg (Fs:=λ_=>cy) (by simpa using cf.1) (λk u hu=>cf.2.1 k u (by simpa using hu)) (λk x u J hu=>cf.2.2 k x u J (by simpa using hu)) (λ_ _ _ _ _ h=>h.elim) (λc=>⟨λh=>h.elim,λ⟨_,_,h⟩=>h⟩)⟩;have acG:=run_places (P:=P) w fs.toList pl ud;have av:P.built t ((parts.map λ(p:Nat × Operand)=>(p.1,a.eval p.2))).toList=some jo:=by
   rw [Array.toList_map];cases hi:P.info? t with
   | none=>simp [hi] at aY
   | some it =>
    simp_all [Program.built]
  simp_all [run_build,execOp]
 | @makeFunc fn first caps _ gK gw h1 af =>
  obtain ⟨aE,a2⟩:=zT h aP h1;obtain ⟨hg,iD⟩:=zT h aP af;refine ⟨.func fn (first.map a.eval) (caps.map a.eval),by simp [execOp,Instr.makeFunc],.cW (λ_ h=>h) (by simpa using aE) (by simpa using hg) (λk x u J hu=>?_) (λk x u J hu=>?_)⟩
  ·grind
  grind
end
end Go.Own
namespace Go.Own
open Go
structure DL (w w':World) (bv gz:Value) (e cf:TypeId) (z n m:Nat) (us news:List Value):Prop where
 nj:w'.ownsRow 0 e z bv n us
 new:w'.ownsRow 0 cf z gz (n+m) (us++news)
 eS:Fr w w' (λc=>bv.ownBlock=some c)
 D8:∀ c,gz.ownBlock=some c->bv.ownBlock=some c\/w.heap.size<=c
 sp:∀ c,bv.ownBlock=some c->∃ arr jo:Array Value,w.heap[c]?=some (.cells arr e (0,0))/\w'.heap[c]?=some (.cells jo e (0,0))/\jo.size=arr.size/\jo.toList.take (n * z)=arr.toList.take (n * z)
section
variable {P:Program}{w:World}
theorem DL.same {bv gz:Value}{e cf:TypeId}{z n m:Nat}{us news:List Value}{w':World}(lb:w.ownsRow 0 e z bv n us) (av:∀ c,c<w.heap.size->w'.heap[c]?=w.heap[c]?) (aC:w.heap.size<=w'.heap.size)
  (h1:w'.os=w.os) (af:w'.tape=w.tape) (aI:w'.output=w.output) (r6:w'.ownsRow 0 cf z gz (n+m) (us++news)) (hblk:∀ c,gz.ownBlock=some c->bv.ownBlock=some c\/w.heap.size<=c) (re:∀ a,w'.frozen? a=w.frozen? a) (U_:w.drawn<=w'.drawn:=by first | exact Nat.le_refl _ | exact Nat.le_succ _):DL w w' bv gz e cf z n m us news:=by
 have aT:=lb.lt;refine ⟨vJ lb λc aa=>av c (aT c aa).2,r6,⟨h1,af,aI,aC,λb l4 _=>av b l4,λa _=>re a,U_⟩,hblk,λc aa=>?_⟩;obtain ⟨_,bY⟩:=lb;rcases bY with ⟨rfl,_⟩ | ⟨b,cap,cur,rfl,_,aO,_⟩
 ·simp [Value.ownBlock] at aa
 ·simp only [Value.ownBlock,Option.some.injEq] at aa;subst aa;exact ⟨cur,cur,aO,(av _ (aT b rfl).2).trans aO,rfl,rfl⟩
theorem Yb (t ty e cj:TypeId) (i:TypeInfo) (aw:P.underlying t=some (.slice e)) (hi:P.info? e=some i)
  (b yf Kn:Nat) (cur:Array Value) (aO:w.heap[b]?=some (.cells cur cj (0,0)))
  (a:Addr) (m c:Nat) (news:List Value) (ak:news.length=m * i.size) (uc:∀ j u,news[j]?=some u->w.cell? (a.add j)=some u) (h1:∀ u∈news,u.oneCell'=true)
  (B5:yf+m<=Kn) (w9:yf * i.size+news.length<=cur.size) :
  (Builtin.append_ #[t,t] ty #[.slice (some ⟨b,0,none⟩) yf Kn,.slice (some a) m c]).run P w =
   .ok (.slice (some ⟨b,0,none⟩) (yf+m) Kn) (w.setRow b (cur.toList.take (yf * i.size)++news++cur.toList.drop (yf * i.size+news.length)).toArray):=by
 have aW:=run_firstCells_some (P:=P) w i.size m a m c news ak uc;have b1:=run_storeCells_at P b (yf * i.size) cj news 0 cur w aO (by simpa using w9) h1;simp only [Nat.add_zero] at b1;simp [Builtin.append_,run_underlying aw,sizeOf,typeInfo,hi,Builtin.lenOf,B5,aW,Addr.add_lit,b1]
theorem PF (t ty e cj:TypeId) (i:TypeInfo) (dJ:Value) (aw:P.underlying t=some (.slice e)) (hi:P.info? e=some i) (aY:i.zero=some dJ) (pJ:dJ.cells.size=i.size) (_h0:0<i.size)
  {bv:Value}{n m c:Nat}{us news:List Value}(lb:w.ownsRow 0 cj i.size bv n us) {a:Option Addr}(aP:0<m->a.isSome=true)
  (ak:news.length=m * i.size) (uc:∀ ad,a=some ad->∀ (j:Nat) (u:Value),news[j]?=some u->w.cell? (ad.add j)=some u) (h1:∀ u∈news,u.oneCell'=true)
  (ra:n+m<=maxLen) (Ex:(n+m) * i.bytes<=140737488355328) :
  ∃ gz w' cf,(Builtin.append_ #[t,t] ty #[bv,.slice a m c]).run P w=.ok gz w'/\DL w w' bv gz cj cf i.size n m us news:=by
 have l_:=lb.1;by_cases hm:m=0
 ·subst hm;have aF:news=[]:=List.eq_nil_of_length_eq_zero (by simpa using ak);subst aF;refine ⟨bv,w,cj,?_,.same lb (λ_ _=>rfl) (Nat.le_refl _) rfl rfl rfl (by simpa using lb) (λc aa=>.inl aa) λ_=>rfl⟩;obtain ⟨_,bY⟩:=lb;rcases bY with ⟨rfl,rfl⟩ | ⟨b,cap,cur,rfl,_,aO,hle,_⟩
  ·cases a <;> simp [Builtin.append_,run_underlying aw,sizeOf,typeInfo,hi,Builtin.lenOf,Builtin.firstCells,loadCells,loadCellsFrom]
  ·cases a <;> simp [Builtin.append_,run_underlying aw,sizeOf,typeInfo,hi,Builtin.lenOf,Builtin.firstCells,loadCells,loadCellsFrom,hle,storeCells]
 ·cases a with
  | none=>simp at aP; omega
  | some ad =>
   replace uc:=uc ad rfl;have acH:n+m<=9223372036854775807:=by simp only [maxLen] at ra; omega
   have grown:∀ (nj:Nat),nj<n+m ->
     (w.drew.alloc (.cells (us.toArray++news.toArray++Builtin.zeroCells dJ.cells (grownCap w (n+m) nj e - (n+m))) e)).ownsRow 0 e i.size (.slice (some ⟨w.heap.size,0,none⟩) (n+m) (grownCap w (n+m) nj e)) (n+m) (us++news):=by
    intro nj a1;have dU:=grownCap_ge w (n+m) nj e;have hlen:(us++news).length=(n+m) * i.size:=by rw [List.length_append,l_,ak,Nat.add_mul]
    refine ⟨hlen,.inr ⟨w.heap.size,_,_,rfl,Nat.zero_le _,tu w.drew _,dU,grownCap_le_maxLen w (n+m) nj e ra,?_,?_⟩⟩
    ·simp only [Array.size_append,List.size_toArray,size_zeroCells,pJ,l_,ak,<- Nat.add_mul];congr 1;omega
    ·simp only [Array.toList_append,List.append_assoc];rw [<- List.append_assoc,<- hlen];exact List.take_left
   have IL:=lb;obtain ⟨_,bY⟩:=lb;rcases bY with ⟨rfl,rfl⟩ | ⟨b,cap,cur,rfl,_,aO,hle,vd,hE,N9⟩
   ·have J:us=[]:=List.eq_nil_of_length_eq_zero (by simpa using l_);subst J;have ao:=run_append_nil (P:=P) w t ty e i dJ aw hi aY ad m c news ak uc (by omega) (by omega) (by simp only [Nat.zero_add] at Ex; omega);have r4:=grown 0 (by omega);simp only [Nat.zero_add,List.nil_append,Array.empty_append] at r4;exact ⟨_,_,e,ao,.same IL (λc aa=>sA w.drew _ c aa) (by simp) rfl rfl rfl (by simpa using r4) (λc aa=>.inr (by simp [Value.ownBlock] at aa; omega)) (λa=>HA w.drew _ _ a)⟩
   ·by_cases B5:n+m<=cap
    ·have w9:n * i.size+news.length<=cur.size:=by rw [ak,hE,<- Nat.add_mul]; exact Nat.mul_le_mul_right _ B5
     have ao:=Yb (P:=P) (w:=w) t ty e cj i aw hi b n cap cur aO ad m c news ak uc h1 B5 w9;have hlen:(us++news).length=(n+m) * i.size:=by rw [List.length_append,l_,ak,Nat.add_mul]
     have fX:(cur.toList.take (n * i.size)++news++cur.toList.drop (n * i.size+news.length)).toArray.size=cur.size:=by
      simp only [List.size_toArray,List.length_append,List.length_take,List.length_drop,Array.length_toList];omega
     have gm:(cur.toList.take (n * i.size)++news++cur.toList.drop (n * i.size+news.length)).take (n * i.size)=cur.toList.take (n * i.size):=by
      rw [List.append_assoc];exact List.take_left' (by simp; omega)
     refine ⟨_,_,cj,ao,⟨⟨l_,.inr ⟨b,cap,_,rfl,Nat.zero_le _,setRow_heap w b cur _ cj _ aO,hle,vd,fX.trans hE,?_⟩⟩,⟨hlen,.inr ⟨b,cap,_,rfl,Nat.zero_le _,setRow_heap w b cur _ cj _ aO,B5,vd,fX.trans hE,?_⟩⟩,
      ⟨rfl,rfl,rfl,by simp,λk _ hk=>setRow_other w b k _ (λe=>hk (by simp [Value.ownBlock,e])),λa _=>HC w b _ a,Nat.le_refl _⟩,λc aa=>.inl aa,λc aa=>?_⟩⟩
     ·rw [<- N9]; exact gm
     ·rw [N9,<- hlen];exact List.take_left
     ·simp only [Value.ownBlock,Option.some.injEq] at aa;subst aa;exact ⟨cur,_,aO,setRow_heap w b cur _ cj _ aO,fX,gm⟩
    ·have holds:∀ (j:Nat) (u:Value),us[j]?=some u->w.cell? ((⟨b,0,none⟩:Addr).add j)=some u:=IL.cells (g:=b) rfl;have ao:=run_append_grow (P:=P) w t ty e i dJ aw hi aY ⟨b,0,none⟩ n cap us l_ holds ad m c news ak uc (by omega) (by omega) (growslice_fits (by omega) Ex);have r4:=grown cap (by omega);exact ⟨_,_,e,ao,.same IL (λc aa=>sA w.drew _ c aa) (by simp) rfl rfl rfl r4 (λc aa=>.inr (by simp [Value.ownBlock] at aa; omega)) (λa=>HA w.drew _ _ a)⟩
end
end Go.Own
namespace Go.Own
open Go
section
variable {w w':World}{I:bb}{ρ ρ':ab->Value->Prop}
theorem R.kids {x:ab}{v:Value}{F:bb}(h:R w I ρ x v F) (J:x.kids≠[]):∃ Fs:Nat->bb,
  (∀ k y,x.kids[k]?=some y->∃ u,child w v k=some u/\R w I ρ y u (Fs k))/\(∀ (j k c:Nat),j<x.kids.length->k<x.kids.length->Fs j c->Fs k c->j=k) /\
  (∀ k c,k<x.kids.length->Fs k c->F c)/\(∀ z n cs,x=.own z n cs->∀ c,v.ownBlock=some c->∀ k,k<x.kids.length->¬ Fs k c):=by
 cases h with
 | @own z n cs _ e us Fs _ a1 ak h1 ao aS av aN =>
  refine ⟨Fs,λk y hk=>?_,aS,λk c hk aa=>(aN c).2 (.inr ⟨k,hk,aa⟩),λ_ _ _ _ c aa k hk h=>av k c hk h aa⟩;simp only [ab.kids] at hk;have aT:k<cs.length:=(List.getElem?_eq_some_iff.1 hk).1;have hu:us[k]?=some us[k]:=List.getElem?_eq_getElem (ak ▸ aT)
  grind [pS]
 | @obj cs b e arr Fs _ a1 ak h1 ao aS av aN =>
  refine ⟨Fs,λk y hk=>?_,aS,λk c hk aa=>(aN c).2 (.inr ⟨k,hk,aa⟩),λ_ _ _ h=>by simp at h⟩;simp only [ab.kids] at hk;have aT:k<cs.length:=(List.getElem?_eq_some_iff.1 hk).1;have hu:arr[k]?=some arr[k]:=Array.getElem?_eq_getElem (ak ▸ aT);exact ⟨_,by simp [child,World.cell?,a1,hu],ao k y _ hk hu⟩
 | @agg cs vs Fs _ ak h1 ao aS aN =>
  refine ⟨Fs,λk y hk=>?_,aS,λk c hk aa=>(aN c).2 ⟨k,hk,aa⟩,λ_ _ _ h=>by simp at h⟩;simp only [ab.kids] at hk;have aT:k<cs.length:=(List.getElem?_eq_some_iff.1 hk).1
  simp_all [child]
 | @bW cs vs Fs _ ak ao aS aN =>
  refine ⟨Fs,λk y hk=>?_,aS,λk c hk aa=>(aN c).2 ⟨k,hk,aa⟩,λ_ _ _ h=>by simp at h⟩;simp only [ab.kids] at hk;have aT:k<cs.length:=(List.getElem?_eq_some_iff.1 hk).1
  simp_all [child]
 | ref gh=>cases x <;> simp [ab.isRef,ab.kids] at gh J
 | _=>simp [ab.kids] at J
theorem ab.u1 {x y:ab}{k:Nat}{p:List Nat}(h:x.at (k::p)=some y):∃ c,x.kids[k]?=some c/\c.at p=some y:=by
 grind [ab.at]
theorem R.JU {b:Nat}:∀ (q r:List Nat) {x:ab}{v:Value}{F:bb}{z n bE cF:Nat}{cs cs':List ab}{mG Dw:Value},R w I ρ x v F->x.at q=some (.own z n cs)->x.at r=some (.own bE cF cs') ->
  walk w v q=some mG->walk w v r=some Dw->mG.ownBlock=some b->Dw.ownBlock=some b->q=r
 | [],[],_,_,_,_,_,_,_,_,_,_,_,_,_,_,_,_,_,_=>rfl
 | [],k::r,x,v,F,z,n,bE,cF,cs,cs',mG,Dw,h,bg,ao,oy,wr,y3,y4=>by
  obtain ⟨c,hk,aa⟩:=ab.u1 ao;simp only [ab.at,Option.some.injEq] at bg;simp only [walk,Option.some.injEq] at oy;subst bg oy;have aT:k<(ab.own z n cs).kids.length:=(List.getElem?_eq_some_iff.1 hk).1;obtain ⟨Fs,h1,af,aI,bK⟩:=h.kids (by intro e; rw [e] at aT; simp at aT);obtain ⟨u,hu,mU⟩:=h1 k c hk;simp only [walk,hu] at wr;obtain ⟨h0,cA,hw,dI,dy,_⟩:=R.focus r mU aa;rw [hw] at wr;cases wr;exact absurd (dy b (dI.qF b y4)) (bK z n cs rfl b y3 k aT)
 | j::q,[],x,v,F,z,n,bE,cF,cs,cs',mG,Dw,h,bg,ao,oy,wr,y3,y4=>by
  obtain ⟨c,hk,aa⟩:=ab.u1 bg;simp only [ab.at,Option.some.injEq] at ao;simp only [walk,Option.some.injEq] at wr;subst ao wr;have aT:j<(ab.own bE cF cs').kids.length:=(List.getElem?_eq_some_iff.1 hk).1;obtain ⟨Fs,h1,af,aI,bK⟩:=h.kids (by intro e; rw [e] at aT; simp at aT);obtain ⟨u,hu,mU⟩:=h1 j c hk;simp only [walk,hu] at oy;obtain ⟨h0,cA,hw,dI,dy,_⟩:=R.focus q mU aa;rw [hw] at oy;cases oy;exact absurd (dy b (dI.qF b y3)) (bK bE cF cs' rfl b y4 j aT)
 | j::q,k::r,x,v,F,z,n,bE,cF,cs,cs',mG,Dw,h,bg,ao,oy,wr,y3,y4=>by
  obtain ⟨c,ah,aa⟩:=ab.u1 bg;obtain ⟨d,hk,aS⟩:=ab.u1 ao;have eZ:j<x.kids.length:=(List.getElem?_eq_some_iff.1 ah).1;have fy:k<x.kids.length:=(List.getElem?_eq_some_iff.1 hk).1;obtain ⟨Fs,h1,af,aI,bK⟩:=h.kids (by intro e; rw [e] at eZ; simp at eZ);obtain ⟨u,hu,mU⟩:=h1 j c ah;obtain ⟨wb,jP,HV⟩:=h1 k d hk;simp only [walk,hu] at oy;simp only [walk,jP] at wr;by_cases gV:j=k
  ·subst gV;rw [ah] at hk; cases hk;rw [hu] at jP; cases jP;rw [R.JU q r mU aa aS oy wr y3 y4]
  ·exfalso;obtain ⟨h0,cA,hw,dI,dy,_⟩:=R.focus q mU aa;obtain ⟨Zi,jl,vt,BA,T_,_⟩:=R.focus r HV aS;rw [hw] at oy; cases oy;rw [vt] at wr; cases wr;exact gV (af j k b eZ fy (dy b (dI.qF b y3)) (T_ b (BA.qF b y4)))
theorem ab.PU:∀ (q:List Nat) {x y:ab},x.at q=some y->x.setAt q y=x
 | [],x,y,h=>by simp [ab.at] at h; simp [ab.setAt,h]
 | k::q,x,y,h=>by
  obtain ⟨c,hk,aa⟩:=ab.u1 h;simp only [ab.setAt,hk,ab.PU q aa];have:∀ (l:List ab),l[k]?=some c->l.set k c=l:=by
   intro l ak;apply List.ext_getElem?;intro j;by_cases gV:k=j
   ·subst gV;have aT:k<l.length:=(List.getElem?_eq_some_iff.1 ak).1;rw [List.getElem?_set_self aT,ak]
   ·rw [List.getElem?_set_ne gV]
  cases x <;> simp [ab.kids] at hk <;> simp [ab.v',this _ hk]
theorem Dz (w:World):∀ (p:List Nat) (v:Value) (r:List Nat),walk w v (p++r)=(walk w v p).bind λu=>walk w u r
 | [],v,r=>rfl
 | k::p,v,r=>by
  simp only [List.cons_append,walk];cases child w v k with
  | none=>rfl
  | some u=>exact Dz w p u r
theorem ab.GW:∀ (p:List Nat) (x:ab) (r:List Nat),x.at (p++r)=(x.at p).bind λy=>y.at r
 | [],x,r=>rfl
 | k::p,x,r=>by
  simp only [List.cons_append,ab.at];cases x.kids[k]? with
  | none=>rfl
  | some u=>exact ab.GW p u r
structure DY (w w':World) (b M:Nat):Prop where
 other:∀ c,c<w.heap.size->c≠b->w'.heap[c]?=w.heap[c]?
 here:∃ (arr jo:Array Value) (e:TypeId),w.heap[b]?=some (.cells arr e (0,0))/\w'.heap[b]?=some (.cells jo e (0,0))/\jo.size=arr.size/\jo.toList.take M=arr.toList.take M
theorem DY.row {b M:Nat}(s:DY w w' b M) {e:TypeId}{z n:Nat}{v:Value}{us:List Value}(h:w.ownsRow 0 e z v n us) (aF:v.ownBlock=some b->n * z<=M):w'.ownsRow 0 e z v n us:=by
 by_cases av:v.ownBlock=some b
 ·obtain ⟨arr,jo,cz,h1,af,aI,bK⟩:=s.here;obtain ⟨hu,bY⟩:=h;rcases bY with ⟨rfl,rfl⟩ | ⟨g,cap,cur,rfl,aO,aa,s',j1,Au,x9⟩
  ·grind [Value.ownBlock]
  ·simp only [Value.ownBlock,Option.some.injEq] at av;subst av;rw [h1] at aa;cases aa;refine ⟨hu,.inr ⟨g,cap,jo,rfl,aO,af,s',j1,by omega,?_⟩⟩;rw [<- x9];have:=congrArg (List.take (n * z)) bK
   rwa [List.take_take,List.take_take,Nat.min_eq_left (aF rfl)] at this
 ·exact vJ h λc aa=>s.other c (h.lt c aa).2 λe=>av (e ▸ aa)
theorem R.spare {b M:Nat}(s:DY w w' b M) (bf:∀ c,I c->c<w.heap.size/\c≠b) (lO:∀ x v,ρ x v->ρ' x v) {x:ab}{v:Value}{F:bb}(h:R w I ρ x v F) {q:List Nat}{z n:Nat}{cs:List ab}{h0:Value}
  (gu:x.at q=some (.own z n cs)) (hw:walk w v q=some h0) (av:h0.ownBlock=some b) (aF:n * z<=M) :
  R w' I ρ' x v F/\∀ r y,x.at r=some y->walk w' v r=walk w v r:=by
 obtain ⟨Zi,cA,vt,dI,dy,eW,kg⟩:=R.focus q h gu;rw [hw] at vt;cases vt;have mw:cA b:=dI.qF b av;have aT:=h.lt;have same:∀ c,F c->c≠b->w'.heap[c]?=w.heap[c]?:=λc aa dq=>s.other c (aT c aa) dq;have ab1:=dI;cases dI with
 | ref J=>simp [ab.isRef] at J
 | @own _ _ _ _ e us Fs _ a1 ak h1 ao aS iO aN =>
  have nJ:=s.row a1 λ_=>aF;have dq:∀ k c,k<cs.length->Fs k c->c≠b:=λk c hk aa e=>iO k c hk aa (e ▸ av);have jL:∀ k c,k<cs.length->Fs k c->F c:=λk c hk aa=>dy c ((aN c).2 (.inr ⟨k,hk,aa⟩));have r6:R w' I ρ' (.own z n cs) h0 cA:=by
   refine .own nJ ak h1 (λk x u J hu=>?_) aS iO aN;have hk:k<cs.length:=(List.getElem?_eq_some_iff.1 J).1;exact (ao k x u J hu).frame (λc aa=>s.other c (bf c aa).1 (bf c aa).2) (λ_ h=>h) lO λc aa=>same c (jL k c hk aa) (dq k c hk aa)
  constructor
  ·obtain ⟨c9,jM,pq⟩:=kg w' I ρ' _ cA ⟨λc aa=>s.other c (bf c aa).1 (bf c aa).2,λc aa aF=>same c aa λe=>aF (e ▸ mw),λ_ h=>h,lO⟩ r6 λc aa _=>aa;rw [ab.PU q gu] at jM;refine jM.y9 λc=>?_
   grind
  ·obtain ⟨ib,hr⟩:=eW w' λc aa aF=>same c aa λe=>aF (e ▸ mw);intro r y ec;rcases hr r y ec with ⟨dm,rfl⟩ | h
   ·rw [Dz,Dz,ib,hw];simp only [Option.bind_some];cases dm with
    | nil=>rfl
    | cons k dm =>
     grind [ab.GW,ab.u1,ab.kids,R.p0,walk,pS]
   ·exact h
end
end Go.Own
namespace Go.Own
open Go
section
variable {w w':World}{I:bb}{T:Array Value}{g:aM}{Fs:Nat->bb}
theorem cG.Kz (h:cG w I T g Fs) {t:Nat}{x:ab}(J:g t=some x):∃ v,T[t]?=some v/\dW w T ⟨t,[]⟩=some v/\jD w I (dT w T g) x v (Fs t):=by
 obtain ⟨v,hv,aZ⟩:=h.rel t x J;exact ⟨v,hv,by simp [dW,hv,walk],aZ⟩
theorem cG.app (h:cG w I T g Fs) {z n m:Nat}{p:Place}{bv gz:Value}{e cf:TypeId}{us news:List Value}(jV:dT w T g (.bM z p n 0 []) bv)
  (e9:∀ t bE cF m' c5,g t≠some (.bM bE p cF m' c5)) (A:DL w w' bv gz e cf z n m us news):cG w' I T g Fs/\∀ r v,dT w T g r v->dT w' T g r v:=by
 cases iO:bv.ownBlock with
 | none =>
  have same:∀ c,c<w.heap.size->w'.heap[c]?=w.heap[c]?:=λc aa=>A.eS.block c aa (by rw [iO]; simp);exact ⟨h.world (λt c aa=>same c (h.jZ t c aa)) (λc aa=>same c (h.lt c aa)) A.eS.size,λr v ao=>h.FM (λ_ _=>rfl) (λt c aa=>same c (h.jZ t c aa)) (λ_ _ h=>h) ao⟩
 | some b =>
  have s:DY w w' b (n * z):=by
   refine ⟨λc aa dq=>A.eS.block c aa (by rw [iO]; simpa using Ne.symm dq),?_⟩;obtain ⟨arr,jo,h1,af,aI,bK⟩:=A.sp b iO;exact ⟨arr,jo,e,h1,af,aI,bK⟩
  obtain ⟨t0,sS⟩:=h.D7 jV b iO;have bf:∀ c,I c->c<w.heap.size/\c≠b:=λc aa=>⟨h.lt c aa,λe=>h.bm t0 b sS (e ▸ aa)⟩;obtain ⟨⟨wC,wE,Ib,rfl⟩,dd⟩:=jV
  -- the home of the block
  have home:∃ N:Place->Prop,(∀ q bE cF cs' mG,bD g q=some (.own bE cF cs')->dW w T q=some mG->mG.ownBlock=some b->N q) /\
    (∀ q,N q->∀ t bE cF m' c5,g t=some (.bM bE q cF m' c5)->t=p.root/\p.path=[]) /\
    (∀ t bE fQ cF m' c5,Fs t b->g t=some (.bM bE fQ cF m' c5)->t=p.root/\p.path=[]) /\
    (∀ bE fQ cF m' c5,p.path=[]->g p.root=some (.bM bE fQ cF m' c5)->bE=z/\n=cF+m') /\
    (∀ t x v,Fs t b->g t=some x->T[t]?=some v->R w I (dT w T g) x v (Fs t)->∃ q bE cF cs' h0,x.at q=some (.own bE cF cs')/\walk w v q=some h0/\h0.ownBlock=some b/\cF * bE<=n * z):=by
   rcases dd with ⟨cs,au⟩ | ⟨fH,ln,nT,m1,acP,cs,au,aF,B3⟩
   ·-- the base is a row of a tree
    obtain ⟨qP,qU,gW,hD,nB⟩:=h.part au (by simp);rw [Ib] at gW;cases gW;have ke:t0=p.root:=h.eJ _ _ _ sS (nB b (hD.qF b iO));obtain ⟨eA,iH⟩:∃ eA,g p.root=some eA:=by
     unfold bD at au;cases J:g p.root with
     | none=>rw [J] at au; cases au
     | some x=>exact ⟨x,rfl⟩
    have px:eA.at p.path=some (.own z n cs):=by simpa [bD,iH] using au
    have lj:∀ bE fQ cF m' c5,g p.root≠some (.bM bE fQ cF m' c5):=by
     intro bE fQ cF m' c5 bY;rw [iH] at bY;cases bY;have:=(ab.sC px).2;simp at this
    obtain ⟨v0,iQ,gG⟩:=h.rel _ _ iH;have Bz:=gG.gJ (λbE fQ cF m' c5 e=>lj bE fQ cF m' c5 (by rw [iH,e]));have Cc:walk w v0 p.path=some (.slice wC n wE):=by simpa [dW,iQ] using Ib
    refine ⟨λq=>q=p,?_,?_,?_,?_,?_⟩
    ·intro q bE cF cs' mG bg sU w5;obtain ⟨Qq,GG,vr,HT,HP⟩:=h.part bg (by simp);rw [sU] at vr;cases vr;have ao:q.root=p.root:=(h.eJ _ _ _ (HP b (HT.qF b w5)) sS).trans ke;have BF:eA.at q.path=some (.own bE cF cs'):=by simpa [bD,ao,iH] using bg
     have I2:walk w v0 q.path=some mG:=by simpa [dW,ao,iQ] using sU
     have:=R.JU q.path p.path Bz BF px I2 Cc w5 iO;cases q; cases p; simp_all
    ·rintro q rfl t bE cF m' c5 bY; exact absurd bY (e9 t bE cF m' c5)
    ·intro t bE fQ cF m' c5 pD bY;have:t=p.root:=(h.eJ _ _ _ pD sS).trans ke;rw [this] at bY;exact absurd bY (lj _ _ _ _ _)
    ·intro bE fQ cF m' c5 _ bY; exact absurd bY (lj _ _ _ _ _)
    ·intro t x v pD J hv aZ;have:t=p.root:=(h.eJ _ _ _ pD sS).trans ke;subst this;rw [iH] at J; cases J;rw [iQ] at hv; cases hv;exact ⟨_,_,_,_,_,px,Cc,iO,Nat.le_refl _⟩
   ·-- the base is behind an append itself
    obtain ⟨v0,iQ,Ca,gG⟩:=h.Kz au;have V8:v0=.slice wC n wE:=by
     have:(⟨p.root,[]⟩:Place)=p:=by cases p; simp_all
     rw [this,Ib] at Ca;exact (Option.some.inj Ca).symm
    subst V8;obtain ⟨RU,cz,aby,Zc,acR,gG⟩:=gG.vA;by_cases nC:RU.ownBlock=some b
    ·obtain ⟨⟨aE,L7,Ob,rfl⟩,_⟩:=gG.jV;obtain ⟨mG,GG,sU,HT,HP⟩:=h.part B3 (by simp);rw [Ob] at sU;cases sU;have ke:t0=ln.root:=h.eJ _ _ _ sS (HP b (HT.qF b nC));obtain ⟨eA,iH⟩:∃ eA,g ln.root=some eA:=by
      unfold bD at B3;cases J:g ln.root with
      | none=>rw [J] at B3; cases B3
      | some x=>exact ⟨x,rfl⟩
     have px:eA.at ln.path=some (.own z nT cs):=by simpa [bD,iH] using B3
     have lj:∀ bE fQ cF m' c5,g ln.root≠some (.bM bE fQ cF m' c5):=by
      intro bE fQ cF m' c5 bY;rw [iH] at bY;cases bY;have:=(ab.sC px).2;simp at this
     obtain ⟨v1,uh,qn⟩:=h.rel _ _ iH;have Un:=qn.gJ (λbE fQ cF m' c5 e=>lj bE fQ cF m' c5 (by rw [iH,e]));have Cc:walk w v1 ln.path=some (.slice aE nT L7):=by simpa [dW,uh] using Ob
     refine ⟨λq=>q=ln,?_,?_,?_,?_,?_⟩
     ·intro q bE cF cs' mG bg sU w5;obtain ⟨Qq,QZ,vr,HU,HQ⟩:=h.part bg (by simp);rw [sU] at vr;cases vr;have ao:q.root=ln.root:=(h.eJ _ _ _ (HQ b (HU.qF b w5)) sS).trans ke;have BF:eA.at q.path=some (.own bE cF cs'):=by simpa [bD,ao,iH] using bg
      have I2:walk w v1 q.path=some mG:=by simpa [dW,ao,uh] using sU
      have:=R.JU q.path ln.path Un BF px I2 Cc w5 nC;cases q; cases ln; simp_all
     ·rintro q rfl t bE cF m' c5 bY; exact ⟨h.ru _ _ _ _ _ _ _ _ _ _ _ bY au,fH⟩
     ·intro t bE fQ cF m' c5 pD bY;have:t=ln.root:=(h.eJ _ _ _ pD sS).trans ke;rw [this] at bY;exact absurd bY (lj _ _ _ _ _)
     ·intro bE fQ cF m' c5 _ bY;rw [au] at bY; cases bY; exact ⟨rfl,aF⟩
     ·intro t x v pD J hv aZ;have:t=ln.root:=(h.eJ _ _ _ pD sS).trans ke;subst this;rw [iH] at J; cases J;rw [uh] at hv; cases hv;exact ⟨_,_,_,_,_,px,Cc,nC,Nat.mul_le_mul_right _ (by omega)⟩
    ·have mo:Fs p.root b:=(gG.aN b).2 ⟨iO,nC⟩;have ke:t0=p.root:=h.eJ _ _ _ sS mo;refine ⟨λ_=>False,?_,λ_ h=>h.elim,?_,?_,?_⟩
     ·intro q bE cF cs' mG bg sU w5;obtain ⟨Qq,QZ,vr,HU,HQ⟩:=h.part bg (by simp);rw [sU] at vr;cases vr;have ao:q.root=p.root:=h.eJ _ _ _ (HQ b (HU.qF b w5)) mo;unfold bD at bg;rw [ao,au] at bg;have:=(ab.sC bg).2;simp at this
     ·intro t bE fQ cF m' c5 pD _; exact ⟨h.eJ _ _ _ pD mo,fH⟩
     ·intro bE fQ cF m' c5 _ bY;rw [au] at bY; cases bY; exact ⟨rfl,aF⟩
     ·intro t x v pD J hv aZ;have:t=p.root:=h.eJ _ _ _ pD mo;subst this;rw [au] at J; cases J;exact aZ.lj.elim
  obtain ⟨N,M9,M_,M',Uj,Uk⟩:=home
  -- rows of pends
  have pends:∀ t bE fQ cF m' c5 v y5 cj tG iU Fg,g t=some (.bM bE fQ cF m' c5)->T[t]?=some v->GJ w I (dT w T g) bE fQ cF m' c5 v (Fs t) y5 cj tG iU Fg ->
    (v.ownBlock=some b->(cF+m') * bE<=n * z)/\(y5.ownBlock=some b->cF * bE<=n * z):=by
   intro t bE fQ cF m' c5 v y5 cj tG iU Fg aO hv aZ;by_cases aw:t=p.root/\p.path=[]
   ·obtain ⟨rfl,fH⟩:=aw;obtain ⟨rfl,rfl⟩:=Uj _ _ _ _ _ fH aO;exact ⟨λ_=>Nat.le_refl _,λ_=>Nat.mul_le_mul_right _ (by omega)⟩
   ·have vc:y5.ownBlock≠some b:=by
     intro l4;obtain ⟨⟨a2,rR,Oc,rfl⟩,VE⟩:=aZ.jV;rcases VE with ⟨cs2,af⟩ | ⟨aR,Dg,Xc,m3,acQ,abt,af,aI,bK⟩
     ·exact aw (M_ fQ (M9 fQ _ _ _ _ af Oc l4) t _ _ _ _ aO)
     ·obtain ⟨v2,B',N',mr⟩:=h.Kz af;have zt:(⟨fQ.root,[]⟩:Place)=fQ:=by cases fQ; simp_all
      rw [zt,Oc] at N';cases N';have N3:fQ.root=p.root/\p.path=[]->False:=by
       rintro ⟨ao,fH⟩;have:fQ=p:=by cases fQ; cases p; simp_all
       exact e9 t bE cF m' c5 (this ▸ aO)
      obtain ⟨RV,fO,abz,ac1,acS,mr⟩:=mr.vA;by_cases py:RV.ownBlock=some b
      ·obtain ⟨⟨a4,ZI,V_,rfl⟩,_⟩:=mr.jV;exact N3 (M_ Dg (M9 Dg _ _ _ _ bK V_ py) _ _ _ _ _ af)
      ·exact N3 (M' _ _ _ _ _ _ ((mr.aN b).2 ⟨l4,py⟩) af)
    refine ⟨λCb=>?_,λl4=>absurd l4 vc⟩;exact absurd (M' _ _ _ _ _ _ ((aZ.aN b).2 ⟨Cb,vc⟩) aO) aw
  -- trees
  have aT:=h.jZ;have trees:∀ t x v (ρ':ab->Value->Prop),(∀ x v,dT w T g x v->ρ' x v)->g t=some x->T[t]?=some v->R w I (dT w T g) x v (Fs t)->R w' I ρ' x v (Fs t)/\∀ r y,x.at r=some y->walk w' v r=walk w v r:=by
   intro t x v ρ' lO J hv aZ;by_cases pD:Fs t b
   ·obtain ⟨q,bE,cF,cs',h0,h1,af,aI,bK⟩:=Uk t x v pD J hv aZ;exact aZ.spare s bf lO h1 af aI bK
   ·have same:∀ c,Fs t c->w'.heap[c]?=w.heap[c]?:=λc aa=>s.other c (aT t c aa) λe=>pD (e ▸ aa);exact ⟨aZ.frame (λc aa=>s.other c (bf c aa).1 (bf c aa).2) (λ_ h=>h) lO same,λr y ao=>R.p0 r aZ ao same⟩
  have val:∀ q y,bD g q=some y->dW w' T q=dW w T q:=by
   intro q y bg;unfold bD at bg;cases J:g q.root with
   | none=>rw [J] at bg; cases bg
   | some x =>
    rw [J] at bg;obtain ⟨v,hv,aZ⟩:=h.rel _ _ J;cases aZ with
    | tree aZ=>have:=(trees _ x v _ (λ_ _ h=>h) J hv aZ).2 q.path y bg; simp [dW,hv,this]
    | bM aZ=>simp [dW,hv,(ab.sC bg).1,walk]
  have slot:∀ {q:Place}{x:ab},q.path=[]->g q.root=some x->dW w' T q=dW w T q:=by
   intro q x bg J;obtain ⟨v,hv,_⟩:=h.rel _ _ J;simp [dW,bg,walk]
  have refs:∀ r v,dT w T g r v->dT w' T g r v:=by
   rintro r v ⟨h1,af⟩;refine ⟨?_,af⟩;cases r <;> simp only [fD,gE] at h1 af ⊢
   case ptr q k=>obtain ⟨y,ax,_⟩:=af; rw [val q y ax]; exact h1
   case a6 bE q cF =>
    rcases af with ⟨_,_,af,_⟩ | ⟨aR,_,_,_,_,af,_⟩
    ·rw [val q _ af]; exact h1
    ·rw [slot aR af]; exact h1
   case sub bE q lo cF=>obtain ⟨_,_,af,_⟩:=af; rw [val q _ af]; exact h1
   case gB q=>obtain ⟨_,af⟩:=af; rw [val q _ af]; exact h1
   case bM bE q cF m' c5 =>
    rcases af with ⟨_,af⟩ | ⟨aR,_,_,_,_,_,af,_⟩
    ·rw [val q _ af]; exact h1
    ·rw [slot aR af]; exact h1
  refine ⟨⟨λt x J=>?_,h.kU,h.eJ,h.bm,λc aa=>Nat.lt_of_lt_of_le (h.lt c aa) A.eS.size,h.ru⟩,refs⟩;obtain ⟨v,hv,aZ⟩:=h.rel t x J;refine ⟨v,hv,?_⟩;cases aZ with
  | tree aZ=>exact .tree (trees t x v _ refs J hv aZ).1
  | @bM bE cF m' fQ c5 _ y5 cj tG iU Fg _ aZ =>
   obtain ⟨eU,qG⟩:=pends t _ _ _ _ _ v y5 cj tG iU Fg J hv aZ;refine .bM ⟨refs _ _ aZ.jV,s.row aZ.lb qG,s.row aZ.nK eU,aZ.ak,aZ.h1,λk x u J hu=>?_,aZ.aN⟩;exact (aZ.ao k x u J hu).frame (λc aa=>s.other c (bf c aa).1 (bf c aa).2) (λ_ h=>h) refs λc aa=>aa.elim
end
end Go.Own
namespace Go.Own
open Go
def uT (w:World) (I:bb) (T:Array Value) (g:aM) (Fs:Nat->bb) (x:ab) (v:Value) (w':World):Prop :=
 ∃ F I',cG w' I' T g Fs/\jD w' I' (dT w' T g) x v F/\(∀ t c,F c->¬ Fs t c)/\(∀ c,F c->w.heap.size<=c/\¬ I' c)/\(∀ c,I c->I' c)/\(∀ c,I' c->I c\/w.heap.size<=c)/\Fr w w' (λc=>∃ t,Fs t c)/\(∀ z p n m new,x=.bM z p n m new->∀ t bE cF m' c5,g t≠some (.bM bE p cF m' c5))
inductive Src (g:aM):ab->Nat->Nat->List ab->Prop
 | bm {z m:Nat}{cs:List ab}:Src g (.bm z m cs) z m cs
 | aK {z:Nat}:Src g .aK z 0 []
 | a6 {z m N:Nat}{q:Place}{cs:List ab}(bg:bD g q=some (.own z N cs)) (hm:m<=N):Src g (.a6 z q m) z m ((cs.take (m * z)).mapIdx λi x=>gx 0 (q.push i) x)
 | sub {z lo m N:Nat}{q:Place}{cs:List ab}(bg:bD g q=some (.own z N cs)) (hm:lo+m<=N):Src g (.sub z q lo m) z m (((cs.drop (lo * z)).take (m * z)).mapIdx λi x=>gx 0 (q.push (lo * z+i)) x)
def jG (P:Program) (t e:TypeId) (z b:Nat):Bool :=
 match P.underlying t,P.info? e with
 | some (.slice cj),some i=>cj == e&&i.size == z&&i.bytes == b&&z != 0&&(match i.zero with | some v=>v.cells.size == z | none=>false)
 | _,_=>false
section
variable {P:Program}{w:World}{I:bb}{T:Array Value}{g:aM}{Fs:Nat->bb}
theorem LG {t e:TypeId}{z b:Nat}(h:jG P t e z b=true):∃ i dJ,P.underlying t=some (.slice e)/\P.info? e=some i/\i.size=z/\i.bytes=b/\0<z/\i.zero=some dJ/\dJ.cells.size=z:=by
 unfold jG at h;cases hu:P.underlying t with
 | none=>simp [hu] at h
 | some d =>
  cases hi:P.info? e with
  | none=>cases d <;> simp [hu,hi] at h
  | some i =>
   cases d <;> simp [hu,hi] at h;obtain ⟨⟨⟨⟨rfl,h1⟩,af⟩,aI⟩,bK⟩:=h;cases aY:i.zero with
   | none=>simp [aY] at bK
   | some dJ=>simp [aY] at bK; exact ⟨i,dJ,rfl,rfl,h1,af,by omega,aY,bK⟩
theorem Src.sound (h:cG w I T g Fs) {y:ab}{v:Value}{z m:Nat}{cells:List ab}(aC:Src g y z m cells) (aZ:R w I (dT w T g) y v cy) :
  ∃ (a:Option Addr) (c:Nat) (news:List Value),v=.slice a m c/\news.length=m * z/\(0<m->0<z->a.isSome=true)/\(∀ ad,a=some ad->∀ (j:Nat) (u:Value),news[j]?=some u->w.cell? (ad.add j)=some u)/\Cells w I (dT w T g) cells news:=by
 have O3:∀ {q:Place}{N:Nat}{cs:List ab}(lo:Nat) {a:Option Addr}{cap:Nat},bD g q=some (.own z N cs)->dW w T q=some (.slice a N cap)->lo+m<=N ->
   ∃ news:List Value,news.length=m * z/\(∀ ad,a=some ad->∀ (j:Nat) (u:Value),news[j]?=some u->w.cell? ⟨ad.block,lo * z+j,none⟩=some u)/\Cells w I (dT w T g) (((cs.drop (lo * z)).take (m * z)).mapIdx λi x=>gx 0 (q.push (lo * z+i)) x) news/\(0<m->0<z->∃ b,a=some ⟨b,0,none⟩):=by
  intro q N cs lo a cap bg hv hm;obtain ⟨gz,cA,ir,dI,_⟩:=h.part bg (by simp);rw [hv] at ir;cases ir;obtain ⟨b',mP,jd,_,hlen,rf,_⟩:=dI.nk;cases jd;have ab4:lo * z+m * z<=cs.length:=by rw [hlen,<- Nat.add_mul]; exact Nat.mul_le_mul_right _ hm
  have cell:∀ j,j<m * z->∃ b gZ lX,a=some ⟨b,0,none⟩/\w.cell? ⟨b,lo * z+j,none⟩=some gZ/\gZ.oneCell'=true/\cs[lo * z+j]?=some lX/\R w I (dT w T g) (gx 0 (q.push (lo * z+j)) lX) gZ cy:=by
   intro j ah;have gh:cs[lo * z+j]?=some cs[lo * z+j]:=List.getElem?_eq_getElem (by omega);obtain ⟨b,gZ,fP,l6,oa,hp,bL,kM⟩:=dI.node (.inl rfl) gh;refine ⟨b,gZ,_,?_,l6,hp,gh,FL 0 (by rw [tA,bg]; simp [ab.kids]) (by rw [yo,hv]; exact oa) kM⟩;cases a with
   | none=>simp [addrOf] at fP
   | some ad=>simp only [addrOf] at fP; rw [Option.some.inj fP]
  have uc:∃ news:List Value,news.length=m * z/\∀ j,j<m * z->∃ b gZ lX,news[j]?=some gZ/\a=some ⟨b,0,none⟩/\w.cell? ⟨b,lo * z+j,none⟩=some gZ/\gZ.oneCell'=true/\cs[lo * z+j]?=some lX/\R w I (dT w T g) (gx 0 (q.push (lo * z+j)) lX) gZ cy:=by
   refine ⟨(List.range (m * z)).map λj=>(w.cell? ⟨(a.map (·.block)).getD 0,lo * z+j,none⟩).getD undef,by simp,λj ah=>?_⟩;obtain ⟨b,gZ,lX,h1,af,aI,bK,cH⟩:=cell j ah;refine ⟨b,gZ,lX,?_,h1,af,aI,bK,cH⟩;rw [List.getElem?_map,List.getElem?_range ah,h1];simp [af]
  obtain ⟨news,ak,aF⟩:=uc;refine ⟨news,ak,λad fP j u ah=>?_,⟨?_,λj u ah=>?_,λj x u J ah=>?_⟩,λIF Jf=>?_⟩
  ·obtain ⟨b,gZ,lX,h1,af,aI,_⟩:=aF j (by rw [<- ak]; exact (List.getElem?_eq_some_iff.1 ah).1);rw [h1] at ah; cases ah;rw [fP] at af; cases af;exact aI
  ·simp; omega
  ·obtain ⟨b,gZ,lX,h1,af,aI,bK,_⟩:=aF j (by rw [<- ak]; exact (List.getElem?_eq_some_iff.1 ah).1);rw [h1] at ah; cases ah; exact bK
  ·obtain ⟨b,gZ,lX,h1,af,aI,bK,cH,ei⟩:=aF j (by rw [<- ak]; exact (List.getElem?_eq_some_iff.1 ah).1);rw [h1] at ah; cases ah;rw [List.getElem?_mapIdx,List.getElem?_take] at J
   split at J
   ·rw [List.getElem?_drop,cH] at J;simp only [Option.map_some,Option.some.injEq] at J;rw [<- J]; exact ei
   ·cases J
  ·obtain ⟨b,_,_,h1,_⟩:=cell 0 (Nat.mul_pos IF Jf);exact ⟨b,h1⟩
 cases aC with
 | bm =>
  obtain ⟨a,cap,rfl,_,hlen,hm⟩:=aZ.zG;by_cases aR:cells≠[]\/0<m
  ·obtain ⟨ad,us,rfl,bf,je,hp,aa,ao⟩:=hm aR;refine ⟨_,cap,(List.range cells.length).map us,rfl,by simp [hlen],by simp,λRk fP j u ah=>?_,⟨by simp,λj u ah=>?_,λj x u J ah=>?_⟩⟩
   ·cases fP;rw [List.getElem?_map] at ah;by_cases eZ:j<cells.length
    ·rw [List.getElem?_range eZ] at ah;simp only [Option.map_some,Option.some.injEq] at ah;obtain ⟨b,o,sp⟩:=ad;simp only at je;subst je;rw [add_eq,<- ah];exact aa j _ (List.getElem?_eq_getElem eZ)
    ·rw [List.getElem?_eq_none (by simp; omega)] at ah; cases ah
   ·rw [List.getElem?_map] at ah;by_cases eZ:j<cells.length
    ·rw [List.getElem?_range eZ] at ah;simp only [Option.map_some,Option.some.injEq] at ah;rw [<- ah];exact hp j _ (List.getElem?_eq_getElem eZ)
    ·rw [List.getElem?_eq_none (by simp; omega)] at ah; cases ah
   ·rw [List.getElem?_map] at ah;have eZ:j<cells.length:=(List.getElem?_eq_some_iff.1 J).1;rw [List.getElem?_range eZ] at ah;simp only [Option.map_some,Option.some.injEq] at ah;rw [<- ah];exact ao j x J
  ·have IF:m=0:=by omega
   have U1:cells=[]:=Classical.byContradiction λe=>aR (.inl e);subst IF U1;exact ⟨a,cap,[],rfl,by simp,by simp,by simp,by simp [Cells]⟩
 | aK =>
  rw [aZ.sg];exact ⟨none,0,[],rfl,by simp,by simp,by simp,by simp [Cells]⟩
 | @a6 _ _ N q cs bg hm =>
  obtain ⟨⟨a,iZ,cap,h1,rfl,aI⟩,bK⟩:=aZ.nc;obtain ⟨gz,cA,ir,dI,_⟩:=h.part bg (by simp);obtain ⟨b',mP,jd,_⟩:=dI.nk;rw [h1] at ir;cases ir;cases jd;obtain ⟨news,ak,aa,hE,aP⟩:=O3 0 bg h1 (by omega);simp only [Nat.zero_mul,List.drop_zero,Nat.zero_add] at hE aa;refine ⟨a,cap,news,rfl,ak,λaR HF=>by obtain ⟨b,rfl⟩:=aP aR HF; rfl,λad fP j u ah=>?_,hE⟩;have w_:=aa ad fP j u ah;by_cases aR:0<m/\0<z
  ·obtain ⟨b,av⟩:=aP aR.1 aR.2;rw [fP] at av; cases av;rw [add_eq]; simpa using w_
  ·have:m * z=0:=by
    rcases Nat.eq_zero_or_pos m with h | h
    ·simp [h]
    ·rcases Nat.eq_zero_or_pos z with aQ | aQ
     ·simp [aQ]
     ·exact absurd ⟨h,aQ⟩ aR
   have:=(List.getElem?_eq_some_iff.1 ah).1;omega
 | @sub _ lo _ N q cs bg hm =>
  obtain ⟨⟨a,iZ,cap,b',mP,h1,rfl,_,aI,cH⟩,bK⟩:=aZ.xv;obtain ⟨gz,cA,ir,dI,_⟩:=h.part bg (by simp);obtain ⟨a2,rR,jd,_⟩:=dI.nk;rw [h1] at ir;cases ir;cases jd;obtain ⟨news,ak,aa,hE,aP⟩:=O3 lo bg h1 hm;refine ⟨b',mP,news,rfl,ak,λaR _=>by obtain ⟨ad,_,rfl⟩:=cH aR; rfl,λad fP j u ah=>?_,hE⟩;have aT:=(List.getElem?_eq_some_iff.1 ah).1;have aR:0<m:=(Nat.eq_zero_or_pos m).elim (λh=>by rw [h] at ak; omega) id

  have aY:0<z:=(Nat.eq_zero_or_pos z).elim (λh=>by rw [h] at ak; omega) id

  obtain ⟨Rk,ei,mT⟩:=cH aR;obtain ⟨b,av⟩:=aP aR aY;rw [ei] at av; cases av;rw [fP] at mT; cases mT;have w_:=aa _ ei j u ah;rw [add_eq]; simpa using w_
end
end Go.Own
namespace Go.Own
open Go
inductive AZ (P:Program) (g:aM):Op->TypeId->ab->Prop
 | grow {s x:Operand}{t e ty:TypeId}{z b n m:Nat}{p:Place}{y:ab}{cells:List ab}(aC:bt g s=some (.a6 z p n)) (dd:gE g (.bM z p n 0 [])) (e9:∀ t bE cF m' c5,g t≠some (.bM bE p cF m' c5))
   (J:bt g x=some y) (r':Src g y z m cells) (aw:jG P t e z b=true) (ra:n+m<=4611686018427387904) (av:(n+m) * b<=140737488355328) :
   AZ P g (.call { callee:=.builtin .append,args:=#[s,x],argTypes:=#[t,t] }) ty (.bM z p n m cells)
 | nil {s x:Operand}{t e ty:TypeId}{z b m:Nat}{y:ab}{cells:List ab}(aC:bt g s=some .aK)
   (J:bt g x=some y) (r':Src g y z m cells) (aw:jG P t e z b=true) (ra:m<=4611686018427387904) (av:m * b<=140737488355328) :
   AZ P g (.call { callee:=.builtin .append,args:=#[s,x],argTypes:=#[t,t] }) ty (.own z m cells)
inductive ch (P:Program) (g:aM):Op->TypeId->ab->Prop
 | eU {op:Op}{ty:TypeId}{x:ab}(h:c8 P g op ty x):ch P g op ty x
 | qG {op:Op}{ty:TypeId}{x:ab}(h:p9 P g op ty x):ch P g op ty x
 | CJ {op:Op}{ty:TypeId}{x:ab}(h:uV P g op ty x):ch P g op ty x
 | lS {op:Op}{ty:TypeId}{x:ab}(h:AZ P g op ty x):ch P g op ty x
section
variable {P:Program}{w:World}{I:bb}{T:Array Value}{g:aM}{Fs:Nat->bb}
theorem Cells.frame {w':World}{cells:List ab}{news:List Value}(aa:Cells w I (dT w T g) cells news) (bf:∀ c,I c->w'.heap[c]?=w.heap[c]?) (ao:∀ r v,dT w T g r v->dT w' T g r v):Cells w' I (dT w' T g) cells news :=
 ⟨aa.1,aa.2.1,λk x u J hu=>(aa.2.2 k x u J hu).frame bf (λ_ h=>h) ao λ_ h=>h.elim⟩
theorem AZ.sound (h:cG w I T g Fs) {a:Act}(aP:a.tmps=T) {o:Oper}{kE:ab}(au:AZ P g o.op o.type kE) :
  ∃ v w',(execOp a.eval o).run P w=.ok (.value v) w'/\uT w I T g Fs kE v w':=by
 obtain ⟨dst,op,ty,pos,after,guard⟩:=o;simp only at au;cases au with
 | @grow s x t e _ z b n m p y cells aC dd e9 J r' aw ra av =>
  obtain ⟨i,dJ,hu,hi,rfl,rfl,aR,aY,pJ⟩:=LG aw;obtain ⟨⟨wC,N,wE,h1,af,aI⟩,bK⟩:=(kf h aC aP).nc;obtain ⟨Dm,Kp,news,vo,ak,B6,IV,hE⟩:=r'.sound h (kf h J aP)
  -- the row of the base
  have qu:N=n/\∃ cj us,w.ownsRow 0 cj i.size (.slice wC n wE) n us:=by
   rcases dd with ⟨cs,au⟩ | ⟨fH,q,gY,m0,new,cs,au,rfl,_⟩
   ·obtain ⟨gz,cA,ir,dI,_⟩:=h.part au (by simp);rw [h1] at ir;cases ir;obtain ⟨b',mP,jd,_⟩:=dI.nk;cases jd;cases dI with
    | own a1=>exact ⟨rfl,_,_,a1⟩
    | ref J=>simp [ab.isRef] at J
   ·obtain ⟨v0,iQ,Ca,gG⟩:=h.Kz au;have bg:(⟨p.root,[]⟩:Place)=p:=by cases p; simp_all
    rw [bg,h1] at Ca;cases Ca;obtain ⟨bv,cz,cf,us,acT,gG⟩:=gG.vA;have bc:N=gY+m0:=by
     obtain ⟨_,bY⟩:=gG.nK;rcases bY with ⟨bY,aF⟩ | ⟨g,cap,cur,bY,_⟩
     ·cases bY; omega
     ·cases bY; rfl
    subst bc;exact ⟨rfl,_,_,gG.nK⟩
  obtain ⟨rfl,cj,us,lb⟩:=qu;have jV:dT w T g (.bM i.size p N 0 []) (.slice wC N wE):=⟨⟨wC,wE,h1,rfl⟩,dd⟩;obtain ⟨gz,w',cf,hP,A⟩:=PF (P:=P) (w:=w) t ty e cj i dJ hu hi aY pJ aR lb (a:=Dm) (c:=Kp) (m:=m) (news:=news) (λhm=>B6 hm aR) ak IV (λu hu=>by
   obtain ⟨k,hk,rfl⟩:=List.mem_iff_getElem.1 hu;exact hE.2.1 k _ (List.getElem?_eq_getElem hk)) (by unfold maxLen; omega) av
  obtain ⟨bl,hrefs⟩:=h.app jV e9 A;refine ⟨gz,w',by simp [execOp,resolve,invoke,builtin,af,vo,hP],(λc=>gz.ownBlock=some c/\(Value.slice wC N wE).ownBlock≠some c),I,bl,?_,?_,?_,λ_ h=>h,λ_ h=>.inl h,?_,?_⟩
  ·have bf:∀ c,I c->w'.heap[c]?=w.heap[c]?:=by
    intro c aa;refine A.eS.block c (h.lt c aa) λav=>?_;obtain ⟨t,aw⟩:=h.D7 jV c av;exact h.bm t c aw aa
   have lK:=hE.frame bf hrefs;exact .bM ⟨hrefs _ _ jV,A.nj,A.new,lK.1,lK.2.1,lK.2.2,λc=>Iff.rfl⟩
  ·rintro t c ⟨im,tX⟩ aW;rcases A.D8 c im with h | aQ
   ·exact tX h
   ·have:=h.jZ t c aW; omega
  ·rintro c ⟨im,tX⟩;rcases A.D8 c im with aQ | aQ
   ·exact absurd aQ tX
   ·exact ⟨aQ,λhi=>by have:=h.lt c hi; omega⟩
  ·exact A.eS.mono λc _ aa=>h.D7 jV c aa
  ·intro bE Xt cF m' c5 he;cases he;exact e9
 | @nil s x t e _ z b m y cells aC J r' aw ra av =>
  obtain ⟨i,dJ,hu,hi,rfl,rfl,aR,aY,pJ⟩:=LG aw;have af:=(kf h aC aP).sg;obtain ⟨Dm,Kp,news,vo,ak,B6,IV,hE⟩:=r'.sound h (kf h J aP);obtain ⟨gz,w',cf,hP,A⟩:=PF (P:=P) (w:=w) t ty e e i dJ hu hi aY pJ aR (World.ownsRow_nil w 0 e i.size) (a:=Dm) (c:=Kp) (m:=m) (news:=news) (λhm=>B6 hm aR) ak IV (λu hu=>by
   obtain ⟨k,hk,rfl⟩:=List.mem_iff_getElem.1 hu;exact hE.2.1 k _ (List.getElem?_eq_getElem hk)) (by unfold maxLen; omega) (by simpa using av)
  have same:∀ c,c<w.heap.size->w'.heap[c]?=w.heap[c]?:=λc aa=>A.eS.block c aa (by simp [Value.ownBlock]);have r6:=A.new;simp only [Nat.zero_add,List.nil_append] at r6;have lK:=hE.frame (λc aa=>same c (h.lt c aa)) λr v ao=>h.FM (λ_ _=>rfl) (λt c aa=>same c (h.jZ t c aa)) (λ_ _ h=>h) ao;have hblk:∀ c,gz.ownBlock=some c->w.heap.size<=c:=λc aa=>(A.D8 c aa).elim (λh=>by simp [Value.ownBlock] at h) id;refine ⟨gz,w',by simp [execOp,resolve,invoke,builtin,af,vo,hP],(λc=>gz.ownBlock=some c),I,h.world (λt c aa=>same c (h.jZ t c aa)) (λc aa=>same c (h.lt c aa)) A.eS.size,?_,?_,λc aa=>⟨hblk c aa,λhi=>by have:=h.lt c hi; have:=hblk c aa; omega⟩,λ_ h=>h,λ_ h=>.inl h,?_,?_⟩
  ·exact .tree (.own (Fs:=λ_=>cy) r6 lK.1 lK.2.1 lK.2.2 (λ_ _ _ _ _ h=>h.elim) (λ_ _ _ h=>h.elim) λc=>⟨.inl,λh=>h.elim id λ⟨_,_,h⟩=>h.elim⟩)
  ·intro t c aa aW; have:=hblk c aa; have:=h.jZ t c aW; omega
  ·exact A.eS.mono λc _ aa=>by simp [Value.ownBlock] at aa
  ·intro bE Xt cF m' c5 he; cases he
theorem ch.sound (h:cG w I T g Fs) {a:Act}(aP:a.tmps=T) {o:Oper}{kE:ab}(au:ch P g o.op o.type kE) :
  ∃ v w',(execOp a.eval o).run P w=.ok (.value v) w'/\uT w I T g Fs kE v w':=by
 have CD:∀ {v:Value}{F:bb},R w I (dT w T g) kE v F->∀ z p n m new,kE=.bM z p n m new->∀ t bE cF m' c5,g t≠some (.bM bE p cF m' c5):=by
  rintro v F aZ z p n m new rfl;exact aZ.lj.elim
 cases au with
 | eU au =>
  obtain ⟨v,ao,aZ⟩:=au.sound h aP;exact ⟨v,w,ao,cy,I,h,.tree aZ,λ_ _ h=>h.elim,λ_ h=>h.elim,λ_ h=>h,λ_ h=>.inl h,Fr.refl _ _,CD aZ⟩
 | CJ au =>
  obtain ⟨v,ao,aZ⟩:=au.sound h aP;exact ⟨v,w,ao,cy,I,h,.tree aZ,λ_ _ h=>h.elim,λ_ h=>h.elim,λ_ h=>h,λ_ h=>.inl h,Fr.refl _ _,CD aZ⟩
 | qG au =>
  obtain ⟨v,sn,ao,aZ⟩:=au.sound h aP;refine ⟨v,_,ao,_,I,h.alloc sn,.tree aZ,λt c aa aW=>?_,λc aa=>⟨by rw [aa]; exact Nat.le_refl _,λhi=>by have:=h.lt c hi; omega⟩,λ_ h=>h,λ_ h=>.inl h,Fr.alloc w sn _ (by
   obtain ⟨o,h1,af⟩:=aZ.XQ w.heap.size rfl;rw [tu] at h1;cases h1;exact af),?_⟩
  ·have:=h.jZ t c aW; omega
  ·rintro z p n m new rfl; exact aZ.lj.elim
 | lS au=>exact au.sound h aP
end
end Go.Own
namespace Go.Own
open Go
inductive cU:ab->Prop
 | lit {v:Value}:cU (.lit v)
 | aK:cU .aK
 | dead:cU .dead
 | bm {z n:Nat}{cs:List ab}(h:∀ x∈cs,cU x):cU (.bm z n cs)
 | own {z n:Nat}{cs:List ab}(h:∀ x∈cs,cU x):cU (.own z n cs)
 | obj {cs:List ab}(h:∀ x∈cs,cU x):cU (.obj cs)
 | agg {cs:List ab}(h:∀ x∈cs,cU x):cU (.agg cs)
 | bW {cs:List ab}(h:∀ x∈cs,cU x):cU (.bW cs)
 | cI {cs:List ab}(h:∀ x∈cs,cU x):cU (.cI cs)
 | cW {fn:Fn}{a b:List ab}(h1:∀ x∈a,cU x) (af:∀ x∈b,cU x):cU (.cW fn a b)
 | mp {p:Array MapEntry->Nat->Prop}:cU (.mp p)
 | imp {p:Array MapEntry->Nat->Prop}:cU (.imp p)
inductive kF:ab->Prop
 | lit {v:Value}:kF (.lit v)
 | aK:kF .aK
 | dead:kF .dead
 | own {z n:Nat}{cs:List ab}(h:∀ x∈cs,kF x):kF (.own z n cs)
 | obj {cs:List ab}(h:∀ x∈cs,kF x):kF (.obj cs)
 | agg {cs:List ab}(h:∀ x∈cs,kF x):kF (.agg cs)
 | bW {cs:List ab}(h:∀ x∈cs,kF x):kF (.bW cs)
 | mp {p:Array MapEntry->Nat->Prop}:kF (.mp p)
theorem kF.bn {x:ab}(h:kF x):cU x:=by
 induction h with
 | lit=>exact .lit
 | aK=>exact .aK
 | dead=>exact .dead
 | own _ aU=>exact .own aU
 | obj _ aU=>exact .obj aU
 | agg _ aU=>exact .agg aU
 | bW _ aU=>exact .bW aU
 | mp=>exact .mp
inductive Rows (g:aM):Place->Nat->Nat->List ab->Prop
 | own {p:Place}{z n:Nat}{cs:List ab}(au:bD g p=some (.own z n cs)):Rows g p z n cs
 | bM {t z n m:Nat}{q:Place}{new cs:List ab}(aw:g t=some (.bM z q n m new)) (bg:Rows g q z n cs):Rows g ⟨t,[]⟩ z (n+m) (cs++new)
theorem Rows.mono {g g':aM}(h:∀ {p:Place}{y:ab},bD g p=some y->bD g' p=some y) {p:Place}{z n:Nat}{cs:List ab}(ao:Rows g p z n cs) (af:∀ t x,g t=some x->g' t=some x):Rows g' p z n cs:=by
 induction ao with
 | own au=>exact .own (h au)
 | bM aw _ aU=>exact .bM (af _ _ aw) aU
inductive View (g:aM):ab->ab->Prop
 | self {x:ab}(h:cU x) (J:∀ z n cs,x≠.own z n cs) (a1:∀ cs,x≠.obj cs) (aP:∀ cs,x≠.agg cs) (aw:∀ cs,x≠.bW cs) (hm:∀ p,x≠.mp p):View g x x
 | mp {p:Array MapEntry->Nat->Prop}:View g (.mp p) (.imp p)
 | gB {p:Place}{q:Array MapEntry->Nat->Prop}(au:bD g p=some (.mp q)):View g (.gB p) (.imp q)
 | qE {z:Nat}:View g .aK (.bm z 0 [])
 | agg {cs cs':List ab}(ak:cs'.length=cs.length) (h:∀ (k:Nat) (x y:ab),cs[k]?=some x->cs'[k]?=some y->View g x y):View g (.agg cs) (.agg cs')
 | own {z n:Nat}{cs cs':List ab}(ak:cs'.length=cs.length) (h:∀ (k:Nat) (x y:ab),cs[k]?=some x->cs'[k]?=some y->View g x y):View g (.own z n cs) (.bm z n cs')
 | obj {cs cs':List ab}(ak:cs'.length=cs.length) (h:∀ (k:Nat) (x y:ab),cs[k]?=some x->cs'[k]?=some y->View g x y):View g (.obj cs) (.cI cs')
 | a6 {z n N:Nat}{p:Place}{cs cs':List ab}(au:bD g p=some (.own z N cs)) (aF:n<=N) (ak:cs'.length=(cs.take (n * z)).length) (h:∀ (k:Nat) (x y:ab),(cs.take (n * z))[k]?=some x->cs'[k]?=some y->View g x y):View g (.a6 z p n) (.bm z n cs')
 | sub {z lo n N:Nat}{p:Place}{cs cs':List ab}(au:bD g p=some (.own z N cs)) (aF:lo+n<=N) (ak:cs'.length=((cs.drop (lo * z)).take (n * z)).length) (h:∀ (k:Nat) (x y:ab),((cs.drop (lo * z)).take (n * z))[k]?=some x->cs'[k]?=some y->View g x y):View g (.sub z p lo n) (.bm z n cs')
 | ptr {p:Place}{k z n:Nat}{y:ab}{cs cs':List ab}(au:bD g p=some y) (ax:y=.own z n cs\/y=.obj cs) (hk:k<cs.length) (ak:cs'.length=(cs.drop k).length) (h:∀ (j:Nat) (x y:ab),(cs.drop k)[j]?=some x->cs'[j]?=some y->View g x y):View g (.ptr p k) (.cI cs')
 | cW {fn:Fn}{cs cs':List ab}(ak:cs'.length=cs.length) (h:∀ (k:Nat) (x y:ab),cs[k]?=some x->cs'[k]?=some y->View g x y):View g (.cW fn [] cs) (.cW fn [] cs')
 | rows {z n:Nat}{p:Place}{cs cs':List ab}(au:Rows g p z n cs) (ak:cs'.length=cs.length) (h:∀ (k:Nat) (x y:ab),cs[k]?=some x->cs'[k]?=some y->View g x y):View g (.a6 z p n) (.bm z n cs')
section
variable {P:Program}{w:World}{I:bb}{T:Array Value}{g:aM}{Fs:Nat->bb}
theorem R.bn {ρ ρ':ab->Value->Prop}{x:ab}{v:Value}{F:bb}(h:R w I ρ x v F):cU x->R w I ρ' x v F:=by
 induction h with
 | lit h aN=>exact λ_=>.lit h aN
 | aK aN=>exact λ_=>.aK aN
 | dead aN=>exact λ_=>.dead aN
 | @ref x _ _ J h aN=>intro aF; cases aF <;> simp [ab.isRef] at J
 | hF aN=>exact λ_=>.hF aN
 | bm aN k9 bf aC ak h1 aa ao aU=>exact λaF=>.bm aN k9 bf aC ak h1 aa λk x J=>aU k x J (by cases aF with | bm h=>exact h x (List.mem_of_getElem? J))
 | cI aN bf aC h1 aa ao aU=>exact λaF=>.cI aN bf aC h1 aa λk x J=>aU k x J (by cases aF with | cI h=>exact h x (List.mem_of_getElem? J))
 | own a1 ak h1 ao aS av aN aU=>exact λaF=>.own a1 ak h1 (λk x u J hu=>aU k x u J hu (by cases aF with | own h=>exact h x (List.mem_of_getElem? J))) aS av aN
 | obj a1 ak h1 ao aS av aN aU=>exact λaF=>.obj a1 ak h1 (λk x u J hu=>aU k x u J hu (by cases aF with | obj h=>exact h x (List.mem_of_getElem? J))) aS av aN
 | agg ak h1 ao aS aN aU=>exact λaF=>.agg ak h1 (λk x u J hu=>aU k x u J hu (by cases aF with | agg h=>exact h x (List.mem_of_getElem? J))) aS aN
 | bW ak ao aS aN aU=>exact λaF=>.bW ak (λk x u J hu=>aU k x u J hu (by cases aF with | bW h=>exact h x (List.mem_of_getElem? J))) aS aN
 | mp a1 au aN=>exact λ_=>.mp a1 au aN
 | imp aN bf a1 au=>exact λ_=>.imp aN bf a1 au
 | cW aN h1 af ku iP gA gi=>exact λaF=>.cW aN h1 af (λk x u J hu=>gA k x u J hu (by cases aF with | cW h _=>exact h x (List.mem_of_getElem? J))) (λk x u J hu=>gi k x u J hu (by cases aF with | cW _ h=>exact h x (List.mem_of_getElem? J)))
theorem R.ou {ρ:ab->Value->Prop}{I':bb}{x:ab}{v:Value}{F:bb}(h:R w I ρ x v F) (bf:∀ c,I c->I' c):R w I' ρ x v F :=
 h.frame (λ_ _=>rfl) bf (λ_ _ h=>h) λ_ _=>rfl
theorem R.lk {ρ ρ':ab->Value->Prop}{I':bb}{x:ab}{v:Value}{F:bb}(h:R w I ρ x v F):kF x->R w I' ρ' x v F:=by
 induction h with
 | lit h aN=>exact λ_=>.lit h aN
 | aK aN=>exact λ_=>.aK aN
 | dead aN=>exact λ_=>.dead aN
 | @ref x _ _ J h aN=>intro aF; cases aF <;> simp [ab.isRef] at J
 | hF=>intro aF; cases aF
 | bm=>intro aF; cases aF
 | cI=>intro aF; cases aF
 | own a1 ak h1 ao aS av aN aU=>exact λaF=>.own a1 ak h1 (λk x u J hu=>aU k x u J hu (by cases aF with | own h=>exact h x (List.mem_of_getElem? J))) aS av aN
 | obj a1 ak h1 ao aS av aN aU=>exact λaF=>.obj a1 ak h1 (λk x u J hu=>aU k x u J hu (by cases aF with | obj h=>exact h x (List.mem_of_getElem? J))) aS av aN
 | agg ak h1 ao aS aN aU=>exact λaF=>.agg ak h1 (λk x u J hu=>aU k x u J hu (by cases aF with | agg h=>exact h x (List.mem_of_getElem? J))) aS aN
 | bW ak ao aS aN aU=>exact λaF=>.bW ak (λk x u J hu=>aU k x u J hu (by cases aF with | bW h=>exact h x (List.mem_of_getElem? J))) aS aN
 | cW=>intro aF; cases aF
 | mp a1 au aN=>exact λ_=>.mp a1 au aN
 | imp=>intro aF; cases aF
theorem R.zV {ρ:ab->Value->Prop}{z n:Nat}{cs:List ab}{v:Value}{F:bb}(h:R w I ρ (.own z n cs) v F):∃ (a:Option Addr) (cap:Nat) (us:Nat->Value) (bL:Nat->bb),v=.slice a n cap/\n<=cap/\cs.length=n * z /\
  (∀ ad,a=some ad->∃ b,ad=⟨b,0,none⟩/\F b)/\(∀ (k:Nat) (x:ab),cs[k]?=some x->∃ b,a=some ⟨b,0,none⟩/\w.cell? ⟨b,k,none⟩=some (us k)/\(us k).oneCell'=true/\R w I ρ x (us k) (bL k)/\∀ c,bL k c->F c):=by
 have aR:=h;cases h with
 | ref J=>simp [ab.isRef] at J
 | @own _ _ _ _ e us Fs _ a1 ak h1 ao aS av aN =>
  obtain ⟨a,cap,rfl,aF,hlen,rf,rh⟩:=aR.nk;refine ⟨a,cap,λk=>us.getD k undef,Fs,rfl,aF,hlen,λad fP=>?_,λk x hk=>?_⟩
  ·obtain ⟨BV,BW⟩:=rf ad fP;obtain ⟨b,o,sp⟩:=ad;simp only at BV BW;subst BV BW;exact ⟨b,rfl,(aN b).2 (.inl (by rw [fP]; rfl))⟩
  ·have aT:k<cs.length:=(List.getElem?_eq_some_iff.1 hk).1;have hu:us[k]?=some us[k]:=List.getElem?_eq_getElem (ak ▸ aT);obtain ⟨b,u,fP,l6,oa,hp,_⟩:=aR.node (.inl rfl) hk;have:a=some ⟨b,0,none⟩:=by
    cases a with
    | none=>simp [addrOf] at fP
    | some ad=>simp only [addrOf] at fP; rw [Option.some.inj fP]
   grind [pS]
theorem R.Fl {ρ:ab->Value->Prop}{y:ab}{v:Value}{F:bb}{z n:Nat}{cs:List ab}(h:R w I ρ y v F) (ax:y=.own z n cs\/y=.obj cs) {ad:Addr}(aP:addrOf v=some ad):F ad.block:=by
 rcases ax with rfl | rfl
 ·obtain ⟨a,cap,rfl,_⟩:=h.nk;refine h.qF _ ?_;cases a with
  | none=>simp [addrOf] at aP
  | some a=>simp only [addrOf,Option.some.injEq] at aP; subst aP; rfl
 ·cases h with
  | ref J=>simp [ab.isRef] at J
  | obj a1 ak h1 ao aS av aN=>simp only [addrOf,Option.some.injEq] at aP; subst aP; exact (aN _).2 (.inl rfl)
theorem Xr {w:World}{e cj:TypeId}{z n:Nat}{v:Value}{us iU:List Value}(h:w.ownsRow 0 e z v n us) (aQ:w.ownsRow 0 cj z v n iU):us=iU:=by
 obtain ⟨h1,af⟩:=h;obtain ⟨aI,bK⟩:=aQ;rcases af with ⟨rfl,rfl⟩ | ⟨b,cap,cur,rfl,_,bY,_,_,_,aw⟩
 ·grind
 grind
theorem Rows.sound {ρ:ab->Value->Prop}(H1:∀ t z q n m new,g t=some (.bM z q n m new)->∃ v,T[t]?=some v/\jD w I ρ (.bM z q n m new) v (Fs t))
  (Q2:∀ p z n cs,bD g p=some (.own z n cs)->∃ v cA,dW w T p=some v/\R w I ρ (.own z n cs) v cA/\∀ c,cA c->Fs p.root c) (AU:∀ z p n v,ρ (.bM z p n 0 []) v->dW w T p=some v) {p:Place}{z n:Nat}{cs:List ab}(h:Rows g p z n cs) :
  ∃ v e us,dW w T p=some v/\w.ownsRow 0 e z v n us/\us.length=cs.length/\(∀ (k:Nat) (u:Value),us[k]?=some u->u.oneCell'=true)/\(∀ c,v.ownBlock=some c->∃ t,Fs t c) /\
   (∀ (k:Nat) (x:ab) (u:Value),cs[k]?=some x->us[k]?=some u->∃ bL,R w I ρ x u bL/\∀ c,bL c->∃ t,Fs t c):=by
 induction h with
 | @own p z n cs au =>
  obtain ⟨v,cA,hv,aZ,aN⟩:=Q2 p z n cs au;cases aZ with
  | ref J=>simp [ab.isRef] at J
  | @own _ _ _ _ e us bL _ a1 ak h1 ao aS av mq =>
   grind
 | @bM t z n m q new cs aw _ aU =>
  obtain ⟨v,hv,aZ⟩:=H1 t z q n m new aw;obtain ⟨v0,e,us,iQ,a1,ak,h1,av,ao⟩:=aU;cases aZ with
  | tree aZ=>exact aZ.lj.elim
  | @bM _ _ _ _ _ _ bv cz cf Zc news _ aZ =>
   have hy:=AU _ _ _ _ aZ.jV;rw [iQ] at hy;cases hy;have:=Xr a1 aZ.lb;subst this;refine ⟨v,cf,us++news,by simp [dW,hv,walk],aZ.nK,by rw [List.length_append,List.length_append,ak,aZ.ak],λk u hu=>?_,λc aa=>?_,λk x u J hu=>?_⟩
   ·by_cases hk:k<us.length
    ·grind
    ·rw [List.getElem?_append_right (by omega)] at hu; exact aZ.h1 _ u hu
   ·by_cases rb:v0.ownBlock=some c
    ·grind
    ·exact ⟨t,(aZ.aN c).2 ⟨aa,rb⟩⟩
   ·by_cases hk:k<us.length
    ·grind
    ·rw [List.getElem?_append_right (by omega)] at J;rw [List.getElem?_append_right (by omega),ak] at hu;exact ⟨_,aZ.ao _ x u J hu,λc aa=>aa.elim⟩
theorem PA {ρ':ab->Value->Prop}{e:TypeId}{z n N cap:Nat}{a:Option Addr}{us:List Value}{cs cs':List ab}(a1:w.ownsRow 0 e z (.slice a N cap) n us) (hlen:us.length=cs.length) (h1:∀ (k:Nat) (u:Value),us[k]?=some u->u.oneCell'=true) (av:∀ c,(Value.slice a N cap).ownBlock=some c->∃ t,Fs t c) (ak:cs'.length=cs.length)
  (ao:∀ (k:Nat) (x y:ab) (u:Value),cs[k]?=some x->cs'[k]?=some y->us[k]?=some u->R w (λc=>I c\/∃ t,Fs t c) ρ' y u cy):R w (λc=>I c\/∃ t,Fs t c) ρ' (.bm z n cs') (.slice a n cap) cy:=by
 obtain ⟨NS,a1⟩:=a1;rcases a1 with ⟨hy,aR⟩ | ⟨b,rR,cur,cz,_,bY,EF,aa,aC,aw⟩
 ·cases hy;subst aR;have lK:cs'=[]:=List.eq_nil_of_length_eq_zero (by rw [ak,<- hlen,NS]; simp);subst lK;exact .hF λ_ h=>h
 ·cases cz;refine .bm (us:=λk=>us.getD k undef) (λ_ h=>h) EF (.inr (av b rfl)) rfl (by rw [ak,<- hlen,NS]) (λk y ax=>?_) (λk y ax=>?_) λk y ax=>?_
  all_goals
   have hk:k<us.length:=by rw [hlen,<- ak]; exact (List.getElem?_eq_some_iff.1 ax).1
   have hu:us[k]?=some us[k]:=List.getElem?_eq_getElem hk;have aO:us.getD k undef=us[k]:=by simp [List.getD,hu]
  ·grind
  ·rw [aO];have zy:∀ u,us[k]?=some u->w.cell? ⟨b,k,none⟩=some u:=λu zy=>by
    rw [<- aw,List.getElem?_take] at zy
    split at zy
    ·simpa [World.cell?,bY] using zy
    grind
   grind
  grind
theorem View.sound (h:cG w I T g Fs) {x x':ab}(hv:View g x x'):∀ {v:Value}{F:bb},R w I (dT w T g) x v F->(∀ c,F c->∃ t,Fs t c)->∀ ρ',R w (λc=>I c\/∃ t,Fs t c) ρ' x' v cy:=by
 induction hv with
 | qE =>
  intro v F aZ aN ρ';have:=aZ.sg;subst this;exact .hF λ_ h=>h
 | mp =>
  intro v F aZ aN ρ';cases aZ with
  | ref J=>simp [ab.isRef] at J
  | mp a1 au av=>exact .imp (λ_ h=>h) (.inr (aN _ ((av _).2 rfl))) a1 au
 | gB au =>
  intro v F aZ aN ρ';cases aZ with
  | ref _ ao _ =>
   obtain ⟨⟨b,av,rfl⟩,_⟩:=ao;obtain ⟨gz,cA,ir,dI,dy⟩:=h.part au (by simp);rw [av] at ir;cases ir;cases dI with
   | ref J=>simp [ab.isRef] at J
   | mp a1 au av=>exact .imp (λ_ h=>h) (.inr ⟨_,dy _ ((av _).2 rfl)⟩) a1 au
 | self aF h1 af aI bK cH =>
  intro v F aZ aN ρ';refine ((aZ.bn aF).ou λc aa=>.inl aa).empty ?_;cases aZ with
  | mp=>exact absurd rfl (cH _)
  | lit _ aN | aK aN | dead aN | ref _ _ aN | hF aN | bm aN | cI aN | cW aN | imp aN=>exact aN
  | own=>exact absurd rfl (h1 _ _ _)
  | obj=>exact absurd rfl (af _)
  | agg=>exact absurd rfl (aI _)
  | bW=>exact absurd rfl (bK _)
 | @agg cs cs' ak _ aU =>
  intro v F aZ aN ρ';cases aZ with
  | ref J=>simp [ab.isRef] at J
  | @agg _ vs bL _ hU h1 ao aS mq =>
   refine .agg (Fs:=λ_=>cy) (by rw [ak,hU]) h1 (λk y u ax hu=>?_) (λ_ _ _ _ _ h=>h.elim) (λc=>⟨λh=>h.elim,λ⟨_,_,h⟩=>h⟩);have hk:k<cs.length:=by rw [<- ak]; exact (List.getElem?_eq_some_iff.1 ax).1
   have J:=List.getElem?_eq_getElem hk;exact aU k _ y J ax (ao k _ u J hu) (λc aa=>aN c ((mq c).2 ⟨k,hk,aa⟩)) ρ'
 | @cW fn cs cs' ak _ aU =>
  intro v F aZ aN ρ';cases aZ with
  | ref J=>simp [ab.isRef] at J
  | @cW _ _ _ v1 v2 _ mo h1 af ku iP =>
   refine .cW (λ_ h=>h) h1 (by rw [ak,af]) (λk x u J=>by simp at J) (λk y u ax hu=>?_);have hk:k<cs.length:=by rw [<- ak]; exact (List.getElem?_eq_some_iff.1 ax).1
   have J:=List.getElem?_eq_getElem hk
   grind
 | @own z n cs cs' ak _ aU =>
  intro v F aZ aN ρ';obtain ⟨a,cap,us,bL,rfl,aF,hlen,aP,aa⟩:=aZ.zV;cases a with
  | none =>
   have hE:cs=[]:=by
    cases cs with
    | nil=>rfl
    | cons c cs=>obtain ⟨b,av,_⟩:=aa 0 c rfl; cases av
   subst hE;have lK:cs'=[]:=List.eq_nil_of_length_eq_zero (by simpa using ak);subst lK;have k':n=0:=by
    cases aZ with
    | ref J=>simp [ab.isRef] at J
    | own a1 =>
     obtain ⟨_,bY⟩:=a1
     grind
   subst k';exact .hF λ_ h=>h
  | some ad =>
   obtain ⟨b,rfl,r0⟩:=aP ad rfl;refine .bm (us:=us) (λ_ h=>h) aF (.inr (aN b r0)) rfl (by rw [ak,hlen]) (λk y ax=>?_) (λk y ax=>?_) λk y ax=>?_
   all_goals
    have hk:k<cs.length:=by rw [<- ak]; exact (List.getElem?_eq_some_iff.1 ax).1
    have J:=List.getElem?_eq_getElem hk;obtain ⟨eC,l4,h1,af,aI,bK⟩:=aa k _ J;cases l4
   all_goals grind
 | @obj cs cs' ak _ aU =>
  intro v F aZ aN ρ';cases aZ with
  | ref J=>simp [ab.isRef] at J
  | @obj _ b e arr bL _ a1 hU h1 ao aS av mq =>
   refine .cI (us:=λk=>arr.getD k undef) (λ_ h=>h) (.inr (aN b ((mq b).2 (.inl rfl)))) rfl (λk y ax=>?_) (λk y ax=>?_) λk y ax=>?_
   all_goals
    have hk:k<cs.length:=by rw [<- ak]; exact (List.getElem?_eq_some_iff.1 ax).1
    have J:=List.getElem?_eq_getElem hk;have hu:arr[k]?=some arr[k]:=Array.getElem?_eq_getElem (hU ▸ hk)
   ·simpa [hu] using h1 k _ hu
   ·simp [World.cell?,a1,hu]
   ·simpa [hu] using aU k _ y J ax (ao k _ _ J hu) (λc aa=>aN c ((mq c).2 (.inr ⟨k,hk,aa⟩))) ρ'
 | @a6 z n N p cs cs' au aF ak _ aU =>
  intro v F aZ aN ρ';obtain ⟨⟨a,iZ,cap,h1,rfl,aI⟩,_⟩:=aZ.nc;obtain ⟨qP,qU,gW,hD,nB⟩:=h.part au (by simp);rw [h1] at gW;cases gW;obtain ⟨a2,rR,us,bL,jd,k9,hlen,aP,aa⟩:=hD.zV;cases jd;have hle:n * z<=N * z:=Nat.mul_le_mul_right _ aF;have cell:∀ k,k<cs'.length->∃ x b,(cs.take (n * z))[k]?=some x/\a=some ⟨b,0,none⟩/\w.cell? ⟨b,k,none⟩=some (us k)/\(us k).oneCell'=true/\R w I (dT w T g) x (us k) (bL k)/\∀ c,bL k c->qU c:=by
   simp_all
  cases a with
  | none =>
   have lK:cs'=[]:=by
    cases cs' with
    | nil=>rfl
    | cons c l=>obtain ⟨_,b,_,av,_⟩:=cell 0 (by simp); cases av
   subst lK;obtain ⟨_,_,jd,_,_,_,rh⟩:=hD.nk;cases jd;have k':n=0:=by
    grind
   subst k';exact .hF λ_ h=>h
  | some ad =>
   obtain ⟨b,rfl,r0⟩:=aP ad rfl;refine .bm (us:=us) (λ_ h=>h) (by omega) (.inr ⟨_,nB b r0⟩) rfl (by rw [ak,List.length_take,hlen]; omega) (λk y ax=>?_) (λk y ax=>?_) λk y ax=>?_
   all_goals grind
 | @sub z lo n N p cs cs' au aF ak _ aU =>
  intro v F aZ aN ρ';obtain ⟨⟨a,iZ,cap,b',mP,h1,rfl,IJ,aI,cH⟩,_⟩:=aZ.xv;obtain ⟨qP,qU,gW,hD,nB⟩:=h.part au (by simp);rw [h1] at gW;cases gW;obtain ⟨a2,rR,us,bL,jd,k9,hlen,aP,aa⟩:=hD.zV;cases jd;have hle:lo * z+n * z<=N * z:=by rw [<- Nat.add_mul]; exact Nat.mul_le_mul_right _ aF
  have hU:cs'.length=n * z:=by rw [ak,List.length_take,List.length_drop,hlen]; omega
  have cell:∀ k,k<cs'.length->∃ x b,((cs.drop (lo * z)).take (n * z))[k]?=some x/\a=some ⟨b,0,none⟩/\w.cell? ⟨b,lo * z+k,none⟩=some (us (lo * z+k))/\(us (lo * z+k)).oneCell'=true/\R w I (dT w T g) x (us (lo * z+k)) (bL (lo * z+k))/\∀ c,bL (lo * z+k) c->qU c:=by
   grind
  by_cases k':n=0
  ·subst k';have lK:cs'=[]:=List.eq_nil_of_length_eq_zero (by simpa using hU);subst lK;exact .hF λ_ h=>h
  ·obtain ⟨ad,rfl,rfl⟩:=cH (by omega);obtain ⟨b,rfl,r0⟩:=aP ad rfl;refine .bm (us:=λk=>us (lo * z+k)) (λ_ h=>h) IJ (.inr ⟨_,nB b r0⟩) rfl hU (λk y ax=>?_) (λk y ax=>?_) λk y ax=>?_
   all_goals grind
 | @ptr p k z n y cs cs' au ax hk ak _ aU =>
  intro v F aZ aN ρ';obtain ⟨⟨u,ad,h1,af,rfl⟩,_⟩:=aZ.nQ;obtain ⟨qP,qU,gW,hD,nB⟩:=h.part au (by rcases ax with rfl | rfl <;> simp);rw [h1] at gW;cases gW;have cell:∀ j,j<cs'.length->∃ gZ lX yH,w.cell? ⟨ad.block,k+j,none⟩=some gZ/\gZ.oneCell'=true/\(cs.drop k)[j]?=some lX/\R w I (dT w T g) lX gZ yH/\(∀ c,yH c->∃ t,Fs t c):=by
   intro j ah;rw [ak,List.length_drop] at ah;have gh:cs[k+j]?=some cs[k+j]:=List.getElem?_eq_getElem (by omega);obtain ⟨b,gZ,fP,l6,oa,hp,_⟩:=hD.node ax gh;rw [af] at fP;cases fP;have gu:bD g (p.push (k+j))=some cs[k+j]:=by rw [tA,au]; rcases ax with rfl | rfl <;> simp [ab.kids]
   by_cases gR:∃ bE fQ cF m' c5,cs[k+j]=.bM bE fQ cF m' c5
   ·obtain ⟨bE,fQ,cF,m',c5,gR⟩:=gR;obtain ⟨b,Ze,_,_,BL,_,bL,kM⟩:=hD.node ax gh;rw [gR] at kM;exact kM.lj.elim
   ·obtain ⟨o5,K8,xj,Nb,mq⟩:=h.part gu (λbE fQ cF m' c5 e=>gR ⟨_,_,_,_,_,e⟩)
    grind [yo]
  obtain ⟨b,gZ,fP,_⟩:=hD.node ax (List.getElem?_eq_getElem hk);rw [af] at fP;cases fP;have hblk:∃ t,Fs t b:=⟨_,nB b (hD.Fl ax af)⟩;refine .cI (us:=λj=>(w.cell? ⟨b,k+j,none⟩).getD undef) (λ_ h=>h) (.inr hblk) rfl (λj jj vx=>?_) (λj jj vx=>?_) λj jj vx=>?_
  all_goals grind
 | @rows z n p cs cs' au ak _ aU =>
  intro v F aZ aN ρ';obtain ⟨a,iZ,cap,h1,rfl,aI⟩:=aZ.nc.1;obtain ⟨v0,e,us,iQ,a1,hlen,ql,av,ao⟩:=Rows.sound (w:=w) (I:=I) (T:=T) (Fs:=Fs) (λt z q n m new aw=>h.rel t _ aw) (λp z n cs au=>h.part au (by simp)) (λz p n v hv=>by obtain ⟨⟨a,cap,h1,rfl⟩,_⟩:=hv; exact h1) au;rw [h1] at iQ;cases iQ;refine PA a1 hlen ql av ak λk x y u J ax hu=>?_
  grind
end
end Go.Own
namespace Go.Own
open Go
def qc (args:List ab):aM:=λt=>args[t]?
def kV (outs:List (Option ab)) (res:ab):aM:=λt=>if t=outs.length then some res else (outs[t]?).join
structure ko (w:World) (I U:bb) (w':World) (I' DZ:bb):Prop where
 eS:Fr w w' U
 more:∀ c,I c->I' c
 new:∀ c,I' c->I c\/U c\/w.heap.size<=c
 own:∀ c,DZ c->U c\/w.heap.size<=c
def bV (P:Program) (f:FuncId) (args:List ab) (outs:List (Option ab)) (res:ab):Prop :=
 outs.length=args.length/\∀ (w:World) (I:bb) (vs:List Value) (Fs:Nat->bb),vs.length=args.length->cG w I vs.toArray (qc args) Fs ->
  Calls P f vs.toArray w λe w'=>∃ v I' b7,e=.returned v/\cG w' I' (vs++[v]).toArray (kV outs res) b7/\ko w I (λc=>∃ t,Fs t c) w' I' (λc=>∃ t,b7 t c)
def gN (P:Program) (f:FuncId):Bool :=
 match P.funcs[f]? with
 | some fn => fn.name != "runtime.NumGoroutine" && fn.body.isSome
 | none=>false
inductive cB (P:Program) (g:aM):Op->ab->Prop
 | plain {c:Operand}{xs:Array Operand}{gq:Array TypeId}{f:FuncId}{first caps ys:List ab}{res:ab}(aa:bt g c=some (.cW (.func f) first caps)) (J:gn g xs.toList=some ys) (aW:gN P f=true)
   (aF:∀ y∈first++ys++caps,cU y) (gQ:bV P f (first++ys++caps) ((first++ys++caps).map λ_=>none) res) (ao:cU res):cB P g (.call { callee:=.value c,args:=xs,argTypes:=gq }) res
 | E_ {c:Operand}{xs:Array Operand}{gq:Array TypeId}{f:FuncId}{first caps ys args:List ab}{res:ab}(aa:bt g c=some (.cW (.func f) first caps)) (J:gn g xs.toList=some ys) (aW:gN P f=true)
   (ak:args.length=(first++ys++caps).length) (hv:∀ (k:Nat) (x y:ab),(first++ys++caps)[k]?=some x->args[k]?=some y->View g x y) (gQ:bV P f args (args.map λ_=>none) res) (ao:kF res) :
   cB P g (.call { callee:=.value c,args:=xs,argTypes:=gq }) res
section
variable {P:Program}{w:World}{I:bb}{T:Array Value}{g:aM}{Fs:Nat->bb}
theorem Bc {f:FuncId}(h:gN P f=true) (args:Array Value):(callFunc f args).run P w=.ok (.enter f args) w:=by
 unfold gN at h;cases aW:P.funcs[f]? with
 | none=>simp [aW] at h
 | some fn =>
  simp [aW] at h;obtain ⟨h1,af⟩:=h;cases av:fn.body with
  | none=>simp [av] at af
  | some c=>simp [callFunc,aW,h1,av]
theorem Hh (h:cG w I T g Fs) {a:Act}(aP:a.tmps=T) {c:Operand}{xs:Array Operand}{f:FuncId}{first caps ys:List ab}(aa:bt g c=some (.cW (.func f) first caps)) (J:gn g xs.toList=some ys) :
  ∃ v1 v2:Array Value,a.eval c=.func (.func f) v1 v2/\(first++ys++caps).length=(v1++xs.map a.eval++v2).toList.length /\
   ∀ (k:Nat) (x:ab) (u:Value),(first++ys++caps)[k]?=some x->(v1++xs.map a.eval++v2).toList[k]?=some u->R w I (dT w T g) x u cy:=by
 have zh:=kf h aa aP;obtain ⟨ak,ao⟩:=zT h aP J;generalize ve:a.eval c=ac2 at zh;cases zh with
 | ref J=>simp [ab.isRef] at J
 | @cW _ _ _ v1 v2 _ _ h1 af ku iP =>
  have hlen:xs.size=ys.length:=by rw [<- Array.length_toList,ak]
  refine ⟨v1,v2,rfl,by simp [h1,af,hlen],λk x u qA pE=>?_⟩;simp only [Array.toList_append,Array.toList_map] at pE;by_cases hb:k<first.length
  ·rw [List.append_assoc,List.getElem?_append_left hb] at qA;rw [List.append_assoc,List.getElem?_append_left (by simp; omega)] at pE;exact ku k x u qA (by simpa using pE)
  ·rw [List.append_assoc,List.getElem?_append_right (by omega)] at qA;rw [List.append_assoc,List.getElem?_append_right (by simp; omega)] at pE;simp only [Array.length_toList,<- h1] at pE;by_cases fW:k - first.length<ys.length
   ·rw [List.getElem?_append_left fW] at qA;rw [List.getElem?_append_left (by simp; omega),List.getElem?_map] at pE;cases Je:xs.toList[k - first.length]? with
    | none=>rw [Je] at pE; cases pE
    | some o=>rw [Je] at pE; cases pE; exact ao _ x o qA Je
   ·rw [List.getElem?_append_right (by omega)] at qA;rw [List.getElem?_append_right (by simp; omega)] at pE;simp only [List.length_map,Array.length_toList] at pE;rw [hlen] at pE;exact iP _ x u qA (by simpa using pE)
theorem cG.args {I':bb}(h:cG w I T g Fs) (bf:∀ c,I' c->I c\/∃ t,Fs t c) {args:List ab}{vs:List Value}(ak:args.length=vs.length)
  (ao:∀ (ρ':ab->Value->Prop) (k:Nat) (x:ab) (u:Value),args[k]?=some x->vs[k]?=some u->R w I' ρ' x u cy):cG w I' vs.toArray (qc args) (λ_=>cy):=by
 refine ⟨λt x J=>?_,λ_ _ _ h=>h,λ_ _ _ h=>h.elim,λ_ _ h=>h.elim,λc aa=>?_,λt t' z p n m new bE cF m' c5 h1 af=>?_⟩
 ·have aw:t<args.length:=(List.getElem?_eq_some_iff.1 J).1;have hu:vs[t]?=some vs[t]:=List.getElem?_eq_getElem (ak ▸ aw);exact ⟨vs[t],by rw [List.getElem?_toArray]; exact hu,.tree (ao _ t x _ J hu)⟩
 ·rcases bf c aa with aQ | ⟨t,aQ⟩
  ·exact h.lt c aQ
  ·exact h.jZ t c aQ
 ·have aw:t<args.length:=(List.getElem?_eq_some_iff.1 h1).1;exact (ao (λ_ _=>False) t _ _ h1 (List.getElem?_eq_getElem (ak ▸ aw))).lj.elim
theorem cB.sound (h:cG w I T g Fs) {a:Act}(aP:a.tmps=T) {o:Oper}{kE:ab}(au:cB P g o.op kE) {K:Act->World->Prop}{Q:Exit->Act->World->Prop}
  (dj:∀ v w',uT w I T g Fs kE v w'->K (a.put o.dst v) w'):o.wp P a w K Q:=by
 obtain ⟨dst,op,ty,pos,after,guard⟩:=o;simp only at au dj;have CD:cU kE->∀ z p n m new,kE=.bM z p n m new->∀ t bE cF m' c5,g t≠some (.bM bE p cF m' c5):=by
  rintro aF z p n m new rfl;cases aF
 have last:∀ {args:List ab}{res:ab}{v:Value}{vs:List Value}{w':World}{I':bb}{b7:Nat->bb},vs.length=args.length->cG w' I' (vs++[v]).toArray (kV (args.map λ_=>none) res) b7->jD w' I' (dT w' (vs++[v]).toArray (kV (args.map λ_=>none) res)) res v (b7 args.length)/\∀ t,t≠args.length->∀ c,¬ b7 t c:=by
  intro args res v vs w' I' b7 ak bl;constructor
  ·obtain ⟨u,hu,aZ⟩:=bl.rel args.length res (by simp [kV]);have:u=v:=by
    rw [<- ak] at hu;simpa using hu.symm
   subst this; exact aZ
  ·intro t aw c aa;refine bl.kU t ?_ c aa;have EN:t≠(args.map λ_=>(none:Option ab)).length:=by simpa using aw
   simp only [kV,if_neg EN,List.getElem?_map];cases args[t]? <;> rfl
 cases au with
 | @plain c xs gq f first caps ys _ aa J aW aF gQ ao =>
  obtain ⟨v1,v2,ve,ak,qo⟩:=Hh h aP aa J;have hP:(execOp a.eval { dst:=dst,op:=.call { callee:=.value c,args:=xs,argTypes:=gq },type:=ty,pos:=pos,after:=after,guard:=guard }).run P w=.ok (.enter f (v1++xs.map a.eval++v2)) w:=by
   simp [execOp,resolve,Deferred.ofValue,ve,invoke,Bc aW]
  have bl:=h.args (I':=I) (λc aa=>.inl aa) ak λρ' k x u J hu=>(qo k x u J hu).bn (aF x (List.mem_of_getElem? J));have pA:=gQ.2 w I (v1++xs.map a.eval++v2).toList _ ak.symm bl;unfold Oper.wp Oper.upon;simp only [hP];rw [Array.toArray_toList] at pA;refine Calls.mono pA ?_;rintro e w' ⟨v,I',b7,rfl,dY,b1⟩;obtain ⟨zv,e9⟩:=last ak.symm dY;have oP:Fr w w' (λ_=>False):=b1.eS.mono λb _ ⟨_,av⟩=>av;refine dj v w' ⟨b7 (first++ys++caps).length,I',?_,?_,?_,?_,b1.more,?_,oP.mono λ_ _ h=>h.elim,CD ao⟩
  ·have:=h.world (w':=w') (λt c aa=>oP.block c (h.jZ t c aa) (λh=>h)) (λc aa=>oP.block c (h.lt c aa) λh=>h) oP.size;refine ⟨λt x J=>?_,this.kU,this.eJ,λt c aa hi=>?_,dY.lt,this.ru⟩
   ·obtain ⟨v,hv,aZ⟩:=this.rel t x J;exact ⟨v,hv,aZ.frame (λ_ _=>rfl) b1.more (λ_ _ h=>h) (λ_ _ _ _ _ _ _=>rfl) λ_ _=>rfl⟩
   ·rcases b1.new c hi with aQ | ⟨_,aQ⟩ | aQ
    ·exact h.bm t c aa aQ
    ·exact aQ
    ·have:=h.jZ t c aa; omega
  ·exact .tree ((zv.gJ (by rintro z p n m new rfl; cases ao)).bn ao)
  ·intro t c aa vg;rcases b1.own c ⟨_,aa⟩ with ⟨_,aQ⟩ | aQ
   ·exact aQ
   ·have:=h.jZ t c vg; omega
  ·intro c aa;rcases b1.own c ⟨_,aa⟩ with ⟨_,aQ⟩ | aQ
   ·exact aQ.elim
   ·exact ⟨aQ,dY.bm _ c aa⟩
  ·intro c aa;rcases b1.new c aa with aQ | ⟨_,aQ⟩ | aQ
   ·exact .inl aQ
   ·exact aQ.elim
   ·exact .inr aQ
 | @E_ c xs gq f first caps ys args _ aa J aW IB hv gQ ao =>
  obtain ⟨v1,v2,ve,ak,qo⟩:=Hh h aP aa J;have hP:(execOp a.eval { dst:=dst,op:=.call { callee:=.value c,args:=xs,argTypes:=gq },type:=ty,pos:=pos,after:=after,guard:=guard }).run P w=.ok (.enter f (v1++xs.map a.eval++v2)) w:=by
   simp [execOp,resolve,Deferred.ofValue,ve,invoke,Bc aW]
  have hU:args.length=(v1++xs.map a.eval++v2).toList.length:=by rw [IB,ak]
  have bl:=h.args (I':=λc=>I c\/∃ t,Fs t c) (λc aa=>aa) hU λρ' k x u J hu=>by
   have hk:k<(first++ys++caps).length:=by rw [<- IB]; exact (List.getElem?_eq_some_iff.1 J).1
   have iH:=List.getElem?_eq_getElem hk;exact (hv k _ x iH J).sound h (qo k _ u iH hu) (λ_ h=>h.elim) ρ'
  have pA:=gQ.2 w _ (v1++xs.map a.eval++v2).toList _ hU.symm bl;unfold Oper.wp Oper.upon;simp only [hP];rw [Array.toArray_toList] at pA;refine Calls.mono pA ?_;rintro e w' ⟨v,I',b7,rfl,dY,b1⟩;obtain ⟨zv,e9⟩:=last hU.symm dY;have oP:Fr w w' (λ_=>False):=b1.eS.mono λb _ ⟨_,av⟩=>av;refine dj v w' ⟨b7 args.length,I,?_,?_,?_,?_,λ_ h=>h,λ_ h=>.inl h,oP.mono λ_ _ h=>h.elim,CD ao.bn⟩
  ·exact h.world (w':=w') (λt c aa=>oP.block c (h.jZ t c aa) (λh=>h)) (λc aa=>oP.block c (h.lt c aa) λh=>h) oP.size
  ·exact .tree ((zv.gJ (by rintro z p n m new rfl; cases ao)).lk ao)
  ·intro t c aa vg;rcases b1.own c ⟨_,aa⟩ with ⟨_,aQ⟩ | aQ
   ·exact aQ
   ·have:=h.jZ t c vg; omega
  ·intro c aa;rcases b1.own c ⟨_,aa⟩ with ⟨_,aQ⟩ | aQ
   ·exact aQ.elim
   ·exact ⟨aQ,λhi=>by have:=h.lt c hi; omega⟩
end
end Go.Own
namespace Go.Own
open Go
structure jE (w:World) (I:bb) (T:Array Value) (g:aM) (Fs:Nat->bb):Prop where
 rel:∀ t x,g t=some x->∃ v,T[t]?=some v/\jD w I (fD w T) x v (Fs t)
 kU:∀ t,g t=none->∀ c,¬ Fs t c
 eJ:∀ t t' c,Fs t c->Fs t' c->t=t'
 bm:∀ t c,Fs t c->¬ I c
 lt:∀ c,I c->c<w.heap.size
def cv (g:aM) (p:Place) (y:ab):aM:=λt=>if t=p.root then (g t).map λx=>x.setAt p.path y else g t
inductive di (g:aM):ab->Prop
 | bn {x:ab}(h:cU x):di g x
 | ref {x:ab}(J:x.isRef=true) (h:gE g x):di g x
 | own {z n:Nat}{cs:List ab}(h:∀ x∈cs,di g x):di g (.own z n cs)
 | obj {cs:List ab}(h:∀ x∈cs,di g x):di g (.obj cs)
 | agg {cs:List ab}(h:∀ x∈cs,di g x):di g (.agg cs)
 | bW {cs:List ab}(h:∀ x∈cs,di g x):di g (.bW cs)
 | cW {fn:Fn}{a b:List ab}(h1:∀ x∈a,di g x) (af:∀ x∈b,di g x):di g (.cW fn a b)
 | bM {z n m:Nat}{p:Place}{new:List ab}(au:gE g (.bM z p n 0 [])) (h:∀ x∈new,di g x):di g (.bM z p n m new)
section
variable {w:World}{I:bb}{T:Array Value}{g:aM}{Fs:Nat->bb}
theorem R.bS {x:ab}{v:Value}{F:bb}(h:R w I (fD w T) x v F):di g x->R w I (dT w T g) x v F:=by
 induction h with
 | lit h aN=>exact λ_=>.lit h aN
 | aK aN=>exact λ_=>.aK aN
 | dead aN=>exact λ_=>.dead aN
 | @ref x _ _ J h aN =>
  intro hk;refine .ref J ⟨h,?_⟩ aN;cases hk with
  | ref _ h=>exact h
  | bn h=>cases h <;> simp [ab.isRef] at J
  | _=>simp [ab.isRef] at J
 | hF aN=>exact λ_=>.hF aN
 | mp a1 au aN=>exact λ_=>.mp a1 au aN
 | imp aN bf a1 au=>exact λ_=>.imp aN bf a1 au
 | bm aN k9 bf aC ak h1 aa ao aU =>
  intro hk;cases hk with
  | ref J=>simp [ab.isRef] at J
  | bn h=>cases h with | bm h=>exact .bm aN k9 bf aC ak h1 aa λk x J=>aU k x J (.bn (h x (List.mem_of_getElem? J)))
 | cI aN bf aC h1 aa ao aU =>
  intro hk;cases hk with
  | ref J=>simp [ab.isRef] at J
  | bn h=>cases h with | cI h=>exact .cI aN bf aC h1 aa λk x J=>aU k x J (.bn (h x (List.mem_of_getElem? J)))
 | own a1 ak h1 ao aS av aN aU =>
  intro hk;refine .own a1 ak h1 (λk x u J hu=>aU k x u J hu ?_) aS av aN;cases hk with
  | ref J=>simp [ab.isRef] at J
  | bn h=>cases h with | own h=>exact .bn (h x (List.mem_of_getElem? J))
  | own h=>exact h x (List.mem_of_getElem? J)
 | obj a1 ak h1 ao aS av aN aU =>
  intro hk;refine .obj a1 ak h1 (λk x u J hu=>aU k x u J hu ?_) aS av aN;cases hk with
  | ref J=>simp [ab.isRef] at J
  | bn h=>cases h with | obj h=>exact .bn (h x (List.mem_of_getElem? J))
  | obj h=>exact h x (List.mem_of_getElem? J)
 | agg ak h1 ao aS aN aU =>
  intro hk;refine .agg ak h1 (λk x u J hu=>aU k x u J hu ?_) aS aN;cases hk with
  | ref J=>simp [ab.isRef] at J
  | bn h=>cases h with | agg h=>exact .bn (h x (List.mem_of_getElem? J))
  | agg h=>exact h x (List.mem_of_getElem? J)
 | bW ak ao aS aN aU =>
  intro hk;refine .bW ak (λk x u J hu=>aU k x u J hu ?_) aS aN;cases hk with
  | ref J=>simp [ab.isRef] at J
  | bn h=>cases h with | bW h=>exact .bn (h x (List.mem_of_getElem? J))
  | bW h=>exact h x (List.mem_of_getElem? J)
 | @cW fn first caps v1 v2 F aN h1 af ku iP gA gi =>
  intro hk;have:(∀ x∈first,di g x)/\∀ x∈caps,di g x:=by
   cases hk with
   | ref J=>simp [ab.isRef] at J
   | bn h=>cases h with | cW h1 af=>exact ⟨λx J=>.bn (h1 x J),λx J=>.bn (af x J)⟩
   | cW h1 af=>exact ⟨h1,af⟩
  exact .cW aN h1 af (λk x u J hu=>gA k x u J hu (this.1 x (List.mem_of_getElem? J))) (λk x u J hu=>gi k x u J hu (this.2 x (List.mem_of_getElem? J)))
theorem jD.bS {x:ab}{v:Value}{F:bb}(h:jD w I (fD w T) x v F) (hk:di g x):jD w I (dT w T g) x v F:=by
 cases h with
 | tree h=>exact .tree (h.bS hk)
 | bM h =>
  cases hk with
  | bn h=>cases h
  | ref J=>simp [ab.isRef] at J
  | bM au aF=>exact .bM ⟨⟨h.jV,au⟩,h.lb,h.nK,h.ak,h.h1,λk x u J hu=>(h.ao k x u J hu).bS (aF x (List.mem_of_getElem? J)),h.aN⟩
theorem cG.mE (h:cG w I T g Fs):jE w I T g Fs :=
  ⟨λt x J=>by
    obtain ⟨v,hv,aZ⟩:=h.rel t x J;refine ⟨v,hv,?_⟩;cases aZ with
    | tree aZ=>exact .tree (aZ.frame (λ_ _=>rfl) (λ_ h=>h) (λ_ _ h=>h.1) λ_ _=>rfl)
    | bM aZ=>exact .bM ⟨aZ.jV.1,aZ.lb,aZ.nK,aZ.ak,aZ.h1,λk x u J hu=>(aZ.ao k x u J hu).frame (λ_ _=>rfl) (λ_ h=>h) (λ_ _ h=>h.1) λ_ _=>rfl,aZ.aN⟩,
   h.kU,h.eJ,h.bm,h.lt⟩
theorem jE.Y7 (h:jE w I T g Fs) {g':aM}(aO:∀ t x,g' t=some x->g t=some x) (hk:∀ t x,g' t=some x->di g' x)
  (au:∀ t t' z p n m new bE cF m' c5,g' t=some (.bM z p n m new)->g' t'=some (.bM bE p cF m' c5)->t=t'):cG w I T g' (λt c=>g' t≠none/\Fs t c):=by
 refine ⟨λt x J=>?_,λt aw c aa=>aa.1 aw,λt t' c aa fr=>h.eJ t t' c aa.2 fr.2,λt c aa=>h.bm t c aa.2,h.lt,au⟩;obtain ⟨v,hv,aZ⟩:=h.rel t x (aO t x J);have:Fs t=λc=>g' t≠none/\Fs t c:=by
  grind
 refine ⟨v,hv,?_⟩;rw [<- this];exact aZ.bS (hk t x J)
theorem jE.part (h:jE w I T g Fs) {p:Place}{y:ab}(au:bD g p=some y) (ax:∀ z q n m new,y≠.bM z q n m new):∃ v cA,dW w T p=some v/\R w I (fD w T) y v cA/\(∀ c,cA c->Fs p.root c) /\
  ∀ (y':ab) (jl:bb),R w I (fD w T) y' v jl->(∀ c,jl c->Fs p.root c->cA c)->(∀ c,jl c->¬ I c)->(∀ t c,t≠p.root->jl c->¬ Fs t c) ->
   ∃ b7,jE w I T (cv g p y') b7/\(∀ c,b7 p.root c↔(Fs p.root c/\¬ cA c)\/jl c)/\∀ t,t≠p.root->b7 t=Fs t:=by
 unfold bD at au;cases J:g p.root with
 | none=>rw [J] at au; cases au
 | some x =>
  rw [J] at au;obtain ⟨v,hv,aZ⟩:=h.rel _ _ J;replace aZ:=aZ.gJ (by
   grind [ab.sC])
  obtain ⟨h0,cA,hw,dI,dy,eW,kg⟩:=R.focus p.path aZ au;refine ⟨h0,cA,by simp [dW,hv,hw],dI,dy,λy' jl jM mW bf acD=>?_⟩;obtain ⟨c9,Ev,pq⟩:=kg w I (fD w T) y' jl ⟨λ_ _=>rfl,λ_ _ _=>rfl,λ_ h=>h,λ_ _ h=>h⟩ jM mW;refine ⟨λt=>if t=p.root then c9 else Fs t,⟨λt x' gh=>?_,λt aw c=>?_,λt t' c aa fr=>?_,λt c aa=>?_,h.lt⟩,λc=>by simp [pq c],λt aw=>by simp [aw]⟩
  ·by_cases iG:t=p.root
   ·subst iG;have Wi:x.setAt p.path y'=x':=by simpa [cv,J] using gh
    subst Wi;exact ⟨v,hv,.tree (by simpa using Ev)⟩
   ·simp only [cv,if_neg iG] at gh;simpa [iG] using h.rel t x' gh
  ·by_cases iG:t=p.root
   ·grind [cv]
   ·simp only [cv,if_neg iG] at aw;simpa [iG] using h.kU t aw c
  ·by_cases h1:t=p.root <;> by_cases af:t'=p.root <;> simp only [h1,af,if_true,if_false] at aa fr
   ·grind
   ·rcases (pq c).1 aa with ⟨aI,_⟩ | aI
    ·rw [h1];exact h.eJ _ _ _ aI fr
    grind
   ·rcases (pq c).1 fr with ⟨aI,_⟩ | aI
    ·rw [af];exact h.eJ _ _ _ aa aI
    grind
   ·exact h.eJ _ _ _ aa fr
  ·by_cases h1:t=p.root <;> simp only [h1,if_true,if_false] at aa
   ·rcases (pq c).1 aa with ⟨aI,_⟩ | aI
    ·exact h.bm _ c aI
    grind
   ·exact h.bm t c aa
end
end Go.Own
namespace Go.Own
open Go
inductive Take:aM->List ab->List ab->aM->Prop
 | bn {g:aM}{xs:List ab}(h:∀ x∈xs,cU x):Take g xs xs g
 | cons {g g':aM}{x:ab}{xs xs':List ab}(h:cU x) (aw:Take g xs xs' g'):Take g (x::xs) (x::xs') g'
 | a6 {g g1 g':aM}{z n N:Nat}{p:Place}{cs cs' xs xs':List ab}(au:bD g p=some (.own z N cs)) (aF:n<=N) (h1:Take (cv g p .dead) (cs.take (n * z)) cs' g1) (af:Take g1 xs xs' g') :
   Take g (.a6 z p n::xs) (.own z n cs'::xs') g'
 | bM {g g1 g':aM}{z n m t:Nat}{q:Place}{cs new cs' xs xs':List ab}(aw:g t=some (.bM z q n m new)) (au:bD g q=some (.own z n cs)) (bg:q.root≠t) (h1:Take (cv (cv g ⟨t,[]⟩ .dead) q .dead) (cs++new) cs' g1) (af:Take g1 xs xs' g') :
   Take g (.a6 z ⟨t,[]⟩ (n+m)::xs) (.own z (n+m) cs'::xs') g'
 | Fx {g g1 g':aM}{z n m t rm m2 t2:Nat}{q:Place}{cs new zP cs' xs xs':List ab}(aw:g t=some (.bM z ⟨t2,[]⟩ n m new)) (N8:g t2=some (.bM z q rm m2 zP)) (aF:n=rm+m2) (au:bD g q=some (.own z rm cs)) (bg:q.root≠t) (uf:q.root≠t2) (V5:t≠t2)
   (h1:Take (cv (cv (cv g ⟨t,[]⟩ .dead) ⟨t2,[]⟩ .dead) q .dead) (cs++zP++new) cs' g1) (af:Take g1 xs xs' g') :
   Take g (.a6 z ⟨t,[]⟩ (n+m)::xs) (.own z (n+m) cs'::xs') g'
 | obj {g g1 g':aM}{p:Place}{cs cs' xs xs':List ab}(au:bD g p=some (.obj cs)) (h1:Take (cv g p .dead) cs cs' g1) (af:Take g1 xs xs' g'):Take g (.ptr p 0::xs) (.obj cs'::xs') g'
 | mp {g g1 g':aM}{p:Place}{q:Array MapEntry->Nat->Prop}{xs xs':List ab}(au:bD g p=some (.mp q)) (h1:Take (cv g p .dead) [] [] g1) (af:Take g1 xs xs' g'):Take g (.gB p::xs) (.mp q::xs') g'
 | agg {g g1 g':aM}{cs cs' xs xs':List ab}(h1:Take g cs cs' g1) (af:Take g1 xs xs' g'):Take g (.agg cs::xs) (.agg cs'::xs') g'
 | bW {g g1 g':aM}{cs cs' xs xs':List ab}(h1:Take g cs cs' g1) (af:Take g1 xs xs' g'):Take g (.bW cs::xs) (.bW cs'::xs') g'
structure Hand (w:World) (I:bb) (ρ:ab->Value->Prop) (Fs:Nat->bb) (xs:List ab) (vs:List Value) (dD:Nat->bb):Prop where
 len:xs.length=vs.length
 rel:∀ (k:Nat) (x:ab) (u:Value),xs[k]?=some x->vs[k]?=some u->R w I ρ x u (dD k)
 eJ:∀ (j k c:Nat),j<xs.length->k<xs.length->dD j c->dD k c->j=k
 off:∀ (k t c:Nat),k<xs.length->dD k c->¬ Fs t c
 bm:∀ (k c:Nat),k<xs.length->dD k c->¬ I c
def lu (Fs:Nat->bb) (n:Nat) (dD:Nat->bb):bb:=λc=>(∃ t,Fs t c)\/∃ k,k<n/\dD k c
section
variable {w:World}{I:bb}{T:Array Value}
theorem Take.length {g g':aM}{xs xs':List ab}(h:Take g xs xs' g'):xs'.length=xs.length:=by
 induction h with
 | bn=>rfl
 | cons _ _ aU=>simp [aU]
 | a6 _ _ _ _ _ aU=>simp [aU]
 | bM _ _ _ _ _ _ aU=>simp [aU]
 | Fx _ _ _ _ _ _ _ _ _ _ aU=>simp [aU]
 | obj _ _ _ _ aU=>simp [aU]
 | mp _ _ _ _ aU=>simp [aU]
 | agg _ _ _ aU=>simp [aU]
 | bW _ _ _ aU=>simp [aU]
theorem Hand.cons {ρ:ab->Value->Prop}{Fs:Nat->bb}{x:ab}{v:Value}{F:bb}{xs:List ab}{vs:List Value}{dD:Nat->bb}(h:Hand w I ρ Fs xs vs dD) (J:R w I ρ x v F)
  (aS:∀ k c,k<xs.length->F c->¬ dD k c) (a1:∀ t c,F c->¬ Fs t c) (hi:∀ c,F c->¬ I c):Hand w I ρ Fs (x::xs) (v::vs) (λk=>match k with | 0=>F | k+1=>dD k):=by
 refine ⟨by simp [h.len],λk y u ax hu=>?_,λj k c ah hk h1 af=>?_,λk t c hk aa=>?_,λk c hk aa=>?_⟩
 ·cases k with
  | zero=>simp at ax hu; subst ax hu; exact J
  | succ k=>simp at ax hu; exact h.rel k y u ax hu
 ·cases j <;> cases k
  ·rfl
  ·exact absurd af (aS _ c (by simpa using hk) h1)
  ·exact absurd h1 (aS _ c (by simpa using ah) af)
  ·rw [h.eJ _ _ c (by simpa using ah) (by simpa using hk) h1 af]
 ·cases k with
  | zero=>exact a1 t c aa
  | succ k=>exact h.off k t c (by simpa using hk) aa
 ·cases k with
  | zero=>exact hi c aa
  | succ k=>exact h.bm k c (by simpa using hk) aa
theorem Hand.tail {ρ:ab->Value->Prop}{Fs:Nat->bb}{x:ab}{v:Value}{xs:List ab}{vs:List Value}{dD:Nat->bb}(h:Hand w I ρ Fs (x::xs) (v::vs) dD):Hand w I ρ Fs xs vs (λk=>dD (k+1)) :=
  ⟨by simpa using h.len,λk y u ax hu=>h.rel (k+1) y u ax hu,λj k c ah hk h1 af=>by have:=h.eJ (j+1) (k+1) c (by simpa using ah) (by simpa using hk) h1 af; omega,
   λk t c hk aa=>h.off (k+1) t c (by simpa using hk) aa,λk c hk aa=>h.bm (k+1) c (by simpa using hk) aa⟩
theorem pQ {x:ab}{xs:List ab}(h:cU x) (aU:∀ y∈xs,cU y):∀ y∈x::xs,cU y:=by
 intro y ax;rcases List.mem_cons.1 ax with rfl | ax
 ·exact h
 ·exact aU y ax
theorem Take.Fo {g g':aM}{xs xs':List ab}(h:Take g xs xs' g'):∀ x∈xs',cU x:=by
 induction h with
 | bn h=>exact h
 | cons h _ aU=>exact pQ h aU
 | a6 _ _ _ _ gA gi=>exact pQ (.own gA) gi
 | bM _ _ _ _ _ gA gi=>exact pQ (.own gA) gi
 | Fx _ _ _ _ _ _ _ _ _ gA gi=>exact pQ (.own gA) gi
 | obj _ _ _ gA gi=>exact pQ (.obj gA) gi
 | mp _ _ _ _ gi=>exact pQ .mp gi
 | agg _ _ gA gi=>exact pQ (.agg gA) gi
 | bW _ _ gA gi=>exact pQ (.bW gA) gi
def GL (w:World) (I:bb) (T:Array Value) (g:aM) (xs xs':List ab) (g':aM):Prop :=
 ∀ {Fs:Nat->bb}{vs:List Value}{dD:Nat->bb},jE w I T g Fs->Hand w I (fD w T) Fs xs vs dD ->
  ∃ b7 lZ,jE w I T g' b7/\Hand w I (fD w T) b7 xs' vs lZ/\∀ c,lu b7 xs'.length lZ c->lu Fs xs.length dD c
theorem JY {w:World}{e cj:TypeId}{z n:Nat}{v:Value}{us iU:List Value}(h:w.ownsRow 0 e z v n us) (aQ:w.ownsRow 0 cj z v n iU):us=iU:=by
 obtain ⟨h1,af⟩:=h;obtain ⟨ql,TE⟩:=aQ;rcases af with ⟨rfl,rfl⟩ | ⟨b,cap,cur,rfl,_,aO,_,_,_,aw⟩
 ·simp at h1 ql; rw [h1,ql]
 ·rcases TE with ⟨bY,_⟩ | ⟨eC,mP,abu,bY,_,ND,_,_,_,EN⟩
  ·cases bY
  ·cases bY;rw [aO] at ND;cases ND;rw [<- aw,<- EN]
theorem Take.node {g1 g2 g':aM}{Fs f_:Nat->bb}{B H0:bb}{cs cs' xs xs':List ab}{us vs:List Value}{bL dD:Nat->bb}{X:ab}{v0:Value}
  (bl:jE w I T g1 f_) (hH:Hand w I (fD w T) f_ cs us bL) (fm:∀ c,B c->(∃ t,Fs t c)/\(∀ t,¬ f_ t c)/\(∀ k,k<cs.length->¬ bL k c)/\¬ I c)
  (gI:∀ c,lu f_ cs.length bL c->(∃ t,Fs t c)\/H0 c) (dL:Hand w I (fD w T) Fs xs vs dD) (u9:∀ c,H0 c->(∀ t,¬ Fs t c)/\∀ k,k<xs.length->¬ dD k c)
  (gA:GL w I T g1 cs cs' g2) (gi:GL w I T g2 xs xs' g')
  (build:∀ lZ:Nat->bb,(∀ (k:Nat) (x:ab) (u:Value),cs'[k]?=some x->us[k]?=some u->R w I (fD w T) x u (lZ k))->(∀ (j k c:Nat),j<cs'.length->k<cs'.length->lZ j c->lZ k c->j=k) ->
   (∀ k c,k<cs'.length->lZ k c->¬ B c)->R w I (fD w T) X v0 (λc=>B c\/∃ k,k<cs'.length/\lZ k c)) :
  ∃ b7 lZ,jE w I T g' b7/\Hand w I (fD w T) b7 (X::xs') (v0::vs) lZ/\∀ c,lu b7 (X::xs').length lZ c->(∃ t,Fs t c)\/H0 c\/∃ k,k<xs.length/\dD k c:=by
 obtain ⟨iY,H1,h7,Eu,BD⟩:=gA bl hH;have Xk:∀ k t c,k<xs.length->dD k c->¬ iY t c:=by
  intro k t c hk aa aW;rcases gI c (BD c (.inl ⟨t,aW⟩)) with ⟨t',h⟩ | h
  ·exact dL.off k t' c hk aa h
  ·exact (u9 c h).2 k hk aa
 obtain ⟨yG,AU,HX,Ud,Nh⟩:=gi h7 (⟨dL.len,dL.rel,dL.eJ,Xk,dL.bm⟩:Hand w I (fD w T) iY xs vs dD);have T2:∀ k c,k<cs'.length->H1 k c->¬ B c:=by
  intro k c hk aa av;obtain ⟨_,h1,af,_⟩:=fm c av;rcases BD c (.inr ⟨k,hk,aa⟩) with ⟨t,h⟩ | ⟨j,ah,h⟩
  ·exact h1 t h
  ·exact af j ah h
 have tP:=build H1 Eu.rel Eu.eJ T2
 -- the node's blocks: apart from all else
 have key:∀ c,(B c\/∃ k,k<cs'.length/\H1 k c)->(∀ t,¬ iY t c)/\(∀ k,k<xs.length->¬ dD k c)/\¬ I c/\((∃ t,Fs t c)\/H0 c):=by
  rintro c (av | ⟨k,hk,aa⟩)
  ·obtain ⟨⟨t0,aR⟩,h1,af,aI⟩:=fm c av;refine ⟨λt aW=>?_,λk hk aa=>dL.off k t0 c hk aa aR,aI,.inl ⟨t0,aR⟩⟩;rcases BD c (.inl ⟨t,aW⟩) with ⟨t',h⟩ | ⟨j,ah,h⟩
   ·exact h1 t' h
   ·exact af j ah h
  ·have aC:=gI c (BD c (.inr ⟨k,hk,aa⟩));refine ⟨λt aW=>Eu.off k t c hk aa aW,λj ah w7=>?_,Eu.bm k c hk aa,aC⟩;rcases aC with ⟨t,h⟩ | h
   ·exact dL.off j t c ah w7 h
   ·exact (u9 c h).2 j ah w7
 have fin:∀ c,(B c\/∃ k,k<cs'.length/\H1 k c)->(∀ t,¬ yG t c)/\∀ k,k<xs'.length->¬ AU k c:=by
  intro c aa;obtain ⟨h1,af,_,_⟩:=key c aa;have none:¬ lu yG xs'.length AU c:=by
   intro h;rcases Nh c h with ⟨t,h⟩ | ⟨k,hk,h⟩
   ·exact h1 t h
   ·exact af k hk h
  exact ⟨λt h=>none (.inl ⟨t,h⟩),λk hk h=>none (.inr ⟨k,hk,h⟩)⟩
 refine ⟨yG,_,HX,Ud.cons tP (λk c hk aa=>(fin c aa).2 k hk) (λt c aa=>(fin c aa).1 t) (λc aa=>(key c aa).2.2.1),?_⟩;have back:∀ c,lu yG xs'.length AU c->(∃ t,Fs t c)\/H0 c\/∃ k,k<xs.length/\dD k c:=by
  intro c h;rcases Nh c h with ⟨t,h⟩ | h
  ·rcases gI c (BD c (.inl ⟨t,h⟩)) with h | h
   ·exact .inl h
   ·exact .inr (.inl h)
  ·exact .inr (.inr h)
 rintro c (h | ⟨k,hk,aa⟩)
 ·exact back c (.inl h)
 ·cases k with
  | zero =>
   rcases (key c aa).2.2.2 with h | h
   ·exact .inl h
   ·exact .inr (.inl h)
  | succ k=>exact back c (.inr ⟨k,by simpa using hk,aa⟩)
end
end Go.Own
namespace Go.Own
open Go
section
variable {w:World}{I:bb}{T:Array Value}
theorem jE.kill {g:aM}{Fs:Nat->bb}(h:jE w I T g Fs) (t:Nat):∃ b7,jE w I T (cv g ⟨t,[]⟩ .dead) b7/\(∀ c,¬ b7 t c)/\∀ s,s≠t->b7 s=Fs s:=by
 refine ⟨λs=>if s=t then cy else Fs s,⟨λs x J=>?_,λs aC c=>?_,λs cT c aa fr=>?_,λs c aa=>?_,h.lt⟩,λc=>by simp,λs aC=>by simp [aC]⟩
 ·by_cases b1:s=t
  ·subst b1;simp only [cv,if_pos] at J;cases aO:g s with
   | none=>rw [aO] at J; cases J
   | some y =>
    rw [aO] at J;have:x=.dead:=by simpa [ab.setAt] using J.symm
    subst this;obtain ⟨v,hv,_⟩:=h.rel s y aO;exact ⟨v,hv,.tree (.dead (by simp))⟩
  ·simp only [cv,if_neg b1] at J; simpa [b1] using h.rel s x J
 ·by_cases b1:s=t
  ·simp [b1]
  ·simp only [cv,if_neg b1] at aC; simpa [b1] using h.kU s aC c
 ·by_cases h1:s=t <;> by_cases af:cT=t <;> simp [h1,af,cy] at aa fr;exact h.eJ _ _ _ aa fr
 ·by_cases h1:s=t <;> simp [h1,cy] at aa;exact h.bm _ _ aa
theorem R.vf {ρ:ab->Value->Prop}{Fs:Nat->bb}{x:ab}{v:Value}{xs:List ab}{vs:List Value}{dD:Nat->bb}(h:Hand w I ρ Fs (x::xs) (v::vs) dD):∀ c,dD 0 c->(∀ t,¬ Fs t c)/\∀ k,k<xs.length->¬ dD (k+1) c:=by
 intro c aa;refine ⟨λt=>h.off 0 t c (by simp) aa,λk hk h9=>?_⟩;have:=h.eJ 0 (k+1) c (by simp) (by simpa using hk) aa h9;omega
theorem lu.head {Fs:Nat->bb}{x:ab}{xs:List ab}{dD:Nat->bb}{c:Nat}(h:(∃ t,Fs t c)\/dD 0 c\/∃ k,k<xs.length/\dD (k+1) c):lu Fs (x::xs).length dD c:=by
 rcases h with h | h | ⟨k,hk,h⟩
 ·exact .inl h
 ·exact .inr ⟨0,by simp,h⟩
 ·exact .inr ⟨k+1,by simpa using hk,h⟩
theorem FX {g:aM}{p:Place}{y:ab}{q:Place}(h:q.root≠p.root):bD (cv g p y) q=bD g q:=by
 grind [bD,cv]
theorem uG {g:aM}{p:Place}{y:ab}{t:Nat}(h:t≠p.root):cv g p y t=g t:=by
 grind [cv]
theorem Pb {a:Option Addr}{n cap cF mP:Nat}:(Value.slice a n cap).ownBlock=(Value.slice a cF mP).ownBlock:=by cases a <;> rfl
theorem Xs {e:TypeId}{z n N:Nat}{a:Option Addr}{cap:Nat}{us:List Value}(h:w.ownsRow 0 e z (.slice a N cap) N us) (aF:n<=N):w.ownsRow 0 e z (.slice a n cap) n (us.take (n * z)):=by
 have hle:n * z<=N * z:=Nat.mul_le_mul_right _ aF;obtain ⟨hu,bY⟩:=h;refine ⟨by rw [List.length_take,hu]; omega,?_⟩
 grind
theorem Take.sound {g g':aM}{xs xs':List ab}(h:Take g xs xs' g'):GL w I T g xs xs' g':=by
 induction h with
 | bn h=>exact λ{Fs vs dD} bl hH=>⟨Fs,dD,bl,hH,λ_ h=>h⟩
 | @cons g g' x xs xs' J _ aU =>
  intro Fs vs dD bl hH;cases vs with
  | nil=>have:=hH.len; simp at this
  | cons v vs =>
   obtain ⟨b7,lZ,dY,Uc,hN⟩:=aU bl hH.tail;have aR:=R.vf hH;have off:∀ c,dD 0 c->¬ lu b7 xs'.length lZ c:=by
    intro c aa av;rcases hN c av with ⟨t,h⟩ | ⟨k,hk,h⟩
    ·grind
    grind
   refine ⟨b7,_,dY,Uc.cons (hH.rel 0 x v rfl rfl) (λk c hk aa h=>off c aa (.inr ⟨k,hk,h⟩)) (λt c aa h=>off c aa (.inl ⟨t,h⟩)) (λc aa=>hH.bm 0 c (by simp) aa),?_⟩;rintro c (h | ⟨k,hk,h⟩)
   ·rcases hN c (.inl h) with h | ⟨j,ah,h⟩
    ·exact .inl h
    ·exact .inr ⟨j+1,by simpa using ah,h⟩
   ·cases k with
    | zero=>exact .inr ⟨0,by simp,h⟩
    | succ k =>
     rcases hN c (.inr ⟨k,by simpa using hk,h⟩) with h | ⟨j,ah,h⟩
     ·exact .inl h
     ·exact .inr ⟨j+1,by simpa using ah,h⟩
 | @a6 g g1 g' z n N p cs cs' xs xs' au aF t1 _ gA gi =>
  intro Fs vs dD bl hH;cases vs with
  | nil=>have:=hH.len; simp at this
  | cons v vs =>
   obtain ⟨qP,cA,gW,hD,dy,kg⟩:=bl.part au (by simp);obtain ⟨a,iZ,cap,h1,rfl,aI⟩:=(hH.rel 0 _ v rfl rfl).nc;rw [h1] at gW;cases gW;obtain ⟨a2,rR,jd,_⟩:=hD.nk;cases jd;obtain ⟨f_,jc,ku,iP⟩:=kg .dead cy (.dead λ_ h=>h) (λ_ h=>h.elim) (λ_ h=>h.elim) (λ_ _ _ h=>h.elim);have pt:∀ t c,f_ t c->Fs t c/\¬ cA c:=by
    intro t c aa;by_cases aw:t=p.root
    ·grind
    ·rw [iP t aw] at aa;exact ⟨aa,λeN=>aw (bl.eJ _ _ _ aa (dy c eN))⟩
   cases hD with
   | ref J=>simp [ab.isRef] at J
   | @own _ _ _ _ e us bL _ a1 ak ql ao aS av aN =>
    have EM:∀ k,k<(cs.take (n * z)).length->k<cs.length:=λk hk=>by rw [List.length_take] at hk; omega
    have fV:∀ k c,k<(cs.take (n * z)).length->bL k c->cA c:=λk c hk aa=>(aN c).2 (.inr ⟨k,EM k hk,aa⟩);have iN:Hand w I (fD w T) f_ (cs.take (n * z)) (us.take (n * z)) bL:=by
     refine ⟨by simp [ak],λk x u J hu=>?_,λj k c ah hk=>aS j k c (EM j ah) (EM k hk),λk t c hk aa aW=>(pt t c aW).2 (fV k c hk aa),λk c hk aa=>bl.bm _ c (dy c (fV k c hk aa))⟩
     grind
    have qu:=Xs a1 aF;obtain ⟨b7,lZ,aE,a2,a3⟩:=Take.node (g1:=cv g p .dead) (Fs:=Fs) (B:=λc=>(Value.slice a n cap).ownBlock=some c) (H0:=dD 0) (X:=.own z n cs') (v0:=.slice a n cap) jc iN
     (λc aa=>by
      have eN:cA c:=(aN c).2 (.inl (by rw [<- aa]; exact Pb));exact ⟨⟨_,dy c eN⟩,λt aW=>(pt t c aW).2 eN,λk hk h9=>av k c (EM k hk) h9 (by rw [<- aa]; exact Pb),bl.bm _ c (dy c eN)⟩)
     (λc aa=>by
      rcases aa with ⟨t,h⟩ | ⟨k,hk,h⟩
      ·grind
      grind)
     hH.tail (R.vf hH) gA gi (λyJ hg iD lC=>by
      refine .own qu (by rw [t1.length]; simp [ak]) (λk u hu=>?_) hg iD (λk c hk aa h=>lC k c hk aa h) λc=>Iff.rfl
      grind)
    grind [lu.head]
 | @bM g g1 g' z n m t q cs new cs' xs xs' aw au bg t1 _ gA gi =>
  intro Fs vs dD bl hH;cases vs with
  | nil=>have:=hH.len; simp at this
  | cons v vs =>
   obtain ⟨a,iZ,cap,h1,rfl,aI⟩:=(hH.rel 0 _ v rfl rfl).nc;obtain ⟨v0,iQ,gG⟩:=bl.rel t _ aw;simp only [dW,iQ,walk,Option.some.injEq] at h1;subst h1;obtain ⟨bv,e,cf,us,news,gG⟩:=gG.vA;have bc:iZ=n+m:=by
    obtain ⟨_,bY⟩:=gG.nK
    grind
   subst bc;obtain ⟨Q0,HZ,hb,fW⟩:=bl.kill t;have IN:bD (cv g ⟨t,[]⟩ .dead) q=some (.own z n cs):=by rw [FX (by simpa using bg)]; exact au
   obtain ⟨qP,cA,gW,hD,dy,kg⟩:=HZ.part IN (by simp);obtain ⟨b',mP,bK,rfl⟩:=gG.jV;rw [bK] at gW;cases gW;obtain ⟨f_,jc,ku,iP⟩:=kg .dead cy (.dead λ_ h=>h) (λ_ h=>h.elim) (λ_ h=>h.elim) (λ_ _ _ h=>h.elim);have r1:∀ c,cA c->Fs q.root c:=λc aa=>by have:=dy c aa; rwa [fW _ bg] at this
   have pt:∀ s c,f_ s c->Fs s c/\¬ cA c/\s≠t:=by
    intro s c aa;have b1:s≠t:=by
     rintro rfl;by_cases N6:s=q.root
     ·grind
     simp_all
    by_cases aC:s=q.root
    ·grind
    ·rw [iP s aC,fW s b1] at aa;exact ⟨aa,λeN=>aC (bl.eJ _ _ _ aa (r1 c eN)),b1⟩
   cases hD with
   | ref J=>simp [ab.isRef] at J
   | @own _ _ _ _ cj iU bL _ a1 ak ql ao aS av aN =>
    have:=JY a1 gG.lb;subst this;have fV:∀ k c,k<cs.length->bL k c->cA c:=λk c hk aa=>(aN c).2 (.inr ⟨k,hk,aa⟩);have iN:Hand w I (fD w T) f_ (cs++new) (iU++news) (λk=>if k<cs.length then bL k else cy):=by
     refine ⟨by simp [ak,gG.ak],λk x u J hu=>?_,λj k c ah hk aa fr=>?_,λk s c hk aa aW=>?_,λk c hk aa=>?_⟩
     ·by_cases fy:k<cs.length
      ·grind
      ·rw [List.getElem?_append_right (by omega)] at J;rw [List.getElem?_append_right (by omega),<- ak] at hu;simpa [fy] using gG.ao _ x u J hu
     ·by_cases eZ:j<cs.length <;> by_cases fy:k<cs.length <;> simp [eZ,fy,cy] at aa fr
      grind
     ·by_cases fy:k<cs.length <;> simp [fy,cy] at aa
      grind
     ·by_cases fy:k<cs.length <;> simp [fy,cy] at aa;exact bl.bm _ c (r1 c (fV k c fy aa))
    obtain ⟨b7,lZ,aE,a2,a3⟩:=Take.node (g1:=cv (cv g ⟨t,[]⟩ .dead) q .dead) (Fs:=Fs) (B:=λc=>(Value.slice a (n+m) cap).ownBlock=some c) (H0:=dD 0) (X:=.own z (n+m) cs') (v0:=.slice a (n+m) cap) jc iN
     (λc aa=>by
      by_cases rb:(Value.slice b' n mP).ownBlock=some c
      ·have eN:cA c:=(aN c).2 (.inl rb);refine ⟨⟨_,r1 c eN⟩,λs aW=>(pt s c aW).2.1 eN,λk hk h9=>?_,bl.bm _ c (r1 c eN)⟩;by_cases fy:k<cs.length <;> simp [fy,cy] at h9
       grind
      ·have EO:Fs t c:=(gG.aN c).2 ⟨aa,rb⟩;refine ⟨⟨_,EO⟩,λs aW=>(pt s c aW).2.2 (bl.eJ _ _ _ (pt s c aW).1 EO),λk hk h9=>?_,bl.bm _ c EO⟩;by_cases fy:k<cs.length <;> simp [fy,cy] at h9;exact bg (bl.eJ _ _ _ (r1 c (fV k c fy h9)) EO))
     (λc aa=>by
      rcases aa with ⟨s,h⟩ | ⟨k,hk,h⟩
      ·grind
      ·by_cases fy:k<cs.length <;> simp [fy,cy] at h
       grind)
     hH.tail (R.vf hH) gA gi (λyJ hg iD lC=>by
      refine .own gG.nK (by rw [t1.length]; simp [ak,gG.ak]) (λk u hu=>?_) hg iD (λk c hk aa h=>lC k c hk aa h) λc=>Iff.rfl;by_cases fy:k<iU.length
      ·grind
      ·rw [List.getElem?_append_right (by omega)] at hu; exact gG.h1 _ u hu)
    grind [lu.head]
 | @Fx g g1 g' z n m t rm m2 t2 q cs new zP cs' xs xs' aw N8 aF au bg uf V5 t1 _ gA gi =>
  subst aF;intro Fs vs dD bl hH;cases vs with
  | nil=>have:=hH.len; simp at this
  | cons v vs =>
   obtain ⟨a,iZ,cap,h1,rfl,aI⟩:=(hH.rel 0 _ v rfl rfl).nc;obtain ⟨v0,iQ,gG⟩:=bl.rel t _ aw;simp only [dW,iQ,walk,Option.some.injEq] at h1;subst h1;obtain ⟨bv,e,cf,us,news,gG⟩:=gG.vA;have bc:iZ=rm+m2+m:=by
    obtain ⟨_,bY⟩:=gG.nK
    grind
   subst bc;obtain ⟨v2,B',mr⟩:=bl.rel t2 _ N8;obtain ⟨LS,cj,tG,Zd,JR,mr⟩:=mr.vA;have jV:bv=v2:=by
    obtain ⟨aE,L7,cH,rfl⟩:=gG.jV
    grind [dW,walk]
   subst jV;have l_:us=Zd++JR:=JY gG.lb mr.nK;subst l_;obtain ⟨ZB,Uu,ack,NL⟩:=bl.kill t;obtain ⟨Q0,HZ,hb,fW⟩:=Uu.kill t2;have IN:bD (cv (cv g ⟨t,[]⟩ .dead) ⟨t2,[]⟩ .dead) q=some (.own z rm cs):=by rw [FX (by simpa using uf),FX (by simpa using bg)]; exact au
   obtain ⟨qP,cA,gW,hD,dy,kg⟩:=HZ.part IN (by simp);obtain ⟨b',mP,bK,rfl⟩:=mr.jV;rw [bK] at gW;cases gW;obtain ⟨f_,jc,ku,iP⟩:=kg .dead cy (.dead λ_ h=>h) (λ_ h=>h.elim) (λ_ h=>h.elim) (λ_ _ _ h=>h.elim);have r1:∀ c,cA c->Fs q.root c:=λc aa=>by have:=dy c aa; rwa [fW _ uf,NL _ bg] at this
   have pt:∀ s c,f_ s c->Fs s c/\¬ cA c/\s≠t/\s≠t2:=by
    intro s c aa;have qv:s≠t2:=by
     rintro rfl;by_cases N6:s=q.root
     ·grind
     simp_all
    have b1:s≠t:=by
     rintro rfl;by_cases N6:s=q.root
     ·grind
     simp_all
    by_cases aC:s=q.root
    ·grind
    ·rw [iP s aC,fW s qv,NL s b1] at aa;exact ⟨aa,λeN=>aC (bl.eJ _ _ _ aa (r1 c eN)),b1,qv⟩
   cases hD with
   | ref J=>simp [ab.isRef] at J
   | @own _ _ _ _ fO iU bL _ a1 ak ql ao aS av aN =>
    have:=JY a1 mr.lb;subst this;have fV:∀ k c,k<cs.length->bL k c->cA c:=λk c hk aa=>(aN c).2 (.inr ⟨k,hk,aa⟩);have iN:Hand w I (fD w T) f_ (cs++zP++new) (iU++JR++news) (λk=>if k<cs.length then bL k else cy):=by
     have gw:=mr.ak;have Cq:=gG.ak;refine ⟨by simp [ak,gw,Cq],λk x u J hu=>?_,λj k c ah hk aa fr=>?_,λk s c hk aa aW=>?_,λk c hk aa=>?_⟩
     ·rw [List.append_assoc] at J hu;by_cases fy:k<cs.length
      ·grind
      ·rw [List.getElem?_append_right (by omega)] at J;rw [List.getElem?_append_right (by omega),<- ak] at hu;simp only [fy,if_false];by_cases IA:k - cs.length<zP.length
       ·rw [List.getElem?_append_left IA] at J;rw [List.getElem?_append_left (by omega)] at hu;exact mr.ao _ x u J hu
       ·rw [List.getElem?_append_right (by omega)] at J;rw [List.getElem?_append_right (by omega),<- gw] at hu;exact gG.ao _ x u J hu
     ·by_cases eZ:j<cs.length <;> by_cases fy:k<cs.length <;> simp [eZ,fy,cy] at aa fr
      grind
     ·by_cases fy:k<cs.length <;> simp [fy,cy] at aa
      grind
     ·by_cases fy:k<cs.length <;> simp [fy,cy] at aa;exact bl.bm _ c (r1 c (fV k c fy aa))
    have P7:∀ s c,Fs s c->s=t\/s=t2->(∃ s,Fs s c)/\(∀ s,¬ f_ s c)/\(∀ k,k<(cs++zP++new).length->¬ (if k<cs.length then bL k else cy) c)/\¬ I c:=by
     intro s c aa aC;refine ⟨⟨_,aa⟩,λcT aW=>?_,λk hk h9=>?_,bl.bm _ c aa⟩
     ·obtain ⟨f1,_,f2,f3⟩:=pt cT c aW;have:=bl.eJ _ _ _ f1 aa
      grind
     ·by_cases fy:k<cs.length <;> simp [fy,cy] at h9;have:=bl.eJ _ _ _ (r1 c (fV k c fy h9)) aa
      grind
    obtain ⟨b7,lZ,aE,a2,a3⟩:=Take.node (g1:=cv (cv (cv g ⟨t,[]⟩ .dead) ⟨t2,[]⟩ .dead) q .dead) (Fs:=Fs) (B:=λc=>(Value.slice a (rm+m2+m) cap).ownBlock=some c) (H0:=dD 0) (X:=.own z (rm+m2+m) cs') (v0:=.slice a (rm+m2+m) cap) jc iN
     (λc aa=>by
      by_cases rb:bv.ownBlock=some c
      ·by_cases Nn:(Value.slice b' rm mP).ownBlock=some c
       ·have eN:cA c:=(aN c).2 (.inl Nn);refine ⟨⟨_,r1 c eN⟩,λs aW=>(pt s c aW).2.1 eN,λk hk h9=>?_,bl.bm _ c (r1 c eN)⟩;by_cases fy:k<cs.length <;> simp [fy,cy] at h9
        grind
       ·exact P7 t2 c ((mr.aN c).2 ⟨rb,Nn⟩) (.inr rfl)
      ·exact P7 t c ((gG.aN c).2 ⟨aa,rb⟩) (.inl rfl))
     (λc aa=>by
      rcases aa with ⟨s,h⟩ | ⟨k,hk,h⟩
      ·grind
      ·by_cases fy:k<cs.length <;> simp [fy,cy] at h
       grind)
     hH.tail (R.vf hH) gA gi (λyJ hg iD lC=>by
      refine .own gG.nK (by rw [t1.length]; simp [ak,mr.ak,gG.ak]) (λk u hu=>?_) hg iD (λk c hk aa h=>lC k c hk aa h) λc=>Iff.rfl;rw [List.append_assoc] at hu;by_cases fy:k<iU.length
      ·grind
      ·rw [List.getElem?_append_right (by omega)] at hu;by_cases IA:k - iU.length<JR.length
       ·rw [List.getElem?_append_left IA] at hu;exact mr.h1 _ u hu
       ·rw [List.getElem?_append_right (by omega)] at hu; exact gG.h1 _ u hu)
    grind [lu.head]
 | @obj g g1 g' p cs cs' xs xs' au t1 _ gA gi =>
  intro Fs vs dD bl hH;cases vs with
  | nil=>have:=hH.len; simp at this
  | cons v vs =>
   obtain ⟨qP,cA,gW,hD,dy,kg⟩:=bl.part au (by simp);obtain ⟨u,ad,h1,af,rfl⟩:=(hH.rel 0 _ v rfl rfl).nQ;rw [h1] at gW;cases gW;obtain ⟨f_,jc,ku,iP⟩:=kg .dead cy (.dead λ_ h=>h) (λ_ h=>h.elim) (λ_ h=>h.elim) (λ_ _ _ h=>h.elim);have pt:∀ t c,f_ t c->Fs t c/\¬ cA c:=by
    intro t c aa;by_cases aw:t=p.root
    ·grind
    ·rw [iP t aw] at aa;exact ⟨aa,λeN=>aw (bl.eJ _ _ _ aa (dy c eN))⟩
   cases hD with
   | ref J=>simp [ab.isRef] at J
   | @obj _ b e arr bL _ a1 ak ql ao aS av aN =>
    simp only [addrOf,Option.some.injEq] at af;subst af;have fV:∀ k c,k<cs.length->bL k c->cA c:=λk c hk aa=>(aN c).2 (.inr ⟨k,hk,aa⟩);have iN:Hand w I (fD w T) f_ cs arr.toList bL :=
     ⟨by simp [ak],λk x u J hu=>ao k x u J (by simpa using hu),aS,λk t c hk aa aW=>(pt t c aW).2 (fV k c hk aa),λk c hk aa=>bl.bm _ c (dy c (fV k c hk aa))⟩
    obtain ⟨b7,lZ,aE,a2,a3⟩:=Take.node (g1:=cv g p .dead) (Fs:=Fs) (B:=λc=>c=b) (H0:=dD 0) (X:=.obj cs') (v0:=.pointer (some ⟨b,0,none⟩)) jc iN
     (λc aa=>by
      subst aa;have eN:cA c:=(aN c).2 (.inl rfl);exact ⟨⟨_,dy c eN⟩,λt aW=>(pt t c aW).2 eN,λk hk h9=>av k hk h9,bl.bm _ c (dy c eN)⟩)
     (λc aa=>by
      rcases aa with ⟨t,h⟩ | ⟨k,hk,h⟩
      ·grind
      grind)
     hH.tail (R.vf hH) gA gi (λyJ hg iD lC=>by
      refine .obj a1 (by rw [t1.length,ak]) ql (λk x u J hu=>hg k x u J (by simpa using hu)) iD (λk hk h=>lC k b hk h rfl) λc=>Iff.rfl)
    grind [lu.head]
 | @mp g g1 g' p q xs xs' au t1 _ gA gi =>
  intro Fs vs dD bl hH;cases vs with
  | nil=>have:=hH.len; simp at this
  | cons v vs =>
   obtain ⟨qP,cA,gW,hD,dy,kg⟩:=bl.part au (by simp);have hm:=hH.rel 0 _ v rfl rfl;cases hm with
   | ref _ hm _ =>
   obtain ⟨GX,h1,rfl⟩:=hm;rw [h1] at gW;cases gW;obtain ⟨f_,jc,ku,iP⟩:=kg .dead cy (.dead λ_ h=>h) (λ_ h=>h.elim) (λ_ h=>h.elim) (λ_ _ _ h=>h.elim);have pt:∀ t c,f_ t c->Fs t c/\¬ cA c:=by
    intro t c aa;by_cases aw:t=p.root
    ·grind
    ·rw [iP t aw] at aa;exact ⟨aa,λeN=>aw (bl.eJ _ _ _ aa (dy c eN))⟩
   cases hD with
   | ref J=>simp [ab.isRef] at J
   | @mp _ b es clock _ a1 bg aN =>
    have iN:Hand w I (fD w T) f_ [] [] (λ_=>cy) :=
     ⟨rfl,λk x u J=>by simp at J,λ_ _ _ _ _ h=>h.elim,λ_ _ _ _ h=>h.elim,λ_ _ _ h=>h.elim⟩
    obtain ⟨b7,lZ,aE,a2,a3⟩:=Take.node (g1:=cv g p .dead) (Fs:=Fs) (B:=λc=>c=b) (H0:=dD 0) (X:=.mp q) (v0:=.map (some b)) jc iN
     (λc aa=>by
      subst aa;have eN:cA c:=(aN c).2 rfl;exact ⟨⟨_,dy c eN⟩,λt aW=>(pt t c aW).2 eN,λk hk _=>by simp at hk,bl.bm _ c (dy c eN)⟩)
     (λc aa=>by
      rcases aa with ⟨t,h⟩ | ⟨k,hk,h⟩
      ·grind
      grind)
     hH.tail (R.vf hH) gA gi (λyJ hg iD lC=>by
      refine .mp a1 bg λc=>⟨λh=>h.elim id λ⟨_,hk,_⟩=>by simp at hk,.inl⟩)
    grind [lu.head]
 | @agg g g1 g' cs cs' xs xs' t1 _ gA gi =>
  intro Fs vs dD bl hH;cases vs with
  | nil=>have:=hH.len; simp at this
  | cons v vs =>
   have J:=hH.rel 0 _ v rfl rfl;have aR:=R.vf hH;cases J with
   | ref J=>simp [ab.isRef] at J
   | @agg _ us bL _ ak ql ao aS aN =>
    have fV:∀ k c,k<cs.length->bL k c->dD 0 c:=λk c hk aa=>(aN c).2 ⟨k,hk,aa⟩;obtain ⟨b7,lZ,aE,a2,a3⟩:=Take.node (g1:=g) (Fs:=Fs) (B:=cy) (H0:=dD 0) (X:=.agg cs') (v0:=.agg us) bl
     (⟨by simp [ak],λk x u J hu=>ao k x u J (by simpa using hu),aS,λk t c hk aa=>(aR c (fV k c hk aa)).1 t,λk c hk aa=>hH.bm 0 c (by simp) (fV k c hk aa)⟩:Hand w I (fD w T) Fs cs us.toList bL)
     (λc aa=>aa.elim)
     (λc aa=>by
      rcases aa with h | ⟨k,hk,h⟩
      ·grind
      grind)
     hH.tail aR gA gi (λyJ hg iD lC=>by
      refine .agg (by rw [t1.length,ak]) ql (λk x u J hu=>hg k x u J (by simpa using hu)) iD λc=>⟨λh=>h.elim (λh=>h.elim) id,.inr⟩)
    grind [lu.head]
 | @bW g g1 g' cs cs' xs xs' t1 _ gA gi =>
  intro Fs vs dD bl hH;cases vs with
  | nil=>have:=hH.len; simp at this
  | cons v vs =>
   have J:=hH.rel 0 _ v rfl rfl;have aR:=R.vf hH;cases J with
   | ref J=>simp [ab.isRef] at J
   | @bW _ us bL _ ak ao aS aN =>
    have fV:∀ k c,k<cs.length->bL k c->dD 0 c:=λk c hk aa=>(aN c).2 ⟨k,hk,aa⟩;obtain ⟨b7,lZ,aE,a2,a3⟩:=Take.node (g1:=g) (Fs:=Fs) (B:=cy) (H0:=dD 0) (X:=.bW cs') (v0:=.tuple us) bl
     (⟨by simp [ak],λk x u J hu=>ao k x u J (by simpa using hu),aS,λk t c hk aa=>(aR c (fV k c hk aa)).1 t,λk c hk aa=>hH.bm 0 c (by simp) (fV k c hk aa)⟩:Hand w I (fD w T) Fs cs us.toList bL)
     (λc aa=>aa.elim)
     (λc aa=>by
      rcases aa with h | ⟨k,hk,h⟩
      ·grind
      grind)
     hH.tail aR gA gi (λyJ hg iD lC=>by
      refine .bW (by rw [t1.length,ak]) (λk x u J hu=>hg k x u J (by simpa using hu)) iD λc=>⟨λh=>h.elim (λh=>h.elim) id,.inr⟩)
    grind [lu.head]
end
end Go.Own
namespace Go.Own
open Go
inductive jm (mI:ab->Prop):ab->Prop
 | bn {x:ab}(h:cU x):jm mI x
 | ref {x:ab}(J:x.isRef=true) (h:mI x):jm mI x
 | own {z n:Nat}{cs:List ab}(h:∀ x∈cs,jm mI x):jm mI (.own z n cs)
 | obj {cs:List ab}(h:∀ x∈cs,jm mI x):jm mI (.obj cs)
 | agg {cs:List ab}(h:∀ x∈cs,jm mI x):jm mI (.agg cs)
 | bW {cs:List ab}(h:∀ x∈cs,jm mI x):jm mI (.bW cs)
 | cW {fn:Fn}{a b:List ab}(h1:∀ x∈a,jm mI x) (af:∀ x∈b,jm mI x):jm mI (.cW fn a b)
def Aw:ab->Option Place
 | .ptr p _=>some p
 | .a6 _ p _=>some p
 | .sub _ p _ _=>some p
 | .bM _ p _ _ _=>some p
 | .gB p=>some p
 | _=>none
def Clear (p:Place) (k m:Nat) (r:ab):Prop:=∀ q,Aw r=some q->q.root=p.root->∀ j dm,q.path=p.path++j::dm->j<k\/k+m<=j
def e5 {α:Type}(l:List α) (k:Nat) (c:List α):List α:=l.take k++c++l.drop (k+c.length)
theorem rH {α:Type}{l:List α}{k:Nat}{c:List α}(h:k+c.length<=l.length):(e5 l k c).length=l.length:=by
 simp [e5]; omega
theorem tb {α:Type}{l:List α}{k:Nat}{c:List α}(h:k+c.length<=l.length) (j:Nat):(e5 l k c)[j]?=if k<=j/\j<k+c.length then c[j - k]? else l[j]?:=by
 unfold e5;rw [List.append_assoc];by_cases h1:j<k
 ·rw [List.getElem?_append_left (by simp; omega),List.getElem?_take,if_pos h1,if_neg (by omega)]
 ·rw [List.getElem?_append_right (by simp; omega)];have:(l.take k).length=k:=by simp; omega
  rw [this];by_cases af:j<k+c.length
  ·rw [List.getElem?_append_left (by omega),if_pos ⟨by omega,af⟩]
  ·rw [List.getElem?_append_right (by omega),List.getElem?_drop,if_neg (by omega)];congr 1; omega
theorem YL {α:Type}{l:List α}{k:Nat}{c:List α}{m:Nat}(h:k+c.length<=m) (hm:m<=l.length):(e5 l k c).take m=e5 (l.take m) k c:=by
 have h1:k+c.length<=(l.take m).length:=by rw [List.length_take]; omega
 apply List.ext_getElem?;intro j;rw [List.getElem?_take,tb h1,tb (l:=l) (by omega),List.getElem?_take];by_cases ah:j<m
 ·rw [if_pos ah,if_pos ah]
 ·rw [if_neg ah,if_neg ah,if_neg (by omega)]
def ab.e5 (x:ab) (k:Nat) (c:List ab):ab :=
 match x with
 | .own z n cs=>.own z n (Own.e5 cs k c)
 | .obj cs=>.obj (Own.e5 cs k c)
 | x=>x
section
variable {w:World}{I:bb}{T:Array Value}{g:aM}{Fs:Nat->bb}
theorem R.yc {ρ:ab->Value->Prop}{mI:ab->Prop}{x:ab}{v:Value}{F:bb}(h:R w I ρ x v F):jm mI x->R w I (λr u=>ρ r u/\mI r) x v F:=by
 induction h with
 | lit h aN=>exact λ_=>.lit h aN
 | aK aN=>exact λ_=>.aK aN
 | dead aN=>exact λ_=>.dead aN
 | @ref x _ _ J h aN =>
  intro hk;refine .ref J ⟨h,?_⟩ aN;cases hk with
  | ref _ h=>exact h
  | bn h=>cases h <;> simp [ab.isRef] at J
  | _=>simp [ab.isRef] at J
 | hF aN=>exact λ_=>.hF aN
 | mp a1 au aN=>exact λ_=>.mp a1 au aN
 | imp aN bf a1 au=>exact λ_=>.imp aN bf a1 au
 | bm aN k9 bf aC ak h1 aa ao aU =>
  intro hk;cases hk with
  | ref J=>simp [ab.isRef] at J
  | bn h=>cases h with | bm h=>exact .bm aN k9 bf aC ak h1 aa λk x J=>aU k x J (.bn (h x (List.mem_of_getElem? J)))
 | cI aN bf aC h1 aa ao aU =>
  intro hk;cases hk with
  | ref J=>simp [ab.isRef] at J
  | bn h=>cases h with | cI h=>exact .cI aN bf aC h1 aa λk x J=>aU k x J (.bn (h x (List.mem_of_getElem? J)))
 | own a1 ak h1 ao aS av aN aU =>
  intro hk;refine .own a1 ak h1 (λk x u J hu=>aU k x u J hu ?_) aS av aN;cases hk with
  | ref J=>simp [ab.isRef] at J
  | bn h=>cases h with | own h=>exact .bn (h x (List.mem_of_getElem? J))
  | own h=>exact h x (List.mem_of_getElem? J)
 | obj a1 ak h1 ao aS av aN aU =>
  intro hk;refine .obj a1 ak h1 (λk x u J hu=>aU k x u J hu ?_) aS av aN;cases hk with
  | ref J=>simp [ab.isRef] at J
  | bn h=>cases h with | obj h=>exact .bn (h x (List.mem_of_getElem? J))
  | obj h=>exact h x (List.mem_of_getElem? J)
 | agg ak h1 ao aS aN aU =>
  intro hk;refine .agg ak h1 (λk x u J hu=>aU k x u J hu ?_) aS aN;cases hk with
  | ref J=>simp [ab.isRef] at J
  | bn h=>cases h with | agg h=>exact .bn (h x (List.mem_of_getElem? J))
  | agg h=>exact h x (List.mem_of_getElem? J)
 | bW ak ao aS aN aU =>
  intro hk;refine .bW ak (λk x u J hu=>aU k x u J hu ?_) aS aN;cases hk with
  | ref J=>simp [ab.isRef] at J
  | bn h=>cases h with | bW h=>exact .bn (h x (List.mem_of_getElem? J))
  | bW h=>exact h x (List.mem_of_getElem? J)
 | @cW fn first caps v1 v2 F aN h1 af ku iP gA gi =>
  intro hk;have:(∀ x∈first,jm mI x)/\∀ x∈caps,jm mI x:=by
   cases hk with
   | ref J=>simp [ab.isRef] at J
   | bn h=>cases h with | cW h1 af=>exact ⟨λx J=>.bn (h1 x J),λx J=>.bn (af x J)⟩
   | cW h1 af=>exact ⟨h1,af⟩
  exact .cW aN h1 af (λk x u J hu=>gA k x u J hu (this.1 x (List.mem_of_getElem? J))) (λk x u J hu=>gi k x u J hu (this.2 x (List.mem_of_getElem? J)))
theorem jE.store (bl:jE w I T g Fs) {p:Place}{nd:ab}{z n:Nat}{cs:List ab}(au:bD g p=some nd) (ft:nd=.own z n cs\/nd=.obj cs) {k:Nat}{cs':List ab}(hk:k+cs'.length<=cs.length)
  {iU:List Value}{dD:Nat->bb}(hH:Hand w I (fD w T) Fs cs' iU dD) (mY:∀ x∈cs',cU x) (hp:∀ (j:Nat) (u:Value),iU[j]?=some u->u.oneCell'=true)
  {g2:aM}(zn:∀ t x,g2 t=some x->cv g p (nd.e5 k cs') t=some x)
  (r_:∀ t x,g2 t=some x->∀ y,g t=some y->jm (λr=>gE g r/\Clear p k cs'.length r/\gE g2 r) y) (la:∀ t z q n m new,g2 t≠some (.bM z q n m new)) (ke:g2 p.root≠none) {b:Nat}{v:Value}
  (hv:dW w T p=some v) (av:addrOf v=some ⟨b,0,none⟩) {e:TypeId}{arr:Array Value}(kb:w.heap[b]?=some (.cells arr e (0,0))) :
  ∃ b7,cG (w.setRow b (e5 arr.toList k iU).toArray) I T g2 b7/\∀ t c,b7 t c->Fs t c\/∃ j,j<cs'.length/\dD j c:=by
 have lj:∀ z q n m new,nd≠.bM z q n m new:=by rcases ft with rfl | rfl <;> simp
 have hlen:=hH.len;have o6:∀ c,c≠b->(w.setRow b (e5 arr.toList k iU).toArray).heap[c]?=w.heap[c]?:=λc aa=>setRow_other w b c _ aa;have Dy:(w.setRow b (e5 arr.toList k iU).toArray).heap[b]?=some (.cells (e5 arr.toList k iU).toArray e (0,0)):=setRow_heap w b arr _ e (0,0) kb;have Qr:(w.setRow b (e5 arr.toList k iU).toArray).heap.size=w.heap.size:=by simp
 generalize vt:w.setRow b (e5 arr.toList k iU).toArray=w' at *
 -- the slot of the node
 obtain ⟨eA,iH⟩:∃ eA,g p.root=some eA:=by
  unfold bD at au;cases J:g p.root with
  | none=>rw [J] at au; cases au
  | some x=>exact ⟨x,rfl⟩
 have px:eA.at p.path=some nd:=by simpa [bD,iH] using au
 obtain ⟨v0,iQ,gG⟩:=bl.rel _ _ iH;have Bz:=gG.gJ (by rintro z q n m new rfl; exact lj _ _ _ _ _ (ab.sC px).2);have lL:jm (λr=>gE g r/\Clear p k cs'.length r/\gE g2 r) eA:=by
  cases af:g2 p.root with
  | none=>exact absurd af ke
  | some y=>exact r_ _ _ af _ iH
 let K3:ab->Value->Prop:=λr u=>fD w T r u/\gE g r/\Clear p k cs'.length r/\gE g2 r;have qn:R w I K3 eA v0 (Fs p.root):=Bz.yc lL;obtain ⟨h0,cA,hw,dI,dy,eW,kg⟩:=R.focus p.path qn px;have I1:h0=v:=by simp only [dW,iQ,hw,Option.some.injEq] at hv; exact hv
 subst I1;have mw:cA b:=dI.Fl (z:=z) (n:=n) ft av;have same:∀ t c,Fs t c->c≠b->w'.heap[c]?=w.heap[c]?:=λ_ c _ aa=>o6 c aa;have u_:∀ c,I c->w'.heap[c]?=w.heap[c]?:=λc aa=>o6 c λe=>bl.bm _ b (dy b mw) (e ▸ aa);have EI:∀ t,t≠p.root->¬ Fs t b:=λt aw h=>aw (bl.eJ _ _ _ h (dy b mw))
 -- ways that are clear of the cells
 obtain ⟨Zk,Zl⟩:=eW w' λc aa aF=>o6 c λe=>aF (e ▸ mw);have OE:∀ (ρ':ab->Value->Prop),(∀ x v,K3 x v->ρ' x v)->(∃ c9,R w' I ρ' (nd.e5 k cs') h0 c9/\∀ c,c9 c->cA c\/∃ j,j<cs'.length/\dD j c)/\∀ j dm y,(j<k\/k+cs'.length<=j)->nd.at (j::dm)=some y->walk w' h0 (j::dm)=walk w h0 (j::dm):=by
  intro ρ' lO;have new:∀ (j:Nat) (x:ab) (u:Value),cs'[j]?=some x->iU[j]?=some u->R w' I ρ' x u (dD j):=by
   intro j x u J hu;have ah:j<cs'.length:=(List.getElem?_eq_some_iff.1 J).1;have:=(hH.rel j x u J hu).bn (ρ':=ρ') (mY x (List.mem_of_getElem? J));exact this.frame u_ (λ_ h=>h) (λ_ _ h=>h) λc aa=>o6 c λe=>hH.off j p.root b ah (e ▸ aa) (dy b mw)
  rcases ft with rfl | rfl
  ·cases dI with
   | ref J=>simp [ab.isRef] at J
   | @own _ _ _ _ cj us bL _ a1 ak h1 ao aS iO aN =>
    obtain ⟨l_,bY⟩:=a1;rcases bY with ⟨rfl,_⟩ | ⟨eC,cap,cur,rfl,s',j1,Au,x9,Dh,Di⟩
    ·simp [addrOf] at av
    ·simp only [addrOf,Option.some.injEq,Addr.mk.injEq,and_true] at av;subst av;rw [kb] at j1;cases j1;have Ns:n * z<=arr.toList.length:=by
      rw [<- l_,<- Di,List.length_take] ; simp; omega
     have acI:us.length=cs.length:=ak.symm;have nJ:w'.ownsRow 0 e z (.slice (some ⟨eC,0,none⟩) n cap) n (e5 us k iU):=by
      refine ⟨by rw [rH (by omega),l_],.inr ⟨eC,cap,_,rfl,s',Dy,Au,x9,?_,?_⟩⟩
      ·rw [List.size_toArray,rH (by omega),Array.length_toList,Dh]
      ·show (e5 arr.toList k iU).take (n * z)=_;rw [YL (by omega) Ns,Di]
     have M1:∀ j,j<cs.length->¬ bL j eC:=λj ah h=>iO j eC ah h rfl;have fV:∀ j c,j<cs.length->bL j c->Fs p.root c:=λj c ah aa=>dy c ((aN c).2 (.inr ⟨j,ah,aa⟩));refine ⟨⟨_,.own (Fs:=λj=>if k<=j/\j<k+cs'.length then dD (j - k) else bL j) nJ (by rw [rH hk,rH (by omega),ak]) (λj u hu=>?_) (λj x u J hu=>?_) (λi j c hi ah aa fr=>?_) (λj c ah aa vq=>?_) (λc=>Iff.rfl),λc aa=>?_⟩,λj dm y ah ax=>?_⟩
     ·rw [tb (by omega)] at hu
      split at hu
      ·exact hp _ u hu
      ·exact h1 j u hu
     ·rw [tb hk] at J;rw [tb (by omega),<- hlen] at hu;by_cases gV:k<=j/\j<k+cs'.length
      ·rw [if_pos gV] at J hu;simpa [gV] using new (j - k) x u J hu
      ·rw [if_neg gV] at J hu;have eZ:j<cs.length:=(List.getElem?_eq_some_iff.1 J).1;rw [if_neg gV];exact (ao j x u J hu).frame u_ (λ_ h=>h) lO λc aa=>o6 c λe=>M1 j eZ (e ▸ aa)
     ·rw [rH hk] at hi ah;by_cases h1:k<=i/\i<k+cs'.length <;> by_cases af:k<=j/\j<k+cs'.length <;> simp only [h1,af,if_false] at aa fr
      ·have:=hH.eJ (i - k) (j - k) c (by omega) (by omega) (by simpa using aa) (by simpa using fr);omega
      ·exact absurd (fV j c ah fr) (hH.off (i - k) _ c (by omega) (by simpa using aa))
      ·exact absurd (fV i c hi aa) (hH.off (j - k) _ c (by omega) (by simpa using fr))
      ·exact aS i j c hi ah aa fr
     ·rw [rH hk] at ah;by_cases h1:k<=j/\j<k+cs'.length
      ·rw [if_pos h1] at aa;simp only [Value.ownBlock,Option.some.injEq] at vq;subst vq;exact hH.off (j - k) p.root eC (by omega) aa (dy eC mw)
      ·rw [if_neg h1] at aa; exact iO j c ah aa vq
     ·rcases aa with aa | ⟨j,ah,aa⟩
      ·exact .inl ((aN c).2 (.inl aa))
      ·rw [rH hk] at ah;by_cases h1:k<=j/\j<k+cs'.length
       ·rw [if_pos h1] at aa; exact .inr ⟨j - k,by omega,aa⟩
       ·rw [if_neg h1] at aa; exact .inl ((aN c).2 (.inr ⟨j,ah,aa⟩))
     ·obtain ⟨c,oQ,aa⟩:=ab.u1 ax;simp only [ab.kids] at oQ;have eZ:j<cs.length:=(List.getElem?_eq_some_iff.1 oQ).1;have hu:us[j]?=some us[j]:=List.getElem?_eq_getElem (by omega);have oa:child w (.slice (some ⟨eC,0,none⟩) n cap) j=some us[j]:=by
       refine pS (e:=e) (z:=z) (n:=n) (us:=us) ⟨l_,.inr ⟨eC,cap,arr,rfl,s',kb,Au,x9,Dh,Di⟩⟩ hu
      have BL:child w' (.slice (some ⟨eC,0,none⟩) n cap) j=some us[j]:=by
       refine pS nJ ?_;rw [tb (by omega),if_neg (by omega)]; exact hu
      have:=R.p0 (w':=w') dm (ao j c _ oQ hu) aa λc aa=>o6 c λe=>M1 j eZ (e ▸ aa);simp [walk,oa,BL,this]
  ·cases dI with
   | ref J=>simp [ab.isRef] at J
   | @obj _ eC cj jo bL _ a1 ak h1 ao aS iO aN =>
    simp only [addrOf,Option.some.injEq,Addr.mk.injEq,and_true] at av;subst av;rw [kb] at a1;cases a1;have tQ:cs.length=arr.toList.length:=by simp [ak]
    have fV:∀ j c,j<cs.length->bL j c->Fs p.root c:=λj c ah aa=>dy c ((aN c).2 (.inr ⟨j,ah,aa⟩));refine ⟨⟨_,.obj (Fs:=λj=>if k<=j/\j<k+cs'.length then dD (j - k) else bL j) Dy (by rw [rH hk,List.size_toArray,rH (by omega),tQ]) (λj u hu=>?_) (λj x u J hu=>?_) (λi j c hi ah aa fr=>?_) (λj ah aa=>?_) (λc=>Iff.rfl),λc aa=>?_⟩,λj dm y ah ax=>?_⟩
    ·rw [List.getElem?_toArray,tb (by omega)] at hu
     split at hu
     ·exact hp _ u hu
     ·exact h1 j u (by simpa using hu)
    ·rw [tb hk] at J;rw [List.getElem?_toArray,tb (by omega),<- hlen] at hu;by_cases gV:k<=j/\j<k+cs'.length
     ·rw [if_pos gV] at J hu;simpa [gV] using new (j - k) x u J hu
     ·rw [if_neg gV] at J hu;have eZ:j<cs.length:=(List.getElem?_eq_some_iff.1 J).1;rw [if_neg gV];exact (ao j x u J (by simpa using hu)).frame u_ (λ_ h=>h) lO λc aa=>o6 c λe=>iO j eZ (e ▸ aa)
    ·rw [rH hk] at hi ah;by_cases h1:k<=i/\i<k+cs'.length <;> by_cases af:k<=j/\j<k+cs'.length <;> simp only [h1,af,if_false] at aa fr
     ·have:=hH.eJ (i - k) (j - k) c (by omega) (by omega) (by simpa using aa) (by simpa using fr);omega
     ·exact absurd (fV j c ah fr) (hH.off (i - k) _ c (by omega) (by simpa using aa))
     ·exact absurd (fV i c hi aa) (hH.off (j - k) _ c (by omega) (by simpa using fr))
     ·exact aS i j c hi ah aa fr
    ·rw [rH hk] at ah;by_cases h1:k<=j/\j<k+cs'.length
     ·rw [if_pos h1] at aa;exact hH.off (j - k) p.root eC (by omega) aa (dy eC mw)
     ·rw [if_neg h1] at aa; exact iO j ah aa
    ·rcases aa with aa | ⟨j,ah,aa⟩
     ·exact .inl ((aN c).2 (.inl aa))
     ·rw [rH hk] at ah;by_cases h1:k<=j/\j<k+cs'.length
      ·rw [if_pos h1] at aa; exact .inr ⟨j - k,by omega,aa⟩
      ·rw [if_neg h1] at aa; exact .inl ((aN c).2 (.inr ⟨j,ah,aa⟩))
    ·obtain ⟨c,oQ,aa⟩:=ab.u1 ax;simp only [ab.kids] at oQ;have eZ:j<cs.length:=(List.getElem?_eq_some_iff.1 oQ).1;have hu:arr[j]?=some arr[j]:=Array.getElem?_eq_getElem (by omega);have oa:child w (.pointer (some ⟨eC,0,none⟩)) j=some arr[j]:=by simp [child,World.cell?,kb,hu]
     have BL:child w' (.pointer (some ⟨eC,0,none⟩)) j=some arr[j]:=by
      have aI:(e5 arr.toList k iU)[j]?=some arr[j]:=by
       rw [tb (by omega),if_neg (by omega)]; simp
      simp [child,World.cell?,Dy,aI]
     have:=R.p0 (w':=w') dm (ao j c _ oQ hu) aa λc aa=>o6 c λe=>iO j eZ (e ▸ aa);simp [walk,oa,BL,this]
 have val:∀ q y,bD g q=some y->(q.root=p.root->∀ j dm,q.path=p.path++j::dm->j<k\/k+cs'.length<=j)->dW w' T q=dW w T q:=by
  intro q y bg ha;by_cases ao:q.root=p.root
  ·have gu:eA.at q.path=some y:=by simpa [bD,ao,iH] using bg
   rcases Zl q.path y gu with ⟨dm,ec⟩ | h
   ·have vt:walk w' v0 q.path=walk w v0 q.path:=by
     rw [ec,Dz,Dz,Zk,hw];simp only [Option.bind_some];cases dm with
     | nil=>rfl
     | cons j dm =>
      rw [ec,ab.GW,px] at gu;exact (OE (λ_ _=>True) (λ_ _ _=>trivial)).2 j dm y (ha ao j dm ec) gu
    simp [dW,ao,iQ,vt]
   ·simp [dW,ao,iQ,h]
  ·unfold bD at bg;cases J:g q.root with
   | none=>rw [J] at bg; cases bg
   | some x =>
    rw [J] at bg;obtain ⟨u,hu,aZ⟩:=bl.rel _ _ J;cases aZ with
    | tree aZ =>
     have:=R.p0 (w':=w') q.path aZ bg λc aa=>o6 c λe=>EI _ ao (e ▸ aa);simp [dW,hu,this]
    | bM aZ=>simp [dW,hu,(ab.sC bg).1,walk]
 have slot:∀ {q:Place}{x:ab},q.path=[]->g q.root=some x->dW w' T q=dW w T q:=by
  intro q x bg J;obtain ⟨u,hu,_⟩:=bl.rel _ _ J;simp [dW,bg,walk]
 have refs:∀ r u,K3 r u->dT w' T g2 r u:=by
  rintro r u ⟨h1,af,aI,bK⟩;refine ⟨?_,bK⟩;cases r <;> simp only [fD,gE] at h1 af ⊢
  case ptr q j=>obtain ⟨y,ax,_⟩:=af; rw [val q y ax (aI q rfl)]; exact h1
  case a6 bE q cF =>
   rcases af with ⟨_,_,af,_⟩ | ⟨aR,_,_,_,_,af,_⟩
   ·rw [val q _ af (aI q rfl)]; exact h1
   ·rw [slot aR af]; exact h1
  case sub bE q lo cF=>obtain ⟨_,_,af,_⟩:=af; rw [val q _ af (aI q rfl)]; exact h1
  case gB q=>obtain ⟨_,af⟩:=af; rw [val q _ af (aI q rfl)]; exact h1
  case bM bE q cF m' c5 =>
   rcases af with ⟨_,af⟩ | ⟨aR,_,_,_,_,_,af,_⟩
   ·rw [val q _ af (aI q rfl)]; exact h1
   ·rw [slot aR af]; exact h1
 obtain ⟨⟨Fn,Up,M3⟩,_⟩:=OE (dT w' T g2) refs;obtain ⟨c9,Ev,pq⟩:=kg w' I (dT w' T g2) _ Fn ⟨u_,λc aa aF=>o6 c λe=>aF (e ▸ mw),λ_ h=>h,refs⟩ Up λc aa fr=>by
  rcases M3 c aa with h | ⟨j,ah,h⟩
  ·exact h
  ·exact absurd fr (hH.off j _ c ah h)
 have Es:∀ c,c9 c->Fs p.root c\/∃ j,j<cs'.length/\dD j c:=by
  intro c aa;rcases (pq c).1 aa with h | h
  ·exact .inl h.1
  ·rcases M3 c h with h | h
   ·exact .inl (dy c h)
   ·exact .inr h
 let b7:Nat->bb:=λt c=>if t=p.root then c9 c else g2 t≠none/\Fs t c
 have pr:∀ t c,b7 t c->Fs t c\/∃ j,j<cs'.length/\dD j c:=by
  intro t c aa;by_cases aw:t=p.root
  ·simp only [b7,if_pos aw] at aa; rw [aw]; exact Es c aa
  ·simp only [b7,if_neg aw] at aa; exact .inl aa.2
 refine ⟨b7,⟨λt x J=>?_,λt aw c aa=>?_,λt t' c aa fr=>?_,λt c aa hi=>?_,λc aa=>by have:=bl.lt c aa; omega,λt t' z q n m new bE cF m' c5 h1=>absurd h1 (la _ _ _ _ _ _)⟩,pr⟩
 ·have gh:=zn t x J;by_cases aw:t=p.root
  ·subst aw;have ES:eA.setAt p.path (nd.e5 k cs')=x:=by simpa [cv,iH] using gh
   refine ⟨v0,iQ,.tree ?_⟩;have Bt:b7 p.root=c9:=by funext c; simp [b7]
   rw [<- ES,Bt]; exact Ev
  ·rw [uG aw] at gh;obtain ⟨u,hu,aZ⟩:=bl.rel t x gh;replace aZ:=aZ.gJ (by rintro z q n m new rfl; exact la _ _ _ _ _ _ J);have Bt:b7 t=Fs t:=by
    funext c;exact propext ⟨λh=>by simp only [b7,if_neg aw] at h; exact h.2,λh=>by simp only [b7,if_neg aw]; exact ⟨by rw [J]; simp,h⟩⟩
   refine ⟨u,hu,.tree ?_⟩;rw [Bt];exact (aZ.yc (r_ t x J x gh)).frame u_ (λ_ h=>h) refs λc aa=>o6 c λe=>EI t aw (e ▸ aa)
 ·by_cases iG:t=p.root
  ·exact ke (iG ▸ aw)
  ·simp only [b7,if_neg iG] at aa; exact aa.1 aw
 ·by_cases h1:t=p.root <;> by_cases af:t'=p.root
  ·rw [h1,af]
  ·simp only [b7,if_pos h1] at aa; simp only [b7,if_neg af] at fr;rcases Es c aa with h | ⟨j,ah,h⟩
   ·exact absurd (bl.eJ _ _ _ h fr.2) (Ne.symm af)
   ·exact absurd fr.2 (hH.off j _ c ah h)
  ·simp only [b7,if_neg h1] at aa; simp only [b7,if_pos af] at fr;rcases Es c fr with h | ⟨j,ah,h⟩
   ·exact absurd (bl.eJ _ _ _ aa.2 h) h1
   ·exact absurd aa.2 (hH.off j _ c ah h)
  ·simp only [b7,if_neg h1] at aa; simp only [b7,if_neg af] at fr;exact bl.eJ _ _ _ aa.2 fr.2
 ·rcases pr t c aa with h | ⟨j,ah,h⟩
  ·exact bl.bm _ c h hi
  ·exact hH.bm j c ah h hi
end
end Go.Own
namespace Go.Own
open Go
section
variable {P:Program}{w:World}{I:bb}{T:Array Value}{g:aM}{Fs:Nat->bb}
theorem View.Qa (h:jE w I T g Fs) {x x':ab}(hv:View g x x'):∀ {v:Value}{F:bb},R w I (fD w T) x v F->(∀ c,F c->∃ t,Fs t c)->∀ ρ',R w (λc=>I c\/∃ t,Fs t c) ρ' x' v cy:=by
 induction hv with
 | qE =>
  intro v F aZ aN ρ';have:=aZ.sg;subst this;exact .hF λ_ h=>h
 | mp =>
  intro v F aZ aN ρ';cases aZ with
  | ref J=>simp [ab.isRef] at J
  | mp a1 au av=>exact .imp (λ_ h=>h) (.inr (aN _ ((av _).2 rfl))) a1 au
 | gB au =>
  intro v F aZ aN ρ';cases aZ with
  | ref _ ao _ =>
   obtain ⟨b,av,rfl⟩:=ao;obtain ⟨gz,cA,ir,dI,dy,_⟩:=h.part au (by simp);rw [av] at ir;cases ir;cases dI with
   | ref J=>simp [ab.isRef] at J
   | mp a1 au av=>exact .imp (λ_ h=>h) (.inr ⟨_,dy _ ((av _).2 rfl)⟩) a1 au
 | self aF h1 af aI bK cH =>
  intro v F aZ aN ρ';refine ((aZ.bn aF).ou λc aa=>.inl aa).empty ?_;cases aZ with
  | mp=>exact absurd rfl (cH _)
  | lit _ aN | aK aN | dead aN | ref _ _ aN | hF aN | bm aN | cI aN | cW aN | imp aN=>exact aN
  | own=>exact absurd rfl (h1 _ _ _)
  | obj=>exact absurd rfl (af _)
  | agg=>exact absurd rfl (aI _)
  | bW=>exact absurd rfl (bK _)
 | @agg cs cs' ak _ aU =>
  intro v F aZ aN ρ';cases aZ with
  | ref J=>simp [ab.isRef] at J
  | @agg _ vs bL _ hU h1 ao aS mq =>
   refine .agg (Fs:=λ_=>cy) (by rw [ak,hU]) h1 (λk y u ax hu=>?_) (λ_ _ _ _ _ h=>h.elim) (λc=>⟨λh=>h.elim,λ⟨_,_,h⟩=>h⟩);have hk:k<cs.length:=by rw [<- ak]; exact (List.getElem?_eq_some_iff.1 ax).1
   have J:=List.getElem?_eq_getElem hk;exact aU k _ y J ax (ao k _ u J hu) (λc aa=>aN c ((mq c).2 ⟨k,hk,aa⟩)) ρ'
 | @cW fn cs cs' ak _ aU =>
  intro v F aZ aN ρ';cases aZ with
  | ref J=>simp [ab.isRef] at J
  | @cW _ _ _ v1 v2 _ mo h1 af ku iP =>
   refine .cW (λ_ h=>h) h1 (by rw [ak,af]) (λk x u J=>by simp at J) (λk y u ax hu=>?_);have hk:k<cs.length:=by rw [<- ak]; exact (List.getElem?_eq_some_iff.1 ax).1
   have J:=List.getElem?_eq_getElem hk;exact aU k _ y J ax (iP k _ u J hu) (λc aa=>aa.elim) ρ'
 | @own z n cs cs' ak _ aU =>
  intro v F aZ aN ρ';obtain ⟨a,cap,us,bL,rfl,aF,hlen,aP,aa⟩:=aZ.zV;cases a with
  | none =>
   have hE:cs=[]:=by
    cases cs with
    | nil=>rfl
    | cons c cs=>obtain ⟨b,av,_⟩:=aa 0 c rfl; cases av
   subst hE;have lK:cs'=[]:=List.eq_nil_of_length_eq_zero (by simpa using ak);subst lK;have k':n=0:=by
    cases aZ with
    | ref J=>simp [ab.isRef] at J
    | own a1 =>
     obtain ⟨_,bY⟩:=a1;rcases bY with ⟨bY,aR⟩ | ⟨b,c2,cur,bY,_⟩
     ·exact aR
     ·cases bY
   subst k';exact .hF λ_ h=>h
  | some ad =>
   obtain ⟨b,rfl,r0⟩:=aP ad rfl;refine .bm (us:=us) (λ_ h=>h) aF (.inr (aN b r0)) rfl (by rw [ak,hlen]) (λk y ax=>?_) (λk y ax=>?_) λk y ax=>?_
   all_goals
    have hk:k<cs.length:=by rw [<- ak]; exact (List.getElem?_eq_some_iff.1 ax).1
    have J:=List.getElem?_eq_getElem hk;obtain ⟨eC,l4,h1,af,aI,bK⟩:=aa k _ J;cases l4
   ·exact af
   ·simpa using h1
   ·exact aU k _ y J ax aI (λc aa=>aN c (bK c aa)) ρ'
 | @obj cs cs' ak _ aU =>
  intro v F aZ aN ρ';cases aZ with
  | ref J=>simp [ab.isRef] at J
  | @obj _ b e arr bL _ a1 hU h1 ao aS av mq =>
   refine .cI (us:=λk=>arr.getD k undef) (λ_ h=>h) (.inr (aN b ((mq b).2 (.inl rfl)))) rfl (λk y ax=>?_) (λk y ax=>?_) λk y ax=>?_
   all_goals
    have hk:k<cs.length:=by rw [<- ak]; exact (List.getElem?_eq_some_iff.1 ax).1
    have J:=List.getElem?_eq_getElem hk;have hu:arr[k]?=some arr[k]:=Array.getElem?_eq_getElem (hU ▸ hk)
   ·simpa [hu] using h1 k _ hu
   ·simp [World.cell?,a1,hu]
   ·simpa [hu] using aU k _ y J ax (ao k _ _ J hu) (λc aa=>aN c ((mq c).2 (.inr ⟨k,hk,aa⟩))) ρ'
 | @a6 z n N p cs cs' au aF ak _ aU =>
  intro v F aZ aN ρ';obtain ⟨a,iZ,cap,h1,rfl,aI⟩:=aZ.nc;obtain ⟨qP,qU,gW,hD,nB,_⟩:=h.part au (by simp);rw [h1] at gW;cases gW;obtain ⟨a2,rR,us,bL,jd,k9,hlen,aP,aa⟩:=hD.zV;cases jd;have hle:n * z<=N * z:=Nat.mul_le_mul_right _ aF;have cell:∀ k,k<cs'.length->∃ x b,(cs.take (n * z))[k]?=some x/\a=some ⟨b,0,none⟩/\w.cell? ⟨b,k,none⟩=some (us k)/\(us k).oneCell'=true/\R w I (fD w T) x (us k) (bL k)/\∀ c,bL k c->qU c:=by
   intro k hk;rw [ak,List.length_take] at hk;have J:cs[k]?=some cs[k]:=List.getElem?_eq_getElem (by omega);obtain ⟨b,r⟩:=aa k _ J;exact ⟨_,b,by rw [List.getElem?_take,if_pos (by omega)]; exact J,r⟩
  cases a with
  | none =>
   have lK:cs'=[]:=by
    cases cs' with
    | nil=>rfl
    | cons c l=>obtain ⟨_,b,_,av,_⟩:=cell 0 (by simp); cases av
   subst lK;obtain ⟨_,_,jd,_,_,_,rh⟩:=hD.nk;cases jd;have k':n=0:=by
    rcases Nat.eq_zero_or_pos n with aR | aR
    ·exact aR
    ·have:=rh (by omega); simp at this
   subst k';exact .hF λ_ h=>h
  | some ad =>
   obtain ⟨b,rfl,r0⟩:=aP ad rfl;refine .bm (us:=us) (λ_ h=>h) (by omega) (.inr ⟨_,nB b r0⟩) rfl (by rw [ak,List.length_take,hlen]; omega) (λk y ax=>?_) (λk y ax=>?_) λk y ax=>?_
   all_goals
    obtain ⟨x,eC,J,l4,bK,cH,ei,mT⟩:=cell k (List.getElem?_eq_some_iff.1 ax).1;cases l4
   ·exact cH
   ·simpa using bK
   ·exact aU k x y J ax ei (λc aa=>⟨_,nB c (mT c aa)⟩) ρ'
 | @sub z lo n N p cs cs' au aF ak _ aU =>
  intro v F aZ aN ρ';obtain ⟨a,iZ,cap,b',mP,h1,rfl,IJ,aI,cH⟩:=aZ.xv;obtain ⟨qP,qU,gW,hD,nB,_⟩:=h.part au (by simp);rw [h1] at gW;cases gW;obtain ⟨a2,rR,us,bL,jd,k9,hlen,aP,aa⟩:=hD.zV;cases jd;have hle:lo * z+n * z<=N * z:=by rw [<- Nat.add_mul]; exact Nat.mul_le_mul_right _ aF
  have hU:cs'.length=n * z:=by rw [ak,List.length_take,List.length_drop,hlen]; omega
  have cell:∀ k,k<cs'.length->∃ x b,((cs.drop (lo * z)).take (n * z))[k]?=some x/\a=some ⟨b,0,none⟩/\w.cell? ⟨b,lo * z+k,none⟩=some (us (lo * z+k))/\(us (lo * z+k)).oneCell'=true/\R w I (fD w T) x (us (lo * z+k)) (bL (lo * z+k))/\∀ c,bL (lo * z+k) c->qU c:=by
   intro k hk;have J:cs[lo * z+k]?=some cs[lo * z+k]:=List.getElem?_eq_getElem (by omega);obtain ⟨b,r⟩:=aa _ _ J;exact ⟨_,b,by rw [List.getElem?_take,if_pos (by omega),List.getElem?_drop]; exact J,r⟩
  by_cases k':n=0
  ·subst k';have lK:cs'=[]:=List.eq_nil_of_length_eq_zero (by simpa using hU);subst lK;exact .hF λ_ h=>h
  ·obtain ⟨ad,rfl,rfl⟩:=cH (by omega);obtain ⟨b,rfl,r0⟩:=aP ad rfl;refine .bm (us:=λk=>us (lo * z+k)) (λ_ h=>h) IJ (.inr ⟨_,nB b r0⟩) rfl hU (λk y ax=>?_) (λk y ax=>?_) λk y ax=>?_
   all_goals
    obtain ⟨x,eC,J,l4,bK,TO,ei,mT⟩:=cell k (List.getElem?_eq_some_iff.1 ax).1;cases l4
   ·exact TO
   ·simpa using bK
   ·exact aU k x y J ax ei (λc aa=>⟨_,nB c (mT c aa)⟩) ρ'
 | @rows z n p cs cs' au ak _ aU =>
  intro v F aZ aN ρ';obtain ⟨a,iZ,cap,h1,rfl,aI⟩:=aZ.nc;obtain ⟨v0,e,us,iQ,a1,hlen,ql,av,ao⟩:=Rows.sound (w:=w) (I:=I) (T:=T) (Fs:=Fs) (λt z q n m new aw=>h.rel t _ aw) (λp z n cs au=>by obtain ⟨v,cA,h1,af,aI,_⟩:=h.part au (by simp); exact ⟨v,cA,h1,af,aI⟩) (λz p n v hv=>by obtain ⟨a,cap,h1,rfl⟩:=hv; exact h1) au;rw [h1] at iQ;cases iQ;refine PA a1 hlen ql av ak λk x y u J ax hu=>?_;obtain ⟨bL,kM,fV⟩:=ao k x u J hu;exact aU k x y J ax kM fV ρ'
 | @ptr p k z n y cs cs' au ax hk ak _ aU =>
  intro v F aZ aN ρ';obtain ⟨u,ad,h1,af,rfl⟩:=aZ.nQ;obtain ⟨qP,qU,gW,hD,nB,_⟩:=h.part au (by rcases ax with rfl | rfl <;> simp);rw [h1] at gW;cases gW;have cell:∀ j,j<cs'.length->∃ gZ lX yH,w.cell? ⟨ad.block,k+j,none⟩=some gZ/\gZ.oneCell'=true/\(cs.drop k)[j]?=some lX/\R w I (fD w T) lX gZ yH/\(∀ c,yH c->∃ t,Fs t c):=by
   intro j ah;rw [ak,List.length_drop] at ah;have gh:cs[k+j]?=some cs[k+j]:=List.getElem?_eq_getElem (by omega);obtain ⟨b,gZ,fP,l6,oa,hp,_⟩:=hD.node ax gh;rw [af] at fP;cases fP;have gu:bD g (p.push (k+j))=some cs[k+j]:=by rw [tA,au]; rcases ax with rfl | rfl <;> simp [ab.kids]
   by_cases gR:∃ bE fQ cF m' c5,cs[k+j]=.bM bE fQ cF m' c5
   ·obtain ⟨bE,fQ,cF,m',c5,gR⟩:=gR;obtain ⟨b,Ze,_,_,BL,_,bL,kM⟩:=hD.node ax gh;rw [gR] at kM;exact kM.lj.elim
   ·obtain ⟨o5,K8,xj,Nb,mq,_⟩:=h.part gu (λbE fQ cF m' c5 e=>gR ⟨_,_,_,_,_,e⟩);rw [yo,h1] at xj;simp only [Option.bind_some] at xj;rw [oa] at xj;cases xj;exact ⟨gZ,_,K8,l6,hp,by rw [List.getElem?_drop]; exact gh,Nb,λc aa=>⟨_,mq c aa⟩⟩
  obtain ⟨b,gZ,fP,_⟩:=hD.node ax (List.getElem?_eq_getElem hk);rw [af] at fP;cases fP;have hblk:∃ t,Fs t b:=⟨_,nB b (hD.Fl ax af)⟩;refine .cI (us:=λj=>(w.cell? ⟨b,k+j,none⟩).getD undef) (λ_ h=>h) (.inr hblk) rfl (λj jj vx=>?_) (λj jj vx=>?_) λj jj vx=>?_
  all_goals
   obtain ⟨gZ,lX,yH,c1,c2,jU,c4,kI⟩:=cell j (List.getElem?_eq_some_iff.1 vx).1
  ·simpa [c1] using c2
  ·simp [c1]
  ·simpa [c1] using aU j lX jj jU vx c4 kI ρ'
end
end Go.Own
namespace Go.Own
open Go
def qI (g:aM):List (Place × ab)->aM
 | []=>g
 | (p,x)::l=>qI (cv g p x) l
structure Q3 (g g2:aM) (all:List ab) (outs:List (Option ab)) (k:Nat) (p:Place) (x:ab):Prop where
 out:outs[k]?=some (some x)
 LK:bD g2 p=some .dead
 arg:(∃ z n cs,all[k]?=some (.a6 z p n)/\bD g p=some (.own z n cs))\/(∃ cs,all[k]?=some (.ptr p 0)/\bD g p=some (.obj cs))
section
variable {P:Program}{w:World}{I:bb}{T:Array Value}{g:aM}{Fs:Nat->bb}
theorem Ry (h:cG w I T g Fs) {z n:Nat}{p:Place}{cs:List ab}{v:Value}{F:bb}(aZ:R w I (dT w T g) (.a6 z p n) v F) (au:bD g p=some (.own z n cs)):dW w T p=some v:=by
 obtain ⟨⟨a,iZ,cap,h1,rfl,aI⟩,_⟩:=aZ.nc;obtain ⟨qP,qU,gW,hD,nB⟩:=h.part au (by simp);rw [h1] at gW;cases gW;obtain ⟨a2,rR,jd,_⟩:=hD.nk;cases jd;exact h1
theorem Rx (h:cG w I T g Fs) {p:Place}{cs:List ab}{v:Value}{F:bb}(aZ:R w I (dT w T g) (.ptr p 0) v F) (au:bD g p=some (.obj cs)):dW w T p=some v:=by
 obtain ⟨⟨u,ad,h1,af,rfl⟩,_⟩:=aZ.nQ;obtain ⟨qP,qU,gW,hD,nB⟩:=h.part au (by simp);rw [h1] at gW;cases gW;cases hD with
 | ref J=>simp [ab.isRef] at J
 | obj=>simp only [addrOf,Option.some.injEq] at af; subst af; exact h1
theorem Yp {g:aM}{p q:Place}{y:ab}(bg:bD g q=some .dead) (au:bD g p=some .dead) (dq:p≠q):bD (cv g p y) q=some .dead:=by
 by_cases ao:q.root=p.root
 ·obtain ⟨r,pp⟩:=p;obtain ⟨dm,s_⟩:=q;simp only at ao;subst ao;have EJ:pp≠s_:=λe=>dq (by rw [e]);simp only [bD,cv,if_true] at *;cases J:g dm with
  | none=>rw [J] at au; cases au
  | some x =>
   rw [J] at au bg;simp only [Option.map_some];have:∀ (pp s_:List Nat) (x:ab),pp≠s_->x.at pp=some .dead->x.at s_=some .dead->(x.setAt pp y).at s_=some .dead:=by
    intro pp
    induction pp with
    | nil =>
     intro s_ x dq h1 af;simp only [ab.at,Option.some.injEq] at h1;subst h1;cases s_ with
     | nil=>exact absurd rfl dq
     | cons k q=>simp [ab.at,ab.kids] at af
    | cons k pp aU =>
     intro s_ x dq h1 af;cases s_ with
     | nil =>
      simp only [ab.at,Option.some.injEq] at af;subst af;simp [ab.at,ab.kids] at h1
     | cons j q =>
      simp only [ab.at] at h1 af;cases hk:x.kids[k]? with
      | none=>rw [hk] at h1; cases h1
      | some c =>
       rw [hk] at h1;simp only at h1;have zx:x.setAt (k::pp) y=x.v' k (c.setAt pp y):=by simp only [ab.setAt,hk]
       rw [zx];have fy:k<x.kids.length:=(List.getElem?_eq_some_iff.1 hk).1;have Iz:(x.v' k (c.setAt pp y)).kids=x.kids.set k (c.setAt pp y):=by
        cases x <;> simp [ab.v',ab.kids] at fy ⊢
       simp only [ab.at,Iz];by_cases gV:j=k
       ·subst gV;rw [List.getElem?_set_self fy];rw [hk] at af;exact aU q c (λe=>dq (by rw [e])) h1 af
       ·rw [List.getElem?_set_ne (Ne.symm gV)];exact af
   exact this pp s_ x EJ au bg
 ·rw [FX ao]; exact bg
theorem jE.qI:∀ (l:List (Place × ab)) (dD:Nat->bb) (vs:Nat->Value) {g:aM}{Fs:Nat->bb},jE w I T g Fs->(l.map (·.1)).Nodup->(∀ (j:Nat) (p:Place) (x:ab),l[j]?=some (p,x)->bD g p=some .dead/\dW w T p=some (vs j)/\R w I (fD w T) x (vs j) (dD j)) ->
  (∀ (j t c:Nat),j<l.length->dD j c->¬ Fs t c)->(∀ (j c:Nat),j<l.length->dD j c->¬ I c)->(∀ (i j c:Nat),i<l.length->j<l.length->dD i c->dD j c->i=j) ->
  ∃ b7,jE w I T (qI g l) b7/\∀ t c,b7 t c->Fs t c\/∃ j,j<l.length/\dD j c
 | [],_,_,g,Fs,bl,_,_,_,_,_=>⟨Fs,bl,λ_ _ h=>.inl h⟩
 | (p,x)::l,dD,vs,g,Fs,bl,ft,ak,rf,NJ,mW=>by
  obtain ⟨h1,af,aI⟩:=ak 0 p x rfl;obtain ⟨v,cA,hv,dI,dy,put⟩:=bl.part h1 (by simp);rw [af] at hv;cases hv;obtain ⟨f_,jc,zf,Bs⟩:=put x (dD 0) aI (λc aa aW=>absurd aW (rf 0 _ c (by simp) aa)) (λc aa=>NJ 0 c (by simp) aa) (λt c _ aa=>rf 0 t c (by simp) aa);have gI:∀ t c,f_ t c->Fs t c\/dD 0 c:=by
   intro t c aa;by_cases aw:t=p.root
   ·subst aw;rcases (zf c).1 aa with ⟨h,_⟩ | h
    ·exact .inl h
    ·exact .inr h
   ·rw [Bs t aw] at aa; exact .inl aa
  simp only [List.map_cons,List.nodup_cons] at ft;obtain ⟨iY,h7,Et⟩:=jE.qI l (λj=>dD (j+1)) (λj=>vs (j+1)) jc ft.2 (λj q y ah=>by
    obtain ⟨aE,a2,a3⟩:=ak (j+1) q y (by simpa using ah);refine ⟨Yp aE h1 ?_,a2,a3⟩;rintro rfl;exact ft.1 (List.mem_map.2 ⟨(p,y),List.mem_of_getElem? ah,rfl⟩))
   (λj t c ah aa aW=>by
    rcases gI t c aW with h | h
    ·exact rf (j+1) t c (by simpa using ah) aa h
    ·have:=mW (j+1) 0 c (by simpa using ah) (by simp) aa h; omega)
   (λj c ah aa=>NJ (j+1) c (by simpa using ah) aa)
   (λi j c hi ah h1 af=>by have:=mW (i+1) (j+1) c (by simpa using hi) (by simpa using ah) h1 af; omega)
  refine ⟨iY,h7,λt c aa=>?_⟩;rcases Et t c aa with h | ⟨j,ah,h⟩
  ·rcases gI t c h with h | h
   ·exact .inl h
   ·exact .inr ⟨0,by simp,h⟩
  ·exact .inr ⟨j+1,by simpa using ah,h⟩
end
end Go.Own
namespace Go.Own
open Go
inductive h3:ab->ab->Prop
 | refl {x:ab}:h3 x x
 | CB {z:Nat}:h3 .aK (.own z 0 [])
 | pK {x y:ab}(aF:cU x) (h:View (λ_=>none) x y):h3 x y
 | own {z n:Nat}{cs cs':List ab}(ak:cs'.length=cs.length) (h:∀ (k:Nat) (x y:ab),cs[k]?=some x->cs'[k]?=some y->h3 x y):h3 (.own z n cs) (.own z n cs')
 | obj {cs cs':List ab}(ak:cs'.length=cs.length) (h:∀ (k:Nat) (x y:ab),cs[k]?=some x->cs'[k]?=some y->h3 x y):h3 (.obj cs) (.obj cs')
 | agg {cs cs':List ab}(ak:cs'.length=cs.length) (h:∀ (k:Nat) (x y:ab),cs[k]?=some x->cs'[k]?=some y->h3 x y):h3 (.agg cs) (.agg cs')
theorem View.up {g g':aM}(h:∀ t x,g t=some x->g' t=some x) {x y:ab}(hv:View g x y):View g' x y:=by
 induction hv with
 | qE=>exact .qE
 | self h1 af aI bK cH ei=>exact .self h1 af aI bK cH ei
 | mp=>exact .mp
 | gB au=>exact .gB (kH h au)
 | agg ak _ aU=>exact .agg ak aU
 | own ak _ aU=>exact .own ak aU
 | obj ak _ aU=>exact .obj ak aU
 | cW ak _ aU=>exact .cW ak aU
 | a6 au aF ak _ aU=>exact .a6 (kH h au) aF ak aU
 | sub au aF ak _ aU=>exact .sub (kH h au) aF ak aU
 | ptr au ax hk ak _ aU=>exact .ptr (kH h au) ax hk ak aU
 | rows au ak _ aU=>exact .rows (au.mono (λau=>kH h au) h) ak aU
theorem xL {cs cs':List ab}(ak:cs'.length=cs.length) (aF:∀ x∈cs,cU x) (aU:∀ (k:Nat) (x y:ab),cs[k]?=some x->cs'[k]?=some y->cU x->cU y):∀ y∈cs',cU y:=by
 intro y ax;obtain ⟨k,hk⟩:=List.getElem?_of_mem ax;have fy:=(List.getElem?_eq_some_iff.1 hk).1;have J:=List.getElem?_eq_getElem (ak ▸ fy:k<cs.length)
 grind
section
variable {w:World}{I:bb}
theorem R.pK {ρ:ab->Value->Prop}{x y:ab}{v:Value}{F:bb}(aZ:R w I ρ x v F) (aF:cU x) (h:View (λ_=>none) x y) (bf:∀ c,F c->¬ I c) (aT:∀ c,I c->c<w.heap.size):R w (λc=>I c\/F c) ρ y v cy:=by
 have bl:jE w I #[v] (λt=>if t=0 then some x else none) (λt c=>t=0/\F c):=by
  refine ⟨λt z aY=>?_,λt aw c aa=>?_,λt t' c aa fr=>aa.1.trans fr.1.symm,λt c aa=>bf c aa.2,aT⟩
  ·by_cases aR:t=0
   ·subst aR;rw [if_pos rfl] at aY;cases aY;exact ⟨v,rfl,.tree ((aZ.bn aF).y9 λc=>⟨λh=>⟨rfl,h⟩,λh=>h.2⟩)⟩
   grind
  grind
 have:=View.Qa bl (h.up λ_ _ h=>by cases h) (aZ.bn aF) (λc aa=>⟨0,rfl,aa⟩) ρ
 grind
theorem h3.bn {x y:ab}(h:h3 x y):cU x->cU y:=by
 induction h with
 | refl=>exact id
 | CB=>exact λ_=>.own (by simp)
 | pK aF h =>
  intro _;have key:∀ {x y:ab},View (λ_=>none) x y->cU x->cU y:=by
   intro x y h
   induction h with
   | qE=>exact λ_=>.bm (by simp)
   | self h=>exact λ_=>h
   | mp=>exact λ_=>.imp
   | gB au=>simp [bD] at au
   | agg ak _ aU=>intro aF; cases aF with | agg aF=>exact .agg (xL ak aF aU)
   | own ak _ aU=>intro aF; cases aF with | own aF=>exact .bm (xL ak aF aU)
   | obj ak _ aU=>intro aF; cases aF with | obj aF=>exact .cI (xL ak aF aU)
   | cW ak _ aU=>intro aF; cases aF with | cW h1 af=>exact .cW h1 (xL ak af aU)
   | a6 au=>simp [bD] at au
   | sub au=>simp [bD] at au
   | ptr au=>simp [bD] at au
   | rows au =>
    cases au with
    | own au=>simp [bD] at au
    | bM aw=>cases aw
  grind
 | own ak _ aU=>intro aF; cases aF with | own aF=>exact .own (xL ak aF aU)
 | obj ak _ aU=>intro aF; cases aF with | obj aF=>exact .obj (xL ak aF aU)
 | agg ak _ aU=>intro aF; cases aF with | agg aF=>exact .agg (xL ak aF aU)
theorem HB {ρ:ab->Value->Prop}{cs cs':List ab}{get:Nat->Option Value}{Fs:Nat->bb}{F B:bb}(ak:cs'.length=cs.length)
  (aO:∀ k,k<cs.length->∃ u,get k=some u)
  (aS:∀ (j k c:Nat),j<cs.length->k<cs.length->Fs j c->Fs k c->j=k) (av:∀ k c,k<cs.length->Fs k c->¬ B c) (aN:∀ c,F c↔B c\/∃ k,k<cs.length/\Fs k c)
  (aU:∀ (k:Nat) (x y:ab),cs[k]?=some x->cs'[k]?=some y->∀ u,get k=some u->∃ c9,(∀ c,c9 c->Fs k c)/\R w (λc=>I c\/(Fs k c/\¬ c9 c)) ρ y u c9) :
  ∃ qV:Nat->bb,(∀ k c,k<cs'.length->qV k c->Fs k c)/\(∀ (k:Nat) (y:ab) (u:Value),cs'[k]?=some y->get k=some u->R w (λc=>I c\/(F c/\¬ (B c\/∃ j,j<cs'.length/\qV j c))) ρ y u (qV k)):=by
 have:∀ k,∃ G:bb,k<cs.length->(∀ c,G c->Fs k c)/\∀ (y:ab) (u:Value),cs'[k]?=some y->get k=some u->R w (λc=>I c\/(Fs k c/\¬ G c)) ρ y u G:=by
  intro k;by_cases hk:k<cs.length
  ·have J:=List.getElem?_eq_getElem hk;have ax:=List.getElem?_eq_getElem (ak ▸ hk:k<cs'.length);obtain ⟨u,hu⟩:=aO k hk
   simp_all
  ·exact ⟨cy,λh=>absurd h hk⟩
 obtain ⟨qV,M5⟩:=Classical.axiomOfChoice this;refine ⟨qV,λk c hk=>(M5 k (ak ▸ hk)).1 c,λk y u ax hu=>?_⟩;have hk:k<cs'.length:=(List.getElem?_eq_some_iff.1 ax).1;have h9:k<cs.length:=ak ▸ hk;refine ((M5 k h9).2 y u ax hu).ou λc aa=>?_
 grind
theorem R.dN {ρ:ab->Value->Prop}{x y:ab}(h:h3 x y):∀ {v:Value}{F:bb},R w I ρ x v F->cU x->(∀ c,F c->¬ I c)->(∀ c,I c->c<w.heap.size)->∃ c9,(∀ c,c9 c->F c)/\R w (λc=>I c\/(F c/\¬ c9 c)) ρ y v c9:=by
 induction h with
 | refl=>exact λaZ _ _ _=>⟨_,λ_ h=>h,aZ.ou λ_ h=>.inl h⟩
 | CB =>
  intro v F aZ _ _ _;have:=aZ.sg;subst this;refine ⟨cy,λ_ h=>h.elim,.own (e:=0) (us:=[]) (Fs:=λ_=>cy) ⟨by simp,.inl ⟨rfl,rfl⟩⟩ rfl (by simp) (by simp) (λ_ _ _ _ _ h=>h.elim) (λ_ _ _ h=>h.elim) λc=>⟨λh=>h.elim,λh=>?_⟩⟩;rcases h with h | ⟨_,_,h⟩
  ·cases h
  ·exact h
 | pK aF h=>exact λaZ _ bf aT=>⟨cy,λ_ h=>h.elim,(aZ.pK aF h bf aT).ou λc aa=>aa.elim .inl λh=>.inr ⟨h,λh=>h⟩⟩
 | @own z n cs cs' ak _ aU =>
  intro v F aZ aF bf aT;cases aZ with
  | ref J=>simp [ab.isRef] at J
  | @own _ _ _ _ e us Fs _ a1 hU h1 ao aS av aN =>
   cases aF with
   | own aF =>
    obtain ⟨qV,qm,Bv⟩:=HB (get:=λk=>us[k]?) (B:=λc=>v.ownBlock=some c) ak (λk hk=>⟨_,List.getElem?_eq_getElem (hU ▸ hk)⟩) aS (λk c hk aa e=>av k c hk aa e) aN (λk x y J ax u hu=>aU k x y J ax (ao k x u J hu) (aF x (List.mem_of_getElem? J)) (λc aa=>bf c ((aN c).2 (.inr ⟨k,(List.getElem?_eq_some_iff.1 J).1,aa⟩))) aT);exact ⟨_,λc aa=>(aN c).2 (aa.imp id λ⟨k,hk,h⟩=>⟨k,ak ▸ hk,qm k c hk h⟩),
     .own a1 (by rw [ak,hU]) h1 (λk y u ax hu=>Bv k y u ax hu) (λj k c ah hk af aI=>aS j k c (ak ▸ ah) (ak ▸ hk) (qm j c ah af) (qm k c hk aI)) (λk c hk aa=>av k c (ak ▸ hk) (qm k c hk aa)) (λc=>Iff.rfl)⟩
 | @obj cs cs' ak _ aU =>
  intro v F aZ aF bf aT;cases aZ with
  | ref J=>simp [ab.isRef] at J
  | @obj _ b e arr Fs _ a1 hU h1 ao aS av aN =>
   cases aF with
   | obj aF =>
    obtain ⟨qV,qm,Bv⟩:=HB (get:=λk=>arr[k]?) (B:=λc=>c=b) ak (λk hk=>⟨_,Array.getElem?_eq_getElem (hU ▸ hk)⟩) aS (λk c hk aa e=>av k hk (e ▸ aa)) aN (λk x y J ax u hu=>aU k x y J ax (ao k x u J hu) (aF x (List.mem_of_getElem? J)) (λc aa=>bf c ((aN c).2 (.inr ⟨k,(List.getElem?_eq_some_iff.1 J).1,aa⟩))) aT);exact ⟨_,λc aa=>(aN c).2 (aa.imp id λ⟨k,hk,h⟩=>⟨k,ak ▸ hk,qm k c hk h⟩),
     .obj a1 (by rw [ak,hU]) h1 (λk y u ax hu=>Bv k y u ax hu) (λj k c ah hk af aI=>aS j k c (ak ▸ ah) (ak ▸ hk) (qm j c ah af) (qm k c hk aI)) (λk hk aa=>av k (ak ▸ hk) (qm k b hk aa)) (λc=>Iff.rfl)⟩
 | @agg cs cs' ak _ aU =>
  intro v F aZ aF bf aT;cases aZ with
  | ref J=>simp [ab.isRef] at J
  | @agg _ vs Fs _ hU h1 ao aS aN =>
   cases aF with
   | agg aF =>
    obtain ⟨qV,qm,Bv⟩:=HB (get:=λk=>vs[k]?) (B:=λ_=>False) ak (λk hk=>⟨_,Array.getElem?_eq_getElem (hU ▸ hk)⟩) aS (λk c hk aa e=>e) (λc=>(aN c).trans ⟨.inr,λh=>h.elim (λh=>h.elim) id⟩) (λk x y J ax u hu=>aU k x y J ax (ao k x u J hu) (aF x (List.mem_of_getElem? J)) (λc aa=>bf c ((aN c).2 ⟨k,(List.getElem?_eq_some_iff.1 J).1,aa⟩)) aT);refine ⟨λc=>∃ k,k<cs'.length/\qV k c,λc ⟨k,hk,h⟩=>(aN c).2 ⟨k,ak ▸ hk,qm k c hk h⟩,
     .agg (Fs:=qV) (by rw [ak,hU]) h1 (λk y u ax hu=>(Bv k y u ax hu).ou λc aa=>aa.imp id λ⟨h1,af⟩=>⟨h1,λh=>af (.inr h)⟩) (λj k c ah hk af aI=>aS j k c (ak ▸ ah) (ak ▸ hk) (qm j c ah af) (qm k c hk aI)) (λc=>Iff.rfl)⟩
end
end Go.Own
