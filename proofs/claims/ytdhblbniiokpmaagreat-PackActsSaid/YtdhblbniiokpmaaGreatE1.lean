/-
  Parts of the proof that the last text states. No condition of their own.
-/
import Derived.Orders
import Derived.WalkKit
namespace Go.Own
open Go
structure Place where
 root:Nat
 path:List Nat
 deriving DecidableEq,Repr
def Place.push (p:Place) (k:Nat):Place:=⟨p.root,p.path++[k]⟩
inductive ab where
 | lit (v:Value)
 | aJ
 | bj (z n:Nat) (cs:List ab)
 | own (z n:Nat) (cs:List ab)
 | obj (cs:List ab)
 | agg (cs:List ab)
 | bW (cs:List ab)
 | cH (cs:List ab)
 | ptr (p:Place) (k:Nat)
 | a6 (z:Nat) (p:Place) (n:Nat)
 | sub (z:Nat) (p:Place) (lo n:Nat)
 | bL (z:Nat) (p:Place) (n m:Nat) (new:List ab)
 | cW (fn:Fn) (first caps:List ab)
 | mp (p:Array MapEntry->Nat->Prop)
 | gz (p:Place)
 | imp (p:Array MapEntry->Nat->Prop)
 | dead
 deriving Inhabited
abbrev bb:=Nat->Prop
def ab.isRef:ab->Bool
 | .ptr .. | .a6 .. | .sub .. | .gz ..=>true
 | _=>false
inductive R (w:World) (I:bb) (ρ:ab->Value->Prop):ab->Value->bb->Prop
 | lit {v:Value}{F:bb}(hv:v.oneCell'=true) (aN:∀ c,¬ F c):R w I ρ (.lit v) v F
 | aJ {F:bb}(aN:∀ c,¬ F c):R w I ρ .aJ (.slice none 0 0) F
 | dead {v:Value}{F:bb}(aN:∀ c,¬ F c):R w I ρ .dead v F
 | ref {x:ab}{v:Value}{F:bb}(J:x.isRef=true) (h:ρ x v) (aN:∀ c,¬ F c):R w I ρ x v F
 | hG {z cap:Nat}{a:Option Addr}{F:bb}(aN:∀ c,¬ F c):R w I ρ (.bj z 0 []) (.slice a 0 cap) F
 | bj {z n cap:Nat}{cs:List ab}{ad:Addr}{us:Nat->Value}{F:bb}(aN:∀ c,¬ F c) (k9:n<=cap) (bf:I ad.block) (aC:ad.spot=none) (ak:cs.length=n * z) (h1:∀ (k:Nat) (x:ab),cs[k]?=some x->(us k).oneCell'=true)
   (aa:∀ (k:Nat) (x:ab),cs[k]?=some x->w.cell? ⟨ad.block,ad.off+k,none⟩=some (us k)) (ao:∀ (k:Nat) (x:ab),cs[k]?=some x->R w I ρ x (us k) (λ_=>False)) :
   R w I ρ (.bj z n cs) (.slice (some ad) n cap) F
 | cH {cs:List ab}{ad:Addr}{us:Nat->Value}{F:bb}(aN:∀ c,¬ F c) (bf:I ad.block) (aC:ad.spot=none) (h1:∀ (k:Nat) (x:ab),cs[k]?=some x->(us k).oneCell'=true)
   (aa:∀ (k:Nat) (x:ab),cs[k]?=some x->w.cell? ⟨ad.block,ad.off+k,none⟩=some (us k)) (ao:∀ (k:Nat) (x:ab),cs[k]?=some x->R w I ρ x (us k) (λ_=>False)) :
   R w I ρ (.cH cs) (.pointer (some ad)) F
 | own {z n:Nat}{cs:List ab}{v:Value}{e:TypeId}{us:List Value}{Fs:Nat->bb}{F:bb}
   (a1:w.ownsRow 0 e z v n us) (ak:cs.length=us.length) (h1:∀ (k:Nat) (u:Value),us[k]?=some u->u.oneCell'=true)
   (ao:∀ (k:Nat) (x:ab) (u:Value),cs[k]?=some x->us[k]?=some u->R w I ρ x u (Fs k))
   (aS:∀ (j k c:Nat),j<cs.length->k<cs.length->Fs j c->Fs k c->j=k) (av:∀ (k c:Nat),k<cs.length->Fs k c->v.ownBlock≠some c)
   (aN:∀ c,F c↔v.ownBlock=some c\/∃ k,k<cs.length/\Fs k c):R w I ρ (.own z n cs) v F
 | obj {cs:List ab}{b:Nat}{e:TypeId}{arr:Array Value}{Fs:Nat->bb}{F:bb}
   (a1:w.heap[b]?=some (.cells arr e (0,0))) (ak:cs.length=arr.size) (h1:∀ (k:Nat) (u:Value),arr[k]?=some u->u.oneCell'=true)
   (ao:∀ (k:Nat) (x:ab) (u:Value),cs[k]?=some x->arr[k]?=some u->R w I ρ x u (Fs k))
   (aS:∀ (j k c:Nat),j<cs.length->k<cs.length->Fs j c->Fs k c->j=k) (av:∀ (k:Nat),k<cs.length->¬ Fs k b)
   (aN:∀ c,F c↔c=b\/∃ k,k<cs.length/\Fs k c):R w I ρ (.obj cs) (.pointer (some ⟨b,0,none⟩)) F
 | agg {cs:List ab}{vs:Array Value}{Fs:Nat->bb}{F:bb}(ak:cs.length=vs.size) (h1:∀ (k:Nat) (u:Value),vs[k]?=some u->u.oneCell'=true)
   (ao:∀ (k:Nat) (x:ab) (u:Value),cs[k]?=some x->vs[k]?=some u->R w I ρ x u (Fs k))
   (aS:∀ (j k c:Nat),j<cs.length->k<cs.length->Fs j c->Fs k c->j=k)
   (aN:∀ c,F c↔∃ k,k<cs.length/\Fs k c):R w I ρ (.agg cs) (.agg vs) F
 | bW {cs:List ab}{vs:Array Value}{Fs:Nat->bb}{F:bb}(ak:cs.length=vs.size)
   (ao:∀ (k:Nat) (x:ab) (u:Value),cs[k]?=some x->vs[k]?=some u->R w I ρ x u (Fs k))
   (aS:∀ (j k c:Nat),j<cs.length->k<cs.length->Fs j c->Fs k c->j=k)
   (aN:∀ c,F c↔∃ k,k<cs.length/\Fs k c):R w I ρ (.bW cs) (.tuple vs) F
 | cW {fn:Fn}{first caps:List ab}{v1 v2:Array Value}{F:bb}(aN:∀ c,¬ F c) (h1:first.length=v1.size) (af:caps.length=v2.size)
   (kt:∀ (k:Nat) (x:ab) (u:Value),first[k]?=some x->v1[k]?=some u->R w I ρ x u (λ_=>False))
   (iN:∀ (k:Nat) (x:ab) (u:Value),caps[k]?=some x->v2[k]?=some u->R w I ρ x u (λ_=>False)):R w I ρ (.cW fn first caps) (.func fn v1 v2) F
 | mp {p:Array MapEntry->Nat->Prop}{b:Nat}{es:Array MapEntry}{clock:Nat}{F:bb}(a1:w.heap[b]?=some (.map es clock)) (au:p es clock) (aN:∀ c,F c↔c=b):R w I ρ (.mp p) (.map (some b)) F
 | imp {p:Array MapEntry->Nat->Prop}{b:Nat}{es:Array MapEntry}{clock:Nat}{F:bb}(aN:∀ c,¬ F c) (bf:I b) (a1:w.heap[b]?=some (.map es clock)) (au:p es clock):R w I ρ (.imp p) (.map (some b)) F
theorem R.y_ {w:World}{I:bb}{ρ:ab->Value->Prop}{x:ab}{v:Value}{F c9:bb}(h:R w I ρ x v F) (aN:∀ c,F c↔c9 c):R w I ρ x v c9:=by
 have:F=c9:=funext λc=>propext (aN c)
 grind
theorem R.lt {w:World}{I:bb}{ρ:ab->Value->Prop}{x:ab}{v:Value}{F:bb}(h:R w I ρ x v F):∀ c,F c->c<w.heap.size:=by
 induction h with
 | lit _ aN | aJ aN | dead aN | ref _ _ aN | hG aN | bj aN | cH aN | cW aN | imp aN=>exact λc aa=>absurd aa (aN c)
 | mp a1 _ aN=>exact λc aa=>by rw [(aN c).1 aa]; exact (Array.getElem?_eq_some_iff.1 a1).1
 | own a1 ak h1 ao aS av aN aU =>
  intro c aa;rcases (aN c).1 aa with h | ⟨k,hk,h⟩
  ·exact (a1.lt c h).2
  ·exact aU k _ _ (List.getElem?_eq_getElem hk) (List.getElem?_eq_getElem (ak ▸ hk)) c h
 | obj a1 ak h1 ao aS av aN aU =>
  intro c aa;rcases (aN c).1 aa with rfl | ⟨k,hk,h⟩
  ·grind
  ·exact aU k _ _ (List.getElem?_eq_getElem hk) (Array.getElem?_eq_getElem (ak ▸ hk)) c h
 | agg ak h1 ao aS aN aU =>
  intro c aa;obtain ⟨k,hk,h⟩:=(aN c).1 aa;exact aU k _ _ (List.getElem?_eq_getElem hk) (Array.getElem?_eq_getElem (ak ▸ hk)) c h
 | bW ak ao aS aN aU =>
  intro c aa;obtain ⟨k,hk,h⟩:=(aN c).1 aa;exact aU k _ _ (List.getElem?_eq_getElem hk) (Array.getElem?_eq_getElem (ak ▸ hk)) c h
theorem vH {w w':World}{e:TypeId}{z n:Nat}{v:Value}{us:List Value}(h:w.ownsRow 0 e z v n us) (av:∀ c,v.ownBlock=some c->w'.heap[c]?=w.heap[c]?):w'.ownsRow 0 e z v n us:=by
 obtain ⟨h1,af⟩:=h;refine ⟨h1,?_⟩;rcases af with af | ⟨g,cap,cur,rfl,aO,bY,rest⟩
 ·grind
 ·exact .inr ⟨g,cap,cur,rfl,aO,by rw [av g rfl]; exact bY,rest⟩
theorem R.frame {w w':World}{I I':bb}{ρ ρ':ab->Value->Prop}{x:ab}{v:Value}{F:bb}(h:R w I ρ x v F)
  (bf:∀ c,I c->w'.heap[c]?=w.heap[c]?) (pt:∀ c,I c->I' c) (lN:∀ x v,ρ x v->ρ' x v) :
  (∀ c,F c->w'.heap[c]?=w.heap[c]?)->R w' I' ρ' x v F:=by
 induction h with
 | lit hv aN=>exact λ_=>.lit hv aN
 | aJ aN=>exact λ_=>.aJ aN
 | dead aN=>exact λ_=>.dead aN
 | ref J h aN=>exact λ_=>.ref J (lN _ _ h) aN
 | hG aN=>exact λ_=>.hG aN
 | bj aN k9 hi aC ak h1 aa ao aU =>
  exact λ_=>.bj aN k9 (pt _ hi) aC ak h1 (λk x hk=>(World.cell?_of_block (a:=⟨_,_,none⟩) (bf _ hi)).trans (aa k x hk)) λk x hk=>aU k x hk (λc aa=>aa.elim)
 | cH aN hi aC h1 aa ao aU =>
  exact λ_=>.cH aN (pt _ hi) aC h1 (λk x hk=>(World.cell?_of_block (a:=⟨_,_,none⟩) (bf _ hi)).trans (aa k x hk)) λk x hk=>aU k x hk (λc aa=>aa.elim)
 | own a1 ak h1 ao aS av aN aU =>
  intro aW;refine .own (vH a1 λc aa=>aW c ((aN c).2 (.inl aa))) ak h1 (λk x u J hu=>aU k x u J hu λc aa=>aW c ((aN c).2 (.inr ⟨k,?_,aa⟩))) aS av aN
  grind
 | obj a1 ak h1 ao aS av aN aU =>
  intro aW;refine .obj ((aW _ ((aN _).2 (.inl rfl))).trans a1) ak h1 (λk x u J hu=>aU k x u J hu λc aa=>aW c ((aN c).2 (.inr ⟨k,?_,aa⟩))) aS av aN
  grind
 | agg ak h1 ao aS aN aU =>
  intro aW;refine .agg ak h1 (λk x u J hu=>aU k x u J hu λc aa=>aW c ((aN c).2 ⟨k,?_,aa⟩)) aS aN
  grind
 | bW ak ao aS aN aU =>
  intro aW;refine .bW ak (λk x u J hu=>aU k x u J hu λc aa=>aW c ((aN c).2 ⟨k,?_,aa⟩)) aS aN
  grind
 | imp aN hi a1 au=>exact λ_=>.imp aN (pt _ hi) ((bf _ hi).trans a1) au
 | mp a1 au aN=>exact λaW=>.mp ((aW _ ((aN _).2 rfl)).trans a1) au aN
 | cW aN h1 af kt iN gy gg=>exact λ_=>.cW aN h1 af (λk x u J hu=>gy k x u J hu λc aa=>aa.elim) (λk x u J hu=>gg k x u J hu λc aa=>aa.elim)
def ab.kids:ab->List ab
 | .own _ _ cs=>cs
 | .obj cs=>cs
 | .agg cs=>cs
 | .bW cs=>cs
 | _=>[]
def ab.v8 (x:ab) (k:Nat) (y:ab):ab :=
 match x with
 | .own z n cs=>.own z n (cs.set k y)
 | .obj cs=>.obj (cs.set k y)
 | .agg cs=>.agg (cs.set k y)
 | .bW cs=>.bW (cs.set k y)
 | x=>x
def ab.at:ab->List Nat->Option ab
 | x,[]=>some x
 | x,k::p =>
  match x.kids[k]? with
  | some c=>c.at p
  | none=>none
def ab.setAt:ab->List Nat->ab->ab
 | _,[],y=>y
 | x,k::p,y =>
  match x.kids[k]? with
  | some c=>x.v8 k (c.setAt p y)
  | none=>x
def child (w:World) (v:Value) (k:Nat):Option Value :=
 match v with
 | .agg cs=>cs[k]?
 | .tuple cs=>cs[k]?
 | .slice (some a) _ _=>w.cell? ⟨a.block,a.off+k,none⟩
 | .pointer (some a)=>w.cell? ⟨a.block,a.off+k,none⟩
 | _=>none
def walk (w:World):Value->List Nat->Option Value
 | v,[]=>some v
 | v,k::p =>
  match child w v k with
  | some u=>walk w u p
  | none=>none
theorem pQ {w:World}{e:TypeId}{z n:Nat}{v:Value}{us:List Value}(h:w.ownsRow 0 e z v n us) {k:Nat}{u:Value}(hu:us[k]?=some u):child w v k=some u:=by
 obtain ⟨h1,af⟩:=h;rcases af with ⟨rfl,rfl⟩ | ⟨g,cap,cur,rfl,aO,bY,aF,aa,aC,aw⟩
 ·grind
 ·rw [<- aw] at hu;rw [List.getElem?_take] at hu
  split at hu
  ·simpa [child,World.cell?,bY] using hu
  grind
theorem Yp {α:Type}{l:List α}{k j:Nat}{y x:α}(h:(l.set k y)[j]?=some x):(j=k/\x=y/\k<l.length)\/(j≠k/\l[j]?=some x):=by
 grind
structure Out (w w':World) (I I':bb) (ρ ρ':ab->Value->Prop) (F cB:bb):Prop where
 bj:∀ c,I c->w'.heap[c]?=w.heap[c]?
 rest:∀ c,F c->¬ cB c->w'.heap[c]?=w.heap[c]?
 more:∀ c,I c->I' c
 ref:∀ x v,ρ x v->ρ' x v
theorem Out.mono {w w':World}{I I':bb}{ρ ρ':ab->Value->Prop}{F cB c9 jl:bb}(h:Out w w' I I' ρ ρ' F cB) (h1:∀ c,c9 c->F c) (af:∀ c,c9 c->¬ jl c->¬ cB c):Out w w' I I' ρ ρ' c9 jl :=
 ⟨h.bj,λc aa aF=>h.rest c (h1 c aa) (af c aa aF),h.more,h.ref⟩
theorem R.outside {w w':World}{I I':bb}{ρ ρ':ab->Value->Prop}{F cB:bb}(o:Out w w' I I' ρ ρ' F cB) {x:ab}{v:Value}{G:bb}(h:R w I ρ x v G) (c_:∀ c,G c->F c/\¬ cB c):R w' I' ρ' x v G :=
 h.frame o.bj o.more o.ref λc aa=>o.rest c (c_ c aa).1 (c_ c aa).2
theorem E3 {w w':World}{I I':bb}{ρ ρ':ab->Value->Prop}{cs:List ab}{get:Nat->Option Value}{Fs:Nat->bb}{F cB:bb}
  (ao:∀ (k:Nat) (x:ab) (u:Value),cs[k]?=some x->get k=some u->R w I ρ x u (Fs k))
  (aS:∀ (j k c:Nat),j<cs.length->k<cs.length->Fs j c->Fs k c->j=k)
  (aN:∀ k c,k<cs.length->Fs k c->F c) {k:Nat}(hk:k<cs.length) (ax:∀ c,cB c->Fs k c) (o:Out w w' I I' ρ ρ' F cB)
  {y:ab}{u:Value}{bM:bb}(hu:get k=some u) (aZ:R w' I' ρ' y u bM) (fW:∀ c,bM c↔(Fs k c/\¬ cB c)\/(bM c/\¬ (F c/\¬ cB c))) :
  (∀ (j:Nat) (x:ab) (u:Value),(cs.set k y)[j]?=some x->get j=some u->R w' I' ρ' x u (if j=k then bM else Fs j)) /\
  (∀ (i j c:Nat),i<(cs.set k y).length->j<(cs.set k y).length->(if i=k then bM else Fs i) c->(if j=k then bM else Fs j) c->i=j):=by
 constructor
 ·intro j x v' J jO;rcases Yp J with ⟨rfl,rfl,aT⟩ | ⟨dr,J⟩
  ·grind
  ·rw [if_neg dr];have ah:j<cs.length:=(List.getElem?_eq_some_iff.1 J).1;exact (ao j x v' J jO).outside o λc aa=>⟨aN j c ah aa,λeM=>dr (aS j k c ah hk aa (ax c eM))⟩
 grind
theorem E4 {m:Nat}{Fs:Nat->bb}{bM cB jl:bb}{k:Nat}(hk:k<m)
  (aS:∀ (j k c:Nat),j<m->k<m->Fs j c->Fs k c->j=k) (ax:∀ c,cB c->Fs k c) (fW:∀ c,bM c↔(Fs k c/\¬ cB c)\/jl c) (c:Nat) :
  (∃ j,j<m/\(if j=k then bM else Fs j) c)↔((∃ j,j<m/\Fs j c)/\¬ cB c)\/jl c:=by
 grind
theorem R.pY {w w':World}{I:bb}{ρ:ab->Value->Prop}:∀ (r:List Nat) {x:ab}{v:Value}{F:bb}{y:ab},R w I ρ x v F->x.at r=some y ->
  (∀ c,F c->w'.heap[c]?=w.heap[c]?)->walk w' v r=walk w v r
 | [],_,_,_,_,_,_,_=>rfl
 | k::p,x,v,F,y,h,gq,aW=>by
  simp only [ab.at] at gq;cases ho:x.kids[k]? with
  | none=>rw [ho] at gq; cases gq
  | some sy =>
   rw [ho] at gq;simp only at gq;cases h with
   | @own z n cs _ e us Fs _ a1 ak h1 ao aS av aN =>
    simp only [ab.kids] at ho;have hk:k<cs.length:=(List.getElem?_eq_some_iff.1 ho).1;have hu:us[k]?=some us[k]:=List.getElem?_eq_getElem (ak ▸ hk);have nI:=vH (w':=w') a1 λc aa=>aW c ((aN c).2 (.inl aa));have:=R.pY (w':=w') p (ao k sy _ ho hu) gq λc aa=>aW c ((aN c).2 (.inr ⟨k,hk,aa⟩));simp [walk,pQ a1 hu,pQ nI hu,this]
   | @obj cs b e arr Fs _ a1 ak h1 ao aS av aN =>
    simp only [ab.kids] at ho;have hk:k<cs.length:=(List.getElem?_eq_some_iff.1 ho).1;have hu:arr[k]?=some arr[k]:=Array.getElem?_eq_getElem (ak ▸ hk);have nI:=(aW b ((aN b).2 (.inl rfl))).trans a1;have:=R.pY (w':=w') p (ao k sy _ ho hu) gq λc aa=>aW c ((aN c).2 (.inr ⟨k,hk,aa⟩));simp [walk,child,World.cell?,a1,nI,hu,this]
   | @agg cs vs Fs _ ak h1 ao aS aN =>
    simp only [ab.kids] at ho;have hk:k<cs.length:=(List.getElem?_eq_some_iff.1 ho).1;have hu:vs[k]?=some vs[k]:=Array.getElem?_eq_getElem (ak ▸ hk);have:=R.pY (w':=w') p (ao k sy _ ho hu) gq λc aa=>aW c ((aN c).2 ⟨k,hk,aa⟩);simp [walk,child,hu,this]
   | @bW cs vs Fs _ ak ao aS aN =>
    simp only [ab.kids] at ho;have hk:k<cs.length:=(List.getElem?_eq_some_iff.1 ho).1;have hu:vs[k]?=some vs[k]:=Array.getElem?_eq_getElem (ak ▸ hk);have:=R.pY (w':=w') p (ao k sy _ ho hu) gq λc aa=>aW c ((aN c).2 ⟨k,hk,aa⟩);simp [walk,child,hu,this]
   | ref J _ _=>cases x <;> simp [ab.isRef,ab.kids] at J ho
   | _=>simp [ab.kids] at ho
theorem R.focus {w:World}{I:bb}{ρ:ab->Value->Prop}:∀ (q:List Nat) {x:ab}{v:Value}{F:bb}{y:ab},R w I ρ x v F->x.at q=some y ->
  ∃ h0 cB,walk w v q=some h0/\R w I ρ y h0 cB/\(∀ c,cB c->F c) /\
   (∀ (w':World),(∀ c,F c->¬ cB c->w'.heap[c]?=w.heap[c]?)->walk w' v q=some h0/\∀ r uL,x.at r=some uL->(∃ dn,r=q++dn)\/walk w' v r=walk w v r) /\
   ∀ (w':World) (I':bb) (ρ':ab->Value->Prop) (y':ab) (jl:bb),Out w w' I I' ρ ρ' F cB->R w' I' ρ' y' h0 jl->(∀ c,jl c->F c->cB c) ->
    ∃ c9,R w' I' ρ' (x.setAt q y') v c9/\∀ c,c9 c↔(F c/\¬ cB c)\/jl c
 | [],x,v,F,y,h,gq=>by
  simp only [ab.at,Option.some.injEq] at gq;subst gq;exact ⟨v,F,rfl,h,λ_ h=>h,λ_ _=>⟨rfl,λr _ _=>.inl ⟨r,rfl⟩⟩,λw' I' ρ' y' jl _ aZ _=>⟨jl,aZ,λc=>by simp⟩⟩
 | k::p,x,v,F,y,h,gq=>by
  simp only [ab.at] at gq;cases ho:x.kids[k]? with
  | none=>rw [ho] at gq; cases gq
  | some sy =>
   rw [ho] at gq;simp only at gq;have zz:∀ y',x.setAt (k::p) y'=x.v8 k (sy.setAt p y'):=λy'=>by simp [ab.setAt,ho]
   cases h with
   | @own z n cs _ e us Fs _ a1 ak h1 ao aS av aN =>
    simp only [ab.kids] at ho;have hk:k<cs.length:=(List.getElem?_eq_some_iff.1 ho).1;have hu:us[k]?=some us[k]:=List.getElem?_eq_getElem (ak ▸ hk);obtain ⟨h0,cB,hw,dI,dy,eY,kf⟩:=R.focus p (ao k sy _ ho hu) gq;refine ⟨h0,cB,by simp [walk,pQ a1 hu,hw],dI,λc aa=>(aN c).2 (.inr ⟨k,hk,dy c aa⟩),?_,?_⟩
    ·intro w' aC;have pA:∀ j c,j<cs.length->Fs j c->¬ cB c->w'.heap[c]?=w.heap[c]?:=λj c ah aa aF=>aC c ((aN c).2 (.inr ⟨j,ah,aa⟩)) aF;obtain ⟨ic,hr⟩:=eY w' λc aa aF=>pA k c hk aa aF;have nI:=vH (w':=w') a1 λc aa=>aC c ((aN c).2 (.inl aa)) λeM=>av k c hk (dy c eM) aa;refine ⟨by simp [walk,pQ nI hu,ic],?_⟩;intro r uL ec;cases r with
     | nil=>exact .inr rfl
     | cons j r =>
      simp only [ab.at,ab.kids] at ec;cases ah:cs[j]? with
      | none=>rw [ah] at ec; cases ec
      | some wM =>
       rw [ah] at ec;simp only at ec;have eZ:j<cs.length:=(List.getElem?_eq_some_iff.1 ah).1;have rh:us[j]?=some us[j]:=List.getElem?_eq_getElem (ak ▸ eZ);by_cases gV:j=k
       ·subst gV;rw [ho] at ah;cases ah;rcases hr r uL ec with ⟨dn,rfl⟩ | h
        ·exact .inl ⟨dn,rfl⟩
        ·exact .inr (by simp [walk,pQ a1 hu,pQ nI hu,h])
       ·have h:=R.pY (w':=w') r (ao j wM _ ah rh) ec λc aa=>pA j c eZ aa λeM=>gV (aS j k c eZ hk aa (dy c eM));exact .inr (by simp [walk,pQ a1 rh,pQ nI rh,h])
    intro w' I' ρ' y' jl o jL mW;have jK:∀ j c,j<cs.length->Fs j c->F c:=λj c ah aa=>(aN c).2 (.inr ⟨j,ah,aa⟩);obtain ⟨bM,kM,fW⟩:=kf w' I' ρ' y' jl (o.mono (λc aa=>jK k c hk aa) λc _ h=>h) jL λc aa oO=>mW c aa (jK k c hk oO);obtain ⟨ec,oa⟩:=E3 (get:=λj=>us[j]?) ao aS jK hk dy o hu kM λc=>by
     constructor
     ·intro h;rcases (fW c).1 h with h1 | h1
      ·exact .inl h1
      ·exact .inr ⟨h,λ⟨af,aI⟩=>aI (mW c h1 af)⟩
     ·rintro (h1 | ⟨h1,_⟩)
      ·exact (fW c).2 (.inl h1)
      ·exact h1
    rw [zz];refine ⟨_,.own (Fs:=λj=>if j=k then bM else Fs j) (vH a1 λc aa=>o.rest c ((aN c).2 (.inl aa)) λeM=>av k c hk (dy c eM) aa) (by simpa using ak) h1 ec oa ?_ (λc=>Iff.rfl),λc=>?_⟩
    ·intro j c ah aa vn;rw [List.length_set] at ah;by_cases gV:j=k
     ·rw [if_pos gV] at aa;rcases (fW c).1 aa with ⟨h1,_⟩ | h1
      ·exact av k c hk h1 vn
      ·exact av k c hk (dy c (mW c h1 ((aN c).2 (.inl vn)))) vn
     ·rw [if_neg gV] at aa; exact av j c ah aa vn
    ·have hu:=E4 hk aS dy fW c;simp only [List.length_set];rw [hu,aN c];have e8:v.ownBlock=some c->¬ cB c:=λh1 af=>av k c hk (dy c af) h1;constructor
     ·rintro (h1 | ⟨h1,af⟩ | h1)
      ·exact .inl ⟨.inl h1,e8 h1⟩
      ·exact .inl ⟨.inr h1,af⟩
      ·exact .inr h1
     ·rintro (⟨h1 | h1,af⟩ | h1)
      ·exact .inl h1
      ·exact .inr (.inl ⟨h1,af⟩)
      ·exact .inr (.inr h1)
   | @obj cs b e arr Fs _ a1 ak h1 ao aS av aN =>
    simp only [ab.kids] at ho;have hk:k<cs.length:=(List.getElem?_eq_some_iff.1 ho).1;have hu:arr[k]?=some arr[k]:=Array.getElem?_eq_getElem (ak ▸ hk);obtain ⟨h0,cB,hw,dI,dy,eY,kf⟩:=R.focus p (ao k sy _ ho hu) gq;refine ⟨h0,cB,by simp [walk,child,World.cell?,a1,hu,hw],dI,λc aa=>(aN c).2 (.inr ⟨k,hk,dy c aa⟩),?_,?_⟩
    ·intro w' aC;have pA:∀ j c,j<cs.length->Fs j c->¬ cB c->w'.heap[c]?=w.heap[c]?:=λj c ah aa aF=>aC c ((aN c).2 (.inr ⟨j,ah,aa⟩)) aF;obtain ⟨ic,hr⟩:=eY w' λc aa aF=>pA k c hk aa aF;have nI:=(aC b ((aN b).2 (.inl rfl)) λeM=>av k hk (dy b eM)).trans a1;refine ⟨by simp [walk,child,World.cell?,nI,hu,ic],?_⟩;intro r uL ec;cases r with
     | nil=>exact .inr rfl
     | cons j r =>
      simp only [ab.at,ab.kids] at ec;cases ah:cs[j]? with
      | none=>rw [ah] at ec; cases ec
      | some wM =>
       rw [ah] at ec;simp only at ec;have eZ:j<cs.length:=(List.getElem?_eq_some_iff.1 ah).1;have rh:arr[j]?=some arr[j]:=Array.getElem?_eq_getElem (ak ▸ eZ);by_cases gV:j=k
       ·subst gV;rw [ho] at ah;cases ah;rcases hr r uL ec with ⟨dn,rfl⟩ | h
        ·exact .inl ⟨dn,rfl⟩
        ·exact .inr (by simp [walk,child,World.cell?,a1,nI,hu,h])
       ·have h:=R.pY (w':=w') r (ao j wM _ ah rh) ec λc aa=>pA j c eZ aa λeM=>gV (aS j k c eZ hk aa (dy c eM));exact .inr (by simp [walk,child,World.cell?,a1,nI,rh,h])
    intro w' I' ρ' y' jl o jL mW;have jK:∀ j c,j<cs.length->Fs j c->F c:=λj c ah aa=>(aN c).2 (.inr ⟨j,ah,aa⟩);obtain ⟨bM,kM,fW⟩:=kf w' I' ρ' y' jl (o.mono (λc aa=>jK k c hk aa) λc _ h=>h) jL λc aa oO=>mW c aa (jK k c hk oO);obtain ⟨ec,oa⟩:=E3 (get:=λj=>arr[j]?) ao aS jK hk dy o hu kM λc=>by
     constructor
     ·intro h;rcases (fW c).1 h with h1 | h1
      ·exact .inl h1
      ·exact .inr ⟨h,λ⟨af,aI⟩=>aI (mW c h1 af)⟩
     ·rintro (h1 | ⟨h1,_⟩)
      ·exact (fW c).2 (.inl h1)
      ·exact h1
    rw [zz];have mw:F b:=(aN b).2 (.inl rfl);have H9:¬ cB b:=λh=>av k hk (dy b h);refine ⟨_,.obj (Fs:=λj=>if j=k then bM else Fs j) ((o.rest b mw H9).trans a1) (by simpa using ak) h1 ec oa ?_ (λc=>Iff.rfl),λc=>?_⟩
    ·intro j ah aa;rw [List.length_set] at ah;by_cases gV:j=k
     ·rw [if_pos gV] at aa;rcases (fW b).1 aa with ⟨h1,_⟩ | h1
      ·exact av k hk h1
      ·exact H9 (mW b h1 mw)
     ·rw [if_neg gV] at aa; exact av j ah aa
    ·have hu:=E4 hk aS dy fW c;simp only [List.length_set];rw [hu,aN c];constructor
     ·rintro (rfl | ⟨h1,af⟩ | h1)
      ·exact .inl ⟨.inl rfl,H9⟩
      ·exact .inl ⟨.inr h1,af⟩
      ·exact .inr h1
     ·rintro (⟨h1 | h1,af⟩ | h1)
      ·exact .inl h1
      ·exact .inr (.inl ⟨h1,af⟩)
      ·exact .inr (.inr h1)
   | @agg cs vs Fs _ ak h1 ao aS aN =>
    simp only [ab.kids] at ho;have hk:k<cs.length:=(List.getElem?_eq_some_iff.1 ho).1;have hu:vs[k]?=some vs[k]:=Array.getElem?_eq_getElem (ak ▸ hk);obtain ⟨h0,cB,hw,dI,dy,eY,kf⟩:=R.focus p (ao k sy _ ho hu) gq;refine ⟨h0,cB,by simp [walk,child,hu,hw],dI,λc aa=>(aN c).2 ⟨k,hk,dy c aa⟩,?_,?_⟩
    ·intro w' aC;have pA:∀ j c,j<cs.length->Fs j c->¬ cB c->w'.heap[c]?=w.heap[c]?:=λj c ah aa aF=>aC c ((aN c).2 ⟨j,ah,aa⟩) aF;obtain ⟨ic,hr⟩:=eY w' λc aa aF=>pA k c hk aa aF
     
     refine ⟨by simp [walk,child,hu,ic],?_⟩;intro r uL ec;cases r with
     | nil=>exact .inr rfl
     | cons j r =>
      simp only [ab.at,ab.kids] at ec;cases ah:cs[j]? with
      | none=>rw [ah] at ec; cases ec
      | some wM =>
       rw [ah] at ec;simp only at ec;have eZ:j<cs.length:=(List.getElem?_eq_some_iff.1 ah).1;have rh:vs[j]?=some vs[j]:=Array.getElem?_eq_getElem (ak ▸ eZ);by_cases gV:j=k
       ·subst gV;rw [ho] at ah;cases ah;rcases hr r uL ec with ⟨dn,rfl⟩ | h
        ·exact .inl ⟨dn,rfl⟩
        ·exact .inr (by simp [walk,child,hu,h])
       ·have h:=R.pY (w':=w') r (ao j wM _ ah rh) ec λc aa=>pA j c eZ aa λeM=>gV (aS j k c eZ hk aa (dy c eM));exact .inr (by simp [walk,child,rh,h])
    intro w' I' ρ' y' jl o jL mW;have jK:∀ j c,j<cs.length->Fs j c->F c:=λj c ah aa=>(aN c).2 ⟨j,ah,aa⟩;obtain ⟨bM,kM,fW⟩:=kf w' I' ρ' y' jl (o.mono (λc aa=>jK k c hk aa) λc _ h=>h) jL λc aa oO=>mW c aa (jK k c hk oO);obtain ⟨ec,oa⟩:=E3 (get:=λj=>vs[j]?) ao aS jK hk dy o hu kM λc=>by
     constructor
     ·intro h;rcases (fW c).1 h with h1 | h1
      ·exact .inl h1
      ·exact .inr ⟨h,λ⟨af,aI⟩=>aI (mW c h1 af)⟩
     ·rintro (h1 | ⟨h1,_⟩)
      ·exact (fW c).2 (.inl h1)
      ·exact h1
    rw [zz];refine ⟨_,.agg (Fs:=λj=>if j=k then bM else Fs j) (by simpa using ak) h1 ec oa (λc=>Iff.rfl),λc=>?_⟩;have hu:=E4 hk aS dy fW c;simp only [List.length_set];rw [hu,aN c]
   | @bW cs vs Fs _ ak ao aS aN =>
    simp only [ab.kids] at ho;have hk:k<cs.length:=(List.getElem?_eq_some_iff.1 ho).1;have hu:vs[k]?=some vs[k]:=Array.getElem?_eq_getElem (ak ▸ hk);obtain ⟨h0,cB,hw,dI,dy,eY,kf⟩:=R.focus p (ao k sy _ ho hu) gq;refine ⟨h0,cB,by simp [walk,child,hu,hw],dI,λc aa=>(aN c).2 ⟨k,hk,dy c aa⟩,?_,?_⟩
    ·intro w' aC;have pA:∀ j c,j<cs.length->Fs j c->¬ cB c->w'.heap[c]?=w.heap[c]?:=λj c ah aa aF=>aC c ((aN c).2 ⟨j,ah,aa⟩) aF;obtain ⟨ic,hr⟩:=eY w' λc aa aF=>pA k c hk aa aF
     
     refine ⟨by simp [walk,child,hu,ic],?_⟩;intro r uL ec;cases r with
     | nil=>exact .inr rfl
     | cons j r =>
      simp only [ab.at,ab.kids] at ec;cases ah:cs[j]? with
      | none=>rw [ah] at ec; cases ec
      | some wM =>
       rw [ah] at ec;simp only at ec;have eZ:j<cs.length:=(List.getElem?_eq_some_iff.1 ah).1;have rh:vs[j]?=some vs[j]:=Array.getElem?_eq_getElem (ak ▸ eZ);by_cases gV:j=k
       ·subst gV;rw [ho] at ah;cases ah;rcases hr r uL ec with ⟨dn,rfl⟩ | h
        ·exact .inl ⟨dn,rfl⟩
        ·exact .inr (by simp [walk,child,hu,h])
       ·have h:=R.pY (w':=w') r (ao j wM _ ah rh) ec λc aa=>pA j c eZ aa λeM=>gV (aS j k c eZ hk aa (dy c eM));exact .inr (by simp [walk,child,rh,h])
    intro w' I' ρ' y' jl o jL mW;have jK:∀ j c,j<cs.length->Fs j c->F c:=λj c ah aa=>(aN c).2 ⟨j,ah,aa⟩;obtain ⟨bM,kM,fW⟩:=kf w' I' ρ' y' jl (o.mono (λc aa=>jK k c hk aa) λc _ h=>h) jL λc aa oO=>mW c aa (jK k c hk oO);obtain ⟨ec,oa⟩:=E3 (get:=λj=>vs[j]?) ao aS jK hk dy o hu kM λc=>by
     constructor
     ·intro h;rcases (fW c).1 h with h1 | h1
      ·exact .inl h1
      ·exact .inr ⟨h,λ⟨af,aI⟩=>aI (mW c h1 af)⟩
     ·rintro (h1 | ⟨h1,_⟩)
      ·exact (fW c).2 (.inl h1)
      ·exact h1
    rw [zz];refine ⟨_,.bW (Fs:=λj=>if j=k then bM else Fs j) (by simpa using ak) ec oa (λc=>Iff.rfl),λc=>?_⟩;have hu:=E4 hk aS dy fW c;simp only [List.length_set];rw [hu,aN c]
   | ref J _ _=>cases x <;> simp [ab.isRef,ab.kids] at J ho
   | _=>simp [ab.kids] at ho
end Go.Own
namespace Go.Own
open Go
abbrev aM:=Nat->Option ab
def bD (g:aM) (p:Place):Option ab :=
 match g p.root with
 | some x=>x.at p.path
 | none=>none
def dW (w:World) (T:Array Value) (p:Place):Option Value :=
 match T[p.root]? with
 | some v=>walk w v p.path
 | none=>none
def addrOf:Value->Option Addr
 | .slice (some a) _ _=>some a
 | .pointer (some a)=>some a
 | _=>none
def fC (w:World) (T:Array Value):ab->Value->Prop
 | .ptr p k,v=>∃ u a,dW w T p=some u/\addrOf u=some a/\v=.pointer (some ⟨a.block,a.off+k,none⟩)
 | .a6 _ p n,v=>∃ a N cap,dW w T p=some (.slice a N cap)/\v=.slice a n cap/\n<=N
 | .sub z p lo n,v=>∃ a N cap b' mP,dW w T p=some (.slice a N cap)/\v=.slice b' n mP/\n<=mP/\lo+n<=N/\(0<n->∃ ad,a=some ad/\b'=some ⟨ad.block,ad.off+lo * z,none⟩)
 | .bL _ p n _ _,v=>∃ a cap,dW w T p=some (.slice a n cap)/\v=.slice a n cap
 | .gz p,v=>∃ b,dW w T p=some (.map b)/\v=.map b
 | _,_=>False
def gD (g:aM):ab->Prop
 | .ptr p k=>∃ y,bD g p=some y/\(∃ z n cs,(y=.own z n cs\/y=.obj cs)/\k<cs.length)
 | .a6 z p n=>(∃ N cs,bD g p=some (.own z N cs)/\n<=N)\/(p.path=[]/\∃ q gY m new,g p.root=some (.bL z q gY m new)/\n=gY+m)
 | .sub z p lo n=>∃ N cs,bD g p=some (.own z N cs)/\lo+n<=N
 | .bL z p n _ _=>(∃ cs,bD g p=some (.own z n cs))\/(p.path=[]/\∃ q gY m new cs,g p.root=some (.bL z q gY m new)/\n=gY+m/\bD g q=some (.own z gY cs))
 | .gz p=>∃ q,bD g p=some (.mp q)
 | _=>False
def dT (w:World) (T:Array Value) (g:aM) (r:ab) (v:Value):Prop:=fC w T r v/\gD g r
structure GG (w:World) (I:bb) (ρ:ab->Value->Prop) (z:Nat) (p:Place) (n m:Nat) (new:List ab) (v:Value) (F:bb) (bv:Value) (e cf:TypeId) (us news:List Value):Prop where
 jW:ρ (.bL z p n 0 []) bv
 lb:w.ownsRow 0 e z bv n us
 nJ:w.ownsRow 0 cf z v (n+m) (us++news)
 ak:new.length=news.length
 h1:∀ (k:Nat) (u:Value),news[k]?=some u->u.oneCell'=true
 ao:∀ (k:Nat) (x:ab) (u:Value),new[k]?=some x->news[k]?=some u->R w I ρ x u (λ_=>False)
 aN:∀ c,F c↔v.ownBlock=some c/\bv.ownBlock≠some c
inductive jD (w:World) (I:bb) (ρ:ab->Value->Prop):ab->Value->bb->Prop
 | tree {x:ab}{v:Value}{F:bb}(h:R w I ρ x v F):jD w I ρ x v F
 | bL {z n m:Nat}{p:Place}{new:List ab}{v bv:Value}{e cf:TypeId}{us news:List Value}{F:bb}(h:GG w I ρ z p n m new v F bv e cf us news):jD w I ρ (.bL z p n m new) v F
theorem R.lh {w:World}{I:bb}{ρ:ab->Value->Prop}{z n m:Nat}{p:Place}{new:List ab}{v:Value}{F:bb}(h:R w I ρ (.bL z p n m new) v F):False:=by
 cases h with
 | ref J=>simp [ab.isRef] at J
theorem jD.gI {w:World}{I:bb}{ρ:ab->Value->Prop}{x:ab}{v:Value}{F:bb}(h:jD w I ρ x v F) (J:∀ z p n m new,x≠.bL z p n m new):R w I ρ x v F:=by
 cases h with
 | tree h=>exact h
 | bL=>exact absurd rfl (J _ _ _ _ _)
theorem jD.vy {w:World}{I:bb}{ρ:ab->Value->Prop}{z n m:Nat}{p:Place}{new:List ab}{v:Value}{F:bb}(h:jD w I ρ (.bL z p n m new) v F):∃ bv e cf us news,GG w I ρ z p n m new v F bv e cf us news:=by
 cases h with
 | tree h=>exact h.lh.elim
 | bL h=>exact ⟨_,_,_,_,_,h⟩
theorem jD.lt {w:World}{I:bb}{ρ:ab->Value->Prop}{x:ab}{v:Value}{F:bb}(h:jD w I ρ x v F):∀ c,F c->c<w.heap.size:=by
 cases h with
 | tree h=>exact h.lt
 | bL h=>exact λc aa=>(h.nJ.lt c ((h.aN c).1 aa).1).2
theorem jD.frame {w w':World}{I I':bb}{ρ ρ':ab->Value->Prop}{x:ab}{v:Value}{F:bb}(h:jD w I ρ x v F)
  (bf:∀ c,I c->w'.heap[c]?=w.heap[c]?) (pt:∀ c,I c->I' c) (lN:∀ x v,ρ x v->ρ' x v)
  (cx:∀ z p n bv,ρ (.bL z p n 0 []) bv->∀ c,bv.ownBlock=some c->w'.heap[c]?=w.heap[c]?)
  (aW:∀ c,F c->w'.heap[c]?=w.heap[c]?):jD w' I' ρ' x v F:=by
 cases h with
 | tree h=>exact .tree (h.frame bf pt lN aW)
 | @bL z n m p new v bv e cf us news F h =>
  have av:=cx _ _ _ _ h.jW;refine .bL ⟨lN _ _ h.jW,vH h.lb av,vH h.nJ λc aa=>?_,h.ak,h.h1,λk x u J hu=>(h.ao k x u J hu).frame bf pt lN λc aa=>aa.elim,h.aN⟩;by_cases ra:bv.ownBlock=some c
  ·exact av c ra
  ·exact aW c ((h.aN c).2 ⟨aa,ra⟩)
theorem ab.sx {z n m:Nat}{p:Place}{new:List ab}{q:List Nat}{y:ab}(h:(ab.bL z p n m new).at q=some y):q=[]/\y=.bL z p n m new:=by
 cases q with
 | nil=>simp [ab.at] at h; exact ⟨rfl,h.symm⟩
 | cons k q=>simp [ab.at,ab.kids] at h
structure cF (w:World) (I:bb) (T:Array Value) (g:aM) (Fs:Nat->bb):Prop where
 rel:∀ t x,g t=some x->∃ v,T[t]?=some v/\jD w I (dT w T g) x v (Fs t)
 kU:∀ t,g t=none->∀ c,¬ Fs t c
 eJ:∀ t t' c,Fs t c->Fs t' c->t=t'
 bj:∀ t c,Fs t c->¬ I c
 lt:∀ c,I c->c<w.heap.size
 rq:∀ t t' z p n m new bE cE m' c3,g t=some (.bL z p n m new)->g t'=some (.bL bE p cE m' c3)->t=t'
section
variable {w:World}{I:bb}{T:Array Value}{g:aM}{Fs:Nat->bb}
theorem cF.part (h:cF w I T g Fs) {p:Place}{y:ab}(au:bD g p=some y) (ax:∀ z q n m new,y≠.bL z q n m new):∃ v cB,dW w T p=some v/\R w I (dT w T g) y v cB/\(∀ c,cB c->Fs p.root c):=by
 unfold bD at au;cases J:g p.root with
 | none=>rw [J] at au; cases au
 | some x =>
  rw [J] at au;obtain ⟨v,hv,aZ⟩:=h.rel _ _ J;replace aZ:=aZ.gI (by
   rintro z q n m new rfl;exact ax _ _ _ _ _ (ab.sx au).2)
  obtain ⟨h0,cB,hw,dI,dy,_⟩:=R.focus p.path aZ au;exact ⟨h0,cB,by simp [dW,hv,hw],dI,dy⟩
theorem R.qE {ρ:ab->Value->Prop}{z n:Nat}{cs:List ab}{v:Value}{F:bb}(h:R w I ρ (.own z n cs) v F):∀ c,v.ownBlock=some c->F c:=by
 cases h with
 | own a1 ak h1 ao aS av aN=>exact λc aa=>(aN c).2 (.inl aa)
 | ref J=>simp [ab.isRef] at J
theorem R.nk {ρ:ab->Value->Prop}{z n:Nat}{cs:List ab}{v:Value}{F:bb}(h:R w I ρ (.own z n cs) v F) :
  ∃ a cap,v=.slice a n cap/\n<=cap/\cs.length=n * z/\(∀ ad,a=some ad->ad.off=0/\ad.spot=none)/\(0<n->a.isSome=true):=by
 cases h with
 | own a1 ak h1 ao aS av aN =>
  obtain ⟨h1,af⟩:=a1;rcases af with ⟨rfl,rfl⟩ | ⟨b,cap,cur,rfl,_,_,aF,_⟩
  ·exact ⟨none,0,rfl,Nat.le_refl _,by simp [ak,h1],by simp,by simp⟩
  ·exact ⟨_,cap,rfl,aF,by simp [ak,h1],by rintro ad ⟨⟩; exact ⟨rfl,rfl⟩,by simp⟩
 | ref J=>simp [ab.isRef] at J
theorem cF.yq (h:cF w I T g Fs) {w':World}{T':Array Value}(dL:∀ t,g t≠none->T'[t]?=T[t]?) (aN:∀ t c,Fs t c->w'.heap[c]?=w.heap[c]?) {p:Place}{y:ab}(au:bD g p=some y) :
  dW w' T' p=dW w T p:=by
 unfold bD at au;cases J:g p.root with
 | none=>rw [J] at au; cases au
 | some x =>
  rw [J] at au;obtain ⟨v,hv,aZ⟩:=h.rel _ _ J;have iu:T'[p.root]?=some v:=by rw [dL _ (by rw [J]; simp),hv]
  cases aZ with
  | tree aZ =>
   have:=R.pY (w':=w') p.path aZ au λc aa=>aN _ c aa;simp [dW,hv,iu,this]
  | bL aZ=>simp [dW,hv,iu,(ab.sx au).1,walk]
theorem kG {g g':aM}(aO:∀ t x,g t=some x->g' t=some x) {p:Place}{y:ab}(au:bD g p=some y):bD g' p=some y:=by
 unfold bD at *;cases J:g p.root with
 | none=>rw [J] at au; cases au
 | some x=>rw [J] at au; rw [aO _ _ J]; exact au
theorem gD.mono {g g':aM}(aO:∀ t x,g t=some x->g' t=some x) {r:ab}(h:gD g r):gD g' r:=by
 cases r <;> simp only [gD] at h ⊢
 case ptr p k=>obtain ⟨y,ax,h⟩:=h; exact ⟨y,kG aO ax,h⟩
 case a6 z p n =>
  rcases h with ⟨N,cs,h1,af⟩ | ⟨aR,q,gY,m,new,h1,af⟩
  ·exact .inl ⟨N,cs,kG aO h1,af⟩
  ·exact .inr ⟨aR,q,gY,m,new,aO _ _ h1,af⟩
 case sub z p lo n=>obtain ⟨N,cs,h1,af⟩:=h; exact ⟨N,cs,kG aO h1,af⟩
 case bL z p n m new =>
  rcases h with ⟨cs,h1⟩ | ⟨aR,q,gY,m',c3,cs,h1,af,aI⟩
  ·exact .inl ⟨cs,kG aO h1⟩
  ·exact .inr ⟨aR,q,gY,m',c3,cs,aO _ _ h1,af,kG aO aI⟩
 case gz p=>obtain ⟨q,h⟩:=h; exact ⟨q,kG aO h⟩
theorem cF.FI (h:cF w I T g Fs) {w':World}{T':Array Value}{g':aM}(dL:∀ t,g t≠none->T'[t]?=T[t]?) (aN:∀ t c,Fs t c->w'.heap[c]?=w.heap[c]?)
  (aO:∀ t x,g t=some x->g' t=some x) {r:ab}{v:Value}(ao:dT w T g r v):dT w' T' g' r v:=by
 obtain ⟨h1,af⟩:=ao;refine ⟨?_,af.mono aO⟩;have slot:∀ {p:Place}{x:ab},p.path=[]->g p.root=some x->dW w' T' p=dW w T p:=by
  intro p x au J;obtain ⟨v,hv,_⟩:=h.rel _ _ J;simp [dW,au,walk,dL p.root (by rw [J]; simp)]
 cases r <;> simp only [fC,gD] at h1 af ⊢
 case ptr p k =>
  obtain ⟨y,ax,_⟩:=af;rw [h.yq dL aN ax]; exact h1
 case a6 z p n =>
  rcases af with ⟨N,cs,af,_⟩ | ⟨aR,q,gY,m,new,af,_⟩
  ·rw [h.yq dL aN af]; exact h1
  ·rw [slot aR af]; exact h1
 case sub z p lo n =>
  obtain ⟨N,cs,af,_⟩:=af;rw [h.yq dL aN af]; exact h1
 case bL z p n m new =>
  rcases af with ⟨cs,af⟩ | ⟨aR,q,gY,m',c3,cs,af,_⟩
  ·rw [h.yq dL aN af]; exact h1
  ·rw [slot aR af]; exact h1
 case gz p =>
  obtain ⟨q,af⟩:=af;rw [h.yq dL aN af]; exact h1
theorem cF.D4 (h:cF w I T g Fs) {z n:Nat}{p:Place}{bv:Value}(ao:dT w T g (.bL z p n 0 []) bv):∀ c,bv.ownBlock=some c->∃ t,Fs t c:=by
 obtain ⟨⟨a,cap,h1,rfl⟩,af⟩:=ao;intro c aa;have own:∀ {q:Place}{gY:Nat}{cs:List ab}{v:Value},bD g q=some (.own z gY cs)->dW w T q=some v->v.ownBlock=some c->∃ t,Fs t c:=by
  intro q gY cs v bg hv aa;obtain ⟨gx,cB,iu,aZ,dy⟩:=h.part bg (by simp);rw [hv] at iu;cases iu;exact ⟨_,dy c (aZ.qE c aa)⟩
 rcases af with ⟨cs,af⟩ | ⟨aR,q,gY,m,new,cs,af,rfl,aI⟩
 ·exact own af h1 aa
 ·obtain ⟨v,hv,aZ⟩:=h.rel _ _ af;have xj:v=.slice a (gY+m) cap:=by
   simp only [dW,hv,aR,walk,Option.some.injEq] at h1;exact h1
  obtain ⟨LP,e,cf,us,news,aZ⟩:=aZ.vy;by_cases gG:LP.ownBlock=some c
  ·obtain ⟨⟨a2,rQ,bK,rfl⟩,_⟩:=aZ.jW;exact own aI bK gG
  ·exact ⟨_,(aZ.aN c).2 ⟨by rw [xj]; exact aa,gG⟩⟩
theorem cF.frame (h:cF w I T g Fs) {w':World}{I':bb}{T':Array Value}{g':aM}(dL:∀ t,g t≠none->T'[t]?=T[t]?) (aN:∀ t c,Fs t c->w'.heap[c]?=w.heap[c]?)
  (bf:∀ c,I c->w'.heap[c]?=w.heap[c]?) (pt:∀ c,I c->I' c) (aO:∀ t x,g t=some x->g' t=some x) {x:ab}{v:Value}{F:bb}(aZ:R w I (dT w T g) x v F)
  (mu:∀ c,F c->w'.heap[c]?=w.heap[c]?):R w' I' (dT w' T' g') x v F :=
 aZ.frame bf pt (λ_ _ ao=>h.FI dL aN aO ao) mu
theorem cF.wV (h:cF w I T g Fs) {w':World}{I':bb}{T':Array Value}{g':aM}(dL:∀ t,g t≠none->T'[t]?=T[t]?) (aN:∀ t c,Fs t c->w'.heap[c]?=w.heap[c]?)
  (bf:∀ c,I c->w'.heap[c]?=w.heap[c]?) (pt:∀ c,I c->I' c) (aO:∀ t x,g t=some x->g' t=some x) {x:ab}{v:Value}{F:bb}(aZ:jD w I (dT w T g) x v F)
  (mu:∀ c,F c->w'.heap[c]?=w.heap[c]?):jD w' I' (dT w' T' g') x v F :=
 aZ.frame bf pt (λ_ _ ao=>h.FI dL aN aO ao) (λ_ _ _ _ ao c aa=>by obtain ⟨t,aw⟩:=h.D4 ao c aa; exact aN t c aw) mu
def cV (g:aM) (d:Nat) (x:ab):aM:=λt=>if t=d then some x else g t
def uI (Fs:Nat->bb) (d:Nat) (F:bb):Nat->bb:=λt=>if t=d then F else Fs t
theorem Ql {d:Nat}{x:ab}(aS:g d=none):∀ t y,g t=some y->cV g d x t=some y:=by
 intro t y ax;unfold cV;split
 ·rename_i h; subst h; rw [aS] at ax; cases ax
 ·exact ax
end
end Go.Own
namespace Go.Own
open Go
theorem Qq (w:World):∀ (p:List Nat) (v:Value) (k:Nat),walk w v (p++[k])=(walk w v p).bind λu=>child w u k
 | [],v,k=>by simp [walk]; cases child w v k <;> rfl
 | j::p,v,k=>by
  simp only [List.cons_append,walk];cases child w v j with
  | none=>rfl
  | some u=>exact Qq w p u k
theorem LL:∀ (p:List Nat) (x:ab) (k:Nat),x.at (p++[k])=(x.at p).bind λy=>y.kids[k]?
 | [],x,k=>by simp [ab.at]; cases x.kids[k]? <;> rfl
 | j::p,x,k=>by
  simp only [List.cons_append,ab.at];cases x.kids[j]? with
  | none=>rfl
  | some u=>exact LL p u k
theorem tu (g:aM) (p:Place) (k:Nat):bD g (p.push k)=(bD g p).bind λy=>y.kids[k]?:=by
 unfold bD Place.push;cases g p.root with
 | none=>rfl
 | some x=>simp [LL]
theorem yp (w:World) (T:Array Value) (p:Place) (k:Nat):dW w T (p.push k)=(dW w T p).bind λu=>child w u k:=by
 unfold dW Place.push;cases T[p.root]? with
 | none=>rfl
 | some x=>simp [Qq]
def gv:Nat->Place->ab->ab
 | _,p,.own z n _=>.a6 z p n
 | _,p,.obj (_::_)=>.ptr p 0
 | _,_,.obj []=>.dead
 | _,_,.bL ..=>.dead
 | _,p,.mp _=>.gz p
 | d+1,p,.agg cs=>.agg (cs.mapIdx λi x=>gv d (p.push i) x)
 | d+1,p,.bW cs=>.bW (cs.mapIdx λi x=>gv d (p.push i) x)
 | 0,_,.agg _=>.dead
 | 0,_,.bW _=>.dead
 | _,_,x=>x
def ru (t:Nat):ab->ab
 | .bL z _ n m _=>.a6 z ⟨t,[]⟩ (n+m)
 | x=>gv 2 ⟨t,[]⟩ x
def lQ:Value->ab
 | .slice none 0 0=>.aJ
 | .agg _=>.dead
 | .tuple _=>.dead
 | v=>.lit v
def ofConst:Value->ab
 | .agg vs=>if vs.all Value.oneCell' then .agg (vs.toList.map lQ) else .dead
 | .tuple _=>.dead
 | v=>lQ v
def bs (g:aM):Operand->Option ab
 | .tmp t=>(g t).map (ru t)
 | .const v=>some (ofConst v)
 | .func f=>some (.cW (.func f) [] [])
 | .global _=>none
abbrev cy:bb:=λ_=>False
section
variable {w:World}{I:bb}{T:Array Value}{g:aM}{Fs:Nat->bb}
theorem R.empty {ρ:ab->Value->Prop}{x:ab}{v:Value}{F:bb}(h:R w I ρ x v F) (aN:∀ c,¬ F c):R w I ρ x v cy:=h.y_ λc=>⟨λaa=>aN c aa,λaa=>aa.elim⟩
theorem FH:∀ (d:Nat) {p:Place}{x:ab}{v:Value}{F:bb},bD g p=some x->dW w T p=some v->R w I (dT w T g) x v F->R w I (dT w T g) (gv d p x) v cy:=by
 intro d
 induction d with
 | zero =>
  intro p x v F au hv aZ;cases aZ with
  | lit ak aN=>exact .lit ak λ_ h=>h
  | aJ aN=>exact .aJ λ_ h=>h
  | dead aN=>exact .dead λ_ h=>h
  | ref J ao aN=>cases x <;> simp [ab.isRef] at J <;> exact .ref rfl ao λ_ h=>h
  | mp=>exact .ref rfl ⟨⟨_,hv,rfl⟩,⟨_,au⟩⟩ λ_ h=>h
  | imp aN bf a1 bg=>exact .imp (λ_ h=>h) bf a1 bg
  | hG aN=>exact .hG λ_ h=>h
  | bj aN k9 bf aC ak h1 aa ao=>exact .bj (λ_ h=>h) k9 bf aC ak h1 aa ao
  | cH aN bf aC h1 aa ao=>exact .cH (λ_ h=>h) bf aC h1 aa ao
  | own a1 ak h1 ao aS av aN =>
   have IJ:=R.own (I:=I) (ρ:=dT w T g) a1 ak h1 ao aS av aN;obtain ⟨a,cap,rfl,aF,_⟩:=IJ.nk;exact .ref rfl ⟨⟨a,_,cap,hv,rfl,Nat.le_refl _⟩,.inl ⟨_,_,au,Nat.le_refl _⟩⟩ λ_ h=>h
  | @obj cs b e arr b7 _ a1 ak h1 ao aS av aN =>
   cases cs with
   | nil=>exact .dead λ_ h=>h
   | cons c cs=>exact .ref rfl ⟨⟨_,_,hv,rfl,rfl⟩,⟨_,au,0,0,_,.inr rfl,by simp⟩⟩ λ_ h=>h
  | agg=>exact .dead λ_ h=>h
  | bW=>exact .dead λ_ h=>h
  | cW aN h1 af kt iN=>exact .cW (λ_ h=>h) h1 af kt iN
 | succ d aU =>
  intro p x v F au hv aZ;cases aZ with
  | lit ak aN=>exact .lit ak λ_ h=>h
  | aJ aN=>exact .aJ λ_ h=>h
  | dead aN=>exact .dead λ_ h=>h
  | ref J ao aN=>cases x <;> simp [ab.isRef] at J <;> exact .ref rfl ao λ_ h=>h
  | mp=>exact .ref rfl ⟨⟨_,hv,rfl⟩,⟨_,au⟩⟩ λ_ h=>h
  | imp aN bf a1 bg=>exact .imp (λ_ h=>h) bf a1 bg
  | hG aN=>exact .hG λ_ h=>h
  | bj aN k9 bf aC ak h1 aa ao=>exact .bj (λ_ h=>h) k9 bf aC ak h1 aa ao
  | cH aN bf aC h1 aa ao=>exact .cH (λ_ h=>h) bf aC h1 aa ao
  | own a1 ak h1 ao aS av aN =>
   have IJ:=R.own (I:=I) (ρ:=dT w T g) a1 ak h1 ao aS av aN;obtain ⟨a,cap,rfl,aF,_⟩:=IJ.nk;exact .ref rfl ⟨⟨a,_,cap,hv,rfl,Nat.le_refl _⟩,.inl ⟨_,_,au,Nat.le_refl _⟩⟩ λ_ h=>h
  | @obj cs b e arr b7 _ a1 ak h1 ao aS av aN =>
   cases cs with
   | nil=>exact .dead λ_ h=>h
   | cons c cs=>exact .ref rfl ⟨⟨_,_,hv,rfl,rfl⟩,⟨_,au,0,0,_,.inr rfl,by simp⟩⟩ λ_ h=>h
  | @agg cs vs b7 _ ak h1 ao aS aN =>
   refine .agg (Fs:=λ_=>cy) (by simpa using ak) h1 ?_ (λ_ _ _ _ _ h=>h.elim) (λc=>⟨λh=>h.elim,λ⟨_,_,h⟩=>h⟩);intro k y u ax hu;rw [List.getElem?_mapIdx] at ax;cases hk:cs[k]? with
   | none=>rw [hk] at ax; cases ax
   | some z =>
    rw [hk] at ax;cases ax;exact aU (by rw [tu,au]; exact hk) (by rw [yp,hv]; exact hu) (ao k z u hk hu)
  | @bW cs vs b7 _ ak ao aS aN =>
   refine .bW (Fs:=λ_=>cy) (by simpa using ak) ?_ (λ_ _ _ _ _ h=>h.elim) (λc=>⟨λh=>h.elim,λ⟨_,_,h⟩=>h⟩);intro k y u ax hu;rw [List.getElem?_mapIdx] at ax;cases hk:cs[k]? with
   | none=>rw [hk] at ax; cases ax
   | some z =>
    rw [hk] at ax;cases ax;exact aU (by rw [tu,au]; exact hk) (by rw [yp,hv]; exact hu) (ao k z u hk hu)
  | cW aN h1 af kt iN=>exact .cW (λ_ h=>h) h1 af kt iN
theorem CD {ρ:ab->Value->Prop}(v:Value):R w I ρ (lQ v) v cy:=by
 unfold lQ;split
 ·exact .aJ λ_ h=>h
 ·exact .dead λ_ h=>h
 ·exact .dead λ_ h=>h
 ·rename_i h1 af aI;refine .lit ?_ λ_ h=>h;cases v <;> first | rfl | (exact absurd rfl (af _)) | (exact absurd rfl (aI _))
theorem Xg {ρ:ab->Value->Prop}(v:Value):R w I ρ (ofConst v) v cy:=by
 unfold ofConst;split
 ·rename_i vs;split
  ·rename_i hN;refine .agg (Fs:=λ_=>cy) (by simp) (λk u hu=>?_) ?_ (λ_ _ _ _ _ h=>h.elim) (λc=>⟨λh=>h.elim,λ⟨_,_,h⟩=>h⟩)
   ·exact Array.all_eq_true_iff_forall_mem.1 hN u (Array.mem_of_getElem? hu)
   ·intro k x u J hu;simp only [List.getElem?_map,Array.getElem?_toList,hu,Option.map_some,Option.some.injEq] at J;subst J;exact CD u
  ·exact .dead λ_ h=>h
 ·exact .dead λ_ h=>h
 ·exact CD v
theorem ke (h:cF w I T g Fs) {x:Operand}{y:ab}(ax:bs g x=some y) {a:Act}(aP:a.tmps=T):R w I (dT w T g) y (a.eval x) cy:=by
 cases x with
 | tmp t =>
  simp only [bs] at ax;cases J:g t with
  | none=>rw [J] at ax; cases ax
  | some z =>
   rw [J] at ax;simp only [Option.map_some,Option.some.injEq] at ax;obtain ⟨v,hv,aZ⟩:=h.rel t z J;have tT:a.eval (.tmp t)=v:=by simp [Act.eval,aP,hv]
   rw [tT];have au:bD g ⟨t,[]⟩=some z:=by simp [bD,J,ab.at]
   have zB:dW w T ⟨t,[]⟩=some v:=by simp [dW,hv,walk]
   subst ax;cases aZ with
   | tree aZ =>
    cases z with
    | bL=>exact aZ.lh.elim
    | _=>exact FH 2 au zB aZ
   | @bL j3 n m p new v bv e cf us news _ aZ =>
    simp only [ru];have:∃ a cap,v=.slice a (n+m) cap:=by
     obtain ⟨_,af⟩:=aZ.nJ;rcases af with ⟨af,aI⟩ | ⟨b,cap,cur,af,_⟩
     ·exact ⟨none,0,by rw [af]; congr 1; omega⟩
     ·exact ⟨_,cap,af⟩
    obtain ⟨b',cap,rfl⟩:=this;exact .ref rfl ⟨⟨b',_,cap,zB,rfl,Nat.le_refl _⟩,.inr ⟨rfl,p,n,m,new,J,rfl⟩⟩ λ_ h=>h
 | const v=>simp only [bs,Option.some.injEq] at ax; subst ax; exact Xg v
 | global n=>simp [bs] at ax
 | func f =>
  simp only [bs,Option.some.injEq] at ax;subst ax;exact .cW (λ_ h=>h) rfl rfl (by simp) (by simp)
end
end Go.Own
namespace Go.Own
open Go
def jq (P:Program) (t:TypeId):Bool :=
 match P.underlying t,P.info? t with
 | some (.struct _),_=>false
 | some (.array ..),_=>false
 | some _,some i=>i.size == 1
 | _,_=>false
def ik (P:Program) (t:TypeId) (k:Nat):Bool :=
 match P.underlying t,P.info? t with
 | some (.struct _),some i=>i.size == k
 | some (.array ..),some i=>i.size == k
 | _,_=>false
def fr (P:Program) (t e:TypeId) (z:Nat):Bool :=
 match P.underlying t,P.info? e with
 | some (.slice cj),some i=>cj == e&&i.size == z
 | _,_=>false
def yZ (P:Program) (t e:TypeId) (n z:Nat):Bool :=
 match P.underlying t,P.info? e with
 | some (.array cE cj),some i=>cE == n&&cj == e&&i.size == z
 | _,_=>false
def oZ (P:Program) (t:TypeId):Bool :=
 match P.underlying t with
 | some .string=>true
 | _=>false
def wH (P:Program) (s d:TypeId):Bool :=
 match P.underlying s,P.underlying d with
 | some (.slice e),some .string=>match P.underlying e with
  | some (.int .u8)=>true
  | _=>false
 | _,_=>false
def hM (P:Program) (s:TypeId) (f off:Nat) (t:TypeId):Bool :=
 match P.underlying s with
 | some (.struct fs) =>
  match fs[f]? with
  | some fd=>fd.offset == off&&fd.type == t&&(match P.info? t with | some i=>i.size != 0 | none=>false)
  | none=>false
 | _=>false
section
variable {P:Program}{w:World}
theorem Hf {t:TypeId}(h:jq P t=true):(isAgg t).run P w=.ok false w/\(sizeOf t).run P w=.ok 1 w:=by
 unfold jq at h;cases hu:P.underlying t with
 | none=>simp [hu] at h
 | some d =>
  cases hi:P.info? t with
  | none=>cases d <;> simp [hu,hi] at h
  | some i=>cases d <;> simp [hu,hi] at h <;> simp [isAgg,run_underlying hu,sizeOf,typeInfo,hi,h]
theorem DZ {t:TypeId}{k:Nat}(h:ik P t k=true):(isAgg t).run P w=.ok true w/\(sizeOf t).run P w=.ok k w:=by
 unfold ik at h;cases hu:P.underlying t with
 | none=>simp [hu] at h
 | some d =>
  cases hi:P.info? t with
  | none=>cases d <;> simp [hu,hi] at h
  | some i=>cases d <;> simp [hu,hi] at h <;> simp [isAgg,run_underlying hu,sizeOf,typeInfo,hi,h]
theorem qN {t e:TypeId}{z:Nat}(h:fr P t e z=true):P.underlying t=some (.slice e)/\P.elem t=e/\(sizeOf e).run P w=.ok z w:=by
 unfold fr at h;cases hu:P.underlying t with
 | none=>simp [hu] at h
 | some d =>
  cases hi:P.info? e with
  | none=>cases d <;> simp [hu,hi] at h
  | some i =>
   cases d <;> simp [hu,hi] at h;obtain ⟨rfl,h⟩:=h;exact ⟨rfl,by simp [Program.elem,hu],by simp [sizeOf,typeInfo,hi,h]⟩
theorem LF {t e:TypeId}{n z:Nat}(h:yZ P t e n z=true):P.underlying t=some (.array n e)/\(sizeOf e).run P w=.ok z w:=by
 unfold yZ at h;cases hu:P.underlying t with
 | none=>simp [hu] at h
 | some d =>
  cases hi:P.info? e with
  | none=>cases d <;> simp [hu,hi] at h
  | some i =>
   cases d <;> simp [hu,hi] at h;obtain ⟨⟨rfl,rfl⟩,h⟩:=h;exact ⟨rfl,by simp [sizeOf,typeInfo,hi,h]⟩
theorem LR {s d:TypeId}(h:wH P s d=true):∃ e,P.underlying s=some (.slice e)/\P.underlying e=some (.int .u8)/\P.underlying d=some .string:=by
 unfold wH at h
 split at h
 ·rename_i e h1 af
  split at h
  ·rename_i aI;exact ⟨e,h1,aI,af⟩
  ·cases h
 ·cases h
theorem KA {t:TypeId}(h:oZ P t=true):P.underlying t=some .string:=by
 unfold oZ at h;cases hu:P.underlying t with
 | none=>simp [hu] at h
 | some d=>cases d <;> simp [hu] at h; rfl
theorem Hv {s:TypeId}{f off:Nat}{t:TypeId}(h:hM P s f off t=true):∃ fs fd,P.underlying s=some (.struct fs)/\fs[f]?=some fd/\fd.offset=off/\fd.type=t/\∃ i,P.info? t=some i/\i.size≠0:=by
 unfold hM at h;cases hu:P.underlying s with
 | none=>simp [hu] at h
 | some d =>
  cases d <;> simp [hu] at h;rename_i fs;cases aW:fs[f]? with
  | none=>simp [aW] at h
  | some fd =>
   simp [aW] at h;obtain ⟨⟨h1,af⟩,aI⟩:=h;cases hi:P.info? t with
   | none=>simp [hi] at aI
   | some i=>simp [hi] at aI; exact ⟨fs,fd,rfl,aW,h1,af,i,rfl,aI⟩
theorem add_eq (b o k:Nat):(⟨b,o,none⟩:Addr).add k=⟨b,o+k,none⟩:=by
 unfold Addr.add;split
 ·rename_i h; subst h; rfl
 ·rfl
theorem PD {s:TypeId}{f off:Nat}{t:TypeId}(h:hM P s f off t=true) (b o:Nat):(Instr.fieldAt s (.pointer (some ⟨b,o,none⟩)) f).run P w=.ok (.pointer (some ⟨b,o+off,none⟩)) w:=by
 obtain ⟨fs,fd,hu,aW,rfl,rfl,i,hi,aR⟩:=Hv h;simp [Instr.fieldAt,run_underlying hu,aW,Instr.sureAddr,fieldPlace,sizeOf,typeInfo,hi,aR,add_eq]
theorem PF {t:TypeId}(h:jq P t=true) {a:Addr}{v:Value}(aa:w.cell? a=some v):(Instr.loadAt t (.pointer (some a))).run P w=.ok v w:=by
 obtain ⟨h1,af⟩:=Hf (w:=w) h;simp [Instr.loadAt,Instr.sureAddr,loadVar,h1,aa]
theorem PE {t:TypeId}{k:Nat}(h:ik P t k=true) {b o:Nat}{vs:List Value}(ak:vs.length=k) (aa:∀ j v,vs[j]?=some v->w.cell? ⟨b,o+j,none⟩=some v) :
  (Instr.loadAt t (.pointer (some ⟨b,o,none⟩))).run P w=.ok (.agg vs.toArray) w:=by
 obtain ⟨h1,af⟩:=DZ (w:=w) h;have:=run_loadCells_list (P:=P) w ⟨b,o,none⟩ vs (λj v ah=>by rw [add_eq]; exact aa j v ah);rw [ak] at this;simp [Instr.loadAt,Instr.sureAddr,loadVar,h1,af,this]
end
end Go.Own
namespace Go.Own
open Go
section
variable {w:World}{I:bb}{ρ:ab->Value->Prop}{v:Value}{F:bb}
theorem R.hB {a:Value}(h:R w I ρ (.lit a) v F):v=a/\a.oneCell'=true:=by
 cases h with
 | lit hv=>exact ⟨rfl,hv⟩
 | ref J=>simp [ab.isRef] at J
theorem R.se (h:R w I ρ .aJ v F):v=.slice none 0 0:=by
 cases h with
 | aJ=>rfl
 | ref J=>simp [ab.isRef] at J
theorem R.nP {p:Place}{k:Nat}(h:R w I ρ (.ptr p k) v F):ρ (.ptr p k) v:=by
 cases h with
 | ref J h=>exact h
theorem R.nc {z:Nat}{p:Place}{n:Nat}(h:R w I ρ (.a6 z p n) v F):ρ (.a6 z p n) v:=by
 cases h with
 | ref J h=>exact h
theorem R.xw {z:Nat}{p:Place}{lo n:Nat}(h:R w I ρ (.sub z p lo n) v F):ρ (.sub z p lo n) v:=by
 cases h with
 | ref J h=>exact h
theorem R.zG {z n:Nat}{cs:List ab}(h:R w I ρ (.bj z n cs) v F):∃ a cap,v=.slice a n cap/\n<=cap/\cs.length=n * z /\
  (cs≠[]\/0<n->∃ (ad:Addr) (us:Nat->Value),a=some ad/\I ad.block/\ad.spot=none/\(∀ (k:Nat) (x:ab),cs[k]?=some x->(us k).oneCell'=true)/\(∀ (k:Nat) (x:ab),cs[k]?=some x->w.cell? ⟨ad.block,ad.off+k,none⟩=some (us k))/\∀ (k:Nat) (x:ab),cs[k]?=some x->R w I ρ x (us k) cy):=by
 cases h with
 | @hG _ cap a=>exact ⟨a,cap,rfl,Nat.zero_le _,by simp,λh=>by simp at h⟩
 | @bj _ _ cap _ ad us _ aN k9 bf aC ak h1 aa ao=>exact ⟨_,cap,rfl,k9,ak,λ_=>⟨ad,us,rfl,bf,aC,h1,aa,ao⟩⟩
 | ref J=>simp [ab.isRef] at J
theorem R.xv {cs:List ab}(h:R w I ρ (.cH cs) v F):∃ (ad:Addr) (us:Nat->Value),v=.pointer (some ad)/\I ad.block/\ad.spot=none/\(∀ (k:Nat) (x:ab),cs[k]?=some x->(us k).oneCell'=true)/\(∀ (k:Nat) (x:ab),cs[k]?=some x->w.cell? ⟨ad.block,ad.off+k,none⟩=some (us k))/\∀ (k:Nat) (x:ab),cs[k]?=some x->R w I ρ x (us k) cy:=by
 cases h with
 | @cH _ ad us _ aN bf aC h1 aa ao=>exact ⟨ad,us,rfl,bf,aC,h1,aa,ao⟩
 | ref J=>simp [ab.isRef] at J
theorem R.Cf {cs:List ab}(h:R w I ρ (.agg cs) v F) (aN:∀ c,¬ F c):∃ vs:Array Value,v=.agg vs/\cs.length=vs.size/\(∀ (k:Nat) (u:Value),vs[k]?=some u->u.oneCell'=true)/\∀ (k:Nat) (x:ab) (u:Value),cs[k]?=some x->vs[k]?=some u->R w I ρ x u cy:=by
 cases h with
 | @agg _ vs Fs _ ak h1 ao aS po=>exact ⟨vs,rfl,ak,h1,λk x u J hu=>(ao k x u J hu).empty λc aa=>aN c ((po c).2 ⟨k,(List.getElem?_eq_some_iff.1 J).1,aa⟩)⟩
 | ref J=>simp [ab.isRef] at J
theorem R.WV {cs:List ab}(h:R w I ρ (.bW cs) v F) (aN:∀ c,¬ F c):∃ vs:Array Value,v=.tuple vs/\cs.length=vs.size/\∀ (k:Nat) (x:ab) (u:Value),cs[k]?=some x->vs[k]?=some u->R w I ρ x u cy:=by
 cases h with
 | @bW _ vs Fs _ ak ao aS po=>exact ⟨vs,rfl,ak,λk x u J hu=>(ao k x u J hu).empty λc aa=>aN c ((po c).2 ⟨k,(List.getElem?_eq_some_iff.1 J).1,aa⟩)⟩
 | ref J=>simp [ab.isRef] at J
theorem R.node {y:ab}{z n:Nat}{cs:List ab}(h:R w I ρ y v F) (ax:y=.own z n cs\/y=.obj cs) {k:Nat}{x:ab}(hk:cs[k]?=some x) :
  ∃ b u,addrOf v=some ⟨b,0,none⟩/\w.cell? ⟨b,k,none⟩=some u/\child w v k=some u/\u.oneCell'=true/\∃ bM,R w I ρ x u bM:=by
 rcases ax with rfl | rfl
 ·cases h with
  | @own _ _ _ _ e us Fs _ a1 ak h1 ao aS av aN =>
   have aT:k<cs.length:=(List.getElem?_eq_some_iff.1 hk).1;have hu:us[k]?=some us[k]:=List.getElem?_eq_getElem (ak ▸ aT);have n':=pQ a1 hu;obtain ⟨l9,af⟩:=a1;rcases af with ⟨rfl,rfl⟩ | ⟨b,cap,cur,rfl,aO,bY,rest⟩
   ·grind
   ·exact ⟨b,_,rfl,by simpa [child] using n',n',h1 k _ hu,Fs k,ao k x _ hk hu⟩
  | ref J=>simp [ab.isRef] at J
 ·cases h with
  | @obj _ b e arr Fs _ a1 ak h1 ao aS av aN =>
   have aT:k<cs.length:=(List.getElem?_eq_some_iff.1 hk).1;have hu:arr[k]?=some arr[k]:=Array.getElem?_eq_getElem (ak ▸ aT);exact ⟨b,_,rfl,by simp [World.cell?,a1,hu],by simp [child,World.cell?,a1,hu],h1 k _ hu,Fs k,ao k x _ hk hu⟩
  | ref J=>simp [ab.isRef] at J
end
def p3 (g:aM) (d:Nat):Option Operand->Nat->Prop
 | none,j=>j=d
 | some o,j=>∃ k,bs g o=some (.lit (.int k (j:Int)))
inductive c7 (P:Program) (g:aM):Op->TypeId->ab->Prop
 | move {x:Operand}{ty:TypeId}{y:ab}(J:bs g x=some y):c7 P g (.move x) ty y
 | assign {x:Operand}{ty:TypeId}{y:ab}(J:bs g x=some y):c7 P g (.assign x) ty y
 | pick {c a b:Operand}{ty:TypeId}{t:Bool}{r:ab}(aa:bs g c=some (.lit (.bool t))) (ao:bs g (if t then a else b)=some r):c7 P g (.pick c a b) ty r
 | Fg {x:Operand}{ty:TypeId}{p:Place}{k:Nat}(J:bs g x=some (.ptr p k)):c7 P g (.nilCheck x) ty (.ptr p k)
 | qD {x:Operand}{ty:TypeId}{cs:List ab}(J:bs g x=some (.cH cs)):c7 P g (.nilCheck x) ty (.cH cs)
 | Bn {x:Operand}{ty s t:TypeId}{f off:Nat}{p:Place}{k:Nat}(J:bs g x=some (.ptr p k)) (aW:hM P s f off t=true) (dd:gD g (.ptr p (k+off))):c7 P g (.fieldAddr s x f) ty (.ptr p (k+off))
 | Eh {x:Operand}{ty s t:TypeId}{f off:Nat}{cs:List ab}(J:bs g x=some (.cH cs)) (aW:hM P s f off t=true):c7 P g (.fieldAddr s x f) ty (.cH (cs.drop off))
 | Eg {x:Operand}{ty s t:TypeId}{f off:Nat}{cs:List ab}{y:ab}(J:bs g x=some (.agg cs)) (aW:hM P s f off t=true) (aw:jq P t=true) (ax:cs[off]?=some y):c7 P g (.field s x f) ty y
 | Ht {x:Operand}{ty s t:TypeId}{f off k:Nat}{cs:List ab}(J:bs g x=some (.agg cs)) (aW:hM P s f off t=true) (aw:ik P t k=true) (hk:off+k<=cs.length):c7 P g (.field s x f) ty (.agg ((cs.drop off).take k))
 | EV {x i:Operand}{ty t e:TypeId}{z n:Nat}{cs:List ab}{nR:IntKind}{j:Nat}(J:bs g x=some (.bj z n cs)) (hi:bs g i=some (.lit (.int nR (j:Int)))) (aw:fr P t e z=true) (ah:j<n):c7 P g (.indexAddr t x i) ty (.cH (cs.drop (j * z)))
 | EU {x i:Operand}{ty t e:TypeId}{z n:Nat}{p:Place}{nR:IntKind}{j:Nat}(J:bs g x=some (.a6 z p n)) (hi:bs g i=some (.lit (.int nR (j:Int)))) (aw:fr P t e z=true) (ah:j<n) (dd:gD g (.ptr p (j * z))):c7 P g (.indexAddr t x i) ty (.ptr p (j * z))
 | Ji {x i:Operand}{ty t e:TypeId}{z lo n:Nat}{p:Place}{nR:IntKind}{j:Nat}(J:bs g x=some (.sub z p lo n)) (hi:bs g i=some (.lit (.int nR (j:Int)))) (aw:fr P t e z=true) (ah:j<n) (dd:gD g (.ptr p ((lo+j) * z))):c7 P g (.indexAddr t x i) ty (.ptr p ((lo+j) * z))
 | ET {x i:Operand}{ty t e:TypeId}{n z k:Nat}{p:Place}{nR:IntKind}{j:Nat}(J:bs g x=some (.ptr p k)) (hi:bs g i=some (.lit (.int nR (j:Int)))) (aw:yZ P t e n z=true) (ah:j<n) (dd:gD g (.ptr p (k+j * z))):c7 P g (.indexAddr t x i) ty (.ptr p (k+j * z))
 | Jh {x i:Operand}{ty t e:TypeId}{n z:Nat}{cs:List ab}{nR:IntKind}{j:Nat}(J:bs g x=some (.cH cs)) (hi:bs g i=some (.lit (.int nR (j:Int)))) (aw:yZ P t e n z=true) (ah:j<n):c7 P g (.indexAddr t x i) ty (.cH (cs.drop (j * z)))
 | E9 {x:Operand}{ty t:TypeId}{c:ab}{cs:List ab}(J:bs g x=some (.cH (c::cs))) (aw:jq P t=true):c7 P g (.load t x) ty c
 | E_ {x:Operand}{ty t:TypeId}{k:Nat}{cs:List ab}(J:bs g x=some (.cH cs)) (aw:ik P t k=true) (hk:k<=cs.length):c7 P g (.load t x) ty (.agg (cs.take k))
 | Ct {x:Operand}{ty t:TypeId}{p:Place}{k:Nat}{y:ab}(J:bs g x=some (.ptr p k)) (aw:jq P t=true) (ax:bD g (p.push k)=some y):c7 P g (.load t x) ty (gv 0 (p.push k) y)
 | xH {x:Operand}{ty t:TypeId}{p:Place}{k m z n:Nat}{y:ab}{cs:List ab}(J:bs g x=some (.ptr p k)) (aw:ik P t m=true) (ax:bD g p=some y) (aa:y=.own z n cs\/y=.obj cs) (hm:k+m<=cs.length):c7 P g (.load t x) ty (.agg (((cs.drop k).take m).mapIdx λi x=>gv 0 (p.push (k+i)) x))
 | EW {x i:Operand}{ty t:TypeId}{s:ByteArray}{nR:IntKind}{j:Nat}{b:UInt8}(J:bs g x=some (.lit (.string s))) (hi:bs g i=some (.lit (.int nR (j:Int)))) (aw:oZ P t=true) (av:s[j]?=some b):c7 P g (.index t x i) ty (.lit (.int .u8 b.toNat))
 | bin {op:BinOp}{x y:Operand}{ty t t2:TypeId}{a b v:Value}(J:bs g x=some (.lit a)) (ax:bs g y=some (.lit b)) (hv:v.oneCell'=true) (ao:∀ w,(do eqGuard op t x y a b; binOp op t a b:Sem Value).run P w=.ok v w):c7 P g (.binOp op t x y t2) ty (.lit v)
 | A8 {op:BinOp}{x y:Operand}{ty t t2:TypeId}{az dg:List Value}{v:Value}(J:bs g x=some (.agg (az.map .lit))) (ax:bs g y=some (.agg (dg.map .lit))) (hv:v.oneCell'=true) (ao:∀ w,(do eqGuard op t x y (.agg az.toArray) (.agg dg.toArray); binOp op t (.agg az.toArray) (.agg dg.toArray):Sem Value).run P w=.ok v w):c7 P g (.binOp op t x y t2) ty (.lit v)
 | un {op:UnOp}{x:Operand}{ty t:TypeId}{a v:Value}(J:bs g x=some (.lit a)) (hv:v.oneCell'=true) (ao:∀ w,(Op.unary op a).run P w=.ok v w):c7 P g (.unOp op t x) ty (.lit v)
 | conv {x:Operand}{ty s d:TypeId}{a v:Value}(J:bs g x=some (.lit a)) (hv:v.oneCell'=true) (ao:∀ w,(convert s d a).run P w=.ok v w):c7 P g (.convert s d x) ty (.lit v)
 | D_ {x:Operand}{ty s d:TypeId}{n N:Nat}{p:Place}{cs:List ab}{xs:List Int}(J:bs g x=some (.a6 1 p n)) (au:bD g p=some (.own 1 N cs)) (aF:n<=N) (hF:cs.take n=xs.map λb=>.lit (.int .u8 b)) (aw:wH P s d=true):c7 P g (.convert s d x) ty (.lit (.string (strOfNums xs)))
 | D' {x:Operand}{ty s d:TypeId}{n:Nat}{xs:List Int}(J:bs g x=some (.bj 1 n (xs.map λb=>.lit (.int .u8 b)))) (aw:wH P s d=true):c7 P g (.convert s d x) ty (.lit (.string (strOfNums xs)))
 | Hq {xs:Array Operand}{gm:Array TypeId}{ty:TypeId}{f:FuncId}{vs:List Value}{v:Value}(J:xs.toList.map (bs g)=vs.map λv=>some (.lit v)) (hv:v.oneCell'=true)
   (ao:∀ w,(callFunc f vs.toArray).run P w=.ok (.value v) w):c7 P g (.call { callee:=.value (.func f),args:=xs,argTypes:=gm }) ty (.lit v)
 | Ed {x:Operand}{ty:TypeId}{i:Nat}{cs:List ab}{y:ab}(J:bs g x=some (.bW cs)) (ax:cs[i]?=some y):c7 P g (.extract x i) ty y
 | AA {x:Operand}{lo hi:Option Operand}{ty t e:TypeId}{z n l h:Nat}{cs:List ab}(J:bs g x=some (.bj z n cs)) (ak:p3 g 0 lo l) (bY:p3 g n hi h) (aw:fr P t e z=true) (sJ:l<=h) (aF:h<=n):c7 P g (.slice t x lo hi none) ty (.bj z (h - l) ((cs.drop (l * z)).take ((h - l) * z)))
 | Kx {x:Operand}{lo hi:Option Operand}{ty t e:TypeId}{z n h:Nat}{p:Place}(J:bs g x=some (.a6 z p n)) (ak:p3 g 0 lo 0) (bY:p3 g n hi h) (aw:fr P t e z=true) (aF:h<=n) (dd:gD g (.a6 z p h)):c7 P g (.slice t x lo hi none) ty (.a6 z p h)
 | F0 {x:Operand}{lo hi:Option Operand}{ty t e:TypeId}{z n l h:Nat}{p:Place}(J:bs g x=some (.a6 z p n)) (ak:p3 g 0 lo l) (bY:p3 g n hi h) (aw:fr P t e z=true) (sJ:l<=h) (aF:h<=n) (dd:gD g (.sub z p l (h - l))):c7 P g (.slice t x lo hi none) ty (.sub z p l (h - l))
 | AB {x:Operand}{lo hi:Option Operand}{ty t:TypeId}{l h:Nat}{s:ByteArray}(J:bs g x=some (.lit (.string s))) (ak:p3 g 0 lo l) (bY:p3 g s.size hi h) (aw:oZ P t=true) (sJ:l<=h) (aF:h<=s.size):c7 P g (.slice t x lo hi none) ty (.lit (.string (s.extract l h)))
 | Cq {x:Operand}{ty t e:TypeId}{z bE n:Nat}{cs:List ab}(J:bs g x=some (.bj z n cs)) (aw:fr P t e bE=true):c7 P g (.call { callee:=.builtin .len,args:=#[x],argTypes:=#[t] }) ty (.lit (.int .i64 n))
 | Cp {x:Operand}{ty t e:TypeId}{z bE n:Nat}{p:Place}(J:bs g x=some (.a6 z p n)) (aw:fr P t e bE=true):c7 P g (.call { callee:=.builtin .len,args:=#[x],argTypes:=#[t] }) ty (.lit (.int .i64 n))
 | JD {x:Operand}{ty t e:TypeId}{z bE lo n:Nat}{p:Place}(J:bs g x=some (.sub z p lo n)) (aw:fr P t e bE=true):c7 P g (.call { callee:=.builtin .len,args:=#[x],argTypes:=#[t] }) ty (.lit (.int .i64 n))
 | JC {x:Operand}{ty t e:TypeId}{bE:Nat}(J:bs g x=some .aJ) (aw:fr P t e bE=true):c7 P g (.call { callee:=.builtin .len,args:=#[x],argTypes:=#[t] }) ty (.lit (.int .i64 0))
 | lits {b:Builtin}{xs:Array Operand}{gm:Array TypeId}{ty:TypeId}{vs:List Value}{v:Value}(J:xs.toList.map (bs g)=vs.map λv=>some (.lit v)) (hv:v.oneCell'=true)
   (ao:∀ w (cs:Array Bool),(builtin b gm ty cs vs.toArray).run P w=.ok (.value v) w):c7 P g (.call { callee:=.builtin b,args:=xs,argTypes:=gm }) ty (.lit v)
 | E8 {x y:Operand}{ty t:TypeId}{p:Place}{q:Array MapEntry->Nat->Prop}{ok:Bool}{Y X:ab}{om V:Value}(J:bs g x=some (.gz p)) (au:bD g p=some (.mp q)) (ax:bs g y=some Y)
   (dj:∀ (w:World) (I:bb) (ρ:ab->Value->Prop) (v:Value),R w I ρ Y v cy->v=om) (aZ:∀ (w:World) (I:bb) (ρ:ab->Value->Prop),R w I ρ X V cy)
   (ao:∀ (w:World) (b:Nat) (es:Array MapEntry) (clock:Nat),w.heap[b]?=some (.map es clock)->q es clock->(Instr.lookup t (.map (some b)) om ok).run P w=.ok V w):c7 P g (.lookup t x y ok) ty X
 | Cs {x y:Operand}{ty t:TypeId}{q:Array MapEntry->Nat->Prop}{ok:Bool}{Y X:ab}{om V:Value}(J:bs g x=some (.imp q)) (ax:bs g y=some Y)
   (dj:∀ (w:World) (I:bb) (ρ:ab->Value->Prop) (v:Value),R w I ρ Y v cy->v=om) (aZ:∀ (w:World) (I:bb) (ρ:ab->Value->Prop),R w I ρ X V cy)
   (ao:∀ (w:World) (b:Nat) (es:Array MapEntry) (clock:Nat),w.heap[b]?=some (.map es clock)->q es clock->(Instr.lookup t (.map (some b)) om ok).run P w=.ok V w):c7 P g (.lookup t x y ok) ty X
theorem R.Ot {w:World}{I:bb}{ρ:ab->Value->Prop}{p:Place}{v:Value}{F:bb}(h:R w I ρ (.gz p) v F):ρ (.gz p) v:=by
 cases h with
 | ref _ h _=>exact h
theorem R.Jl {w:World}{I:bb}{ρ:ab->Value->Prop}{q:Array MapEntry->Nat->Prop}{v:Value}{F:bb}(h:R w I ρ (.mp q) v F):∃ b es clock,v=.map (some b)/\w.heap[b]?=some (.map es clock)/\q es clock/\∀ c,F c↔c=b:=by
 cases h with
 | ref J=>simp [ab.isRef] at J
 | mp a1 bg aN=>exact ⟨_,_,_,rfl,a1,bg,aN⟩
theorem R.WU {w:World}{I:bb}{ρ:ab->Value->Prop}{q:Array MapEntry->Nat->Prop}{v:Value}{F:bb}(h:R w I ρ (.imp q) v F):∃ b es clock,v=.map (some b)/\w.heap[b]?=some (.map es clock)/\q es clock:=by
 cases h with
 | ref J=>simp [ab.isRef] at J
 | imp _ _ a1 bg=>exact ⟨_,_,_,rfl,a1,bg⟩
end Go.Own
namespace Go.Own
open Go
section
variable {P:Program}{w:World}{I:bb}{T:Array Value}{g:aM}{Fs:Nat->bb}
theorem p3.sound (h:cF w I T g Fs) {d:Nat}{x:Option Operand}{j:Nat}(av:p3 g d x j) {a:Act}(aP:a.tmps=T):(x.map a.eval=none/\j=d)\/∃ k,x.map a.eval=some (.int k (j:Int)):=by
 cases x with
 | none=>exact .inl ⟨rfl,av⟩
 | some o =>
  obtain ⟨k,hk⟩:=av;exact .inr ⟨k,by rw [Option.map_some,(ke h hk aP).hB.1]⟩
theorem FM {len cap l h:Nat}{lo hi:Option Value}(ak:(lo=none/\l=0)\/∃ k,lo=some (.int k (l:Int))) (bY:(hi=none/\h=len)\/∃ k,hi=some (.int k (h:Int))) (b:Bool) (sJ:l<=h) (aa:h<=cap) :
  (Instr.sliceBounds b len cap lo hi none).run P w=.ok (l,h,cap) w:=by
 rcases ak with ⟨rfl,rfl⟩ | ⟨k,rfl⟩ <;> rcases bY with ⟨rfl,rfl⟩ | ⟨kT,rfl⟩ <;> simp [Instr.sliceBounds,Instr.sliceBound,asIntOf,sJ,aa]
theorem OF (h:cF w I T g Fs) {a:Act}(aP:a.tmps=T):∀ (xs:List Operand) (vs:List Value),xs.map (bs g)=vs.map (λv=>some (.lit v))->xs.map a.eval=vs
 | [],[],_=>rfl
 | [],_::_,h=>by simp at h
 | _::_,[],h=>by simp at h
 | x::xs,v::vs,J=>by
  simp only [List.map_cons,List.cons.injEq] at J;rw [List.map_cons,(ke h J.1 aP).hB.1,OF h aP xs vs J.2]
theorem Lr {w:World}{I:bb}{ρ:ab->Value->Prop}{v:Value}{az:List Value}
  (h:∃ vs:Array Value,v=.agg vs/\(az.map ab.lit).length=vs.size/\(∀ (k:Nat) (u:Value),vs[k]?=some u->u.oneCell'=true)/\∀ (k:Nat) (x:ab) (u:Value),(az.map ab.lit)[k]?=some x->vs[k]?=some u->R w I ρ x u cy):v=.agg az.toArray:=by
 obtain ⟨vs,rfl,ak,-,ao⟩:=h;congr 1;apply Array.ext (by simpa using ak.symm);intro i h1 af;have aI:i<az.length:=by simpa using af
 have:=(ao i (.lit az[i]) vs[i] (by simp [aI]) (Array.getElem?_eq_getElem h1)).hB.1
 grind
theorem c7.sound (h:cF w I T g Fs) {a:Act}(aP:a.tmps=T) {o:Oper}{kD:ab}(au:c7 P g o.op o.type kD) :
  ∃ v,(execOp a.eval o).run P w=.ok (.value v) w/\R w I (dT w T g) kD v cy:=by
 obtain ⟨dst,op,ty,pos,after,guard⟩:=o;simp only at au;have f':∀ {x:Operand}{y:ab},bs g x=some y->R w I (dT w T g) y (a.eval x) cy:=λax=>ke h ax aP;have no:∀ c,¬ cy c:=λ_ h=>h;cases au with
 | move J=>exact ⟨_,by simp [execOp],f' J⟩
 | assign J=>exact ⟨_,by simp [execOp],f' J⟩
 | @pick c x y _ t r aa ao =>
  have u':=(f' aa).hB.1;refine ⟨_,?_,f' ao⟩;simp [execOp,u',asBool]
  grind
 | @Fg x _ p k J =>
  have ao:=f' J;obtain ⟨⟨u,ad,h1,af,aI⟩,bK⟩:=ao.nP
  simp_all [execOp]
 | @qD x _ cs J =>
  have ao:=f' J;obtain ⟨ad,us,aI,_⟩:=ao.xv
  simp_all [execOp]
 | @Bn x _ s t f off p k J aW dd =>
  obtain ⟨⟨u,ad,h1,af,aI⟩,bK⟩:=(f' J).nP;refine ⟨.pointer (some ⟨ad.block,ad.off+k+off,none⟩),by simp [execOp,aI,PD aW],.ref rfl ⟨⟨u,ad,h1,af,by rw [Nat.add_assoc]⟩,dd⟩ no⟩
 | @Eh x _ s t f off cs J aW =>
  obtain ⟨ad,us,aI,bf,aC,hp,aa,ao⟩:=(f' J).xv;obtain ⟨b,o,sp⟩:=ad;simp only at aC;subst aC;refine ⟨.pointer (some ⟨b,o+off,none⟩),by simp [execOp,aI,PD aW],.cH (us:=λk=>us (off+k)) no bf rfl (λk x hk=>hp _ x (by rwa [List.getElem?_drop] at hk)) (λk x hk=>?_) λk x hk=>?_⟩
  ·grind
  grind
 | @Eg x _ s t f off cs y J aW aw ax =>
  obtain ⟨vs,aI,ak,hp,ao⟩:=(f' J).Cf no;obtain ⟨fs,fd,hu,Ik,rfl,rfl,i,hi,aR⟩:=Hv aW;have hk:fd.offset<cs.length:=(List.getElem?_eq_some_iff.1 ax).1;have hv:vs[fd.offset]?=some vs[fd.offset]:=Array.getElem?_eq_getElem (ak ▸ hk);refine ⟨_,?_,ao _ kD _ ax hv⟩;simp [execOp,aI,Instr.field,run_underlying hu,Ik,asAgg,part,(Hf (w:=w) aw).1,hv]
 | @Ht x _ s t f off k cs J aW aw hk =>
  obtain ⟨vs,aI,ak,hp,ao⟩:=(f' J).Cf no;obtain ⟨fs,fd,hu,Ik,rfl,rfl,i,hi,aR⟩:=Hv aW;refine ⟨.agg (vs.extract fd.offset (fd.offset+k)),?_,.agg (Fs:=λ_=>cy) (by simp [ak]; omega) (λj u jO=>by
   rw [Array.getElem?_extract] at jO
   grind) (λj y u ax jO=>?_) (λ_ _ _ _ _ h=>h.elim) (λc=>⟨λh=>h.elim,λ⟨_,_,h⟩=>h⟩)⟩
  ·simp [execOp,aI,Instr.field,run_underlying hu,Ik,asAgg,part,(DZ (w:=w) aw).1,(DZ (w:=w) aw).2]
  grind
 | @EV x i _ t e z n cs nR j J hi aw ah =>
  obtain ⟨hu,he,aY⟩:=qN (w:=w) aw;obtain ⟨lz,cap,aI,_,ak,hm⟩:=(f' J).zG;obtain ⟨ad,us,rfl,bf,aC,hp,aa,ao⟩:=hm (.inr (by omega));obtain ⟨b,o,sp⟩:=ad;simp only at aC;subst aC;have sI:=(f' hi).hB.1;refine ⟨.pointer (some ⟨b,o+j * z,none⟩),?_,.cH (us:=λk=>us (j * z+k)) no bf rfl (λk x hk=>hp _ x (by rwa [List.getElem?_drop] at hk)) (λk x hk=>?_) λk x hk=>?_⟩
  ·simp [execOp,aI,sI,Instr.indexAt,run_underlying hu,asIntOf,ah,aY,add_eq]
  ·grind
  grind
 | @EU x i _ t e z n p nR j J hi aw ah dd =>
  obtain ⟨hu,he,aY⟩:=qN (w:=w) aw;obtain ⟨⟨lz,N,cap,h1,af,aI⟩,bK⟩:=(f' J).nc;have sI:=(f' hi).hB.1;obtain ⟨y,ax,j3,dz,cs,eM,aT⟩:=dd;obtain ⟨v,cB,hv,dI,_⟩:=h.part ax (by rcases eM with rfl | rfl <;> simp);rw [h1] at hv;cases hv;obtain ⟨b,u,fQ,l5,_,_⟩:=dI.node eM (List.getElem?_eq_getElem aT);cases lz with
  | none=>simp [addrOf] at fQ
  | some ad =>
   simp only [addrOf,Option.some.injEq] at fQ;subst fQ;refine ⟨.pointer (some ⟨b,j * z,none⟩),?_,.ref rfl ⟨⟨_,_,h1,rfl,by simp⟩,y,ax,j3,dz,cs,eM,aT⟩ no⟩;simp [execOp,af,sI,Instr.indexAt,run_underlying hu,asIntOf,ah,aY,add_eq]
 | @Ji x i _ t e z lo n p nR j J hi aw ah dd =>
  obtain ⟨hu,he,aY⟩:=qN (w:=w) aw;obtain ⟨⟨lz,N,cap,b',mP,h1,af,_,aI,cG⟩,bK⟩:=(f' J).xw;obtain ⟨ad,rfl,rfl⟩:=cG (by omega);have sI:=(f' hi).hB.1;obtain ⟨y,ax,j3,dz,cs,eM,aT⟩:=dd;obtain ⟨v,cB,hv,dI,_⟩:=h.part ax (by rcases eM with rfl | rfl <;> simp);rw [h1] at hv;cases hv;obtain ⟨b,u,fQ,l5,_,_⟩:=dI.node eM (List.getElem?_eq_getElem aT);simp only [addrOf,Option.some.injEq] at fQ;subst fQ;refine ⟨.pointer (some ⟨b,(lo+j) * z,none⟩),?_,.ref rfl ⟨⟨_,_,h1,rfl,by simp⟩,y,ax,j3,dz,cs,eM,aT⟩ no⟩;simp [execOp,af,sI,Instr.indexAt,run_underlying hu,asIntOf,ah,aY,add_eq,Nat.add_mul]
 | @ET x i _ t e n z k p nR j J hi aw ah dd =>
  obtain ⟨hu,aY⟩:=LF (w:=w) aw;obtain ⟨⟨u,ad,h1,af,aI⟩,bK⟩:=(f' J).nP;have sI:=(f' hi).hB.1;refine ⟨.pointer (some ⟨ad.block,ad.off+k+j * z,none⟩),?_,.ref rfl ⟨⟨u,ad,h1,af,by rw [Nat.add_assoc]⟩,dd⟩ no⟩;simp [execOp,aI,sI,Instr.indexAt,run_underlying hu,Instr.sureAddr,asIntOf,ah,aY,add_eq]
 | @Jh x i _ t e n z cs nR j J hi aw ah =>
  obtain ⟨hu,aY⟩:=LF (w:=w) aw;obtain ⟨ad,us,aI,bf,aC,hp,aa,ao⟩:=(f' J).xv;obtain ⟨b,o,sp⟩:=ad;simp only at aC;subst aC;have sI:=(f' hi).hB.1;refine ⟨.pointer (some ⟨b,o+j * z,none⟩),?_,.cH (us:=λk=>us (j * z+k)) no bf rfl (λk x hk=>hp _ x (by rwa [List.getElem?_drop] at hk)) (λk x hk=>?_) λk x hk=>?_⟩
  ·simp [execOp,aI,sI,Instr.indexAt,run_underlying hu,Instr.sureAddr,asIntOf,ah,aY,add_eq]
  ·grind
  grind
 | @E9 x _ t c cs J aw =>
  obtain ⟨ad,us,aI,bf,aC,hp,aa,ao⟩:=(f' J).xv;obtain ⟨b,o,sp⟩:=ad;simp only at aC;subst aC;have aR:w.cell? ⟨b,o,none⟩=some (us 0):=by simpa using aa 0 kD rfl
  simp_all [execOp,PF]
 | @E_ x _ t k cs J aw hk =>
  obtain ⟨ad,us,aI,bf,aC,hp,aa,ao⟩:=(f' J).xv;obtain ⟨b,o,sp⟩:=ad;simp only at aC;subst aC;have Vu:∀ j v,((List.range k).map us)[j]?=some v->w.cell? ⟨b,o+j,none⟩=some v:=by
   grind
  refine ⟨.agg ((List.range k).map us).toArray,by simp [execOp,aI,PE aw (by simp) Vu],.agg (Fs:=λ_=>cy) (by simp; omega) (λj u jO=>by
   grind) (λj y u ax jO=>?_) (λ_ _ _ _ _ h=>h.elim) (λc=>⟨λh=>h.elim,λ⟨_,_,h⟩=>h⟩)⟩
  grind
 | @Ct x _ t p k y J aw ax =>
  obtain ⟨⟨u,ad,h1,af,aI⟩,bK⟩:=(f' J).nP;rw [tu] at ax;cases aF:bD g p with
  | none=>rw [aF] at ax; cases ax
  | some nd =>
   rw [aF] at ax;simp only [Option.bind_some] at ax;obtain ⟨y',oR,j3,dz,cs,eM,aT⟩:=bK;rw [aF] at oR;cases oR;obtain ⟨v,cB,hv,dI,dy⟩:=h.part aF (by rcases eM with rfl | rfl <;> simp);rw [h1] at hv;cases hv;have h_:cs[k]?=some y:=by rcases eM with rfl | rfl <;> simpa [ab.kids] using ax
   obtain ⟨b,gZ,fQ,l5,n',hp,bM,kM⟩:=dI.node eM h_;rw [fQ] at af;cases af;refine ⟨gZ,by simp only [execOp,aI]; simp [PF aw l5],FH 0 (by rw [tu,aF]; exact ax) (by rw [yp,h1]; exact n') kM⟩
 | @xH x _ t p k m z n y cs J aw ax eM hm =>
  obtain ⟨⟨u,ad,h1,af,aI⟩,bK⟩:=(f' J).nP;obtain ⟨v,cB,hv,dI,dy⟩:=h.part ax (by rcases eM with rfl | rfl <;> simp);rw [h1] at hv;cases hv;have u9:∃ b,ad=⟨b,0,none⟩:=by
   obtain ⟨y',oR,j3,dz,cs',Oi,aT⟩:=bK;rw [ax] at oR;cases oR;have:cs'=cs:=by rcases eM with rfl | rfl <;> rcases Oi with bY | bY <;> cases bY <;> rfl
   subst this;obtain ⟨b,gZ,fQ,_⟩:=dI.node Oi (List.getElem?_eq_getElem aT)
   grind
  obtain ⟨b,rfl⟩:=u9;have Iw:y.kids=cs:=by rcases eM with rfl | rfl <;> rfl
  have cell:∀ j,j<m->∃ gZ,w.cell? ⟨b,k+j,none⟩=some gZ/\gZ.oneCell'=true/\∃ lW,cs[k+j]?=some lW/\R w I (dT w T g) (gv 0 (p.push (k+j)) lW) gZ cy:=by
   intro j ah;have gf:cs[k+j]?=some cs[k+j]:=List.getElem?_eq_getElem (by omega);obtain ⟨eC,gZ,fQ,l5,n',hp,bM,kM⟩:=dI.node eM gf;rw [af] at fQ;cases fQ;exact ⟨gZ,l5,hp,_,gf,FH 0 (by rw [tu,ax]; simp [Iw]) (by rw [yp,h1]; exact n') kM⟩
  have hex:∃ us:List Value,us.length=m/\∀ j v,us[j]?=some v->w.cell? ⟨b,k+j,none⟩=some v:=by
   refine ⟨(List.range m).map λj=>(w.cell? ⟨b,k+j,none⟩).getD undef,by simp,?_⟩
   grind
  obtain ⟨us,oe,V5⟩:=hex;refine ⟨.agg us.toArray,by simp only [execOp,aI]; simp [PE aw oe (b:=b) (o:=k) V5],.agg (Fs:=λ_=>cy) (by simp; omega) (λj u jO=>by
   grind) (λj jj u vu jO=>?_) (λ_ _ _ _ _ h=>h.elim) (λc=>⟨λh=>h.elim,λ⟨_,_,h⟩=>h⟩)⟩
  grind
 | @D_ x _ s d n N p cs xs J au aF hF aw =>
  obtain ⟨e,aC,he,aS⟩:=LR aw;obtain ⟨⟨lz,iZ,cap,h1,af,aI⟩,_⟩:=(f' J).nc;obtain ⟨v,cB,hv,dI,dy⟩:=h.part au (by simp);rw [h1] at hv;cases hv;have ha:(cs.take n).length=n:=by
   obtain ⟨_,_,_,ak⟩:=dI.nk
   grind
  have hlen:xs.length=n:=by rw [<- ha,hF,List.length_map]
  refine ⟨_,?_,.lit rfl no⟩;obtain ⟨_,_,jd,_,_,re,rf⟩:=dI.nk;cases jd;cases lz with
  | none =>
   have aR:n=0:=by
    grind
   have:xs=[]:=List.eq_nil_of_length_eq_zero (hlen.trans aR);subst this;have ao:=run_convert_bytes_nil (P:=P) (w:=w) s e aC he n cap d aS;simp [execOp,af,ao];rfl
  | some ad =>
   obtain ⟨b,o,sp⟩:=ad;obtain ⟨rfl,rfl⟩:=re _ rfl;have ao:=run_convert_bytes_arg (P:=P) w s e aC he b 0 n cap xs hlen (λi hi=>by
    have Ib:(cs.take n)[i]?=some (.lit (.int .u8 (xs.getD i 0))):=by
     grind
    have U2:cs[i]?=some (.lit (.int .u8 (xs.getD i 0))):=by
     grind
    obtain ⟨eC,u,fQ,l5,_,_,bM,kM⟩:=dI.node (.inl rfl) U2;simp only [addrOf,Option.some.injEq,Addr.mk.injEq,and_true] at fQ;subst fQ;rw [Nat.zero_add,l5,kM.hB.1]) d aS
   simp_all [execOp]
 | @D' x _ s d n xs J aw =>
  obtain ⟨e,aC,he,aS⟩:=LR aw;have aZ:=f' J;generalize tT:a.eval x=v at aZ;refine ⟨_,?_,.lit rfl no⟩;generalize hF:(xs.map λb=>ab.lit (.int .u8 b))=cs at aZ;cases aZ with
  | ref J=>simp [ab.isRef] at J
  | @hG _ cap lz _ aN =>
   have:xs=[]:=by simpa using hF
   subst this;cases lz with
   | none =>
    have ao:=run_convert_bytes_nil (P:=P) (w:=w) s e aC he 0 cap d aS;simp [execOp,tT,ao];rfl
   | some ad =>
    have ak:(loadCells ad 0).run P w=.ok (([]:List Int).map (Value.int .u8)).toArray w:=by
     have:=run_loadCells_list (P:=P) w ad [] (λj v ah=>by simp at ah)
     grind
    have ao:=run_bytesToString w ad 0 cap [] ak;have aa:=run_convert_bytes_string (P:=P) w s d e (some ad) 0 cap aC he aS;rw [ao] at aa;simp [execOp,tT,aa];rfl
  | @bj _ _ cap _ ad us _ aN k9 bf lf ak h1 aa ao =>
   obtain ⟨b,o,sp⟩:=ad;simp only at lf;subst lf;have hlen:xs.length=n:=by rw [<- List.length_map (f:=λb=>ab.lit (.int .u8 b)),hF,ak,Nat.mul_one]
   have ec:=run_convert_bytes_arg (P:=P) w s e aC he b o n cap xs hlen (λi hi=>by
    have Ib:cs[i]?=some (.lit (.int .u8 (xs.getD i 0))):=by
     grind
    have:=aa i _ Ib;simp only at this;rw [this,(ao i _ Ib).hB.1]) d aS
   simp_all [execOp]
 | @Hq xs gm _ f vs v J hv ao =>
  refine ⟨v,?_,.lit hv no⟩;have xi:xs.map a.eval=vs.toArray:=by
   apply Array.toList_inj.1;apply List.ext_getElem?;intro k;have:=congrArg (·[k]?) J;simp only [List.getElem?_map] at this;rw [Array.toList_map,List.getElem?_map];cases hk:xs.toList[k]? with
   | none =>
    grind
   | some o =>
    rw [hk] at this;cases hv:vs[k]? with
    | none=>rw [hv] at this; cases this
    | some v =>
     rw [hv] at this;simp only [Option.map_some,Option.some.injEq] at this ⊢;rw [(f' this).hB.1]
  have aW:a.eval (.func f)=.func (.func f) #[] #[]:=rfl
  simp_all [execOp,resolve,Deferred.ofValue,invoke]
 | @EW x i _ t s nR j b J hi aw av =>
  have vl:=(f' J).hB.1;have sI:=(f' hi).hB.1;refine ⟨.int .u8 b.toNat,?_,.lit rfl no⟩
  simp_all [execOp,Instr.index,run_underlying,KA,asIntOf]
 | @bin op x y _ t t2 b' b v J ax hv ao =>
  have h1:=(f' J).hB.1;have af:=(f' ax).hB.1;refine ⟨v,?_,.lit hv no⟩
  grind [execOp,Sem.run_bind,Result.andThen_ok,Sem.run_pure]
 | @A8 op x y _ t t2 az dg v J ax hv ao =>
  have h1:=Lr ((f' J).Cf no);have af:=Lr ((f' ax).Cf no);refine ⟨v,?_,.lit hv no⟩
  grind [execOp,Sem.run_bind,Result.andThen_ok,Sem.run_pure]
 | @un op x _ t b' v J hv ao =>
  have h1:=(f' J).hB.1;exact ⟨v,by simp [execOp,h1,ao],.lit hv no⟩
 | @conv x _ s d b' v J hv ao =>
  have h1:=(f' J).hB.1;exact ⟨v,by simp [execOp,h1,ao],.lit hv no⟩
 | @Ed x _ i cs y J ax =>
  obtain ⟨vs,aI,ak,ao⟩:=(f' J).WV no;have hk:i<cs.length:=(List.getElem?_eq_some_iff.1 ax).1;have hv:vs[i]?=some vs[i]:=Array.getElem?_eq_getElem (ak ▸ hk);exact ⟨_,by simp [execOp,aI,Instr.extract,hv],ao _ kD _ ax hv⟩
 | @AA x lo hi _ t e z n l bY cs J ak vf aw sJ aF =>
  obtain ⟨hu,he,aY⟩:=qN (w:=w) aw;obtain ⟨lz,cap,aI,k9,hlen,hm⟩:=(f' J).zG;have av:=FM (P:=P) (w:=w) (len:=n) (cap:=cap) (ak.sound h aP) (vf.sound h aP) true sJ (by omega);have hP:(execOp a.eval { dst:=dst,op:=.slice t x lo hi none,type:=ty,pos:=pos,after:=after,guard:=guard }).run P w=.ok (.value (sliced lz l bY cap z)) w:=by
   simp_all [execOp,Instr.sliceAt,run_underlying,Instr.slice,sliced]
  refine ⟨_,hP,?_⟩;by_cases aR:bY - l=0
  ·rw [aR];simp only [Nat.zero_mul,List.take_zero,sliced,aR];exact .hG no
  ·obtain ⟨ad,us,rfl,bf,aC,hp,aa,ao⟩:=hm (.inr (by omega));obtain ⟨b,o,sp⟩:=ad;simp only at aC;subst aC;have ha:cap≠l:=by omega
   simp only [sliced,ha,if_false,Option.map_some,add_eq];have BM:((cs.drop (l * z)).take ((bY - l) * z)).length=(bY - l) * z:=by
    rw [List.length_take,List.length_drop,hlen];have:(bY - l) * z+l * z<=n * z:=by rw [<- Nat.add_mul]; exact Nat.mul_le_mul_right _ (by omega)
    omega
   refine .bj (us:=λk=>us (l * z+k)) no (by omega) bf rfl BM (λk x hk=>hp (l * z+k) x (by
    grind)) (λk x hk=>?_) λk x hk=>?_
   ·grind
   grind
 | @Kx x lo hi _ t e z n bY p J ak vf aw aF dd =>
  obtain ⟨hu,he,aY⟩:=qN (w:=w) aw;obtain ⟨⟨lz,N,cap,h1,af,aI⟩,bK⟩:=(f' J).nc;have k9:N<=cap:=by
   rcases bK with ⟨iZ,cs,cG,eh⟩ | ⟨aR,q,gY,m,new,cG,eh⟩
   ·obtain ⟨v,cB,hv,dI,_⟩:=h.part cG (by simp);rw [h1] at hv;obtain ⟨_,rQ,ND,hle,_⟩:=dI.nk
    grind
   ·obtain ⟨v,hv,dI⟩:=h.rel _ _ cG;simp only [dW,hv,aR,walk,Option.some.injEq] at h1;subst h1;obtain ⟨bv,cj,cf,us,news,dI⟩:=dI.vy;obtain ⟨_,nJ⟩:=dI.nJ
    grind
  have av:=FM (P:=P) (w:=w) (len:=n) (cap:=cap) (ak.sound h aP) (vf.sound h aP) true (Nat.zero_le _) (by omega);refine ⟨.slice lz bY cap,?_,.ref rfl ⟨⟨lz,N,cap,h1,rfl,by omega⟩,dd⟩ no⟩
  simp_all [execOp,Instr.sliceAt,run_underlying,Instr.slice,Addr.add]
 | @F0 x lo hi _ t e z n l bY p J ak vf aw sJ aF dd =>
  obtain ⟨hu,he,aY⟩:=qN (w:=w) aw;obtain ⟨⟨lz,N,cap,h1,af,aI⟩,bK⟩:=(f' J).nc;obtain ⟨iZ,cs,cG,eh⟩:=dd;obtain ⟨v,cB,hv,dI,_⟩:=h.part cG (by simp);rw [h1] at hv;obtain ⟨a2,rQ,ND,hle,hlen,re,rf⟩:=dI.nk;rw [ND] at hv;cases hv;have av:=FM (P:=P) (w:=w) (len:=n) (cap:=cap) (ak.sound h aP) (vf.sound h aP) true sJ (by omega);refine ⟨sliced lz l bY cap z,?_,.ref rfl ⟨⟨lz,_,cap,_,_,h1,rfl,by omega,by omega,λsL=>?_⟩,_,cs,cG,eh⟩ no⟩
  ·simp_all [execOp,Instr.sliceAt,run_underlying,Instr.slice,sliced]
  ·have aC:=rf (by omega);cases lz with
   | none=>simp at aC
   | some ad =>
    obtain ⟨aR,je⟩:=re ad rfl;obtain ⟨b,o,sp⟩:=ad
    grind [add_eq]
 | @AB x lo hi _ t l bY s J ak vf aw sJ aF =>
  have vl:=(f' J).hB.1;have av:=FM (P:=P) (w:=w) (len:=s.size) (cap:=s.size) (ak.sound h aP) (vf.sound h aP) false sJ aF;exact ⟨.string (s.extract l bY),by simp [execOp,vl,Instr.sliceAt,run_underlying (KA aw),Instr.slice,av],.lit rfl no⟩
 | @Cq x _ t e z bE n cs J aw =>
  obtain ⟨hu,he,aY⟩:=qN (w:=w) aw;obtain ⟨lz,cap,aI,_⟩:=(f' J).zG;exact ⟨_,by simp [execOp,resolve,invoke,builtin,aI,Builtin.len_,run_underlying hu,goInt],.lit rfl no⟩
 | @Cp x _ t e z bE n p J aw =>
  obtain ⟨hu,he,aY⟩:=qN (w:=w) aw;obtain ⟨⟨lz,N,cap,h1,af,aI⟩,bK⟩:=(f' J).nc;exact ⟨_,by simp [execOp,resolve,invoke,builtin,af,Builtin.len_,run_underlying hu,goInt],.lit rfl no⟩
 | @JD x _ t e z bE lo n p J aw =>
  obtain ⟨hu,he,aY⟩:=qN (w:=w) aw;obtain ⟨⟨lz,N,cap,b',mP,h1,af,_,aI,cG⟩,bK⟩:=(f' J).xw;exact ⟨_,by simp [execOp,resolve,invoke,builtin,af,Builtin.len_,run_underlying hu,goInt],.lit rfl no⟩
 | @JC x _ t e bE J aw =>
  obtain ⟨hu,he,aY⟩:=qN (w:=w) aw;have af:=(f' J).se;exact ⟨_,by simp [execOp,resolve,invoke,builtin,af,Builtin.len_,run_underlying hu,goInt],.lit rfl no⟩
 | @lits b xs gm _ vs v J hv ao =>
  have qm:xs.map a.eval=vs.toArray:=by
   grind [Array.toList_map,OF]
  refine ⟨v,?_,.lit hv no⟩
  grind [execOp,resolve,invoke]
 | @E8 x y _ t p q ok Y _ om V J au ax dj aZ ao =>
  obtain ⟨⟨b,av,hv⟩,_⟩:=(f' J).Ot;obtain ⟨gx,cB,iu,dI,_⟩:=h.part au (by simp);rw [av] at iu;cases iu;obtain ⟨eC,es,clock,e,a1,bg,_⟩:=dI.Jl;cases e;refine ⟨V,?_,aZ _ _ _⟩;simp [execOp,hv,dj _ _ _ _ (f' ax),ao w _ _ _ a1 bg]
 | @Cs x y _ t q ok Y _ om V J ax dj aZ ao =>
  obtain ⟨b,es,clock,hv,a1,bg⟩:=(f' J).WU;refine ⟨V,?_,aZ _ _ _⟩;simp [execOp,hv,dj _ _ _ _ (f' ax),ao w _ _ _ a1 bg]
end
end Go.Own
namespace Go.Own
open Go
structure Fr (w w':World) (U:bb):Prop where
 os:w'.os=w.os
 tape:w'.tape=w.tape
 output:w'.output=w.output
 size:w.heap.size<=w'.heap.size
 block:∀ b,b<w.heap.size->¬ U b->w'.heap[b]?=w.heap[b]?
 dN:∀ a,a.block<w.heap.size->w'.frozen? a=w.frozen? a
 wS:w.drawn<=w'.drawn
theorem Fr.refl (w:World) (U:bb):Fr w w U:=⟨rfl,rfl,rfl,Nat.le_refl _,λ_ _ _=>rfl,λ_ _=>rfl,Nat.le_refl _⟩
theorem Fr.mono {w w':World}{U DW:bb}(h:Fr w w' U) (ga:∀ b,b<w.heap.size->U b->DW b):Fr w w' DW:=⟨h.os,h.tape,h.output,h.size,λb av aF=>h.block b av λhu=>aF (ga b av hu),h.dN,h.wS⟩
theorem Fr.trans {w ic hr:World}{U yW:bb}(h:Fr w ic U) (h1:Fr ic hr yW) (ga:∀ b,b<w.heap.size->yW b->U b):Fr w hr U :=
 ⟨h1.os.trans h.os,h1.tape.trans h.tape,h1.output.trans h.output,Nat.le_trans h.size h1.size,λb av aF=>(h1.block b (Nat.lt_of_lt_of_le av h.size) λhu=>aF (ga b av hu)).trans (h.block b av aF),λa aP=>(h1.dN a (Nat.lt_of_lt_of_le aP h.size)).trans (h.dN a aP),Nat.le_trans h.wS h1.wS⟩
theorem sv (w:World) (o:Obj) (k:Nat) (h:k<w.heap.size):(w.alloc o).heap[k]?=w.heap[k]?:=by
 show (w.heap.push o)[k]?=_;rw [Array.getElem?_push,if_neg (by omega)]
theorem tn (w:World) (o:Obj):(w.alloc o).heap[w.heap.size]?=some o:=by
 show (w.heap.push o)[w.heap.size]?=_;simp
theorem Hw (w:World) (arr:Array Value) (t:TypeId) (a:Addr):(w.alloc (.cells arr t (0,0))).frozen? a=w.frozen? a:=by
 unfold World.frozen?;by_cases h:a.block=w.heap.size
 ·rw [h,tn];have:w.heap[w.heap.size]?=none:=by simp
  rw [this];simp
 ·by_cases af:a.block<w.heap.size
  ·rw [sv w _ _ af]
  ·have aI:(w.alloc (.cells arr t (0,0))).heap[a.block]?=none:=by
    show (w.heap.push _)[a.block]?=_;rw [Array.getElem?_eq_none];simp; omega
   have bK:w.heap[a.block]?=none:=Array.getElem?_eq_none (by omega);rw [aI,bK]
theorem Hy (w:World) (g:Nat) (cs:Array Value) (a:Addr):(w.setRow g cs).frozen? a=w.frozen? a:=by
 unfold World.frozen? World.setRow;simp only [Array.getElem?_modify];by_cases h:g=a.block
 ·subst h;rw [if_pos rfl];cases bY:w.heap[a.block]? with
  | none=>rfl
  | some o=>cases o <;> rfl
 ·rw [if_neg h]
theorem Tv (w:World) (es:Array MapEntry) (n:Nat) (a:Addr):(w.alloc (.map es n)).frozen? a=w.frozen? a:=by
 unfold World.frozen?;by_cases h:a.block=w.heap.size
 ·rw [h,tn];have:w.heap[w.heap.size]?=none:=by simp
  rw [this]
 ·by_cases af:a.block<w.heap.size
  ·rw [sv w _ _ af]
  ·have aI:(w.alloc (.map es n)).heap[a.block]?=none:=by
    show (w.heap.push _)[a.block]?=_;rw [Array.getElem?_eq_none];simp; omega
   have bK:w.heap[a.block]?=none:=Array.getElem?_eq_none (by omega);rw [aI,bK]
def Pk (o:Obj):Prop:=(∃ arr e,o=.cells arr e (0,0))\/∃ es n,o=.map es n
theorem Fr.alloc (w:World) (o:Obj) (U:bb) (a1:Pk o):Fr w (w.alloc o) U:=by
 refine ⟨rfl,rfl,rfl,by simp,λb av _=>sv w o b av,λa _=>?_,Nat.le_refl _⟩;rcases a1 with ⟨arr,e,rfl⟩ | ⟨es,n,rfl⟩
 ·exact Hw w arr e a
 ·exact Tv w es n a
theorem R.XO {w:World}{I:bb}{ρ:ab->Value->Prop}{x:ab}{v:Value}{F:bb}(h:R w I ρ x v F):∀ c,F c->∃ o,w.heap[c]?=some o/\Pk o:=by
 induction h with
 | mp a1 _ aN =>
  intro c aa;cases (aN c).1 aa;exact ⟨_,a1,.inr ⟨_,_,rfl⟩⟩
 | lit _ aN | aJ aN | dead aN | ref _ _ aN | hG aN | bj aN | cH aN | cW aN | imp aN=>exact λc aa=>absurd aa (aN c)
 | own a1 ak h1 ao aS av aN aU =>
  intro c aa;rcases (aN c).1 aa with h | ⟨k,hk,h⟩
  ·obtain ⟨_,bY⟩:=a1;rcases bY with ⟨rfl,_⟩ | ⟨b,cap,cur,rfl,_,jQ,_⟩
   ·simp [Value.ownBlock] at h
   ·simp only [Value.ownBlock,Option.some.injEq] at h;subst h;exact ⟨_,jQ,.inl ⟨_,_,rfl⟩⟩
  ·exact aU k _ _ (List.getElem?_eq_getElem hk) (List.getElem?_eq_getElem (ak ▸ hk)) c h
 | obj a1 ak h1 ao aS av aN aU =>
  intro c aa;rcases (aN c).1 aa with rfl | ⟨k,hk,h⟩
  ·exact ⟨_,a1,.inl ⟨_,_,rfl⟩⟩
  ·exact aU k _ _ (List.getElem?_eq_getElem hk) (Array.getElem?_eq_getElem (ak ▸ hk)) c h
 | agg ak h1 ao aS aN aU =>
  intro c aa;obtain ⟨k,hk,h⟩:=(aN c).1 aa;exact aU k _ _ (List.getElem?_eq_getElem hk) (Array.getElem?_eq_getElem (ak ▸ hk)) c h
 | bW ak ao aS aN aU =>
  intro c aa;obtain ⟨k,hk,h⟩:=(aN c).1 aa;exact aU k _ _ (List.getElem?_eq_getElem hk) (Array.getElem?_eq_getElem (ak ▸ hk)) c h
theorem Fr.drew {w w':World}{U:bb}(h:Fr w w' U):Fr w w'.drew U:=⟨h.os,h.tape,h.output,h.size,h.block,h.dN,Nat.le_succ_of_le h.wS⟩
section
variable {w:World}{I:bb}{T:Array Value}{g:aM}{Fs:Nat->bb}
theorem cF.j0 (h:cF w I T g Fs):∀ t c,Fs t c->c<w.heap.size:=by
 intro t c aa;cases J:g t with
 | none=>exact absurd aa (h.kU t J c)
 | some y=>obtain ⟨u,_,dI⟩:=h.rel t y J; exact dI.lt c aa
theorem cF.world (h:cF w I T g Fs) {w':World}(aN:∀ t c,Fs t c->w'.heap[c]?=w.heap[c]?) (bf:∀ c,I c->w'.heap[c]?=w.heap[c]?) (fY:w.heap.size<=w'.heap.size):cF w' I T g Fs :=
  ⟨λt x J=>by
    obtain ⟨v,hv,aZ⟩:=h.rel t x J;exact ⟨v,hv,h.wV (λ_ _=>rfl) aN bf (λ_ h=>h) (λ_ _ h=>h) aZ λc aa=>aN t c aa⟩,
   h.kU,h.eJ,h.bj,λc aa=>Nat.lt_of_lt_of_le (h.lt c aa) fY,h.rq⟩
theorem cF.alloc (h:cF w I T g Fs) (o:Obj):cF (w.alloc o) I T g Fs :=
 h.world (λt c aa=>sv w o c (h.j0 t c aa)) (λc aa=>sv w o c (h.lt c aa)) (by simp)
theorem cF.uz (h:cF w I T g Fs) {d:Nat}{x:ab}{v:Value}{F:bb}(aS:g d=none) (U7:d<T.size)
  (aZ:jD w I (dT w T g) x v F) (r5:∀ t c,F c->¬ Fs t c) (Vz:∀ c,F c->¬ I c)
  (au:∀ z p n m new,x=.bL z p n m new->∀ t bE cE m' c3,g t≠some (.bL bE p cE m' c3)) :
  cF w I (T.setIfInBounds d v) (cV g d x) (uI Fs d F):=by
 have dL:∀ t,g t≠none->(T.setIfInBounds d v)[t]?=T[t]?:=by
  intro t aw;rw [Array.getElem?_setIfInBounds_ne];rintro rfl; exact aw aS
 refine ⟨?_,?_,?_,?_,h.lt,?_⟩
 ·intro t y ax;unfold cV at ax
  split at ax
  ·rename_i vm;subst vm;cases ax;exact ⟨v,by simp [U7],by simpa [uI] using h.wV dL (λ_ _ _=>rfl) (λ_ _=>rfl) (λ_ h=>h) (Ql aS) aZ λ_ _=>rfl⟩
  ·rename_i vm;obtain ⟨u,hu,dI⟩:=h.rel t y ax;exact ⟨u,by rw [dL t (by rw [ax]; simp)]; exact hu,by simpa [uI,vm] using h.wV dL (λ_ _ _=>rfl) (λ_ _=>rfl) (λ_ h=>h) (Ql aS) dI λ_ _=>rfl⟩
 ·intro t aw c;unfold cV at aw
  split at aw
  ·cases aw
  ·rename_i vm; simpa [uI,vm] using h.kU t aw c
 ·intro t t' c aa fo;by_cases h1:t=d <;> by_cases af:t'=d <;> simp [uI,h1,af] at aa fo
  ·rw [h1,af]
  ·exact absurd fo (r5 t' c aa)
  ·exact absurd aa (r5 t c fo)
  ·exact h.eJ t t' c aa fo
 ·intro t c aa hi;by_cases h1:t=d <;> simp [uI,h1] at aa
  ·exact Vz c aa hi
  ·exact h.bj t c aa hi
 ·intro t t' z p n m new bE cE m' c3 h1 af;unfold cV at h1 af
  split at h1 <;> split at af
  ·rename_i a b; rw [a,b]
  ·cases h1; exact absurd af (au z p n m new rfl t' bE cE m' c3)
  ·cases af; exact absurd h1 (au bE p cE m' c3 rfl t z n m new)
  ·exact h.rq _ _ _ _ _ _ _ _ _ _ _ h1 af
end
def jT:ab->Option (List ab)
 | .agg cs=>some cs
 | .lit v=>some [.lit v]
 | .aJ=>some [.aJ]
 | .bj z n cs=>some [.bj z n cs]
 | .cH cs=>some [.cH cs]
 | .ptr p k=>some [.ptr p k]
 | .a6 z p n=>some [.a6 z p n]
 | .sub z p l n=>some [.sub z p l n]
 | .cW f a b=>some [.cW f a b]
 | _=>none
theorem R.jT {w:World}{I:bb}{ρ:ab->Value->Prop}{y:ab}{v:Value}{F:bb}(h:R w I ρ y v F) (aN:∀ c,¬ F c) (lN:∀ x v,x.isRef=true->ρ x v->v.oneCell'=true) {cs:List ab}(aa:jT y=some cs) :
  cs.length=v.cells.size/\(∀ (k:Nat) (u:Value),v.cells[k]?=some u->u.oneCell'=true)/\(∀ (k:Nat) (x:ab) (u:Value),cs[k]?=some x->v.cells[k]?=some u->R w I ρ x u cy):=by
 have one:∀ {y:ab},R w I ρ y v F->v.oneCell'=true->[y].length=v.cells.size/\(∀ (k:Nat) (u:Value),v.cells[k]?=some u->u.oneCell'=true)/\(∀ (k:Nat) (x:ab) (u:Value),[y][k]?=some x->v.cells[k]?=some u->R w I ρ x u cy):=by
  intro y h h1;have Eu:v.cells=#[v]:=by cases v <;> first | rfl | (simp [Value.oneCell'] at h1)
  refine ⟨by simp [Eu],λk u hu=>?_,λk x u J hu=>?_⟩
  ·rw [Eu] at hu;cases k with
   | zero=>simp at hu; subst hu; exact h1
   | succ k=>simp at hu
  rw [Eu] at hu;cases k with
  | zero=>simp at J hu; subst J hu; exact h.empty aN
  | succ k=>simp at J
 cases y <;> simp only [Go.Own.jT,Option.some.injEq,reduceCtorEq] at aa
 case agg l =>
  subst aa;obtain ⟨vs,rfl,ak,h1,ao⟩:=h.Cf aN;exact ⟨ak,h1,ao⟩
 case lit a=>subst aa; exact one h (by obtain ⟨rfl,h1⟩:=h.hB; exact h1)
 case aJ=>subst aa; exact one h (by rw [h.se]; rfl)
 case bj z n l=>subst aa; exact one h (by obtain ⟨a,cap,rfl,_⟩:=h.zG; rfl)
 case cH l=>subst aa; exact one h (by obtain ⟨ad,us,rfl,_⟩:=h.xv; rfl)
 case ptr p k=>subst aa; exact one h (lN _ _ rfl h.nP)
 case a6 z p n=>subst aa; exact one h (lN _ _ rfl h.nc)
 case sub z p l n=>subst aa; exact one h (lN _ _ rfl h.xw)
 case cW f a b =>
  subst aa;refine one h ?_;cases h with
  | cW=>rfl
  | ref J=>simp [ab.isRef] at J
theorem dT.Fo {w:World}{T:Array Value}{g:aM}{x:ab}{v:Value}(J:x.isRef=true) (h:dT w T g x v):v.oneCell'=true:=by
 obtain ⟨h,_⟩:=h;cases x <;> simp [ab.isRef] at J
 case ptr p k=>obtain ⟨_,_,_,_,rfl⟩:=h; rfl
 case a6 z p n=>obtain ⟨_,_,_,_,rfl,_⟩:=h; rfl
 case sub z p lo n=>obtain ⟨_,_,_,_,_,_,rfl,_⟩:=h; rfl
 case gz p=>obtain ⟨_,_,rfl⟩:=h; rfl
def mo:List ab->Option (List ab)
 | []=>some []
 | y::ys =>
  match jT y,mo ys with
  | some a,some b=>some (a++b)
  | _,_=>none
def gk (g:aM):List Operand->Option (List ab)
 | []=>some []
 | x::xs =>
  match bs g x,gk g xs with
  | some y,some ys=>some (y::ys)
  | _,_=>none
def u0 (place:Nat->Option (Nat × Nat)) (cells:List ab):List (Nat × List ab)->Option (List ab)
 | []=>some cells
 | (i,c)::rest =>
  match place i with
  | none=>none
  | some (off,size)=>if c.length=size/\off+c.length<=cells.length then u0 place (cells.take off++c++cells.drop (off+c.length)) rest else none
def rm (g:aM):List (Nat × Operand)->Option (List (Nat × List ab))
 | []=>some []
 | (i,x)::xs =>
  match bs g x,rm g xs with
  | some y,some ys=>(jT y).map λc=>(i,c)::ys
  | _,_=>none
def kz (P:Program) (t:TypeId) (pl:List (Nat × Nat)):Bool :=
 match P.underlying t with
 | some (.struct fs)=>fs.toList.map (λf=>(f.offset,(P.info? f.type).map (·.size))) == pl.map λ(a,b)=>(a,some b)
 | _=>false
inductive p7 (P:Program) (g:aM):Op->TypeId->ab->Prop
 | box {e ty:TypeId}{x:Operand}{y:ab}{cs:List ab}(J:bs g x=some y) (aa:jT y=some cs):p7 P g (.box e x) ty (.obj cs)
 | alloc {e ty:TypeId}{z:Value}(aY:(P.info? e).bind (·.zero)=some z) (h1:z.cells.all Value.oneCell'=true):p7 P g (.alloc e) ty (.obj (z.cells.toList.map lQ))
 | buildSlice {t e ty:TypeId}{z:Nat}{parts:Array (Nat × Operand)}{xs:List Operand}{ys:List ab}{cs:List ab}(aw:fr P t e z=true)
   (au:parts.toList=xs.mapIdx (λi x=>(i,x))) (J:gk g xs=some ys) (aY:∀ y∈ys,∃ c,jT y=some c/\c.length=z) (aa:mo ys=some cs) (av:xs.length * z<=16777216) (aF:xs.length<=16777216) (hzero:xs.length * z=0\/∃ v,(P.info? e).bind (·.zero)=some v/\v.cells.size=z) :
   p7 P g (.buildSlice t xs.length parts) ty (.own z xs.length cs)
 | makeSlice {t e ty:TypeId}{x y:Operand}{z n b:Nat}{zH pL:IntKind}{dJ:Value}(aw:fr P t e z=true) (J:bs g x=some (.lit (.int zH (n:Int)))) (ax:bs g y=some (.lit (.int pL (n:Int))))
   (hzero:(P.info? e).bind (·.zero)=some dJ) (h1:dJ.cells.all Value.oneCell'=true) (pH:dJ.cells.size=z) (av:(P.info? e).map (·.bytes)=some b) (aF:n * b<=140737488355328) (od:n<=4611686018427387904) {yw:List ab}(vv:yw.length=dJ.cells.size)
   (ES:∀ (k:Nat) (u:Value) (x:ab),dJ.cells[k]?=some u->yw[k]?=some x->x=lQ u\/(lQ u=.aJ/\∃ bE,x=.bj bE 0 [])) :
   p7 P g (.makeSlice t x y) ty (.own z n (List.replicate n yw).flatten)
 | makeMap {t ty:TypeId}{q:Array MapEntry->Nat->Prop}(bg:q #[] 0):p7 P g (.makeMap t none) ty (.mp q)
inductive uS (P:Program) (g:aM):Op->TypeId->ab->Prop
 | build {t ty:TypeId}{parts:Array (Nat × Operand)}{pl:List (Nat × Nat)}{dJ:Value}{ps:List (Nat × List ab)}{cs:List ab}(aw:kz P t pl=true) (aY:(P.info? t).bind (·.zero)=some dJ) (h1:dJ.cells.all Value.oneCell'=true)
   (au:rm g parts.toList=some ps) (aa:u0 (λi=>pl[i]?) (dJ.cells.toList.map lQ) ps=some cs):uS P g (.build t parts) ty (.agg cs)
 | makeFunc {fn:Fn}{first caps:Array Operand}{ty:TypeId}{a b:List ab}(aP:gk g first.toList=some a) (av:gk g caps.toList=some b):uS P g (.makeFunc fn first caps) ty (.cW fn a b)
section
variable {P:Program}{w:World}{I:bb}{T:Array Value}{g:aM}{Fs:Nat->bb}
theorem zT (h:cF w I T g Fs) {a:Act}(aP:a.tmps=T):∀ {xs:List Operand}{ys:List ab},gk g xs=some ys->ys.length=xs.length/\∀ (k:Nat) (y:ab) (x:Operand),ys[k]?=some y->xs[k]?=some x->R w I (dT w T g) y (a.eval x) cy
 | [],ys,ax=>by simp only [gk,Option.some.injEq] at ax; subst ax; simp
 | x::xs,ys,ax=>by
  simp only [gk] at ax;cases J:bs g x with
  | none=>simp [J] at ax
  | some y =>
   cases sc:gk g xs with
   | none=>simp [J,sc] at ax
   | some DC =>
    simp only [J,sc,Option.some.injEq] at ax;subst ax;obtain ⟨h1,af⟩:=zT h aP sc;refine ⟨by simp [h1],λk y' x' oR gf=>?_⟩;cases k with
    | zero=>simp at oR gf; subst oR gf; exact ke h J aP
    | succ k=>simp at oR gf; exact af k y' x' oR gf
theorem R.alloc (h:cF w I T g Fs) (o:Obj) {x:ab}{v:Value}{F:bb}(aZ:R w I (dT w T g) x v F) (aN:∀ c,F c->c<w.heap.size):R (w.alloc o) I (dT (w.alloc o) T g) x v F :=
 h.frame (λ_ _=>rfl) (λt c aa=>sv w o c (h.j0 t c aa)) (λc aa=>sv w o c (h.lt c aa)) (λ_ h=>h) (λ_ _ h=>h) aZ λc aa=>sv w o c (aN c aa)
theorem OZ {ρ:ab->Value->Prop}{vs:List Value}:∀ (k:Nat) (x:ab) (u:Value),(vs.map lQ)[k]?=some x->vs[k]?=some u->R w I ρ x u cy:=by
 intro k x u J hu;rw [List.getElem?_map,hu] at J;simp only [Option.map_some,Option.some.injEq] at J;subst J;exact CD u
theorem R.OY {ρ:ab->Value->Prop}{cs:List ab}{b:Nat}{e:TypeId}{arr:Array Value}(a1:w.heap[b]?=some (.cells arr e (0,0))) (ak:cs.length=arr.size) (h1:∀ (k:Nat) (u:Value),arr[k]?=some u->u.oneCell'=true)
  (ao:∀ (k:Nat) (x:ab) (u:Value),cs[k]?=some x->arr[k]?=some u->R w I ρ x u cy):R w I ρ (.obj cs) (.pointer (some ⟨b,0,none⟩)) (λc=>c=b) :=
 .obj (Fs:=λ_=>cy) a1 ak h1 ao (λ_ _ _ _ _ h=>h.elim) (λ_ _ h=>h) (λ_=>⟨λh=>.inl h,λh=>h.elim id λ⟨_,_,h⟩=>h.elim⟩)
theorem R.O' {ρ:ab->Value->Prop}{z n:Nat}{cs:List ab}{b cap:Nat}{e:TypeId}{arr:Array Value}(a1:w.heap[b]?=some (.cells arr e (0,0))) (aF:n<=cap) (aa:cap<=maxLen) (aC:arr.size=cap * z) (ak:cs.length=n * z) (h1:∀ (k:Nat) (u:Value),arr[k]?=some u->u.oneCell'=true)
  (ao:∀ (k:Nat) (x:ab) (u:Value),cs[k]?=some x->arr[k]?=some u->R w I ρ x u cy):R w I ρ (.own z n cs) (.slice (some ⟨b,0,none⟩) n cap) (λc=>c=b):=by
 have hle:n * z<=arr.size:=by rw [aC]; exact Nat.mul_le_mul_right _ aF
 refine .own (e:=e) (us:=arr.toList.take (n * z)) (Fs:=λ_=>cy) ⟨by simp; omega,.inr ⟨b,cap,arr,rfl,Nat.zero_le _,a1,aF,aa,aC,rfl⟩⟩ (by simp; omega) (λk u hu=>?_) ?_ (λ_ _ _ _ _ h=>h.elim) (λ_ _ _ h=>h.elim) (λc=>?_)
 ·rw [List.getElem?_take] at hu
  split at hu
  ·exact h1 k u (by simpa using hu)
  ·cases hu
 ·intro k x u J hu;rw [List.getElem?_take] at hu
  split at hu
  ·exact ao k x u J (by simpa using hu)
  ·cases hu
 ·simp only [Value.ownBlock,Option.some.injEq];exact ⟨λh=>.inl h.symm,λh=>h.elim Eq.symm λ⟨_,_,h⟩=>h.elim⟩
theorem LO {ρ:ab->Value->Prop}(lN:∀ x v,x.isRef=true->ρ x v->v.oneCell'=true):∀ {ys:List ab}{vs:List Value}{cs:List ab},ys.length=vs.length->(∀ (k:Nat) (y:ab) (v:Value),ys[k]?=some y->vs[k]?=some v->R w I ρ y v cy)->mo ys=some cs ->
  cs.length=(vs.flatMap λv=>v.cells.toList).length/\(∀ (k:Nat) (u:Value),(vs.flatMap λv=>v.cells.toList)[k]?=some u->u.oneCell'=true)/\∀ (k:Nat) (x:ab) (u:Value),cs[k]?=some x->(vs.flatMap λv=>v.cells.toList)[k]?=some u->R w I ρ x u cy
 | [],vs,cs,ak,ao,aa=>by
  cases vs with
  | nil=>simp only [mo,Option.some.injEq] at aa; subst aa; simp
  | cons=>simp at ak
 | y::ys,vs,cs,ak,ao,aa=>by
  cases vs with
  | nil=>simp at ak
  | cons v vs =>
   simp only [mo] at aa;cases aP:jT y with
   | none=>simp [aP] at aa
   | some a =>
    cases av:mo ys with
    | none=>simp [aP,av] at aa
    | some b =>
     simp only [aP,av,Option.some.injEq] at aa;subst aa;obtain ⟨h1,HF,af⟩:=(ao 0 y v rfl rfl).jT (λ_ h=>h) lN aP;obtain ⟨aI,TH,bK⟩:=LO lN (by simpa using ak) (λk y' gx ax hv=>ao (k+1) y' gx ax hv) av;refine ⟨by simp [h1,aI],λk u hu=>?_,λk x u J hu=>?_⟩
     ·simp only [List.flatMap_cons] at hu;by_cases hk:k<v.cells.toList.length
      ·rw [List.getElem?_append_left hk] at hu;exact HF k u (by simpa using hu)
      ·rw [List.getElem?_append_right (by omega)] at hu;exact TH _ u hu
     simp only [List.flatMap_cons] at hu;by_cases hk:k<a.length
     ·rw [List.getElem?_append_left hk] at J;rw [List.getElem?_append_left (by simp; omega)] at hu;exact af k x u J (by simpa using hu)
     ·rw [List.getElem?_append_right (by omega)] at J;rw [List.getElem?_append_right (by simp; omega)] at hu;refine bK (k - a.length) x u J ?_;rw [<- hu]; simp [h1]
end
end Go.Own
namespace Go.Own
open Go
theorem MK (off:Nat):∀ (l:List Value) (s:Nat) (arr:Array Value),off+s+l.length<=arr.size ->
  ((l.zipIdx s).foldl (λcs (x:Value × Nat)=>cs.setIfInBounds (off+x.2) x.1) arr).toList=arr.toList.take (off+s)++l++arr.toList.drop (off+s+l.length)
 | [],s,arr,h=>by simp
 | v::l,s,arr,h=>by
  simp only [List.length_cons] at h;rw [List.zipIdx_cons,List.foldl_cons,MK off l (s+1) _ (by simp; omega)];simp only [Array.toList_setIfInBounds,List.length_cons];have h1:(arr.toList.set (off+s) v).take (off+(s+1))=arr.toList.take (off+s)++[v]:=by
   rw [show off+(s+1)=off+s+1 by omega,List.take_succ_eq_append_getElem (by simp; omega)];rw [List.take_set_of_le (Nat.le_refl _)];simp
  have af:(arr.toList.set (off+s) v).drop (off+(s+1)+l.length)=arr.toList.drop (off+s+(l.length+1)):=by
   rw [List.drop_set_of_lt (by omega)];congr 1; omega
  rw [h1,af];simp
theorem MF {place:Nat->Option (Nat × Nat)}{i off size:Nat}(au:place i=some (off,size)) {arr:Array Value}{v:Value}(h1:v.cells.size=size) (af:off+v.cells.size<=arr.size) (rest:List (Nat × Value)) :
  ∃ jo:Array Value,Instr.fill place arr ((i,v)::rest)=Instr.fill place jo rest/\jo.toList=arr.toList.take off++v.cells.toList++arr.toList.drop (off+v.cells.size):=by
 refine ⟨_,by simp only [Instr.fill,au]; rw [if_neg (by simp; omega)],?_⟩;have:=MK off v.cells.toList 0 arr (by simpa using af)
 grind [Array.toList_zipIdx]
theorem ME (z:Nat):∀ (vs:List Value) (k:Nat) (arr:Array Value) (done rest:List Value),(∀ v∈vs,v.cells.size=z)->arr.toList=done++rest->done.length=k * z->rest.length=vs.length * z ->
  ∃ jo:Array Value,Instr.fill (λi=>some (i * z,z)) arr (vs.mapIdx λi v=>(k+i,v))=some jo/\jo.toList=done++vs.flatMap λv=>v.cells.toList
 | [],k,arr,done,rest,_,h1,af,aI=>by
  have:rest=[]:=List.eq_nil_of_length_eq_zero (by simpa using aI);subst this;exact ⟨arr,rfl,by simpa using h1⟩
 | v::vs,k,arr,done,rest,aY,h1,af,aI=>by
  have hv:=aY v (by simp);have hlen:arr.size=done.length+rest.length:=by rw [<- Array.length_toList,h1,List.length_append]
  simp only [List.length_cons,Nat.add_mul,Nat.one_mul] at aI;rw [List.mapIdx_cons];obtain ⟨D2,cA,cf⟩:=MF (place:=λi=>some (i * z,z)) (i:=k+0) (off:=k * z) (size:=z) (by simp) (arr:=arr) (v:=v) hv (by omega) ((vs.mapIdx λi v=>(k+(i+1),v)));have tB:D2.toList=(done++v.cells.toList)++rest.drop z:=by
   rw [cf,h1,<- af,List.take_left,hv,List.drop_append];simp
  obtain ⟨jo,fP,mR⟩:=ME z vs (k+1) D2 (done++v.cells.toList) (rest.drop z) (λu hu=>aY u (by simp [hu])) tB (by simp [af,hv,Nat.add_mul]) (by simp; omega);refine ⟨jo,?_,by rw [mR]; simp⟩;rw [cA,<- fP];congr 1;congr 1;funext i u;congr 1; omega
theorem Ls {vs:Array Value}(h:vs.all Value.oneCell'=true):∀ (k:Nat) (u:Value),vs[k]?=some u->u.oneCell'=true:=by grind
theorem GX {P:Program}{e:TypeId}{z:Value}(h:(P.info? e).bind (·.zero)=some z) (w:World):(zeroValue e).run P w=.ok z w:=by
 cases hi:P.info? e with
 | none=>simp [hi] at h
 | some i=>simp [hi] at h; simp [zeroValue,typeInfo,hi,h]
theorem MN {α:Type}(l:List α):∀ (n k:Nat),k<n * l.length->(List.replicate n l).flatten[k]?=l[k % l.length]?
 | 0,k,h=>by simp at h
 | n+1,k,h=>by
  rw [List.replicate_succ,List.flatten_cons];by_cases hk:k<l.length
  ·rw [List.getElem?_append_left hk,Nat.mod_eq_of_lt hk]
  ·rw [List.getElem?_append_right (by omega),MN l n (k - l.length) (by rw [Nat.add_mul] at h; omega)];rw [<- Nat.mod_eq_sub_mod (by omega)]
section
variable {P:Program}{w:World}{I:bb}{T:Array Value}{g:aM}{Fs:Nat->bb}
theorem RQ {ys cs:List ab}{z:Nat}(aY:∀ y∈ys,∃ c,jT y=some c/\c.length=z) (aa:mo ys=some cs):cs.length=ys.length * z:=by
 induction ys generalizing cs with
 | nil=>simp [mo] at aa; subst aa; simp
 | cons y ys aU =>
  obtain ⟨c,h1,af⟩:=aY y (by simp);simp only [mo,h1] at aa
  grind
theorem p7.sound (h:cF w I T g Fs) {a:Act}(aP:a.tmps=T) {o:Oper}{kD:ab}(au:p7 P g o.op o.type kD) :
  ∃ v sj,(execOp a.eval o).run P w=.ok (.value v) (w.alloc sj)/\R (w.alloc sj) I (dT (w.alloc sj) T g) kD v (λc=>c=w.heap.size):=by
 obtain ⟨dst,op,ty,pos,after,guard⟩:=o;simp only at au;have nj:∀ (sj:Obj) {x:ab}{v:Value},R w I (dT w T g) x v cy->R (w.alloc sj) I (dT (w.alloc sj) T g) x v cy:=λsj _ _ aZ=>R.alloc h sj aZ λ_ h=>h.elim;cases au with
 | @box e _ x y cs J aa =>
  have ax:=ke h J aP;obtain ⟨h1,HF,af⟩:=ax.jT (λ_ h=>h) (λ_ _ J ao=>ao.Fo J) aa;refine ⟨_,.cells (a.eval x).cells e,by simp [execOp,Instr.box,newVar,newRow],R.OY (e:=e) (tn w _) h1 HF λk x u J hu=>nj _ (af k x u J hu)⟩
 | @alloc e _ z aY hp =>
  refine ⟨_,.cells z.cells e,by simp [execOp,Instr.alloc,newVar,newRow,GX aY],R.OY (e:=e) (tn w _) (by simp) (Ls hp) λk x u J hu=>nj _ (OZ k x u J (by simpa using hu))⟩
 | @makeMap t _ q bg =>
  have IE:(Instr.makeMap t none).run P w=.ok (.map (some w.heap.size)) (w.alloc (.map #[] 0)):=rfl;exact ⟨.map (some w.heap.size),.map #[] 0,by simp [execOp,IE],.mp (tn w _) bg λc=>Iff.rfl⟩
 | @buildSlice t e _ z parts xs ys cs aw au J aY aa av kO hzero =>
  obtain ⟨hu,he,fY⟩:=qN (w:=w) aw;obtain ⟨ak,ao⟩:=zT h aP J;have ha:=RQ aY aa;have V':∀ v∈xs.map a.eval,v.cells.size=z:=by
   intro v hv;obtain ⟨x,zE,rfl⟩:=List.mem_map.1 hv;obtain ⟨k,hk,rfl⟩:=List.mem_iff_getElem.1 zE;have oR:ys[k]?=some (ys[k]'(by omega)):=List.getElem?_eq_getElem (by omega);obtain ⟨c,h1,af⟩:=aY _ (List.getElem_mem (l:=ys) (n:=k) (by omega));obtain ⟨aI,_,_⟩:=(ao k _ _ oR (List.getElem?_eq_getElem hk)).jT (λ_ h=>h) (λ_ _ J ao=>ao.Fo J) h1
   grind
  obtain ⟨dJ,WJ⟩:∃ dJ:Array Value,(xs.length * z=0/\dJ=#[])\/(xs.length * z≠0/\∃ v,dJ=v.cells/\(zeroValue e).run P w=.ok v w):=by
   by_cases aR:xs.length * z=0
   ·grind
   ·rcases hzero with h1 | ⟨v,h1,af⟩
    ·grind
    simp_all [GX]
  obtain ⟨arr,cA,cf⟩:=ME z (xs.map a.eval) 0 ((Array.range (xs.length * z)).map (dJ[· % dJ.size]!)) [] ((Array.range (xs.length * z)).map (dJ[· % dJ.size]!)).toList V' (by simp) (by simp) (by simp);have NV:(parts.map λ(p:Nat × Operand)=>(p.1,a.eval p.2)).toList=(xs.map a.eval).mapIdx λi v=>(0+i,v):=by
   rw [Array.toList_map,au];apply List.ext_getElem?
   grind
  obtain ⟨hF,iq,U6⟩:=LO (ρ:=dT w T g) (λ_ _ J ao=>ao.Fo J) (ys:=ys) (vs:=xs.map a.eval) (by simp [ak]) (λk y v ax hv=>by
   rw [List.getElem?_map] at hv;cases qz:xs[k]? with
   | none=>simp [qz] at hv
   | some x=>simp [qz] at hv; subst hv; exact ao k y x ax qz) aa
  have tL:arr.toList=(xs.map a.eval).flatMap λv=>v.cells.toList:=by simpa using cf
  have VY:arr.size=xs.length * z:=by rw [<- Array.length_toList,tL,<- hF,ha,ak]
  have hP:(execOp a.eval { dst:=dst,op:=.buildSlice t xs.length parts,type:=ty,pos:=pos,after:=after,guard:=guard }).run P w=.ok (.value (.slice (some ⟨w.heap.size,0,none⟩) xs.length xs.length)) (w.alloc (.cells arr e)):=by
   have hle:¬ (16777216<xs.length * z):=by omega
   rcases WJ with ⟨aR,rfl⟩ | ⟨aR,v,rfl,WI⟩
   ·simp only [aR] at cA;rw [<- NV] at cA;simp at cA;simp [execOp,Instr.buildSlice,run_underlying hu,fY,aR,cA,newRow]
   ·rw [<- NV] at cA;simp at cA;simp [execOp,Instr.buildSlice,run_underlying hu,fY,aR,hle,WI,cA,newRow]
  refine ⟨_,_,hP,R.O' (e:=e) (arr:=arr) (tn w _) (Nat.le_refl _) ?_ VY (by rw [ha,ak]) (λk u hu=>iq k u (by rw [<- tL]; simpa using hu)) λk x u J hu=>nj _ (U6 k x u J ?_)⟩
  ·grind [maxLen]
  grind
 | @makeSlice t e _ x y z n b zH pL dJ aw J ax hzero hp pH av aF od yw vv ES =>
  obtain ⟨hu,he,fY⟩:=qN (w:=w) aw;have h1:=(ke h J aP).hB.1;have af:=(ke h ax aP).hB.1;cases hi:P.info? e with
  | none=>simp [hi] at av
  | some i =>
   simp [hi] at av hzero;have NH:i.size=z:=by
    grind [fr]
   have Et:(i.bytes:Int) * (n:Int)<=281474976710656:=by
    grind
   have ao:=run_make (P:=P) w t e i dJ hu hi hzero zH pL n n (by omega) (Int.le_refl _) Et (by omega);simp only [Int.toNat_natCast] at ao;refine ⟨_,.cells (madeCells dJ.cells (n * i.size)) e,by simp [execOp,h1,af,ao],R.O' (e:=e) (tn w _) (Nat.le_refl _) (by unfold maxLen; omega) (by rw [size_madeCells,NH]) (by simp [pH,vv]) (λk u hu=>?_) λk x u J hu=>?_⟩
   ·grind [madeCells,Nat.mod_lt]
   have hk:k<n * dJ.cells.size:=by
    have:=(List.getElem?_eq_some_iff.1 J).1
    simp_all
   have aR:0<dJ.cells.size:=by
    grind
   have hm:k % dJ.cells.size<dJ.cells.size:=Nat.mod_lt _ aR;rw [MN _ n k (by simpa [vv] using hk),vv] at J;rw [madeCells,Array.getElem?_map,Array.getElem?_range,if_pos (by rw [NH,<- pH]; exact hk)] at hu;simp only [Option.map_some,Option.some.injEq] at hu;have jO:dJ.cells[k % dJ.cells.size]! = dJ.cells[k % dJ.cells.size]:=by simp [hm]
   rw [jO] at hu;subst hu;rcases ES _ _ x (Array.getElem?_eq_getElem hm) J with rfl | ⟨h1,bE,rfl⟩
   ·grind [CD]
   ·have aZ:=CD (w:=w) (I:=I) (ρ:=dT w T g) dJ.cells[k % dJ.cells.size];rw [h1] at aZ;rw [aZ.se];exact .hG λ_ h=>h
def Cells (w:World) (I:bb) (ρ:ab->Value->Prop) (cs:List ab) (vs:List Value):Prop :=
 cs.length=vs.length/\(∀ (k:Nat) (u:Value),vs[k]?=some u->u.oneCell'=true)/\∀ (k:Nat) (x:ab) (u:Value),cs[k]?=some x->vs[k]?=some u->R w I ρ x u cy
theorem Cells.append {ρ:ab->Value->Prop}{a b:List ab}{u v:List Value}(h:Cells w I ρ a u) (aQ:Cells w I ρ b v):Cells w I ρ (a++b) (u++v):=by
 refine ⟨by simp [h.1,aQ.1],λk y ax=>?_,λk x y J ax=>?_⟩
 ·by_cases hk:k<u.length
  ·rw [List.getElem?_append_left hk] at ax; exact h.2.1 k y ax
  ·rw [List.getElem?_append_right (by omega)] at ax; exact aQ.2.1 _ y ax
 ·by_cases hk:k<a.length
  ·rw [List.getElem?_append_left hk] at J;rw [List.getElem?_append_left (by rw [<- h.1]; exact hk)] at ax;exact h.2.2 k x y J ax
  ·rw [List.getElem?_append_right (by omega)] at J;rw [List.getElem?_append_right (by rw [<- h.1]; omega)] at ax;exact aQ.2.2 _ x y J (by rw [h.1]; exact ax)
theorem Cells.take {ρ:ab->Value->Prop}{a:List ab}{u:List Value}(h:Cells w I ρ a u) (n:Nat):Cells w I ρ (a.take n) (u.take n):=by
 refine ⟨by simp [h.1],λk y ax=>?_,λk x y J ax=>?_⟩
 ·rw [List.getElem?_take] at ax
  split at ax
  ·exact h.2.1 k y ax
  grind
 ·rw [List.getElem?_take] at J ax
  split at J
  ·rename_i hk;rw [if_pos hk] at ax;exact h.2.2 k x y J ax
  grind
theorem Cells.drop {ρ:ab->Value->Prop}{a:List ab}{u:List Value}(h:Cells w I ρ a u) (n:Nat):Cells w I ρ (a.drop n) (u.drop n):=by
 refine ⟨by simp [h.1],λk y ax=>?_,λk x y J ax=>?_⟩
 ·rw [List.getElem?_drop] at ax; exact h.2.1 _ y ax
 ·rw [List.getElem?_drop] at J ax;exact h.2.2 _ x y J ax
theorem MD {ρ:ab->Value->Prop}{place:Nat->Option (Nat × Nat)}:∀ (ps:List (Nat × List ab)) (ta:List (Nat × Value)) {cells cs:List ab}{arr:Array Value},Cells w I ρ cells arr.toList ->
  ps.map (·.1)=ta.map (·.1)->(∀ (k:Nat) (p:Nat × List ab) (q:Nat × Value),ps[k]?=some p->ta[k]?=some q->Cells w I ρ p.2 q.2.cells.toList)->u0 place cells ps=some cs ->
  ∃ jo:Array Value,Instr.fill place arr ta=some jo/\Cells w I ρ cs jo.toList
 | [],ta,cells,cs,arr,aa,hk,_,aW=>by
  cases ta with
  | nil=>simp only [u0,Option.some.injEq] at aW; subst aW; exact ⟨arr,rfl,aa⟩
  | cons=>simp at hk
 | (i,c)::ps,ta,cells,cs,arr,aa,hk,ao,aW=>by
  cases ta with
  | nil=>simp at hk
  | cons q ta =>
   obtain ⟨j,v⟩:=q;simp only [List.map_cons,List.cons.injEq] at hk;obtain ⟨rfl,hk⟩:=hk;have aR:=ao 0 _ _ rfl rfl;simp only [u0] at aW;cases au:place i with
   | none=>simp [au] at aW
   | some os =>
    obtain ⟨off,size⟩:=os;simp only [au] at aW
    split at aW
    ·rename_i ab6;have hlen:v.cells.size=c.length:=by rw [<- Array.length_toList]; exact aR.1.symm
     have NN:arr.size=cells.length:=by rw [<- Array.length_toList]; exact aa.1.symm
     obtain ⟨D2,cA,cf⟩:=MF (arr:=arr) (v:=v) au (by omega) (by omega) ta;have iq:Cells w I ρ (cells.take off++c++cells.drop (off+c.length)) D2.toList:=by
      rw [cf,hlen];exact ((aa.take off).append aR).append (aa.drop _)
     obtain ⟨jo,fP,mR⟩:=MD ps ta iq hk (λk p q au bg=>ao (k+1) p q au bg) aW;exact ⟨jo,by rw [cA,fP],mR⟩
    ·cases aW
theorem Pf (h:cF w I T g Fs) {a:Act}(aP:a.tmps=T):∀ {l:List (Nat × Operand)}{ps:List (Nat × List ab)},rm g l=some ps ->
  ps.map (·.1)=(l.map λp=>(p.1,a.eval p.2)).map (·.1)/\∀ (k:Nat) (p:Nat × List ab) (q:Nat × Value),ps[k]?=some p->(l.map λp=>(p.1,a.eval p.2))[k]?=some q->Cells w I (dT w T g) p.2 q.2.cells.toList
 | [],ps,au=>by simp only [rm,Option.some.injEq] at au; subst au; simp
 | (i,x)::l,ps,au=>by
  simp only [rm] at au;cases J:bs g x with
  | none=>simp [J] at au
  | some y =>
   cases ak:rm g l with
   | none=>simp [J,ak] at au
   | some acV =>
    simp only [J,ak,Option.map_eq_some_iff] at au;obtain ⟨c,aa,rfl⟩:=au;obtain ⟨h1,af⟩:=Pf h aP ak;refine ⟨by simp [h1],λk p q au bg=>?_⟩;cases k with
    | zero =>
     simp at au bg;subst au bg;obtain ⟨aI,TF,bK⟩:=(ke h J aP).jT (λ_ h=>h) (λ_ _ J ao=>ao.Fo J) aa;exact ⟨by simpa using aI,λk u hu=>TF k u (by simpa using hu),λk x u J hu=>bK k x u J (by simpa using hu)⟩
    | succ k=>simp at au bg; exact af k p q au (by simpa using bg)
theorem YL {t:TypeId}{pl:List (Nat × Nat)}(h:kz P t pl=true):∃ fs,P.underlying t=some (.struct fs)/\fs.toList.mapM (λf=>(P.info? f.type).map λi=>(f.offset,i.size))=some pl:=by
 unfold kz at h;cases hu:P.underlying t with
 | none=>simp [hu] at h
 | some d =>
  cases d <;> simp only [hu,Bool.false_eq_true] at h;rename_i fs;refine ⟨fs,rfl,?_⟩;replace h:=LawfulBEq.eq_of_beq h;generalize fs.toList=l at h
  induction l generalizing pl with
  | nil=>cases pl with
   | nil=>rfl
   | cons=>simp at h
  | cons f l aU =>
   cases pl with
   | nil=>simp at h
   | cons p pl =>
    obtain ⟨o,s⟩:=p;simp only [List.map_cons,List.cons.injEq,Prod.mk.injEq] at h;obtain ⟨⟨rfl,h1⟩,af⟩:=h;have:=aU af;rw [List.mapM_cons,this];cases hi:P.info? f.type with
    | none=>simp [hi] at h1
    | some i=>simp [hi] at h1; subst h1; rfl
theorem uS.sound (h:cF w I T g Fs) {a:Act}(aP:a.tmps=T) {o:Oper}{kD:ab}(au:uS P g o.op o.type kD) :
  ∃ v,(execOp a.eval o).run P w=.ok (.value v) w/\R w I (dT w T g) kD v cy:=by
 obtain ⟨dst,op,ty,pos,after,guard⟩:=o;simp only at au;cases au with
 | @build t _ parts pl dJ ps cs aw aY hp au aa =>
  obtain ⟨fs,hu,tZ⟩:=YL aw;obtain ⟨h1,af⟩:=Pf h aP au;obtain ⟨jo,cA,cf⟩:=MD (w:=w) (I:=I) (ρ:=dT w T g) (place:=λi=>pl[i]?) ps _ (arr:=dJ.cells) ⟨by simp,λk u hu=>Ls hp k u (by simpa using hu),λk x u J hu=>OZ k x u J hu⟩ h1 af aa;refine ⟨.agg jo,?_,.agg (Fs:=λ_=>cy) (by simpa using cf.1) (λk u hu=>cf.2.1 k u (by simpa using hu)) (λk x u J hu=>cf.2.2 k x u J (by simpa using hu)) (λ_ _ _ _ _ h=>h.elim) (λc=>⟨λh=>h.elim,λ⟨_,_,h⟩=>h⟩)⟩;have acF:=run_places (P:=P) w fs.toList pl tZ;have av:P.built t ((parts.map λ(p:Nat × Operand)=>(p.1,a.eval p.2))).toList=some jo:=by
   rw [Array.toList_map];cases hi:P.info? t with
   | none=>simp [hi] at aY
   | some it =>
    simp_all [Program.built]
  simp_all [run_build,execOp]
 | @makeFunc fn first caps _ gR gu h1 af =>
  obtain ⟨aE,a2⟩:=zT h aP h1;obtain ⟨hg,iC⟩:=zT h aP af;refine ⟨.func fn (first.map a.eval) (caps.map a.eval),by simp [execOp,Instr.makeFunc],.cW (λ_ h=>h) (by simpa using aE) (by simpa using hg) (λk x u J hu=>?_) (λk x u J hu=>?_)⟩
  ·grind
  grind
end
end Go.Own
namespace Go.Own
open Go
structure DI (w w':World) (bv gx:Value) (e cf:TypeId) (z n m:Nat) (us news:List Value):Prop where
 nj:w'.ownsRow 0 e z bv n us
 new:w'.ownsRow 0 cf z gx (n+m) (us++news)
 eT:Fr w w' (λc=>bv.ownBlock=some c)
 D5:∀ c,gx.ownBlock=some c->bv.ownBlock=some c\/w.heap.size<=c
 sp:∀ c,bv.ownBlock=some c->∃ arr jo:Array Value,w.heap[c]?=some (.cells arr e (0,0))/\w'.heap[c]?=some (.cells jo e (0,0))/\jo.size=arr.size/\jo.toList.take (n * z)=arr.toList.take (n * z)
section
variable {P:Program}{w:World}
theorem DI.same {bv gx:Value}{e cf:TypeId}{z n m:Nat}{us news:List Value}{w':World}(lb:w.ownsRow 0 e z bv n us) (av:∀ c,c<w.heap.size->w'.heap[c]?=w.heap[c]?) (aC:w.heap.size<=w'.heap.size)
  (h1:w'.os=w.os) (af:w'.tape=w.tape) (aI:w'.output=w.output) (r5:w'.ownsRow 0 cf z gx (n+m) (us++news)) (hblk:∀ c,gx.ownBlock=some c->bv.ownBlock=some c\/w.heap.size<=c) (rb:∀ a,w'.frozen? a=w.frozen? a) (U9:w.drawn<=w'.drawn:=by first | exact Nat.le_refl _ | exact Nat.le_succ _):DI w w' bv gx e cf z n m us news:=by
 have aT:=lb.lt;refine ⟨vH lb λc aa=>av c (aT c aa).2,r5,⟨h1,af,aI,aC,λb l3 _=>av b l3,λa _=>rb a,U9⟩,hblk,λc aa=>?_⟩;obtain ⟨_,bY⟩:=lb;rcases bY with ⟨rfl,_⟩ | ⟨b,cap,cur,rfl,_,aO,_⟩
 ·simp [Value.ownBlock] at aa
 ·simp only [Value.ownBlock,Option.some.injEq] at aa;subst aa;exact ⟨cur,cur,aO,(av _ (aT b rfl).2).trans aO,rfl,rfl⟩
theorem X' (t ty e cj:TypeId) (i:TypeInfo) (aw:P.underlying t=some (.slice e)) (hi:P.info? e=some i)
  (b yg Km:Nat) (cur:Array Value) (aO:w.heap[b]?=some (.cells cur cj (0,0)))
  (a:Addr) (m c:Nat) (news:List Value) (ak:news.length=m * i.size) (tY:∀ j u,news[j]?=some u->w.cell? (a.add j)=some u) (h1:∀ u∈news,u.oneCell'=true)
  (B2:yg+m<=Km) (w9:yg * i.size+news.length<=cur.size) :
  (Builtin.append_ #[t,t] ty #[.slice (some ⟨b,0,none⟩) yg Km,.slice (some a) m c]).run P w =
   .ok (.slice (some ⟨b,0,none⟩) (yg+m) Km) (w.setRow b (cur.toList.take (yg * i.size)++news++cur.toList.drop (yg * i.size+news.length)).toArray):=by
 have aW:=run_firstCells_some (P:=P) w i.size m a m c news ak tY;have b0:=run_storeCells_at P b (yg * i.size) cj news 0 cur w aO (by simpa using w9) h1;simp only [Nat.add_zero] at b0;simp [Builtin.append_,run_underlying aw,sizeOf,typeInfo,hi,Builtin.lenOf,B2,aW,Addr.add_lit,b0]
theorem PC (t ty e cj:TypeId) (i:TypeInfo) (dJ:Value) (aw:P.underlying t=some (.slice e)) (hi:P.info? e=some i) (aY:i.zero=some dJ) (pH:dJ.cells.size=i.size) (_h0:0<i.size)
  {bv:Value}{n m c:Nat}{us news:List Value}(lb:w.ownsRow 0 cj i.size bv n us) {a:Option Addr}(aP:0<m->a.isSome=true)
  (ak:news.length=m * i.size) (tY:∀ ad,a=some ad->∀ (j:Nat) (u:Value),news[j]?=some u->w.cell? (ad.add j)=some u) (h1:∀ u∈news,u.oneCell'=true)
  (q':n+m<=maxLen) (Et:(n+m) * i.bytes<=140737488355328) :
  ∃ gx w' cf,(Builtin.append_ #[t,t] ty #[bv,.slice a m c]).run P w=.ok gx w'/\DI w w' bv gx cj cf i.size n m us news:=by
 have l9:=lb.1;by_cases hm:m=0
 ·subst hm;have aF:news=[]:=List.eq_nil_of_length_eq_zero (by simpa using ak);subst aF;refine ⟨bv,w,cj,?_,.same lb (λ_ _=>rfl) (Nat.le_refl _) rfl rfl rfl (by simpa using lb) (λc aa=>.inl aa) λ_=>rfl⟩;obtain ⟨_,bY⟩:=lb;rcases bY with ⟨rfl,rfl⟩ | ⟨b,cap,cur,rfl,_,aO,hle,_⟩
  ·cases a <;> simp [Builtin.append_,run_underlying aw,sizeOf,typeInfo,hi,Builtin.lenOf,Builtin.firstCells,loadCells,loadCellsFrom]
  ·cases a <;> simp [Builtin.append_,run_underlying aw,sizeOf,typeInfo,hi,Builtin.lenOf,Builtin.firstCells,loadCells,loadCellsFrom,hle,storeCells]
 ·cases a with
  | none=>simp at aP; omega
  | some ad =>
   replace tY:=tY ad rfl;have acG:n+m<=9223372036854775807:=by simp only [maxLen] at q'; omega
   have grown:∀ (nj:Nat),nj<n+m ->
     (w.drew.alloc (.cells (us.toArray++news.toArray++Builtin.zeroCells dJ.cells (grownCap w (n+m) nj e - (n+m))) e)).ownsRow 0 e i.size (.slice (some ⟨w.heap.size,0,none⟩) (n+m) (grownCap w (n+m) nj e)) (n+m) (us++news):=by
    intro nj a1;have dU:=grownCap_ge w (n+m) nj e;have hlen:(us++news).length=(n+m) * i.size:=by rw [List.length_append,l9,ak,Nat.add_mul]
    refine ⟨hlen,.inr ⟨w.heap.size,_,_,rfl,Nat.zero_le _,tn w.drew _,dU,grownCap_le_maxLen w (n+m) nj e q',?_,?_⟩⟩
    ·simp only [Array.size_append,List.size_toArray,size_zeroCells,pH,l9,ak,<- Nat.add_mul];congr 1;omega
    ·simp only [Array.toList_append,List.append_assoc];rw [<- List.append_assoc,<- hlen];exact List.take_left
   have II:=lb;obtain ⟨_,bY⟩:=lb;rcases bY with ⟨rfl,rfl⟩ | ⟨b,cap,cur,rfl,_,aO,hle,u_,hF,N6⟩
   ·have J:us=[]:=List.eq_nil_of_length_eq_zero (by simpa using l9);subst J;have ao:=run_append_nil (P:=P) w t ty e i dJ aw hi aY ad m c news ak tY (by omega) (by omega) (by simp only [Nat.zero_add] at Et; omega);have r3:=grown 0 (by omega);simp only [Nat.zero_add,List.nil_append,Array.empty_append] at r3;exact ⟨_,_,e,ao,.same II (λc aa=>sv w.drew _ c aa) (by simp) rfl rfl rfl (by simpa using r3) (λc aa=>.inr (by simp [Value.ownBlock] at aa; omega)) (λa=>Hw w.drew _ _ a)⟩
   ·by_cases B2:n+m<=cap
    ·have w9:n * i.size+news.length<=cur.size:=by rw [ak,hF,<- Nat.add_mul]; exact Nat.mul_le_mul_right _ B2
     have ao:=X' (P:=P) (w:=w) t ty e cj i aw hi b n cap cur aO ad m c news ak tY h1 B2 w9;have hlen:(us++news).length=(n+m) * i.size:=by rw [List.length_append,l9,ak,Nat.add_mul]
     have fY:(cur.toList.take (n * i.size)++news++cur.toList.drop (n * i.size+news.length)).toArray.size=cur.size:=by
      simp only [List.size_toArray,List.length_append,List.length_take,List.length_drop,Array.length_toList];omega
     have gj:(cur.toList.take (n * i.size)++news++cur.toList.drop (n * i.size+news.length)).take (n * i.size)=cur.toList.take (n * i.size):=by
      rw [List.append_assoc];exact List.take_left' (by simp; omega)
     refine ⟨_,_,cj,ao,⟨⟨l9,.inr ⟨b,cap,_,rfl,Nat.zero_le _,setRow_heap w b cur _ cj _ aO,hle,u_,fY.trans hF,?_⟩⟩,⟨hlen,.inr ⟨b,cap,_,rfl,Nat.zero_le _,setRow_heap w b cur _ cj _ aO,B2,u_,fY.trans hF,?_⟩⟩,
      ⟨rfl,rfl,rfl,by simp,λk _ hk=>setRow_other w b k _ (λe=>hk (by simp [Value.ownBlock,e])),λa _=>Hy w b _ a,Nat.le_refl _⟩,λc aa=>.inl aa,λc aa=>?_⟩⟩
     ·rw [<- N6]; exact gj
     ·rw [N6,<- hlen];exact List.take_left
     ·simp only [Value.ownBlock,Option.some.injEq] at aa;subst aa;exact ⟨cur,_,aO,setRow_heap w b cur _ cj _ aO,fY,gj⟩
    ·have holds:∀ (j:Nat) (u:Value),us[j]?=some u->w.cell? ((⟨b,0,none⟩:Addr).add j)=some u:=II.cells (g:=b) rfl;have ao:=run_append_grow (P:=P) w t ty e i dJ aw hi aY ⟨b,0,none⟩ n cap us l9 holds ad m c news ak tY (by omega) (by omega) (growslice_fits (by omega) Et);have r3:=grown cap (by omega);exact ⟨_,_,e,ao,.same II (λc aa=>sv w.drew _ c aa) (by simp) rfl rfl rfl r3 (λc aa=>.inr (by simp [Value.ownBlock] at aa; omega)) (λa=>Hw w.drew _ _ a)⟩
end
end Go.Own
namespace Go.Own
open Go
section
variable {w w':World}{I:bb}{ρ ρ':ab->Value->Prop}
theorem R.kids {x:ab}{v:Value}{F:bb}(h:R w I ρ x v F) (J:x.kids≠[]):∃ Fs:Nat->bb,
  (∀ k y,x.kids[k]?=some y->∃ u,child w v k=some u/\R w I ρ y u (Fs k))/\(∀ (j k c:Nat),j<x.kids.length->k<x.kids.length->Fs j c->Fs k c->j=k) /\
  (∀ k c,k<x.kids.length->Fs k c->F c)/\(∀ z n cs,x=.own z n cs->∀ c,v.ownBlock=some c->∀ k,k<x.kids.length->¬ Fs k c):=by
 cases h with
 | @own z n cs _ e us Fs _ a1 ak h1 ao aS av aN =>
  refine ⟨Fs,λk y hk=>?_,aS,λk c hk aa=>(aN c).2 (.inr ⟨k,hk,aa⟩),λ_ _ _ _ c aa k hk h=>av k c hk h aa⟩;simp only [ab.kids] at hk;have aT:k<cs.length:=(List.getElem?_eq_some_iff.1 hk).1;have hu:us[k]?=some us[k]:=List.getElem?_eq_getElem (ak ▸ aT)
  grind [pQ]
 | @obj cs b e arr Fs _ a1 ak h1 ao aS av aN =>
  refine ⟨Fs,λk y hk=>?_,aS,λk c hk aa=>(aN c).2 (.inr ⟨k,hk,aa⟩),λ_ _ _ h=>by simp at h⟩;simp only [ab.kids] at hk;have aT:k<cs.length:=(List.getElem?_eq_some_iff.1 hk).1;have hu:arr[k]?=some arr[k]:=Array.getElem?_eq_getElem (ak ▸ aT);exact ⟨_,by simp [child,World.cell?,a1,hu],ao k y _ hk hu⟩
 | @agg cs vs Fs _ ak h1 ao aS aN =>
  refine ⟨Fs,λk y hk=>?_,aS,λk c hk aa=>(aN c).2 ⟨k,hk,aa⟩,λ_ _ _ h=>by simp at h⟩;simp only [ab.kids] at hk;have aT:k<cs.length:=(List.getElem?_eq_some_iff.1 hk).1
  simp_all [child]
 | @bW cs vs Fs _ ak ao aS aN =>
  refine ⟨Fs,λk y hk=>?_,aS,λk c hk aa=>(aN c).2 ⟨k,hk,aa⟩,λ_ _ _ h=>by simp at h⟩;simp only [ab.kids] at hk;have aT:k<cs.length:=(List.getElem?_eq_some_iff.1 hk).1
  simp_all [child]
 | ref gf=>cases x <;> simp [ab.isRef,ab.kids] at gf J
 | _=>simp [ab.kids] at J
theorem ab.uX {x y:ab}{k:Nat}{p:List Nat}(h:x.at (k::p)=some y):∃ c,x.kids[k]?=some c/\c.at p=some y:=by
 grind [ab.at]
theorem R.JT {b:Nat}:∀ (q r:List Nat) {x:ab}{v:Value}{F:bb}{z n bE cE:Nat}{cs cs':List ab}{mG Dt:Value},R w I ρ x v F->x.at q=some (.own z n cs)->x.at r=some (.own bE cE cs') ->
  walk w v q=some mG->walk w v r=some Dt->mG.ownBlock=some b->Dt.ownBlock=some b->q=r
 | [],[],_,_,_,_,_,_,_,_,_,_,_,_,_,_,_,_,_,_=>rfl
 | [],k::r,x,v,F,z,n,bE,cE,cs,cs',mG,Dt,h,bg,ao,ou,wr,y4,y5=>by
  obtain ⟨c,hk,aa⟩:=ab.uX ao;simp only [ab.at,Option.some.injEq] at bg;simp only [walk,Option.some.injEq] at ou;subst bg ou;have aT:k<(ab.own z n cs).kids.length:=(List.getElem?_eq_some_iff.1 hk).1;obtain ⟨Fs,h1,af,aI,bK⟩:=h.kids (by intro e; rw [e] at aT; simp at aT);obtain ⟨u,hu,mU⟩:=h1 k c hk;simp only [walk,hu] at wr;obtain ⟨h0,cB,hw,dI,dy,_⟩:=R.focus r mU aa;rw [hw] at wr;cases wr;exact absurd (dy b (dI.qE b y5)) (bK z n cs rfl b y4 k aT)
 | j::q,[],x,v,F,z,n,bE,cE,cs,cs',mG,Dt,h,bg,ao,ou,wr,y4,y5=>by
  obtain ⟨c,hk,aa⟩:=ab.uX bg;simp only [ab.at,Option.some.injEq] at ao;simp only [walk,Option.some.injEq] at wr;subst ao wr;have aT:j<(ab.own bE cE cs').kids.length:=(List.getElem?_eq_some_iff.1 hk).1;obtain ⟨Fs,h1,af,aI,bK⟩:=h.kids (by intro e; rw [e] at aT; simp at aT);obtain ⟨u,hu,mU⟩:=h1 j c hk;simp only [walk,hu] at ou;obtain ⟨h0,cB,hw,dI,dy,_⟩:=R.focus q mU aa;rw [hw] at ou;cases ou;exact absurd (dy b (dI.qE b y4)) (bK bE cE cs' rfl b y5 j aT)
 | j::q,k::r,x,v,F,z,n,bE,cE,cs,cs',mG,Dt,h,bg,ao,ou,wr,y4,y5=>by
  obtain ⟨c,ah,aa⟩:=ab.uX bg;obtain ⟨d,hk,aS⟩:=ab.uX ao;have eZ:j<x.kids.length:=(List.getElem?_eq_some_iff.1 ah).1;have fw:k<x.kids.length:=(List.getElem?_eq_some_iff.1 hk).1;obtain ⟨Fs,h1,af,aI,bK⟩:=h.kids (by intro e; rw [e] at eZ; simp at eZ);obtain ⟨u,hu,mU⟩:=h1 j c ah;obtain ⟨v',jO,HR⟩:=h1 k d hk;simp only [walk,hu] at ou;simp only [walk,jO] at wr;by_cases gV:j=k
  ·subst gV;rw [ah] at hk; cases hk;rw [hu] at jO; cases jO;rw [R.JT q r mU aa aS ou wr y4 y5]
  ·exfalso;obtain ⟨h0,cB,hw,dI,dy,_⟩:=R.focus q mU aa;obtain ⟨Zh,jl,vp,Bz,T8,_⟩:=R.focus r HR aS;rw [hw] at ou; cases ou;rw [vp] at wr; cases wr;exact gV (af j k b eZ fw (dy b (dI.qE b y4)) (T8 b (Bz.qE b y5)))
theorem ab.PR:∀ (q:List Nat) {x y:ab},x.at q=some y->x.setAt q y=x
 | [],x,y,h=>by simp [ab.at] at h; simp [ab.setAt,h]
 | k::q,x,y,h=>by
  obtain ⟨c,hk,aa⟩:=ab.uX h;simp only [ab.setAt,hk,ab.PR q aa];have:∀ (l:List ab),l[k]?=some c->l.set k c=l:=by
   intro l ak;apply List.ext_getElem?;intro j;by_cases gV:k=j
   ·subst gV;have aT:k<l.length:=(List.getElem?_eq_some_iff.1 ak).1;rw [List.getElem?_set_self aT,ak]
   ·rw [List.getElem?_set_ne gV]
  cases x <;> simp [ab.kids] at hk <;> simp [ab.v8,this _ hk]
theorem Dw (w:World):∀ (p:List Nat) (v:Value) (r:List Nat),walk w v (p++r)=(walk w v p).bind λu=>walk w u r
 | [],v,r=>rfl
 | k::p,v,r=>by
  simp only [List.cons_append,walk];cases child w v k with
  | none=>rfl
  | some u=>exact Dw w p u r
theorem ab.GS:∀ (p:List Nat) (x:ab) (r:List Nat),x.at (p++r)=(x.at p).bind λy=>y.at r
 | [],x,r=>rfl
 | k::p,x,r=>by
  simp only [List.cons_append,ab.at];cases x.kids[k]? with
  | none=>rfl
  | some u=>exact ab.GS p u r
structure DV (w w':World) (b M:Nat):Prop where
 other:∀ c,c<w.heap.size->c≠b->w'.heap[c]?=w.heap[c]?
 here:∃ (arr jo:Array Value) (e:TypeId),w.heap[b]?=some (.cells arr e (0,0))/\w'.heap[b]?=some (.cells jo e (0,0))/\jo.size=arr.size/\jo.toList.take M=arr.toList.take M
theorem DV.row {b M:Nat}(s:DV w w' b M) {e:TypeId}{z n:Nat}{v:Value}{us:List Value}(h:w.ownsRow 0 e z v n us) (aF:v.ownBlock=some b->n * z<=M):w'.ownsRow 0 e z v n us:=by
 by_cases av:v.ownBlock=some b
 ·obtain ⟨arr,jo,cA,h1,af,aI,bK⟩:=s.here;obtain ⟨hu,bY⟩:=h;rcases bY with ⟨rfl,rfl⟩ | ⟨g,cap,cur,rfl,aO,aa,s6,jQ,Au,x_⟩
  ·grind [Value.ownBlock]
  ·simp only [Value.ownBlock,Option.some.injEq] at av;subst av;rw [h1] at aa;cases aa;refine ⟨hu,.inr ⟨g,cap,jo,rfl,aO,af,s6,jQ,by omega,?_⟩⟩;rw [<- x_];have:=congrArg (List.take (n * z)) bK
   rwa [List.take_take,List.take_take,Nat.min_eq_left (aF rfl)] at this
 ·exact vH h λc aa=>s.other c (h.lt c aa).2 λe=>av (e ▸ aa)
theorem R.spare {b M:Nat}(s:DV w w' b M) (bf:∀ c,I c->c<w.heap.size/\c≠b) (lN:∀ x v,ρ x v->ρ' x v) {x:ab}{v:Value}{F:bb}(h:R w I ρ x v F) {q:List Nat}{z n:Nat}{cs:List ab}{h0:Value}
  (gq:x.at q=some (.own z n cs)) (hw:walk w v q=some h0) (av:h0.ownBlock=some b) (aF:n * z<=M) :
  R w' I ρ' x v F/\∀ r y,x.at r=some y->walk w' v r=walk w v r:=by
 obtain ⟨Zh,cB,vp,dI,dy,eY,kf⟩:=R.focus q h gq;rw [hw] at vp;cases vp;have mw:cB b:=dI.qE b av;have aT:=h.lt;have same:∀ c,F c->c≠b->w'.heap[c]?=w.heap[c]?:=λc aa dr=>s.other c (aT c aa) dr;have ab0:=dI;cases dI with
 | ref J=>simp [ab.isRef] at J
 | @own _ _ _ _ e us Fs _ a1 ak h1 ao aS iM aN =>
  have nI:=s.row a1 λ_=>aF;have dr:∀ k c,k<cs.length->Fs k c->c≠b:=λk c hk aa e=>iM k c hk aa (e ▸ av);have jK:∀ k c,k<cs.length->Fs k c->F c:=λk c hk aa=>dy c ((aN c).2 (.inr ⟨k,hk,aa⟩));have r5:R w' I ρ' (.own z n cs) h0 cB:=by
   refine .own nI ak h1 (λk x u J hu=>?_) aS iM aN;have hk:k<cs.length:=(List.getElem?_eq_some_iff.1 J).1;exact (ao k x u J hu).frame (λc aa=>s.other c (bf c aa).1 (bf c aa).2) (λ_ h=>h) lN λc aa=>same c (jK k c hk aa) (dr k c hk aa)
  constructor
  ·obtain ⟨c9,jL,po⟩:=kf w' I ρ' _ cB ⟨λc aa=>s.other c (bf c aa).1 (bf c aa).2,λc aa aF=>same c aa λe=>aF (e ▸ mw),λ_ h=>h,lN⟩ r5 λc aa _=>aa;rw [ab.PR q gq] at jL;refine jL.y_ λc=>?_
   grind
  ·obtain ⟨ic,hr⟩:=eY w' λc aa aF=>same c aa λe=>aF (e ▸ mw);intro r y ec;rcases hr r y ec with ⟨dn,rfl⟩ | h
   ·rw [Dw,Dw,ic,hw];simp only [Option.bind_some];cases dn with
    | nil=>rfl
    | cons k dn =>
     grind [ab.GS,ab.uX,ab.kids,R.pY,walk,pQ]
   ·exact h
end
end Go.Own
namespace Go.Own
open Go
section
variable {w w':World}{I:bb}{T:Array Value}{g:aM}{Fs:Nat->bb}
theorem cF.Ky (h:cF w I T g Fs) {t:Nat}{x:ab}(J:g t=some x):∃ v,T[t]?=some v/\dW w T ⟨t,[]⟩=some v/\jD w I (dT w T g) x v (Fs t):=by
 obtain ⟨v,hv,aZ⟩:=h.rel t x J;exact ⟨v,hv,by simp [dW,hv,walk],aZ⟩
theorem cF.app (h:cF w I T g Fs) {z n m:Nat}{p:Place}{bv gx:Value}{e cf:TypeId}{us news:List Value}(jW:dT w T g (.bL z p n 0 []) bv)
  (e8:∀ t bE cE m' c3,g t≠some (.bL bE p cE m' c3)) (A:DI w w' bv gx e cf z n m us news):cF w' I T g Fs/\∀ r v,dT w T g r v->dT w' T g r v:=by
 cases iM:bv.ownBlock with
 | none =>
  have same:∀ c,c<w.heap.size->w'.heap[c]?=w.heap[c]?:=λc aa=>A.eT.block c aa (by rw [iM]; simp);exact ⟨h.world (λt c aa=>same c (h.j0 t c aa)) (λc aa=>same c (h.lt c aa)) A.eT.size,λr v ao=>h.FI (λ_ _=>rfl) (λt c aa=>same c (h.j0 t c aa)) (λ_ _ h=>h) ao⟩
 | some b =>
  have s:DV w w' b (n * z):=by
   refine ⟨λc aa dr=>A.eT.block c aa (by rw [iM]; simpa using Ne.symm dr),?_⟩;obtain ⟨arr,jo,h1,af,aI,bK⟩:=A.sp b iM;exact ⟨arr,jo,e,h1,af,aI,bK⟩
  obtain ⟨t0,sN⟩:=h.D4 jW b iM;have bf:∀ c,I c->c<w.heap.size/\c≠b:=λc aa=>⟨h.lt c aa,λe=>h.bj t0 b sN (e ▸ aa)⟩;obtain ⟨⟨wB,wD,H_,rfl⟩,dd⟩:=jW
  -- the home of the block
  have home:∃ N:Place->Prop,(∀ q bE cE cs' mG,bD g q=some (.own bE cE cs')->dW w T q=some mG->mG.ownBlock=some b->N q) /\
    (∀ q,N q->∀ t bE cE m' c3,g t=some (.bL bE q cE m' c3)->t=p.root/\p.path=[]) /\
    (∀ t bE fR cE m' c3,Fs t b->g t=some (.bL bE fR cE m' c3)->t=p.root/\p.path=[]) /\
    (∀ bE fR cE m' c3,p.path=[]->g p.root=some (.bL bE fR cE m' c3)->bE=z/\n=cE+m') /\
    (∀ t x v,Fs t b->g t=some x->T[t]?=some v->R w I (dT w T g) x v (Fs t)->∃ q bE cE cs' h0,x.at q=some (.own bE cE cs')/\walk w v q=some h0/\h0.ownBlock=some b/\cE * bE<=n * z):=by
   rcases dd with ⟨cs,au⟩ | ⟨fH,ll,nS,m1,acO,cs,au,aF,B0⟩
   ·-- the base is a row of a tree
    obtain ⟨qO,qT,gW,hE,nz⟩:=h.part au (by simp);rw [H_] at gW;cases gW;have kd:t0=p.root:=h.eJ _ _ _ sN (nz b (hE.qE b iM));obtain ⟨eA,iG⟩:∃ eA,g p.root=some eA:=by
     unfold bD at au;cases J:g p.root with
     | none=>rw [J] at au; cases au
     | some x=>exact ⟨x,rfl⟩
    have pw:eA.at p.path=some (.own z n cs):=by simpa [bD,iG] using au
    have lh:∀ bE fR cE m' c3,g p.root≠some (.bL bE fR cE m' c3):=by
     intro bE fR cE m' c3 bY;rw [iG] at bY;cases bY;have:=(ab.sx pw).2;simp at this
    obtain ⟨v0,iO,gF⟩:=h.rel _ _ iG;have By:=gF.gI (λbE fR cE m' c3 e=>lh bE fR cE m' c3 (by rw [iG,e]));have B':walk w v0 p.path=some (.slice wB n wD):=by simpa [dW,iO] using H_
    refine ⟨λq=>q=p,?_,?_,?_,?_,?_⟩
    ·intro q bE cE cs' mG bg sP w5;obtain ⟨Qn,GC,vo,HP,HL⟩:=h.part bg (by simp);rw [sP] at vo;cases vo;have ao:q.root=p.root:=(h.eJ _ _ _ (HL b (HP.qE b w5)) sN).trans kd;have BE:eA.at q.path=some (.own bE cE cs'):=by simpa [bD,ao,iG] using bg
     have IZ:walk w v0 q.path=some mG:=by simpa [dW,ao,iO] using sP
     have:=R.JT q.path p.path By BE pw IZ B' w5 iM;cases q; cases p; simp_all
    ·rintro q rfl t bE cE m' c3 bY; exact absurd bY (e8 t bE cE m' c3)
    ·intro t bE fR cE m' c3 pB bY;have:t=p.root:=(h.eJ _ _ _ pB sN).trans kd;rw [this] at bY;exact absurd bY (lh _ _ _ _ _)
    ·intro bE fR cE m' c3 _ bY; exact absurd bY (lh _ _ _ _ _)
    ·intro t x v pB J hv aZ;have:t=p.root:=(h.eJ _ _ _ pB sN).trans kd;subst this;rw [iG] at J; cases J;rw [iO] at hv; cases hv;exact ⟨_,_,_,_,_,pw,B',iM,Nat.le_refl _⟩
   ·-- the base is behind an append itself
    obtain ⟨v0,iO,B9,gF⟩:=h.Ky au;have V7:v0=.slice wB n wD:=by
     have:(⟨p.root,[]⟩:Place)=p:=by cases p; simp_all
     rw [this,H_] at B9;exact (Option.some.inj B9).symm
    subst V7;obtain ⟨RR,cA,abx,Zb,acQ,gF⟩:=gF.vy;by_cases nA:RR.ownBlock=some b
    ·obtain ⟨⟨aE,L4,N_,rfl⟩,_⟩:=gF.jW;obtain ⟨mG,GC,sP,HP,HL⟩:=h.part B0 (by simp);rw [N_] at sP;cases sP;have kd:t0=ll.root:=h.eJ _ _ _ sN (HL b (HP.qE b nA));obtain ⟨eA,iG⟩:∃ eA,g ll.root=some eA:=by
      unfold bD at B0;cases J:g ll.root with
      | none=>rw [J] at B0; cases B0
      | some x=>exact ⟨x,rfl⟩
     have pw:eA.at ll.path=some (.own z nS cs):=by simpa [bD,iG] using B0
     have lh:∀ bE fR cE m' c3,g ll.root≠some (.bL bE fR cE m' c3):=by
      intro bE fR cE m' c3 bY;rw [iG] at bY;cases bY;have:=(ab.sx pw).2;simp at this
     obtain ⟨v1,uc,ql⟩:=h.rel _ _ iG;have Ul:=ql.gI (λbE fR cE m' c3 e=>lh bE fR cE m' c3 (by rw [iG,e]));have B':walk w v1 ll.path=some (.slice aE nS L4):=by simpa [dW,uc] using N_
     refine ⟨λq=>q=ll,?_,?_,?_,?_,?_⟩
     ·intro q bE cE cs' mG bg sP w5;obtain ⟨Qn,QW,vo,HQ,HM⟩:=h.part bg (by simp);rw [sP] at vo;cases vo;have ao:q.root=ll.root:=(h.eJ _ _ _ (HM b (HQ.qE b w5)) sN).trans kd;have BE:eA.at q.path=some (.own bE cE cs'):=by simpa [bD,ao,iG] using bg
      have IZ:walk w v1 q.path=some mG:=by simpa [dW,ao,uc] using sP
      have:=R.JT q.path ll.path Ul BE pw IZ B' w5 nA;cases q; cases ll; simp_all
     ·rintro q rfl t bE cE m' c3 bY; exact ⟨h.rq _ _ _ _ _ _ _ _ _ _ _ bY au,fH⟩
     ·intro t bE fR cE m' c3 pB bY;have:t=ll.root:=(h.eJ _ _ _ pB sN).trans kd;rw [this] at bY;exact absurd bY (lh _ _ _ _ _)
     ·intro bE fR cE m' c3 _ bY;rw [au] at bY; cases bY; exact ⟨rfl,aF⟩
     ·intro t x v pB J hv aZ;have:t=ll.root:=(h.eJ _ _ _ pB sN).trans kd;subst this;rw [iG] at J; cases J;rw [uc] at hv; cases hv;exact ⟨_,_,_,_,_,pw,B',nA,Nat.mul_le_mul_right _ (by omega)⟩
    ·have mr:Fs p.root b:=(gF.aN b).2 ⟨iM,nA⟩;have kd:t0=p.root:=h.eJ _ _ _ sN mr;refine ⟨λ_=>False,?_,λ_ h=>h.elim,?_,?_,?_⟩
     ·intro q bE cE cs' mG bg sP w5;obtain ⟨Qn,QW,vo,HQ,HM⟩:=h.part bg (by simp);rw [sP] at vo;cases vo;have ao:q.root=p.root:=h.eJ _ _ _ (HM b (HQ.qE b w5)) mr;unfold bD at bg;rw [ao,au] at bg;have:=(ab.sx bg).2;simp at this
     ·intro t bE fR cE m' c3 pB _; exact ⟨h.eJ _ _ _ pB mr,fH⟩
     ·intro bE fR cE m' c3 _ bY;rw [au] at bY; cases bY; exact ⟨rfl,aF⟩
     ·intro t x v pB J hv aZ;have:t=p.root:=h.eJ _ _ _ pB mr;subst this;rw [au] at J; cases J;exact aZ.lh.elim
  obtain ⟨N,M6,M7,M8,Uh,Ui⟩:=home
  -- rows of pends
  have pends:∀ t bE fR cE m' c3 v y6 cj tB iT Fb,g t=some (.bL bE fR cE m' c3)->T[t]?=some v->GG w I (dT w T g) bE fR cE m' c3 v (Fs t) y6 cj tB iT Fb ->
    (v.ownBlock=some b->(cE+m') * bE<=n * z)/\(y6.ownBlock=some b->cE * bE<=n * z):=by
   intro t bE fR cE m' c3 v y6 cj tB iT Fb aO hv aZ;by_cases aw:t=p.root/\p.path=[]
   ·obtain ⟨rfl,fH⟩:=aw;obtain ⟨rfl,rfl⟩:=Uh _ _ _ _ _ fH aO;exact ⟨λ_=>Nat.le_refl _,λ_=>Nat.mul_le_mul_right _ (by omega)⟩
   ·have u9:y6.ownBlock≠some b:=by
     intro l3;obtain ⟨⟨a2,rQ,N',rfl⟩,VD⟩:=aZ.jW;rcases VD with ⟨cs2,af⟩ | ⟨aR,Dd,Xb,m3,acP,abr,af,aI,bK⟩
     ·exact aw (M7 fR (M6 fR _ _ _ _ af N' l3) t _ _ _ _ aO)
     ·obtain ⟨v2,B8,N8,mv⟩:=h.Ky af;have zv:(⟨fR.root,[]⟩:Place)=fR:=by cases fR; simp_all
      rw [zv,N'] at N8;cases N8;have N0:fR.root=p.root/\p.path=[]->False:=by
       rintro ⟨ao,fH⟩;have:fR=p:=by cases fR; cases p; simp_all
       exact e8 t bE cE m' c3 (this ▸ aO)
      obtain ⟨RS,fP,aby,ac0,acR,mv⟩:=mv.vy;by_cases px:RS.ownBlock=some b
      ·obtain ⟨⟨a4,ZH,V9,rfl⟩,_⟩:=mv.jW;exact N0 (M7 Dd (M6 Dd _ _ _ _ bK V9 px) _ _ _ _ _ af)
      ·exact N0 (M8 _ _ _ _ _ _ ((mv.aN b).2 ⟨l3,px⟩) af)
    refine ⟨λB_=>?_,λl3=>absurd l3 u9⟩;exact absurd (M8 _ _ _ _ _ _ ((aZ.aN b).2 ⟨B_,u9⟩) aO) aw
  -- trees
  have aT:=h.j0;have trees:∀ t x v (ρ':ab->Value->Prop),(∀ x v,dT w T g x v->ρ' x v)->g t=some x->T[t]?=some v->R w I (dT w T g) x v (Fs t)->R w' I ρ' x v (Fs t)/\∀ r y,x.at r=some y->walk w' v r=walk w v r:=by
   intro t x v ρ' lN J hv aZ;by_cases pB:Fs t b
   ·obtain ⟨q,bE,cE,cs',h0,h1,af,aI,bK⟩:=Ui t x v pB J hv aZ;exact aZ.spare s bf lN h1 af aI bK
   ·have same:∀ c,Fs t c->w'.heap[c]?=w.heap[c]?:=λc aa=>s.other c (aT t c aa) λe=>pB (e ▸ aa);exact ⟨aZ.frame (λc aa=>s.other c (bf c aa).1 (bf c aa).2) (λ_ h=>h) lN same,λr y ao=>R.pY r aZ ao same⟩
  have val:∀ q y,bD g q=some y->dW w' T q=dW w T q:=by
   intro q y bg;unfold bD at bg;cases J:g q.root with
   | none=>rw [J] at bg; cases bg
   | some x =>
    rw [J] at bg;obtain ⟨v,hv,aZ⟩:=h.rel _ _ J;cases aZ with
    | tree aZ=>have:=(trees _ x v _ (λ_ _ h=>h) J hv aZ).2 q.path y bg; simp [dW,hv,this]
    | bL aZ=>simp [dW,hv,(ab.sx bg).1,walk]
  have slot:∀ {q:Place}{x:ab},q.path=[]->g q.root=some x->dW w' T q=dW w T q:=by
   intro q x bg J;obtain ⟨v,hv,_⟩:=h.rel _ _ J;simp [dW,bg,walk]
  have refs:∀ r v,dT w T g r v->dT w' T g r v:=by
   rintro r v ⟨h1,af⟩;refine ⟨?_,af⟩;cases r <;> simp only [fC,gD] at h1 af ⊢
   case ptr q k=>obtain ⟨y,ax,_⟩:=af; rw [val q y ax]; exact h1
   case a6 bE q cE =>
    rcases af with ⟨_,_,af,_⟩ | ⟨aR,_,_,_,_,af,_⟩
    ·rw [val q _ af]; exact h1
    ·rw [slot aR af]; exact h1
   case sub bE q lo cE=>obtain ⟨_,_,af,_⟩:=af; rw [val q _ af]; exact h1
   case gz q=>obtain ⟨_,af⟩:=af; rw [val q _ af]; exact h1
   case bL bE q cE m' c3 =>
    rcases af with ⟨_,af⟩ | ⟨aR,_,_,_,_,_,af,_⟩
    ·rw [val q _ af]; exact h1
    ·rw [slot aR af]; exact h1
  refine ⟨⟨λt x J=>?_,h.kU,h.eJ,h.bj,λc aa=>Nat.lt_of_lt_of_le (h.lt c aa) A.eT.size,h.rq⟩,refs⟩;obtain ⟨v,hv,aZ⟩:=h.rel t x J;refine ⟨v,hv,?_⟩;cases aZ with
  | tree aZ=>exact .tree (trees t x v _ refs J hv aZ).1
  | @bL bE cE m' fR c3 _ y6 cj tB iT Fb _ aZ =>
   obtain ⟨eW,qF⟩:=pends t _ _ _ _ _ v y6 cj tB iT Fb J hv aZ;refine .bL ⟨refs _ _ aZ.jW,s.row aZ.lb qF,s.row aZ.nJ eW,aZ.ak,aZ.h1,λk x u J hu=>?_,aZ.aN⟩;exact (aZ.ao k x u J hu).frame (λc aa=>s.other c (bf c aa).1 (bf c aa).2) (λ_ h=>h) refs λc aa=>aa.elim
end
end Go.Own
namespace Go.Own
open Go
def uQ (w:World) (I:bb) (T:Array Value) (g:aM) (Fs:Nat->bb) (x:ab) (v:Value) (w':World):Prop :=
 ∃ F I',cF w' I' T g Fs/\jD w' I' (dT w' T g) x v F/\(∀ t c,F c->¬ Fs t c)/\(∀ c,F c->w.heap.size<=c/\¬ I' c)/\(∀ c,I c->I' c)/\(∀ c,I' c->I c\/w.heap.size<=c)/\Fr w w' (λc=>∃ t,Fs t c)/\(∀ z p n m new,x=.bL z p n m new->∀ t bE cE m' c3,g t≠some (.bL bE p cE m' c3))
inductive Src (g:aM):ab->Nat->Nat->List ab->Prop
 | bj {z m:Nat}{cs:List ab}:Src g (.bj z m cs) z m cs
 | aJ {z:Nat}:Src g .aJ z 0 []
 | a6 {z m N:Nat}{q:Place}{cs:List ab}(bg:bD g q=some (.own z N cs)) (hm:m<=N):Src g (.a6 z q m) z m ((cs.take (m * z)).mapIdx λi x=>gv 0 (q.push i) x)
 | sub {z lo m N:Nat}{q:Place}{cs:List ab}(bg:bD g q=some (.own z N cs)) (hm:lo+m<=N):Src g (.sub z q lo m) z m (((cs.drop (lo * z)).take (m * z)).mapIdx λi x=>gv 0 (q.push (lo * z+i)) x)
def jG (P:Program) (t e:TypeId) (z b:Nat):Bool :=
 match P.underlying t,P.info? e with
 | some (.slice cj),some i=>cj == e&&i.size == z&&i.bytes == b&&z != 0&&(match i.zero with | some v=>v.cells.size == z | none=>false)
 | _,_=>false
section
variable {P:Program}{w:World}{I:bb}{T:Array Value}{g:aM}{Fs:Nat->bb}
theorem LC {t e:TypeId}{z b:Nat}(h:jG P t e z b=true):∃ i dJ,P.underlying t=some (.slice e)/\P.info? e=some i/\i.size=z/\i.bytes=b/\0<z/\i.zero=some dJ/\dJ.cells.size=z:=by
 unfold jG at h;cases hu:P.underlying t with
 | none=>simp [hu] at h
 | some d =>
  cases hi:P.info? e with
  | none=>cases d <;> simp [hu,hi] at h
  | some i =>
   cases d <;> simp [hu,hi] at h;obtain ⟨⟨⟨⟨rfl,h1⟩,af⟩,aI⟩,bK⟩:=h;cases aY:i.zero with
   | none=>simp [aY] at bK
   | some dJ=>simp [aY] at bK; exact ⟨i,dJ,rfl,rfl,h1,af,by omega,aY,bK⟩
theorem Src.sound (h:cF w I T g Fs) {y:ab}{v:Value}{z m:Nat}{cells:List ab}(aC:Src g y z m cells) (aZ:R w I (dT w T g) y v cy) :
  ∃ (a:Option Addr) (c:Nat) (news:List Value),v=.slice a m c/\news.length=m * z/\(0<m->0<z->a.isSome=true)/\(∀ ad,a=some ad->∀ (j:Nat) (u:Value),news[j]?=some u->w.cell? (ad.add j)=some u)/\Cells w I (dT w T g) cells news:=by
 have O0:∀ {q:Place}{N:Nat}{cs:List ab}(lo:Nat) {a:Option Addr}{cap:Nat},bD g q=some (.own z N cs)->dW w T q=some (.slice a N cap)->lo+m<=N ->
   ∃ news:List Value,news.length=m * z/\(∀ ad,a=some ad->∀ (j:Nat) (u:Value),news[j]?=some u->w.cell? ⟨ad.block,lo * z+j,none⟩=some u)/\Cells w I (dT w T g) (((cs.drop (lo * z)).take (m * z)).mapIdx λi x=>gv 0 (q.push (lo * z+i)) x) news/\(0<m->0<z->∃ b,a=some ⟨b,0,none⟩):=by
  intro q N cs lo a cap bg hv hm;obtain ⟨gx,cB,iu,dI,_⟩:=h.part bg (by simp);rw [hv] at iu;cases iu;obtain ⟨b',mP,jd,_,hlen,re,_⟩:=dI.nk;cases jd;have ab3:lo * z+m * z<=cs.length:=by rw [hlen,<- Nat.add_mul]; exact Nat.mul_le_mul_right _ hm
  have cell:∀ j,j<m * z->∃ b gZ lW,a=some ⟨b,0,none⟩/\w.cell? ⟨b,lo * z+j,none⟩=some gZ/\gZ.oneCell'=true/\cs[lo * z+j]?=some lW/\R w I (dT w T g) (gv 0 (q.push (lo * z+j)) lW) gZ cy:=by
   intro j ah;have gf:cs[lo * z+j]?=some cs[lo * z+j]:=List.getElem?_eq_getElem (by omega);obtain ⟨b,gZ,fQ,l5,n',hp,bM,kM⟩:=dI.node (.inl rfl) gf;refine ⟨b,gZ,_,?_,l5,hp,gf,FH 0 (by rw [tu,bg]; simp [ab.kids]) (by rw [yp,hv]; exact n') kM⟩;cases a with
   | none=>simp [addrOf] at fQ
   | some ad=>simp only [addrOf] at fQ; rw [Option.some.inj fQ]
  have tY:∃ news:List Value,news.length=m * z/\∀ j,j<m * z->∃ b gZ lW,news[j]?=some gZ/\a=some ⟨b,0,none⟩/\w.cell? ⟨b,lo * z+j,none⟩=some gZ/\gZ.oneCell'=true/\cs[lo * z+j]?=some lW/\R w I (dT w T g) (gv 0 (q.push (lo * z+j)) lW) gZ cy:=by
   refine ⟨(List.range (m * z)).map λj=>(w.cell? ⟨(a.map (·.block)).getD 0,lo * z+j,none⟩).getD undef,by simp,λj ah=>?_⟩;obtain ⟨b,gZ,lW,h1,af,aI,bK,cG⟩:=cell j ah;refine ⟨b,gZ,lW,?_,h1,af,aI,bK,cG⟩;rw [List.getElem?_map,List.getElem?_range ah,h1];simp [af]
  obtain ⟨news,ak,aF⟩:=tY;refine ⟨news,ak,λad fQ j u ah=>?_,⟨?_,λj u ah=>?_,λj x u J ah=>?_⟩,λIC Jd=>?_⟩
  ·obtain ⟨b,gZ,lW,h1,af,aI,_⟩:=aF j (by rw [<- ak]; exact (List.getElem?_eq_some_iff.1 ah).1);rw [h1] at ah; cases ah;rw [fQ] at af; cases af;exact aI
  ·simp; omega
  ·obtain ⟨b,gZ,lW,h1,af,aI,bK,_⟩:=aF j (by rw [<- ak]; exact (List.getElem?_eq_some_iff.1 ah).1);rw [h1] at ah; cases ah; exact bK
  ·obtain ⟨b,gZ,lW,h1,af,aI,bK,cG,eh⟩:=aF j (by rw [<- ak]; exact (List.getElem?_eq_some_iff.1 ah).1);rw [h1] at ah; cases ah;rw [List.getElem?_mapIdx,List.getElem?_take] at J
   split at J
   ·rw [List.getElem?_drop,cG] at J;simp only [Option.map_some,Option.some.injEq] at J;rw [<- J]; exact eh
   ·cases J
  ·obtain ⟨b,_,_,h1,_⟩:=cell 0 (Nat.mul_pos IC Jd);exact ⟨b,h1⟩
 cases aC with
 | bj =>
  obtain ⟨a,cap,rfl,_,hlen,hm⟩:=aZ.zG;by_cases aR:cells≠[]\/0<m
  ·obtain ⟨ad,us,rfl,bf,je,hp,aa,ao⟩:=hm aR;refine ⟨_,cap,(List.range cells.length).map us,rfl,by simp [hlen],by simp,λRh fQ j u ah=>?_,⟨by simp,λj u ah=>?_,λj x u J ah=>?_⟩⟩
   ·cases fQ;rw [List.getElem?_map] at ah;by_cases eZ:j<cells.length
    ·rw [List.getElem?_range eZ] at ah;simp only [Option.map_some,Option.some.injEq] at ah;obtain ⟨b,o,sp⟩:=ad;simp only at je;subst je;rw [add_eq,<- ah];exact aa j _ (List.getElem?_eq_getElem eZ)
    ·rw [List.getElem?_eq_none (by simp; omega)] at ah; cases ah
   ·rw [List.getElem?_map] at ah;by_cases eZ:j<cells.length
    ·rw [List.getElem?_range eZ] at ah;simp only [Option.map_some,Option.some.injEq] at ah;rw [<- ah];exact hp j _ (List.getElem?_eq_getElem eZ)
    ·rw [List.getElem?_eq_none (by simp; omega)] at ah; cases ah
   ·rw [List.getElem?_map] at ah;have eZ:j<cells.length:=(List.getElem?_eq_some_iff.1 J).1;rw [List.getElem?_range eZ] at ah;simp only [Option.map_some,Option.some.injEq] at ah;rw [<- ah];exact ao j x J
  ·have IC:m=0:=by omega
   have U0:cells=[]:=Classical.byContradiction λe=>aR (.inl e);subst IC U0;exact ⟨a,cap,[],rfl,by simp,by simp,by simp,by simp [Cells]⟩
 | aJ =>
  rw [aZ.se];exact ⟨none,0,[],rfl,by simp,by simp,by simp,by simp [Cells]⟩
 | @a6 _ _ N q cs bg hm =>
  obtain ⟨⟨a,iZ,cap,h1,rfl,aI⟩,bK⟩:=aZ.nc;obtain ⟨gx,cB,iu,dI,_⟩:=h.part bg (by simp);obtain ⟨b',mP,jd,_⟩:=dI.nk;rw [h1] at iu;cases iu;cases jd;obtain ⟨news,ak,aa,hF,aP⟩:=O0 0 bg h1 (by omega);simp only [Nat.zero_mul,List.drop_zero,Nat.zero_add] at hF aa;refine ⟨a,cap,news,rfl,ak,λaR HB=>by obtain ⟨b,rfl⟩:=aP aR HB; rfl,λad fQ j u ah=>?_,hF⟩;have w_:=aa ad fQ j u ah;by_cases aR:0<m/\0<z
  ·obtain ⟨b,av⟩:=aP aR.1 aR.2;rw [fQ] at av; cases av;rw [add_eq]; simpa using w_
  ·have:m * z=0:=by
    rcases Nat.eq_zero_or_pos m with h | h
    ·simp [h]
    ·rcases Nat.eq_zero_or_pos z with aQ | aQ
     ·simp [aQ]
     ·exact absurd ⟨h,aQ⟩ aR
   have:=(List.getElem?_eq_some_iff.1 ah).1;omega
 | @sub _ lo _ N q cs bg hm =>
  obtain ⟨⟨a,iZ,cap,b',mP,h1,rfl,_,aI,cG⟩,bK⟩:=aZ.xw;obtain ⟨gx,cB,iu,dI,_⟩:=h.part bg (by simp);obtain ⟨a2,rQ,jd,_⟩:=dI.nk;rw [h1] at iu;cases iu;cases jd;obtain ⟨news,ak,aa,hF,aP⟩:=O0 lo bg h1 hm;refine ⟨b',mP,news,rfl,ak,λaR _=>by obtain ⟨ad,_,rfl⟩:=cG aR; rfl,λad fQ j u ah=>?_,hF⟩;have aT:=(List.getElem?_eq_some_iff.1 ah).1;have aR:0<m:=(Nat.eq_zero_or_pos m).elim (λh=>by rw [h] at ak; omega) id

  have aY:0<z:=(Nat.eq_zero_or_pos z).elim (λh=>by rw [h] at ak; omega) id

  obtain ⟨Rh,eh,mT⟩:=cG aR;obtain ⟨b,av⟩:=aP aR aY;rw [eh] at av; cases av;rw [fQ] at mT; cases mT;have w_:=aa _ eh j u ah;rw [add_eq]; simpa using w_
end
end Go.Own
namespace Go.Own
open Go
inductive AZ (P:Program) (g:aM):Op->TypeId->ab->Prop
 | grow {s x:Operand}{t e ty:TypeId}{z b n m:Nat}{p:Place}{y:ab}{cells:List ab}(aC:bs g s=some (.a6 z p n)) (dd:gD g (.bL z p n 0 [])) (e8:∀ t bE cE m' c3,g t≠some (.bL bE p cE m' c3))
   (J:bs g x=some y) (r_:Src g y z m cells) (aw:jG P t e z b=true) (q':n+m<=4611686018427387904) (av:(n+m) * b<=140737488355328) :
   AZ P g (.call { callee:=.builtin .append,args:=#[s,x],argTypes:=#[t,t] }) ty (.bL z p n m cells)
 | nil {s x:Operand}{t e ty:TypeId}{z b m:Nat}{y:ab}{cells:List ab}(aC:bs g s=some .aJ)
   (J:bs g x=some y) (r_:Src g y z m cells) (aw:jG P t e z b=true) (q':m<=4611686018427387904) (av:m * b<=140737488355328) :
   AZ P g (.call { callee:=.builtin .append,args:=#[s,x],argTypes:=#[t,t] }) ty (.own z m cells)
inductive ch (P:Program) (g:aM):Op->TypeId->ab->Prop
 | eW {op:Op}{ty:TypeId}{x:ab}(h:c7 P g op ty x):ch P g op ty x
 | qF {op:Op}{ty:TypeId}{x:ab}(h:p7 P g op ty x):ch P g op ty x
 | CG {op:Op}{ty:TypeId}{x:ab}(h:uS P g op ty x):ch P g op ty x
 | lR {op:Op}{ty:TypeId}{x:ab}(h:AZ P g op ty x):ch P g op ty x
section
variable {P:Program}{w:World}{I:bb}{T:Array Value}{g:aM}{Fs:Nat->bb}
theorem Cells.frame {w':World}{cells:List ab}{news:List Value}(aa:Cells w I (dT w T g) cells news) (bf:∀ c,I c->w'.heap[c]?=w.heap[c]?) (ao:∀ r v,dT w T g r v->dT w' T g r v):Cells w' I (dT w' T g) cells news :=
 ⟨aa.1,aa.2.1,λk x u J hu=>(aa.2.2 k x u J hu).frame bf (λ_ h=>h) ao λ_ h=>h.elim⟩
theorem AZ.sound (h:cF w I T g Fs) {a:Act}(aP:a.tmps=T) {o:Oper}{kD:ab}(au:AZ P g o.op o.type kD) :
  ∃ v w',(execOp a.eval o).run P w=.ok (.value v) w'/\uQ w I T g Fs kD v w':=by
 obtain ⟨dst,op,ty,pos,after,guard⟩:=o;simp only at au;cases au with
 | @grow s x t e _ z b n m p y cells aC dd e8 J r_ aw q' av =>
  obtain ⟨i,dJ,hu,hi,rfl,rfl,aR,aY,pH⟩:=LC aw;obtain ⟨⟨wB,N,wD,h1,af,aI⟩,bK⟩:=(ke h aC aP).nc;obtain ⟨Dj,Ko,news,vl,ak,B3,IS,hF⟩:=r_.sound h (ke h J aP)
  -- the row of the base
  have qp:N=n/\∃ cj us,w.ownsRow 0 cj i.size (.slice wB n wD) n us:=by
   rcases dd with ⟨cs,au⟩ | ⟨fH,q,gY,m0,new,cs,au,rfl,_⟩
   ·obtain ⟨gx,cB,iu,dI,_⟩:=h.part au (by simp);rw [h1] at iu;cases iu;obtain ⟨b',mP,jd,_⟩:=dI.nk;cases jd;cases dI with
    | own a1=>exact ⟨rfl,_,_,a1⟩
    | ref J=>simp [ab.isRef] at J
   ·obtain ⟨v0,iO,B9,gF⟩:=h.Ky au;have bg:(⟨p.root,[]⟩:Place)=p:=by cases p; simp_all
    rw [bg,h1] at B9;cases B9;obtain ⟨bv,cA,cf,us,acS,gF⟩:=gF.vy;have bc:N=gY+m0:=by
     obtain ⟨_,bY⟩:=gF.nJ;rcases bY with ⟨bY,aF⟩ | ⟨g,cap,cur,bY,_⟩
     ·cases bY; omega
     ·cases bY; rfl
    subst bc;exact ⟨rfl,_,_,gF.nJ⟩
  obtain ⟨rfl,cj,us,lb⟩:=qp;have jW:dT w T g (.bL i.size p N 0 []) (.slice wB N wD):=⟨⟨wB,wD,h1,rfl⟩,dd⟩;obtain ⟨gx,w',cf,hP,A⟩:=PC (P:=P) (w:=w) t ty e cj i dJ hu hi aY pH aR lb (a:=Dj) (c:=Ko) (m:=m) (news:=news) (λhm=>B3 hm aR) ak IS (λu hu=>by
   obtain ⟨k,hk,rfl⟩:=List.mem_iff_getElem.1 hu;exact hF.2.1 k _ (List.getElem?_eq_getElem hk)) (by unfold maxLen; omega) av
  obtain ⟨bk,hrefs⟩:=h.app jW e8 A;refine ⟨gx,w',by simp [execOp,resolve,invoke,builtin,af,vl,hP],(λc=>gx.ownBlock=some c/\(Value.slice wB N wD).ownBlock≠some c),I,bk,?_,?_,?_,λ_ h=>h,λ_ h=>.inl h,?_,?_⟩
  ·have bf:∀ c,I c->w'.heap[c]?=w.heap[c]?:=by
    intro c aa;refine A.eT.block c (h.lt c aa) λav=>?_;obtain ⟨t,aw⟩:=h.D4 jW c av;exact h.bj t c aw aa
   have lJ:=hF.frame bf hrefs;exact .bL ⟨hrefs _ _ jW,A.nj,A.new,lJ.1,lJ.2.1,lJ.2.2,λc=>Iff.rfl⟩
  ·rintro t c ⟨iq,tS⟩ aW;rcases A.D5 c iq with h | aQ
   ·exact tS h
   ·have:=h.j0 t c aW; omega
  ·rintro c ⟨iq,tS⟩;rcases A.D5 c iq with aQ | aQ
   ·exact absurd aQ tS
   ·exact ⟨aQ,λhi=>by have:=h.lt c hi; omega⟩
  ·exact A.eT.mono λc _ aa=>h.D4 jW c aa
  ·intro bE Xr cE m' c3 he;cases he;exact e8
 | @nil s x t e _ z b m y cells aC J r_ aw q' av =>
  obtain ⟨i,dJ,hu,hi,rfl,rfl,aR,aY,pH⟩:=LC aw;have af:=(ke h aC aP).se;obtain ⟨Dj,Ko,news,vl,ak,B3,IS,hF⟩:=r_.sound h (ke h J aP);obtain ⟨gx,w',cf,hP,A⟩:=PC (P:=P) (w:=w) t ty e e i dJ hu hi aY pH aR (World.ownsRow_nil w 0 e i.size) (a:=Dj) (c:=Ko) (m:=m) (news:=news) (λhm=>B3 hm aR) ak IS (λu hu=>by
   obtain ⟨k,hk,rfl⟩:=List.mem_iff_getElem.1 hu;exact hF.2.1 k _ (List.getElem?_eq_getElem hk)) (by unfold maxLen; omega) (by simpa using av)
  have same:∀ c,c<w.heap.size->w'.heap[c]?=w.heap[c]?:=λc aa=>A.eT.block c aa (by simp [Value.ownBlock]);have r5:=A.new;simp only [Nat.zero_add,List.nil_append] at r5;have lJ:=hF.frame (λc aa=>same c (h.lt c aa)) λr v ao=>h.FI (λ_ _=>rfl) (λt c aa=>same c (h.j0 t c aa)) (λ_ _ h=>h) ao;have hblk:∀ c,gx.ownBlock=some c->w.heap.size<=c:=λc aa=>(A.D5 c aa).elim (λh=>by simp [Value.ownBlock] at h) id;refine ⟨gx,w',by simp [execOp,resolve,invoke,builtin,af,vl,hP],(λc=>gx.ownBlock=some c),I,h.world (λt c aa=>same c (h.j0 t c aa)) (λc aa=>same c (h.lt c aa)) A.eT.size,?_,?_,λc aa=>⟨hblk c aa,λhi=>by have:=h.lt c hi; have:=hblk c aa; omega⟩,λ_ h=>h,λ_ h=>.inl h,?_,?_⟩
  ·exact .tree (.own (Fs:=λ_=>cy) r5 lJ.1 lJ.2.1 lJ.2.2 (λ_ _ _ _ _ h=>h.elim) (λ_ _ _ h=>h.elim) λc=>⟨.inl,λh=>h.elim id λ⟨_,_,h⟩=>h.elim⟩)
  ·intro t c aa aW; have:=hblk c aa; have:=h.j0 t c aW; omega
  ·exact A.eT.mono λc _ aa=>by simp [Value.ownBlock] at aa
  ·intro bE Xr cE m' c3 he; cases he
theorem ch.sound (h:cF w I T g Fs) {a:Act}(aP:a.tmps=T) {o:Oper}{kD:ab}(au:ch P g o.op o.type kD) :
  ∃ v w',(execOp a.eval o).run P w=.ok (.value v) w'/\uQ w I T g Fs kD v w':=by
 have CA:∀ {v:Value}{F:bb},R w I (dT w T g) kD v F->∀ z p n m new,kD=.bL z p n m new->∀ t bE cE m' c3,g t≠some (.bL bE p cE m' c3):=by
  rintro v F aZ z p n m new rfl;exact aZ.lh.elim
 cases au with
 | eW au =>
  obtain ⟨v,ao,aZ⟩:=au.sound h aP;exact ⟨v,w,ao,cy,I,h,.tree aZ,λ_ _ h=>h.elim,λ_ h=>h.elim,λ_ h=>h,λ_ h=>.inl h,Fr.refl _ _,CA aZ⟩
 | CG au =>
  obtain ⟨v,ao,aZ⟩:=au.sound h aP;exact ⟨v,w,ao,cy,I,h,.tree aZ,λ_ _ h=>h.elim,λ_ h=>h.elim,λ_ h=>h,λ_ h=>.inl h,Fr.refl _ _,CA aZ⟩
 | qF au =>
  obtain ⟨v,sj,ao,aZ⟩:=au.sound h aP;refine ⟨v,_,ao,_,I,h.alloc sj,.tree aZ,λt c aa aW=>?_,λc aa=>⟨by rw [aa]; exact Nat.le_refl _,λhi=>by have:=h.lt c hi; omega⟩,λ_ h=>h,λ_ h=>.inl h,Fr.alloc w sj _ (by
   obtain ⟨o,h1,af⟩:=aZ.XO w.heap.size rfl;rw [tn] at h1;cases h1;exact af),?_⟩
  ·have:=h.j0 t c aW; omega
  ·rintro z p n m new rfl; exact aZ.lh.elim
 | lR au=>exact au.sound h aP
end
end Go.Own
namespace Go.Own
open Go
inductive cU:ab->Prop
 | lit {v:Value}:cU (.lit v)
 | aJ:cU .aJ
 | dead:cU .dead
 | bj {z n:Nat}{cs:List ab}(h:∀ x∈cs,cU x):cU (.bj z n cs)
 | own {z n:Nat}{cs:List ab}(h:∀ x∈cs,cU x):cU (.own z n cs)
 | obj {cs:List ab}(h:∀ x∈cs,cU x):cU (.obj cs)
 | agg {cs:List ab}(h:∀ x∈cs,cU x):cU (.agg cs)
 | bW {cs:List ab}(h:∀ x∈cs,cU x):cU (.bW cs)
 | cH {cs:List ab}(h:∀ x∈cs,cU x):cU (.cH cs)
 | cW {fn:Fn}{a b:List ab}(h1:∀ x∈a,cU x) (af:∀ x∈b,cU x):cU (.cW fn a b)
 | mp {p:Array MapEntry->Nat->Prop}:cU (.mp p)
 | imp {p:Array MapEntry->Nat->Prop}:cU (.imp p)
inductive kE:ab->Prop
 | lit {v:Value}:kE (.lit v)
 | aJ:kE .aJ
 | dead:kE .dead
 | own {z n:Nat}{cs:List ab}(h:∀ x∈cs,kE x):kE (.own z n cs)
 | obj {cs:List ab}(h:∀ x∈cs,kE x):kE (.obj cs)
 | agg {cs:List ab}(h:∀ x∈cs,kE x):kE (.agg cs)
 | bW {cs:List ab}(h:∀ x∈cs,kE x):kE (.bW cs)
 | mp {p:Array MapEntry->Nat->Prop}:kE (.mp p)
theorem kE.bm {x:ab}(h:kE x):cU x:=by
 induction h with
 | lit=>exact .lit
 | aJ=>exact .aJ
 | dead=>exact .dead
 | own _ aU=>exact .own aU
 | obj _ aU=>exact .obj aU
 | agg _ aU=>exact .agg aU
 | bW _ aU=>exact .bW aU
 | mp=>exact .mp
inductive Rows (g:aM):Place->Nat->Nat->List ab->Prop
 | own {p:Place}{z n:Nat}{cs:List ab}(au:bD g p=some (.own z n cs)):Rows g p z n cs
 | bL {t z n m:Nat}{q:Place}{new cs:List ab}(aw:g t=some (.bL z q n m new)) (bg:Rows g q z n cs):Rows g ⟨t,[]⟩ z (n+m) (cs++new)
theorem Rows.mono {g g':aM}(h:∀ {p:Place}{y:ab},bD g p=some y->bD g' p=some y) {p:Place}{z n:Nat}{cs:List ab}(ao:Rows g p z n cs) (af:∀ t x,g t=some x->g' t=some x):Rows g' p z n cs:=by
 induction ao with
 | own au=>exact .own (h au)
 | bL aw _ aU=>exact .bL (af _ _ aw) aU
inductive View (g:aM):ab->ab->Prop
 | self {x:ab}(h:cU x) (J:∀ z n cs,x≠.own z n cs) (a1:∀ cs,x≠.obj cs) (aP:∀ cs,x≠.agg cs) (aw:∀ cs,x≠.bW cs) (hm:∀ p,x≠.mp p):View g x x
 | mp {p:Array MapEntry->Nat->Prop}:View g (.mp p) (.imp p)
 | gz {p:Place}{q:Array MapEntry->Nat->Prop}(au:bD g p=some (.mp q)):View g (.gz p) (.imp q)
 | qD {z:Nat}:View g .aJ (.bj z 0 [])
 | agg {cs cs':List ab}(ak:cs'.length=cs.length) (h:∀ (k:Nat) (x y:ab),cs[k]?=some x->cs'[k]?=some y->View g x y):View g (.agg cs) (.agg cs')
 | own {z n:Nat}{cs cs':List ab}(ak:cs'.length=cs.length) (h:∀ (k:Nat) (x y:ab),cs[k]?=some x->cs'[k]?=some y->View g x y):View g (.own z n cs) (.bj z n cs')
 | obj {cs cs':List ab}(ak:cs'.length=cs.length) (h:∀ (k:Nat) (x y:ab),cs[k]?=some x->cs'[k]?=some y->View g x y):View g (.obj cs) (.cH cs')
 | a6 {z n N:Nat}{p:Place}{cs cs':List ab}(au:bD g p=some (.own z N cs)) (aF:n<=N) (ak:cs'.length=(cs.take (n * z)).length) (h:∀ (k:Nat) (x y:ab),(cs.take (n * z))[k]?=some x->cs'[k]?=some y->View g x y):View g (.a6 z p n) (.bj z n cs')
 | sub {z lo n N:Nat}{p:Place}{cs cs':List ab}(au:bD g p=some (.own z N cs)) (aF:lo+n<=N) (ak:cs'.length=((cs.drop (lo * z)).take (n * z)).length) (h:∀ (k:Nat) (x y:ab),((cs.drop (lo * z)).take (n * z))[k]?=some x->cs'[k]?=some y->View g x y):View g (.sub z p lo n) (.bj z n cs')
 | ptr {p:Place}{k z n:Nat}{y:ab}{cs cs':List ab}(au:bD g p=some y) (ax:y=.own z n cs\/y=.obj cs) (hk:k<cs.length) (ak:cs'.length=(cs.drop k).length) (h:∀ (j:Nat) (x y:ab),(cs.drop k)[j]?=some x->cs'[j]?=some y->View g x y):View g (.ptr p k) (.cH cs')
 | cW {fn:Fn}{cs cs':List ab}(ak:cs'.length=cs.length) (h:∀ (k:Nat) (x y:ab),cs[k]?=some x->cs'[k]?=some y->View g x y):View g (.cW fn [] cs) (.cW fn [] cs')
 | rows {z n:Nat}{p:Place}{cs cs':List ab}(au:Rows g p z n cs) (ak:cs'.length=cs.length) (h:∀ (k:Nat) (x y:ab),cs[k]?=some x->cs'[k]?=some y->View g x y):View g (.a6 z p n) (.bj z n cs')
section
variable {P:Program}{w:World}{I:bb}{T:Array Value}{g:aM}{Fs:Nat->bb}
theorem R.bm {ρ ρ':ab->Value->Prop}{x:ab}{v:Value}{F:bb}(h:R w I ρ x v F):cU x->R w I ρ' x v F:=by
 induction h with
 | lit h aN=>exact λ_=>.lit h aN
 | aJ aN=>exact λ_=>.aJ aN
 | dead aN=>exact λ_=>.dead aN
 | @ref x _ _ J h aN=>intro aF; cases aF <;> simp [ab.isRef] at J
 | hG aN=>exact λ_=>.hG aN
 | bj aN k9 bf aC ak h1 aa ao aU=>exact λaF=>.bj aN k9 bf aC ak h1 aa λk x J=>aU k x J (by cases aF with | bj h=>exact h x (List.mem_of_getElem? J))
 | cH aN bf aC h1 aa ao aU=>exact λaF=>.cH aN bf aC h1 aa λk x J=>aU k x J (by cases aF with | cH h=>exact h x (List.mem_of_getElem? J))
 | own a1 ak h1 ao aS av aN aU=>exact λaF=>.own a1 ak h1 (λk x u J hu=>aU k x u J hu (by cases aF with | own h=>exact h x (List.mem_of_getElem? J))) aS av aN
 | obj a1 ak h1 ao aS av aN aU=>exact λaF=>.obj a1 ak h1 (λk x u J hu=>aU k x u J hu (by cases aF with | obj h=>exact h x (List.mem_of_getElem? J))) aS av aN
 | agg ak h1 ao aS aN aU=>exact λaF=>.agg ak h1 (λk x u J hu=>aU k x u J hu (by cases aF with | agg h=>exact h x (List.mem_of_getElem? J))) aS aN
 | bW ak ao aS aN aU=>exact λaF=>.bW ak (λk x u J hu=>aU k x u J hu (by cases aF with | bW h=>exact h x (List.mem_of_getElem? J))) aS aN
 | mp a1 au aN=>exact λ_=>.mp a1 au aN
 | imp aN bf a1 au=>exact λ_=>.imp aN bf a1 au
 | cW aN h1 af kt iN gy gg=>exact λaF=>.cW aN h1 af (λk x u J hu=>gy k x u J hu (by cases aF with | cW h _=>exact h x (List.mem_of_getElem? J))) (λk x u J hu=>gg k x u J hu (by cases aF with | cW _ h=>exact h x (List.mem_of_getElem? J)))
theorem R.oo {ρ:ab->Value->Prop}{I':bb}{x:ab}{v:Value}{F:bb}(h:R w I ρ x v F) (bf:∀ c,I c->I' c):R w I' ρ x v F :=
 h.frame (λ_ _=>rfl) bf (λ_ _ h=>h) λ_ _=>rfl
theorem R.lj {ρ ρ':ab->Value->Prop}{I':bb}{x:ab}{v:Value}{F:bb}(h:R w I ρ x v F):kE x->R w I' ρ' x v F:=by
 induction h with
 | lit h aN=>exact λ_=>.lit h aN
 | aJ aN=>exact λ_=>.aJ aN
 | dead aN=>exact λ_=>.dead aN
 | @ref x _ _ J h aN=>intro aF; cases aF <;> simp [ab.isRef] at J
 | hG=>intro aF; cases aF
 | bj=>intro aF; cases aF
 | cH=>intro aF; cases aF
 | own a1 ak h1 ao aS av aN aU=>exact λaF=>.own a1 ak h1 (λk x u J hu=>aU k x u J hu (by cases aF with | own h=>exact h x (List.mem_of_getElem? J))) aS av aN
 | obj a1 ak h1 ao aS av aN aU=>exact λaF=>.obj a1 ak h1 (λk x u J hu=>aU k x u J hu (by cases aF with | obj h=>exact h x (List.mem_of_getElem? J))) aS av aN
 | agg ak h1 ao aS aN aU=>exact λaF=>.agg ak h1 (λk x u J hu=>aU k x u J hu (by cases aF with | agg h=>exact h x (List.mem_of_getElem? J))) aS aN
 | bW ak ao aS aN aU=>exact λaF=>.bW ak (λk x u J hu=>aU k x u J hu (by cases aF with | bW h=>exact h x (List.mem_of_getElem? J))) aS aN
 | cW=>intro aF; cases aF
 | mp a1 au aN=>exact λ_=>.mp a1 au aN
 | imp=>intro aF; cases aF
theorem R.zV {ρ:ab->Value->Prop}{z n:Nat}{cs:List ab}{v:Value}{F:bb}(h:R w I ρ (.own z n cs) v F):∃ (a:Option Addr) (cap:Nat) (us:Nat->Value) (bM:Nat->bb),v=.slice a n cap/\n<=cap/\cs.length=n * z /\
  (∀ ad,a=some ad->∃ b,ad=⟨b,0,none⟩/\F b)/\(∀ (k:Nat) (x:ab),cs[k]?=some x->∃ b,a=some ⟨b,0,none⟩/\w.cell? ⟨b,k,none⟩=some (us k)/\(us k).oneCell'=true/\R w I ρ x (us k) (bM k)/\∀ c,bM k c->F c):=by
 have aR:=h;cases h with
 | ref J=>simp [ab.isRef] at J
 | @own _ _ _ _ e us Fs _ a1 ak h1 ao aS av aN =>
  obtain ⟨a,cap,rfl,aF,hlen,re,rf⟩:=aR.nk;refine ⟨a,cap,λk=>us.getD k undef,Fs,rfl,aF,hlen,λad fQ=>?_,λk x hk=>?_⟩
  ·obtain ⟨BS,BT⟩:=re ad fQ;obtain ⟨b,o,sp⟩:=ad;simp only at BS BT;subst BS BT;exact ⟨b,rfl,(aN b).2 (.inl (by rw [fQ]; rfl))⟩
  ·have aT:k<cs.length:=(List.getElem?_eq_some_iff.1 hk).1;have hu:us[k]?=some us[k]:=List.getElem?_eq_getElem (ak ▸ aT);obtain ⟨b,u,fQ,l5,n',hp,_⟩:=aR.node (.inl rfl) hk;have:a=some ⟨b,0,none⟩:=by
    cases a with
    | none=>simp [addrOf] at fQ
    | some ad=>simp only [addrOf] at fQ; rw [Option.some.inj fQ]
   grind [pQ]
theorem R.Fh {ρ:ab->Value->Prop}{y:ab}{v:Value}{F:bb}{z n:Nat}{cs:List ab}(h:R w I ρ y v F) (ax:y=.own z n cs\/y=.obj cs) {ad:Addr}(aP:addrOf v=some ad):F ad.block:=by
 rcases ax with rfl | rfl
 ·obtain ⟨a,cap,rfl,_⟩:=h.nk;refine h.qE _ ?_;cases a with
  | none=>simp [addrOf] at aP
  | some a=>simp only [addrOf,Option.some.injEq] at aP; subst aP; rfl
 ·cases h with
  | ref J=>simp [ab.isRef] at J
  | obj a1 ak h1 ao aS av aN=>simp only [addrOf,Option.some.injEq] at aP; subst aP; exact (aN _).2 (.inl rfl)
theorem Xp {w:World}{e cj:TypeId}{z n:Nat}{v:Value}{us iT:List Value}(h:w.ownsRow 0 e z v n us) (aQ:w.ownsRow 0 cj z v n iT):us=iT:=by
 obtain ⟨h1,af⟩:=h;obtain ⟨aI,bK⟩:=aQ;rcases af with ⟨rfl,rfl⟩ | ⟨b,cap,cur,rfl,_,bY,_,_,_,aw⟩
 ·grind
 grind
theorem Rows.sound {ρ:ab->Value->Prop}(H1:∀ t z q n m new,g t=some (.bL z q n m new)->∃ v,T[t]?=some v/\jD w I ρ (.bL z q n m new) v (Fs t))
  (QZ:∀ p z n cs,bD g p=some (.own z n cs)->∃ v cB,dW w T p=some v/\R w I ρ (.own z n cs) v cB/\∀ c,cB c->Fs p.root c) (AU:∀ z p n v,ρ (.bL z p n 0 []) v->dW w T p=some v) {p:Place}{z n:Nat}{cs:List ab}(h:Rows g p z n cs) :
  ∃ v e us,dW w T p=some v/\w.ownsRow 0 e z v n us/\us.length=cs.length/\(∀ (k:Nat) (u:Value),us[k]?=some u->u.oneCell'=true)/\(∀ c,v.ownBlock=some c->∃ t,Fs t c) /\
   (∀ (k:Nat) (x:ab) (u:Value),cs[k]?=some x->us[k]?=some u->∃ bM,R w I ρ x u bM/\∀ c,bM c->∃ t,Fs t c):=by
 induction h with
 | @own p z n cs au =>
  obtain ⟨v,cB,hv,aZ,aN⟩:=QZ p z n cs au;cases aZ with
  | ref J=>simp [ab.isRef] at J
  | @own _ _ _ _ e us bM _ a1 ak h1 ao aS av mu =>
   grind
 | @bL t z n m q new cs aw _ aU =>
  obtain ⟨v,hv,aZ⟩:=H1 t z q n m new aw;obtain ⟨v0,e,us,iO,a1,ak,h1,av,ao⟩:=aU;cases aZ with
  | tree aZ=>exact aZ.lh.elim
  | @bL _ _ _ _ _ _ bv cA cf Zb news _ aZ =>
   have hz:=AU _ _ _ _ aZ.jW;rw [iO] at hz;cases hz;have:=Xp a1 aZ.lb;subst this;refine ⟨v,cf,us++news,by simp [dW,hv,walk],aZ.nJ,by rw [List.length_append,List.length_append,ak,aZ.ak],λk u hu=>?_,λc aa=>?_,λk x u J hu=>?_⟩
   ·by_cases hk:k<us.length
    ·grind
    ·rw [List.getElem?_append_right (by omega)] at hu; exact aZ.h1 _ u hu
   ·by_cases ra:v0.ownBlock=some c
    ·grind
    ·exact ⟨t,(aZ.aN c).2 ⟨aa,ra⟩⟩
   ·by_cases hk:k<us.length
    ·grind
    ·rw [List.getElem?_append_right (by omega)] at J;rw [List.getElem?_append_right (by omega),ak] at hu;exact ⟨_,aZ.ao _ x u J hu,λc aa=>aa.elim⟩
theorem Px {ρ':ab->Value->Prop}{e:TypeId}{z n N cap:Nat}{a:Option Addr}{us:List Value}{cs cs':List ab}(a1:w.ownsRow 0 e z (.slice a N cap) n us) (hlen:us.length=cs.length) (h1:∀ (k:Nat) (u:Value),us[k]?=some u->u.oneCell'=true) (av:∀ c,(Value.slice a N cap).ownBlock=some c->∃ t,Fs t c) (ak:cs'.length=cs.length)
  (ao:∀ (k:Nat) (x y:ab) (u:Value),cs[k]?=some x->cs'[k]?=some y->us[k]?=some u->R w (λc=>I c\/∃ t,Fs t c) ρ' y u cy):R w (λc=>I c\/∃ t,Fs t c) ρ' (.bj z n cs') (.slice a n cap) cy:=by
 obtain ⟨NP,a1⟩:=a1;rcases a1 with ⟨hz,aR⟩ | ⟨b,rQ,cur,cA,_,bY,EB,aa,aC,aw⟩
 ·cases hz;subst aR;have lJ:cs'=[]:=List.eq_nil_of_length_eq_zero (by rw [ak,<- hlen,NP]; simp);subst lJ;exact .hG λ_ h=>h
 ·cases cA;refine .bj (us:=λk=>us.getD k undef) (λ_ h=>h) EB (.inr (av b rfl)) rfl (by rw [ak,<- hlen,NP]) (λk y ax=>?_) (λk y ax=>?_) λk y ax=>?_
  all_goals
   have hk:k<us.length:=by rw [hlen,<- ak]; exact (List.getElem?_eq_some_iff.1 ax).1
   have hu:us[k]?=some us[k]:=List.getElem?_eq_getElem hk;have aO:us.getD k undef=us[k]:=by simp [List.getD,hu]
  ·grind
  ·rw [aO];have zA:∀ u,us[k]?=some u->w.cell? ⟨b,k,none⟩=some u:=λu zA=>by
    rw [<- aw,List.getElem?_take] at zA
    split at zA
    ·simpa [World.cell?,bY] using zA
    grind
   grind
  grind
theorem View.sound (h:cF w I T g Fs) {x x':ab}(hv:View g x x'):∀ {v:Value}{F:bb},R w I (dT w T g) x v F->(∀ c,F c->∃ t,Fs t c)->∀ ρ',R w (λc=>I c\/∃ t,Fs t c) ρ' x' v cy:=by
 induction hv with
 | qD =>
  intro v F aZ aN ρ';have:=aZ.se;subst this;exact .hG λ_ h=>h
 | mp =>
  intro v F aZ aN ρ';cases aZ with
  | ref J=>simp [ab.isRef] at J
  | mp a1 au av=>exact .imp (λ_ h=>h) (.inr (aN _ ((av _).2 rfl))) a1 au
 | gz au =>
  intro v F aZ aN ρ';cases aZ with
  | ref _ ao _ =>
   obtain ⟨⟨b,av,rfl⟩,_⟩:=ao;obtain ⟨gx,cB,iu,dI,dy⟩:=h.part au (by simp);rw [av] at iu;cases iu;cases dI with
   | ref J=>simp [ab.isRef] at J
   | mp a1 au av=>exact .imp (λ_ h=>h) (.inr ⟨_,dy _ ((av _).2 rfl)⟩) a1 au
 | self aF h1 af aI bK cG =>
  intro v F aZ aN ρ';refine ((aZ.bm aF).oo λc aa=>.inl aa).empty ?_;cases aZ with
  | mp=>exact absurd rfl (cG _)
  | lit _ aN | aJ aN | dead aN | ref _ _ aN | hG aN | bj aN | cH aN | cW aN | imp aN=>exact aN
  | own=>exact absurd rfl (h1 _ _ _)
  | obj=>exact absurd rfl (af _)
  | agg=>exact absurd rfl (aI _)
  | bW=>exact absurd rfl (bK _)
 | @agg cs cs' ak _ aU =>
  intro v F aZ aN ρ';cases aZ with
  | ref J=>simp [ab.isRef] at J
  | @agg _ vs bM _ hV h1 ao aS mu =>
   refine .agg (Fs:=λ_=>cy) (by rw [ak,hV]) h1 (λk y u ax hu=>?_) (λ_ _ _ _ _ h=>h.elim) (λc=>⟨λh=>h.elim,λ⟨_,_,h⟩=>h⟩);have hk:k<cs.length:=by rw [<- ak]; exact (List.getElem?_eq_some_iff.1 ax).1
   have J:=List.getElem?_eq_getElem hk;exact aU k _ y J ax (ao k _ u J hu) (λc aa=>aN c ((mu c).2 ⟨k,hk,aa⟩)) ρ'
 | @cW fn cs cs' ak _ aU =>
  intro v F aZ aN ρ';cases aZ with
  | ref J=>simp [ab.isRef] at J
  | @cW _ _ _ v1 v2 _ mr h1 af kt iN =>
   refine .cW (λ_ h=>h) h1 (by rw [ak,af]) (λk x u J=>by simp at J) (λk y u ax hu=>?_);have hk:k<cs.length:=by rw [<- ak]; exact (List.getElem?_eq_some_iff.1 ax).1
   have J:=List.getElem?_eq_getElem hk
   grind
 | @own z n cs cs' ak _ aU =>
  intro v F aZ aN ρ';obtain ⟨a,cap,us,bM,rfl,aF,hlen,aP,aa⟩:=aZ.zV;cases a with
  | none =>
   have hF:cs=[]:=by
    cases cs with
    | nil=>rfl
    | cons c cs=>obtain ⟨b,av,_⟩:=aa 0 c rfl; cases av
   subst hF;have lJ:cs'=[]:=List.eq_nil_of_length_eq_zero (by simpa using ak);subst lJ;have k':n=0:=by
    cases aZ with
    | ref J=>simp [ab.isRef] at J
    | own a1 =>
     obtain ⟨_,bY⟩:=a1
     grind
   subst k';exact .hG λ_ h=>h
  | some ad =>
   obtain ⟨b,rfl,rZ⟩:=aP ad rfl;refine .bj (us:=us) (λ_ h=>h) aF (.inr (aN b rZ)) rfl (by rw [ak,hlen]) (λk y ax=>?_) (λk y ax=>?_) λk y ax=>?_
   all_goals
    have hk:k<cs.length:=by rw [<- ak]; exact (List.getElem?_eq_some_iff.1 ax).1
    have J:=List.getElem?_eq_getElem hk;obtain ⟨eC,l3,h1,af,aI,bK⟩:=aa k _ J;cases l3
   all_goals grind
 | @obj cs cs' ak _ aU =>
  intro v F aZ aN ρ';cases aZ with
  | ref J=>simp [ab.isRef] at J
  | @obj _ b e arr bM _ a1 hV h1 ao aS av mu =>
   refine .cH (us:=λk=>arr.getD k undef) (λ_ h=>h) (.inr (aN b ((mu b).2 (.inl rfl)))) rfl (λk y ax=>?_) (λk y ax=>?_) λk y ax=>?_
   all_goals
    have hk:k<cs.length:=by rw [<- ak]; exact (List.getElem?_eq_some_iff.1 ax).1
    have J:=List.getElem?_eq_getElem hk;have hu:arr[k]?=some arr[k]:=Array.getElem?_eq_getElem (hV ▸ hk)
   ·simpa [hu] using h1 k _ hu
   ·simp [World.cell?,a1,hu]
   ·simpa [hu] using aU k _ y J ax (ao k _ _ J hu) (λc aa=>aN c ((mu c).2 (.inr ⟨k,hk,aa⟩))) ρ'
 | @a6 z n N p cs cs' au aF ak _ aU =>
  intro v F aZ aN ρ';obtain ⟨⟨a,iZ,cap,h1,rfl,aI⟩,_⟩:=aZ.nc;obtain ⟨qO,qT,gW,hE,nz⟩:=h.part au (by simp);rw [h1] at gW;cases gW;obtain ⟨a2,rQ,us,bM,jd,k9,hlen,aP,aa⟩:=hE.zV;cases jd;have hle:n * z<=N * z:=Nat.mul_le_mul_right _ aF;have cell:∀ k,k<cs'.length->∃ x b,(cs.take (n * z))[k]?=some x/\a=some ⟨b,0,none⟩/\w.cell? ⟨b,k,none⟩=some (us k)/\(us k).oneCell'=true/\R w I (dT w T g) x (us k) (bM k)/\∀ c,bM k c->qT c:=by
   simp_all
  cases a with
  | none =>
   have lJ:cs'=[]:=by
    cases cs' with
    | nil=>rfl
    | cons c l=>obtain ⟨_,b,_,av,_⟩:=cell 0 (by simp); cases av
   subst lJ;obtain ⟨_,_,jd,_,_,_,rf⟩:=hE.nk;cases jd;have k':n=0:=by
    grind
   subst k';exact .hG λ_ h=>h
  | some ad =>
   obtain ⟨b,rfl,rZ⟩:=aP ad rfl;refine .bj (us:=us) (λ_ h=>h) (by omega) (.inr ⟨_,nz b rZ⟩) rfl (by rw [ak,List.length_take,hlen]; omega) (λk y ax=>?_) (λk y ax=>?_) λk y ax=>?_
   all_goals grind
 | @sub z lo n N p cs cs' au aF ak _ aU =>
  intro v F aZ aN ρ';obtain ⟨⟨a,iZ,cap,b',mP,h1,rfl,IG,aI,cG⟩,_⟩:=aZ.xw;obtain ⟨qO,qT,gW,hE,nz⟩:=h.part au (by simp);rw [h1] at gW;cases gW;obtain ⟨a2,rQ,us,bM,jd,k9,hlen,aP,aa⟩:=hE.zV;cases jd;have hle:lo * z+n * z<=N * z:=by rw [<- Nat.add_mul]; exact Nat.mul_le_mul_right _ aF
  have hV:cs'.length=n * z:=by rw [ak,List.length_take,List.length_drop,hlen]; omega
  have cell:∀ k,k<cs'.length->∃ x b,((cs.drop (lo * z)).take (n * z))[k]?=some x/\a=some ⟨b,0,none⟩/\w.cell? ⟨b,lo * z+k,none⟩=some (us (lo * z+k))/\(us (lo * z+k)).oneCell'=true/\R w I (dT w T g) x (us (lo * z+k)) (bM (lo * z+k))/\∀ c,bM (lo * z+k) c->qT c:=by
   grind
  by_cases k':n=0
  ·subst k';have lJ:cs'=[]:=List.eq_nil_of_length_eq_zero (by simpa using hV);subst lJ;exact .hG λ_ h=>h
  ·obtain ⟨ad,rfl,rfl⟩:=cG (by omega);obtain ⟨b,rfl,rZ⟩:=aP ad rfl;refine .bj (us:=λk=>us (lo * z+k)) (λ_ h=>h) IG (.inr ⟨_,nz b rZ⟩) rfl hV (λk y ax=>?_) (λk y ax=>?_) λk y ax=>?_
   all_goals grind
 | @ptr p k z n y cs cs' au ax hk ak _ aU =>
  intro v F aZ aN ρ';obtain ⟨⟨u,ad,h1,af,rfl⟩,_⟩:=aZ.nP;obtain ⟨qO,qT,gW,hE,nz⟩:=h.part au (by rcases ax with rfl | rfl <;> simp);rw [h1] at gW;cases gW;have cell:∀ j,j<cs'.length->∃ gZ lW yI,w.cell? ⟨ad.block,k+j,none⟩=some gZ/\gZ.oneCell'=true/\(cs.drop k)[j]?=some lW/\R w I (dT w T g) lW gZ yI/\(∀ c,yI c->∃ t,Fs t c):=by
   intro j ah;rw [ak,List.length_drop] at ah;have gf:cs[k+j]?=some cs[k+j]:=List.getElem?_eq_getElem (by omega);obtain ⟨b,gZ,fQ,l5,n',hp,_⟩:=hE.node ax gf;rw [af] at fQ;cases fQ;have gq:bD g (p.push (k+j))=some cs[k+j]:=by rw [tu,au]; rcases ax with rfl | rfl <;> simp [ab.kids]
   by_cases gQ:∃ bE fR cE m' c3,cs[k+j]=.bL bE fR cE m' c3
   ·obtain ⟨bE,fR,cE,m',c3,gQ⟩:=gQ;obtain ⟨b,Zd,_,_,BI,_,bM,kM⟩:=hE.node ax gf;rw [gQ] at kM;exact kM.lh.elim
   ·obtain ⟨o4,K5,xj,M_,mu⟩:=h.part gq (λbE fR cE m' c3 e=>gQ ⟨_,_,_,_,_,e⟩)
    grind [yp]
  obtain ⟨b,gZ,fQ,_⟩:=hE.node ax (List.getElem?_eq_getElem hk);rw [af] at fQ;cases fQ;have hblk:∃ t,Fs t b:=⟨_,nz b (hE.Fh ax af)⟩;refine .cH (us:=λj=>(w.cell? ⟨b,k+j,none⟩).getD undef) (λ_ h=>h) (.inr hblk) rfl (λj jj vu=>?_) (λj jj vu=>?_) λj jj vu=>?_
  all_goals grind
 | @rows z n p cs cs' au ak _ aU =>
  intro v F aZ aN ρ';obtain ⟨a,iZ,cap,h1,rfl,aI⟩:=aZ.nc.1;obtain ⟨v0,e,us,iO,a1,hlen,qj,av,ao⟩:=Rows.sound (w:=w) (I:=I) (T:=T) (Fs:=Fs) (λt z q n m new aw=>h.rel t _ aw) (λp z n cs au=>h.part au (by simp)) (λz p n v hv=>by obtain ⟨⟨a,cap,h1,rfl⟩,_⟩:=hv; exact h1) au;rw [h1] at iO;cases iO;refine Px a1 hlen qj av ak λk x y u J ax hu=>?_
  grind
end
end Go.Own
namespace Go.Own
open Go
def qa (args:List ab):aM:=λt=>args[t]?
def kV (outs:List (Option ab)) (res:ab):aM:=λt=>if t=outs.length then some res else (outs[t]?).join
structure kn (w:World) (I U:bb) (w':World) (I' DW:bb):Prop where
 eT:Fr w w' U
 more:∀ c,I c->I' c
 new:∀ c,I' c->I c\/U c\/w.heap.size<=c
 own:∀ c,DW c->U c\/w.heap.size<=c
def bT (P:Program) (f:FuncId) (args:List ab) (outs:List (Option ab)) (res:ab):Prop :=
 outs.length=args.length/\∀ (w:World) (I:bb) (vs:List Value) (Fs:Nat->bb),vs.length=args.length->cF w I vs.toArray (qa args) Fs ->
  Calls P f vs.toArray w λe w'=>∃ v I' b7,e=.returned v/\cF w' I' (vs++[v]).toArray (kV outs res) b7/\kn w I (λc=>∃ t,Fs t c) w' I' (λc=>∃ t,b7 t c)
def gM (P:Program) (f:FuncId):Bool :=
 match P.funcs[f]? with
 | some fn => fn.name != "runtime.NumGoroutine" && fn.body.isSome
 | none=>false
inductive cz (P:Program) (g:aM):Op->ab->Prop
 | plain {c:Operand}{xs:Array Operand}{gm:Array TypeId}{f:FuncId}{first caps ys:List ab}{res:ab}(aa:bs g c=some (.cW (.func f) first caps)) (J:gk g xs.toList=some ys) (aW:gM P f=true)
   (aF:∀ y∈first++ys++caps,cU y) (gP:bT P f (first++ys++caps) ((first++ys++caps).map λ_=>none) res) (ao:cU res):cz P g (.call { callee:=.value c,args:=xs,argTypes:=gm }) res
 | E6 {c:Operand}{xs:Array Operand}{gm:Array TypeId}{f:FuncId}{first caps ys args:List ab}{res:ab}(aa:bs g c=some (.cW (.func f) first caps)) (J:gk g xs.toList=some ys) (aW:gM P f=true)
   (ak:args.length=(first++ys++caps).length) (hv:∀ (k:Nat) (x y:ab),(first++ys++caps)[k]?=some x->args[k]?=some y->View g x y) (gP:bT P f args (args.map λ_=>none) res) (ao:kE res) :
   cz P g (.call { callee:=.value c,args:=xs,argTypes:=gm }) res
section
variable {P:Program}{w:World}{I:bb}{T:Array Value}{g:aM}{Fs:Nat->bb}
theorem Bc {f:FuncId}(h:gM P f=true) (args:Array Value):(callFunc f args).run P w=.ok (.enter f args) w:=by
 unfold gM at h;cases aW:P.funcs[f]? with
 | none=>simp [aW] at h
 | some fn =>
  simp [aW] at h;obtain ⟨h1,af⟩:=h;cases av:fn.body with
  | none=>simp [av] at af
  | some c=>simp [callFunc,aW,h1,av]
theorem Hd (h:cF w I T g Fs) {a:Act}(aP:a.tmps=T) {c:Operand}{xs:Array Operand}{f:FuncId}{first caps ys:List ab}(aa:bs g c=some (.cW (.func f) first caps)) (J:gk g xs.toList=some ys) :
  ∃ v1 v2:Array Value,a.eval c=.func (.func f) v1 v2/\(first++ys++caps).length=(v1++xs.map a.eval++v2).toList.length /\
   ∀ (k:Nat) (x:ab) (u:Value),(first++ys++caps)[k]?=some x->(v1++xs.map a.eval++v2).toList[k]?=some u->R w I (dT w T g) x u cy:=by
 have zj:=ke h aa aP;obtain ⟨ak,ao⟩:=zT h aP J;generalize u':a.eval c=ac1 at zj;cases zj with
 | ref J=>simp [ab.isRef] at J
 | @cW _ _ _ v1 v2 _ _ h1 af kt iN =>
  have hlen:xs.size=ys.length:=by rw [<- Array.length_toList,ak]
  refine ⟨v1,v2,rfl,by simp [h1,af,hlen],λk x u qz pC=>?_⟩;simp only [Array.toList_append,Array.toList_map] at pC;by_cases hb:k<first.length
  ·rw [List.append_assoc,List.getElem?_append_left hb] at qz;rw [List.append_assoc,List.getElem?_append_left (by simp; omega)] at pC;exact kt k x u qz (by simpa using pC)
  ·rw [List.append_assoc,List.getElem?_append_right (by omega)] at qz;rw [List.append_assoc,List.getElem?_append_right (by simp; omega)] at pC;simp only [Array.length_toList,<- h1] at pC;by_cases fX:k - first.length<ys.length
   ·rw [List.getElem?_append_left fX] at qz;rw [List.getElem?_append_left (by simp; omega),List.getElem?_map] at pC;cases Jc:xs.toList[k - first.length]? with
    | none=>rw [Jc] at pC; cases pC
    | some o=>rw [Jc] at pC; cases pC; exact ao _ x o qz Jc
   ·rw [List.getElem?_append_right (by omega)] at qz;rw [List.getElem?_append_right (by simp; omega)] at pC;simp only [List.length_map,Array.length_toList] at pC;rw [hlen] at pC;exact iN _ x u qz (by simpa using pC)
theorem cF.args {I':bb}(h:cF w I T g Fs) (bf:∀ c,I' c->I c\/∃ t,Fs t c) {args:List ab}{vs:List Value}(ak:args.length=vs.length)
  (ao:∀ (ρ':ab->Value->Prop) (k:Nat) (x:ab) (u:Value),args[k]?=some x->vs[k]?=some u->R w I' ρ' x u cy):cF w I' vs.toArray (qa args) (λ_=>cy):=by
 refine ⟨λt x J=>?_,λ_ _ _ h=>h,λ_ _ _ h=>h.elim,λ_ _ h=>h.elim,λc aa=>?_,λt t' z p n m new bE cE m' c3 h1 af=>?_⟩
 ·have aw:t<args.length:=(List.getElem?_eq_some_iff.1 J).1;have hu:vs[t]?=some vs[t]:=List.getElem?_eq_getElem (ak ▸ aw);exact ⟨vs[t],by rw [List.getElem?_toArray]; exact hu,.tree (ao _ t x _ J hu)⟩
 ·rcases bf c aa with aQ | ⟨t,aQ⟩
  ·exact h.lt c aQ
  ·exact h.j0 t c aQ
 ·have aw:t<args.length:=(List.getElem?_eq_some_iff.1 h1).1;exact (ao (λ_ _=>False) t _ _ h1 (List.getElem?_eq_getElem (ak ▸ aw))).lh.elim
theorem cz.sound (h:cF w I T g Fs) {a:Act}(aP:a.tmps=T) {o:Oper}{kD:ab}(au:cz P g o.op kD) {K:Act->World->Prop}{Q:Exit->Act->World->Prop}
  (dj:∀ v w',uQ w I T g Fs kD v w'->K (a.put o.dst v) w'):o.wp P a w K Q:=by
 obtain ⟨dst,op,ty,pos,after,guard⟩:=o;simp only at au dj;have CA:cU kD->∀ z p n m new,kD=.bL z p n m new->∀ t bE cE m' c3,g t≠some (.bL bE p cE m' c3):=by
  rintro aF z p n m new rfl;cases aF
 have last:∀ {args:List ab}{res:ab}{v:Value}{vs:List Value}{w':World}{I':bb}{b7:Nat->bb},vs.length=args.length->cF w' I' (vs++[v]).toArray (kV (args.map λ_=>none) res) b7->jD w' I' (dT w' (vs++[v]).toArray (kV (args.map λ_=>none) res)) res v (b7 args.length)/\∀ t,t≠args.length->∀ c,¬ b7 t c:=by
  intro args res v vs w' I' b7 ak bk;constructor
  ·obtain ⟨u,hu,aZ⟩:=bk.rel args.length res (by simp [kV]);have:u=v:=by
    rw [<- ak] at hu;simpa using hu.symm
   subst this; exact aZ
  ·intro t aw c aa;refine bk.kU t ?_ c aa;have EJ:t≠(args.map λ_=>(none:Option ab)).length:=by simpa using aw
   simp only [kV,if_neg EJ,List.getElem?_map];cases args[t]? <;> rfl
 cases au with
 | @plain c xs gm f first caps ys _ aa J aW aF gP ao =>
  obtain ⟨v1,v2,u',ak,qm⟩:=Hd h aP aa J;have hP:(execOp a.eval { dst:=dst,op:=.call { callee:=.value c,args:=xs,argTypes:=gm },type:=ty,pos:=pos,after:=after,guard:=guard }).run P w=.ok (.enter f (v1++xs.map a.eval++v2)) w:=by
   simp [execOp,resolve,Deferred.ofValue,u',invoke,Bc aW]
  have bk:=h.args (I':=I) (λc aa=>.inl aa) ak λρ' k x u J hu=>(qm k x u J hu).bm (aF x (List.mem_of_getElem? J));have py:=gP.2 w I (v1++xs.map a.eval++v2).toList _ ak.symm bk;unfold Oper.wp Oper.upon;simp only [hP];rw [Array.toArray_toList] at py;refine Calls.mono py ?_;rintro e w' ⟨v,I',b7,rfl,dX,b0⟩;obtain ⟨zx,e8⟩:=last ak.symm dX;have oN:Fr w w' (λ_=>False):=b0.eT.mono λb _ ⟨_,av⟩=>av;refine dj v w' ⟨b7 (first++ys++caps).length,I',?_,?_,?_,?_,b0.more,?_,oN.mono λ_ _ h=>h.elim,CA ao⟩
  ·have:=h.world (w':=w') (λt c aa=>oN.block c (h.j0 t c aa) (λh=>h)) (λc aa=>oN.block c (h.lt c aa) λh=>h) oN.size;refine ⟨λt x J=>?_,this.kU,this.eJ,λt c aa hi=>?_,dX.lt,this.rq⟩
   ·obtain ⟨v,hv,aZ⟩:=this.rel t x J;exact ⟨v,hv,aZ.frame (λ_ _=>rfl) b0.more (λ_ _ h=>h) (λ_ _ _ _ _ _ _=>rfl) λ_ _=>rfl⟩
   ·rcases b0.new c hi with aQ | ⟨_,aQ⟩ | aQ
    ·exact h.bj t c aa aQ
    ·exact aQ
    ·have:=h.j0 t c aa; omega
  ·exact .tree ((zx.gI (by rintro z p n m new rfl; cases ao)).bm ao)
  ·intro t c aa vd;rcases b0.own c ⟨_,aa⟩ with ⟨_,aQ⟩ | aQ
   ·exact aQ
   ·have:=h.j0 t c vd; omega
  ·intro c aa;rcases b0.own c ⟨_,aa⟩ with ⟨_,aQ⟩ | aQ
   ·exact aQ.elim
   ·exact ⟨aQ,dX.bj _ c aa⟩
  ·intro c aa;rcases b0.new c aa with aQ | ⟨_,aQ⟩ | aQ
   ·exact .inl aQ
   ·exact aQ.elim
   ·exact .inr aQ
 | @E6 c xs gm f first caps ys args _ aa J aW Iy hv gP ao =>
  obtain ⟨v1,v2,u',ak,qm⟩:=Hd h aP aa J;have hP:(execOp a.eval { dst:=dst,op:=.call { callee:=.value c,args:=xs,argTypes:=gm },type:=ty,pos:=pos,after:=after,guard:=guard }).run P w=.ok (.enter f (v1++xs.map a.eval++v2)) w:=by
   simp [execOp,resolve,Deferred.ofValue,u',invoke,Bc aW]
  have hV:args.length=(v1++xs.map a.eval++v2).toList.length:=by rw [Iy,ak]
  have bk:=h.args (I':=λc=>I c\/∃ t,Fs t c) (λc aa=>aa) hV λρ' k x u J hu=>by
   have hk:k<(first++ys++caps).length:=by rw [<- Iy]; exact (List.getElem?_eq_some_iff.1 J).1
   have iG:=List.getElem?_eq_getElem hk;exact (hv k _ x iG J).sound h (qm k _ u iG hu) (λ_ h=>h.elim) ρ'
  have py:=gP.2 w _ (v1++xs.map a.eval++v2).toList _ hV.symm bk;unfold Oper.wp Oper.upon;simp only [hP];rw [Array.toArray_toList] at py;refine Calls.mono py ?_;rintro e w' ⟨v,I',b7,rfl,dX,b0⟩;obtain ⟨zx,e8⟩:=last hV.symm dX;have oN:Fr w w' (λ_=>False):=b0.eT.mono λb _ ⟨_,av⟩=>av;refine dj v w' ⟨b7 args.length,I,?_,?_,?_,?_,λ_ h=>h,λ_ h=>.inl h,oN.mono λ_ _ h=>h.elim,CA ao.bm⟩
  ·exact h.world (w':=w') (λt c aa=>oN.block c (h.j0 t c aa) (λh=>h)) (λc aa=>oN.block c (h.lt c aa) λh=>h) oN.size
  ·exact .tree ((zx.gI (by rintro z p n m new rfl; cases ao)).lj ao)
  ·intro t c aa vd;rcases b0.own c ⟨_,aa⟩ with ⟨_,aQ⟩ | aQ
   ·exact aQ
   ·have:=h.j0 t c vd; omega
  ·intro c aa;rcases b0.own c ⟨_,aa⟩ with ⟨_,aQ⟩ | aQ
   ·exact aQ.elim
   ·exact ⟨aQ,λhi=>by have:=h.lt c hi; omega⟩
end
end Go.Own
namespace Go.Own
open Go
structure jE (w:World) (I:bb) (T:Array Value) (g:aM) (Fs:Nat->bb):Prop where
 rel:∀ t x,g t=some x->∃ v,T[t]?=some v/\jD w I (fC w T) x v (Fs t)
 kU:∀ t,g t=none->∀ c,¬ Fs t c
 eJ:∀ t t' c,Fs t c->Fs t' c->t=t'
 bj:∀ t c,Fs t c->¬ I c
 lt:∀ c,I c->c<w.heap.size
def cv (g:aM) (p:Place) (y:ab):aM:=λt=>if t=p.root then (g t).map λx=>x.setAt p.path y else g t
inductive di (g:aM):ab->Prop
 | bm {x:ab}(h:cU x):di g x
 | ref {x:ab}(J:x.isRef=true) (h:gD g x):di g x
 | own {z n:Nat}{cs:List ab}(h:∀ x∈cs,di g x):di g (.own z n cs)
 | obj {cs:List ab}(h:∀ x∈cs,di g x):di g (.obj cs)
 | agg {cs:List ab}(h:∀ x∈cs,di g x):di g (.agg cs)
 | bW {cs:List ab}(h:∀ x∈cs,di g x):di g (.bW cs)
 | cW {fn:Fn}{a b:List ab}(h1:∀ x∈a,di g x) (af:∀ x∈b,di g x):di g (.cW fn a b)
 | bL {z n m:Nat}{p:Place}{new:List ab}(au:gD g (.bL z p n 0 [])) (h:∀ x∈new,di g x):di g (.bL z p n m new)
section
variable {w:World}{I:bb}{T:Array Value}{g:aM}{Fs:Nat->bb}
theorem R.bV {x:ab}{v:Value}{F:bb}(h:R w I (fC w T) x v F):di g x->R w I (dT w T g) x v F:=by
 induction h with
 | lit h aN=>exact λ_=>.lit h aN
 | aJ aN=>exact λ_=>.aJ aN
 | dead aN=>exact λ_=>.dead aN
 | @ref x _ _ J h aN =>
  intro hk;refine .ref J ⟨h,?_⟩ aN;cases hk with
  | ref _ h=>exact h
  | bm h=>cases h <;> simp [ab.isRef] at J
  | _=>simp [ab.isRef] at J
 | hG aN=>exact λ_=>.hG aN
 | mp a1 au aN=>exact λ_=>.mp a1 au aN
 | imp aN bf a1 au=>exact λ_=>.imp aN bf a1 au
 | bj aN k9 bf aC ak h1 aa ao aU =>
  intro hk;cases hk with
  | ref J=>simp [ab.isRef] at J
  | bm h=>cases h with | bj h=>exact .bj aN k9 bf aC ak h1 aa λk x J=>aU k x J (.bm (h x (List.mem_of_getElem? J)))
 | cH aN bf aC h1 aa ao aU =>
  intro hk;cases hk with
  | ref J=>simp [ab.isRef] at J
  | bm h=>cases h with | cH h=>exact .cH aN bf aC h1 aa λk x J=>aU k x J (.bm (h x (List.mem_of_getElem? J)))
 | own a1 ak h1 ao aS av aN aU =>
  intro hk;refine .own a1 ak h1 (λk x u J hu=>aU k x u J hu ?_) aS av aN;cases hk with
  | ref J=>simp [ab.isRef] at J
  | bm h=>cases h with | own h=>exact .bm (h x (List.mem_of_getElem? J))
  | own h=>exact h x (List.mem_of_getElem? J)
 | obj a1 ak h1 ao aS av aN aU =>
  intro hk;refine .obj a1 ak h1 (λk x u J hu=>aU k x u J hu ?_) aS av aN;cases hk with
  | ref J=>simp [ab.isRef] at J
  | bm h=>cases h with | obj h=>exact .bm (h x (List.mem_of_getElem? J))
  | obj h=>exact h x (List.mem_of_getElem? J)
 | agg ak h1 ao aS aN aU =>
  intro hk;refine .agg ak h1 (λk x u J hu=>aU k x u J hu ?_) aS aN;cases hk with
  | ref J=>simp [ab.isRef] at J
  | bm h=>cases h with | agg h=>exact .bm (h x (List.mem_of_getElem? J))
  | agg h=>exact h x (List.mem_of_getElem? J)
 | bW ak ao aS aN aU =>
  intro hk;refine .bW ak (λk x u J hu=>aU k x u J hu ?_) aS aN;cases hk with
  | ref J=>simp [ab.isRef] at J
  | bm h=>cases h with | bW h=>exact .bm (h x (List.mem_of_getElem? J))
  | bW h=>exact h x (List.mem_of_getElem? J)
 | @cW fn first caps v1 v2 F aN h1 af kt iN gy gg =>
  intro hk;have:(∀ x∈first,di g x)/\∀ x∈caps,di g x:=by
   cases hk with
   | ref J=>simp [ab.isRef] at J
   | bm h=>cases h with | cW h1 af=>exact ⟨λx J=>.bm (h1 x J),λx J=>.bm (af x J)⟩
   | cW h1 af=>exact ⟨h1,af⟩
  exact .cW aN h1 af (λk x u J hu=>gy k x u J hu (this.1 x (List.mem_of_getElem? J))) (λk x u J hu=>gg k x u J hu (this.2 x (List.mem_of_getElem? J)))
theorem jD.bV {x:ab}{v:Value}{F:bb}(h:jD w I (fC w T) x v F) (hk:di g x):jD w I (dT w T g) x v F:=by
 cases h with
 | tree h=>exact .tree (h.bV hk)
 | bL h =>
  cases hk with
  | bm h=>cases h
  | ref J=>simp [ab.isRef] at J
  | bL au aF=>exact .bL ⟨⟨h.jW,au⟩,h.lb,h.nJ,h.ak,h.h1,λk x u J hu=>(h.ao k x u J hu).bV (aF x (List.mem_of_getElem? J)),h.aN⟩
theorem cF.mE (h:cF w I T g Fs):jE w I T g Fs :=
  ⟨λt x J=>by
    obtain ⟨v,hv,aZ⟩:=h.rel t x J;refine ⟨v,hv,?_⟩;cases aZ with
    | tree aZ=>exact .tree (aZ.frame (λ_ _=>rfl) (λ_ h=>h) (λ_ _ h=>h.1) λ_ _=>rfl)
    | bL aZ=>exact .bL ⟨aZ.jW.1,aZ.lb,aZ.nJ,aZ.ak,aZ.h1,λk x u J hu=>(aZ.ao k x u J hu).frame (λ_ _=>rfl) (λ_ h=>h) (λ_ _ h=>h.1) λ_ _=>rfl,aZ.aN⟩,
   h.kU,h.eJ,h.bj,h.lt⟩
theorem jE.Y6 (h:jE w I T g Fs) {g':aM}(aO:∀ t x,g' t=some x->g t=some x) (hk:∀ t x,g' t=some x->di g' x)
  (au:∀ t t' z p n m new bE cE m' c3,g' t=some (.bL z p n m new)->g' t'=some (.bL bE p cE m' c3)->t=t'):cF w I T g' (λt c=>g' t≠none/\Fs t c):=by
 refine ⟨λt x J=>?_,λt aw c aa=>aa.1 aw,λt t' c aa fo=>h.eJ t t' c aa.2 fo.2,λt c aa=>h.bj t c aa.2,h.lt,au⟩;obtain ⟨v,hv,aZ⟩:=h.rel t x (aO t x J);have:Fs t=λc=>g' t≠none/\Fs t c:=by
  grind
 refine ⟨v,hv,?_⟩;rw [<- this];exact aZ.bV (hk t x J)
theorem jE.part (h:jE w I T g Fs) {p:Place}{y:ab}(au:bD g p=some y) (ax:∀ z q n m new,y≠.bL z q n m new):∃ v cB,dW w T p=some v/\R w I (fC w T) y v cB/\(∀ c,cB c->Fs p.root c) /\
  ∀ (y':ab) (jl:bb),R w I (fC w T) y' v jl->(∀ c,jl c->Fs p.root c->cB c)->(∀ c,jl c->¬ I c)->(∀ t c,t≠p.root->jl c->¬ Fs t c) ->
   ∃ b7,jE w I T (cv g p y') b7/\(∀ c,b7 p.root c↔(Fs p.root c/\¬ cB c)\/jl c)/\∀ t,t≠p.root->b7 t=Fs t:=by
 unfold bD at au;cases J:g p.root with
 | none=>rw [J] at au; cases au
 | some x =>
  rw [J] at au;obtain ⟨v,hv,aZ⟩:=h.rel _ _ J;replace aZ:=aZ.gI (by
   grind [ab.sx])
  obtain ⟨h0,cB,hw,dI,dy,eY,kf⟩:=R.focus p.path aZ au;refine ⟨h0,cB,by simp [dW,hv,hw],dI,dy,λy' jl jL mW bf acC=>?_⟩;obtain ⟨c9,Er,po⟩:=kf w I (fC w T) y' jl ⟨λ_ _=>rfl,λ_ _ _=>rfl,λ_ h=>h,λ_ _ h=>h⟩ jL mW;refine ⟨λt=>if t=p.root then c9 else Fs t,⟨λt x' gf=>?_,λt aw c=>?_,λt t' c aa fo=>?_,λt c aa=>?_,h.lt⟩,λc=>by simp [po c],λt aw=>by simp [aw]⟩
  ·by_cases iF:t=p.root
   ·subst iF;have Wh:x.setAt p.path y'=x':=by simpa [cv,J] using gf
    subst Wh;exact ⟨v,hv,.tree (by simpa using Er)⟩
   ·simp only [cv,if_neg iF] at gf;simpa [iF] using h.rel t x' gf
  ·by_cases iF:t=p.root
   ·grind [cv]
   ·simp only [cv,if_neg iF] at aw;simpa [iF] using h.kU t aw c
  ·by_cases h1:t=p.root <;> by_cases af:t'=p.root <;> simp only [h1,af,if_true,if_false] at aa fo
   ·grind
   ·rcases (po c).1 aa with ⟨aI,_⟩ | aI
    ·rw [h1];exact h.eJ _ _ _ aI fo
    grind
   ·rcases (po c).1 fo with ⟨aI,_⟩ | aI
    ·rw [af];exact h.eJ _ _ _ aa aI
    grind
   ·exact h.eJ _ _ _ aa fo
  ·by_cases h1:t=p.root <;> simp only [h1,if_true,if_false] at aa
   ·rcases (po c).1 aa with ⟨aI,_⟩ | aI
    ·exact h.bj _ c aI
    grind
   ·exact h.bj t c aa
end
end Go.Own
namespace Go.Own
open Go
inductive Take:aM->List ab->List ab->aM->Prop
 | bm {g:aM}{xs:List ab}(h:∀ x∈xs,cU x):Take g xs xs g
 | cons {g g':aM}{x:ab}{xs xs':List ab}(h:cU x) (aw:Take g xs xs' g'):Take g (x::xs) (x::xs') g'
 | a6 {g g1 g':aM}{z n N:Nat}{p:Place}{cs cs' xs xs':List ab}(au:bD g p=some (.own z N cs)) (aF:n<=N) (h1:Take (cv g p .dead) (cs.take (n * z)) cs' g1) (af:Take g1 xs xs' g') :
   Take g (.a6 z p n::xs) (.own z n cs'::xs') g'
 | bL {g g1 g':aM}{z n m t:Nat}{q:Place}{cs new cs' xs xs':List ab}(aw:g t=some (.bL z q n m new)) (au:bD g q=some (.own z n cs)) (bg:q.root≠t) (h1:Take (cv (cv g ⟨t,[]⟩ .dead) q .dead) (cs++new) cs' g1) (af:Take g1 xs xs' g') :
   Take g (.a6 z ⟨t,[]⟩ (n+m)::xs) (.own z (n+m) cs'::xs') g'
 | Ft {g g1 g':aM}{z n m t rk m2 t2:Nat}{q:Place}{cs new zP cs' xs xs':List ab}(aw:g t=some (.bL z ⟨t2,[]⟩ n m new)) (N5:g t2=some (.bL z q rk m2 zP)) (aF:n=rk+m2) (au:bD g q=some (.own z rk cs)) (bg:q.root≠t) (ua:q.root≠t2) (V4:t≠t2)
   (h1:Take (cv (cv (cv g ⟨t,[]⟩ .dead) ⟨t2,[]⟩ .dead) q .dead) (cs++zP++new) cs' g1) (af:Take g1 xs xs' g') :
   Take g (.a6 z ⟨t,[]⟩ (n+m)::xs) (.own z (n+m) cs'::xs') g'
 | obj {g g1 g':aM}{p:Place}{cs cs' xs xs':List ab}(au:bD g p=some (.obj cs)) (h1:Take (cv g p .dead) cs cs' g1) (af:Take g1 xs xs' g'):Take g (.ptr p 0::xs) (.obj cs'::xs') g'
 | mp {g g1 g':aM}{p:Place}{q:Array MapEntry->Nat->Prop}{xs xs':List ab}(au:bD g p=some (.mp q)) (h1:Take (cv g p .dead) [] [] g1) (af:Take g1 xs xs' g'):Take g (.gz p::xs) (.mp q::xs') g'
 | agg {g g1 g':aM}{cs cs' xs xs':List ab}(h1:Take g cs cs' g1) (af:Take g1 xs xs' g'):Take g (.agg cs::xs) (.agg cs'::xs') g'
 | bW {g g1 g':aM}{cs cs' xs xs':List ab}(h1:Take g cs cs' g1) (af:Take g1 xs xs' g'):Take g (.bW cs::xs) (.bW cs'::xs') g'
structure Hand (w:World) (I:bb) (ρ:ab->Value->Prop) (Fs:Nat->bb) (xs:List ab) (vs:List Value) (dD:Nat->bb):Prop where
 len:xs.length=vs.length
 rel:∀ (k:Nat) (x:ab) (u:Value),xs[k]?=some x->vs[k]?=some u->R w I ρ x u (dD k)
 eJ:∀ (j k c:Nat),j<xs.length->k<xs.length->dD j c->dD k c->j=k
 off:∀ (k t c:Nat),k<xs.length->dD k c->¬ Fs t c
 bj:∀ (k c:Nat),k<xs.length->dD k c->¬ I c
def lq (Fs:Nat->bb) (n:Nat) (dD:Nat->bb):bb:=λc=>(∃ t,Fs t c)\/∃ k,k<n/\dD k c
section
variable {w:World}{I:bb}{T:Array Value}
theorem Take.length {g g':aM}{xs xs':List ab}(h:Take g xs xs' g'):xs'.length=xs.length:=by
 induction h with
 | bm=>rfl
 | cons _ _ aU=>simp [aU]
 | a6 _ _ _ _ _ aU=>simp [aU]
 | bL _ _ _ _ _ _ aU=>simp [aU]
 | Ft _ _ _ _ _ _ _ _ _ _ aU=>simp [aU]
 | obj _ _ _ _ aU=>simp [aU]
 | mp _ _ _ _ aU=>simp [aU]
 | agg _ _ _ aU=>simp [aU]
 | bW _ _ _ aU=>simp [aU]
theorem Hand.cons {ρ:ab->Value->Prop}{Fs:Nat->bb}{x:ab}{v:Value}{F:bb}{xs:List ab}{vs:List Value}{dD:Nat->bb}(h:Hand w I ρ Fs xs vs dD) (J:R w I ρ x v F)
  (aS:∀ k c,k<xs.length->F c->¬ dD k c) (a1:∀ t c,F c->¬ Fs t c) (hi:∀ c,F c->¬ I c):Hand w I ρ Fs (x::xs) (v::vs) (λk=>match k with | 0=>F | k+1=>dD k):=by
 refine ⟨by simp [h.len],λk y u ax hu=>?_,λj k c ah hk h1 af=>?_,λk t c hk aa=>?_,λk c hk aa=>?_⟩
 ·cases k with
  | zero=>simp at ax hu; subst ax hu; exact J
  | succ k=>simp at ax hu; exact h.rel k y u ax hu
 ·cases j <;> cases k
  ·rfl
  ·exact absurd af (aS _ c (by simpa using hk) h1)
  ·exact absurd h1 (aS _ c (by simpa using ah) af)
  ·rw [h.eJ _ _ c (by simpa using ah) (by simpa using hk) h1 af]
 ·cases k with
  | zero=>exact a1 t c aa
  | succ k=>exact h.off k t c (by simpa using hk) aa
 ·cases k with
  | zero=>exact hi c aa
  | succ k=>exact h.bj k c (by simpa using hk) aa
theorem Hand.tail {ρ:ab->Value->Prop}{Fs:Nat->bb}{x:ab}{v:Value}{xs:List ab}{vs:List Value}{dD:Nat->bb}(h:Hand w I ρ Fs (x::xs) (v::vs) dD):Hand w I ρ Fs xs vs (λk=>dD (k+1)) :=
  ⟨by simpa using h.len,λk y u ax hu=>h.rel (k+1) y u ax hu,λj k c ah hk h1 af=>by have:=h.eJ (j+1) (k+1) c (by simpa using ah) (by simpa using hk) h1 af; omega,
   λk t c hk aa=>h.off (k+1) t c (by simpa using hk) aa,λk c hk aa=>h.bj (k+1) c (by simpa using hk) aa⟩
theorem pO {x:ab}{xs:List ab}(h:cU x) (aU:∀ y∈xs,cU y):∀ y∈x::xs,cU y:=by
 intro y ax;rcases List.mem_cons.1 ax with rfl | ax
 ·exact h
 ·exact aU y ax
theorem Take.Fj {g g':aM}{xs xs':List ab}(h:Take g xs xs' g'):∀ x∈xs',cU x:=by
 induction h with
 | bm h=>exact h
 | cons h _ aU=>exact pO h aU
 | a6 _ _ _ _ gy gg=>exact pO (.own gy) gg
 | bL _ _ _ _ _ gy gg=>exact pO (.own gy) gg
 | Ft _ _ _ _ _ _ _ _ _ gy gg=>exact pO (.own gy) gg
 | obj _ _ _ gy gg=>exact pO (.obj gy) gg
 | mp _ _ _ _ gg=>exact pO .mp gg
 | agg _ _ gy gg=>exact pO (.agg gy) gg
 | bW _ _ gy gg=>exact pO (.bW gy) gg
def GI (w:World) (I:bb) (T:Array Value) (g:aM) (xs xs':List ab) (g':aM):Prop :=
 ∀ {Fs:Nat->bb}{vs:List Value}{dD:Nat->bb},jE w I T g Fs->Hand w I (fC w T) Fs xs vs dD ->
  ∃ b7 lY,jE w I T g' b7/\Hand w I (fC w T) b7 xs' vs lY/\∀ c,lq b7 xs'.length lY c->lq Fs xs.length dD c
theorem JX {w:World}{e cj:TypeId}{z n:Nat}{v:Value}{us iT:List Value}(h:w.ownsRow 0 e z v n us) (aQ:w.ownsRow 0 cj z v n iT):us=iT:=by
 obtain ⟨h1,af⟩:=h;obtain ⟨qj,TC⟩:=aQ;rcases af with ⟨rfl,rfl⟩ | ⟨b,cap,cur,rfl,_,aO,_,_,_,aw⟩
 ·simp at h1 qj; rw [h1,qj]
 ·rcases TC with ⟨bY,_⟩ | ⟨eC,mP,abt,bY,_,NA,_,_,_,EJ⟩
  ·cases bY
  ·cases bY;rw [aO] at NA;cases NA;rw [<- aw,<- EJ]
theorem Take.node {g1 g2 g':aM}{Fs f_:Nat->bb}{B H0:bb}{cs cs' xs xs':List ab}{us vs:List Value}{bM dD:Nat->bb}{X:ab}{v0:Value}
  (bk:jE w I T g1 f_) (hH:Hand w I (fC w T) f_ cs us bM) (fj:∀ c,B c->(∃ t,Fs t c)/\(∀ t,¬ f_ t c)/\(∀ k,k<cs.length->¬ bM k c)/\¬ I c)
  (gH:∀ c,lq f_ cs.length bM c->(∃ t,Fs t c)\/H0 c) (dL:Hand w I (fC w T) Fs xs vs dD) (u4:∀ c,H0 c->(∀ t,¬ Fs t c)/\∀ k,k<xs.length->¬ dD k c)
  (gy:GI w I T g1 cs cs' g2) (gg:GI w I T g2 xs xs' g')
  (build:∀ lY:Nat->bb,(∀ (k:Nat) (x:ab) (u:Value),cs'[k]?=some x->us[k]?=some u->R w I (fC w T) x u (lY k))->(∀ (j k c:Nat),j<cs'.length->k<cs'.length->lY j c->lY k c->j=k) ->
   (∀ k c,k<cs'.length->lY k c->¬ B c)->R w I (fC w T) X v0 (λc=>B c\/∃ k,k<cs'.length/\lY k c)) :
  ∃ b7 lY,jE w I T g' b7/\Hand w I (fC w T) b7 (X::xs') (v0::vs) lY/\∀ c,lq b7 (X::xs').length lY c->(∃ t,Fs t c)\/H0 c\/∃ k,k<xs.length/\dD k c:=by
 obtain ⟨iY,H1,h8,Ep,BC⟩:=gy bk hH;have Xi:∀ k t c,k<xs.length->dD k c->¬ iY t c:=by
  intro k t c hk aa aW;rcases gH c (BC c (.inl ⟨t,aW⟩)) with ⟨t',h⟩ | h
  ·exact dL.off k t' c hk aa h
  ·exact (u4 c h).2 k hk aa
 obtain ⟨yH,AU,HT,Ub,Nd⟩:=gg h8 (⟨dL.len,dL.rel,dL.eJ,Xi,dL.bj⟩:Hand w I (fC w T) iY xs vs dD);have T0:∀ k c,k<cs'.length->H1 k c->¬ B c:=by
  intro k c hk aa av;obtain ⟨_,h1,af,_⟩:=fj c av;rcases BC c (.inr ⟨k,hk,aa⟩) with ⟨t,h⟩ | ⟨j,ah,h⟩
  ·exact h1 t h
  ·exact af j ah h
 have tK:=build H1 Ep.rel Ep.eJ T0
 -- the node's blocks: apart from all else
 have key:∀ c,(B c\/∃ k,k<cs'.length/\H1 k c)->(∀ t,¬ iY t c)/\(∀ k,k<xs.length->¬ dD k c)/\¬ I c/\((∃ t,Fs t c)\/H0 c):=by
  rintro c (av | ⟨k,hk,aa⟩)
  ·obtain ⟨⟨t0,aR⟩,h1,af,aI⟩:=fj c av;refine ⟨λt aW=>?_,λk hk aa=>dL.off k t0 c hk aa aR,aI,.inl ⟨t0,aR⟩⟩;rcases BC c (.inl ⟨t,aW⟩) with ⟨t',h⟩ | ⟨j,ah,h⟩
   ·exact h1 t' h
   ·exact af j ah h
  ·have aC:=gH c (BC c (.inr ⟨k,hk,aa⟩));refine ⟨λt aW=>Ep.off k t c hk aa aW,λj ah w7=>?_,Ep.bj k c hk aa,aC⟩;rcases aC with ⟨t,h⟩ | h
   ·exact dL.off j t c ah w7 h
   ·exact (u4 c h).2 j ah w7
 have fin:∀ c,(B c\/∃ k,k<cs'.length/\H1 k c)->(∀ t,¬ yH t c)/\∀ k,k<xs'.length->¬ AU k c:=by
  intro c aa;obtain ⟨h1,af,_,_⟩:=key c aa;have none:¬ lq yH xs'.length AU c:=by
   intro h;rcases Nd c h with ⟨t,h⟩ | ⟨k,hk,h⟩
   ·exact h1 t h
   ·exact af k hk h
  exact ⟨λt h=>none (.inl ⟨t,h⟩),λk hk h=>none (.inr ⟨k,hk,h⟩)⟩
 refine ⟨yH,_,HT,Ub.cons tK (λk c hk aa=>(fin c aa).2 k hk) (λt c aa=>(fin c aa).1 t) (λc aa=>(key c aa).2.2.1),?_⟩;have back:∀ c,lq yH xs'.length AU c->(∃ t,Fs t c)\/H0 c\/∃ k,k<xs.length/\dD k c:=by
  intro c h;rcases Nd c h with ⟨t,h⟩ | h
  ·rcases gH c (BC c (.inl ⟨t,h⟩)) with h | h
   ·exact .inl h
   ·exact .inr (.inl h)
  ·exact .inr (.inr h)
 rintro c (h | ⟨k,hk,aa⟩)
 ·exact back c (.inl h)
 ·cases k with
  | zero =>
   rcases (key c aa).2.2.2 with h | h
   ·exact .inl h
   ·exact .inr (.inl h)
  | succ k=>exact back c (.inr ⟨k,by simpa using hk,aa⟩)
end
end Go.Own
namespace Go.Own
open Go
section
variable {w:World}{I:bb}{T:Array Value}
theorem jE.kill {g:aM}{Fs:Nat->bb}(h:jE w I T g Fs) (t:Nat):∃ b7,jE w I T (cv g ⟨t,[]⟩ .dead) b7/\(∀ c,¬ b7 t c)/\∀ s,s≠t->b7 s=Fs s:=by
 refine ⟨λs=>if s=t then cy else Fs s,⟨λs x J=>?_,λs aC c=>?_,λs cT c aa fo=>?_,λs c aa=>?_,h.lt⟩,λc=>by simp,λs aC=>by simp [aC]⟩
 ·by_cases b0:s=t
  ·subst b0;simp only [cv,if_pos] at J;cases aO:g s with
   | none=>rw [aO] at J; cases J
   | some y =>
    rw [aO] at J;have:x=.dead:=by simpa [ab.setAt] using J.symm
    subst this;obtain ⟨v,hv,_⟩:=h.rel s y aO;exact ⟨v,hv,.tree (.dead (by simp))⟩
  ·simp only [cv,if_neg b0] at J; simpa [b0] using h.rel s x J
 ·by_cases b0:s=t
  ·simp [b0]
  ·simp only [cv,if_neg b0] at aC; simpa [b0] using h.kU s aC c
 ·by_cases h1:s=t <;> by_cases af:cT=t <;> simp [h1,af,cy] at aa fo;exact h.eJ _ _ _ aa fo
 ·by_cases h1:s=t <;> simp [h1,cy] at aa;exact h.bj _ _ aa
theorem R.vc {ρ:ab->Value->Prop}{Fs:Nat->bb}{x:ab}{v:Value}{xs:List ab}{vs:List Value}{dD:Nat->bb}(h:Hand w I ρ Fs (x::xs) (v::vs) dD):∀ c,dD 0 c->(∀ t,¬ Fs t c)/\∀ k,k<xs.length->¬ dD (k+1) c:=by
 intro c aa;refine ⟨λt=>h.off 0 t c (by simp) aa,λk hk h_=>?_⟩;have:=h.eJ 0 (k+1) c (by simp) (by simpa using hk) aa h_;omega
theorem lq.head {Fs:Nat->bb}{x:ab}{xs:List ab}{dD:Nat->bb}{c:Nat}(h:(∃ t,Fs t c)\/dD 0 c\/∃ k,k<xs.length/\dD (k+1) c):lq Fs (x::xs).length dD c:=by
 rcases h with h | h | ⟨k,hk,h⟩
 ·exact .inl h
 ·exact .inr ⟨0,by simp,h⟩
 ·exact .inr ⟨k+1,by simpa using hk,h⟩
theorem FT {g:aM}{p:Place}{y:ab}{q:Place}(h:q.root≠p.root):bD (cv g p y) q=bD g q:=by
 grind [bD,cv]
theorem uD {g:aM}{p:Place}{y:ab}{t:Nat}(h:t≠p.root):cv g p y t=g t:=by
 grind [cv]
theorem O_ {a:Option Addr}{n cap cE mP:Nat}:(Value.slice a n cap).ownBlock=(Value.slice a cE mP).ownBlock:=by cases a <;> rfl
theorem Xq {e:TypeId}{z n N:Nat}{a:Option Addr}{cap:Nat}{us:List Value}(h:w.ownsRow 0 e z (.slice a N cap) N us) (aF:n<=N):w.ownsRow 0 e z (.slice a n cap) n (us.take (n * z)):=by
 have hle:n * z<=N * z:=Nat.mul_le_mul_right _ aF;obtain ⟨hu,bY⟩:=h;refine ⟨by rw [List.length_take,hu]; omega,?_⟩
 grind
theorem Take.sound {g g':aM}{xs xs':List ab}(h:Take g xs xs' g'):GI w I T g xs xs' g':=by
 induction h with
 | bm h=>exact λ{Fs vs dD} bk hH=>⟨Fs,dD,bk,hH,λ_ h=>h⟩
 | @cons g g' x xs xs' J _ aU =>
  intro Fs vs dD bk hH;cases vs with
  | nil=>have:=hH.len; simp at this
  | cons v vs =>
   obtain ⟨b7,lY,dX,Ua,hN⟩:=aU bk hH.tail;have aR:=R.vc hH;have off:∀ c,dD 0 c->¬ lq b7 xs'.length lY c:=by
    intro c aa av;rcases hN c av with ⟨t,h⟩ | ⟨k,hk,h⟩
    ·grind
    grind
   refine ⟨b7,_,dX,Ua.cons (hH.rel 0 x v rfl rfl) (λk c hk aa h=>off c aa (.inr ⟨k,hk,h⟩)) (λt c aa h=>off c aa (.inl ⟨t,h⟩)) (λc aa=>hH.bj 0 c (by simp) aa),?_⟩;rintro c (h | ⟨k,hk,h⟩)
   ·rcases hN c (.inl h) with h | ⟨j,ah,h⟩
    ·exact .inl h
    ·exact .inr ⟨j+1,by simpa using ah,h⟩
   ·cases k with
    | zero=>exact .inr ⟨0,by simp,h⟩
    | succ k =>
     rcases hN c (.inr ⟨k,by simpa using hk,h⟩) with h | ⟨j,ah,h⟩
     ·exact .inl h
     ·exact .inr ⟨j+1,by simpa using ah,h⟩
 | @a6 g g1 g' z n N p cs cs' xs xs' au aF t1 _ gy gg =>
  intro Fs vs dD bk hH;cases vs with
  | nil=>have:=hH.len; simp at this
  | cons v vs =>
   obtain ⟨qO,cB,gW,hE,dy,kf⟩:=bk.part au (by simp);obtain ⟨a,iZ,cap,h1,rfl,aI⟩:=(hH.rel 0 _ v rfl rfl).nc;rw [h1] at gW;cases gW;obtain ⟨a2,rQ,jd,_⟩:=hE.nk;cases jd;obtain ⟨f_,jc,kt,iN⟩:=kf .dead cy (.dead λ_ h=>h) (λ_ h=>h.elim) (λ_ h=>h.elim) (λ_ _ _ h=>h.elim);have pr:∀ t c,f_ t c->Fs t c/\¬ cB c:=by
    intro t c aa;by_cases aw:t=p.root
    ·grind
    ·rw [iN t aw] at aa;exact ⟨aa,λeM=>aw (bk.eJ _ _ _ aa (dy c eM))⟩
   cases hE with
   | ref J=>simp [ab.isRef] at J
   | @own _ _ _ _ e us bM _ a1 ak qj ao aS av aN =>
    have EI:∀ k,k<(cs.take (n * z)).length->k<cs.length:=λk hk=>by rw [List.length_take] at hk; omega
    have fW:∀ k c,k<(cs.take (n * z)).length->bM k c->cB c:=λk c hk aa=>(aN c).2 (.inr ⟨k,EI k hk,aa⟩);have iL:Hand w I (fC w T) f_ (cs.take (n * z)) (us.take (n * z)) bM:=by
     refine ⟨by simp [ak],λk x u J hu=>?_,λj k c ah hk=>aS j k c (EI j ah) (EI k hk),λk t c hk aa aW=>(pr t c aW).2 (fW k c hk aa),λk c hk aa=>bk.bj _ c (dy c (fW k c hk aa))⟩
     grind
    have qp:=Xq a1 aF;obtain ⟨b7,lY,aE,a2,a3⟩:=Take.node (g1:=cv g p .dead) (Fs:=Fs) (B:=λc=>(Value.slice a n cap).ownBlock=some c) (H0:=dD 0) (X:=.own z n cs') (v0:=.slice a n cap) jc iL
     (λc aa=>by
      have eM:cB c:=(aN c).2 (.inl (by rw [<- aa]; exact O_));exact ⟨⟨_,dy c eM⟩,λt aW=>(pr t c aW).2 eM,λk hk h_=>av k c (EI k hk) h_ (by rw [<- aa]; exact O_),bk.bj _ c (dy c eM)⟩)
     (λc aa=>by
      rcases aa with ⟨t,h⟩ | ⟨k,hk,h⟩
      ·grind
      grind)
     hH.tail (R.vc hH) gy gg (λyK hg iC lA=>by
      refine .own qp (by rw [t1.length]; simp [ak]) (λk u hu=>?_) hg iC (λk c hk aa h=>lA k c hk aa h) λc=>Iff.rfl
      grind)
    grind [lq.head]
 | @bL g g1 g' z n m t q cs new cs' xs xs' aw au bg t1 _ gy gg =>
  intro Fs vs dD bk hH;cases vs with
  | nil=>have:=hH.len; simp at this
  | cons v vs =>
   obtain ⟨a,iZ,cap,h1,rfl,aI⟩:=(hH.rel 0 _ v rfl rfl).nc;obtain ⟨v0,iO,gF⟩:=bk.rel t _ aw;simp only [dW,iO,walk,Option.some.injEq] at h1;subst h1;obtain ⟨bv,e,cf,us,news,gF⟩:=gF.vy;have bc:iZ=n+m:=by
    obtain ⟨_,bY⟩:=gF.nJ
    grind
   subst bc;obtain ⟨QX,HV,hb,fX⟩:=bk.kill t;have IK:bD (cv g ⟨t,[]⟩ .dead) q=some (.own z n cs):=by rw [FT (by simpa using bg)]; exact au
   obtain ⟨qO,cB,gW,hE,dy,kf⟩:=HV.part IK (by simp);obtain ⟨b',mP,bK,rfl⟩:=gF.jW;rw [bK] at gW;cases gW;obtain ⟨f_,jc,kt,iN⟩:=kf .dead cy (.dead λ_ h=>h) (λ_ h=>h.elim) (λ_ h=>h.elim) (λ_ _ _ h=>h.elim);have r0:∀ c,cB c->Fs q.root c:=λc aa=>by have:=dy c aa; rwa [fX _ bg] at this
   have pr:∀ s c,f_ s c->Fs s c/\¬ cB c/\s≠t:=by
    intro s c aa;have b0:s≠t:=by
     rintro rfl;by_cases N3:s=q.root
     ·grind
     simp_all
    by_cases aC:s=q.root
    ·grind
    ·rw [iN s aC,fX s b0] at aa;exact ⟨aa,λeM=>aC (bk.eJ _ _ _ aa (r0 c eM)),b0⟩
   cases hE with
   | ref J=>simp [ab.isRef] at J
   | @own _ _ _ _ cj iT bM _ a1 ak qj ao aS av aN =>
    have:=JX a1 gF.lb;subst this;have fW:∀ k c,k<cs.length->bM k c->cB c:=λk c hk aa=>(aN c).2 (.inr ⟨k,hk,aa⟩);have iL:Hand w I (fC w T) f_ (cs++new) (iT++news) (λk=>if k<cs.length then bM k else cy):=by
     refine ⟨by simp [ak,gF.ak],λk x u J hu=>?_,λj k c ah hk aa fo=>?_,λk s c hk aa aW=>?_,λk c hk aa=>?_⟩
     ·by_cases fw:k<cs.length
      ·grind
      ·rw [List.getElem?_append_right (by omega)] at J;rw [List.getElem?_append_right (by omega),<- ak] at hu;simpa [fw] using gF.ao _ x u J hu
     ·by_cases eZ:j<cs.length <;> by_cases fw:k<cs.length <;> simp [eZ,fw,cy] at aa fo
      grind
     ·by_cases fw:k<cs.length <;> simp [fw,cy] at aa
      grind
     ·by_cases fw:k<cs.length <;> simp [fw,cy] at aa;exact bk.bj _ c (r0 c (fW k c fw aa))
    obtain ⟨b7,lY,aE,a2,a3⟩:=Take.node (g1:=cv (cv g ⟨t,[]⟩ .dead) q .dead) (Fs:=Fs) (B:=λc=>(Value.slice a (n+m) cap).ownBlock=some c) (H0:=dD 0) (X:=.own z (n+m) cs') (v0:=.slice a (n+m) cap) jc iL
     (λc aa=>by
      by_cases ra:(Value.slice b' n mP).ownBlock=some c
      ·have eM:cB c:=(aN c).2 (.inl ra);refine ⟨⟨_,r0 c eM⟩,λs aW=>(pr s c aW).2.1 eM,λk hk h_=>?_,bk.bj _ c (r0 c eM)⟩;by_cases fw:k<cs.length <;> simp [fw,cy] at h_
       grind
      ·have EK:Fs t c:=(gF.aN c).2 ⟨aa,ra⟩;refine ⟨⟨_,EK⟩,λs aW=>(pr s c aW).2.2 (bk.eJ _ _ _ (pr s c aW).1 EK),λk hk h_=>?_,bk.bj _ c EK⟩;by_cases fw:k<cs.length <;> simp [fw,cy] at h_;exact bg (bk.eJ _ _ _ (r0 c (fW k c fw h_)) EK))
     (λc aa=>by
      rcases aa with ⟨s,h⟩ | ⟨k,hk,h⟩
      ·grind
      ·by_cases fw:k<cs.length <;> simp [fw,cy] at h
       grind)
     hH.tail (R.vc hH) gy gg (λyK hg iC lA=>by
      refine .own gF.nJ (by rw [t1.length]; simp [ak,gF.ak]) (λk u hu=>?_) hg iC (λk c hk aa h=>lA k c hk aa h) λc=>Iff.rfl;by_cases fw:k<iT.length
      ·grind
      ·rw [List.getElem?_append_right (by omega)] at hu; exact gF.h1 _ u hu)
    grind [lq.head]
 | @Ft g g1 g' z n m t rk m2 t2 q cs new zP cs' xs xs' aw N5 aF au bg ua V4 t1 _ gy gg =>
  subst aF;intro Fs vs dD bk hH;cases vs with
  | nil=>have:=hH.len; simp at this
  | cons v vs =>
   obtain ⟨a,iZ,cap,h1,rfl,aI⟩:=(hH.rel 0 _ v rfl rfl).nc;obtain ⟨v0,iO,gF⟩:=bk.rel t _ aw;simp only [dW,iO,walk,Option.some.injEq] at h1;subst h1;obtain ⟨bv,e,cf,us,news,gF⟩:=gF.vy;have bc:iZ=rk+m2+m:=by
    obtain ⟨_,bY⟩:=gF.nJ
    grind
   subst bc;obtain ⟨v2,B8,mv⟩:=bk.rel t2 _ N5;obtain ⟨LP,cj,tB,Zc,JQ,mv⟩:=mv.vy;have jW:bv=v2:=by
    obtain ⟨aE,L4,cG,rfl⟩:=gF.jW
    grind [dW,walk]
   subst jW;have l9:us=Zc++JQ:=JX gF.lb mv.nJ;subst l9;obtain ⟨ZA,Us,acj,NI⟩:=bk.kill t;obtain ⟨QX,HV,hb,fX⟩:=Us.kill t2;have IK:bD (cv (cv g ⟨t,[]⟩ .dead) ⟨t2,[]⟩ .dead) q=some (.own z rk cs):=by rw [FT (by simpa using ua),FT (by simpa using bg)]; exact au
   obtain ⟨qO,cB,gW,hE,dy,kf⟩:=HV.part IK (by simp);obtain ⟨b',mP,bK,rfl⟩:=mv.jW;rw [bK] at gW;cases gW;obtain ⟨f_,jc,kt,iN⟩:=kf .dead cy (.dead λ_ h=>h) (λ_ h=>h.elim) (λ_ h=>h.elim) (λ_ _ _ h=>h.elim);have r0:∀ c,cB c->Fs q.root c:=λc aa=>by have:=dy c aa; rwa [fX _ ua,NI _ bg] at this
   have pr:∀ s c,f_ s c->Fs s c/\¬ cB c/\s≠t/\s≠t2:=by
    intro s c aa;have qq:s≠t2:=by
     rintro rfl;by_cases N3:s=q.root
     ·grind
     simp_all
    have b0:s≠t:=by
     rintro rfl;by_cases N3:s=q.root
     ·grind
     simp_all
    by_cases aC:s=q.root
    ·grind
    ·rw [iN s aC,fX s qq,NI s b0] at aa;exact ⟨aa,λeM=>aC (bk.eJ _ _ _ aa (r0 c eM)),b0,qq⟩
   cases hE with
   | ref J=>simp [ab.isRef] at J
   | @own _ _ _ _ fP iT bM _ a1 ak qj ao aS av aN =>
    have:=JX a1 mv.lb;subst this;have fW:∀ k c,k<cs.length->bM k c->cB c:=λk c hk aa=>(aN c).2 (.inr ⟨k,hk,aa⟩);have iL:Hand w I (fC w T) f_ (cs++zP++new) (iT++JQ++news) (λk=>if k<cs.length then bM k else cy):=by
     have gu:=mv.ak;have Cn:=gF.ak;refine ⟨by simp [ak,gu,Cn],λk x u J hu=>?_,λj k c ah hk aa fo=>?_,λk s c hk aa aW=>?_,λk c hk aa=>?_⟩
     ·rw [List.append_assoc] at J hu;by_cases fw:k<cs.length
      ·grind
      ·rw [List.getElem?_append_right (by omega)] at J;rw [List.getElem?_append_right (by omega),<- ak] at hu;simp only [fw,if_false];by_cases Ix:k - cs.length<zP.length
       ·rw [List.getElem?_append_left Ix] at J;rw [List.getElem?_append_left (by omega)] at hu;exact mv.ao _ x u J hu
       ·rw [List.getElem?_append_right (by omega)] at J;rw [List.getElem?_append_right (by omega),<- gu] at hu;exact gF.ao _ x u J hu
     ·by_cases eZ:j<cs.length <;> by_cases fw:k<cs.length <;> simp [eZ,fw,cy] at aa fo
      grind
     ·by_cases fw:k<cs.length <;> simp [fw,cy] at aa
      grind
     ·by_cases fw:k<cs.length <;> simp [fw,cy] at aa;exact bk.bj _ c (r0 c (fW k c fw aa))
    have P4:∀ s c,Fs s c->s=t\/s=t2->(∃ s,Fs s c)/\(∀ s,¬ f_ s c)/\(∀ k,k<(cs++zP++new).length->¬ (if k<cs.length then bM k else cy) c)/\¬ I c:=by
     intro s c aa aC;refine ⟨⟨_,aa⟩,λcT aW=>?_,λk hk h_=>?_,bk.bj _ c aa⟩
     ·obtain ⟨f1,_,f2,f3⟩:=pr cT c aW;have:=bk.eJ _ _ _ f1 aa
      grind
     ·by_cases fw:k<cs.length <;> simp [fw,cy] at h_;have:=bk.eJ _ _ _ (r0 c (fW k c fw h_)) aa
      grind
    obtain ⟨b7,lY,aE,a2,a3⟩:=Take.node (g1:=cv (cv (cv g ⟨t,[]⟩ .dead) ⟨t2,[]⟩ .dead) q .dead) (Fs:=Fs) (B:=λc=>(Value.slice a (rk+m2+m) cap).ownBlock=some c) (H0:=dD 0) (X:=.own z (rk+m2+m) cs') (v0:=.slice a (rk+m2+m) cap) jc iL
     (λc aa=>by
      by_cases ra:bv.ownBlock=some c
      ·by_cases Nj:(Value.slice b' rk mP).ownBlock=some c
       ·have eM:cB c:=(aN c).2 (.inl Nj);refine ⟨⟨_,r0 c eM⟩,λs aW=>(pr s c aW).2.1 eM,λk hk h_=>?_,bk.bj _ c (r0 c eM)⟩;by_cases fw:k<cs.length <;> simp [fw,cy] at h_
        grind
       ·exact P4 t2 c ((mv.aN c).2 ⟨ra,Nj⟩) (.inr rfl)
      ·exact P4 t c ((gF.aN c).2 ⟨aa,ra⟩) (.inl rfl))
     (λc aa=>by
      rcases aa with ⟨s,h⟩ | ⟨k,hk,h⟩
      ·grind
      ·by_cases fw:k<cs.length <;> simp [fw,cy] at h
       grind)
     hH.tail (R.vc hH) gy gg (λyK hg iC lA=>by
      refine .own gF.nJ (by rw [t1.length]; simp [ak,mv.ak,gF.ak]) (λk u hu=>?_) hg iC (λk c hk aa h=>lA k c hk aa h) λc=>Iff.rfl;rw [List.append_assoc] at hu;by_cases fw:k<iT.length
      ·grind
      ·rw [List.getElem?_append_right (by omega)] at hu;by_cases Ix:k - iT.length<JQ.length
       ·rw [List.getElem?_append_left Ix] at hu;exact mv.h1 _ u hu
       ·rw [List.getElem?_append_right (by omega)] at hu; exact gF.h1 _ u hu)
    grind [lq.head]
 | @obj g g1 g' p cs cs' xs xs' au t1 _ gy gg =>
  intro Fs vs dD bk hH;cases vs with
  | nil=>have:=hH.len; simp at this
  | cons v vs =>
   obtain ⟨qO,cB,gW,hE,dy,kf⟩:=bk.part au (by simp);obtain ⟨u,ad,h1,af,rfl⟩:=(hH.rel 0 _ v rfl rfl).nP;rw [h1] at gW;cases gW;obtain ⟨f_,jc,kt,iN⟩:=kf .dead cy (.dead λ_ h=>h) (λ_ h=>h.elim) (λ_ h=>h.elim) (λ_ _ _ h=>h.elim);have pr:∀ t c,f_ t c->Fs t c/\¬ cB c:=by
    intro t c aa;by_cases aw:t=p.root
    ·grind
    ·rw [iN t aw] at aa;exact ⟨aa,λeM=>aw (bk.eJ _ _ _ aa (dy c eM))⟩
   cases hE with
   | ref J=>simp [ab.isRef] at J
   | @obj _ b e arr bM _ a1 ak qj ao aS av aN =>
    simp only [addrOf,Option.some.injEq] at af;subst af;have fW:∀ k c,k<cs.length->bM k c->cB c:=λk c hk aa=>(aN c).2 (.inr ⟨k,hk,aa⟩);have iL:Hand w I (fC w T) f_ cs arr.toList bM :=
     ⟨by simp [ak],λk x u J hu=>ao k x u J (by simpa using hu),aS,λk t c hk aa aW=>(pr t c aW).2 (fW k c hk aa),λk c hk aa=>bk.bj _ c (dy c (fW k c hk aa))⟩
    obtain ⟨b7,lY,aE,a2,a3⟩:=Take.node (g1:=cv g p .dead) (Fs:=Fs) (B:=λc=>c=b) (H0:=dD 0) (X:=.obj cs') (v0:=.pointer (some ⟨b,0,none⟩)) jc iL
     (λc aa=>by
      subst aa;have eM:cB c:=(aN c).2 (.inl rfl);exact ⟨⟨_,dy c eM⟩,λt aW=>(pr t c aW).2 eM,λk hk h_=>av k hk h_,bk.bj _ c (dy c eM)⟩)
     (λc aa=>by
      rcases aa with ⟨t,h⟩ | ⟨k,hk,h⟩
      ·grind
      grind)
     hH.tail (R.vc hH) gy gg (λyK hg iC lA=>by
      refine .obj a1 (by rw [t1.length,ak]) qj (λk x u J hu=>hg k x u J (by simpa using hu)) iC (λk hk h=>lA k b hk h rfl) λc=>Iff.rfl)
    grind [lq.head]
 | @mp g g1 g' p q xs xs' au t1 _ gy gg =>
  intro Fs vs dD bk hH;cases vs with
  | nil=>have:=hH.len; simp at this
  | cons v vs =>
   obtain ⟨qO,cB,gW,hE,dy,kf⟩:=bk.part au (by simp);have hm:=hH.rel 0 _ v rfl rfl;cases hm with
   | ref _ hm _ =>
   obtain ⟨GU,h1,rfl⟩:=hm;rw [h1] at gW;cases gW;obtain ⟨f_,jc,kt,iN⟩:=kf .dead cy (.dead λ_ h=>h) (λ_ h=>h.elim) (λ_ h=>h.elim) (λ_ _ _ h=>h.elim);have pr:∀ t c,f_ t c->Fs t c/\¬ cB c:=by
    intro t c aa;by_cases aw:t=p.root
    ·grind
    ·rw [iN t aw] at aa;exact ⟨aa,λeM=>aw (bk.eJ _ _ _ aa (dy c eM))⟩
   cases hE with
   | ref J=>simp [ab.isRef] at J
   | @mp _ b es clock _ a1 bg aN =>
    have iL:Hand w I (fC w T) f_ [] [] (λ_=>cy) :=
     ⟨rfl,λk x u J=>by simp at J,λ_ _ _ _ _ h=>h.elim,λ_ _ _ _ h=>h.elim,λ_ _ _ h=>h.elim⟩
    obtain ⟨b7,lY,aE,a2,a3⟩:=Take.node (g1:=cv g p .dead) (Fs:=Fs) (B:=λc=>c=b) (H0:=dD 0) (X:=.mp q) (v0:=.map (some b)) jc iL
     (λc aa=>by
      subst aa;have eM:cB c:=(aN c).2 rfl;exact ⟨⟨_,dy c eM⟩,λt aW=>(pr t c aW).2 eM,λk hk _=>by simp at hk,bk.bj _ c (dy c eM)⟩)
     (λc aa=>by
      rcases aa with ⟨t,h⟩ | ⟨k,hk,h⟩
      ·grind
      grind)
     hH.tail (R.vc hH) gy gg (λyK hg iC lA=>by
      refine .mp a1 bg λc=>⟨λh=>h.elim id λ⟨_,hk,_⟩=>by simp at hk,.inl⟩)
    grind [lq.head]
 | @agg g g1 g' cs cs' xs xs' t1 _ gy gg =>
  intro Fs vs dD bk hH;cases vs with
  | nil=>have:=hH.len; simp at this
  | cons v vs =>
   have J:=hH.rel 0 _ v rfl rfl;have aR:=R.vc hH;cases J with
   | ref J=>simp [ab.isRef] at J
   | @agg _ us bM _ ak qj ao aS aN =>
    have fW:∀ k c,k<cs.length->bM k c->dD 0 c:=λk c hk aa=>(aN c).2 ⟨k,hk,aa⟩;obtain ⟨b7,lY,aE,a2,a3⟩:=Take.node (g1:=g) (Fs:=Fs) (B:=cy) (H0:=dD 0) (X:=.agg cs') (v0:=.agg us) bk
     (⟨by simp [ak],λk x u J hu=>ao k x u J (by simpa using hu),aS,λk t c hk aa=>(aR c (fW k c hk aa)).1 t,λk c hk aa=>hH.bj 0 c (by simp) (fW k c hk aa)⟩:Hand w I (fC w T) Fs cs us.toList bM)
     (λc aa=>aa.elim)
     (λc aa=>by
      rcases aa with h | ⟨k,hk,h⟩
      ·grind
      grind)
     hH.tail aR gy gg (λyK hg iC lA=>by
      refine .agg (by rw [t1.length,ak]) qj (λk x u J hu=>hg k x u J (by simpa using hu)) iC λc=>⟨λh=>h.elim (λh=>h.elim) id,.inr⟩)
    grind [lq.head]
 | @bW g g1 g' cs cs' xs xs' t1 _ gy gg =>
  intro Fs vs dD bk hH;cases vs with
  | nil=>have:=hH.len; simp at this
  | cons v vs =>
   have J:=hH.rel 0 _ v rfl rfl;have aR:=R.vc hH;cases J with
   | ref J=>simp [ab.isRef] at J
   | @bW _ us bM _ ak ao aS aN =>
    have fW:∀ k c,k<cs.length->bM k c->dD 0 c:=λk c hk aa=>(aN c).2 ⟨k,hk,aa⟩;obtain ⟨b7,lY,aE,a2,a3⟩:=Take.node (g1:=g) (Fs:=Fs) (B:=cy) (H0:=dD 0) (X:=.bW cs') (v0:=.tuple us) bk
     (⟨by simp [ak],λk x u J hu=>ao k x u J (by simpa using hu),aS,λk t c hk aa=>(aR c (fW k c hk aa)).1 t,λk c hk aa=>hH.bj 0 c (by simp) (fW k c hk aa)⟩:Hand w I (fC w T) Fs cs us.toList bM)
     (λc aa=>aa.elim)
     (λc aa=>by
      rcases aa with h | ⟨k,hk,h⟩
      ·grind
      grind)
     hH.tail aR gy gg (λyK hg iC lA=>by
      refine .bW (by rw [t1.length,ak]) (λk x u J hu=>hg k x u J (by simpa using hu)) iC λc=>⟨λh=>h.elim (λh=>h.elim) id,.inr⟩)
    grind [lq.head]
end
end Go.Own
namespace Go.Own
open Go
inductive jm (mI:ab->Prop):ab->Prop
 | bm {x:ab}(h:cU x):jm mI x
 | ref {x:ab}(J:x.isRef=true) (h:mI x):jm mI x
 | own {z n:Nat}{cs:List ab}(h:∀ x∈cs,jm mI x):jm mI (.own z n cs)
 | obj {cs:List ab}(h:∀ x∈cs,jm mI x):jm mI (.obj cs)
 | agg {cs:List ab}(h:∀ x∈cs,jm mI x):jm mI (.agg cs)
 | bW {cs:List ab}(h:∀ x∈cs,jm mI x):jm mI (.bW cs)
 | cW {fn:Fn}{a b:List ab}(h1:∀ x∈a,jm mI x) (af:∀ x∈b,jm mI x):jm mI (.cW fn a b)
def Aw:ab->Option Place
 | .ptr p _=>some p
 | .a6 _ p _=>some p
 | .sub _ p _ _=>some p
 | .bL _ p _ _ _=>some p
 | .gz p=>some p
 | _=>none
def Clear (p:Place) (k m:Nat) (r:ab):Prop:=∀ q,Aw r=some q->q.root=p.root->∀ j dn,q.path=p.path++j::dn->j<k\/k+m<=j
def e5 {α:Type}(l:List α) (k:Nat) (c:List α):List α:=l.take k++c++l.drop (k+c.length)
theorem rF {α:Type}{l:List α}{k:Nat}{c:List α}(h:k+c.length<=l.length):(e5 l k c).length=l.length:=by
 simp [e5]; omega
theorem s8 {α:Type}{l:List α}{k:Nat}{c:List α}(h:k+c.length<=l.length) (j:Nat):(e5 l k c)[j]?=if k<=j/\j<k+c.length then c[j - k]? else l[j]?:=by
 unfold e5;rw [List.append_assoc];by_cases h1:j<k
 ·rw [List.getElem?_append_left (by simp; omega),List.getElem?_take,if_pos h1,if_neg (by omega)]
 ·rw [List.getElem?_append_right (by simp; omega)];have:(l.take k).length=k:=by simp; omega
  rw [this];by_cases af:j<k+c.length
  ·rw [List.getElem?_append_left (by omega),if_pos ⟨by omega,af⟩]
  ·rw [List.getElem?_append_right (by omega),List.getElem?_drop,if_neg (by omega)];congr 1; omega
theorem YJ {α:Type}{l:List α}{k:Nat}{c:List α}{m:Nat}(h:k+c.length<=m) (hm:m<=l.length):(e5 l k c).take m=e5 (l.take m) k c:=by
 have h1:k+c.length<=(l.take m).length:=by rw [List.length_take]; omega
 apply List.ext_getElem?;intro j;rw [List.getElem?_take,s8 h1,s8 (l:=l) (by omega),List.getElem?_take];by_cases ah:j<m
 ·rw [if_pos ah,if_pos ah]
 ·rw [if_neg ah,if_neg ah,if_neg (by omega)]
def ab.e5 (x:ab) (k:Nat) (c:List ab):ab :=
 match x with
 | .own z n cs=>.own z n (Own.e5 cs k c)
 | .obj cs=>.obj (Own.e5 cs k c)
 | x=>x
section
variable {w:World}{I:bb}{T:Array Value}{g:aM}{Fs:Nat->bb}
theorem R.yd {ρ:ab->Value->Prop}{mI:ab->Prop}{x:ab}{v:Value}{F:bb}(h:R w I ρ x v F):jm mI x->R w I (λr u=>ρ r u/\mI r) x v F:=by
 induction h with
 | lit h aN=>exact λ_=>.lit h aN
 | aJ aN=>exact λ_=>.aJ aN
 | dead aN=>exact λ_=>.dead aN
 | @ref x _ _ J h aN =>
  intro hk;refine .ref J ⟨h,?_⟩ aN;cases hk with
  | ref _ h=>exact h
  | bm h=>cases h <;> simp [ab.isRef] at J
  | _=>simp [ab.isRef] at J
 | hG aN=>exact λ_=>.hG aN
 | mp a1 au aN=>exact λ_=>.mp a1 au aN
 | imp aN bf a1 au=>exact λ_=>.imp aN bf a1 au
 | bj aN k9 bf aC ak h1 aa ao aU =>
  intro hk;cases hk with
  | ref J=>simp [ab.isRef] at J
  | bm h=>cases h with | bj h=>exact .bj aN k9 bf aC ak h1 aa λk x J=>aU k x J (.bm (h x (List.mem_of_getElem? J)))
 | cH aN bf aC h1 aa ao aU =>
  intro hk;cases hk with
  | ref J=>simp [ab.isRef] at J
  | bm h=>cases h with | cH h=>exact .cH aN bf aC h1 aa λk x J=>aU k x J (.bm (h x (List.mem_of_getElem? J)))
 | own a1 ak h1 ao aS av aN aU =>
  intro hk;refine .own a1 ak h1 (λk x u J hu=>aU k x u J hu ?_) aS av aN;cases hk with
  | ref J=>simp [ab.isRef] at J
  | bm h=>cases h with | own h=>exact .bm (h x (List.mem_of_getElem? J))
  | own h=>exact h x (List.mem_of_getElem? J)
 | obj a1 ak h1 ao aS av aN aU =>
  intro hk;refine .obj a1 ak h1 (λk x u J hu=>aU k x u J hu ?_) aS av aN;cases hk with
  | ref J=>simp [ab.isRef] at J
  | bm h=>cases h with | obj h=>exact .bm (h x (List.mem_of_getElem? J))
  | obj h=>exact h x (List.mem_of_getElem? J)
 | agg ak h1 ao aS aN aU =>
  intro hk;refine .agg ak h1 (λk x u J hu=>aU k x u J hu ?_) aS aN;cases hk with
  | ref J=>simp [ab.isRef] at J
  | bm h=>cases h with | agg h=>exact .bm (h x (List.mem_of_getElem? J))
  | agg h=>exact h x (List.mem_of_getElem? J)
 | bW ak ao aS aN aU =>
  intro hk;refine .bW ak (λk x u J hu=>aU k x u J hu ?_) aS aN;cases hk with
  | ref J=>simp [ab.isRef] at J
  | bm h=>cases h with | bW h=>exact .bm (h x (List.mem_of_getElem? J))
  | bW h=>exact h x (List.mem_of_getElem? J)
 | @cW fn first caps v1 v2 F aN h1 af kt iN gy gg =>
  intro hk;have:(∀ x∈first,jm mI x)/\∀ x∈caps,jm mI x:=by
   cases hk with
   | ref J=>simp [ab.isRef] at J
   | bm h=>cases h with | cW h1 af=>exact ⟨λx J=>.bm (h1 x J),λx J=>.bm (af x J)⟩
   | cW h1 af=>exact ⟨h1,af⟩
  exact .cW aN h1 af (λk x u J hu=>gy k x u J hu (this.1 x (List.mem_of_getElem? J))) (λk x u J hu=>gg k x u J hu (this.2 x (List.mem_of_getElem? J)))
theorem jE.store (bk:jE w I T g Fs) {p:Place}{nd:ab}{z n:Nat}{cs:List ab}(au:bD g p=some nd) (fp:nd=.own z n cs\/nd=.obj cs) {k:Nat}{cs':List ab}(hk:k+cs'.length<=cs.length)
  {iT:List Value}{dD:Nat->bb}(hH:Hand w I (fC w T) Fs cs' iT dD) (mY:∀ x∈cs',cU x) (hp:∀ (j:Nat) (u:Value),iT[j]?=some u->u.oneCell'=true)
  {g2:aM}(zp:∀ t x,g2 t=some x->cv g p (nd.e5 k cs') t=some x)
  (r9:∀ t x,g2 t=some x->∀ y,g t=some y->jm (λr=>gD g r/\Clear p k cs'.length r/\gD g2 r) y) (la:∀ t z q n m new,g2 t≠some (.bL z q n m new)) (kd:g2 p.root≠none) {b:Nat}{v:Value}
  (hv:dW w T p=some v) (av:addrOf v=some ⟨b,0,none⟩) {e:TypeId}{arr:Array Value}(ka:w.heap[b]?=some (.cells arr e (0,0))) :
  ∃ b7,cF (w.setRow b (e5 arr.toList k iT).toArray) I T g2 b7/\∀ t c,b7 t c->Fs t c\/∃ j,j<cs'.length/\dD j c:=by
 have lh:∀ z q n m new,nd≠.bL z q n m new:=by rcases fp with rfl | rfl <;> simp
 have hlen:=hH.len;have o5:∀ c,c≠b->(w.setRow b (e5 arr.toList k iT).toArray).heap[c]?=w.heap[c]?:=λc aa=>setRow_other w b c _ aa;have Dv:(w.setRow b (e5 arr.toList k iT).toArray).heap[b]?=some (.cells (e5 arr.toList k iT).toArray e (0,0)):=setRow_heap w b arr _ e (0,0) ka;have Qo:(w.setRow b (e5 arr.toList k iT).toArray).heap.size=w.heap.size:=by simp
 generalize vp:w.setRow b (e5 arr.toList k iT).toArray=w' at *
 -- the slot of the node
 obtain ⟨eA,iG⟩:∃ eA,g p.root=some eA:=by
  unfold bD at au;cases J:g p.root with
  | none=>rw [J] at au; cases au
  | some x=>exact ⟨x,rfl⟩
 have pw:eA.at p.path=some nd:=by simpa [bD,iG] using au
 obtain ⟨v0,iO,gF⟩:=bk.rel _ _ iG;have By:=gF.gI (by rintro z q n m new rfl; exact lh _ _ _ _ _ (ab.sx pw).2);have lK:jm (λr=>gD g r/\Clear p k cs'.length r/\gD g2 r) eA:=by
  cases af:g2 p.root with
  | none=>exact absurd af kd
  | some y=>exact r9 _ _ af _ iG
 let K0:ab->Value->Prop:=λr u=>fC w T r u/\gD g r/\Clear p k cs'.length r/\gD g2 r;have ql:R w I K0 eA v0 (Fs p.root):=By.yd lK;obtain ⟨h0,cB,hw,dI,dy,eY,kf⟩:=R.focus p.path ql pw;have IY:h0=v:=by simp only [dW,iO,hw,Option.some.injEq] at hv; exact hv
 subst IY;have mw:cB b:=dI.Fh (z:=z) (n:=n) fp av;have same:∀ t c,Fs t c->c≠b->w'.heap[c]?=w.heap[c]?:=λ_ c _ aa=>o5 c aa;have u5:∀ c,I c->w'.heap[c]?=w.heap[c]?:=λc aa=>o5 c λe=>bk.bj _ b (dy b mw) (e ▸ aa);have EE:∀ t,t≠p.root->¬ Fs t b:=λt aw h=>aw (bk.eJ _ _ _ h (dy b mw))
 -- ways that are clear of the cells
 obtain ⟨Zj,Zk⟩:=eY w' λc aa aF=>o5 c λe=>aF (e ▸ mw);have OB:∀ (ρ':ab->Value->Prop),(∀ x v,K0 x v->ρ' x v)->(∃ c9,R w' I ρ' (nd.e5 k cs') h0 c9/\∀ c,c9 c->cB c\/∃ j,j<cs'.length/\dD j c)/\∀ j dn y,(j<k\/k+cs'.length<=j)->nd.at (j::dn)=some y->walk w' h0 (j::dn)=walk w h0 (j::dn):=by
  intro ρ' lN;have new:∀ (j:Nat) (x:ab) (u:Value),cs'[j]?=some x->iT[j]?=some u->R w' I ρ' x u (dD j):=by
   intro j x u J hu;have ah:j<cs'.length:=(List.getElem?_eq_some_iff.1 J).1;have:=(hH.rel j x u J hu).bm (ρ':=ρ') (mY x (List.mem_of_getElem? J));exact this.frame u5 (λ_ h=>h) (λ_ _ h=>h) λc aa=>o5 c λe=>hH.off j p.root b ah (e ▸ aa) (dy b mw)
  rcases fp with rfl | rfl
  ·cases dI with
   | ref J=>simp [ab.isRef] at J
   | @own _ _ _ _ cj us bM _ a1 ak h1 ao aS iM aN =>
    obtain ⟨l9,bY⟩:=a1;rcases bY with ⟨rfl,_⟩ | ⟨eC,cap,cur,rfl,s6,jQ,Au,x_,De,Df⟩
    ·simp [addrOf] at av
    ·simp only [addrOf,Option.some.injEq,Addr.mk.injEq,and_true] at av;subst av;rw [ka] at jQ;cases jQ;have Np:n * z<=arr.toList.length:=by
      rw [<- l9,<- Df,List.length_take] ; simp; omega
     have acH:us.length=cs.length:=ak.symm;have nI:w'.ownsRow 0 e z (.slice (some ⟨eC,0,none⟩) n cap) n (e5 us k iT):=by
      refine ⟨by rw [rF (by omega),l9],.inr ⟨eC,cap,_,rfl,s6,Dv,Au,x_,?_,?_⟩⟩
      ·rw [List.size_toArray,rF (by omega),Array.length_toList,De]
      ·show (e5 arr.toList k iT).take (n * z)=_;rw [YJ (by omega) Np,Df]
     have MY:∀ j,j<cs.length->¬ bM j eC:=λj ah h=>iM j eC ah h rfl;have fW:∀ j c,j<cs.length->bM j c->Fs p.root c:=λj c ah aa=>dy c ((aN c).2 (.inr ⟨j,ah,aa⟩));refine ⟨⟨_,.own (Fs:=λj=>if k<=j/\j<k+cs'.length then dD (j - k) else bM j) nI (by rw [rF hk,rF (by omega),ak]) (λj u hu=>?_) (λj x u J hu=>?_) (λi j c hi ah aa fo=>?_) (λj c ah aa vn=>?_) (λc=>Iff.rfl),λc aa=>?_⟩,λj dn y ah ax=>?_⟩
     ·rw [s8 (by omega)] at hu
      split at hu
      ·exact hp _ u hu
      ·exact h1 j u hu
     ·rw [s8 hk] at J;rw [s8 (by omega),<- hlen] at hu;by_cases gV:k<=j/\j<k+cs'.length
      ·rw [if_pos gV] at J hu;simpa [gV] using new (j - k) x u J hu
      ·rw [if_neg gV] at J hu;have eZ:j<cs.length:=(List.getElem?_eq_some_iff.1 J).1;rw [if_neg gV];exact (ao j x u J hu).frame u5 (λ_ h=>h) lN λc aa=>o5 c λe=>MY j eZ (e ▸ aa)
     ·rw [rF hk] at hi ah;by_cases h1:k<=i/\i<k+cs'.length <;> by_cases af:k<=j/\j<k+cs'.length <;> simp only [h1,af,if_false] at aa fo
      ·have:=hH.eJ (i - k) (j - k) c (by omega) (by omega) (by simpa using aa) (by simpa using fo);omega
      ·exact absurd (fW j c ah fo) (hH.off (i - k) _ c (by omega) (by simpa using aa))
      ·exact absurd (fW i c hi aa) (hH.off (j - k) _ c (by omega) (by simpa using fo))
      ·exact aS i j c hi ah aa fo
     ·rw [rF hk] at ah;by_cases h1:k<=j/\j<k+cs'.length
      ·rw [if_pos h1] at aa;simp only [Value.ownBlock,Option.some.injEq] at vn;subst vn;exact hH.off (j - k) p.root eC (by omega) aa (dy eC mw)
      ·rw [if_neg h1] at aa; exact iM j c ah aa vn
     ·rcases aa with aa | ⟨j,ah,aa⟩
      ·exact .inl ((aN c).2 (.inl aa))
      ·rw [rF hk] at ah;by_cases h1:k<=j/\j<k+cs'.length
       ·rw [if_pos h1] at aa; exact .inr ⟨j - k,by omega,aa⟩
       ·rw [if_neg h1] at aa; exact .inl ((aN c).2 (.inr ⟨j,ah,aa⟩))
     ·obtain ⟨c,oO,aa⟩:=ab.uX ax;simp only [ab.kids] at oO;have eZ:j<cs.length:=(List.getElem?_eq_some_iff.1 oO).1;have hu:us[j]?=some us[j]:=List.getElem?_eq_getElem (by omega);have n':child w (.slice (some ⟨eC,0,none⟩) n cap) j=some us[j]:=by
       refine pQ (e:=e) (z:=z) (n:=n) (us:=us) ⟨l9,.inr ⟨eC,cap,arr,rfl,s6,ka,Au,x_,De,Df⟩⟩ hu
      have BI:child w' (.slice (some ⟨eC,0,none⟩) n cap) j=some us[j]:=by
       refine pQ nI ?_;rw [s8 (by omega),if_neg (by omega)]; exact hu
      have:=R.pY (w':=w') dn (ao j c _ oO hu) aa λc aa=>o5 c λe=>MY j eZ (e ▸ aa);simp [walk,n',BI,this]
  ·cases dI with
   | ref J=>simp [ab.isRef] at J
   | @obj _ eC cj jo bM _ a1 ak h1 ao aS iM aN =>
    simp only [addrOf,Option.some.injEq,Addr.mk.injEq,and_true] at av;subst av;rw [ka] at a1;cases a1;have tL:cs.length=arr.toList.length:=by simp [ak]
    have fW:∀ j c,j<cs.length->bM j c->Fs p.root c:=λj c ah aa=>dy c ((aN c).2 (.inr ⟨j,ah,aa⟩));refine ⟨⟨_,.obj (Fs:=λj=>if k<=j/\j<k+cs'.length then dD (j - k) else bM j) Dv (by rw [rF hk,List.size_toArray,rF (by omega),tL]) (λj u hu=>?_) (λj x u J hu=>?_) (λi j c hi ah aa fo=>?_) (λj ah aa=>?_) (λc=>Iff.rfl),λc aa=>?_⟩,λj dn y ah ax=>?_⟩
    ·rw [List.getElem?_toArray,s8 (by omega)] at hu
     split at hu
     ·exact hp _ u hu
     ·exact h1 j u (by simpa using hu)
    ·rw [s8 hk] at J;rw [List.getElem?_toArray,s8 (by omega),<- hlen] at hu;by_cases gV:k<=j/\j<k+cs'.length
     ·rw [if_pos gV] at J hu;simpa [gV] using new (j - k) x u J hu
     ·rw [if_neg gV] at J hu;have eZ:j<cs.length:=(List.getElem?_eq_some_iff.1 J).1;rw [if_neg gV];exact (ao j x u J (by simpa using hu)).frame u5 (λ_ h=>h) lN λc aa=>o5 c λe=>iM j eZ (e ▸ aa)
    ·rw [rF hk] at hi ah;by_cases h1:k<=i/\i<k+cs'.length <;> by_cases af:k<=j/\j<k+cs'.length <;> simp only [h1,af,if_false] at aa fo
     ·have:=hH.eJ (i - k) (j - k) c (by omega) (by omega) (by simpa using aa) (by simpa using fo);omega
     ·exact absurd (fW j c ah fo) (hH.off (i - k) _ c (by omega) (by simpa using aa))
     ·exact absurd (fW i c hi aa) (hH.off (j - k) _ c (by omega) (by simpa using fo))
     ·exact aS i j c hi ah aa fo
    ·rw [rF hk] at ah;by_cases h1:k<=j/\j<k+cs'.length
     ·rw [if_pos h1] at aa;exact hH.off (j - k) p.root eC (by omega) aa (dy eC mw)
     ·rw [if_neg h1] at aa; exact iM j ah aa
    ·rcases aa with aa | ⟨j,ah,aa⟩
     ·exact .inl ((aN c).2 (.inl aa))
     ·rw [rF hk] at ah;by_cases h1:k<=j/\j<k+cs'.length
      ·rw [if_pos h1] at aa; exact .inr ⟨j - k,by omega,aa⟩
      ·rw [if_neg h1] at aa; exact .inl ((aN c).2 (.inr ⟨j,ah,aa⟩))
    ·obtain ⟨c,oO,aa⟩:=ab.uX ax;simp only [ab.kids] at oO;have eZ:j<cs.length:=(List.getElem?_eq_some_iff.1 oO).1;have hu:arr[j]?=some arr[j]:=Array.getElem?_eq_getElem (by omega);have n':child w (.pointer (some ⟨eC,0,none⟩)) j=some arr[j]:=by simp [child,World.cell?,ka,hu]
     have BI:child w' (.pointer (some ⟨eC,0,none⟩)) j=some arr[j]:=by
      have aI:(e5 arr.toList k iT)[j]?=some arr[j]:=by
       rw [s8 (by omega),if_neg (by omega)]; simp
      simp [child,World.cell?,Dv,aI]
     have:=R.pY (w':=w') dn (ao j c _ oO hu) aa λc aa=>o5 c λe=>iM j eZ (e ▸ aa);simp [walk,n',BI,this]
 have val:∀ q y,bD g q=some y->(q.root=p.root->∀ j dn,q.path=p.path++j::dn->j<k\/k+cs'.length<=j)->dW w' T q=dW w T q:=by
  intro q y bg ha;by_cases ao:q.root=p.root
  ·have gq:eA.at q.path=some y:=by simpa [bD,ao,iG] using bg
   rcases Zk q.path y gq with ⟨dn,ec⟩ | h
   ·have vp:walk w' v0 q.path=walk w v0 q.path:=by
     rw [ec,Dw,Dw,Zj,hw];simp only [Option.bind_some];cases dn with
     | nil=>rfl
     | cons j dn =>
      rw [ec,ab.GS,pw] at gq;exact (OB (λ_ _=>True) (λ_ _ _=>trivial)).2 j dn y (ha ao j dn ec) gq
    simp [dW,ao,iO,vp]
   ·simp [dW,ao,iO,h]
  ·unfold bD at bg;cases J:g q.root with
   | none=>rw [J] at bg; cases bg
   | some x =>
    rw [J] at bg;obtain ⟨u,hu,aZ⟩:=bk.rel _ _ J;cases aZ with
    | tree aZ =>
     have:=R.pY (w':=w') q.path aZ bg λc aa=>o5 c λe=>EE _ ao (e ▸ aa);simp [dW,hu,this]
    | bL aZ=>simp [dW,hu,(ab.sx bg).1,walk]
 have slot:∀ {q:Place}{x:ab},q.path=[]->g q.root=some x->dW w' T q=dW w T q:=by
  intro q x bg J;obtain ⟨u,hu,_⟩:=bk.rel _ _ J;simp [dW,bg,walk]
 have refs:∀ r u,K0 r u->dT w' T g2 r u:=by
  rintro r u ⟨h1,af,aI,bK⟩;refine ⟨?_,bK⟩;cases r <;> simp only [fC,gD] at h1 af ⊢
  case ptr q j=>obtain ⟨y,ax,_⟩:=af; rw [val q y ax (aI q rfl)]; exact h1
  case a6 bE q cE =>
   rcases af with ⟨_,_,af,_⟩ | ⟨aR,_,_,_,_,af,_⟩
   ·rw [val q _ af (aI q rfl)]; exact h1
   ·rw [slot aR af]; exact h1
  case sub bE q lo cE=>obtain ⟨_,_,af,_⟩:=af; rw [val q _ af (aI q rfl)]; exact h1
  case gz q=>obtain ⟨_,af⟩:=af; rw [val q _ af (aI q rfl)]; exact h1
  case bL bE q cE m' c3 =>
   rcases af with ⟨_,af⟩ | ⟨aR,_,_,_,_,_,af,_⟩
   ·rw [val q _ af (aI q rfl)]; exact h1
   ·rw [slot aR af]; exact h1
 obtain ⟨⟨Fn,Un,MZ⟩,_⟩:=OB (dT w' T g2) refs;obtain ⟨c9,Er,po⟩:=kf w' I (dT w' T g2) _ Fn ⟨u5,λc aa aF=>o5 c λe=>aF (e ▸ mw),λ_ h=>h,refs⟩ Un λc aa fo=>by
  rcases MZ c aa with h | ⟨j,ah,h⟩
  ·exact h
  ·exact absurd fo (hH.off j _ c ah h)
 have En:∀ c,c9 c->Fs p.root c\/∃ j,j<cs'.length/\dD j c:=by
  intro c aa;rcases (po c).1 aa with h | h
  ·exact .inl h.1
  ·rcases MZ c h with h | h
   ·exact .inl (dy c h)
   ·exact .inr h
 let b7:Nat->bb:=λt c=>if t=p.root then c9 c else g2 t≠none/\Fs t c
 have pq:∀ t c,b7 t c->Fs t c\/∃ j,j<cs'.length/\dD j c:=by
  intro t c aa;by_cases aw:t=p.root
  ·simp only [b7,if_pos aw] at aa; rw [aw]; exact En c aa
  ·simp only [b7,if_neg aw] at aa; exact .inl aa.2
 refine ⟨b7,⟨λt x J=>?_,λt aw c aa=>?_,λt t' c aa fo=>?_,λt c aa hi=>?_,λc aa=>by have:=bk.lt c aa; omega,λt t' z q n m new bE cE m' c3 h1=>absurd h1 (la _ _ _ _ _ _)⟩,pq⟩
 ·have gf:=zp t x J;by_cases aw:t=p.root
  ·subst aw;have EN:eA.setAt p.path (nd.e5 k cs')=x:=by simpa [cv,iG] using gf
   refine ⟨v0,iO,.tree ?_⟩;have Bs:b7 p.root=c9:=by funext c; simp [b7]
   rw [<- EN,Bs]; exact Er
  ·rw [uD aw] at gf;obtain ⟨u,hu,aZ⟩:=bk.rel t x gf;replace aZ:=aZ.gI (by rintro z q n m new rfl; exact la _ _ _ _ _ _ J);have Bs:b7 t=Fs t:=by
    funext c;exact propext ⟨λh=>by simp only [b7,if_neg aw] at h; exact h.2,λh=>by simp only [b7,if_neg aw]; exact ⟨by rw [J]; simp,h⟩⟩
   refine ⟨u,hu,.tree ?_⟩;rw [Bs];exact (aZ.yd (r9 t x J x gf)).frame u5 (λ_ h=>h) refs λc aa=>o5 c λe=>EE t aw (e ▸ aa)
 ·by_cases iF:t=p.root
  ·exact kd (iF ▸ aw)
  ·simp only [b7,if_neg iF] at aa; exact aa.1 aw
 ·by_cases h1:t=p.root <;> by_cases af:t'=p.root
  ·rw [h1,af]
  ·simp only [b7,if_pos h1] at aa; simp only [b7,if_neg af] at fo;rcases En c aa with h | ⟨j,ah,h⟩
   ·exact absurd (bk.eJ _ _ _ h fo.2) (Ne.symm af)
   ·exact absurd fo.2 (hH.off j _ c ah h)
  ·simp only [b7,if_neg h1] at aa; simp only [b7,if_pos af] at fo;rcases En c fo with h | ⟨j,ah,h⟩
   ·exact absurd (bk.eJ _ _ _ aa.2 h) h1
   ·exact absurd aa.2 (hH.off j _ c ah h)
  ·simp only [b7,if_neg h1] at aa; simp only [b7,if_neg af] at fo;exact bk.eJ _ _ _ aa.2 fo.2
 ·rcases pq t c aa with h | ⟨j,ah,h⟩
  ·exact bk.bj _ c h hi
  ·exact hH.bj j c ah h hi
end
end Go.Own
namespace Go.Own
open Go
section
variable {P:Program}{w:World}{I:bb}{T:Array Value}{g:aM}{Fs:Nat->bb}
theorem View.P9 (h:jE w I T g Fs) {x x':ab}(hv:View g x x'):∀ {v:Value}{F:bb},R w I (fC w T) x v F->(∀ c,F c->∃ t,Fs t c)->∀ ρ',R w (λc=>I c\/∃ t,Fs t c) ρ' x' v cy:=by
 induction hv with
 | qD =>
  intro v F aZ aN ρ';have:=aZ.se;subst this;exact .hG λ_ h=>h
 | mp =>
  intro v F aZ aN ρ';cases aZ with
  | ref J=>simp [ab.isRef] at J
  | mp a1 au av=>exact .imp (λ_ h=>h) (.inr (aN _ ((av _).2 rfl))) a1 au
 | gz au =>
  intro v F aZ aN ρ';cases aZ with
  | ref _ ao _ =>
   obtain ⟨b,av,rfl⟩:=ao;obtain ⟨gx,cB,iu,dI,dy,_⟩:=h.part au (by simp);rw [av] at iu;cases iu;cases dI with
   | ref J=>simp [ab.isRef] at J
   | mp a1 au av=>exact .imp (λ_ h=>h) (.inr ⟨_,dy _ ((av _).2 rfl)⟩) a1 au
 | self aF h1 af aI bK cG =>
  intro v F aZ aN ρ';refine ((aZ.bm aF).oo λc aa=>.inl aa).empty ?_;cases aZ with
  | mp=>exact absurd rfl (cG _)
  | lit _ aN | aJ aN | dead aN | ref _ _ aN | hG aN | bj aN | cH aN | cW aN | imp aN=>exact aN
  | own=>exact absurd rfl (h1 _ _ _)
  | obj=>exact absurd rfl (af _)
  | agg=>exact absurd rfl (aI _)
  | bW=>exact absurd rfl (bK _)
 | @agg cs cs' ak _ aU =>
  intro v F aZ aN ρ';cases aZ with
  | ref J=>simp [ab.isRef] at J
  | @agg _ vs bM _ hV h1 ao aS mu =>
   refine .agg (Fs:=λ_=>cy) (by rw [ak,hV]) h1 (λk y u ax hu=>?_) (λ_ _ _ _ _ h=>h.elim) (λc=>⟨λh=>h.elim,λ⟨_,_,h⟩=>h⟩);have hk:k<cs.length:=by rw [<- ak]; exact (List.getElem?_eq_some_iff.1 ax).1
   have J:=List.getElem?_eq_getElem hk;exact aU k _ y J ax (ao k _ u J hu) (λc aa=>aN c ((mu c).2 ⟨k,hk,aa⟩)) ρ'
 | @cW fn cs cs' ak _ aU =>
  intro v F aZ aN ρ';cases aZ with
  | ref J=>simp [ab.isRef] at J
  | @cW _ _ _ v1 v2 _ mr h1 af kt iN =>
   refine .cW (λ_ h=>h) h1 (by rw [ak,af]) (λk x u J=>by simp at J) (λk y u ax hu=>?_);have hk:k<cs.length:=by rw [<- ak]; exact (List.getElem?_eq_some_iff.1 ax).1
   have J:=List.getElem?_eq_getElem hk;exact aU k _ y J ax (iN k _ u J hu) (λc aa=>aa.elim) ρ'
 | @own z n cs cs' ak _ aU =>
  intro v F aZ aN ρ';obtain ⟨a,cap,us,bM,rfl,aF,hlen,aP,aa⟩:=aZ.zV;cases a with
  | none =>
   have hF:cs=[]:=by
    cases cs with
    | nil=>rfl
    | cons c cs=>obtain ⟨b,av,_⟩:=aa 0 c rfl; cases av
   subst hF;have lJ:cs'=[]:=List.eq_nil_of_length_eq_zero (by simpa using ak);subst lJ;have k':n=0:=by
    cases aZ with
    | ref J=>simp [ab.isRef] at J
    | own a1 =>
     obtain ⟨_,bY⟩:=a1;rcases bY with ⟨bY,aR⟩ | ⟨b,c2,cur,bY,_⟩
     ·exact aR
     ·cases bY
   subst k';exact .hG λ_ h=>h
  | some ad =>
   obtain ⟨b,rfl,rZ⟩:=aP ad rfl;refine .bj (us:=us) (λ_ h=>h) aF (.inr (aN b rZ)) rfl (by rw [ak,hlen]) (λk y ax=>?_) (λk y ax=>?_) λk y ax=>?_
   all_goals
    have hk:k<cs.length:=by rw [<- ak]; exact (List.getElem?_eq_some_iff.1 ax).1
    have J:=List.getElem?_eq_getElem hk;obtain ⟨eC,l3,h1,af,aI,bK⟩:=aa k _ J;cases l3
   ·exact af
   ·simpa using h1
   ·exact aU k _ y J ax aI (λc aa=>aN c (bK c aa)) ρ'
 | @obj cs cs' ak _ aU =>
  intro v F aZ aN ρ';cases aZ with
  | ref J=>simp [ab.isRef] at J
  | @obj _ b e arr bM _ a1 hV h1 ao aS av mu =>
   refine .cH (us:=λk=>arr.getD k undef) (λ_ h=>h) (.inr (aN b ((mu b).2 (.inl rfl)))) rfl (λk y ax=>?_) (λk y ax=>?_) λk y ax=>?_
   all_goals
    have hk:k<cs.length:=by rw [<- ak]; exact (List.getElem?_eq_some_iff.1 ax).1
    have J:=List.getElem?_eq_getElem hk;have hu:arr[k]?=some arr[k]:=Array.getElem?_eq_getElem (hV ▸ hk)
   ·simpa [hu] using h1 k _ hu
   ·simp [World.cell?,a1,hu]
   ·simpa [hu] using aU k _ y J ax (ao k _ _ J hu) (λc aa=>aN c ((mu c).2 (.inr ⟨k,hk,aa⟩))) ρ'
 | @a6 z n N p cs cs' au aF ak _ aU =>
  intro v F aZ aN ρ';obtain ⟨a,iZ,cap,h1,rfl,aI⟩:=aZ.nc;obtain ⟨qO,qT,gW,hE,nz,_⟩:=h.part au (by simp);rw [h1] at gW;cases gW;obtain ⟨a2,rQ,us,bM,jd,k9,hlen,aP,aa⟩:=hE.zV;cases jd;have hle:n * z<=N * z:=Nat.mul_le_mul_right _ aF;have cell:∀ k,k<cs'.length->∃ x b,(cs.take (n * z))[k]?=some x/\a=some ⟨b,0,none⟩/\w.cell? ⟨b,k,none⟩=some (us k)/\(us k).oneCell'=true/\R w I (fC w T) x (us k) (bM k)/\∀ c,bM k c->qT c:=by
   intro k hk;rw [ak,List.length_take] at hk;have J:cs[k]?=some cs[k]:=List.getElem?_eq_getElem (by omega);obtain ⟨b,r⟩:=aa k _ J;exact ⟨_,b,by rw [List.getElem?_take,if_pos (by omega)]; exact J,r⟩
  cases a with
  | none =>
   have lJ:cs'=[]:=by
    cases cs' with
    | nil=>rfl
    | cons c l=>obtain ⟨_,b,_,av,_⟩:=cell 0 (by simp); cases av
   subst lJ;obtain ⟨_,_,jd,_,_,_,rf⟩:=hE.nk;cases jd;have k':n=0:=by
    rcases Nat.eq_zero_or_pos n with aR | aR
    ·exact aR
    ·have:=rf (by omega); simp at this
   subst k';exact .hG λ_ h=>h
  | some ad =>
   obtain ⟨b,rfl,rZ⟩:=aP ad rfl;refine .bj (us:=us) (λ_ h=>h) (by omega) (.inr ⟨_,nz b rZ⟩) rfl (by rw [ak,List.length_take,hlen]; omega) (λk y ax=>?_) (λk y ax=>?_) λk y ax=>?_
   all_goals
    obtain ⟨x,eC,J,l3,bK,cG,eh,mT⟩:=cell k (List.getElem?_eq_some_iff.1 ax).1;cases l3
   ·exact cG
   ·simpa using bK
   ·exact aU k x y J ax eh (λc aa=>⟨_,nz c (mT c aa)⟩) ρ'
 | @sub z lo n N p cs cs' au aF ak _ aU =>
  intro v F aZ aN ρ';obtain ⟨a,iZ,cap,b',mP,h1,rfl,IG,aI,cG⟩:=aZ.xw;obtain ⟨qO,qT,gW,hE,nz,_⟩:=h.part au (by simp);rw [h1] at gW;cases gW;obtain ⟨a2,rQ,us,bM,jd,k9,hlen,aP,aa⟩:=hE.zV;cases jd;have hle:lo * z+n * z<=N * z:=by rw [<- Nat.add_mul]; exact Nat.mul_le_mul_right _ aF
  have hV:cs'.length=n * z:=by rw [ak,List.length_take,List.length_drop,hlen]; omega
  have cell:∀ k,k<cs'.length->∃ x b,((cs.drop (lo * z)).take (n * z))[k]?=some x/\a=some ⟨b,0,none⟩/\w.cell? ⟨b,lo * z+k,none⟩=some (us (lo * z+k))/\(us (lo * z+k)).oneCell'=true/\R w I (fC w T) x (us (lo * z+k)) (bM (lo * z+k))/\∀ c,bM (lo * z+k) c->qT c:=by
   intro k hk;have J:cs[lo * z+k]?=some cs[lo * z+k]:=List.getElem?_eq_getElem (by omega);obtain ⟨b,r⟩:=aa _ _ J;exact ⟨_,b,by rw [List.getElem?_take,if_pos (by omega),List.getElem?_drop]; exact J,r⟩
  by_cases k':n=0
  ·subst k';have lJ:cs'=[]:=List.eq_nil_of_length_eq_zero (by simpa using hV);subst lJ;exact .hG λ_ h=>h
  ·obtain ⟨ad,rfl,rfl⟩:=cG (by omega);obtain ⟨b,rfl,rZ⟩:=aP ad rfl;refine .bj (us:=λk=>us (lo * z+k)) (λ_ h=>h) IG (.inr ⟨_,nz b rZ⟩) rfl hV (λk y ax=>?_) (λk y ax=>?_) λk y ax=>?_
   all_goals
    obtain ⟨x,eC,J,l3,bK,TM,eh,mT⟩:=cell k (List.getElem?_eq_some_iff.1 ax).1;cases l3
   ·exact TM
   ·simpa using bK
   ·exact aU k x y J ax eh (λc aa=>⟨_,nz c (mT c aa)⟩) ρ'
 | @rows z n p cs cs' au ak _ aU =>
  intro v F aZ aN ρ';obtain ⟨a,iZ,cap,h1,rfl,aI⟩:=aZ.nc;obtain ⟨v0,e,us,iO,a1,hlen,qj,av,ao⟩:=Rows.sound (w:=w) (I:=I) (T:=T) (Fs:=Fs) (λt z q n m new aw=>h.rel t _ aw) (λp z n cs au=>by obtain ⟨v,cB,h1,af,aI,_⟩:=h.part au (by simp); exact ⟨v,cB,h1,af,aI⟩) (λz p n v hv=>by obtain ⟨a,cap,h1,rfl⟩:=hv; exact h1) au;rw [h1] at iO;cases iO;refine Px a1 hlen qj av ak λk x y u J ax hu=>?_;obtain ⟨bM,kM,fW⟩:=ao k x u J hu;exact aU k x y J ax kM fW ρ'
 | @ptr p k z n y cs cs' au ax hk ak _ aU =>
  intro v F aZ aN ρ';obtain ⟨u,ad,h1,af,rfl⟩:=aZ.nP;obtain ⟨qO,qT,gW,hE,nz,_⟩:=h.part au (by rcases ax with rfl | rfl <;> simp);rw [h1] at gW;cases gW;have cell:∀ j,j<cs'.length->∃ gZ lW yI,w.cell? ⟨ad.block,k+j,none⟩=some gZ/\gZ.oneCell'=true/\(cs.drop k)[j]?=some lW/\R w I (fC w T) lW gZ yI/\(∀ c,yI c->∃ t,Fs t c):=by
   intro j ah;rw [ak,List.length_drop] at ah;have gf:cs[k+j]?=some cs[k+j]:=List.getElem?_eq_getElem (by omega);obtain ⟨b,gZ,fQ,l5,n',hp,_⟩:=hE.node ax gf;rw [af] at fQ;cases fQ;have gq:bD g (p.push (k+j))=some cs[k+j]:=by rw [tu,au]; rcases ax with rfl | rfl <;> simp [ab.kids]
   by_cases gQ:∃ bE fR cE m' c3,cs[k+j]=.bL bE fR cE m' c3
   ·obtain ⟨bE,fR,cE,m',c3,gQ⟩:=gQ;obtain ⟨b,Zd,_,_,BI,_,bM,kM⟩:=hE.node ax gf;rw [gQ] at kM;exact kM.lh.elim
   ·obtain ⟨o4,K5,xj,M_,mu,_⟩:=h.part gq (λbE fR cE m' c3 e=>gQ ⟨_,_,_,_,_,e⟩);rw [yp,h1] at xj;simp only [Option.bind_some] at xj;rw [n'] at xj;cases xj;exact ⟨gZ,_,K5,l5,hp,by rw [List.getElem?_drop]; exact gf,M_,λc aa=>⟨_,mu c aa⟩⟩
  obtain ⟨b,gZ,fQ,_⟩:=hE.node ax (List.getElem?_eq_getElem hk);rw [af] at fQ;cases fQ;have hblk:∃ t,Fs t b:=⟨_,nz b (hE.Fh ax af)⟩;refine .cH (us:=λj=>(w.cell? ⟨b,k+j,none⟩).getD undef) (λ_ h=>h) (.inr hblk) rfl (λj jj vu=>?_) (λj jj vu=>?_) λj jj vu=>?_
  all_goals
   obtain ⟨gZ,lW,yI,c1,c2,jV,c4,kI⟩:=cell j (List.getElem?_eq_some_iff.1 vu).1
  ·simpa [c1] using c2
  ·simp [c1]
  ·simpa [c1] using aU j lW jj jV vu c4 kI ρ'
end
end Go.Own
namespace Go.Own
open Go
def qH (g:aM):List (Place × ab)->aM
 | []=>g
 | (p,x)::l=>qH (cv g p x) l
structure Q0 (g g2:aM) (all:List ab) (outs:List (Option ab)) (k:Nat) (p:Place) (x:ab):Prop where
 out:outs[k]?=some (some x)
 LH:bD g2 p=some .dead
 arg:(∃ z n cs,all[k]?=some (.a6 z p n)/\bD g p=some (.own z n cs))\/(∃ cs,all[k]?=some (.ptr p 0)/\bD g p=some (.obj cs))
section
variable {P:Program}{w:World}{I:bb}{T:Array Value}{g:aM}{Fs:Nat->bb}
theorem Rv (h:cF w I T g Fs) {z n:Nat}{p:Place}{cs:List ab}{v:Value}{F:bb}(aZ:R w I (dT w T g) (.a6 z p n) v F) (au:bD g p=some (.own z n cs)):dW w T p=some v:=by
 obtain ⟨⟨a,iZ,cap,h1,rfl,aI⟩,_⟩:=aZ.nc;obtain ⟨qO,qT,gW,hE,nz⟩:=h.part au (by simp);rw [h1] at gW;cases gW;obtain ⟨a2,rQ,jd,_⟩:=hE.nk;cases jd;exact h1
theorem Ru (h:cF w I T g Fs) {p:Place}{cs:List ab}{v:Value}{F:bb}(aZ:R w I (dT w T g) (.ptr p 0) v F) (au:bD g p=some (.obj cs)):dW w T p=some v:=by
 obtain ⟨⟨u,ad,h1,af,rfl⟩,_⟩:=aZ.nP;obtain ⟨qO,qT,gW,hE,nz⟩:=h.part au (by simp);rw [h1] at gW;cases gW;cases hE with
 | ref J=>simp [ab.isRef] at J
 | obj=>simp only [addrOf,Option.some.injEq] at af; subst af; exact h1
theorem Yn {g:aM}{p q:Place}{y:ab}(bg:bD g q=some .dead) (au:bD g p=some .dead) (dr:p≠q):bD (cv g p y) q=some .dead:=by
 by_cases ao:q.root=p.root
 ·obtain ⟨r,pp⟩:=p;obtain ⟨dn,s5⟩:=q;simp only at ao;subst ao;have EF:pp≠s5:=λe=>dr (by rw [e]);simp only [bD,cv,if_true] at *;cases J:g dn with
  | none=>rw [J] at au; cases au
  | some x =>
   rw [J] at au bg;simp only [Option.map_some];have:∀ (pp s5:List Nat) (x:ab),pp≠s5->x.at pp=some .dead->x.at s5=some .dead->(x.setAt pp y).at s5=some .dead:=by
    intro pp
    induction pp with
    | nil =>
     intro s5 x dr h1 af;simp only [ab.at,Option.some.injEq] at h1;subst h1;cases s5 with
     | nil=>exact absurd rfl dr
     | cons k q=>simp [ab.at,ab.kids] at af
    | cons k pp aU =>
     intro s5 x dr h1 af;cases s5 with
     | nil =>
      simp only [ab.at,Option.some.injEq] at af;subst af;simp [ab.at,ab.kids] at h1
     | cons j q =>
      simp only [ab.at] at h1 af;cases hk:x.kids[k]? with
      | none=>rw [hk] at h1; cases h1
      | some c =>
       rw [hk] at h1;simp only at h1;have zz:x.setAt (k::pp) y=x.v8 k (c.setAt pp y):=by simp only [ab.setAt,hk]
       rw [zz];have fw:k<x.kids.length:=(List.getElem?_eq_some_iff.1 hk).1;have Iw:(x.v8 k (c.setAt pp y)).kids=x.kids.set k (c.setAt pp y):=by
        cases x <;> simp [ab.v8,ab.kids] at fw ⊢
       simp only [ab.at,Iw];by_cases gV:j=k
       ·subst gV;rw [List.getElem?_set_self fw];rw [hk] at af;exact aU q c (λe=>dr (by rw [e])) h1 af
       ·rw [List.getElem?_set_ne (Ne.symm gV)];exact af
   exact this pp s5 x EF au bg
 ·rw [FT ao]; exact bg
theorem jE.qH:∀ (l:List (Place × ab)) (dD:Nat->bb) (vs:Nat->Value) {g:aM}{Fs:Nat->bb},jE w I T g Fs->(l.map (·.1)).Nodup->(∀ (j:Nat) (p:Place) (x:ab),l[j]?=some (p,x)->bD g p=some .dead/\dW w T p=some (vs j)/\R w I (fC w T) x (vs j) (dD j)) ->
  (∀ (j t c:Nat),j<l.length->dD j c->¬ Fs t c)->(∀ (j c:Nat),j<l.length->dD j c->¬ I c)->(∀ (i j c:Nat),i<l.length->j<l.length->dD i c->dD j c->i=j) ->
  ∃ b7,jE w I T (qH g l) b7/\∀ t c,b7 t c->Fs t c\/∃ j,j<l.length/\dD j c
 | [],_,_,g,Fs,bk,_,_,_,_,_=>⟨Fs,bk,λ_ _ h=>.inl h⟩
 | (p,x)::l,dD,vs,g,Fs,bk,fp,ak,re,NG,mW=>by
  obtain ⟨h1,af,aI⟩:=ak 0 p x rfl;obtain ⟨v,cB,hv,dI,dy,put⟩:=bk.part h1 (by simp);rw [af] at hv;cases hv;obtain ⟨f_,jc,zh,Br⟩:=put x (dD 0) aI (λc aa aW=>absurd aW (re 0 _ c (by simp) aa)) (λc aa=>NG 0 c (by simp) aa) (λt c _ aa=>re 0 t c (by simp) aa);have gH:∀ t c,f_ t c->Fs t c\/dD 0 c:=by
   intro t c aa;by_cases aw:t=p.root
   ·subst aw;rcases (zh c).1 aa with ⟨h,_⟩ | h
    ·exact .inl h
    ·exact .inr h
   ·rw [Br t aw] at aa; exact .inl aa
  simp only [List.map_cons,List.nodup_cons] at fp;obtain ⟨iY,h8,Eo⟩:=jE.qH l (λj=>dD (j+1)) (λj=>vs (j+1)) jc fp.2 (λj q y ah=>by
    obtain ⟨aE,a2,a3⟩:=ak (j+1) q y (by simpa using ah);refine ⟨Yn aE h1 ?_,a2,a3⟩;rintro rfl;exact fp.1 (List.mem_map.2 ⟨(p,y),List.mem_of_getElem? ah,rfl⟩))
   (λj t c ah aa aW=>by
    rcases gH t c aW with h | h
    ·exact re (j+1) t c (by simpa using ah) aa h
    ·have:=mW (j+1) 0 c (by simpa using ah) (by simp) aa h; omega)
   (λj c ah aa=>NG (j+1) c (by simpa using ah) aa)
   (λi j c hi ah h1 af=>by have:=mW (i+1) (j+1) c (by simpa using hi) (by simpa using ah) h1 af; omega)
  refine ⟨iY,h8,λt c aa=>?_⟩;rcases Eo t c aa with h | ⟨j,ah,h⟩
  ·rcases gH t c h with h | h
   ·exact .inl h
   ·exact .inr ⟨0,by simp,h⟩
  ·exact .inr ⟨j+1,by simpa using ah,h⟩
end
end Go.Own
namespace Go.Own
open Go
inductive h4:ab->ab->Prop
 | refl {x:ab}:h4 x x
 | Cy {z:Nat}:h4 .aJ (.own z 0 [])
 | pI {x y:ab}(aF:cU x) (h:View (λ_=>none) x y):h4 x y
 | own {z n:Nat}{cs cs':List ab}(ak:cs'.length=cs.length) (h:∀ (k:Nat) (x y:ab),cs[k]?=some x->cs'[k]?=some y->h4 x y):h4 (.own z n cs) (.own z n cs')
 | obj {cs cs':List ab}(ak:cs'.length=cs.length) (h:∀ (k:Nat) (x y:ab),cs[k]?=some x->cs'[k]?=some y->h4 x y):h4 (.obj cs) (.obj cs')
 | agg {cs cs':List ab}(ak:cs'.length=cs.length) (h:∀ (k:Nat) (x y:ab),cs[k]?=some x->cs'[k]?=some y->h4 x y):h4 (.agg cs) (.agg cs')
theorem View.up {g g':aM}(h:∀ t x,g t=some x->g' t=some x) {x y:ab}(hv:View g x y):View g' x y:=by
 induction hv with
 | qD=>exact .qD
 | self h1 af aI bK cG eh=>exact .self h1 af aI bK cG eh
 | mp=>exact .mp
 | gz au=>exact .gz (kG h au)
 | agg ak _ aU=>exact .agg ak aU
 | own ak _ aU=>exact .own ak aU
 | obj ak _ aU=>exact .obj ak aU
 | cW ak _ aU=>exact .cW ak aU
 | a6 au aF ak _ aU=>exact .a6 (kG h au) aF ak aU
 | sub au aF ak _ aU=>exact .sub (kG h au) aF ak aU
 | ptr au ax hk ak _ aU=>exact .ptr (kG h au) ax hk ak aU
 | rows au ak _ aU=>exact .rows (au.mono (λau=>kG h au) h) ak aU
theorem xM {cs cs':List ab}(ak:cs'.length=cs.length) (aF:∀ x∈cs,cU x) (aU:∀ (k:Nat) (x y:ab),cs[k]?=some x->cs'[k]?=some y->cU x->cU y):∀ y∈cs',cU y:=by
 intro y ax;obtain ⟨k,hk⟩:=List.getElem?_of_mem ax;have fw:=(List.getElem?_eq_some_iff.1 hk).1;have J:=List.getElem?_eq_getElem (ak ▸ fw:k<cs.length)
 grind
section
variable {w:World}{I:bb}
theorem R.pI {ρ:ab->Value->Prop}{x y:ab}{v:Value}{F:bb}(aZ:R w I ρ x v F) (aF:cU x) (h:View (λ_=>none) x y) (bf:∀ c,F c->¬ I c) (aT:∀ c,I c->c<w.heap.size):R w (λc=>I c\/F c) ρ y v cy:=by
 have bk:jE w I #[v] (λt=>if t=0 then some x else none) (λt c=>t=0/\F c):=by
  refine ⟨λt z aY=>?_,λt aw c aa=>?_,λt t' c aa fo=>aa.1.trans fo.1.symm,λt c aa=>bf c aa.2,aT⟩
  ·by_cases aR:t=0
   ·subst aR;rw [if_pos rfl] at aY;cases aY;exact ⟨v,rfl,.tree ((aZ.bm aF).y_ λc=>⟨λh=>⟨rfl,h⟩,λh=>h.2⟩)⟩
   grind
  grind
 have:=View.P9 bk (h.up λ_ _ h=>by cases h) (aZ.bm aF) (λc aa=>⟨0,rfl,aa⟩) ρ
 grind
theorem h4.bm {x y:ab}(h:h4 x y):cU x->cU y:=by
 induction h with
 | refl=>exact id
 | Cy=>exact λ_=>.own (by simp)
 | pI aF h =>
  intro _;have key:∀ {x y:ab},View (λ_=>none) x y->cU x->cU y:=by
   intro x y h
   induction h with
   | qD=>exact λ_=>.bj (by simp)
   | self h=>exact λ_=>h
   | mp=>exact λ_=>.imp
   | gz au=>simp [bD] at au
   | agg ak _ aU=>intro aF; cases aF with | agg aF=>exact .agg (xM ak aF aU)
   | own ak _ aU=>intro aF; cases aF with | own aF=>exact .bj (xM ak aF aU)
   | obj ak _ aU=>intro aF; cases aF with | obj aF=>exact .cH (xM ak aF aU)
   | cW ak _ aU=>intro aF; cases aF with | cW h1 af=>exact .cW h1 (xM ak af aU)
   | a6 au=>simp [bD] at au
   | sub au=>simp [bD] at au
   | ptr au=>simp [bD] at au
   | rows au =>
    cases au with
    | own au=>simp [bD] at au
    | bL aw=>cases aw
  grind
 | own ak _ aU=>intro aF; cases aF with | own aF=>exact .own (xM ak aF aU)
 | obj ak _ aU=>intro aF; cases aF with | obj aF=>exact .obj (xM ak aF aU)
 | agg ak _ aU=>intro aF; cases aF with | agg aF=>exact .agg (xM ak aF aU)
theorem Hx {ρ:ab->Value->Prop}{cs cs':List ab}{get:Nat->Option Value}{Fs:Nat->bb}{F B:bb}(ak:cs'.length=cs.length)
  (aO:∀ k,k<cs.length->∃ u,get k=some u)
  (aS:∀ (j k c:Nat),j<cs.length->k<cs.length->Fs j c->Fs k c->j=k) (av:∀ k c,k<cs.length->Fs k c->¬ B c) (aN:∀ c,F c↔B c\/∃ k,k<cs.length/\Fs k c)
  (aU:∀ (k:Nat) (x y:ab),cs[k]?=some x->cs'[k]?=some y->∀ u,get k=some u->∃ c9,(∀ c,c9 c->Fs k c)/\R w (λc=>I c\/(Fs k c/\¬ c9 c)) ρ y u c9) :
  ∃ qU:Nat->bb,(∀ k c,k<cs'.length->qU k c->Fs k c)/\(∀ (k:Nat) (y:ab) (u:Value),cs'[k]?=some y->get k=some u->R w (λc=>I c\/(F c/\¬ (B c\/∃ j,j<cs'.length/\qU j c))) ρ y u (qU k)):=by
 have:∀ k,∃ G:bb,k<cs.length->(∀ c,G c->Fs k c)/\∀ (y:ab) (u:Value),cs'[k]?=some y->get k=some u->R w (λc=>I c\/(Fs k c/\¬ G c)) ρ y u G:=by
  intro k;by_cases hk:k<cs.length
  ·have J:=List.getElem?_eq_getElem hk;have ax:=List.getElem?_eq_getElem (ak ▸ hk:k<cs'.length);obtain ⟨u,hu⟩:=aO k hk
   simp_all
  ·exact ⟨cy,λh=>absurd h hk⟩
 obtain ⟨qU,M1⟩:=Classical.axiomOfChoice this;refine ⟨qU,λk c hk=>(M1 k (ak ▸ hk)).1 c,λk y u ax hu=>?_⟩;have hk:k<cs'.length:=(List.getElem?_eq_some_iff.1 ax).1;have h_:k<cs.length:=ak ▸ hk;refine ((M1 k h_).2 y u ax hu).oo λc aa=>?_
 grind
theorem R.dN {ρ:ab->Value->Prop}{x y:ab}(h:h4 x y):∀ {v:Value}{F:bb},R w I ρ x v F->cU x->(∀ c,F c->¬ I c)->(∀ c,I c->c<w.heap.size)->∃ c9,(∀ c,c9 c->F c)/\R w (λc=>I c\/(F c/\¬ c9 c)) ρ y v c9:=by
 induction h with
 | refl=>exact λaZ _ _ _=>⟨_,λ_ h=>h,aZ.oo λ_ h=>.inl h⟩
 | Cy =>
  intro v F aZ _ _ _;have:=aZ.se;subst this;refine ⟨cy,λ_ h=>h.elim,.own (e:=0) (us:=[]) (Fs:=λ_=>cy) ⟨by simp,.inl ⟨rfl,rfl⟩⟩ rfl (by simp) (by simp) (λ_ _ _ _ _ h=>h.elim) (λ_ _ _ h=>h.elim) λc=>⟨λh=>h.elim,λh=>?_⟩⟩;rcases h with h | ⟨_,_,h⟩
  ·cases h
  ·exact h
 | pI aF h=>exact λaZ _ bf aT=>⟨cy,λ_ h=>h.elim,(aZ.pI aF h bf aT).oo λc aa=>aa.elim .inl λh=>.inr ⟨h,λh=>h⟩⟩
 | @own z n cs cs' ak _ aU =>
  intro v F aZ aF bf aT;cases aZ with
  | ref J=>simp [ab.isRef] at J
  | @own _ _ _ _ e us Fs _ a1 hV h1 ao aS av aN =>
   cases aF with
   | own aF =>
    obtain ⟨qU,qk,Bu⟩:=Hx (get:=λk=>us[k]?) (B:=λc=>v.ownBlock=some c) ak (λk hk=>⟨_,List.getElem?_eq_getElem (hV ▸ hk)⟩) aS (λk c hk aa e=>av k c hk aa e) aN (λk x y J ax u hu=>aU k x y J ax (ao k x u J hu) (aF x (List.mem_of_getElem? J)) (λc aa=>bf c ((aN c).2 (.inr ⟨k,(List.getElem?_eq_some_iff.1 J).1,aa⟩))) aT);exact ⟨_,λc aa=>(aN c).2 (aa.imp id λ⟨k,hk,h⟩=>⟨k,ak ▸ hk,qk k c hk h⟩),
     .own a1 (by rw [ak,hV]) h1 (λk y u ax hu=>Bu k y u ax hu) (λj k c ah hk af aI=>aS j k c (ak ▸ ah) (ak ▸ hk) (qk j c ah af) (qk k c hk aI)) (λk c hk aa=>av k c (ak ▸ hk) (qk k c hk aa)) (λc=>Iff.rfl)⟩
 | @obj cs cs' ak _ aU =>
  intro v F aZ aF bf aT;cases aZ with
  | ref J=>simp [ab.isRef] at J
  | @obj _ b e arr Fs _ a1 hV h1 ao aS av aN =>
   cases aF with
   | obj aF =>
    obtain ⟨qU,qk,Bu⟩:=Hx (get:=λk=>arr[k]?) (B:=λc=>c=b) ak (λk hk=>⟨_,Array.getElem?_eq_getElem (hV ▸ hk)⟩) aS (λk c hk aa e=>av k hk (e ▸ aa)) aN (λk x y J ax u hu=>aU k x y J ax (ao k x u J hu) (aF x (List.mem_of_getElem? J)) (λc aa=>bf c ((aN c).2 (.inr ⟨k,(List.getElem?_eq_some_iff.1 J).1,aa⟩))) aT);exact ⟨_,λc aa=>(aN c).2 (aa.imp id λ⟨k,hk,h⟩=>⟨k,ak ▸ hk,qk k c hk h⟩),
     .obj a1 (by rw [ak,hV]) h1 (λk y u ax hu=>Bu k y u ax hu) (λj k c ah hk af aI=>aS j k c (ak ▸ ah) (ak ▸ hk) (qk j c ah af) (qk k c hk aI)) (λk hk aa=>av k (ak ▸ hk) (qk k b hk aa)) (λc=>Iff.rfl)⟩
 | @agg cs cs' ak _ aU =>
  intro v F aZ aF bf aT;cases aZ with
  | ref J=>simp [ab.isRef] at J
  | @agg _ vs Fs _ hV h1 ao aS aN =>
   cases aF with
   | agg aF =>
    obtain ⟨qU,qk,Bu⟩:=Hx (get:=λk=>vs[k]?) (B:=λ_=>False) ak (λk hk=>⟨_,Array.getElem?_eq_getElem (hV ▸ hk)⟩) aS (λk c hk aa e=>e) (λc=>(aN c).trans ⟨.inr,λh=>h.elim (λh=>h.elim) id⟩) (λk x y J ax u hu=>aU k x y J ax (ao k x u J hu) (aF x (List.mem_of_getElem? J)) (λc aa=>bf c ((aN c).2 ⟨k,(List.getElem?_eq_some_iff.1 J).1,aa⟩)) aT);refine ⟨λc=>∃ k,k<cs'.length/\qU k c,λc ⟨k,hk,h⟩=>(aN c).2 ⟨k,ak ▸ hk,qk k c hk h⟩,
     .agg (Fs:=qU) (by rw [ak,hV]) h1 (λk y u ax hu=>(Bu k y u ax hu).oo λc aa=>aa.imp id λ⟨h1,af⟩=>⟨h1,λh=>af (.inr h)⟩) (λj k c ah hk af aI=>aS j k c (ak ▸ ah) (ak ▸ hk) (qk j c ah af) (qk k c hk aI)) (λc=>Iff.rfl)⟩
end
end Go.Own
