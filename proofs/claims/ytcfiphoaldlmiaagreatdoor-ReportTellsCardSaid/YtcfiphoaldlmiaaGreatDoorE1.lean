/- Parts of the proof that the last text states. -/
import Derived.Orders
import Derived.WalkKit
namespace Go.Own
open Go
structure Place where
 root:Nat
 path:List Nat
 deriving DecidableEq,Repr
def Place.push (p:Place) (k:Nat):Place:=⟨p.root,p.path++[k]⟩
inductive ab where
 | lit (v:Value)
 | bf
 | bc (z n:Nat) (cs:List ab)
 | own (z n:Nat) (cs:List ab)
 | obj (cs:List ab)
 | agg (cs:List ab)
 | bN (cs:List ab)
 | cJ (cs:List ab)
 | ptr (p:Place) (k:Nat)
 | bn (z:Nat) (p:Place) (n:Nat)
 | sub (z:Nat) (p:Place) (lo n:Nat)
 | bC (z:Nat) (p:Place) (n m:Nat) (new:List ab)
 | c7 (fn:Fn) (first caps:List ab)
 | mp (p:Array MapEntry->Nat->Prop)
 | ha (p:Place)
 | imp (p:Array MapEntry->Nat->Prop)
 | dead
 | self (k:Nat × Nat)
 | dv (t:Nat) (us:List Value)
 deriving Inhabited
def qS (cs:List ab):Prop:=∀ (k:Nat) (aa:Nat × Nat),cs[k]?≠some (.self aa)
def r0 (x:ab):Prop:=∀ cs,x=.agg cs->qS cs
abbrev a6:=Nat->Prop
def ab.isRef:ab->Bool
 | .ptr .. | .bn .. | .sub .. | .ha ..=>true
 | _=>false
inductive R (w:World) (I:a6) (ρ:ab->Value->Prop):ab->Value->a6->Prop
 | lit {v:Value}{F:a6}(hv:v.oneCell'=true) (aE:∀ c,¬ F c):R w I ρ (.lit v) v F
 | bf {F:a6}(aE:∀ c,¬ F c):R w I ρ .bf (.slice none 0 0) F
 | dead {v:Value}{F:a6}(aE:∀ c,¬ F c):R w I ρ .dead v F
 | dv {t:Nat}{us:List Value}{v:Value}{F:a6}(aM:w.ownsRow 0 t 1 v us.length us) (h1:v.oneCell'=true) (aE:∀ c,F c↔v.ownBlock=some c):R w I ρ (.dv t us) v F
 | j1 {k:Nat × Nat}{v:Value}{F:a6}(aE:∀ c,¬ F c):R w I ρ (.self k) v F
 | ref {x:ab}{v:Value}{F:a6}(j:x.isRef=true) (h:ρ x v) (aE:∀ c,¬ F c):R w I ρ x v F
 | hj {z cap:Nat}{a:Option Addr}{F:a6}(aE:∀ c,¬ F c):R w I ρ (.bc z 0 []) (.slice a 0 cap) F
 | bc {z n cap:Nat}{cs:List ab}{ad:Addr}{us:Nat->Value}{F:a6}(aE:∀ c,¬ F c) (kv:n<=cap) (bb:I ad.block) (ax:ad.spot=none) (ah:cs.length=n * z) (h1:∀ (k:Nat) (x:ab),cs[k]?=some x->(us k).oneCell'=true)
   (J:∀ (k:Nat) (x:ab),cs[k]?=some x->w.cell? ⟨ad.block,ad.off+k,none⟩=some (us k)) (aj:∀ (k:Nat) (x:ab),cs[k]?=some x->R w I ρ x (us k) (λ_=>False)) :
   R w I ρ (.bc z n cs) (.slice (some ad) n cap) F
 | cJ {cs:List ab}{ad:Addr}{us:Nat->Value}{F:a6}(aE:∀ c,¬ F c) (bb:I ad.block) (ax:ad.spot=none) (h1:∀ (k:Nat) (x:ab),cs[k]?=some x->(us k).oneCell'=true)
   (J:∀ (k:Nat) (x:ab),cs[k]?=some x->w.cell? ⟨ad.block,ad.off+k,none⟩=some (us k)) (aj:∀ (k:Nat) (x:ab),cs[k]?=some x->R w I ρ x (us k) (λ_=>False)) :
   R w I ρ (.cJ cs) (.pointer (some ad)) F
 | own {z n:Nat}{cs:List ab}{v:Value}{e:TypeId}{us:List Value}{Fs:Nat->a6}{F:a6}
   (aM:w.ownsRow 0 e z v n us) (ah:cs.length=us.length) (h1:∀ (k:Nat) (u:Value),us[k]?=some u->u.oneCell'=true)
   (aj:∀ (k:Nat) (x:ab) (u:Value),cs[k]?=some x->us[k]?=some u->R w I ρ x u (Fs k))
   (aO:∀ (aa k c:Nat),aa<cs.length->k<cs.length->Fs aa c->Fs k c->aa=k) (au:∀ (k c:Nat),k<cs.length->Fs k c->v.ownBlock≠some c)
   (aE:∀ c,F c↔v.ownBlock=some c\/∃ k,k<cs.length/\Fs k c):R w I ρ (.own z n cs) v F
 | obj {cs:List ab}{b:Nat}{e:TypeId}{arr:Array Value}{Fs:Nat->a6}{F:a6}
   (aM:w.heap[b]?=some (.cells arr e (0,0))) (ah:cs.length=arr.size) (h1:∀ (k:Nat) (u:Value),arr[k]?=some u->u.oneCell'=true)
   (aj:∀ (k:Nat) (x:ab) (u:Value),cs[k]?=some x->arr[k]?=some u->R w I ρ x u (Fs k))
   (aO:∀ (aa k c:Nat),aa<cs.length->k<cs.length->Fs aa c->Fs k c->aa=k) (au:∀ (k:Nat),k<cs.length->¬ Fs k b)
   (aE:∀ c,F c↔c=b\/∃ k,k<cs.length/\Fs k c) (ax:∀ (k:Nat) (aa:Nat × Nat) (u:Value),cs[k]?=some (.self aa)->arr[k]?=some u->(u=.pointer none/\e=aa.2)\/u=.pointer (some ⟨b,aa.1,none⟩)):R w I ρ (.obj cs) (.pointer (some ⟨b,0,none⟩)) F
 | agg {cs:List ab}{vs:Array Value}{Fs:Nat->a6}{F:a6}(ah:cs.length=vs.size) (h1:∀ (k:Nat) (u:Value),vs[k]?=some u->u.oneCell'=true)
   (aj:∀ (k:Nat) (x:ab) (u:Value),cs[k]?=some x->vs[k]?=some u->R w I ρ x u (Fs k))
   (aO:∀ (aa k c:Nat),aa<cs.length->k<cs.length->Fs aa c->Fs k c->aa=k)
   (aE:∀ c,F c↔∃ k,k<cs.length/\Fs k c):R w I ρ (.agg cs) (.agg vs) F
 | bN {cs:List ab}{vs:Array Value}{Fs:Nat->a6}{F:a6}(ah:cs.length=vs.size)
   (aj:∀ (k:Nat) (x:ab) (u:Value),cs[k]?=some x->vs[k]?=some u->R w I ρ x u (Fs k))
   (aO:∀ (aa k c:Nat),aa<cs.length->k<cs.length->Fs aa c->Fs k c->aa=k)
   (aE:∀ c,F c↔∃ k,k<cs.length/\Fs k c):R w I ρ (.bN cs) (.tuple vs) F
 | c7 {fn:Fn}{first caps:List ab}{v1 v2:Array Value}{F:a6}(aE:∀ c,¬ F c) (h1:first.length=v1.size) (af:caps.length=v2.size)
   (iX:∀ (k:Nat) (x:ab) (u:Value),first[k]?=some x->v1[k]?=some u->R w I ρ x u (λ_=>False))
   (hU:∀ (k:Nat) (x:ab) (u:Value),caps[k]?=some x->v2[k]?=some u->R w I ρ x u (λ_=>False)):R w I ρ (.c7 fn first caps) (.func fn v1 v2) F
 | mp {p:Array MapEntry->Nat->Prop}{b:Nat}{es:Array MapEntry}{clock:Nat}{F:a6}(aM:w.heap[b]?=some (.map es clock)) (av:p es clock) (aE:∀ c,F c↔c=b):R w I ρ (.mp p) (.map (some b)) F
 | imp {p:Array MapEntry->Nat->Prop}{b:Nat}{es:Array MapEntry}{clock:Nat}{F:a6}(aE:∀ c,¬ F c) (bb:I b) (aM:w.heap[b]?=some (.map es clock)) (av:p es clock):R w I ρ (.imp p) (.map (some b)) F
theorem R.te {w:World}{I:a6}{ρ:ab->Value->Prop}{x:ab}{v:Value}{F cM:a6}(h:R w I ρ x v F) (aE:∀ c,F c↔cM c):R w I ρ x v cM:=by
 have:F=cM:=funext λc=>propext (aE c)
 grind
theorem R.lt {w:World}{I:a6}{ρ:ab->Value->Prop}{x:ab}{v:Value}{F:a6}(h:R w I ρ x v F):∀ c,F c->c<w.heap.size:=by
 induction h with
 | lit _ aE | bf aE | dead aE | j1 aE | ref _ _ aE | hj aE | bc aE | cJ aE | c7 aE | imp aE=>exact λc J=>absurd J (aE c)
 | dv aM _ aE=>exact λc J=>(aM.lt c ((aE c).1 J)).2
 | mp aM _ aE=>exact λc J=>by rw [(aE c).1 J]; exact (Array.getElem?_eq_some_iff.1 aM).1
 | own aM ah h1 aj aO au aE aK =>
  intro c J;rcases (aE c).1 J with h | ⟨k,hk,h⟩
  ·exact (aM.lt c h).2
  ·exact aK k _ _ (List.getElem?_eq_getElem hk) (List.getElem?_eq_getElem (ah ▸ hk)) c h
 | obj aM ah h1 aj aO au aE ax aK =>
  intro c J;rcases (aE c).1 J with rfl | ⟨k,hk,h⟩
  ·exact (Array.getElem?_eq_some_iff.1 aM).1
  ·exact aK k _ _ (List.getElem?_eq_getElem hk) (Array.getElem?_eq_getElem (ah ▸ hk)) c h
 | agg ah h1 aj aO aE aK =>
  intro c J;obtain ⟨k,hk,h⟩:=(aE c).1 J;exact aK k _ _ (List.getElem?_eq_getElem hk) (Array.getElem?_eq_getElem (ah ▸ hk)) c h
 | bN ah aj aO aE aK =>
  intro c J;obtain ⟨k,hk,h⟩:=(aE c).1 J;exact aK k _ _ (List.getElem?_eq_getElem hk) (Array.getElem?_eq_getElem (ah ▸ hk)) c h
theorem rI {w w':World}{e:TypeId}{z n:Nat}{v:Value}{us:List Value}(h:w.ownsRow 0 e z v n us) (au:∀ c,v.ownBlock=some c->w'.heap[c]?=w.heap[c]?):w'.ownsRow 0 e z v n us:=by
 obtain ⟨h1,af⟩:=h;refine ⟨h1,?_⟩;rcases af with af | ⟨g,cap,cur,rfl,aI,bE,rest⟩
 ·grind
 ·exact .inr ⟨g,cap,cur,rfl,aI,by rw [au g rfl]; exact bE,rest⟩
theorem R.frame {w w':World}{I I':a6}{ρ ρ':ab->Value->Prop}{x:ab}{v:Value}{F:a6}(h:R w I ρ x v F)
  (bb:∀ c,I c->w'.heap[c]?=w.heap[c]?) (nC:∀ c,I c->I' c) (lf:∀ x v,ρ x v->ρ' x v) :
  (∀ c,F c->w'.heap[c]?=w.heap[c]?)->R w' I' ρ' x v F:=by
 induction h with
 | lit hv aE=>exact λ_=>.lit hv aE
 | bf aE=>exact λ_=>.bf aE
 | dead aE=>exact λ_=>.dead aE
 | j1 aE=>exact λ_=>.j1 aE
 | ref j h aE=>exact λ_=>.ref j (lf _ _ h) aE
 | hj aE=>exact λ_=>.hj aE
 | bc aE kv hi ax ah h1 J aj aK =>
  exact λ_=>.bc aE kv (nC _ hi) ax ah h1 (λk x hk=>(World.cell?_of_block (a:=⟨_,_,none⟩) (bb _ hi)).trans (J k x hk)) λk x hk=>aK k x hk (λc J=>J.elim)
 | cJ aE hi ax h1 J aj aK =>
  exact λ_=>.cJ aE (nC _ hi) ax h1 (λk x hk=>(World.cell?_of_block (a:=⟨_,_,none⟩) (bb _ hi)).trans (J k x hk)) λk x hk=>aK k x hk (λc J=>J.elim)
 | own aM ah h1 aj aO au aE aK =>
  intro aU;refine .own (rI aM λc J=>aU c ((aE c).2 (.inl J))) ah h1 (λk x u j hu=>aK k x u j hu λc J=>aU c ((aE c).2 (.inr ⟨k,?_,J⟩))) aO au aE;exact (List.getElem?_eq_some_iff.1 j).1
 | obj aM ah h1 aj aO au aE ax aK =>
  intro aU;refine .obj ((aU _ ((aE _).2 (.inl rfl))).trans aM) ah h1 (λk x u j hu=>aK k x u j hu λc J=>aU c ((aE c).2 (.inr ⟨k,?_,J⟩))) aO au aE ax;exact (List.getElem?_eq_some_iff.1 j).1
 | agg ah h1 aj aO aE aK =>
  intro aU;refine .agg ah h1 (λk x u j hu=>aK k x u j hu λc J=>aU c ((aE c).2 ⟨k,?_,J⟩)) aO aE;exact (List.getElem?_eq_some_iff.1 j).1
 | bN ah aj aO aE aK =>
  intro aU;refine .bN ah (λk x u j hu=>aK k x u j hu λc J=>aU c ((aE c).2 ⟨k,?_,J⟩)) aO aE;exact (List.getElem?_eq_some_iff.1 j).1
 | imp aE hi aM av=>exact λ_=>.imp aE (nC _ hi) ((bb _ hi).trans aM) av
 | dv aM h1 aE=>exact λaU=>.dv (rI aM λc J=>aU c ((aE c).2 J)) h1 aE
 | mp aM av aE=>exact λaU=>.mp ((aU _ ((aE _).2 rfl)).trans aM) av aE
 | c7 aE h1 af iX hU ga fP=>exact λ_=>.c7 aE h1 af (λk x u j hu=>ga k x u j hu λc J=>J.elim) (λk x u j hu=>fP k x u j hu λc J=>J.elim)
def ab.kids:ab->List ab
 | .own _ _ cs=>cs
 | .obj cs=>cs
 | .agg cs=>cs
 | .bN cs=>cs
 | _=>[]
def ab.tT (x:ab) (k:Nat) (y:ab):ab :=
 match x with
 | .own z n cs=>.own z n (cs.set k y)
 | .obj cs=>.obj (cs.set k y)
 | .agg cs=>.agg (cs.set k y)
 | .bN cs=>.bN (cs.set k y)
 | x=>x
def ab.at:ab->List Nat->Option ab
 | x,[]=>some x
 | x,k::p =>
  match x.kids[k]? with
  | some c=>c.at p
  | none=>none
def ab.setAt:ab->List Nat->ab->ab
 | _,[],y=>y
 | x,k::p,y =>
  match x.kids[k]? with
  | some c=>x.tT k (c.setAt p y)
  | none=>x
theorem ab.Y_ {x y z:ab}{k:Nat}{aa:Nat × Nat}{p:List Nat}(h:x.at (k::p)=some y):x.setAt (k::p) z≠.self aa:=by
 intro e;simp only [ab.at,ab.setAt] at h e;cases hk:x.kids[k]? with
 | none=>rw [hk] at h; cases h
 | some c =>
  rw [hk] at e;cases x <;> simp [ab.tT,ab.kids] at e hk
def child (w:World) (v:Value) (k:Nat):Option Value :=
 match v with
 | .agg cs=>cs[k]?
 | .tuple cs=>cs[k]?
 | .slice (some a) _ _=>w.cell? ⟨a.block,a.off+k,none⟩
 | .pointer (some a)=>w.cell? ⟨a.block,a.off+k,none⟩
 | _=>none
def walk (w:World):Value->List Nat->Option Value
 | v,[]=>some v
 | v,k::p =>
  match child w v k with
  | some u=>walk w u p
  | none=>none
theorem ot {w:World}{e:TypeId}{z n:Nat}{v:Value}{us:List Value}(h:w.ownsRow 0 e z v n us) {k:Nat}{u:Value}(hu:us[k]?=some u):child w v k=some u:=by
 obtain ⟨h1,af⟩:=h;rcases af with ⟨rfl,rfl⟩ | ⟨g,cap,cur,rfl,aI,bE,az,J,ax,ak⟩
 ·grind
 ·rw [<- ak] at hu;rw [List.getElem?_take] at hu
  split at hu
  ·simpa [child,World.cell?,bE] using hu
  grind
theorem P' {α:Type}{l:List α}{k aa:Nat}{y x:α}(h:(l.set k y)[aa]?=some x):(aa=k/\x=y/\k<l.length)\/(aa≠k/\l[aa]?=some x):=by
 grind
structure Out (w w':World) (I I':a6) (ρ ρ':ab->Value->Prop) (F cp:a6):Prop where
 bc:∀ c,I c->w'.heap[c]?=w.heap[c]?
 rest:∀ c,F c->¬ cp c->w'.heap[c]?=w.heap[c]?
 more:∀ c,I c->I' c
 ref:∀ x v,ρ x v->ρ' x v
theorem Out.mono {w w':World}{I I':a6}{ρ ρ':ab->Value->Prop}{F cp cM iM:a6}(h:Out w w' I I' ρ ρ' F cp) (h1:∀ c,cM c->F c) (af:∀ c,cM c->¬ iM c->¬ cp c):Out w w' I I' ρ ρ' cM iM :=
 ⟨h.bc,λc J az=>h.rest c (h1 c J) (af c J az),h.more,h.ref⟩
theorem R.outside {w w':World}{I I':a6}{ρ ρ':ab->Value->Prop}{F cp:a6}(o:Out w w' I I' ρ ρ' F cp) {x:ab}{v:Value}{G:a6}(h:R w I ρ x v G) (cT:∀ c,G c->F c/\¬ cp c):R w' I' ρ' x v G :=
 h.frame o.bc o.more o.ref λc J=>o.rest c (cT c J).1 (cT c J).2
theorem E5 {w w':World}{I I':a6}{ρ ρ':ab->Value->Prop}{cs:List ab}{get:Nat->Option Value}{Fs:Nat->a6}{F cp:a6}
  (aj:∀ (k:Nat) (x:ab) (u:Value),cs[k]?=some x->get k=some u->R w I ρ x u (Fs k))
  (aO:∀ (aa k c:Nat),aa<cs.length->k<cs.length->Fs aa c->Fs k c->aa=k)
  (aE:∀ k c,k<cs.length->Fs k c->F c) {k:Nat}(hk:k<cs.length) (ai:∀ c,cp c->Fs k c) (o:Out w w' I I' ρ ρ' F cp)
  {y:ab}{u:Value}{bK:a6}(hu:get k=some u) (aV:R w' I' ρ' y u bK) (eG:∀ c,bK c↔(Fs k c/\¬ cp c)\/(bK c/\¬ (F c/\¬ cp c))) :
  (∀ (aa:Nat) (x:ab) (u:Value),(cs.set k y)[aa]?=some x->get aa=some u->R w' I' ρ' x u (if aa=k then bK else Fs aa)) /\
  (∀ (i aa c:Nat),i<(cs.set k y).length->aa<(cs.set k y).length->(if i=k then bK else Fs i) c->(if aa=k then bK else Fs aa) c->i=aa):=by
 constructor
 ·intro aa x tV j hy;rcases P' j with ⟨rfl,rfl,aN⟩ | ⟨cU,j⟩
  ·grind
  ·rw [if_neg cU];have ag:aa<cs.length:=(List.getElem?_eq_some_iff.1 j).1;exact (aj aa x tV j hy).outside o λc J=>⟨aE aa c ag J,λej=>cU (aO aa k c ag hk J (ai c ej))⟩
 grind
theorem E6 {m:Nat}{Fs:Nat->a6}{bK cp iM:a6}{k:Nat}(hk:k<m)
  (aO:∀ (aa k c:Nat),aa<m->k<m->Fs aa c->Fs k c->aa=k) (ai:∀ c,cp c->Fs k c) (eG:∀ c,bK c↔(Fs k c/\¬ cp c)\/iM c) (c:Nat) :
  (∃ aa,aa<m/\(if aa=k then bK else Fs aa) c)↔((∃ aa,aa<m/\Fs aa c)/\¬ cp c)\/iM c:=by
 grind
theorem R.o8 {w w':World}{I:a6}{ρ:ab->Value->Prop}:∀ (r:List Nat) {x:ab}{v:Value}{F:a6}{y:ab},R w I ρ x v F->x.at r=some y ->
  (∀ c,F c->w'.heap[c]?=w.heap[c]?)->walk w' v r=walk w v r
 | [],_,_,_,_,_,_,_=>rfl
 | k::p,x,v,F,y,h,e5,aU=>by
  simp only [ab.at] at e5;cases gJ:x.kids[k]? with
  | none=>rw [gJ] at e5; cases e5
  | some r5 =>
   rw [gJ] at e5;simp only at e5;cases h with
   | @own z n cs _ e us Fs _ aM ah h1 aj aO au aE =>
    simp only [ab.kids] at gJ;have hk:k<cs.length:=(List.getElem?_eq_some_iff.1 gJ).1;have hu:us[k]?=some us[k]:=List.getElem?_eq_getElem (ah ▸ hk);have mv:=rI (w':=w') aM λc J=>aU c ((aE c).2 (.inl J));have:=R.o8 (w':=w') p (aj k r5 _ gJ hu) e5 λc J=>aU c ((aE c).2 (.inr ⟨k,hk,J⟩));simp [walk,ot aM hu,ot mv hu,this]
   | @obj cs b e arr Fs _ aM ah h1 aj aO au aE ax =>
    simp only [ab.kids] at gJ;have hk:k<cs.length:=(List.getElem?_eq_some_iff.1 gJ).1;have hu:arr[k]?=some arr[k]:=Array.getElem?_eq_getElem (ah ▸ hk);have mv:=(aU b ((aE b).2 (.inl rfl))).trans aM;have:=R.o8 (w':=w') p (aj k r5 _ gJ hu) e5 λc J=>aU c ((aE c).2 (.inr ⟨k,hk,J⟩));simp [walk,child,World.cell?,aM,mv,hu,this]
   | @agg cs vs Fs _ ah h1 aj aO aE =>
    simp only [ab.kids] at gJ;have hk:k<cs.length:=(List.getElem?_eq_some_iff.1 gJ).1;have hu:vs[k]?=some vs[k]:=Array.getElem?_eq_getElem (ah ▸ hk);have:=R.o8 (w':=w') p (aj k r5 _ gJ hu) e5 λc J=>aU c ((aE c).2 ⟨k,hk,J⟩);simp [walk,child,hu,this]
   | @bN cs vs Fs _ ah aj aO aE =>
    simp only [ab.kids] at gJ;have hk:k<cs.length:=(List.getElem?_eq_some_iff.1 gJ).1;have hu:vs[k]?=some vs[k]:=Array.getElem?_eq_getElem (ah ▸ hk);have:=R.o8 (w':=w') p (aj k r5 _ gJ hu) e5 λc J=>aU c ((aE c).2 ⟨k,hk,J⟩);simp [walk,child,hu,this]
   | ref j _ _=>cases x <;> simp [ab.isRef,ab.kids] at j gJ
   | _=>simp [ab.kids] at gJ
theorem R.focus {w:World}{I:a6}{ρ:ab->Value->Prop}:∀ (q:List Nat) {x:ab}{v:Value}{F:a6}{y:ab},R w I ρ x v F->x.at q=some y ->
  ∃ hX cp,walk w v q=some hX/\R w I ρ y hX cp/\(∀ c,cp c->F c) /\
   (∀ (w':World),(∀ c,F c->¬ cp c->w'.heap[c]?=w.heap[c]?)->walk w' v q=some hX/\∀ r ub,x.at r=some ub->(∃ dk,r=q++dk)\/walk w' v r=walk w v r) /\
   ∀ (w':World) (I':a6) (ρ':ab->Value->Prop) (y':ab) (iM:a6),Out w w' I I' ρ ρ' F cp->R w' I' ρ' y' hX iM->(∀ c,iM c->F c->cp c)->(∀ aa,y'=.self aa->y=.self aa) ->
    ∃ cM,R w' I' ρ' (x.setAt q y') v cM/\∀ c,cM c↔(F c/\¬ cp c)\/iM c
 | [],x,v,F,y,h,e5=>by
  simp only [ab.at,Option.some.injEq] at e5;subst e5;exact ⟨v,F,rfl,h,λ_ h=>h,λ_ _=>⟨rfl,λr _ _=>.inl ⟨r,rfl⟩⟩,λw' I' ρ' y' iM _ aV _ _=>⟨iM,aV,λc=>by simp⟩⟩
 | k::p,x,v,F,y,h,e5=>by
  simp only [ab.at] at e5;cases gJ:x.kids[k]? with
  | none=>rw [gJ] at e5; cases e5
  | some r5 =>
   rw [gJ] at e5;simp only at e5;have uX:∀ y',x.setAt (k::p) y'=x.tT k (r5.setAt p y'):=λy'=>by simp [ab.setAt,gJ]
   cases h with
   | @own z n cs _ e us Fs _ aM ah h1 aj aO au aE =>
    simp only [ab.kids] at gJ;have hk:k<cs.length:=(List.getElem?_eq_some_iff.1 gJ).1;have hu:us[k]?=some us[k]:=List.getElem?_eq_getElem (ah ▸ hk);obtain ⟨hX,cp,hw,dA,di,ey,kC⟩:=R.focus p (aj k r5 _ gJ hu) e5;refine ⟨hX,cp,by simp [walk,ot aM hu,hw],dA,λc J=>(aE c).2 (.inr ⟨k,hk,di c J⟩),?_,?_⟩
    ·intro w' ax;have oS:∀ aa c,aa<cs.length->Fs aa c->¬ cp c->w'.heap[c]?=w.heap[c]?:=λaa c ag J az=>ax c ((aE c).2 (.inr ⟨aa,ag,J⟩)) az;obtain ⟨eR,eY⟩:=ey w' λc J az=>oS k c hk J az;have mv:=rI (w':=w') aM λc J=>ax c ((aE c).2 (.inl J)) λej=>au k c hk (di c ej) J;refine ⟨by simp [walk,ot mv hu,eR],?_⟩;intro r ub ee;cases r with
     | nil=>exact .inr rfl
     | cons aa r =>
      simp only [ab.at,ab.kids] at ee;cases ag:cs[aa]? with
      | none=>rw [ag] at ee; cases ee
      | some wc =>
       rw [ag] at ee;simp only at ee;have eW:aa<cs.length:=(List.getElem?_eq_some_iff.1 ag).1;have qp:us[aa]?=some us[aa]:=List.getElem?_eq_getElem (ah ▸ eW);by_cases fY:aa=k
       ·subst fY;rw [gJ] at ag;cases ag;rcases eY r ub ee with ⟨dk,rfl⟩ | h
        ·exact .inl ⟨dk,rfl⟩
        ·exact .inr (by simp [walk,ot aM hu,ot mv hu,h])
       ·have h:=R.o8 (w':=w') r (aj aa wc _ ag qp) ee λc J=>oS aa c eW J λej=>fY (aO aa k c eW hk J (di c ej));exact .inr (by simp [walk,ot aM qp,ot mv qp,h])
    intro w' I' ρ' y' iM o ie mq kR;have iT:∀ aa c,aa<cs.length->Fs aa c->F c:=λaa c ag J=>(aE c).2 (.inr ⟨aa,ag,J⟩);obtain ⟨bK,jW,eG⟩:=kC w' I' ρ' y' iM (o.mono (λc J=>iT k c hk J) λc _ h=>h) ie (λc J n_=>mq c J (iT k c hk n_)) kR;obtain ⟨ee,pD⟩:=E5 (get:=λaa=>us[aa]?) aj aO iT hk di o hu jW λc=>by
     constructor
     ·intro h;rcases (eG c).1 h with h1 | h1
      ·exact .inl h1
      ·exact .inr ⟨h,λ⟨af,aJ⟩=>aJ (mq c h1 af)⟩
     ·rintro (h1 | ⟨h1,_⟩)
      ·exact (eG c).2 (.inl h1)
      ·exact h1
    rw [uX];refine ⟨_,.own (Fs:=λaa=>if aa=k then bK else Fs aa) (rI aM λc J=>o.rest c ((aE c).2 (.inl J)) λej=>au k c hk (di c ej) J) (by simpa using ah) h1 ee pD ?_ (λc=>Iff.rfl),λc=>?_⟩
    ·intro aa c ag J u2;rw [List.length_set] at ag;by_cases fY:aa=k
     ·rw [if_pos fY] at J;rcases (eG c).1 J with ⟨h1,_⟩ | h1
      ·exact au k c hk h1 u2
      ·exact au k c hk (di c (mq c h1 ((aE c).2 (.inl u2)))) u2
     ·rw [if_neg fY] at J; exact au aa c ag J u2
    ·have hu:=E6 hk aO di eG c;simp only [List.length_set];rw [hu,aE c];have eN:v.ownBlock=some c->¬ cp c:=λh1 af=>au k c hk (di c af) h1;constructor
     ·rintro (h1 | ⟨h1,af⟩ | h1)
      ·exact .inl ⟨.inl h1,eN h1⟩
      ·exact .inl ⟨.inr h1,af⟩
      ·exact .inr h1
     ·rintro (⟨h1 | h1,af⟩ | h1)
      ·exact .inl h1
      ·exact .inr (.inl ⟨h1,af⟩)
      ·exact .inr (.inr h1)
   | @obj cs b e arr Fs _ aM ah h1 aj aO au aE ax =>
    simp only [ab.kids] at gJ;have hk:k<cs.length:=(List.getElem?_eq_some_iff.1 gJ).1;have hu:arr[k]?=some arr[k]:=Array.getElem?_eq_getElem (ah ▸ hk);obtain ⟨hX,cp,hw,dA,di,ey,kC⟩:=R.focus p (aj k r5 _ gJ hu) e5;refine ⟨hX,cp,by simp [walk,child,World.cell?,aM,hu,hw],dA,λc J=>(aE c).2 (.inr ⟨k,hk,di c J⟩),?_,?_⟩
    ·intro w' ax;have oS:∀ aa c,aa<cs.length->Fs aa c->¬ cp c->w'.heap[c]?=w.heap[c]?:=λaa c ag J az=>ax c ((aE c).2 (.inr ⟨aa,ag,J⟩)) az;obtain ⟨eR,eY⟩:=ey w' λc J az=>oS k c hk J az;have mv:=(ax b ((aE b).2 (.inl rfl)) λej=>au k hk (di b ej)).trans aM;refine ⟨by simp [walk,child,World.cell?,mv,hu,eR],?_⟩;intro r ub ee;cases r with
     | nil=>exact .inr rfl
     | cons aa r =>
      simp only [ab.at,ab.kids] at ee;cases ag:cs[aa]? with
      | none=>rw [ag] at ee; cases ee
      | some wc =>
       rw [ag] at ee;simp only at ee;have eW:aa<cs.length:=(List.getElem?_eq_some_iff.1 ag).1;have qp:arr[aa]?=some arr[aa]:=Array.getElem?_eq_getElem (ah ▸ eW);by_cases fY:aa=k
       ·subst fY;rw [gJ] at ag;cases ag;rcases eY r ub ee with ⟨dk,rfl⟩ | h
        ·exact .inl ⟨dk,rfl⟩
        ·exact .inr (by simp [walk,child,World.cell?,aM,mv,hu,h])
       ·have h:=R.o8 (w':=w') r (aj aa wc _ ag qp) ee λc J=>oS aa c eW J λej=>fY (aO aa k c eW hk J (di c ej));exact .inr (by simp [walk,child,World.cell?,aM,mv,qp,h])
    intro w' I' ρ' y' iM o ie mq kR;have iT:∀ aa c,aa<cs.length->Fs aa c->F c:=λaa c ag J=>(aE c).2 (.inr ⟨aa,ag,J⟩);obtain ⟨bK,jW,eG⟩:=kC w' I' ρ' y' iM (o.mono (λc J=>iT k c hk J) λc _ h=>h) ie (λc J n_=>mq c J (iT k c hk n_)) kR;obtain ⟨ee,pD⟩:=E5 (get:=λaa=>arr[aa]?) aj aO iT hk di o hu jW λc=>by
     constructor
     ·intro h;rcases (eG c).1 h with h1 | h1
      ·exact .inl h1
      ·exact .inr ⟨h,λ⟨af,aJ⟩=>aJ (mq c h1 af)⟩
     ·rintro (h1 | ⟨h1,_⟩)
      ·exact (eG c).2 (.inl h1)
      ·exact h1
    rw [uX];have n5:F b:=(aE b).2 (.inl rfl);have Iv:¬ cp b:=λh=>au k hk (di b h);refine ⟨_,.obj (Fs:=λaa=>if aa=k then bK else Fs aa) ((o.rest b n5 Iv).trans aM) (by simpa using ah) h1 ee pD ?_ (λc=>Iff.rfl) (λi aa u hi hy=>?_),λc=>?_⟩
    ·intro aa ag J;rw [List.length_set] at ag;by_cases fY:aa=k
     ·rw [if_pos fY] at J;rcases (eG b).1 J with ⟨h1,_⟩ | h1
      ·exact au k hk h1
      ·exact Iv (mq b h1 n5)
     ·rw [if_neg fY] at J; exact au aa ag J
    ·rcases P' hi with ⟨rfl,he,_⟩ | ⟨_,hi⟩
     ·refine ax _ aa u ?_ hy;rw [gJ];cases p with
      | nil =>
       simp only [ab.at,Option.some.injEq] at e5;rw [e5];exact congrArg some (kR aa he.symm)
      | cons kc Ps=>exact absurd he.symm (ab.Y_ e5)
     ·exact ax i aa u hi hy
    ·have hu:=E6 hk aO di eG c;simp only [List.length_set];rw [hu,aE c];constructor
     ·rintro (rfl | ⟨h1,af⟩ | h1)
      ·exact .inl ⟨.inl rfl,Iv⟩
      ·exact .inl ⟨.inr h1,af⟩
      ·exact .inr h1
     ·rintro (⟨h1 | h1,af⟩ | h1)
      ·exact .inl h1
      ·exact .inr (.inl ⟨h1,af⟩)
      ·exact .inr (.inr h1)
   | @agg cs vs Fs _ ah h1 aj aO aE =>
    simp only [ab.kids] at gJ;have hk:k<cs.length:=(List.getElem?_eq_some_iff.1 gJ).1;have hu:vs[k]?=some vs[k]:=Array.getElem?_eq_getElem (ah ▸ hk);obtain ⟨hX,cp,hw,dA,di,ey,kC⟩:=R.focus p (aj k r5 _ gJ hu) e5;refine ⟨hX,cp,by simp [walk,child,hu,hw],dA,λc J=>(aE c).2 ⟨k,hk,di c J⟩,?_,?_⟩
    ·intro w' ax;have oS:∀ aa c,aa<cs.length->Fs aa c->¬ cp c->w'.heap[c]?=w.heap[c]?:=λaa c ag J az=>ax c ((aE c).2 ⟨aa,ag,J⟩) az;obtain ⟨eR,eY⟩:=ey w' λc J az=>oS k c hk J az
     
     refine ⟨by simp [walk,child,hu,eR],?_⟩;intro r ub ee;cases r with
     | nil=>exact .inr rfl
     | cons aa r =>
      simp only [ab.at,ab.kids] at ee;cases ag:cs[aa]? with
      | none=>rw [ag] at ee; cases ee
      | some wc =>
       rw [ag] at ee;simp only at ee;have eW:aa<cs.length:=(List.getElem?_eq_some_iff.1 ag).1;have qp:vs[aa]?=some vs[aa]:=Array.getElem?_eq_getElem (ah ▸ eW);by_cases fY:aa=k
       ·subst fY;rw [gJ] at ag;cases ag;rcases eY r ub ee with ⟨dk,rfl⟩ | h
        ·exact .inl ⟨dk,rfl⟩
        ·exact .inr (by simp [walk,child,hu,h])
       ·have h:=R.o8 (w':=w') r (aj aa wc _ ag qp) ee λc J=>oS aa c eW J λej=>fY (aO aa k c eW hk J (di c ej));exact .inr (by simp [walk,child,qp,h])
    intro w' I' ρ' y' iM o ie mq kR;have iT:∀ aa c,aa<cs.length->Fs aa c->F c:=λaa c ag J=>(aE c).2 ⟨aa,ag,J⟩;obtain ⟨bK,jW,eG⟩:=kC w' I' ρ' y' iM (o.mono (λc J=>iT k c hk J) λc _ h=>h) ie (λc J n_=>mq c J (iT k c hk n_)) kR;obtain ⟨ee,pD⟩:=E5 (get:=λaa=>vs[aa]?) aj aO iT hk di o hu jW λc=>by
     constructor
     ·intro h;rcases (eG c).1 h with h1 | h1
      ·exact .inl h1
      ·exact .inr ⟨h,λ⟨af,aJ⟩=>aJ (mq c h1 af)⟩
     ·rintro (h1 | ⟨h1,_⟩)
      ·exact (eG c).2 (.inl h1)
      ·exact h1
    rw [uX];refine ⟨_,.agg (Fs:=λaa=>if aa=k then bK else Fs aa) (by simpa using ah) h1 ee pD (λc=>Iff.rfl),λc=>?_⟩;have hu:=E6 hk aO di eG c;simp only [List.length_set];rw [hu,aE c]
   | @bN cs vs Fs _ ah aj aO aE =>
    simp only [ab.kids] at gJ;have hk:k<cs.length:=(List.getElem?_eq_some_iff.1 gJ).1;have hu:vs[k]?=some vs[k]:=Array.getElem?_eq_getElem (ah ▸ hk);obtain ⟨hX,cp,hw,dA,di,ey,kC⟩:=R.focus p (aj k r5 _ gJ hu) e5;refine ⟨hX,cp,by simp [walk,child,hu,hw],dA,λc J=>(aE c).2 ⟨k,hk,di c J⟩,?_,?_⟩
    ·intro w' ax;have oS:∀ aa c,aa<cs.length->Fs aa c->¬ cp c->w'.heap[c]?=w.heap[c]?:=λaa c ag J az=>ax c ((aE c).2 ⟨aa,ag,J⟩) az;obtain ⟨eR,eY⟩:=ey w' λc J az=>oS k c hk J az
     
     refine ⟨by simp [walk,child,hu,eR],?_⟩;intro r ub ee;cases r with
     | nil=>exact .inr rfl
     | cons aa r =>
      simp only [ab.at,ab.kids] at ee;cases ag:cs[aa]? with
      | none=>rw [ag] at ee; cases ee
      | some wc =>
       rw [ag] at ee;simp only at ee;have eW:aa<cs.length:=(List.getElem?_eq_some_iff.1 ag).1;have qp:vs[aa]?=some vs[aa]:=Array.getElem?_eq_getElem (ah ▸ eW);by_cases fY:aa=k
       ·subst fY;rw [gJ] at ag;cases ag;rcases eY r ub ee with ⟨dk,rfl⟩ | h
        ·exact .inl ⟨dk,rfl⟩
        ·exact .inr (by simp [walk,child,hu,h])
       ·have h:=R.o8 (w':=w') r (aj aa wc _ ag qp) ee λc J=>oS aa c eW J λej=>fY (aO aa k c eW hk J (di c ej));exact .inr (by simp [walk,child,qp,h])
    intro w' I' ρ' y' iM o ie mq kR;have iT:∀ aa c,aa<cs.length->Fs aa c->F c:=λaa c ag J=>(aE c).2 ⟨aa,ag,J⟩;obtain ⟨bK,jW,eG⟩:=kC w' I' ρ' y' iM (o.mono (λc J=>iT k c hk J) λc _ h=>h) ie (λc J n_=>mq c J (iT k c hk n_)) kR;obtain ⟨ee,pD⟩:=E5 (get:=λaa=>vs[aa]?) aj aO iT hk di o hu jW λc=>by
     constructor
     ·intro h;rcases (eG c).1 h with h1 | h1
      ·exact .inl h1
      ·exact .inr ⟨h,λ⟨af,aJ⟩=>aJ (mq c h1 af)⟩
     ·rintro (h1 | ⟨h1,_⟩)
      ·exact (eG c).2 (.inl h1)
      ·exact h1
    rw [uX];refine ⟨_,.bN (Fs:=λaa=>if aa=k then bK else Fs aa) (by simpa using ah) ee pD (λc=>Iff.rfl),λc=>?_⟩;have hu:=E6 hk aO di eG c;simp only [List.length_set];rw [hu,aE c]
   | ref j _ _=>cases x <;> simp [ab.isRef,ab.kids] at j gJ
   | _=>simp [ab.kids] at gJ
end Go.Own
namespace Go.Own
open Go
abbrev aG:=Nat->Option ab
def bu (g:aG) (p:Place):Option ab :=
 match g p.root with
 | some x=>x.at p.path
 | none=>none
def dN (w:World) (T:Array Value) (p:Place):Option Value :=
 match T[p.root]? with
 | some v=>walk w v p.path
 | none=>none
def addrOf:Value->Option Addr
 | .slice (some a) _ _=>some a
 | .pointer (some a)=>some a
 | _=>none
def fL (w:World) (T:Array Value):ab->Value->Prop
 | .ptr p k,v=>∃ u a,dN w T p=some u/\addrOf u=some a/\v=.pointer (some ⟨a.block,a.off+k,none⟩)
 | .bn _ p n,v=>∃ a N cap,dN w T p=some (.slice a N cap)/\v=.slice a n cap/\n<=N
 | .sub z p lo n,v=>∃ a N cap b3 mj,dN w T p=some (.slice a N cap)/\v=.slice b3 n mj/\n<=mj/\lo+n<=N/\(0<n->∃ ad,a=some ad/\b3=some ⟨ad.block,ad.off+lo * z,none⟩)
 | .bC _ p n _ _,v=>∃ a cap,dN w T p=some (.slice a n cap)/\v=.slice a n cap
 | .ha p,v=>∃ b,dN w T p=some (.map b)/\v=.map b
 | _,_=>False
def gG (g:aG):ab->Prop
 | .ptr p k=>∃ y,bu g p=some y/\(∃ z n cs,(y=.own z n cs\/y=.obj cs)/\k<cs.length)
 | .bn z p n=>(∃ N cs,bu g p=some (.own z N cs)/\n<=N)\/(p.path=[]/\∃ q gr m new,g p.root=some (.bC z q gr m new)/\n=gr+m)
 | .sub z p lo n=>∃ N cs,bu g p=some (.own z N cs)/\lo+n<=N
 | .bC z p n _ _=>(∃ cs,bu g p=some (.own z n cs))\/(p.path=[]/\∃ q gr m new cs,g p.root=some (.bC z q gr m new)/\n=gr+m/\bu g q=some (.own z gr cs))
 | .ha p=>∃ q,bu g p=some (.mp q)
 | _=>False
def dO (w:World) (T:Array Value) (g:aG) (r:ab) (v:Value):Prop:=fL w T r v/\gG g r
structure GF (w:World) (I:a6) (ρ:ab->Value->Prop) (z:Nat) (p:Place) (n m:Nat) (new:List ab) (v:Value) (F:a6) (bv:Value) (e b7:TypeId) (us news:List Value):Prop where
 j_:ρ (.bC z p n 0 []) bv
 iB:w.ownsRow 0 e z bv n us
 m':w.ownsRow 0 b7 z v (n+m) (us++news)
 ah:new.length=news.length
 h1:∀ (k:Nat) (u:Value),news[k]?=some u->u.oneCell'=true
 aj:∀ (k:Nat) (x:ab) (u:Value),new[k]?=some x->news[k]?=some u->R w I ρ x u (λ_=>False)
 aE:∀ c,F c↔v.ownBlock=some c/\bv.ownBlock≠some c
inductive jb (w:World) (I:a6) (ρ:ab->Value->Prop):ab->Value->a6->Prop
 | tree {x:ab}{v:Value}{F:a6}(h:R w I ρ x v F):jb w I ρ x v F
 | bC {z n m:Nat}{p:Place}{new:List ab}{v bv:Value}{e b7:TypeId}{us news:List Value}{F:a6}(h:GF w I ρ z p n m new v F bv e b7 us news):jb w I ρ (.bC z p n m new) v F
theorem R.kU {w:World}{I:a6}{ρ:ab->Value->Prop}{z n m:Nat}{p:Place}{new:List ab}{v:Value}{F:a6}(h:R w I ρ (.bC z p n m new) v F):False:=by
 cases h with
 | ref j=>simp [ab.isRef] at j
theorem jb.fS {w:World}{I:a6}{ρ:ab->Value->Prop}{x:ab}{v:Value}{F:a6}(h:jb w I ρ x v F) (j:∀ z p n m new,x≠.bC z p n m new):R w I ρ x v F:=by
 cases h with
 | tree h=>exact h
 | bC=>exact absurd rfl (j _ _ _ _ _)
theorem jb.vd {w:World}{I:a6}{ρ:ab->Value->Prop}{z n m:Nat}{p:Place}{new:List ab}{v:Value}{F:a6}(h:jb w I ρ (.bC z p n m new) v F):∃ bv e b7 us news,GF w I ρ z p n m new v F bv e b7 us news:=by
 cases h with
 | tree h=>exact h.kU.elim
 | bC h=>exact ⟨_,_,_,_,_,h⟩
theorem jb.lt {w:World}{I:a6}{ρ:ab->Value->Prop}{x:ab}{v:Value}{F:a6}(h:jb w I ρ x v F):∀ c,F c->c<w.heap.size:=by
 cases h with
 | tree h=>exact h.lt
 | bC h=>exact λc J=>(h.m'.lt c ((h.aE c).1 J).1).2
theorem jb.frame {w w':World}{I I':a6}{ρ ρ':ab->Value->Prop}{x:ab}{v:Value}{F:a6}(h:jb w I ρ x v F)
  (bb:∀ c,I c->w'.heap[c]?=w.heap[c]?) (nC:∀ c,I c->I' c) (lf:∀ x v,ρ x v->ρ' x v)
  (cV:∀ z p n bv,ρ (.bC z p n 0 []) bv->∀ c,bv.ownBlock=some c->w'.heap[c]?=w.heap[c]?)
  (aU:∀ c,F c->w'.heap[c]?=w.heap[c]?):jb w' I' ρ' x v F:=by
 cases h with
 | tree h=>exact .tree (h.frame bb nC lf aU)
 | @bC z n m p new v bv e b7 us news F h =>
  have au:=cV _ _ _ _ h.j_;refine .bC ⟨lf _ _ h.j_,rI h.iB au,rI h.m' λc J=>?_,h.ah,h.h1,λk x u j hu=>(h.aj k x u j hu).frame bb nC lf λc J=>J.elim,h.aE⟩;by_cases ra:bv.ownBlock=some c
  ·exact au c ra
  ·exact aU c ((h.aE c).2 ⟨J,ra⟩)
theorem ab.s9 {z n m:Nat}{p:Place}{new:List ab}{q:List Nat}{y:ab}(h:(ab.bC z p n m new).at q=some y):q=[]/\y=.bC z p n m new:=by
 cases q with
 | nil=>simp [ab.at] at h; exact ⟨rfl,h.symm⟩
 | cons k q=>simp [ab.at,ab.kids] at h
class cw where
 q:World->a6->Prop
 keep:∀ {w w':World}{I I':a6},q w I->(∀ c,I c->w'.heap[c]?=w.heap[c]?)->(∀ c,I c->I' c)->q w' I'
set_option linter.unusedSectionVars false
variable [cw]
structure cB (w:World) (I:a6) (T:Array Value) (g:aG) (Fs:Nat->a6):Prop where
 rel:∀ t x,g t=some x->∃ v,T[t]?=some v/\jb w I (dO w T g) x v (Fs t)
 kA:∀ t,g t=none->∀ c,¬ Fs t c
 et:∀ t t' c,Fs t c->Fs t' c->t=t'
 bc:∀ t c,Fs t c->¬ I c
 lt:∀ c,I c->c<w.heap.size
 qC:∀ t t' z p n m new br ck bm cK,g t=some (.bC z p n m new)->g t'=some (.bC br p ck bm cK)->t=t'
 hd:cw.q w I
section
variable {w:World}{I:a6}{T:Array Value}{g:aG}{Fs:Nat->a6}
theorem cB.part (h:cB w I T g Fs) {p:Place}{y:ab}(av:bu g p=some y) (ai:∀ z q n m new,y≠.bC z q n m new):∃ v cp,dN w T p=some v/\R w I (dO w T g) y v cp/\(∀ c,cp c->Fs p.root c):=by
 unfold bu at av;cases j:g p.root with
 | none=>rw [j] at av; cases av
 | some x =>
  rw [j] at av;obtain ⟨v,hv,aV⟩:=h.rel _ _ j;replace aV:=aV.fS (by
   rintro z q n m new rfl;exact ai _ _ _ _ _ (ab.s9 av).2)
  obtain ⟨hX,cp,hw,dA,di,_⟩:=R.focus p.path aV av;exact ⟨hX,cp,by simp [dN,hv,hw],dA,di⟩
theorem R.pX {ρ:ab->Value->Prop}{z n:Nat}{cs:List ab}{v:Value}{F:a6}(h:R w I ρ (.own z n cs) v F):∀ c,v.ownBlock=some c->F c:=by
 cases h with
 | own aM ah h1 aj aO au aE=>exact λc J=>(aE c).2 (.inl J)
 | ref j=>simp [ab.isRef] at j
theorem R.mE {ρ:ab->Value->Prop}{z n:Nat}{cs:List ab}{v:Value}{F:a6}(h:R w I ρ (.own z n cs) v F) :
  ∃ a cap,v=.slice a n cap/\n<=cap/\cs.length=n * z/\(∀ ad,a=some ad->ad.off=0/\ad.spot=none)/\(0<n->a.isSome=true):=by
 cases h with
 | own aM ah h1 aj aO au aE =>
  obtain ⟨h1,af⟩:=aM;rcases af with ⟨rfl,rfl⟩ | ⟨b,cap,cur,rfl,_,_,az,_⟩
  ·exact ⟨none,0,rfl,Nat.le_refl _,by simp [ah,h1],by simp,by simp⟩
  ·exact ⟨_,cap,rfl,az,by simp [ah,h1],by rintro ad ⟨⟩; exact ⟨rfl,rfl⟩,by simp⟩
 | ref j=>simp [ab.isRef] at j
theorem cB.xO (h:cB w I T g Fs) {w':World}{T':Array Value}(dn:∀ t,g t≠none->T'[t]?=T[t]?) (aE:∀ t c,Fs t c->w'.heap[c]?=w.heap[c]?) {p:Place}{y:ab}(av:bu g p=some y) :
  dN w' T' p=dN w T p:=by
 unfold bu at av;cases j:g p.root with
 | none=>rw [j] at av; cases av
 | some x =>
  rw [j] at av;obtain ⟨v,hv,aV⟩:=h.rel _ _ j;have iD:T'[p.root]?=some v:=by rw [dn _ (by rw [j]; simp),hv]
  cases aV with
  | tree aV =>
   have:=R.o8 (w':=w') p.path aV av λc J=>aE _ c J;simp [dN,hv,iD,this]
  | bC aV=>simp [dN,hv,iD,(ab.s9 av).1,walk]
theorem kq {g g':aG}(aI:∀ t x,g t=some x->g' t=some x) {p:Place}{y:ab}(av:bu g p=some y):bu g' p=some y:=by
 unfold bu at *;cases j:g p.root with
 | none=>rw [j] at av; cases av
 | some x=>rw [j] at av; rw [aI _ _ j]; exact av
theorem gG.mono {g g':aG}(aI:∀ t x,g t=some x->g' t=some x) {r:ab}(h:gG g r):gG g' r:=by
 cases r <;> simp only [gG] at h ⊢
 case ptr p k=>obtain ⟨y,ai,h⟩:=h; exact ⟨y,kq aI ai,h⟩
 case bn z p n =>
  rcases h with ⟨N,cs,h1,af⟩ | ⟨aH,q,gr,m,new,h1,af⟩
  ·exact .inl ⟨N,cs,kq aI h1,af⟩
  ·exact .inr ⟨aH,q,gr,m,new,aI _ _ h1,af⟩
 case sub z p lo n=>obtain ⟨N,cs,h1,af⟩:=h; exact ⟨N,cs,kq aI h1,af⟩
 case bC z p n m new =>
  rcases h with ⟨cs,h1⟩ | ⟨aH,q,gr,bm,cK,cs,h1,af,aJ⟩
  ·exact .inl ⟨cs,kq aI h1⟩
  ·exact .inr ⟨aH,q,gr,bm,cK,cs,aI _ _ h1,af,kq aI aJ⟩
 case ha p=>obtain ⟨q,h⟩:=h; exact ⟨q,kq aI h⟩
theorem cB.FJ (h:cB w I T g Fs) {w':World}{T':Array Value}{g':aG}(dn:∀ t,g t≠none->T'[t]?=T[t]?) (aE:∀ t c,Fs t c->w'.heap[c]?=w.heap[c]?)
  (aI:∀ t x,g t=some x->g' t=some x) {r:ab}{v:Value}(aj:dO w T g r v):dO w' T' g' r v:=by
 obtain ⟨h1,af⟩:=aj;refine ⟨?_,af.mono aI⟩;have slot:∀ {p:Place}{x:ab},p.path=[]->g p.root=some x->dN w' T' p=dN w T p:=by
  intro p x av j;obtain ⟨v,hv,_⟩:=h.rel _ _ j;simp [dN,av,walk,dn p.root (by rw [j]; simp)]
 cases r <;> simp only [fL,gG] at h1 af ⊢
 case ptr p k =>
  obtain ⟨y,ai,_⟩:=af;rw [h.xO dn aE ai]; exact h1
 case bn z p n =>
  rcases af with ⟨N,cs,af,_⟩ | ⟨aH,q,gr,m,new,af,_⟩
  ·rw [h.xO dn aE af]; exact h1
  ·rw [slot aH af]; exact h1
 case sub z p lo n =>
  obtain ⟨N,cs,af,_⟩:=af;rw [h.xO dn aE af]; exact h1
 case bC z p n m new =>
  rcases af with ⟨cs,af⟩ | ⟨aH,q,gr,bm,cK,cs,af,_⟩
  ·rw [h.xO dn aE af]; exact h1
  ·rw [slot aH af]; exact h1
 case ha p =>
  obtain ⟨q,af⟩:=af;rw [h.xO dn aE af]; exact h1
theorem cB.D1 (h:cB w I T g Fs) {z n:Nat}{p:Place}{bv:Value}(aj:dO w T g (.bC z p n 0 []) bv):∀ c,bv.ownBlock=some c->∃ t,Fs t c:=by
 obtain ⟨⟨a,cap,h1,rfl⟩,af⟩:=aj;intro c J;have own:∀ {q:Place}{gr:Nat}{cs:List ab}{v:Value},bu g q=some (.own z gr cs)->dN w T q=some v->v.ownBlock=some c->∃ t,Fs t c:=by
  intro q gr cs v ba hv J;obtain ⟨dJ,cp,iD,aV,di⟩:=h.part ba (by simp);rw [hv] at iD;cases iD;exact ⟨_,di c (aV.pX c J)⟩
 rcases af with ⟨cs,af⟩ | ⟨aH,q,gr,m,new,cs,af,rfl,aJ⟩
 ·exact own af h1 J
 ·obtain ⟨v,hv,aV⟩:=h.rel _ _ af;have rm:v=.slice a (gr+m) cap:=by
   simp only [dN,hv,aH,walk,Option.some.injEq] at h1;exact h1
  obtain ⟨Mj,e,b7,us,news,aV⟩:=aV.vd;by_cases gh:Mj.ownBlock=some c
  ·obtain ⟨⟨a2,q0,bo,rfl⟩,_⟩:=aV.j_;exact own aJ bo gh
  ·exact ⟨_,(aV.aE c).2 ⟨by rw [rm]; exact J,gh⟩⟩
theorem cB.frame (h:cB w I T g Fs) {w':World}{I':a6}{T':Array Value}{g':aG}(dn:∀ t,g t≠none->T'[t]?=T[t]?) (aE:∀ t c,Fs t c->w'.heap[c]?=w.heap[c]?)
  (bb:∀ c,I c->w'.heap[c]?=w.heap[c]?) (nC:∀ c,I c->I' c) (aI:∀ t x,g t=some x->g' t=some x) {x:ab}{v:Value}{F:a6}(aV:R w I (dO w T g) x v F)
  (lD:∀ c,F c->w'.heap[c]?=w.heap[c]?):R w' I' (dO w' T' g') x v F :=
 aV.frame bb nC (λ_ _ aj=>h.FJ dn aE aI aj) lD
theorem cB.wj (h:cB w I T g Fs) {w':World}{I':a6}{T':Array Value}{g':aG}(dn:∀ t,g t≠none->T'[t]?=T[t]?) (aE:∀ t c,Fs t c->w'.heap[c]?=w.heap[c]?)
  (bb:∀ c,I c->w'.heap[c]?=w.heap[c]?) (nC:∀ c,I c->I' c) (aI:∀ t x,g t=some x->g' t=some x) {x:ab}{v:Value}{F:a6}(aV:jb w I (dO w T g) x v F)
  (lD:∀ c,F c->w'.heap[c]?=w.heap[c]?):jb w' I' (dO w' T' g') x v F :=
 aV.frame bb nC (λ_ _ aj=>h.FJ dn aE aI aj) (λ_ _ _ _ aj c J=>by obtain ⟨t,ak⟩:=h.D1 aj c J; exact aE t c ak) lD
def cH (g:aG) (d:Nat) (x:ab):aG:=λt=>if t=d then some x else g t
def tW (Fs:Nat->a6) (d:Nat) (F:a6):Nat->a6:=λt=>if t=d then F else Fs t
theorem Qy {d:Nat}{x:ab}(aO:g d=none):∀ t y,g t=some y->cH g d x t=some y:=by
 intro t y ai;unfold cH;split
 ·rename_i h; subst h; rw [aO] at ai; cases ai
 ·exact ai
end
end Go.Own
namespace Go.Own
open Go
set_option linter.unusedSectionVars false
variable [cw]
theorem QB (w:World):∀ (p:List Nat) (v:Value) (k:Nat),walk w v (p++[k])=(walk w v p).bind λu=>child w u k
 | [],v,k=>by simp [walk]; cases child w v k <;> rfl
 | aa::p,v,k=>by
  simp only [List.cons_append,walk];cases child w v aa with
  | none=>rfl
  | some u=>exact QB w p u k
theorem L8:∀ (p:List Nat) (x:ab) (k:Nat),x.at (p++[k])=(x.at p).bind λy=>y.kids[k]?
 | [],x,k=>by simp [ab.at]; cases x.kids[k]? <;> rfl
 | aa::p,x,k=>by
  simp only [List.cons_append,ab.at];cases x.kids[aa]? with
  | none=>rfl
  | some u=>exact L8 p u k
theorem s8 (g:aG) (p:Place) (k:Nat):bu g (p.push k)=(bu g p).bind λy=>y.kids[k]?:=by
 unfold bu Place.push;cases g p.root with
 | none=>rfl
 | some x=>simp [L8]
theorem xN (w:World) (T:Array Value) (p:Place) (k:Nat):dN w T (p.push k)=(dN w T p).bind λu=>child w u k:=by
 unfold dN Place.push;cases T[p.root]? with
 | none=>rfl
 | some x=>simp [QB]
def fA:Nat->Place->ab->ab
 | _,p,.own z n _=>.bn z p n
 | _,p,.obj (_::_)=>.ptr p 0
 | _,_,.obj []=>.dead
 | _,_,.bC ..=>.dead
 | _,_,.self _=>.dead
 | _,_,.dv ..=>.dead
 | _,p,.mp _=>.ha p
 | d+1,p,.agg cs=>.agg (cs.mapIdx λi x=>fA d (p.push i) x)
 | d+1,p,.bN cs=>.bN (cs.mapIdx λi x=>fA d (p.push i) x)
 | 0,_,.agg _=>.dead
 | 0,_,.bN _=>.dead
 | _,_,x=>x
def ou (t:Nat):ab->ab
 | .bC z _ n m _=>.bn z ⟨t,[]⟩ (n+m)
 | x=>fA 2 ⟨t,[]⟩ x
def j0:Value->ab
 | .slice none 0 0=>.bf
 | .agg _=>.dead
 | .tuple _=>.dead
 | v=>.lit v
def ofConst:Value->ab
 | .agg vs=>if vs.all Value.oneCell' then .agg (vs.toList.map j0) else .dead
 | .tuple _=>.dead
 | v=>j0 v
def bj (g:aG):Operand->Option ab
 | .tmp t=>(g t).map (ou t)
 | .const v=>some (ofConst v)
 | .func f=>some (.c7 (.func f) [] [])
 | .global _=>none
theorem YJ {d:Nat}{p:Place}{x:ab}{aa:Nat × Nat}:fA d p x≠.self aa:=by
 cases x with
 | obj cs=>cases d <;> cases cs <;> simp [fA]
 | _=>cases d <;> simp [fA]
theorem YK {t:Nat}{x:ab}:r0 (ou t x):=by
 intro cs h k aa hk;cases x with
 | obj cs=>cases cs <;> simp [ou,fA] at h
 | agg l =>
  simp only [ou,fA,ab.agg.injEq] at h;subst h;rw [List.getElem?_mapIdx] at hk;cases j:l[k]? with
  | none=>rw [j] at hk; cases hk
  | some x=>rw [j] at hk; simp only [Option.map_some,Option.some.injEq] at hk; exact YJ hk
 | _=>simp [ou,fA] at h
theorem X5 (v:Value) (aa:Nat × Nat):j0 v≠.self aa:=by
 unfold j0; split <;> simp
theorem Pf (vs:List Value):qS (vs.map j0):=λk aa=>by
 rw [List.getElem?_map];cases vs[k]? with
 | none=>simp
 | some v=>simp [X5]
theorem Kg {g:aG}{o:Operand}{x:ab}(h:bj g o=some x):r0 x:=by
 cases o with
 | tmp t =>
  simp only [bj] at h;cases ak:g t with
  | none=>rw [ak] at h; cases h
  | some y=>rw [ak] at h; simp only [Option.map_some,Option.some.injEq] at h; exact h ▸ YK
 | const v =>
  simp only [bj,Option.some.injEq] at h;subst h;intro cs h;unfold ofConst at h
  split at h
  ·split at h
   ·cases h; exact Pf _
   ·cases h
  ·cases h
  ·unfold j0 at h; split at h <;> cases h
 | func f=>simp only [bj,Option.some.injEq] at h; subst h; intro cs h; cases h
 | global n=>cases h
abbrev cb:a6:=λ_=>False
section
variable {w:World}{I:a6}{T:Array Value}{g:aG}{Fs:Nat->a6}
theorem R.empty {ρ:ab->Value->Prop}{x:ab}{v:Value}{F:a6}(h:R w I ρ x v F) (aE:∀ c,¬ F c):R w I ρ x v cb:=h.te λc=>⟨λJ=>aE c J,λJ=>J.elim⟩
theorem FI:∀ (d:Nat) {p:Place}{x:ab}{v:Value}{F:a6},bu g p=some x->dN w T p=some v->R w I (dO w T g) x v F->R w I (dO w T g) (fA d p x) v cb:=by
 intro d
 induction d with
 | zero =>
  intro p x v F av hv aV;cases aV with
  | lit ah aE=>exact .lit ah λ_ h=>h
  | bf aE=>exact .bf λ_ h=>h
  | dead aE=>exact .dead λ_ h=>h
  | j1 aE=>exact .dead λ_ h=>h
  | dv=>exact .dead λ_ h=>h
  | ref j aj aE=>cases x <;> simp [ab.isRef] at j <;> exact .ref rfl aj λ_ h=>h
  | mp=>exact .ref rfl ⟨⟨_,hv,rfl⟩,⟨_,av⟩⟩ λ_ h=>h
  | imp aE bb aM ba=>exact .imp (λ_ h=>h) bb aM ba
  | hj aE=>exact .hj λ_ h=>h
  | bc aE kv bb ax ah h1 J aj=>exact .bc (λ_ h=>h) kv bb ax ah h1 J aj
  | cJ aE bb ax h1 J aj=>exact .cJ (λ_ h=>h) bb ax h1 J aj
  | own aM ah h1 aj aO au aE =>
   have iW:=R.own (I:=I) (ρ:=dO w T g) aM ah h1 aj aO au aE;obtain ⟨a,cap,rfl,az,_⟩:=iW.mE;exact .ref rfl ⟨⟨a,_,cap,hv,rfl,Nat.le_refl _⟩,.inl ⟨_,_,av,Nat.le_refl _⟩⟩ λ_ h=>h
  | @obj cs b e arr bY _ aM ah h1 aj aO au aE =>
   cases cs with
   | nil=>exact .dead λ_ h=>h
   | cons c cs=>exact .ref rfl ⟨⟨_,_,hv,rfl,rfl⟩,⟨_,av,0,0,_,.inr rfl,by simp⟩⟩ λ_ h=>h
  | agg=>exact .dead λ_ h=>h
  | bN=>exact .dead λ_ h=>h
  | c7 aE h1 af iX hU=>exact .c7 (λ_ h=>h) h1 af iX hU
 | succ d aK =>
  intro p x v F av hv aV;cases aV with
  | lit ah aE=>exact .lit ah λ_ h=>h
  | bf aE=>exact .bf λ_ h=>h
  | dead aE=>exact .dead λ_ h=>h
  | j1 aE=>exact .dead λ_ h=>h
  | dv=>exact .dead λ_ h=>h
  | ref j aj aE=>cases x <;> simp [ab.isRef] at j <;> exact .ref rfl aj λ_ h=>h
  | mp=>exact .ref rfl ⟨⟨_,hv,rfl⟩,⟨_,av⟩⟩ λ_ h=>h
  | imp aE bb aM ba=>exact .imp (λ_ h=>h) bb aM ba
  | hj aE=>exact .hj λ_ h=>h
  | bc aE kv bb ax ah h1 J aj=>exact .bc (λ_ h=>h) kv bb ax ah h1 J aj
  | cJ aE bb ax h1 J aj=>exact .cJ (λ_ h=>h) bb ax h1 J aj
  | own aM ah h1 aj aO au aE =>
   have iW:=R.own (I:=I) (ρ:=dO w T g) aM ah h1 aj aO au aE;obtain ⟨a,cap,rfl,az,_⟩:=iW.mE;exact .ref rfl ⟨⟨a,_,cap,hv,rfl,Nat.le_refl _⟩,.inl ⟨_,_,av,Nat.le_refl _⟩⟩ λ_ h=>h
  | @obj cs b e arr bY _ aM ah h1 aj aO au aE =>
   cases cs with
   | nil=>exact .dead λ_ h=>h
   | cons c cs=>exact .ref rfl ⟨⟨_,_,hv,rfl,rfl⟩,⟨_,av,0,0,_,.inr rfl,by simp⟩⟩ λ_ h=>h
  | @agg cs vs bY _ ah h1 aj aO aE =>
   refine .agg (Fs:=λ_=>cb) (by simpa using ah) h1 ?_ (λ_ _ _ _ _ h=>h.elim) (λc=>⟨λh=>h.elim,λ⟨_,_,h⟩=>h⟩);intro k y u ai hu;rw [List.getElem?_mapIdx] at ai;cases hk:cs[k]? with
   | none=>rw [hk] at ai; cases ai
   | some z =>
    rw [hk] at ai;cases ai;exact aK (by rw [s8,av]; exact hk) (by rw [xN,hv]; exact hu) (aj k z u hk hu)
  | @bN cs vs bY _ ah aj aO aE =>
   refine .bN (Fs:=λ_=>cb) (by simpa using ah) ?_ (λ_ _ _ _ _ h=>h.elim) (λc=>⟨λh=>h.elim,λ⟨_,_,h⟩=>h⟩);intro k y u ai hu;rw [List.getElem?_mapIdx] at ai;cases hk:cs[k]? with
   | none=>rw [hk] at ai; cases ai
   | some z =>
    rw [hk] at ai;cases ai;exact aK (by rw [s8,av]; exact hk) (by rw [xN,hv]; exact hu) (aj k z u hk hu)
  | c7 aE h1 af iX hU=>exact .c7 (λ_ h=>h) h1 af iX hU
theorem Cq {ρ:ab->Value->Prop}(v:Value):R w I ρ (j0 v) v cb:=by
 unfold j0;split
 ·exact .bf λ_ h=>h
 ·exact .dead λ_ h=>h
 ·exact .dead λ_ h=>h
 ·rename_i h1 af aJ;refine .lit ?_ λ_ h=>h;cases v <;> first | rfl | (exact absurd rfl (af _)) | (exact absurd rfl (aJ _))
theorem X7 {ρ:ab->Value->Prop}(v:Value):R w I ρ (ofConst v) v cb:=by
 unfold ofConst;split
 ·rename_i vs;split
  ·rename_i fN;refine .agg (Fs:=λ_=>cb) (by simp) (λk u hu=>?_) ?_ (λ_ _ _ _ _ h=>h.elim) (λc=>⟨λh=>h.elim,λ⟨_,_,h⟩=>h⟩)
   ·exact Array.all_eq_true_iff_forall_mem.1 fN u (Array.mem_of_getElem? hu)
   ·intro k x u j hu;simp only [List.getElem?_map,Array.getElem?_toList,hu,Option.map_some,Option.some.injEq] at j;subst j;exact Cq u
  ·exact .dead λ_ h=>h
 ·exact .dead λ_ h=>h
 ·exact Cq v
theorem kB (h:cB w I T g Fs) {x:Operand}{y:ab}(ai:bj g x=some y) {a:Act}(aQ:a.tmps=T):R w I (dO w T g) y (a.eval x) cb:=by
 cases x with
 | tmp t =>
  simp only [bj] at ai;cases j:g t with
  | none=>rw [j] at ai; cases ai
  | some z =>
   rw [j] at ai;simp only [Option.map_some,Option.some.injEq] at ai;obtain ⟨v,hv,aV⟩:=h.rel t z j;have tv:a.eval (.tmp t)=v:=by simp [Act.eval,aQ,hv]
   rw [tv];have av:bu g ⟨t,[]⟩=some z:=by simp [bu,j,ab.at]
   have y3:dN w T ⟨t,[]⟩=some v:=by simp [dN,hv,walk]
   subst ai;cases aV with
   | tree aV =>
    cases z with
    | bC=>exact aV.kU.elim
    | _=>exact FI 2 av y3 aV
   | @bC pa n m p new v bv e b7 us news _ aV =>
    simp only [ou];have:∃ a cap,v=.slice a (n+m) cap:=by
     obtain ⟨_,af⟩:=aV.m';rcases af with ⟨af,aJ⟩ | ⟨b,cap,cur,af,_⟩
     ·exact ⟨none,0,by rw [af]; congr 1; omega⟩
     ·exact ⟨_,cap,af⟩
    obtain ⟨b3,cap,rfl⟩:=this;exact .ref rfl ⟨⟨b3,_,cap,y3,rfl,Nat.le_refl _⟩,.inr ⟨rfl,p,n,m,new,j,rfl⟩⟩ λ_ h=>h
 | const v=>simp only [bj,Option.some.injEq] at ai; subst ai; exact X7 v
 | global n=>simp [bj] at ai
 | func f =>
  simp only [bj,Option.some.injEq] at ai;subst ai;exact .c7 (λ_ h=>h) rfl rfl (by simp) (by simp)
end
end Go.Own
namespace Go.Own
open Go
set_option linter.unusedSectionVars false
variable [cw]
def jw (P:Program) (t:TypeId):Bool :=
 match P.underlying t,P.info? t with
 | some (.struct _),_=>false
 | some (.array ..),_=>false
 | some _,some i=>i.size == 1
 | _,_=>false
def ia (P:Program) (t:TypeId) (k:Nat):Bool :=
 match P.underlying t,P.info? t with
 | some (.struct _),some i=>i.size == k
 | some (.array ..),some i=>i.size == k
 | _,_=>false
def e2 (P:Program) (t e:TypeId) (z:Nat):Bool :=
 match P.underlying t,P.info? e with
 | some (.slice bZ),some i=>bZ == e&&i.size == z
 | _,_=>false
def DY (P:Program) (t e:TypeId) (n z:Nat):Bool :=
 match P.underlying t,P.info? e with
 | some (.array ck bZ),some i=>ck == n&&bZ == e&&i.size == z
 | _,_=>false
def nQ (P:Program) (t:TypeId):Bool :=
 match P.underlying t with
 | some .string=>true
 | _=>false
def v8 (P:Program) (s d:TypeId):Bool :=
 match P.underlying s,P.underlying d with
 | some (.slice e),some .string=>match P.underlying e with
  | some (.int .u8)=>true
  | _=>false
 | _,_=>false
def iy (P:Program) (s:TypeId) (f off:Nat) (t:TypeId):Bool :=
 match P.underlying s with
 | some (.struct fs) =>
  match fs[f]? with
  | some fd=>fd.offset == off&&fd.type == t&&(match P.info? t with | some i=>i.size != 0 | none=>false)
  | none=>false
 | _=>false
section
variable {P:Program}{w:World}
theorem Hg {t:TypeId}(h:jw P t=true):(isAgg t).run P w=.ok false w/\(sizeOf t).run P w=.ok 1 w:=by
 unfold jw at h;cases hu:P.underlying t with
 | none=>simp [hu] at h
 | some d =>
  cases hi:P.info? t with
  | none=>cases d <;> simp [hu,hi] at h
  | some i=>cases d <;> simp [hu,hi] at h <;> simp [isAgg,run_underlying hu,sizeOf,typeInfo,hi,h]
theorem DS {t:TypeId}{k:Nat}(h:ia P t k=true):(isAgg t).run P w=.ok true w/\(sizeOf t).run P w=.ok k w:=by
 unfold ia at h;cases hu:P.underlying t with
 | none=>simp [hu] at h
 | some d =>
  cases hi:P.info? t with
  | none=>cases d <;> simp [hu,hi] at h
  | some i=>cases d <;> simp [hu,hi] at h <;> simp [isAgg,run_underlying hu,sizeOf,typeInfo,hi,h]
theorem p5 {t e:TypeId}{z:Nat}(h:e2 P t e z=true):P.underlying t=some (.slice e)/\P.elem t=e/\(sizeOf e).run P w=.ok z w:=by
 unfold e2 at h;cases hu:P.underlying t with
 | none=>simp [hu] at h
 | some d =>
  cases hi:P.info? e with
  | none=>cases d <;> simp [hu,hi] at h
  | some i =>
   cases d <;> simp [hu,hi] at h;obtain ⟨rfl,h⟩:=h;exact ⟨rfl,by simp [Program.elem,hu],by simp [sizeOf,typeInfo,hi,h]⟩
theorem L1 {t e:TypeId}{n z:Nat}(h:DY P t e n z=true):P.underlying t=some (.array n e)/\(sizeOf e).run P w=.ok z w:=by
 unfold DY at h;cases hu:P.underlying t with
 | none=>simp [hu] at h
 | some d =>
  cases hi:P.info? e with
  | none=>cases d <;> simp [hu,hi] at h
  | some i =>
   cases d <;> simp [hu,hi] at h;obtain ⟨⟨rfl,rfl⟩,h⟩:=h;exact ⟨rfl,by simp [sizeOf,typeInfo,hi,h]⟩
theorem Ml {s d:TypeId}(h:v8 P s d=true):∃ e,P.underlying s=some (.slice e)/\P.underlying e=some (.int .u8)/\P.underlying d=some .string:=by
 unfold v8 at h
 split at h
 ·rename_i e h1 af
  split at h
  ·rename_i aJ;exact ⟨e,h1,aJ,af⟩
  ·cases h
 ·cases h
theorem KP {t:TypeId}(h:nQ P t=true):P.underlying t=some .string:=by
 unfold nQ at h;cases hu:P.underlying t with
 | none=>simp [hu] at h
 | some d=>cases d <;> simp [hu] at h; rfl
theorem HB {s:TypeId}{f off:Nat}{t:TypeId}(h:iy P s f off t=true):∃ fs fd,P.underlying s=some (.struct fs)/\fs[f]?=some fd/\fd.offset=off/\fd.type=t/\∃ i,P.info? t=some i/\i.size≠0:=by
 unfold iy at h;cases hu:P.underlying s with
 | none=>simp [hu] at h
 | some d =>
  cases d <;> simp [hu] at h;rename_i fs;cases aU:fs[f]? with
  | none=>simp [aU] at h
  | some fd =>
   simp [aU] at h;obtain ⟨⟨h1,af⟩,aJ⟩:=h;cases hi:P.info? t with
   | none=>simp [hi] at aJ
   | some i=>simp [hi] at aJ; exact ⟨fs,fd,rfl,aU,h1,af,i,rfl,aJ⟩
theorem add_eq (b o k:Nat):(⟨b,o,none⟩:Addr).add k=⟨b,o+k,none⟩:=by
 unfold Addr.add;split
 ·rename_i h; subst h; rfl
 ·rfl
theorem PO {s:TypeId}{f off:Nat}{t:TypeId}(h:iy P s f off t=true) (b o:Nat):(Instr.fieldAt s (.pointer (some ⟨b,o,none⟩)) f).run P w=.ok (.pointer (some ⟨b,o+off,none⟩)) w:=by
 obtain ⟨fs,fd,hu,aU,rfl,rfl,i,hi,aH⟩:=HB h;simp [Instr.fieldAt,run_underlying hu,aU,Instr.sureAddr,fieldPlace,sizeOf,typeInfo,hi,aH,add_eq]
theorem PR {t:TypeId}(h:jw P t=true) {a:Addr}{v:Value}(J:w.cell? a=some v):(Instr.loadAt t (.pointer (some a))).run P w=.ok v w:=by
 obtain ⟨h1,af⟩:=Hg (w:=w) h;simp [Instr.loadAt,Instr.sureAddr,loadVar,h1,J]
theorem PQ {t:TypeId}{k:Nat}(h:ia P t k=true) {b o:Nat}{vs:List Value}(ah:vs.length=k) (J:∀ aa v,vs[aa]?=some v->w.cell? ⟨b,o+aa,none⟩=some v) :
  (Instr.loadAt t (.pointer (some ⟨b,o,none⟩))).run P w=.ok (.agg vs.toArray) w:=by
 obtain ⟨h1,af⟩:=DS (w:=w) h;have:=run_loadCells_list (P:=P) w ⟨b,o,none⟩ vs (λaa v ag=>by rw [add_eq]; exact J aa v ag);rw [ah] at this;simp [Instr.loadAt,Instr.sureAddr,loadVar,h1,af,this]
end
end Go.Own
namespace Go.Own
open Go
set_option linter.unusedSectionVars false
variable [cw]
section
variable {w:World}{I:a6}{ρ:ab->Value->Prop}{v:Value}{F:a6}
theorem R.gK {a:Value}(h:R w I ρ (.lit a) v F):v=a/\a.oneCell'=true:=by
 cases h with
 | lit hv=>exact ⟨rfl,hv⟩
 | ref j=>simp [ab.isRef] at j
theorem R.pT (h:R w I ρ .bf v F):v=.slice none 0 0:=by
 cases h with
 | bf=>rfl
 | ref j=>simp [ab.isRef] at j
theorem R.mC {p:Place}{k:Nat}(h:R w I ρ (.ptr p k) v F):ρ (.ptr p k) v:=by
 cases h with
 | ref j h=>exact h
theorem R.mB {z:Nat}{p:Place}{n:Nat}(h:R w I ρ (.bn z p n) v F):ρ (.bn z p n) v:=by
 cases h with
 | ref j h=>exact h
theorem R.wZ {z:Nat}{p:Place}{lo n:Nat}(h:R w I ρ (.sub z p lo n) v F):ρ (.sub z p lo n) v:=by
 cases h with
 | ref j h=>exact h
theorem R.y4 {z n:Nat}{cs:List ab}(h:R w I ρ (.bc z n cs) v F):∃ a cap,v=.slice a n cap/\n<=cap/\cs.length=n * z /\
  (cs≠[]\/0<n->∃ (ad:Addr) (us:Nat->Value),a=some ad/\I ad.block/\ad.spot=none/\(∀ (k:Nat) (x:ab),cs[k]?=some x->(us k).oneCell'=true)/\(∀ (k:Nat) (x:ab),cs[k]?=some x->w.cell? ⟨ad.block,ad.off+k,none⟩=some (us k))/\∀ (k:Nat) (x:ab),cs[k]?=some x->R w I ρ x (us k) cb):=by
 cases h with
 | @hj _ cap a=>exact ⟨a,cap,rfl,Nat.zero_le _,by simp,λh=>by simp at h⟩
 | @bc _ _ cap _ ad us _ aE kv bb ax ah h1 J aj=>exact ⟨_,cap,rfl,kv,ah,λ_=>⟨ad,us,rfl,bb,ax,h1,J,aj⟩⟩
 | ref j=>simp [ab.isRef] at j
theorem R.wY {cs:List ab}(h:R w I ρ (.cJ cs) v F):∃ (ad:Addr) (us:Nat->Value),v=.pointer (some ad)/\I ad.block/\ad.spot=none/\(∀ (k:Nat) (x:ab),cs[k]?=some x->(us k).oneCell'=true)/\(∀ (k:Nat) (x:ab),cs[k]?=some x->w.cell? ⟨ad.block,ad.off+k,none⟩=some (us k))/\∀ (k:Nat) (x:ab),cs[k]?=some x->R w I ρ x (us k) cb:=by
 cases h with
 | @cJ _ ad us _ aE bb ax h1 J aj=>exact ⟨ad,us,rfl,bb,ax,h1,J,aj⟩
 | ref j=>simp [ab.isRef] at j
theorem R.B4 {cs:List ab}(h:R w I ρ (.agg cs) v F) (aE:∀ c,¬ F c):∃ vs:Array Value,v=.agg vs/\cs.length=vs.size/\(∀ (k:Nat) (u:Value),vs[k]?=some u->u.oneCell'=true)/\∀ (k:Nat) (x:ab) (u:Value),cs[k]?=some x->vs[k]?=some u->R w I ρ x u cb:=by
 cases h with
 | @agg _ vs Fs _ ah h1 aj aO oP=>exact ⟨vs,rfl,ah,h1,λk x u j hu=>(aj k x u j hu).empty λc J=>aE c ((oP c).2 ⟨k,(List.getElem?_eq_some_iff.1 j).1,J⟩)⟩
 | ref j=>simp [ab.isRef] at j
theorem R.Xx {cs:List ab}(h:R w I ρ (.bN cs) v F) (aE:∀ c,¬ F c):∃ vs:Array Value,v=.tuple vs/\cs.length=vs.size/\∀ (k:Nat) (x:ab) (u:Value),cs[k]?=some x->vs[k]?=some u->R w I ρ x u cb:=by
 cases h with
 | @bN _ vs Fs _ ah aj aO oP=>exact ⟨vs,rfl,ah,λk x u j hu=>(aj k x u j hu).empty λc J=>aE c ((oP c).2 ⟨k,(List.getElem?_eq_some_iff.1 j).1,J⟩)⟩
 | ref j=>simp [ab.isRef] at j
theorem R.node {y:ab}{z n:Nat}{cs:List ab}(h:R w I ρ y v F) (ai:y=.own z n cs\/y=.obj cs) {k:Nat}{x:ab}(hk:cs[k]?=some x) :
  ∃ b u,addrOf v=some ⟨b,0,none⟩/\w.cell? ⟨b,k,none⟩=some u/\child w v k=some u/\u.oneCell'=true/\∃ bK,R w I ρ x u bK:=by
 rcases ai with rfl | rfl
 ·cases h with
  | @own _ _ _ _ e us Fs _ aM ah h1 aj aO au aE =>
   have aN:k<cs.length:=(List.getElem?_eq_some_iff.1 hk).1;have hu:us[k]?=some us[k]:=List.getElem?_eq_getElem (ah ▸ aN);have mX:=ot aM hu;obtain ⟨ih,af⟩:=aM;rcases af with ⟨rfl,rfl⟩ | ⟨b,cap,cur,rfl,aI,bE,rest⟩
   ·grind
   ·exact ⟨b,_,rfl,by simpa [child] using mX,mX,h1 k _ hu,Fs k,aj k x _ hk hu⟩
  | ref j=>simp [ab.isRef] at j
 ·cases h with
  | @obj _ b e arr Fs _ aM ah h1 aj aO au aE =>
   have aN:k<cs.length:=(List.getElem?_eq_some_iff.1 hk).1;have hu:arr[k]?=some arr[k]:=Array.getElem?_eq_getElem (ah ▸ aN);exact ⟨b,_,rfl,by simp [World.cell?,aM,hu],by simp [child,World.cell?,aM,hu],h1 k _ hu,Fs k,aj k x _ hk hu⟩
  | ref j=>simp [ab.isRef] at j
end
def pb (g:aG) (d:Nat):Option Operand->Nat->Prop
 | none,aa=>aa=d
 | some o,aa=>∃ k,bj g o=some (.lit (.int k (aa:Int)))
inductive cS (P:Program) (g:aG):Op->TypeId->ab->Prop
 | move {x:Operand}{ty:TypeId}{y:ab}(j:bj g x=some y):cS P g (.move x) ty y
 | assign {x:Operand}{ty:TypeId}{y:ab}(j:bj g x=some y):cS P g (.assign x) ty y
 | pick {c a b:Operand}{ty:TypeId}{t:Bool}{r:ab}(J:bj g c=some (.lit (.bool t))) (aj:bj g (if t then a else b)=some r):cS P g (.pick c a b) ty r
 | Fl {x:Operand}{ty:TypeId}{p:Place}{k:Nat}(j:bj g x=some (.ptr p k)):cS P g (.nilCheck x) ty (.ptr p k)
 | pW {x:Operand}{ty:TypeId}{cs:List ab}(j:bj g x=some (.cJ cs)):cS P g (.nilCheck x) ty (.cJ cs)
 | AT {x:Operand}{ty s t:TypeId}{f off:Nat}{p:Place}{k:Nat}(j:bj g x=some (.ptr p k)) (aU:iy P s f off t=true) (dp:gG g (.ptr p (k+off))):cS P g (.fieldAddr s x f) ty (.ptr p (k+off))
 | Ek {x:Operand}{ty s t:TypeId}{f off:Nat}{cs:List ab}(j:bj g x=some (.cJ cs)) (aU:iy P s f off t=true):cS P g (.fieldAddr s x f) ty (.cJ (cs.drop off))
 | Ej {x:Operand}{ty s t:TypeId}{f off:Nat}{cs:List ab}{y:ab}(j:bj g x=some (.agg cs)) (aU:iy P s f off t=true) (ak:jw P t=true) (ai:cs[off]?=some y):cS P g (.field s x f) ty y
 | Hz {x:Operand}{ty s t:TypeId}{f off k:Nat}{cs:List ab}(j:bj g x=some (.agg cs)) (aU:iy P s f off t=true) (ak:ia P t k=true) (hk:off+k<=cs.length):cS P g (.field s x f) ty (.agg ((cs.drop off).take k))
 | EZ {x i:Operand}{ty t e:TypeId}{z n:Nat}{cs:List ab}{nf:IntKind}{aa:Nat}(j:bj g x=some (.bc z n cs)) (hi:bj g i=some (.lit (.int nf (aa:Int)))) (ak:e2 P t e z=true) (ag:aa<n):cS P g (.indexAddr t x i) ty (.cJ (cs.drop (aa * z)))
 | EY {x i:Operand}{ty t e:TypeId}{z n:Nat}{p:Place}{nf:IntKind}{aa:Nat}(j:bj g x=some (.bn z p n)) (hi:bj g i=some (.lit (.int nf (aa:Int)))) (ak:e2 P t e z=true) (ag:aa<n) (dp:gG g (.ptr p (aa * z))):cS P g (.indexAddr t x i) ty (.ptr p (aa * z))
 | Jy {x i:Operand}{ty t e:TypeId}{z lo n:Nat}{p:Place}{nf:IntKind}{aa:Nat}(j:bj g x=some (.sub z p lo n)) (hi:bj g i=some (.lit (.int nf (aa:Int)))) (ak:e2 P t e z=true) (ag:aa<n) (dp:gG g (.ptr p ((lo+aa) * z))):cS P g (.indexAddr t x i) ty (.ptr p ((lo+aa) * z))
 | Jx {x i:Operand}{ty t e:TypeId}{n z k:Nat}{p:Place}{nf:IntKind}{aa:Nat}(j:bj g x=some (.ptr p k)) (hi:bj g i=some (.lit (.int nf (aa:Int)))) (ak:DY P t e n z=true) (ag:aa<n) (dp:gG g (.ptr p (k+aa * z))):cS P g (.indexAddr t x i) ty (.ptr p (k+aa * z))
 | Jw {x i:Operand}{ty t e:TypeId}{n z:Nat}{cs:List ab}{nf:IntKind}{aa:Nat}(j:bj g x=some (.cJ cs)) (hi:bj g i=some (.lit (.int nf (aa:Int)))) (ak:DY P t e n z=true) (ag:aa<n):cS P g (.indexAddr t x i) ty (.cJ (cs.drop (aa * z)))
 | E' {x:Operand}{ty t:TypeId}{c:ab}{cs:List ab}(j:bj g x=some (.cJ (c::cs))) (ak:jw P t=true):cS P g (.load t x) ty c
 | Fa {x:Operand}{ty t:TypeId}{k:Nat}{cs:List ab}(j:bj g x=some (.cJ cs)) (ak:ia P t k=true) (hk:k<=cs.length):cS P g (.load t x) ty (.agg (cs.take k))
 | Ch {x:Operand}{ty t:TypeId}{p:Place}{k:Nat}{y:ab}(j:bj g x=some (.ptr p k)) (ak:jw P t=true) (ai:bu g (p.push k)=some y):cS P g (.load t x) ty (fA 0 (p.push k) y)
 | w9 {x:Operand}{ty t:TypeId}{p:Place}{k m z n:Nat}{y:ab}{cs:List ab}(j:bj g x=some (.ptr p k)) (ak:ia P t m=true) (ai:bu g p=some y) (J:y=.own z n cs\/y=.obj cs) (hm:k+m<=cs.length):cS P g (.load t x) ty (.agg (((cs.drop k).take m).mapIdx λi x=>fA 0 (p.push (k+i)) x))
 | E0 {x i:Operand}{ty t:TypeId}{s:ByteArray}{nf:IntKind}{aa:Nat}{b:UInt8}(j:bj g x=some (.lit (.string s))) (hi:bj g i=some (.lit (.int nf (aa:Int)))) (ak:nQ P t=true) (au:s[aa]?=some b):cS P g (.index t x i) ty (.lit (.int .u8 b.toNat))
 | bin {op:BinOp}{x y:Operand}{ty t t2:TypeId}{a b v:Value}(j:bj g x=some (.lit a)) (ai:bj g y=some (.lit b)) (hv:v.oneCell'=true) (aj:∀ w,(do eqGuard op t x y a b; binOp op t a b:Sem Value).run P w=.ok v w):cS P g (.binOp op t x y t2) ty (.lit v)
 | Aw {op:BinOp}{x y:Operand}{ty t t2:TypeId}{dK bs:List Value}{v:Value}(j:bj g x=some (.agg (dK.map .lit))) (ai:bj g y=some (.agg (bs.map .lit))) (hv:v.oneCell'=true) (aj:∀ w,(do eqGuard op t x y (.agg dK.toArray) (.agg bs.toArray); binOp op t (.agg dK.toArray) (.agg bs.toArray):Sem Value).run P w=.ok v w):cS P g (.binOp op t x y t2) ty (.lit v)
 | un {op:UnOp}{x:Operand}{ty t:TypeId}{a v:Value}(j:bj g x=some (.lit a)) (hv:v.oneCell'=true) (aj:∀ w,(Op.unary op a).run P w=.ok v w):cS P g (.unOp op t x) ty (.lit v)
 | conv {x:Operand}{ty s d:TypeId}{a v:Value}(j:bj g x=some (.lit a)) (hv:v.oneCell'=true) (aj:∀ w,(convert s d a).run P w=.ok v w):cS P g (.convert s d x) ty (.lit v)
 | D_ {x:Operand}{ty s d:TypeId}{n N:Nat}{p:Place}{cs:List ab}{xs:List Int}(j:bj g x=some (.bn 1 p n)) (av:bu g p=some (.own 1 N cs)) (az:n<=N) (gl:cs.take n=xs.map λb=>.lit (.int .u8 b)) (ak:v8 P s d=true):cS P g (.convert s d x) ty (.lit (.string (strOfNums xs)))
 | D' {x:Operand}{ty s d:TypeId}{n:Nat}{xs:List Int}(j:bj g x=some (.bc 1 n (xs.map λb=>.lit (.int .u8 b)))) (ak:v8 P s d=true):cS P g (.convert s d x) ty (.lit (.string (strOfNums xs)))
 | Ef {xs:Array Operand}{fI:Array TypeId}{ty:TypeId}{f:FuncId}{vs:List Value}{v:Value}(j:xs.toList.map (bj g)=vs.map λv=>some (.lit v)) (hv:v.oneCell'=true)
   (aj:∀ w,(callFunc f vs.toArray).run P w=.ok (.value v) w):cS P g (.call { callee:=.value (.func f),args:=xs,argTypes:=fI }) ty (.lit v)
 | Eg {x:Operand}{ty:TypeId}{i:Nat}{cs:List ab}{y:ab}(j:bj g x=some (.bN cs)) (ai:cs[i]?=some y):cS P g (.extract x i) ty y
 | zT {x:Operand}{lo hi:Option Operand}{ty t e:TypeId}{z n l h:Nat}{cs:List ab}(j:bj g x=some (.bc z n cs)) (ah:pb g 0 lo l) (bE:pb g n hi h) (ak:e2 P t e z=true) (sj:l<=h) (az:h<=n):cS P g (.slice t x lo hi none) ty (.bc z (h - l) ((cs.drop (l * z)).take ((h - l) * z)))
 | FX {x:Operand}{lo hi:Option Operand}{ty t e:TypeId}{z n h:Nat}{p:Place}(j:bj g x=some (.bn z p n)) (ah:pb g 0 lo 0) (bE:pb g n hi h) (ak:e2 P t e z=true) (az:h<=n) (dp:gG g (.bn z p h)):cS P g (.slice t x lo hi none) ty (.bn z p h)
 | FW {x:Operand}{lo hi:Option Operand}{ty t e:TypeId}{z n l h:Nat}{p:Place}(j:bj g x=some (.bn z p n)) (ah:pb g 0 lo l) (bE:pb g n hi h) (ak:e2 P t e z=true) (sj:l<=h) (az:h<=n) (dp:gG g (.sub z p l (h - l))):cS P g (.slice t x lo hi none) ty (.sub z p l (h - l))
 | zU {x:Operand}{lo hi:Option Operand}{ty t:TypeId}{l h:Nat}{s:ByteArray}(j:bj g x=some (.lit (.string s))) (ah:pb g 0 lo l) (bE:pb g s.size hi h) (ak:nQ P t=true) (sj:l<=h) (az:h<=s.size):cS P g (.slice t x lo hi none) ty (.lit (.string (s.extract l h)))
 | Ce {x:Operand}{ty t e:TypeId}{z br n:Nat}{cs:List ab}(j:bj g x=some (.bc z n cs)) (ak:e2 P t e br=true):cS P g (.call { callee:=.builtin .len,args:=#[x],argTypes:=#[t] }) ty (.lit (.int .i64 n))
 | Cd {x:Operand}{ty t e:TypeId}{z br n:Nat}{p:Place}(j:bj g x=some (.bn z p n)) (ak:e2 P t e br=true):cS P g (.call { callee:=.builtin .len,args:=#[x],argTypes:=#[t] }) ty (.lit (.int .i64 n))
 | JY {x:Operand}{ty t e:TypeId}{z br lo n:Nat}{p:Place}(j:bj g x=some (.sub z p lo n)) (ak:e2 P t e br=true):cS P g (.call { callee:=.builtin .len,args:=#[x],argTypes:=#[t] }) ty (.lit (.int .i64 n))
 | JX {x:Operand}{ty t e:TypeId}{br:Nat}(j:bj g x=some .bf) (ak:e2 P t e br=true):cS P g (.call { callee:=.builtin .len,args:=#[x],argTypes:=#[t] }) ty (.lit (.int .i64 0))
 | lits {b:Builtin}{xs:Array Operand}{fI:Array TypeId}{ty:TypeId}{vs:List Value}{v:Value}(j:xs.toList.map (bj g)=vs.map λv=>some (.lit v)) (hv:v.oneCell'=true)
   (aj:∀ w (cs:Array Bool),(builtin b fI ty cs vs.toArray).run P w=.ok (.value v) w):cS P g (.call { callee:=.builtin b,args:=xs,argTypes:=fI }) ty (.lit v)
 | JZ {x y:Operand}{ty t:TypeId}{p:Place}{q:Array MapEntry->Nat->Prop}{ok:Bool}{Y X:ab}{qw V:Value}(j:bj g x=some (.ha p)) (av:bu g p=some (.mp q)) (ai:bj g y=some Y)
   (dz:∀ (w:World) (I:a6) (ρ:ab->Value->Prop) (v:Value),R w I ρ Y v cb->v=qw) (aV:∀ (w:World) (I:a6) (ρ:ab->Value->Prop),R w I ρ X V cb)
   (aj:∀ (w:World) (b:Nat) (es:Array MapEntry) (clock:Nat),w.heap[b]?=some (.map es clock)->q es clock->(Instr.lookup t (.map (some b)) qw ok).run P w=.ok V w):cS P g (.lookup t x y ok) ty X
 | Cg {x y:Operand}{ty t:TypeId}{q:Array MapEntry->Nat->Prop}{ok:Bool}{Y X:ab}{qw V:Value}(j:bj g x=some (.imp q)) (ai:bj g y=some Y)
   (dz:∀ (w:World) (I:a6) (ρ:ab->Value->Prop) (v:Value),R w I ρ Y v cb->v=qw) (aV:∀ (w:World) (I:a6) (ρ:ab->Value->Prop),R w I ρ X V cb)
   (aj:∀ (w:World) (b:Nat) (es:Array MapEntry) (clock:Nat),w.heap[b]?=some (.map es clock)->q es clock->(Instr.lookup t (.map (some b)) qw ok).run P w=.ok V w):cS P g (.lookup t x y ok) ty X
theorem R.Xw {w:World}{I:a6}{ρ:ab->Value->Prop}{p:Place}{v:Value}{F:a6}(h:R w I ρ (.ha p) v F):ρ (.ha p) v:=by
 cases h with
 | ref _ h _=>exact h
theorem R.Xv {w:World}{I:a6}{ρ:ab->Value->Prop}{q:Array MapEntry->Nat->Prop}{v:Value}{F:a6}(h:R w I ρ (.mp q) v F):∃ b es clock,v=.map (some b)/\w.heap[b]?=some (.map es clock)/\q es clock/\∀ c,F c↔c=b:=by
 cases h with
 | ref j=>simp [ab.isRef] at j
 | mp aM ba aE=>exact ⟨_,_,_,rfl,aM,ba,aE⟩
theorem R.Xu {w:World}{I:a6}{ρ:ab->Value->Prop}{q:Array MapEntry->Nat->Prop}{v:Value}{F:a6}(h:R w I ρ (.imp q) v F):∃ b es clock,v=.map (some b)/\w.heap[b]?=some (.map es clock)/\q es clock:=by
 cases h with
 | ref j=>simp [ab.isRef] at j
 | imp _ _ aM ba=>exact ⟨_,_,_,rfl,aM,ba⟩
end Go.Own
namespace Go.Own
open Go
set_option linter.unusedSectionVars false
variable [cw]
section
variable {P:Program}{w:World}{I:a6}{T:Array Value}{g:aG}{Fs:Nat->a6}
theorem pb.sound (h:cB w I T g Fs) {d:Nat}{x:Option Operand}{aa:Nat}(au:pb g d x aa) {a:Act}(aQ:a.tmps=T):(x.map a.eval=none/\aa=d)\/∃ k,x.map a.eval=some (.int k (aa:Int)):=by
 cases x with
 | none=>exact .inl ⟨rfl,au⟩
 | some o =>
  obtain ⟨k,hk⟩:=au;exact .inr ⟨k,by rw [Option.map_some,(kB h hk aQ).gK.1]⟩
theorem FM {len cap l h:Nat}{lo hi:Option Value}(ah:(lo=none/\l=0)\/∃ k,lo=some (.int k (l:Int))) (bE:(hi=none/\h=len)\/∃ k,hi=some (.int k (h:Int))) (b:Bool) (sj:l<=h) (J:h<=cap) :
  (Instr.sliceBounds b len cap lo hi none).run P w=.ok (l,h,cap) w:=by
 rcases ah with ⟨rfl,rfl⟩ | ⟨k,rfl⟩ <;> rcases bE with ⟨rfl,rfl⟩ | ⟨kc,rfl⟩ <;> simp [Instr.sliceBounds,Instr.sliceBound,asIntOf,sj,J]
theorem OZ (h:cB w I T g Fs) {a:Act}(aQ:a.tmps=T):∀ (xs:List Operand) (vs:List Value),xs.map (bj g)=vs.map (λv=>some (.lit v))->xs.map a.eval=vs
 | [],[],_=>rfl
 | [],_::_,h=>by simp at h
 | _::_,[],h=>by simp at h
 | x::xs,v::vs,j=>by
  simp only [List.map_cons,List.cons.injEq] at j;rw [List.map_cons,(kB h j.1 aQ).gK.1,OZ h aQ xs vs j.2]
theorem LO {w:World}{I:a6}{ρ:ab->Value->Prop}{v:Value}{dK:List Value}
  (h:∃ vs:Array Value,v=.agg vs/\(dK.map ab.lit).length=vs.size/\(∀ (k:Nat) (u:Value),vs[k]?=some u->u.oneCell'=true)/\∀ (k:Nat) (x:ab) (u:Value),(dK.map ab.lit)[k]?=some x->vs[k]?=some u->R w I ρ x u cb):v=.agg dK.toArray:=by
 obtain ⟨vs,rfl,ah,-,aj⟩:=h;congr 1;apply Array.ext (by simpa using ah.symm);intro i h1 af;have aJ:i<dK.length:=by simpa using af
 have:=(aj i (.lit dK[i]) vs[i] (by simp [aJ]) (Array.getElem?_eq_getElem h1)).gK.1
 grind
theorem cS.sound (h:cB w I T g Fs) {a:Act}(aQ:a.tmps=T) {o:Oper}{kl:ab}(av:cS P g o.op o.type kl) :
  ∃ v,(execOp a.eval o).run P w=.ok (.value v) w/\R w I (dO w T g) kl v cb:=by
 obtain ⟨dst,op,ty,pos,after,guard⟩:=o;simp only at av;have fE:∀ {x:Operand}{y:ab},bj g x=some y->R w I (dO w T g) y (a.eval x) cb:=λai=>kB h ai aQ;have no:∀ c,¬ cb c:=λ_ h=>h;cases av with
 | move j=>exact ⟨_,by simp [execOp],fE j⟩
 | assign j=>exact ⟨_,by simp [execOp],fE j⟩
 | @pick c x y _ t r J aj =>
  have se:=(fE J).gK.1;refine ⟨_,?_,fE aj⟩;simp [execOp,se,asBool]
  grind
 | @Fl x _ p k j =>
  have aj:=fE j;obtain ⟨⟨u,ad,h1,af,aJ⟩,bo⟩:=aj.mC
  simp_all [execOp]
 | @pW x _ cs j =>
  have aj:=fE j;obtain ⟨ad,us,aJ,_⟩:=aj.wY
  simp_all [execOp]
 | @AT x _ s t f off p k j aU dp =>
  obtain ⟨⟨u,ad,h1,af,aJ⟩,bo⟩:=(fE j).mC;refine ⟨.pointer (some ⟨ad.block,ad.off+k+off,none⟩),by simp [execOp,aJ,PO aU],.ref rfl ⟨⟨u,ad,h1,af,by rw [Nat.add_assoc]⟩,dp⟩ no⟩
 | @Ek x _ s t f off cs j aU =>
  obtain ⟨ad,us,aJ,bb,ax,fy,J,aj⟩:=(fE j).wY;obtain ⟨b,o,sp⟩:=ad;simp only at ax;subst ax;refine ⟨.pointer (some ⟨b,o+off,none⟩),by simp [execOp,aJ,PO aU],.cJ (us:=λk=>us (off+k)) no bb rfl (λk x hk=>fy _ x (by rwa [List.getElem?_drop] at hk)) (λk x hk=>?_) λk x hk=>?_⟩
  ·grind
  grind
 | @Ej x _ s t f off cs y j aU ak ai =>
  obtain ⟨vs,aJ,ah,fy,aj⟩:=(fE j).B4 no;obtain ⟨fs,fd,hu,IG,rfl,rfl,i,hi,aH⟩:=HB aU;have hk:fd.offset<cs.length:=(List.getElem?_eq_some_iff.1 ai).1;have hv:vs[fd.offset]?=some vs[fd.offset]:=Array.getElem?_eq_getElem (ah ▸ hk);refine ⟨_,?_,aj _ kl _ ai hv⟩;simp [execOp,aJ,Instr.field,run_underlying hu,IG,asAgg,part,(Hg (w:=w) ak).1,hv]
 | @Hz x _ s t f off k cs j aU ak hk =>
  obtain ⟨vs,aJ,ah,fy,aj⟩:=(fE j).B4 no;obtain ⟨fs,fd,hu,IG,rfl,rfl,i,hi,aH⟩:=HB aU;refine ⟨.agg (vs.extract fd.offset (fd.offset+k)),?_,.agg (Fs:=λ_=>cb) (by simp [ah]; omega) (λaa u hy=>by
   rw [Array.getElem?_extract] at hy
   grind) (λaa y u ai hy=>?_) (λ_ _ _ _ _ h=>h.elim) (λc=>⟨λh=>h.elim,λ⟨_,_,h⟩=>h⟩)⟩
  ·simp [execOp,aJ,Instr.field,run_underlying hu,IG,asAgg,part,(DS (w:=w) ak).1,(DS (w:=w) ak).2]
  grind
 | @EZ x i _ t e z n cs nf aa j hi ak ag =>
  obtain ⟨hu,he,aS⟩:=p5 (w:=w) ak;obtain ⟨k6,cap,aJ,_,ah,hm⟩:=(fE j).y4;obtain ⟨ad,us,rfl,bb,ax,fy,J,aj⟩:=hm (.inr (by omega));obtain ⟨b,o,sp⟩:=ad;simp only at ax;subst ax;have sg:=(fE hi).gK.1;refine ⟨.pointer (some ⟨b,o+aa * z,none⟩),?_,.cJ (us:=λk=>us (aa * z+k)) no bb rfl (λk x hk=>fy _ x (by rwa [List.getElem?_drop] at hk)) (λk x hk=>?_) λk x hk=>?_⟩
  ·simp [execOp,aJ,sg,Instr.indexAt,run_underlying hu,asIntOf,ag,aS,add_eq]
  ·grind
  grind
 | @EY x i _ t e z n p nf aa j hi ak ag dp =>
  obtain ⟨hu,he,aS⟩:=p5 (w:=w) ak;obtain ⟨⟨k6,N,cap,h1,af,aJ⟩,bo⟩:=(fE j).mB;have sg:=(fE hi).gK.1;obtain ⟨y,ai,pa,c_,cs,ej,aN⟩:=dp;obtain ⟨v,cp,hv,dA,_⟩:=h.part ai (by rcases ej with rfl | rfl <;> simp);rw [h1] at hv;cases hv;obtain ⟨b,u,fr,jy,_,_⟩:=dA.node ej (List.getElem?_eq_getElem aN);cases k6 with
  | none=>simp [addrOf] at fr
  | some ad =>
   simp only [addrOf,Option.some.injEq] at fr;subst fr;refine ⟨.pointer (some ⟨b,aa * z,none⟩),?_,.ref rfl ⟨⟨_,_,h1,rfl,by simp⟩,y,ai,pa,c_,cs,ej,aN⟩ no⟩;simp [execOp,af,sg,Instr.indexAt,run_underlying hu,asIntOf,ag,aS,add_eq]
 | @Jy x i _ t e z lo n p nf aa j hi ak ag dp =>
  obtain ⟨hu,he,aS⟩:=p5 (w:=w) ak;obtain ⟨⟨k6,N,cap,b3,mj,h1,af,_,aJ,cu⟩,bo⟩:=(fE j).wZ;obtain ⟨ad,rfl,rfl⟩:=cu (by omega);have sg:=(fE hi).gK.1;obtain ⟨y,ai,pa,c_,cs,ej,aN⟩:=dp;obtain ⟨v,cp,hv,dA,_⟩:=h.part ai (by rcases ej with rfl | rfl <;> simp);rw [h1] at hv;cases hv;obtain ⟨b,u,fr,jy,_,_⟩:=dA.node ej (List.getElem?_eq_getElem aN);simp only [addrOf,Option.some.injEq] at fr;subst fr;refine ⟨.pointer (some ⟨b,(lo+aa) * z,none⟩),?_,.ref rfl ⟨⟨_,_,h1,rfl,by simp⟩,y,ai,pa,c_,cs,ej,aN⟩ no⟩;simp [execOp,af,sg,Instr.indexAt,run_underlying hu,asIntOf,ag,aS,add_eq,Nat.add_mul]
 | @Jx x i _ t e n z k p nf aa j hi ak ag dp =>
  obtain ⟨hu,aS⟩:=L1 (w:=w) ak;obtain ⟨⟨u,ad,h1,af,aJ⟩,bo⟩:=(fE j).mC;have sg:=(fE hi).gK.1;refine ⟨.pointer (some ⟨ad.block,ad.off+k+aa * z,none⟩),?_,.ref rfl ⟨⟨u,ad,h1,af,by rw [Nat.add_assoc]⟩,dp⟩ no⟩;simp [execOp,aJ,sg,Instr.indexAt,run_underlying hu,Instr.sureAddr,asIntOf,ag,aS,add_eq]
 | @Jw x i _ t e n z cs nf aa j hi ak ag =>
  obtain ⟨hu,aS⟩:=L1 (w:=w) ak;obtain ⟨ad,us,aJ,bb,ax,fy,J,aj⟩:=(fE j).wY;obtain ⟨b,o,sp⟩:=ad;simp only at ax;subst ax;have sg:=(fE hi).gK.1;refine ⟨.pointer (some ⟨b,o+aa * z,none⟩),?_,.cJ (us:=λk=>us (aa * z+k)) no bb rfl (λk x hk=>fy _ x (by rwa [List.getElem?_drop] at hk)) (λk x hk=>?_) λk x hk=>?_⟩
  ·simp [execOp,aJ,sg,Instr.indexAt,run_underlying hu,Instr.sureAddr,asIntOf,ag,aS,add_eq]
  ·grind
  grind
 | @E' x _ t c cs j ak =>
  obtain ⟨ad,us,aJ,bb,ax,fy,J,aj⟩:=(fE j).wY;obtain ⟨b,o,sp⟩:=ad;simp only at ax;subst ax;have aH:w.cell? ⟨b,o,none⟩=some (us 0):=by simpa using J 0 kl rfl
  simp_all [execOp,PR]
 | @Fa x _ t k cs j ak hk =>
  obtain ⟨ad,us,aJ,bb,ax,fy,J,aj⟩:=(fE j).wY;obtain ⟨b,o,sp⟩:=ad;simp only at ax;subst ax;have V5:∀ aa v,((List.range k).map us)[aa]?=some v->w.cell? ⟨b,o+aa,none⟩=some v:=by
   grind
  refine ⟨.agg ((List.range k).map us).toArray,by simp [execOp,aJ,PQ ak (by simp) V5],.agg (Fs:=λ_=>cb) (by simp; omega) (λaa u hy=>by
   grind) (λaa y u ai hy=>?_) (λ_ _ _ _ _ h=>h.elim) (λc=>⟨λh=>h.elim,λ⟨_,_,h⟩=>h⟩)⟩
  grind
 | @Ch x _ t p k y j ak ai =>
  obtain ⟨⟨u,ad,h1,af,aJ⟩,bo⟩:=(fE j).mC;rw [s8] at ai;cases az:bu g p with
  | none=>rw [az] at ai; cases ai
  | some nd =>
   rw [az] at ai;simp only [Option.bind_some] at ai;obtain ⟨y',oe,pa,c_,cs,ej,aN⟩:=bo;rw [az] at oe;cases oe;obtain ⟨v,cp,hv,dA,di⟩:=h.part az (by rcases ej with rfl | rfl <;> simp);rw [h1] at hv;cases hv;have hS:cs[k]?=some y:=by rcases ej with rfl | rfl <;> simpa [ab.kids] using ai
   obtain ⟨b,gi,fr,jy,mX,fy,bK,jW⟩:=dA.node ej hS;rw [fr] at af;cases af;refine ⟨gi,by simp only [execOp,aJ]; simp [PR ak jy],FI 0 (by rw [s8,az]; exact ai) (by rw [xN,h1]; exact mX) jW⟩
 | @w9 x _ t p k m z n y cs j ak ai ej hm =>
  obtain ⟨⟨u,ad,h1,af,aJ⟩,bo⟩:=(fE j).mC;obtain ⟨v,cp,hv,dA,di⟩:=h.part ai (by rcases ej with rfl | rfl <;> simp);rw [h1] at hv;cases hv;have qk:∃ b,ad=⟨b,0,none⟩:=by
   obtain ⟨y',oe,pa,c_,cs',Ou,aN⟩:=bo;rw [ai] at oe;cases oe;have:cs'=cs:=by rcases ej with rfl | rfl <;> rcases Ou with bE | bE <;> cases bE <;> rfl
   subst this;obtain ⟨b,gi,fr,_⟩:=dA.node Ou (List.getElem?_eq_getElem aN)
   grind
  obtain ⟨b,rfl⟩:=qk;have IW:y.kids=cs:=by rcases ej with rfl | rfl <;> rfl
  have cell:∀ aa,aa<m->∃ gi,w.cell? ⟨b,k+aa,none⟩=some gi/\gi.oneCell'=true/\∃ kG,cs[k+aa]?=some kG/\R w I (dO w T g) (fA 0 (p.push (k+aa)) kG) gi cb:=by
   intro aa ag;have fG:cs[k+aa]?=some cs[k+aa]:=List.getElem?_eq_getElem (by omega);obtain ⟨ix,gi,fr,jy,mX,fy,bK,jW⟩:=dA.node ej fG;rw [af] at fr;cases fr;exact ⟨gi,jy,fy,_,fG,FI 0 (by rw [s8,ai]; simp [IW]) (by rw [xN,h1]; exact mX) jW⟩
  have hex:∃ us:List Value,us.length=m/\∀ aa v,us[aa]?=some v->w.cell? ⟨b,k+aa,none⟩=some v:=by
   refine ⟨(List.range m).map λaa=>(w.cell? ⟨b,k+aa,none⟩).getD undef,by simp,?_⟩
   grind
  obtain ⟨us,ss,WG⟩:=hex;refine ⟨.agg us.toArray,by simp only [execOp,aJ]; simp [PQ ak ss (b:=b) (o:=k) WG],.agg (Fs:=λ_=>cb) (by simp; omega) (λaa u hy=>by
   grind) (λaa hL u sy hy=>?_) (λ_ _ _ _ _ h=>h.elim) (λc=>⟨λh=>h.elim,λ⟨_,_,h⟩=>h⟩)⟩
  grind
 | @D_ x _ s d n N p cs xs j av az gl ak =>
  obtain ⟨e,ax,he,aO⟩:=Ml ak;obtain ⟨⟨k6,iv,cap,h1,af,aJ⟩,_⟩:=(fE j).mB;obtain ⟨v,cp,hv,dA,di⟩:=h.part av (by simp);rw [h1] at hv;cases hv;have h3:(cs.take n).length=n:=by
   obtain ⟨_,_,_,ah⟩:=dA.mE
   grind
  have hlen:xs.length=n:=by rw [<- h3,gl,List.length_map]
  refine ⟨_,?_,.lit rfl no⟩;obtain ⟨_,_,iC,_,_,qn,rk⟩:=dA.mE;cases iC;cases k6 with
  | none =>
   have aH:n=0:=by
    grind
   have:xs=[]:=List.eq_nil_of_length_eq_zero (hlen.trans aH);subst this;have aj:=run_convert_bytes_nil (P:=P) (w:=w) s e ax he n cap d aO;simp [execOp,af,aj];rfl
  | some ad =>
   obtain ⟨b,o,sp⟩:=ad;obtain ⟨rfl,rfl⟩:=qn _ rfl;have aj:=run_convert_bytes_arg (P:=P) w s e ax he b 0 n cap xs hlen (λi hi=>by
    have IA:(cs.take n)[i]?=some (.lit (.int .u8 (xs.getD i 0))):=by
     grind
    have Vz:cs[i]?=some (.lit (.int .u8 (xs.getD i 0))):=by
     grind
    obtain ⟨ix,u,fr,jy,_,_,bK,jW⟩:=dA.node (.inl rfl) Vz;simp only [addrOf,Option.some.injEq,Addr.mk.injEq,and_true] at fr;subst fr;rw [Nat.zero_add,jy,jW.gK.1]) d aO
   simp_all [execOp]
 | @D' x _ s d n xs j ak =>
  obtain ⟨e,ax,he,aO⟩:=Ml ak;have aV:=fE j;generalize tv:a.eval x=v at aV;refine ⟨_,?_,.lit rfl no⟩;generalize gl:(xs.map λb=>ab.lit (.int .u8 b))=cs at aV;cases aV with
  | ref j=>simp [ab.isRef] at j
  | @hj _ cap k6 _ aE =>
   have:xs=[]:=by simpa using gl
   subst this;cases k6 with
   | none =>
    have aj:=run_convert_bytes_nil (P:=P) (w:=w) s e ax he 0 cap d aO;simp [execOp,tv,aj];rfl
   | some ad =>
    have ah:(loadCells ad 0).run P w=.ok (([]:List Int).map (Value.int .u8)).toArray w:=by
     have:=run_loadCells_list (P:=P) w ad [] (λaa v ag=>by simp at ag)
     grind
    have aj:=run_bytesToString w ad 0 cap [] ah;have J:=run_convert_bytes_string (P:=P) w s d e (some ad) 0 cap ax he aO;rw [aj] at J;simp [execOp,tv,J];rfl
  | @bc _ _ cap _ ad us _ aE kv bb la ah h1 J aj =>
   obtain ⟨b,o,sp⟩:=ad;simp only at la;subst la;have hlen:xs.length=n:=by rw [<- List.length_map (f:=λb=>ab.lit (.int .u8 b)),gl,ah,Nat.mul_one]
   have ee:=run_convert_bytes_arg (P:=P) w s e ax he b o n cap xs hlen (λi hi=>by
    have IA:cs[i]?=some (.lit (.int .u8 (xs.getD i 0))):=by
     grind
    have:=J i _ IA;simp only at this;rw [this,(aj i _ IA).gK.1]) d aO
   simp_all [execOp]
 | @Ef xs fI _ f vs v j hv aj =>
  refine ⟨v,?_,.lit hv no⟩;have u4:xs.map a.eval=vs.toArray:=by
   apply Array.toList_inj.1;apply List.ext_getElem?;intro k;have:=congrArg (·[k]?) j;simp only [List.getElem?_map] at this;rw [Array.toList_map,List.getElem?_map];cases hk:xs.toList[k]? with
   | none =>
    grind
   | some o =>
    rw [hk] at this;cases hv:vs[k]? with
    | none=>rw [hv] at this; cases this
    | some v =>
     rw [hv] at this;simp only [Option.map_some,Option.some.injEq] at this ⊢;rw [(fE this).gK.1]
  have aU:a.eval (.func f)=.func (.func f) #[] #[]:=rfl
  simp_all [execOp,resolve,Deferred.ofValue,invoke]
 | @E0 x i _ t s nf aa b j hi ak au =>
  have u0:=(fE j).gK.1;have sg:=(fE hi).gK.1;refine ⟨.int .u8 b.toNat,?_,.lit rfl no⟩
  simp_all [execOp,Instr.index,run_underlying,KP,asIntOf]
 | @bin op x y _ t t2 b3 b v j ai hv aj =>
  have h1:=(fE j).gK.1;have af:=(fE ai).gK.1;refine ⟨v,?_,.lit hv no⟩
  grind [execOp,Sem.run_bind,Result.andThen_ok,Sem.run_pure]
 | @Aw op x y _ t t2 dK bs v j ai hv aj =>
  have h1:=LO ((fE j).B4 no);have af:=LO ((fE ai).B4 no);refine ⟨v,?_,.lit hv no⟩
  grind [execOp,Sem.run_bind,Result.andThen_ok,Sem.run_pure]
 | @un op x _ t b3 v j hv aj =>
  have h1:=(fE j).gK.1;exact ⟨v,by simp [execOp,h1,aj],.lit hv no⟩
 | @conv x _ s d b3 v j hv aj =>
  have h1:=(fE j).gK.1;exact ⟨v,by simp [execOp,h1,aj],.lit hv no⟩
 | @Eg x _ i cs y j ai =>
  obtain ⟨vs,aJ,ah,aj⟩:=(fE j).Xx no;have hk:i<cs.length:=(List.getElem?_eq_some_iff.1 ai).1;have hv:vs[i]?=some vs[i]:=Array.getElem?_eq_getElem (ah ▸ hk);exact ⟨_,by simp [execOp,aJ,Instr.extract,hv],aj _ kl _ ai hv⟩
 | @zT x lo hi _ t e z n l bE cs j ah uO ak sj az =>
  obtain ⟨hu,he,aS⟩:=p5 (w:=w) ak;obtain ⟨k6,cap,aJ,kv,hlen,hm⟩:=(fE j).y4;have au:=FM (P:=P) (w:=w) (len:=n) (cap:=cap) (ah.sound h aQ) (uO.sound h aQ) true sj (by omega);have gY:(execOp a.eval { dst:=dst,op:=.slice t x lo hi none,type:=ty,pos:=pos,after:=after,guard:=guard }).run P w=.ok (.value (sliced k6 l bE cap z)) w:=by
   simp_all [execOp,Instr.sliceAt,run_underlying,Instr.slice,sliced]
  refine ⟨_,gY,?_⟩;by_cases aH:bE - l=0
  ·rw [aH];simp only [Nat.zero_mul,List.take_zero,sliced,aH];exact .hj no
  ·obtain ⟨ad,us,rfl,bb,ax,fy,J,aj⟩:=hm (.inr (by omega));obtain ⟨b,o,sp⟩:=ad;simp only at ax;subst ax;have h3:cap≠l:=by omega
   simp only [sliced,h3,if_false,Option.map_some,add_eq];have Bv:((cs.drop (l * z)).take ((bE - l) * z)).length=(bE - l) * z:=by
    rw [List.length_take,List.length_drop,hlen];have:(bE - l) * z+l * z<=n * z:=by rw [<- Nat.add_mul]; exact Nat.mul_le_mul_right _ (by omega)
    omega
   refine .bc (us:=λk=>us (l * z+k)) no (by omega) bb rfl Bv (λk x hk=>fy (l * z+k) x (by
    grind)) (λk x hk=>?_) λk x hk=>?_
   ·grind
   grind
 | @FX x lo hi _ t e z n bE p j ah uO ak az dp =>
  obtain ⟨hu,he,aS⟩:=p5 (w:=w) ak;obtain ⟨⟨k6,N,cap,h1,af,aJ⟩,bo⟩:=(fE j).mB;have kv:N<=cap:=by
   rcases bo with ⟨iv,cs,cu,dC⟩ | ⟨aH,q,gr,m,new,cu,dC⟩
   ·obtain ⟨v,cp,hv,dA,_⟩:=h.part cu (by simp);rw [h1] at hv;obtain ⟨_,q0,NQ,hle,_⟩:=dA.mE
    grind
   ·obtain ⟨v,hv,dA⟩:=h.rel _ _ cu;simp only [dN,hv,aH,walk,Option.some.injEq] at h1;subst h1;obtain ⟨bv,bZ,b7,us,news,dA⟩:=dA.vd;obtain ⟨_,m'⟩:=dA.m'
    grind
  have au:=FM (P:=P) (w:=w) (len:=n) (cap:=cap) (ah.sound h aQ) (uO.sound h aQ) true (Nat.zero_le _) (by omega);refine ⟨.slice k6 bE cap,?_,.ref rfl ⟨⟨k6,N,cap,h1,rfl,by omega⟩,dp⟩ no⟩
  simp_all [execOp,Instr.sliceAt,run_underlying,Instr.slice,Addr.add]
 | @FW x lo hi _ t e z n l bE p j ah uO ak sj az dp =>
  obtain ⟨hu,he,aS⟩:=p5 (w:=w) ak;obtain ⟨⟨k6,N,cap,h1,af,aJ⟩,bo⟩:=(fE j).mB;obtain ⟨iv,cs,cu,dC⟩:=dp;obtain ⟨v,cp,hv,dA,_⟩:=h.part cu (by simp);rw [h1] at hv;obtain ⟨a2,q0,NQ,hle,hlen,qn,rk⟩:=dA.mE;rw [NQ] at hv;cases hv;have au:=FM (P:=P) (w:=w) (len:=n) (cap:=cap) (ah.sound h aQ) (uO.sound h aQ) true sj (by omega);refine ⟨sliced k6 l bE cap z,?_,.ref rfl ⟨⟨k6,_,cap,_,_,h1,rfl,by omega,by omega,λpK=>?_⟩,_,cs,cu,dC⟩ no⟩
  ·simp_all [execOp,Instr.sliceAt,run_underlying,Instr.slice,sliced]
  ·have ax:=rk (by omega);cases k6 with
   | none=>simp at ax
   | some ad =>
    obtain ⟨aH,j'⟩:=qn ad rfl;obtain ⟨b,o,sp⟩:=ad
    grind [add_eq]
 | @zU x lo hi _ t l bE s j ah uO ak sj az =>
  have u0:=(fE j).gK.1;have au:=FM (P:=P) (w:=w) (len:=s.size) (cap:=s.size) (ah.sound h aQ) (uO.sound h aQ) false sj az;exact ⟨.string (s.extract l bE),by simp [execOp,u0,Instr.sliceAt,run_underlying (KP ak),Instr.slice,au],.lit rfl no⟩
 | @Ce x _ t e z br n cs j ak =>
  obtain ⟨hu,he,aS⟩:=p5 (w:=w) ak;obtain ⟨k6,cap,aJ,_⟩:=(fE j).y4;exact ⟨_,by simp [execOp,resolve,invoke,builtin,aJ,Builtin.len_,run_underlying hu,goInt],.lit rfl no⟩
 | @Cd x _ t e z br n p j ak =>
  obtain ⟨hu,he,aS⟩:=p5 (w:=w) ak;obtain ⟨⟨k6,N,cap,h1,af,aJ⟩,bo⟩:=(fE j).mB;exact ⟨_,by simp [execOp,resolve,invoke,builtin,af,Builtin.len_,run_underlying hu,goInt],.lit rfl no⟩
 | @JY x _ t e z br lo n p j ak =>
  obtain ⟨hu,he,aS⟩:=p5 (w:=w) ak;obtain ⟨⟨k6,N,cap,b3,mj,h1,af,_,aJ,cu⟩,bo⟩:=(fE j).wZ;exact ⟨_,by simp [execOp,resolve,invoke,builtin,af,Builtin.len_,run_underlying hu,goInt],.lit rfl no⟩
 | @JX x _ t e br j ak =>
  obtain ⟨hu,he,aS⟩:=p5 (w:=w) ak;have af:=(fE j).pT;exact ⟨_,by simp [execOp,resolve,invoke,builtin,af,Builtin.len_,run_underlying hu,goInt],.lit rfl no⟩
 | @lits b xs fI _ vs v j hv aj =>
  have mo:xs.map a.eval=vs.toArray:=by
   grind [Array.toList_map,OZ]
  refine ⟨v,?_,.lit hv no⟩
  grind [execOp,resolve,invoke]
 | @JZ x y _ t p q ok Y _ qw V j av ai dz aV aj =>
  obtain ⟨⟨b,au,hv⟩,_⟩:=(fE j).Xw;obtain ⟨dJ,cp,iD,dA,_⟩:=h.part av (by simp);rw [au] at iD;cases iD;obtain ⟨ix,es,clock,e,aM,ba,_⟩:=dA.Xv;cases e;refine ⟨V,?_,aV _ _ _⟩;simp [execOp,hv,dz _ _ _ _ (fE ai),aj w _ _ _ aM ba]
 | @Cg x y _ t q ok Y _ qw V j ai dz aV aj =>
  obtain ⟨b,es,clock,hv,aM,ba⟩:=(fE j).Xu;refine ⟨V,?_,aV _ _ _⟩;simp [execOp,hv,dz _ _ _ _ (fE ai),aj w _ _ _ aM ba]
end
end Go.Own
namespace Go.Own
open Go
set_option linter.unusedSectionVars false
variable [cw]
structure Fr (w w':World) (U:a6):Prop where
 os:w'.os=w.os
 tape:w'.tape=w.tape
 output:w'.output=w.output
 size:w.heap.size<=w'.heap.size
 block:∀ b,b<w.heap.size->¬ U b->w'.heap[b]?=w.heap[b]?
 eF:∀ a,a.block<w.heap.size->¬ U a.block->w'.frozen? a=w.frozen? a
 uA:w.drawn<=w'.drawn
theorem Fr.refl (w:World) (U:a6):Fr w w U:=⟨rfl,rfl,rfl,Nat.le_refl _,λ_ _ _=>rfl,λ_ _ _=>rfl,Nat.le_refl _⟩
theorem Fr.mono {w w':World}{U U':a6}(h:Fr w w' U) (gg:∀ b,b<w.heap.size->U b->U' b):Fr w w' U':=⟨h.os,h.tape,h.output,h.size,λb au az=>h.block b au λhu=>az (gg b au hu),λa aQ az=>h.eF a aQ λhu=>az (gg _ aQ hu),h.uA⟩
theorem Fr.trans {w eR eY:World}{U yg:a6}(h:Fr w eR U) (h1:Fr eR eY yg) (gg:∀ b,b<w.heap.size->yg b->U b):Fr w eY U :=
 ⟨h1.os.trans h.os,h1.tape.trans h.tape,h1.output.trans h.output,Nat.le_trans h.size h1.size,λb au az=>(h1.block b (Nat.lt_of_lt_of_le au h.size) λhu=>az (gg b au hu)).trans (h.block b au az),λa aQ az=>(h1.eF a (Nat.lt_of_lt_of_le aQ h.size) λhu=>az (gg _ aQ hu)).trans (h.eF a aQ az),Nat.le_trans h.uA h1.uA⟩
theorem alloc_old (w:World) (o:Obj) (k:Nat) (h:k<w.heap.size):(w.alloc o).heap[k]?=w.heap[k]?:=by
 show (w.heap.push o)[k]?=_;rw [Array.getElem?_push,if_neg (by omega)]
theorem ph (w:World) (o:Obj):(w.alloc o).heap[w.heap.size]?=some o:=by
 show (w.heap.push o)[w.heap.size]?=_;simp
theorem AW (w:World) (arr:Array Value) (t:TypeId) (a:Addr):(w.alloc (.cells arr t (0,0))).frozen? a=w.frozen? a:=by
 unfold World.frozen?;by_cases h:a.block=w.heap.size
 ·rw [h,ph];have:w.heap[w.heap.size]?=none:=by simp
  rw [this];simp
 ·by_cases af:a.block<w.heap.size
  ·rw [alloc_old w _ _ af]
  ·have aJ:(w.alloc (.cells arr t (0,0))).heap[a.block]?=none:=by
    show (w.heap.push _)[a.block]?=_;rw [Array.getElem?_eq_none];simp; omega
   have bo:w.heap[a.block]?=none:=Array.getElem?_eq_none (by omega);rw [aJ,bo]
theorem Em (w:World) (g:Nat) (cs:Array Value) (a:Addr):(w.setRow g cs).frozen? a=w.frozen? a:=by
 unfold World.frozen? World.setRow;simp only [Array.getElem?_modify];by_cases h:g=a.block
 ·subst h;rw [if_pos rfl];cases bE:w.heap[a.block]? with
  | none=>rfl
  | some o=>cases o <;> rfl
 ·rw [if_neg h]
theorem T0 (w:World) (es:Array MapEntry) (n:Nat) (a:Addr):(w.alloc (.map es n)).frozen? a=w.frozen? a:=by
 unfold World.frozen?;by_cases h:a.block=w.heap.size
 ·rw [h,ph];have:w.heap[w.heap.size]?=none:=by simp
  rw [this]
 ·by_cases af:a.block<w.heap.size
  ·rw [alloc_old w _ _ af]
  ·have aJ:(w.alloc (.map es n)).heap[a.block]?=none:=by
    show (w.heap.push _)[a.block]?=_;rw [Array.getElem?_eq_none];simp; omega
   have bo:w.heap[a.block]?=none:=Array.getElem?_eq_none (by omega);rw [aJ,bo]
def PB (o:Obj):Prop:=(∃ arr e,o=.cells arr e (0,0))\/∃ es n,o=.map es n
theorem Fr.alloc (w:World) (o:Obj) (U:a6) (aM:PB o):Fr w (w.alloc o) U:=by
 refine ⟨rfl,rfl,rfl,by simp,λb au _=>alloc_old w o b au,λa _ _=>?_,Nat.le_refl _⟩;rcases aM with ⟨arr,e,rfl⟩ | ⟨es,n,rfl⟩
 ·exact AW w arr e a
 ·exact T0 w es n a
theorem R.YC {w:World}{I:a6}{ρ:ab->Value->Prop}{x:ab}{v:Value}{F:a6}(h:R w I ρ x v F):∀ c,F c->∃ o,w.heap[c]?=some o/\PB o:=by
 induction h with
 | dv aM _ aE =>
  intro c J;have J:=(aE c).1 J;obtain ⟨_,bE⟩:=aM;rcases bE with ⟨rfl,_⟩ | ⟨b,cap,cur,rfl,_,jJ,_⟩
  ·simp [Value.ownBlock] at J
  ·simp only [Value.ownBlock,Option.some.injEq] at J;subst J;exact ⟨_,jJ,.inl ⟨_,_,rfl⟩⟩
 | mp aM _ aE =>
  intro c J;cases (aE c).1 J;exact ⟨_,aM,.inr ⟨_,_,rfl⟩⟩
 | lit _ aE | bf aE | dead aE | j1 aE | ref _ _ aE | hj aE | bc aE | cJ aE | c7 aE | imp aE=>exact λc J=>absurd J (aE c)
 | own aM ah h1 aj aO au aE aK =>
  intro c J;rcases (aE c).1 J with h | ⟨k,hk,h⟩
  ·obtain ⟨_,bE⟩:=aM;rcases bE with ⟨rfl,_⟩ | ⟨b,cap,cur,rfl,_,jJ,_⟩
   ·simp [Value.ownBlock] at h
   ·simp only [Value.ownBlock,Option.some.injEq] at h;subst h;exact ⟨_,jJ,.inl ⟨_,_,rfl⟩⟩
  ·exact aK k _ _ (List.getElem?_eq_getElem hk) (List.getElem?_eq_getElem (ah ▸ hk)) c h
 | obj aM ah h1 aj aO au aE ax aK =>
  intro c J;rcases (aE c).1 J with rfl | ⟨k,hk,h⟩
  ·exact ⟨_,aM,.inl ⟨_,_,rfl⟩⟩
  ·exact aK k _ _ (List.getElem?_eq_getElem hk) (Array.getElem?_eq_getElem (ah ▸ hk)) c h
 | agg ah h1 aj aO aE aK =>
  intro c J;obtain ⟨k,hk,h⟩:=(aE c).1 J;exact aK k _ _ (List.getElem?_eq_getElem hk) (Array.getElem?_eq_getElem (ah ▸ hk)) c h
 | bN ah aj aO aE aK =>
  intro c J;obtain ⟨k,hk,h⟩:=(aE c).1 J;exact aK k _ _ (List.getElem?_eq_getElem hk) (Array.getElem?_eq_getElem (ah ▸ hk)) c h
theorem Fr.drew {w w':World}{U:a6}(h:Fr w w' U):Fr w w'.drew U:=⟨h.os,h.tape,h.output,h.size,h.block,h.eF,Nat.le_succ_of_le h.uA⟩
section
variable {w:World}{I:a6}{T:Array Value}{g:aG}{Fs:Nat->a6}
theorem cB.jm (h:cB w I T g Fs):∀ t c,Fs t c->c<w.heap.size:=by
 intro t c J;cases j:g t with
 | none=>exact absurd J (h.kA t j c)
 | some y=>obtain ⟨u,_,dA⟩:=h.rel t y j; exact dA.lt c J
theorem cB.world (h:cB w I T g Fs) {w':World}(aE:∀ t c,Fs t c->w'.heap[c]?=w.heap[c]?) (bb:∀ c,I c->w'.heap[c]?=w.heap[c]?) (dL:w.heap.size<=w'.heap.size):cB w' I T g Fs :=
  ⟨λt x j=>by
    obtain ⟨v,hv,aV⟩:=h.rel t x j;exact ⟨v,hv,h.wj (λ_ _=>rfl) aE bb (λ_ h=>h) (λ_ _ h=>h) aV λc J=>aE t c J⟩,
   h.kA,h.et,h.bc,λc J=>Nat.lt_of_lt_of_le (h.lt c J) dL,h.qC,cw.keep h.hd bb λ_ h=>h⟩
theorem cB.alloc (h:cB w I T g Fs) (o:Obj):cB (w.alloc o) I T g Fs :=
 h.world (λt c J=>alloc_old w o c (h.jm t c J)) (λc J=>alloc_old w o c (h.lt c J)) (by simp)
theorem cB.sK (h:cB w I T g Fs) {d:Nat}{x:ab}{v:Value}{F:a6}(aO:g d=none) (VF:d<T.size)
  (aV:jb w I (dO w T g) x v F) (ri:∀ t c,F c->¬ Fs t c) (Wa:∀ c,F c->¬ I c)
  (av:∀ z p n m new,x=.bC z p n m new->∀ t br ck bm cK,g t≠some (.bC br p ck bm cK)) :
  cB w I (T.setIfInBounds d v) (cH g d x) (tW Fs d F):=by
 have dn:∀ t,g t≠none->(T.setIfInBounds d v)[t]?=T[t]?:=by
  intro t ak;rw [Array.getElem?_setIfInBounds_ne];rintro rfl; exact ak aO
 refine ⟨?_,?_,?_,?_,h.lt,?_,h.hd⟩
 ·intro t y ai;unfold cH at ai
  split at ai
  ·rename_i u1;subst u1;cases ai;exact ⟨v,by simp [VF],by simpa [tW] using h.wj dn (λ_ _ _=>rfl) (λ_ _=>rfl) (λ_ h=>h) (Qy aO) aV λ_ _=>rfl⟩
  ·rename_i u1;obtain ⟨u,hu,dA⟩:=h.rel t y ai;exact ⟨u,by rw [dn t (by rw [ai]; simp)]; exact hu,by simpa [tW,u1] using h.wj dn (λ_ _ _=>rfl) (λ_ _=>rfl) (λ_ h=>h) (Qy aO) dA λ_ _=>rfl⟩
 ·intro t ak c;unfold cH at ak
  split at ak
  ·cases ak
  ·rename_i u1; simpa [tW,u1] using h.kA t ak c
 ·intro t t' c J dX;by_cases h1:t=d <;> by_cases af:t'=d <;> simp [tW,h1,af] at J dX
  ·rw [h1,af]
  ·exact absurd dX (ri t' c J)
  ·exact absurd J (ri t c dX)
  ·exact h.et t t' c J dX
 ·intro t c J hi;by_cases h1:t=d <;> simp [tW,h1] at J
  ·exact Wa c J hi
  ·exact h.bc t c J hi
 ·intro t t' z p n m new br ck bm cK h1 af;unfold cH at h1 af
  split at h1 <;> split at af
  ·rename_i a b; rw [a,b]
  ·cases h1; exact absurd af (av z p n m new rfl t' br ck bm cK)
  ·cases af; exact absurd h1 (av br p ck bm cK rfl t z n m new)
  ·exact h.qC _ _ _ _ _ _ _ _ _ _ _ h1 af
end
def h0:ab->Option (List ab)
 | .agg cs=>some cs
 | .lit v=>some [.lit v]
 | .bf=>some [.bf]
 | .bc z n cs=>some [.bc z n cs]
 | .cJ cs=>some [.cJ cs]
 | .ptr p k=>some [.ptr p k]
 | .bn z p n=>some [.bn z p n]
 | .sub z p l n=>some [.sub z p l n]
 | .c7 f a b=>some [.c7 f a b]
 | _=>none
theorem Mh {y:ab}{cs:List ab}(h:r0 y) (J:h0 y=some cs):qS cs:=by
 have one:∀ {x:ab},(∀ aa,x≠.self aa)->qS [x]:=λj k aa e=>by
  cases k with
  | zero=>simp only [List.getElem?_cons_zero,Option.some.injEq] at e; exact j aa e
  | succ k=>simp at e
 cases y <;> simp only [Go.Own.h0,Option.some.injEq,reduceCtorEq] at J <;> subst J
 all_goals first | exact h _ rfl | exact one (by simp)
theorem R.h0 {w:World}{I:a6}{ρ:ab->Value->Prop}{y:ab}{v:Value}{F:a6}(h:R w I ρ y v F) (aE:∀ c,¬ F c) (lf:∀ x v,x.isRef=true->ρ x v->v.oneCell'=true) {cs:List ab}(J:h0 y=some cs) :
  cs.length=v.cells.size/\(∀ (k:Nat) (u:Value),v.cells[k]?=some u->u.oneCell'=true)/\(∀ (k:Nat) (x:ab) (u:Value),cs[k]?=some x->v.cells[k]?=some u->R w I ρ x u cb):=by
 have one:∀ {y:ab},R w I ρ y v F->v.oneCell'=true->[y].length=v.cells.size/\(∀ (k:Nat) (u:Value),v.cells[k]?=some u->u.oneCell'=true)/\(∀ (k:Nat) (x:ab) (u:Value),[y][k]?=some x->v.cells[k]?=some u->R w I ρ x u cb):=by
  intro y h h1;have EA:v.cells=#[v]:=by cases v <;> first | rfl | (simp [Value.oneCell'] at h1)
  refine ⟨by simp [EA],λk u hu=>?_,λk x u j hu=>?_⟩
  ·rw [EA] at hu;cases k with
   | zero=>simp at hu; subst hu; exact h1
   | succ k=>simp at hu
  rw [EA] at hu;cases k with
  | zero=>simp at j hu; subst j hu; exact h.empty aE
  | succ k=>simp at j
 cases y <;> simp only [Go.Own.h0,Option.some.injEq,reduceCtorEq] at J
 case agg l =>
  subst J;obtain ⟨vs,rfl,ah,h1,aj⟩:=h.B4 aE;exact ⟨ah,h1,aj⟩
 case lit a=>subst J; exact one h (by obtain ⟨rfl,h1⟩:=h.gK; exact h1)
 case bf=>subst J; exact one h (by rw [h.pT]; rfl)
 case bc z n l=>subst J; exact one h (by obtain ⟨a,cap,rfl,_⟩:=h.y4; rfl)
 case cJ l=>subst J; exact one h (by obtain ⟨ad,us,rfl,_⟩:=h.wY; rfl)
 case ptr p k=>subst J; exact one h (lf _ _ rfl h.mC)
 case bn z p n=>subst J; exact one h (lf _ _ rfl h.mB)
 case sub z p l n=>subst J; exact one h (lf _ _ rfl h.wZ)
 case c7 f a b =>
  subst J;refine one h ?_;cases h with
  | c7=>rfl
  | ref j=>simp [ab.isRef] at j
theorem dO.Cu {w:World}{T:Array Value}{g:aG}{x:ab}{v:Value}(j:x.isRef=true) (h:dO w T g x v):v.oneCell'=true:=by
 obtain ⟨h,_⟩:=h;cases x <;> simp [ab.isRef] at j
 case ptr p k=>obtain ⟨_,_,_,_,rfl⟩:=h; rfl
 case bn z p n=>obtain ⟨_,_,_,_,rfl,_⟩:=h; rfl
 case sub z p lo n=>obtain ⟨_,_,_,_,_,_,rfl,_⟩:=h; rfl
 case ha p=>obtain ⟨_,_,rfl⟩:=h; rfl
def l0:List ab->Option (List ab)
 | []=>some []
 | y::ys =>
  match h0 y,l0 ys with
  | some a,some b=>some (a++b)
  | _,_=>none
def fZ (g:aG):List Operand->Option (List ab)
 | []=>some []
 | x::xs =>
  match bj g x,fZ g xs with
  | some y,some ys=>some (y::ys)
  | _,_=>none
def uB (place:Nat->Option (Nat × Nat)) (cells:List ab):List (Nat × List ab)->Option (List ab)
 | []=>some cells
 | (i,c)::rest =>
  match place i with
  | none=>none
  | some (off,size)=>if c.length=size/\off+c.length<=cells.length then uB place (cells.take off++c++cells.drop (off+c.length)) rest else none
def qz (g:aG):List (Nat × Operand)->Option (List (Nat × List ab))
 | []=>some []
 | (i,x)::xs =>
  match bj g x,qz g xs with
  | some y,some ys=>(h0 y).map λc=>(i,c)::ys
  | _,_=>none
def kY (P:Program) (t:TypeId) (pl:List (Nat × Nat)):Bool :=
 match P.underlying t with
 | some (.struct fs)=>fs.toList.map (λf=>(f.offset,(P.info? f.type).map (·.size))) == pl.map λ(a,b)=>(a,some b)
 | _=>false
inductive nw (P:Program) (g:aG):Op->TypeId->ab->Prop
 | box {e ty:TypeId}{x:Operand}{y:ab}{cs:List ab}(j:bj g x=some y) (J:h0 y=some cs):nw P g (.box e x) ty (.obj cs)
 | DU {e ty:TypeId}{z:Value}(aS:(P.info? e).bind (·.zero)=some z) (J:z.cells=#[.pointer none,.slice none 0 0]):nw P g (.alloc e) ty (.obj [.self (0,e),.bf])
 | D3 {e ty:TypeId}{t k:Nat}{x:Operand}{y:ab}{cs:List ab}(j:bj g x=some y) (J:h0 y=some cs) (aH:cs[k]?=some (.lit (.pointer none))) (h1:cs[k+1]?=some .bf):nw P g (.box e x) ty (.obj ((cs.set k (.self (k,e))).set (k+1) (.dv t [])))
 | DT {e ty:TypeId}{t:Nat}{z:Value}(aS:(P.info? e).bind (·.zero)=some z) (J:z.cells=#[.pointer none,.slice none 0 0]):nw P g (.alloc e) ty (.obj [.self (0,e),.dv t []])
 | alloc {e ty:TypeId}{z:Value}(aS:(P.info? e).bind (·.zero)=some z) (h1:z.cells.all Value.oneCell'=true):nw P g (.alloc e) ty (.obj (z.cells.toList.map j0))
 | buildSlice {t e ty:TypeId}{z:Nat}{parts:Array (Nat × Operand)}{xs:List Operand}{ys:List ab}{cs:List ab}(ak:e2 P t e z=true)
   (av:parts.toList=xs.mapIdx (λi x=>(i,x))) (j:fZ g xs=some ys) (aS:∀ y∈ys,∃ c,h0 y=some c/\c.length=z) (J:l0 ys=some cs) (au:xs.length * z<=16777216) (az:xs.length<=16777216) (hzero:xs.length * z=0\/∃ v,(P.info? e).bind (·.zero)=some v/\v.cells.size=z) :
   nw P g (.buildSlice t xs.length parts) ty (.own z xs.length cs)
 | makeSlice {t e ty:TypeId}{x y:Operand}{z n b:Nat}{rD gm:IntKind}{dh:Value}(ak:e2 P t e z=true) (j:bj g x=some (.lit (.int rD (n:Int)))) (ai:bj g y=some (.lit (.int gm (n:Int))))
   (hzero:(P.info? e).bind (·.zero)=some dh) (h1:dh.cells.all Value.oneCell'=true) (og:dh.cells.size=z) (au:(P.info? e).map (·.bytes)=some b) (az:n * b<=140737488355328) (n':n<=4611686018427387904) {hM:List ab}(u_:hM.length=dh.cells.size)
   (EX:∀ (k:Nat) (u:Value) (x:ab),dh.cells[k]?=some u->hM[k]?=some x->x=j0 u\/(j0 u=.bf/\∃ br,x=.bc br 0 [])) :
   nw P g (.makeSlice t x y) ty (.own z n (List.replicate n hM).flatten)
 | makeMap {t ty:TypeId}{q:Array MapEntry->Nat->Prop}(ba:q #[] 0):nw P g (.makeMap t none) ty (.mp q)
inductive um (P:Program) (g:aG):Op->TypeId->ab->Prop
 | build {t ty:TypeId}{parts:Array (Nat × Operand)}{pl:List (Nat × Nat)}{dh:Value}{ps:List (Nat × List ab)}{cs:List ab}(ak:kY P t pl=true) (aS:(P.info? t).bind (·.zero)=some dh) (h1:dh.cells.all Value.oneCell'=true)
   (av:qz g parts.toList=some ps) (J:uB (λi=>pl[i]?) (dh.cells.toList.map j0) ps=some cs):um P g (.build t parts) ty (.agg cs)
 | makeFunc {fn:Fn}{first caps:Array Operand}{ty:TypeId}{a b:List ab}(aQ:fZ g first.toList=some a) (au:fZ g caps.toList=some b):um P g (.makeFunc fn first caps) ty (.c7 fn a b)
section
variable {P:Program}{w:World}{I:a6}{T:Array Value}{g:aG}{Fs:Nat->a6}
theorem Cv (h:cB w I T g Fs) {a:Act}(aQ:a.tmps=T):∀ {xs:List Operand}{ys:List ab},fZ g xs=some ys->ys.length=xs.length/\∀ (k:Nat) (y:ab) (x:Operand),ys[k]?=some y->xs[k]?=some x->R w I (dO w T g) y (a.eval x) cb
 | [],ys,ai=>by simp only [fZ,Option.some.injEq] at ai; subst ai; simp
 | x::xs,ys,ai=>by
  simp only [fZ] at ai;cases j:bj g x with
  | none=>simp [j] at ai
  | some y =>
   cases rz:fZ g xs with
   | none=>simp [j,rz] at ai
   | some Dx =>
    simp only [j,rz,Option.some.injEq] at ai;subst ai;obtain ⟨h1,af⟩:=Cv h aQ rz;refine ⟨by simp [h1],λk y' x' oe fG=>?_⟩;cases k with
    | zero=>simp at oe fG; subst oe fG; exact kB h j aQ
    | succ k=>simp at oe fG; exact af k y' x' oe fG
theorem R.alloc (h:cB w I T g Fs) (o:Obj) {x:ab}{v:Value}{F:a6}(aV:R w I (dO w T g) x v F) (aE:∀ c,F c->c<w.heap.size):R (w.alloc o) I (dO (w.alloc o) T g) x v F :=
 h.frame (λ_ _=>rfl) (λt c J=>alloc_old w o c (h.jm t c J)) (λc J=>alloc_old w o c (h.lt c J)) (λ_ h=>h) (λ_ _ h=>h) aV λc J=>alloc_old w o c (aE c J)
theorem Pg {ρ:ab->Value->Prop}{vs:List Value}:∀ (k:Nat) (x:ab) (u:Value),(vs.map j0)[k]?=some x->vs[k]?=some u->R w I ρ x u cb:=by
 intro k x u j hu;rw [List.getElem?_map,hu] at j;simp only [Option.map_some,Option.some.injEq] at j;subst j;exact Cq u
theorem R.Pe {ρ:ab->Value->Prop}{cs:List ab}{b:Nat}{e:TypeId}{arr:Array Value}(aM:w.heap[b]?=some (.cells arr e (0,0))) (ah:cs.length=arr.size) (h1:∀ (k:Nat) (u:Value),arr[k]?=some u->u.oneCell'=true)
  (aj:∀ (k:Nat) (x:ab) (u:Value),cs[k]?=some x->arr[k]?=some u->R w I ρ x u cb) (kR:qS cs):R w I ρ (.obj cs) (.pointer (some ⟨b,0,none⟩)) (λc=>c=b) :=
 .obj (Fs:=λ_=>cb) aM ah h1 aj (λ_ _ _ _ _ h=>h.elim) (λ_ _ h=>h) (λ_=>⟨λh=>.inl h,λh=>h.elim id λ⟨_,_,h⟩=>h.elim⟩) λk aa _ h=>absurd h (kR k aa)
theorem R.Pr {ρ:ab->Value->Prop}{z n:Nat}{cs:List ab}{b cap:Nat}{e:TypeId}{arr:Array Value}(aM:w.heap[b]?=some (.cells arr e (0,0))) (az:n<=cap) (J:cap<=maxLen) (ax:arr.size=cap * z) (ah:cs.length=n * z) (h1:∀ (k:Nat) (u:Value),arr[k]?=some u->u.oneCell'=true)
  (aj:∀ (k:Nat) (x:ab) (u:Value),cs[k]?=some x->arr[k]?=some u->R w I ρ x u cb):R w I ρ (.own z n cs) (.slice (some ⟨b,0,none⟩) n cap) (λc=>c=b):=by
 have hle:n * z<=arr.size:=by rw [ax]; exact Nat.mul_le_mul_right _ az
 refine .own (e:=e) (us:=arr.toList.take (n * z)) (Fs:=λ_=>cb) ⟨by simp; omega,.inr ⟨b,cap,arr,rfl,Nat.zero_le _,aM,az,J,ax,rfl⟩⟩ (by simp; omega) (λk u hu=>?_) ?_ (λ_ _ _ _ _ h=>h.elim) (λ_ _ _ h=>h.elim) (λc=>?_)
 ·rw [List.getElem?_take] at hu
  split at hu
  ·exact h1 k u (by simpa using hu)
  ·cases hu
 ·intro k x u j hu;rw [List.getElem?_take] at hu
  split at hu
  ·exact aj k x u j (by simpa using hu)
  ·cases hu
 ·simp only [Value.ownBlock,Option.some.injEq];exact ⟨λh=>.inl h.symm,λh=>h.elim Eq.symm λ⟨_,_,h⟩=>h.elim⟩
theorem Mg {ρ:ab->Value->Prop}(lf:∀ x v,x.isRef=true->ρ x v->v.oneCell'=true):∀ {ys:List ab}{vs:List Value}{cs:List ab},ys.length=vs.length->(∀ (k:Nat) (y:ab) (v:Value),ys[k]?=some y->vs[k]?=some v->R w I ρ y v cb)->l0 ys=some cs ->
  cs.length=(vs.flatMap λv=>v.cells.toList).length/\(∀ (k:Nat) (u:Value),(vs.flatMap λv=>v.cells.toList)[k]?=some u->u.oneCell'=true)/\∀ (k:Nat) (x:ab) (u:Value),cs[k]?=some x->(vs.flatMap λv=>v.cells.toList)[k]?=some u->R w I ρ x u cb
 | [],vs,cs,ah,aj,J=>by
  cases vs with
  | nil=>simp only [l0,Option.some.injEq] at J; subst J; simp
  | cons=>simp at ah
 | y::ys,vs,cs,ah,aj,J=>by
  cases vs with
  | nil=>simp at ah
  | cons v vs =>
   simp only [l0] at J;cases aQ:h0 y with
   | none=>simp [aQ] at J
   | some a =>
    cases au:l0 ys with
    | none=>simp [aQ,au] at J
    | some b =>
     simp only [aQ,au,Option.some.injEq] at J;subst J;obtain ⟨h1,AX,af⟩:=(aj 0 y v rfl rfl).h0 (λ_ h=>h) lf aQ;obtain ⟨aJ,Ue,bo⟩:=Mg lf (by simpa using ah) (λk y' dJ ai hv=>aj (k+1) y' dJ ai hv) au;refine ⟨by simp [h1,aJ],λk u hu=>?_,λk x u j hu=>?_⟩
     ·simp only [List.flatMap_cons] at hu;by_cases hk:k<v.cells.toList.length
      ·rw [List.getElem?_append_left hk] at hu;exact AX k u (by simpa using hu)
      ·rw [List.getElem?_append_right (by omega)] at hu;exact Ue _ u hu
     simp only [List.flatMap_cons] at hu;by_cases hk:k<a.length
     ·rw [List.getElem?_append_left hk] at j;rw [List.getElem?_append_left (by simp; omega)] at hu;exact af k x u j (by simpa using hu)
     ·rw [List.getElem?_append_right (by omega)] at j;rw [List.getElem?_append_right (by simp; omega)] at hu;refine bo (k - a.length) x u j ?_;rw [<- hu]; simp [h1]
end
end Go.Own
namespace Go.Own
open Go
set_option linter.unusedSectionVars false
variable [cw]
theorem M8 (off:Nat):∀ (l:List Value) (s:Nat) (arr:Array Value),off+s+l.length<=arr.size ->
  ((l.zipIdx s).foldl (λcs (x:Value × Nat)=>cs.setIfInBounds (off+x.2) x.1) arr).toList=arr.toList.take (off+s)++l++arr.toList.drop (off+s+l.length)
 | [],s,arr,h=>by simp
 | v::l,s,arr,h=>by
  simp only [List.length_cons] at h;rw [List.zipIdx_cons,List.foldl_cons,M8 off l (s+1) _ (by simp; omega)];simp only [Array.toList_setIfInBounds,List.length_cons];have h1:(arr.toList.set (off+s) v).take (off+(s+1))=arr.toList.take (off+s)++[v]:=by
   rw [show off+(s+1)=off+s+1 by omega,List.take_succ_eq_append_getElem (by simp; omega)];rw [List.take_set_of_le (Nat.le_refl _)];simp
  have af:(arr.toList.set (off+s) v).drop (off+(s+1)+l.length)=arr.toList.drop (off+s+(l.length+1)):=by
   rw [List.drop_set_of_lt (by omega)];congr 1; omega
  rw [h1,af];simp
theorem M4 {place:Nat->Option (Nat × Nat)}{i off size:Nat}(av:place i=some (off,size)) {arr:Array Value}{v:Value}(h1:v.cells.size=size) (af:off+v.cells.size<=arr.size) (rest:List (Nat × Value)) :
  ∃ iO:Array Value,Instr.fill place arr ((i,v)::rest)=Instr.fill place iO rest/\iO.toList=arr.toList.take off++v.cells.toList++arr.toList.drop (off+v.cells.size):=by
 refine ⟨_,by simp only [Instr.fill,av]; rw [if_neg (by simp; omega)],?_⟩;have:=M8 off v.cells.toList 0 arr (by simpa using af)
 grind [Array.toList_zipIdx]
theorem M3 (z:Nat):∀ (vs:List Value) (k:Nat) (arr:Array Value) (done rest:List Value),(∀ v∈vs,v.cells.size=z)->arr.toList=done++rest->done.length=k * z->rest.length=vs.length * z ->
  ∃ iO:Array Value,Instr.fill (λi=>some (i * z,z)) arr (vs.mapIdx λi v=>(k+i,v))=some iO/\iO.toList=done++vs.flatMap λv=>v.cells.toList
 | [],k,arr,done,rest,_,h1,af,aJ=>by
  have:rest=[]:=List.eq_nil_of_length_eq_zero (by simpa using aJ);subst this;exact ⟨arr,rfl,by simpa using h1⟩
 | v::vs,k,arr,done,rest,aS,h1,af,aJ=>by
  have hv:=aS v (by simp);have hlen:arr.size=done.length+rest.length:=by rw [<- Array.length_toList,h1,List.length_append]
  simp only [List.length_cons,Nat.add_mul,Nat.one_mul] at aJ;rw [List.mapIdx_cons];obtain ⟨DX,bO,b7⟩:=M4 (place:=λi=>some (i * z,z)) (i:=k+0) (off:=k * z) (size:=z) (by simp) (arr:=arr) (v:=v) hv (by omega) ((vs.mapIdx λi v=>(k+(i+1),v)));have tf:DX.toList=(done++v.cells.toList)++rest.drop z:=by
   rw [b7,h1,<- af,List.take_left,hv,List.drop_append];simp
  obtain ⟨iO,e1,qh⟩:=M3 z vs (k+1) DX (done++v.cells.toList) (rest.drop z) (λu hu=>aS u (by simp [hu])) tf (by simp [af,hv,Nat.add_mul]) (by simp; omega);refine ⟨iO,?_,by rw [qh]; simp⟩;rw [bO,<- e1];congr 1;congr 1;funext i u;congr 1; omega
theorem GO {vs:Array Value}(h:vs.all Value.oneCell'=true):∀ (k:Nat) (u:Value),vs[k]?=some u->u.oneCell'=true:=by grind
theorem D2 {P:Program}{e:TypeId}{z:Value}(h:(P.info? e).bind (·.zero)=some z) (w:World):(zeroValue e).run P w=.ok z w:=by
 cases hi:P.info? e with
 | none=>simp [hi] at h
 | some i=>simp [hi] at h; simp [zeroValue,typeInfo,hi,h]
theorem M_ {α:Type}(l:List α):∀ (n k:Nat),k<n * l.length->(List.replicate n l).flatten[k]?=l[k % l.length]?
 | 0,k,h=>by simp at h
 | n+1,k,h=>by
  rw [List.replicate_succ,List.flatten_cons];by_cases hk:k<l.length
  ·rw [List.getElem?_append_left hk,Nat.mod_eq_of_lt hk]
  ·rw [List.getElem?_append_right (by omega),M_ l n (k - l.length) (by rw [Nat.add_mul] at h; omega)];rw [<- Nat.mod_eq_sub_mod (by omega)]
section
variable {P:Program}{w:World}{I:a6}{T:Array Value}{g:aG}{Fs:Nat->a6}
theorem Sd {ys cs:List ab}{z:Nat}(aS:∀ y∈ys,∃ c,h0 y=some c/\c.length=z) (J:l0 ys=some cs):cs.length=ys.length * z:=by
 induction ys generalizing cs with
 | nil=>simp [l0] at J; subst J; simp
 | cons y ys aK =>
  obtain ⟨c,h1,af⟩:=aS y (by simp);simp only [l0,h1] at J
  grind
theorem nw.sound (h:cB w I T g Fs) {a:Act}(aQ:a.tmps=T) {o:Oper}{kl:ab}(av:nw P g o.op o.type kl) :
  ∃ v rG,(execOp a.eval o).run P w=.ok (.value v) (w.alloc rG)/\R (w.alloc rG) I (dO (w.alloc rG) T g) kl v (λc=>c=w.heap.size):=by
 obtain ⟨dst,op,ty,pos,after,guard⟩:=o;simp only at av;have iF:∀ (rG:Obj) {x:ab}{v:Value},R w I (dO w T g) x v cb->R (w.alloc rG) I (dO (w.alloc rG) T g) x v cb:=λrG _ _ aV=>R.alloc h rG aV λ_ h=>h.elim;cases av with
 | @box e _ x y cs j J =>
  have ai:=kB h j aQ;obtain ⟨h1,AX,af⟩:=ai.h0 (λ_ h=>h) (λ_ _ j aj=>aj.Cu j) J;refine ⟨_,.cells (a.eval x).cells e,by simp [execOp,Instr.box,newVar,newRow],R.Pe (e:=e) (ph w _) h1 AX (λk x u j hu=>iF _ (af k x u j hu)) (Mh (Kg j) J)⟩
 | @DU e _ z aS J =>
  refine ⟨.pointer (some ⟨w.heap.size,0,none⟩),.cells z.cells e,by simp [execOp,Instr.alloc,newVar,newRow,D2 aS],?_⟩;rw [J];refine .obj (Fs:=λ_=>cb) (e:=e) (ph w _) rfl (λk u hu=>?_) (λk y u ai hu=>?_) (λ_ _ _ _ _ h=>h.elim) (λ_ _ h=>h) (λc=>⟨.inl,λh=>h.elim id λ⟨_,_,h⟩=>h.elim⟩) λk aa u ai hu=>?_
  ·match k,hu with
   | 0,hu=>cases hu; rfl
   | 1,hu=>cases hu; rfl
   | k+2,hu=>simp at hu
  ·match k,ai,hu with
   | 0,ai,hu=>cases ai; exact .j1 λ_ h=>h
   | 1,ai,hu=>cases ai; cases hu; exact .bf λ_ h=>h
   | k+2,ai,hu=>cases ai
  ·match k,ai,hu with
   | 0,ai,hu=>cases ai; cases hu; exact .inl ⟨rfl,rfl⟩
   | 1,ai,hu=>cases ai
   | k+2,ai,hu=>cases ai
 | @D3 e _ t k x y cs j J aH kr =>
  have ai:=kB h j aQ;obtain ⟨h1,AX,af⟩:=ai.h0 (λ_ h=>h) (λ_ _ j aj=>aj.Cu j) J;have kR:=Mh (Kg j) J;have dc:k+1<cs.length:=(List.getElem?_eq_some_iff.1 kr).1;refine ⟨.pointer (some ⟨w.heap.size,0,none⟩),.cells (a.eval x).cells e,by simp [execOp,Instr.box,newVar,newRow],?_⟩;refine .obj (Fs:=λ_=>cb) (e:=e) (ph w _) (by simpa using h1) AX (λaa z u aS hu=>?_) (λ_ _ _ _ _ h=>h.elim) (λ_ _ h=>h) (λc=>⟨.inl,λh=>h.elim id λ⟨_,_,h⟩=>h.elim⟩) λaa i u ag hu=>?_
  ·by_cases bO:k+1=aa
   ·subst bO;rw [List.getElem?_set_self (by simpa using dc)] at aS;cases aS;rw [(af _ _ u kr hu).pT];exact .dv (World.ownsRow_nil _ _ _ _) rfl λc=>⟨λh=>h.elim,λh=>by simp [Value.ownBlock] at h⟩
   ·rw [List.getElem?_set_ne bO] at aS;by_cases e0:k=aa
    ·subst e0;rw [List.getElem?_set_self (by omega)] at aS;cases aS;exact .j1 λ_ h=>h
    ·rw [List.getElem?_set_ne e0] at aS;exact iF _ (af aa z u aS hu)
  ·by_cases bO:k+1=aa
   ·subst bO;rw [List.getElem?_set_self (by simpa using dc)] at ag;cases ag
   ·rw [List.getElem?_set_ne bO] at ag;by_cases e0:k=aa
    ·subst e0;rw [List.getElem?_set_self (by omega)] at ag;cases ag;exact .inl ⟨(af k _ u aH hu).gK.1,rfl⟩
    ·rw [List.getElem?_set_ne e0] at ag;exact absurd ag (kR _ _)
 | @DT e _ t z aS J =>
  refine ⟨.pointer (some ⟨w.heap.size,0,none⟩),.cells z.cells e,by simp [execOp,Instr.alloc,newVar,newRow,D2 aS],?_⟩;rw [J];refine .obj (Fs:=λ_=>cb) (e:=e) (ph w _) rfl (λk u hu=>?_) (λk y u ai hu=>?_) (λ_ _ _ _ _ h=>h.elim) (λ_ _ h=>h) (λc=>⟨.inl,λh=>h.elim id λ⟨_,_,h⟩=>h.elim⟩) λk aa u ai hu=>?_
  ·match k,hu with
   | 0,hu=>cases hu; rfl
   | 1,hu=>cases hu; rfl
   | k+2,hu=>simp at hu
  ·match k,ai,hu with
   | 0,ai,hu=>cases ai; exact .j1 λ_ h=>h
   | 1,ai,hu=>cases ai; cases hu; exact .dv (World.ownsRow_nil _ _ _ _) rfl λc=>⟨λh=>h.elim,λh=>by simp [Value.ownBlock] at h⟩
   | k+2,ai,hu=>cases ai
  ·match k,ai,hu with
   | 0,ai,hu=>cases ai; cases hu; exact .inl ⟨rfl,rfl⟩
   | 1,ai,hu=>cases ai
   | k+2,ai,hu=>cases ai
 | @alloc e _ z aS fy =>
  refine ⟨_,.cells z.cells e,by simp [execOp,Instr.alloc,newVar,newRow,D2 aS],R.Pe (e:=e) (ph w _) (by simp) (GO fy) (λk x u j hu=>iF _ (Pg k x u j (by simpa using hu))) (Pf _)⟩
 | @makeMap t _ q ba =>
  have I2:(Instr.makeMap t none).run P w=.ok (.map (some w.heap.size)) (w.alloc (.map #[] 0)):=rfl;exact ⟨.map (some w.heap.size),.map #[] 0,by simp [execOp,I2],.mp (ph w _) ba λc=>Iff.rfl⟩
 | @buildSlice t e _ z parts xs ys cs ak av j aS J au kQ hzero =>
  obtain ⟨hu,he,dL⟩:=p5 (w:=w) ak;obtain ⟨ah,aj⟩:=Cv h aQ j;have h3:=Sd aS J;have WR:∀ v∈xs.map a.eval,v.cells.size=z:=by
   intro v hv;obtain ⟨x,u9,rfl⟩:=List.mem_map.1 hv;obtain ⟨k,hk,rfl⟩:=List.mem_iff_getElem.1 u9;have oe:ys[k]?=some (ys[k]'(by omega)):=List.getElem?_eq_getElem (by omega);obtain ⟨c,h1,af⟩:=aS _ (List.getElem_mem (l:=ys) (n:=k) (by omega));obtain ⟨aJ,_,_⟩:=(aj k _ _ oe (List.getElem?_eq_getElem hk)).h0 (λ_ h=>h) (λ_ _ j aj=>aj.Cu j) h1;rw [<- aJ,af]
  obtain ⟨dh,Xj⟩:∃ dh:Array Value,(xs.length * z=0/\dh=#[])\/(xs.length * z≠0/\∃ v,dh=v.cells/\(zeroValue e).run P w=.ok v w):=by
   by_cases aH:xs.length * z=0
   ·exact ⟨#[],.inl ⟨aH,rfl⟩⟩
   ·rcases hzero with h1 | ⟨v,h1,af⟩
    ·exact absurd h1 aH
    ·exact ⟨v.cells,.inr ⟨aH,v,rfl,D2 h1 w⟩⟩
  obtain ⟨arr,bO,b7⟩:=M3 z (xs.map a.eval) 0 ((Array.range (xs.length * z)).map (dh[· % dh.size]!)) [] ((Array.range (xs.length * z)).map (dh[· % dh.size]!)).toList WR (by simp) (by simp) (by simp);have N5:(parts.map λ(p:Nat × Operand)=>(p.1,a.eval p.2)).toList=(xs.map a.eval).mapIdx λi v=>(0+i,v):=by
   rw [Array.toList_map,av];apply List.ext_getElem?;intro k;simp only [List.getElem?_map,List.getElem?_mapIdx];cases xs[k]? <;> simp
  obtain ⟨gl,ig,VE⟩:=Mg (ρ:=dO w T g) (λ_ _ j aj=>aj.Cu j) (ys:=ys) (vs:=xs.map a.eval) (by simp [ah]) (λk y v ai hv=>by
   rw [List.getElem?_map] at hv;cases pS:xs[k]? with
   | none=>simp [pS] at hv
   | some x=>simp [pS] at hv; subst hv; exact aj k y x ai pS) J
  have wv:arr.toList=(xs.map a.eval).flatMap λv=>v.cells.toList:=by simpa using b7
  have uY:arr.size=xs.length * z:=by rw [<- Array.length_toList,wv,<- gl,h3,ah]
  have gY:(execOp a.eval { dst:=dst,op:=.buildSlice t xs.length parts,type:=ty,pos:=pos,after:=after,guard:=guard }).run P w=.ok (.value (.slice (some ⟨w.heap.size,0,none⟩) xs.length xs.length)) (w.alloc (.cells arr e)):=by
   have hle:¬ (16777216<xs.length * z):=by omega
   rcases Xj with ⟨aH,rfl⟩ | ⟨aH,v,rfl,Xi⟩
   ·simp only [aH] at bO;rw [<- N5] at bO;simp at bO;simp [execOp,Instr.buildSlice,run_underlying hu,dL,aH,bO,newRow]
   ·rw [<- N5] at bO;simp at bO;simp [execOp,Instr.buildSlice,run_underlying hu,dL,aH,hle,Xi,bO,newRow]
  refine ⟨_,_,gY,R.Pr (e:=e) (arr:=arr) (ph w _) (Nat.le_refl _) ?_ uY (by rw [h3,ah]) (λk u hu=>ig k u (by rw [<- wv]; simpa using hu)) λk x u j hu=>iF _ (VE k x u j ?_)⟩
  ·unfold maxLen; omega
  ·rw [<- wv]; simpa using hu
 | @makeSlice t e _ x y z n b rD gm dh ak j ai hzero fy og au az n' hM u_ EX =>
  obtain ⟨hu,he,dL⟩:=p5 (w:=w) ak;have h1:=(kB h j aQ).gK.1;have af:=(kB h ai aQ).gK.1;cases hi:P.info? e with
  | none=>simp [hi] at au
  | some i =>
   simp [hi] at au hzero;have IN:i.size=z:=by
    unfold e2 at ak;rw [hu] at ak;simp [hi] at ak;exact ak
   have wB:(i.bytes:Int) * (n:Int)<=281474976710656:=by
    have:((b * n:Nat):Int)<=281474976710656:=by have:=Nat.mul_comm n b; omega
    rw [au,<- Int.natCast_mul]; exact this
   have aj:=run_make (P:=P) w t e i dh hu hi hzero rD gm n n (by omega) (Int.le_refl _) wB (by omega);simp only [Int.toNat_natCast] at aj;refine ⟨_,.cells (madeCells dh.cells (n * i.size)) e,by simp [execOp,h1,af,aj],R.Pr (e:=e) (ph w _) (Nat.le_refl _) (by unfold maxLen; omega) (by rw [size_madeCells,IN]) (by simp [og,u_]) (λk u hu=>?_) λk x u j hu=>?_⟩
   ·rw [madeCells,Array.getElem?_map,Array.getElem?_range] at hu
    split at hu
    ·rename_i hk;have aH:0<dh.cells.size:=by
      rcases Nat.eq_zero_or_pos dh.cells.size with h | h
      ·rw [IN,<- og,h] at hk; simp at hk
      ·exact h
     have hm:k % dh.cells.size<dh.cells.size:=Nat.mod_lt _ aH;simp only [Option.map_some,Option.some.injEq] at hu;rw [<- hu,show dh.cells[k % dh.cells.size]! = dh.cells[k % dh.cells.size] by simp [hm]];exact GO fy _ _ (Array.getElem?_eq_getElem hm)
    ·cases hu
   have hk:k<n * dh.cells.size:=by
    have:=(List.getElem?_eq_some_iff.1 j).1;simpa [Nat.mul_comm,u_] using this
   have aH:0<dh.cells.size:=by
    rcases Nat.eq_zero_or_pos dh.cells.size with h | h
    ·rw [h] at hk; simp at hk
    ·exact h
   have hm:k % dh.cells.size<dh.cells.size:=Nat.mod_lt _ aH;rw [M_ _ n k (by simpa [u_] using hk),u_] at j;rw [madeCells,Array.getElem?_map,Array.getElem?_range,if_pos (by rw [IN,<- og]; exact hk)] at hu;simp only [Option.map_some,Option.some.injEq] at hu;have hy:dh.cells[k % dh.cells.size]! = dh.cells[k % dh.cells.size]:=by simp [hm]
   rw [hy] at hu;subst hu;rcases EX _ _ x (Array.getElem?_eq_getElem hm) j with rfl | ⟨h1,br,rfl⟩
   ·exact iF _ (Cq _)
   ·have aV:=Cq (w:=w) (I:=I) (ρ:=dO w T g) dh.cells[k % dh.cells.size];rw [h1] at aV;rw [aV.pT];exact .hj λ_ h=>h
def Cells (w:World) (I:a6) (ρ:ab->Value->Prop) (cs:List ab) (vs:List Value):Prop :=
 cs.length=vs.length/\(∀ (k:Nat) (u:Value),vs[k]?=some u->u.oneCell'=true)/\∀ (k:Nat) (x:ab) (u:Value),cs[k]?=some x->vs[k]?=some u->R w I ρ x u cb
theorem Cells.append {ρ:ab->Value->Prop}{a b:List ab}{u v:List Value}(h:Cells w I ρ a u) (aL:Cells w I ρ b v):Cells w I ρ (a++b) (u++v):=by
 refine ⟨by simp [h.1,aL.1],λk y ai=>?_,λk x y j ai=>?_⟩
 ·by_cases hk:k<u.length
  ·rw [List.getElem?_append_left hk] at ai; exact h.2.1 k y ai
  ·rw [List.getElem?_append_right (by omega)] at ai; exact aL.2.1 _ y ai
 ·by_cases hk:k<a.length
  ·rw [List.getElem?_append_left hk] at j;rw [List.getElem?_append_left (by rw [<- h.1]; exact hk)] at ai;exact h.2.2 k x y j ai
  ·rw [List.getElem?_append_right (by omega)] at j;rw [List.getElem?_append_right (by rw [<- h.1]; omega)] at ai;exact aL.2.2 _ x y j (by rw [h.1]; exact ai)
theorem Cells.take {ρ:ab->Value->Prop}{a:List ab}{u:List Value}(h:Cells w I ρ a u) (n:Nat):Cells w I ρ (a.take n) (u.take n):=by
 refine ⟨by simp [h.1],λk y ai=>?_,λk x y j ai=>?_⟩
 ·rw [List.getElem?_take] at ai
  split at ai
  ·exact h.2.1 k y ai
  grind
 ·rw [List.getElem?_take] at j ai
  split at j
  ·rename_i hk;rw [if_pos hk] at ai;exact h.2.2 k x y j ai
  grind
theorem Cells.drop {ρ:ab->Value->Prop}{a:List ab}{u:List Value}(h:Cells w I ρ a u) (n:Nat):Cells w I ρ (a.drop n) (u.drop n):=by
 refine ⟨by simp [h.1],λk y ai=>?_,λk x y j ai=>?_⟩
 ·rw [List.getElem?_drop] at ai; exact h.2.1 _ y ai
 ·rw [List.getElem?_drop] at j ai;exact h.2.2 _ x y j ai
theorem M1 {ρ:ab->Value->Prop}{place:Nat->Option (Nat × Nat)}:∀ (ps:List (Nat × List ab)) (sR:List (Nat × Value)) {cells cs:List ab}{arr:Array Value},Cells w I ρ cells arr.toList ->
  ps.map (·.1)=sR.map (·.1)->(∀ (k:Nat) (p:Nat × List ab) (q:Nat × Value),ps[k]?=some p->sR[k]?=some q->Cells w I ρ p.2 q.2.cells.toList)->uB place cells ps=some cs ->
  ∃ iO:Array Value,Instr.fill place arr sR=some iO/\Cells w I ρ cs iO.toList
 | [],sR,cells,cs,arr,J,hk,_,aU=>by
  cases sR with
  | nil=>simp only [uB,Option.some.injEq] at aU; subst aU; exact ⟨arr,rfl,J⟩
  | cons=>simp at hk
 | (i,c)::ps,sR,cells,cs,arr,J,hk,aj,aU=>by
  cases sR with
  | nil=>simp at hk
  | cons q sR =>
   obtain ⟨aa,v⟩:=q;simp only [List.map_cons,List.cons.injEq] at hk;obtain ⟨rfl,hk⟩:=hk;have aH:=aj 0 _ _ rfl rfl;simp only [uB] at aU;cases av:place i with
   | none=>simp [av] at aU
   | some os =>
    obtain ⟨off,size⟩:=os;simp only [av] at aU
    split at aU
    ·rename_i acV;have hlen:v.cells.size=c.length:=by rw [<- Array.length_toList]; exact aH.1.symm
     have NX:arr.size=cells.length:=by rw [<- Array.length_toList]; exact J.1.symm
     obtain ⟨DX,bO,b7⟩:=M4 (arr:=arr) (v:=v) av (by omega) (by omega) sR;have ig:Cells w I ρ (cells.take off++c++cells.drop (off+c.length)) DX.toList:=by
      rw [b7,hlen];exact ((J.take off).append aH).append (J.drop _)
     obtain ⟨iO,e1,qh⟩:=M1 ps sR ig hk (λk p q av ba=>aj (k+1) p q av ba) aU;exact ⟨iO,by rw [bO,e1],qh⟩
    ·cases aU
theorem Py (h:cB w I T g Fs) {a:Act}(aQ:a.tmps=T):∀ {l:List (Nat × Operand)}{ps:List (Nat × List ab)},qz g l=some ps ->
  ps.map (·.1)=(l.map λp=>(p.1,a.eval p.2)).map (·.1)/\∀ (k:Nat) (p:Nat × List ab) (q:Nat × Value),ps[k]?=some p->(l.map λp=>(p.1,a.eval p.2))[k]?=some q->Cells w I (dO w T g) p.2 q.2.cells.toList
 | [],ps,av=>by simp only [qz,Option.some.injEq] at av; subst av; simp
 | (i,x)::l,ps,av=>by
  simp only [qz] at av;cases j:bj g x with
  | none=>simp [j] at av
  | some y =>
   cases ah:qz g l with
   | none=>simp [j,ah] at av
   | some adI =>
    simp only [j,ah,Option.map_eq_some_iff] at av;obtain ⟨c,J,rfl⟩:=av;obtain ⟨h1,af⟩:=Py h aQ ah;refine ⟨by simp [h1],λk p q av ba=>?_⟩;cases k with
    | zero =>
     simp at av ba;subst av ba;obtain ⟨aJ,Uc,bo⟩:=(kB h j aQ).h0 (λ_ h=>h) (λ_ _ j aj=>aj.Cu j) J;exact ⟨by simpa using aJ,λk u hu=>Uc k u (by simpa using hu),λk x u j hu=>bo k x u j (by simpa using hu)⟩
    | succ k=>simp at av ba; exact af k p q av (by simpa using ba)
theorem Zu {t:TypeId}{pl:List (Nat × Nat)}(h:kY P t pl=true):∃ fs,P.underlying t=some (.struct fs)/\fs.toList.mapM (λf=>(P.info? f.type).map λi=>(f.offset,i.size))=some pl:=by
 unfold kY at h;cases hu:P.underlying t with
 | none=>simp [hu] at h
 | some d =>
  cases d <;> simp only [hu,Bool.false_eq_true] at h;rename_i fs;refine ⟨fs,rfl,?_⟩;replace h:=LawfulBEq.eq_of_beq h;generalize fs.toList=l at h
  induction l generalizing pl with
  | nil=>cases pl with
   | nil=>rfl
   | cons=>simp at h
  | cons f l aK =>
   cases pl with
   | nil=>simp at h
   | cons p pl =>
    obtain ⟨o,s⟩:=p;simp only [List.map_cons,List.cons.injEq,Prod.mk.injEq] at h;obtain ⟨⟨rfl,h1⟩,af⟩:=h;have:=aK af;rw [List.mapM_cons,this];cases hi:P.info? f.type with
    | none=>simp [hi] at h1
    | some i=>simp [hi] at h1; subst h1; rfl
theorem um.sound (h:cB w I T g Fs) {a:Act}(aQ:a.tmps=T) {o:Oper}{kl:ab}(av:um P g o.op o.type kl) :
  ∃ v,(execOp a.eval o).run P w=.ok (.value v) w/\R w I (dO w T g) kl v cb:=by
 obtain ⟨dst,op,ty,pos,after,guard⟩:=o;simp only at av;cases av with
 | @build t _ parts pl dh ps cs ak aS fy av J =>
  obtain ⟨fs,hu,wL⟩:=Zu ak;obtain ⟨h1,af⟩:=Py h aQ av;obtain ⟨iO,bO,b7⟩:=M1 (w:=w) (I:=I) (ρ:=dO w T g) (place:=λi=>pl[i]?) ps _ (arr:=dh.cells) ⟨by simp,λk u hu=>GO fy k u (by simpa using hu),λk x u j hu=>Pg k x u j hu⟩ h1 af J;refine ⟨.agg iO,?_,.agg (Fs:=λ_=>cb) (by simpa using b7.1) (λk u hu=>b7.2.1 k u (by simpa using hu)) (λk x u j hu=>b7.2.2 k x u j (by simpa using hu)) (λ_ _ _ _ _ h=>h.elim) (λc=>⟨λh=>h.elim,λ⟨_,_,h⟩=>h⟩)⟩;have ado:=run_places (P:=P) w fs.toList pl wL;have au:P.built t ((parts.map λ(p:Nat × Operand)=>(p.1,a.eval p.2))).toList=some iO:=by
   rw [Array.toList_map];cases hi:P.info? t with
   | none=>simp [hi] at aS
   | some it =>
    simp_all [Program.built]
  simp_all [run_build,execOp]
 | @makeFunc fn first caps _ gy gz h1 af =>
  obtain ⟨aw,a2⟩:=Cv h aQ h1;obtain ⟨gH,hs⟩:=Cv h aQ af;refine ⟨.func fn (first.map a.eval) (caps.map a.eval),by simp [execOp,Instr.makeFunc],.c7 (λ_ h=>h) (by simpa using aw) (by simpa using gH) (λk x u j hu=>?_) (λk x u j hu=>?_)⟩
  ·grind
  grind
end
end Go.Own
namespace Go.Own
open Go
set_option linter.unusedSectionVars false
variable [cw]
structure xV (w w':World) (bv dJ:Value) (e b7:TypeId) (z n m:Nat) (us news:List Value):Prop where
 iF:w'.ownsRow 0 e z bv n us
 new:w'.ownsRow 0 b7 z dJ (n+m) (us++news)
 ei:Fr w w' (λc=>bv.ownBlock=some c)
 fD:∀ c,dJ.ownBlock=some c->bv.ownBlock=some c\/w.heap.size<=c
 sp:∀ c,bv.ownBlock=some c->∃ arr iO:Array Value,w.heap[c]?=some (.cells arr e (0,0))/\w'.heap[c]?=some (.cells iO e (0,0))/\iO.size=arr.size/\iO.toList.take (n * z)=arr.toList.take (n * z)
section
variable {P:Program}{w:World}
theorem xV.same {bv dJ:Value}{e b7:TypeId}{z n m:Nat}{us news:List Value}{w':World}(iB:w.ownsRow 0 e z bv n us) (au:∀ c,c<w.heap.size->w'.heap[c]?=w.heap[c]?) (ax:w.heap.size<=w'.heap.size)
  (h1:w'.os=w.os) (af:w'.tape=w.tape) (aJ:w'.output=w.output) (ri:w'.ownsRow 0 b7 z dJ (n+m) (us++news)) (hblk:∀ c,dJ.ownBlock=some c->bv.ownBlock=some c\/w.heap.size<=c) (nF:∀ a,w'.frozen? a=w.frozen? a) (VJ:w.drawn<=w'.drawn:=by first | exact Nat.le_refl _ | exact Nat.le_succ _):xV w w' bv dJ e b7 z n m us news:=by
 have aN:=iB.lt;refine ⟨rI iB λc J=>au c (aN c J).2,ri,⟨h1,af,aJ,ax,λb kt _=>au b kt,λa _ _=>nF a,VJ⟩,hblk,λc J=>?_⟩;obtain ⟨_,bE⟩:=iB;rcases bE with ⟨rfl,_⟩ | ⟨b,cap,cur,rfl,_,aI,_⟩
 ·simp [Value.ownBlock] at J
 ·simp only [Value.ownBlock,Option.some.injEq] at J;subst J;exact ⟨cur,cur,aI,(au _ (aN b rfl).2).trans aI,rfl,rfl⟩
theorem YY (t ty e bZ:TypeId) (i:TypeInfo) (ak:P.underlying t=some (.slice e)) (hi:P.info? e=some i)
  (b xE KD:Nat) (cur:Array Value) (aI:w.heap[b]?=some (.cells cur bZ (0,0)))
  (a:Addr) (m c:Nat) (news:List Value) (ah:news.length=m * i.size) (tA:∀ aa u,news[aa]?=some u->w.cell? (a.add aa)=some u) (h1:∀ u∈news,u.oneCell'=true)
  (uV:xE+m<=KD) (II:xE * i.size+news.length<=cur.size) :
  (Builtin.append_ #[t,t] ty #[.slice (some ⟨b,0,none⟩) xE KD,.slice (some a) m c]).run P w =
   .ok (.slice (some ⟨b,0,none⟩) (xE+m) KD) (w.setRow b (cur.toList.take (xE * i.size)++news++cur.toList.drop (xE * i.size+news.length)).toArray):=by
 have aU:=run_firstCells_some (P:=P) w i.size m a m c news ah tA;have bM:=run_storeCells_at P b (xE * i.size) bZ news 0 cur w aI (by simpa using II) h1;simp only [Nat.add_zero] at bM;simp [Builtin.append_,run_underlying ak,sizeOf,typeInfo,hi,Builtin.lenOf,uV,aU,Addr.add_lit,bM]
theorem PN (t ty e bZ:TypeId) (i:TypeInfo) (dh:Value) (ak:P.underlying t=some (.slice e)) (hi:P.info? e=some i) (aS:i.zero=some dh) (og:dh.cells.size=i.size) (_h0:0<i.size)
  {bv:Value}{n m c:Nat}{us news:List Value}(iB:w.ownsRow 0 bZ i.size bv n us) {a:Option Addr}(aQ:0<m->a.isSome=true)
  (ah:news.length=m * i.size) (tA:∀ ad,a=some ad->∀ (aa:Nat) (u:Value),news[aa]?=some u->w.cell? (ad.add aa)=some u) (h1:∀ u∈news,u.oneCell'=true)
  (mS:n+m<=maxLen) (wB:(n+m) * i.bytes<=140737488355328) :
  ∃ dJ w' b7,(Builtin.append_ #[t,t] ty #[bv,.slice a m c]).run P w=.ok dJ w'/\xV w w' bv dJ bZ b7 i.size n m us news:=by
 have ih:=iB.1;by_cases hm:m=0
 ·subst hm;have az:news=[]:=List.eq_nil_of_length_eq_zero (by simpa using ah);subst az;refine ⟨bv,w,bZ,?_,.same iB (λ_ _=>rfl) (Nat.le_refl _) rfl rfl rfl (by simpa using iB) (λc J=>.inl J) λ_=>rfl⟩;obtain ⟨_,bE⟩:=iB;rcases bE with ⟨rfl,rfl⟩ | ⟨b,cap,cur,rfl,_,aI,hle,_⟩
  ·cases a <;> simp [Builtin.append_,run_underlying ak,sizeOf,typeInfo,hi,Builtin.lenOf,Builtin.firstCells,loadCells,loadCellsFrom]
  ·cases a <;> simp [Builtin.append_,run_underlying ak,sizeOf,typeInfo,hi,Builtin.lenOf,Builtin.firstCells,loadCells,loadCellsFrom,hle,storeCells]
 ·cases a with
  | none=>simp at aQ; omega
  | some ad =>
   replace tA:=tA ad rfl;have Wv:n+m<=9223372036854775807:=by simp only [maxLen] at mS; omega
   have grown:∀ (iF:Nat),iF<n+m ->
     (w.drew.alloc (.cells (us.toArray++news.toArray++Builtin.zeroCells dh.cells (grownCap w (n+m) iF e - (n+m))) e)).ownsRow 0 e i.size (.slice (some ⟨w.heap.size,0,none⟩) (n+m) (grownCap w (n+m) iF e)) (n+m) (us++news):=by
    intro iF aM;have dY:=grownCap_ge w (n+m) iF e;have hlen:(us++news).length=(n+m) * i.size:=by rw [List.length_append,ih,ah,Nat.add_mul]
    refine ⟨hlen,.inr ⟨w.heap.size,_,_,rfl,Nat.zero_le _,ph w.drew _,dY,grownCap_le_maxLen w (n+m) iF e mS,?_,?_⟩⟩
    ·simp only [Array.size_append,List.size_toArray,size_zeroCells,og,ih,ah,<- Nat.add_mul];congr 1;omega
    ·simp only [Array.toList_append,List.append_assoc];rw [<- List.append_assoc,<- hlen];exact List.take_left
   have wI:=iB;obtain ⟨_,bE⟩:=iB;rcases bE with ⟨rfl,rfl⟩ | ⟨b,cap,cur,rfl,_,aI,hle,rb,gl,yZ⟩
   ·have j:us=[]:=List.eq_nil_of_length_eq_zero (by simpa using ih);subst j;have aj:=run_append_nil (P:=P) w t ty e i dh ak hi aS ad m c news ah tA (by omega) (by omega) (by simp only [Nat.zero_add] at wB; omega);have nG:=grown 0 (by omega);simp only [Nat.zero_add,List.nil_append,Array.empty_append] at nG;exact ⟨_,_,e,aj,.same wI (λc J=>alloc_old w.drew _ c J) (by simp) rfl rfl rfl (by simpa using nG) (λc J=>.inr (by simp [Value.ownBlock] at J; omega)) (λa=>AW w.drew _ _ a)⟩
   ·by_cases uV:n+m<=cap
    ·have II:n * i.size+news.length<=cur.size:=by rw [ah,gl,<- Nat.add_mul]; exact Nat.mul_le_mul_right _ uV
     have aj:=YY (P:=P) (w:=w) t ty e bZ i ak hi b n cap cur aI ad m c news ah tA h1 uV II;have hlen:(us++news).length=(n+m) * i.size:=by rw [List.length_append,ih,ah,Nat.add_mul]
     have dL:(cur.toList.take (n * i.size)++news++cur.toList.drop (n * i.size+news.length)).toArray.size=cur.size:=by
      simp only [List.size_toArray,List.length_append,List.length_take,List.length_drop,Array.length_toList];omega
     have hK:(cur.toList.take (n * i.size)++news++cur.toList.drop (n * i.size+news.length)).take (n * i.size)=cur.toList.take (n * i.size):=by
      rw [List.append_assoc];exact List.take_left' (by simp; omega)
     refine ⟨_,_,bZ,aj,⟨⟨ih,.inr ⟨b,cap,_,rfl,Nat.zero_le _,setRow_heap w b cur _ bZ _ aI,hle,rb,dL.trans gl,?_⟩⟩,⟨hlen,.inr ⟨b,cap,_,rfl,Nat.zero_le _,setRow_heap w b cur _ bZ _ aI,uV,rb,dL.trans gl,?_⟩⟩,
      ⟨rfl,rfl,rfl,by simp,λk _ hk=>setRow_other w b k _ (λe=>hk (by simp [Value.ownBlock,e])),λa _ _=>Em w b _ a,Nat.le_refl _⟩,λc J=>.inl J,λc J=>?_⟩⟩
     ·rw [<- yZ]; exact hK
     ·rw [yZ,<- hlen];exact List.take_left
     ·simp only [Value.ownBlock,Option.some.injEq] at J;subst J;exact ⟨cur,_,aI,setRow_heap w b cur _ bZ _ aI,dL,hK⟩
    ·have holds:∀ (aa:Nat) (u:Value),us[aa]?=some u->w.cell? ((⟨b,0,none⟩:Addr).add aa)=some u:=wI.cells (g:=b) rfl;have aj:=run_append_grow (P:=P) w t ty e i dh ak hi aS ⟨b,0,none⟩ n cap us ih holds ad m c news ah tA (by omega) (by omega) (growslice_fits (by omega) wB);have nG:=grown cap (by omega);exact ⟨_,_,e,aj,.same wI (λc J=>alloc_old w.drew _ c J) (by simp) rfl rfl rfl nG (λc J=>.inr (by simp [Value.ownBlock] at J; omega)) (λa=>AW w.drew _ _ a)⟩
end
end Go.Own
namespace Go.Own
open Go
set_option linter.unusedSectionVars false
variable [cw]
section
variable {w w':World}{I:a6}{ρ ρ':ab->Value->Prop}
theorem R.kids {x:ab}{v:Value}{F:a6}(h:R w I ρ x v F) (j:x.kids≠[]):∃ Fs:Nat->a6,
  (∀ k y,x.kids[k]?=some y->∃ u,child w v k=some u/\R w I ρ y u (Fs k))/\(∀ (aa k c:Nat),aa<x.kids.length->k<x.kids.length->Fs aa c->Fs k c->aa=k) /\
  (∀ k c,k<x.kids.length->Fs k c->F c)/\(∀ z n cs,x=.own z n cs->∀ c,v.ownBlock=some c->∀ k,k<x.kids.length->¬ Fs k c):=by
 cases h with
 | @own z n cs _ e us Fs _ aM ah h1 aj aO au aE =>
  refine ⟨Fs,λk y hk=>?_,aO,λk c hk J=>(aE c).2 (.inr ⟨k,hk,J⟩),λ_ _ _ _ c J k hk h=>au k c hk h J⟩;simp only [ab.kids] at hk;have aN:k<cs.length:=(List.getElem?_eq_some_iff.1 hk).1;have hu:us[k]?=some us[k]:=List.getElem?_eq_getElem (ah ▸ aN)
  grind [ot]
 | @obj cs b e arr Fs _ aM ah h1 aj aO au aE =>
  refine ⟨Fs,λk y hk=>?_,aO,λk c hk J=>(aE c).2 (.inr ⟨k,hk,J⟩),λ_ _ _ h=>by simp at h⟩;simp only [ab.kids] at hk;have aN:k<cs.length:=(List.getElem?_eq_some_iff.1 hk).1;have hu:arr[k]?=some arr[k]:=Array.getElem?_eq_getElem (ah ▸ aN);exact ⟨_,by simp [child,World.cell?,aM,hu],aj k y _ hk hu⟩
 | @agg cs vs Fs _ ah h1 aj aO aE =>
  refine ⟨Fs,λk y hk=>?_,aO,λk c hk J=>(aE c).2 ⟨k,hk,J⟩,λ_ _ _ h=>by simp at h⟩;simp only [ab.kids] at hk;have aN:k<cs.length:=(List.getElem?_eq_some_iff.1 hk).1
  simp_all [child]
 | @bN cs vs Fs _ ah aj aO aE =>
  refine ⟨Fs,λk y hk=>?_,aO,λk c hk J=>(aE c).2 ⟨k,hk,J⟩,λ_ _ _ h=>by simp at h⟩;simp only [ab.kids] at hk;have aN:k<cs.length:=(List.getElem?_eq_some_iff.1 hk).1
  simp_all [child]
 | ref fG=>cases x <;> simp [ab.isRef,ab.kids] at fG j
 | _=>simp [ab.kids] at j
theorem ab.uv {x y:ab}{k:Nat}{p:List Nat}(h:x.at (k::p)=some y):∃ c,x.kids[k]?=some c/\c.at p=some y:=by
 grind [ab.at]
theorem R.J' {b:Nat}:∀ (q r:List Nat) {x:ab}{v:Value}{F:a6}{z n br ck:Nat}{cs cs':List ab}{mb Dm:Value},R w I ρ x v F->x.at q=some (.own z n cs)->x.at r=some (.own br ck cs') ->
  walk w v q=some mb->walk w v r=some Dm->mb.ownBlock=some b->Dm.ownBlock=some b->q=r
 | [],[],_,_,_,_,_,_,_,_,_,_,_,_,_,_,_,_,_,_=>rfl
 | [],k::r,x,v,F,z,n,br,ck,cs,cs',mb,Dm,h,ba,aj,nR,wr,yq,yr=>by
  obtain ⟨c,hk,J⟩:=ab.uv aj;simp only [ab.at,Option.some.injEq] at ba;simp only [walk,Option.some.injEq] at nR;subst ba nR;have aN:k<(ab.own z n cs).kids.length:=(List.getElem?_eq_some_iff.1 hk).1;obtain ⟨Fs,h1,af,aJ,bo⟩:=h.kids (by intro e; rw [e] at aN; simp at aN);obtain ⟨u,hu,mm⟩:=h1 k c hk;simp only [walk,hu] at wr;obtain ⟨hX,cp,hw,dA,di,_⟩:=R.focus r mm J;rw [hw] at wr;cases wr;exact absurd (di b (dA.pX b yr)) (bo z n cs rfl b yq k aN)
 | aa::q,[],x,v,F,z,n,br,ck,cs,cs',mb,Dm,h,ba,aj,nR,wr,yq,yr=>by
  obtain ⟨c,hk,J⟩:=ab.uv ba;simp only [ab.at,Option.some.injEq] at aj;simp only [walk,Option.some.injEq] at wr;subst aj wr;have aN:aa<(ab.own br ck cs').kids.length:=(List.getElem?_eq_some_iff.1 hk).1;obtain ⟨Fs,h1,af,aJ,bo⟩:=h.kids (by intro e; rw [e] at aN; simp at aN);obtain ⟨u,hu,mm⟩:=h1 aa c hk;simp only [walk,hu] at nR;obtain ⟨hX,cp,hw,dA,di,_⟩:=R.focus q mm J;rw [hw] at nR;cases nR;exact absurd (di b (dA.pX b yq)) (bo br ck cs' rfl b yr aa aN)
 | aa::q,k::r,x,v,F,z,n,br,ck,cs,cs',mb,Dm,h,ba,aj,nR,wr,yq,yr=>by
  obtain ⟨c,ag,J⟩:=ab.uv ba;obtain ⟨d,hk,aO⟩:=ab.uv aj;have eW:aa<x.kids.length:=(List.getElem?_eq_some_iff.1 ag).1;have dc:k<x.kids.length:=(List.getElem?_eq_some_iff.1 hk).1;obtain ⟨Fs,h1,af,aJ,bo⟩:=h.kids (by intro e; rw [e] at eW; simp at eW);obtain ⟨u,hu,mm⟩:=h1 aa c ag;obtain ⟨tV,hy,H8⟩:=h1 k d hk;simp only [walk,hu] at nR;simp only [walk,hy] at wr;by_cases fY:aa=k
  ·subst fY;rw [ag] at hk; cases hk;rw [hu] at hy; cases hy;rw [R.J' q r mm J aO nR wr yq yr]
  ·exfalso;obtain ⟨hX,cp,hw,dA,di,_⟩:=R.focus q mm J;obtain ⟨Z4,iM,wR,A2,UF,_⟩:=R.focus r H8 aO;rw [hw] at nR; cases nR;rw [wR] at wr; cases wr;exact fY (af aa k b eW dc (di b (dA.pX b yq)) (UF b (A2.pX b yr)))
theorem ab.P8:∀ (q:List Nat) {x y:ab},x.at q=some y->x.setAt q y=x
 | [],x,y,h=>by simp [ab.at] at h; simp [ab.setAt,h]
 | k::q,x,y,h=>by
  obtain ⟨c,hk,J⟩:=ab.uv h;simp only [ab.setAt,hk,ab.P8 q J];have:∀ (l:List ab),l[k]?=some c->l.set k c=l:=by
   intro l ah;apply List.ext_getElem?;intro aa;by_cases fY:k=aa
   ·subst fY;have aN:k<l.length:=(List.getElem?_eq_some_iff.1 ah).1;rw [List.getElem?_set_self aN,ah]
   ·rw [List.getElem?_set_ne fY]
  cases x <;> simp [ab.kids] at hk <;> simp [ab.tT,this _ hk]
theorem Dp (w:World):∀ (p:List Nat) (v:Value) (r:List Nat),walk w v (p++r)=(walk w v p).bind λu=>walk w u r
 | [],v,r=>rfl
 | k::p,v,r=>by
  simp only [List.cons_append,walk];cases child w v k with
  | none=>rfl
  | some u=>exact Dp w p u r
theorem ab.GU:∀ (p:List Nat) (x:ab) (r:List Nat),x.at (p++r)=(x.at p).bind λy=>y.at r
 | [],x,r=>rfl
 | k::p,x,r=>by
  simp only [List.cons_append,ab.at];cases x.kids[k]? with
  | none=>rfl
  | some u=>exact ab.GU p u r
structure DP (w w':World) (b M:Nat):Prop where
 other:∀ c,c<w.heap.size->c≠b->w'.heap[c]?=w.heap[c]?
 here:∃ (arr iO:Array Value) (e:TypeId),w.heap[b]?=some (.cells arr e (0,0))/\w'.heap[b]?=some (.cells iO e (0,0))/\iO.size=arr.size/\iO.toList.take M=arr.toList.take M
theorem DP.row {b M:Nat}(s:DP w w' b M) {e:TypeId}{z n:Nat}{v:Value}{us:List Value}(h:w.ownsRow 0 e z v n us) (az:v.ownBlock=some b->n * z<=M):w'.ownsRow 0 e z v n us:=by
 by_cases au:v.ownBlock=some b
 ·obtain ⟨arr,iO,bO,h1,af,aJ,bo⟩:=s.here;obtain ⟨hu,bE⟩:=h;rcases bE with ⟨rfl,rfl⟩ | ⟨g,cap,cur,rfl,aI,J,o2,jJ,rL,tR⟩
  ·grind [Value.ownBlock]
  ·simp only [Value.ownBlock,Option.some.injEq] at au;subst au;rw [h1] at J;cases J;refine ⟨hu,.inr ⟨g,cap,iO,rfl,aI,af,o2,jJ,by omega,?_⟩⟩;rw [<- tR];have:=congrArg (List.take (n * z)) bo
   rwa [List.take_take,List.take_take,Nat.min_eq_left (az rfl)] at this
 ·exact rI h λc J=>s.other c (h.lt c J).2 λe=>au (e ▸ J)
theorem R.spare {b M:Nat}(s:DP w w' b M) (bb:∀ c,I c->c<w.heap.size/\c≠b) (lf:∀ x v,ρ x v->ρ' x v) {x:ab}{v:Value}{F:a6}(h:R w I ρ x v F) {q:List Nat}{z n:Nat}{cs:List ab}{hX:Value}
  (e5:x.at q=some (.own z n cs)) (hw:walk w v q=some hX) (au:hX.ownBlock=some b) (az:n * z<=M) :
  R w' I ρ' x v F/\∀ r y,x.at r=some y->walk w' v r=walk w v r:=by
 obtain ⟨Z4,cp,wR,dA,di,ey,kC⟩:=R.focus q h e5;rw [hw] at wR;cases wR;have n5:cp b:=dA.pX b au;have aN:=h.lt;have same:∀ c,F c->c≠b->w'.heap[c]?=w.heap[c]?:=λc J cU=>s.other c (aN c J) cU;have acP:=dA;cases dA with
 | ref j=>simp [ab.isRef] at j
 | @own _ _ _ _ e us Fs _ aM ah h1 aj aO iV aE =>
  have mv:=s.row aM λ_=>az;have cU:∀ k c,k<cs.length->Fs k c->c≠b:=λk c hk J e=>iV k c hk J (e ▸ au);have iT:∀ k c,k<cs.length->Fs k c->F c:=λk c hk J=>di c ((aE c).2 (.inr ⟨k,hk,J⟩));have ri:R w' I ρ' (.own z n cs) hX cp:=by
   refine .own mv ah h1 (λk x u j hu=>?_) aO iV aE;have hk:k<cs.length:=(List.getElem?_eq_some_iff.1 j).1;exact (aj k x u j hu).frame (λc J=>s.other c (bb c J).1 (bb c J).2) (λ_ h=>h) lf λc J=>same c (iT k c hk J) (cU k c hk J)
  constructor
  ·obtain ⟨cM,ie,oP⟩:=kC w' I ρ' _ cp ⟨λc J=>s.other c (bb c J).1 (bb c J).2,λc J az=>same c J λe=>az (e ▸ n5),λ_ h=>h,lf⟩ ri (λc J _=>J) λ_ h=>by cases h
   rw [ab.P8 q e5] at ie;refine ie.te λc=>?_;rw [oP c];constructor
   ·rintro (⟨h,_⟩ | h)
    ·exact h
    ·exact di c h
   ·intro h;by_cases J:cp c
    ·exact .inr J
    ·exact .inl ⟨h,J⟩
  ·obtain ⟨eR,eY⟩:=ey w' λc J az=>same c J λe=>az (e ▸ n5);intro r y ee;rcases eY r y ee with ⟨dk,rfl⟩ | h
   ·rw [Dp,Dp,eR,hw];simp only [Option.bind_some];cases dk with
    | nil=>rfl
    | cons k dk =>
     rw [ab.GU,e5] at ee;obtain ⟨c,hk,J⟩:=ab.uv (x:=.own z n cs) ee;simp only [ab.kids] at hk;have dc:k<cs.length:=(List.getElem?_eq_some_iff.1 hk).1;have hu:us[k]?=some us[k]:=List.getElem?_eq_getElem (ah ▸ dc);have:=R.o8 (w':=w') dk (aj k c _ hk hu) J λc J=>same c (iT k c dc J) (cU k c dc J);simp [walk,ot aM hu,ot mv hu,this]
   ·exact h
end
end Go.Own
