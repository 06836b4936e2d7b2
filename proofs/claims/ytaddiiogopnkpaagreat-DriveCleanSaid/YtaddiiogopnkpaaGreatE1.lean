/- Parts of the proof that the last text states. -/
import Derived.Orders
import Derived.WalkKit
set_option linter.unusedSectionVars false
namespace Go.Own
open Go
structure Place where
 root:Nat
 path:List Nat
 deriving DecidableEq,Repr
def Place.push (p:Place) (k:Nat):Place:=⟨p.root,p.path++[k]⟩
inductive ab where
 | lit (v:Value)
 | aS
 | bl (z n:Nat) (cs:List ab)
 | own (z n:Nat) (cs:List ab)
 | obj (cs:List ab)
 | agg (cs:List ab)
 | bR (cs:List ab)
 | cx (cs:List ab)
 | ptr (p:Place) (k:Nat)
 | a6 (z:Nat) (p:Place) (n:Nat)
 | sub (z:Nat) (p:Place) (lo n:Nat)
 | bI (z:Nat) (p:Place) (n m:Nat) (new:List ab)
 | cD (fn:Fn) (first caps:List ab)
 | mp (p:Array MapEntry->Nat->Prop)
 | gm (p:Place)
 | imp (p:Array MapEntry->Nat->Prop)
 | dead
 | self (k:Nat × Nat)
 | hY (t:Nat) (us:List Value)
 deriving Inhabited
def tE (cs:List ab):Prop:=∀ (k:Nat) (j:Nat × Nat),cs[k]?≠some (.self j)
def sT (x:ab):Prop:=∀ cs,x=.agg cs->tE cs
abbrev a':=Nat->Prop
def ab.isRef:ab->Bool
 | .ptr .. | .a6 .. | .sub .. | .gm ..=>true
 | _=>false
inductive R (w:World) (I:a') (ρ:ab->Value->Prop):ab->Value->a'->Prop
 | lit {v:Value}{F:a'}(hv:v.oneCell'=true) (aH:∀ c,¬ F c):R w I ρ (.lit v) v F
 | aS {F:a'}(aH:∀ c,¬ F c):R w I ρ .aS (.slice none 0 0) F
 | dead {v:Value}{F:a'}(aH:∀ c,¬ F c):R w I ρ .dead v F
 | hY {t:Nat}{us:List Value}{v:Value}{F:a'}(aX:w.ownsRow 0 t 1 v us.length us) (h1:v.oneCell'=true) (aH:∀ c,F c↔v.ownBlock=some c):R w I ρ (.hY t us) v F
 | mv {k:Nat × Nat}{v:Value}{F:a'}(aH:∀ c,¬ F c):R w I ρ (.self k) v F
 | ref {x:ab}{v:Value}{F:a'}(J:x.isRef=true) (h:ρ x v) (aH:∀ c,¬ F c):R w I ρ x v F
 | gK {z cap:Nat}{a:Option Addr}{F:a'}(aH:∀ c,¬ F c):R w I ρ (.bl z 0 []) (.slice a 0 cap) F
 | bl {z n cap:Nat}{cs:List ab}{ad:Addr}{us:Nat->Value}{F:a'}(aH:∀ c,¬ F c) (lW:n<=cap) (bc:I ad.block) (av:ad.spot=none) (ah:cs.length=n * z) (h1:∀ (k:Nat) (x:ab),cs[k]?=some x->(us k).oneCell'=true)
   (aa:∀ (k:Nat) (x:ab),cs[k]?=some x->w.cell? ⟨ad.block,ad.off+k,none⟩=some (us k)) (hr:∀ (k:Nat) (x:ab),cs[k]?=some x->R w I ρ x (us k) (λ_=>False)) :
   R w I ρ (.bl z n cs) (.slice (some ad) n cap) F
 | cx {cs:List ab}{ad:Addr}{us:Nat->Value}{F:a'}(aH:∀ c,¬ F c) (bc:I ad.block) (av:ad.spot=none) (h1:∀ (k:Nat) (x:ab),cs[k]?=some x->(us k).oneCell'=true)
   (aa:∀ (k:Nat) (x:ab),cs[k]?=some x->w.cell? ⟨ad.block,ad.off+k,none⟩=some (us k)) (hr:∀ (k:Nat) (x:ab),cs[k]?=some x->R w I ρ x (us k) (λ_=>False)) :
   R w I ρ (.cx cs) (.pointer (some ad)) F
 | own {z n:Nat}{cs:List ab}{v:Value}{e:TypeId}{us:List Value}{Fs:Nat->a'}{F:a'}
   (aX:w.ownsRow 0 e z v n us) (ah:cs.length=us.length) (h1:∀ (k:Nat) (u:Value),us[k]?=some u->u.oneCell'=true)
   (hr:∀ (k:Nat) (x:ab) (u:Value),cs[k]?=some x->us[k]?=some u->R w I ρ x u (Fs k))
   (aQ:∀ (j k c:Nat),j<cs.length->k<cs.length->Fs j c->Fs k c->j=k) (ar:∀ (k c:Nat),k<cs.length->Fs k c->v.ownBlock≠some c)
   (aH:∀ c,F c↔v.ownBlock=some c\/∃ k,k<cs.length/\Fs k c):R w I ρ (.own z n cs) v F
 | obj {cs:List ab}{b:Nat}{e:TypeId}{arr:Array Value}{Fs:Nat->a'}{F:a'}
   (aX:w.heap[b]?=some (.cells arr e (0,0))) (ah:cs.length=arr.size) (h1:∀ (k:Nat) (u:Value),arr[k]?=some u->u.oneCell'=true)
   (hr:∀ (k:Nat) (x:ab) (u:Value),cs[k]?=some x->arr[k]?=some u->R w I ρ x u (Fs k))
   (aQ:∀ (j k c:Nat),j<cs.length->k<cs.length->Fs j c->Fs k c->j=k) (ar:∀ (k:Nat),k<cs.length->¬ Fs k b)
   (aH:∀ c,F c↔c=b\/∃ k,k<cs.length/\Fs k c) (av:∀ (k:Nat) (j:Nat × Nat) (u:Value),cs[k]?=some (.self j)->arr[k]?=some u->(u=.pointer none/\e=j.2)\/u=.pointer (some ⟨b,j.1,none⟩)):R w I ρ (.obj cs) (.pointer (some ⟨b,0,none⟩)) F
 | agg {cs:List ab}{vs:Array Value}{Fs:Nat->a'}{F:a'}(ah:cs.length=vs.size) (h1:∀ (k:Nat) (u:Value),vs[k]?=some u->u.oneCell'=true)
   (hr:∀ (k:Nat) (x:ab) (u:Value),cs[k]?=some x->vs[k]?=some u->R w I ρ x u (Fs k))
   (aQ:∀ (j k c:Nat),j<cs.length->k<cs.length->Fs j c->Fs k c->j=k)
   (aH:∀ c,F c↔∃ k,k<cs.length/\Fs k c):R w I ρ (.agg cs) (.agg vs) F
 | bR {cs:List ab}{vs:Array Value}{Fs:Nat->a'}{F:a'}(ah:cs.length=vs.size)
   (hr:∀ (k:Nat) (x:ab) (u:Value),cs[k]?=some x->vs[k]?=some u->R w I ρ x u (Fs k))
   (aQ:∀ (j k c:Nat),j<cs.length->k<cs.length->Fs j c->Fs k c->j=k)
   (aH:∀ c,F c↔∃ k,k<cs.length/\Fs k c):R w I ρ (.bR cs) (.tuple vs) F
 | cD {fn:Fn}{first caps:List ab}{v1 v2:Array Value}{F:a'}(aH:∀ c,¬ F c) (h1:first.length=v1.size) (af:caps.length=v2.size)
   (i':∀ (k:Nat) (x:ab) (u:Value),first[k]?=some x->v1[k]?=some u->R w I ρ x u (λ_=>False))
   (hK:∀ (k:Nat) (x:ab) (u:Value),caps[k]?=some x->v2[k]?=some u->R w I ρ x u (λ_=>False)):R w I ρ (.cD fn first caps) (.func fn v1 v2) F
 | mp {p:Array MapEntry->Nat->Prop}{b:Nat}{es:Array MapEntry}{clock:Nat}{F:a'}(aX:w.heap[b]?=some (.map es clock)) (aq:p es clock) (aH:∀ c,F c↔c=b):R w I ρ (.mp p) (.map (some b)) F
 | imp {p:Array MapEntry->Nat->Prop}{b:Nat}{es:Array MapEntry}{clock:Nat}{F:a'}(aH:∀ c,¬ F c) (bc:I b) (aX:w.heap[b]?=some (.map es clock)) (aq:p es clock):R w I ρ (.imp p) (.map (some b)) F
theorem R.zu {w:World}{I:a'}{ρ:ab->Value->Prop}{x:ab}{v:Value}{F cU:a'}(h:R w I ρ x v F) (aH:∀ c,F c↔cU c):R w I ρ x v cU:=by
 have:F=cU:=funext λc=>propext (aH c)
 grind
theorem R.lt {w:World}{I:a'}{ρ:ab->Value->Prop}{x:ab}{v:Value}{F:a'}(h:R w I ρ x v F):∀ c,F c->c<w.heap.size:=by
 induction h with
 | lit _ aH | aS aH | dead aH | mv aH | ref _ _ aH | gK aH | bl aH | cx aH | cD aH | imp aH=>exact λc aa=>absurd aa (aH c)
 | hY aX _ aH=>exact λc aa=>(aX.lt c ((aH c).1 aa)).2
 | mp aX _ aH=>exact λc aa=>by rw [(aH c).1 aa]; exact (Array.getElem?_eq_some_iff.1 aX).1
 | own aX ah h1 hr aQ ar aH aO =>
  intro c aa;rcases (aH c).1 aa with h | ⟨k,hk,h⟩
  ·exact (aX.lt c h).2
  ·exact aO k _ _ (List.getElem?_eq_getElem hk) (List.getElem?_eq_getElem (ah ▸ hk)) c h
 | obj aX ah h1 hr aQ ar aH av aO =>
  intro c aa;rcases (aH c).1 aa with rfl | ⟨k,hk,h⟩
  ·exact (Array.getElem?_eq_some_iff.1 aX).1
  ·exact aO k _ _ (List.getElem?_eq_getElem hk) (Array.getElem?_eq_getElem (ah ▸ hk)) c h
 | agg ah h1 hr aQ aH aO =>
  intro c aa;obtain ⟨k,hk,h⟩:=(aH c).1 aa;exact aO k _ _ (List.getElem?_eq_getElem hk) (Array.getElem?_eq_getElem (ah ▸ hk)) c h
 | bR ah hr aQ aH aO =>
  intro c aa;obtain ⟨k,hk,h⟩:=(aH c).1 aa;exact aO k _ _ (List.getElem?_eq_getElem hk) (Array.getElem?_eq_getElem (ah ▸ hk)) c h
theorem uF {w w':World}{e:TypeId}{z n:Nat}{v:Value}{us:List Value}(h:w.ownsRow 0 e z v n us) (ar:∀ c,v.ownBlock=some c->w'.heap[c]?=w.heap[c]?):w'.ownsRow 0 e z v n us:=by
 obtain ⟨h1,af⟩:=h;refine ⟨h1,?_⟩;rcases af with af | ⟨g,cap,cur,rfl,aN,bO,rest⟩
 ·grind
 ·exact .inr ⟨g,cap,cur,rfl,aN,by rw [ar g rfl]; exact bO,rest⟩
theorem R.frame {w w':World}{I I':a'}{ρ ρ':ab->Value->Prop}{x:ab}{v:Value}{F:a'}(h:R w I ρ x v F)
  (bc:∀ c,I c->w'.heap[c]?=w.heap[c]?) (oD:∀ c,I c->I' c) (l1:∀ x v,ρ x v->ρ' x v) :
  (∀ c,F c->w'.heap[c]?=w.heap[c]?)->R w' I' ρ' x v F:=by
 induction h with
 | lit hv aH=>exact λ_=>.lit hv aH
 | aS aH=>exact λ_=>.aS aH
 | dead aH=>exact λ_=>.dead aH
 | mv aH=>exact λ_=>.mv aH
 | ref J h aH=>exact λ_=>.ref J (l1 _ _ h) aH
 | gK aH=>exact λ_=>.gK aH
 | bl aH lW hi av ah h1 aa hr aO =>
  exact λ_=>.bl aH lW (oD _ hi) av ah h1 (λk x hk=>(World.cell?_of_block (a:=⟨_,_,none⟩) (bc _ hi)).trans (aa k x hk)) λk x hk=>aO k x hk (λc aa=>aa.elim)
 | cx aH hi av h1 aa hr aO =>
  exact λ_=>.cx aH (oD _ hi) av h1 (λk x hk=>(World.cell?_of_block (a:=⟨_,_,none⟩) (bc _ hi)).trans (aa k x hk)) λk x hk=>aO k x hk (λc aa=>aa.elim)
 | own aX ah h1 hr aQ ar aH aO =>
  intro aU;refine .own (uF aX λc aa=>aU c ((aH c).2 (.inl aa))) ah h1 (λk x u J hu=>aO k x u J hu λc aa=>aU c ((aH c).2 (.inr ⟨k,?_,aa⟩))) aQ ar aH;exact (List.getElem?_eq_some_iff.1 J).1
 | obj aX ah h1 hr aQ ar aH av aO =>
  intro aU;refine .obj ((aU _ ((aH _).2 (.inl rfl))).trans aX) ah h1 (λk x u J hu=>aO k x u J hu λc aa=>aU c ((aH c).2 (.inr ⟨k,?_,aa⟩))) aQ ar aH av;exact (List.getElem?_eq_some_iff.1 J).1
 | agg ah h1 hr aQ aH aO =>
  intro aU;refine .agg ah h1 (λk x u J hu=>aO k x u J hu λc aa=>aU c ((aH c).2 ⟨k,?_,aa⟩)) aQ aH;exact (List.getElem?_eq_some_iff.1 J).1
 | bR ah hr aQ aH aO =>
  intro aU;refine .bR ah (λk x u J hu=>aO k x u J hu λc aa=>aU c ((aH c).2 ⟨k,?_,aa⟩)) aQ aH;exact (List.getElem?_eq_some_iff.1 J).1
 | imp aH hi aX aq=>exact λ_=>.imp aH (oD _ hi) ((bc _ hi).trans aX) aq
 | hY aX h1 aH=>exact λaU=>.hY (uF aX λc aa=>aU c ((aH c).2 aa)) h1 aH
 | mp aX aq aH=>exact λaU=>.mp ((aU _ ((aH _).2 rfl)).trans aX) aq aH
 | cD aH h1 af i' hK gj fV=>exact λ_=>.cD aH h1 af (λk x u J hu=>gj k x u J hu λc aa=>aa.elim) (λk x u J hu=>fV k x u J hu λc aa=>aa.elim)
def ab.kids:ab->List ab
 | .own _ _ cs=>cs
 | .obj cs=>cs
 | .agg cs=>cs
 | .bR cs=>cs
 | _=>[]
def ab.sI (x:ab) (k:Nat) (y:ab):ab :=
 match x with
 | .own z n cs=>.own z n (cs.set k y)
 | .obj cs=>.obj (cs.set k y)
 | .agg cs=>.agg (cs.set k y)
 | .bR cs=>.bR (cs.set k y)
 | x=>x
def ab.at:ab->List Nat->Option ab
 | x,[]=>some x
 | x,k::p =>
  match x.kids[k]? with
  | some c=>c.at p
  | none=>none
def ab.setAt:ab->List Nat->ab->ab
 | _,[],y=>y
 | x,k::p,y =>
  match x.kids[k]? with
  | some c=>x.sI k (c.setAt p y)
  | none=>x
theorem ab.aas {x y z:ab}{k:Nat}{j:Nat × Nat}{p:List Nat}(h:x.at (k::p)=some y):x.setAt (k::p) z≠.self j:=by
 intro e;simp only [ab.at,ab.setAt] at h e;cases hk:x.kids[k]? with
 | none=>rw [hk] at h; cases h
 | some c =>
  rw [hk] at e;cases x <;> simp [ab.sI,ab.kids] at e hk
def child (w:World) (v:Value) (k:Nat):Option Value :=
 match v with
 | .agg cs=>cs[k]?
 | .tuple cs=>cs[k]?
 | .slice (some a) _ _=>w.cell? ⟨a.block,a.off+k,none⟩
 | .pointer (some a)=>w.cell? ⟨a.block,a.off+k,none⟩
 | _=>none
def walk (w:World):Value->List Nat->Option Value
 | v,[]=>some v
 | v,k::p =>
  match child w v k with
  | some u=>walk w u p
  | none=>none
theorem pk {w:World}{e:TypeId}{z n:Nat}{v:Value}{us:List Value}(h:w.ownsRow 0 e z v n us) {k:Nat}{u:Value}(hu:us[k]?=some u):child w v k=some u:=by
 obtain ⟨h1,af⟩:=h;rcases af with ⟨rfl,rfl⟩ | ⟨g,cap,cur,rfl,aN,bO,aC,aa,av,au⟩
 ·grind
 ·rw [<- au] at hu;rw [List.getElem?_take] at hu
  split at hu
  ·simpa [child,World.cell?,bO] using hu
  grind
theorem Q4 {α:Type}{l:List α}{k j:Nat}{y x:α}(h:(l.set k y)[j]?=some x):(j=k/\x=y/\k<l.length)\/(j≠k/\l[j]?=some x):=by
 grind
structure Out (w w':World) (I I':a') (ρ ρ':ab->Value->Prop) (F cq:a'):Prop where
 bl:∀ c,I c->w'.heap[c]?=w.heap[c]?
 rest:∀ c,F c->¬ cq c->w'.heap[c]?=w.heap[c]?
 more:∀ c,I c->I' c
 ref:∀ x v,ρ x v->ρ' x v
theorem Out.mono {w w':World}{I I':a'}{ρ ρ':ab->Value->Prop}{F cq cU jh:a'}(h:Out w w' I I' ρ ρ' F cq) (h1:∀ c,cU c->F c) (af:∀ c,cU c->¬ jh c->¬ cq c):Out w w' I I' ρ ρ' cU jh :=
 ⟨h.bl,λc aa aC=>h.rest c (h1 c aa) (af c aa aC),h.more,h.ref⟩
theorem R.outside {w w':World}{I I':a'}{ρ ρ':ab->Value->Prop}{F cq:a'}(o:Out w w' I I' ρ ρ' F cq) {x:ab}{v:Value}{G:a'}(h:R w I ρ x v G) (dh:∀ c,G c->F c/\¬ cq c):R w' I' ρ' x v G :=
 h.frame o.bl o.more o.ref λc aa=>o.rest c (dh c aa).1 (dh c aa).2
theorem F3 {w w':World}{I I':a'}{ρ ρ':ab->Value->Prop}{cs:List ab}{get:Nat->Option Value}{Fs:Nat->a'}{F cq:a'}
  (hr:∀ (k:Nat) (x:ab) (u:Value),cs[k]?=some x->get k=some u->R w I ρ x u (Fs k))
  (aQ:∀ (j k c:Nat),j<cs.length->k<cs.length->Fs j c->Fs k c->j=k)
  (aH:∀ k c,k<cs.length->Fs k c->F c) {k:Nat}(hk:k<cs.length) (ao:∀ c,cq c->Fs k c) (o:Out w w' I I' ρ ρ' F cq)
  {y:ab}{u:Value}{bD:a'}(hu:get k=some u) (aY:R w' I' ρ' y u bD) (eE:∀ c,bD c↔(Fs k c/\¬ cq c)\/(bD c/\¬ (F c/\¬ cq c))) :
  (∀ (j:Nat) (x:ab) (u:Value),(cs.set k y)[j]?=some x->get j=some u->R w' I' ρ' x u (if j=k then bD else Fs j)) /\
  (∀ (i j c:Nat),i<(cs.set k y).length->j<(cs.set k y).length->(if i=k then bD else Fs i) c->(if j=k then bD else Fs j) c->i=j):=by
 constructor
 ·intro j x sM J h0;rcases Q4 J with ⟨rfl,rfl,aP⟩ | ⟨cS,J⟩
  ·grind
  ·rw [if_neg cS];have ag:j<cs.length:=(List.getElem?_eq_some_iff.1 J).1;exact (hr j x sM J h0).outside o λc aa=>⟨aH j c ag aa,λef=>cS (aQ j k c ag hk aa (ao c ef))⟩
 grind
theorem F4 {m:Nat}{Fs:Nat->a'}{bD cq jh:a'}{k:Nat}(hk:k<m)
  (aQ:∀ (j k c:Nat),j<m->k<m->Fs j c->Fs k c->j=k) (ao:∀ c,cq c->Fs k c) (eE:∀ c,bD c↔(Fs k c/\¬ cq c)\/jh c) (c:Nat) :
  (∃ j,j<m/\(if j=k then bD else Fs j) c)↔((∃ j,j<m/\Fs j c)/\¬ cq c)\/jh c:=by
 grind
theorem R.p6 {w w':World}{I:a'}{ρ:ab->Value->Prop}:∀ (r:List Nat) {x:ab}{v:Value}{F:a'}{y:ab},R w I ρ x v F->x.at r=some y ->
  (∀ c,F c->w'.heap[c]?=w.heap[c]?)->walk w' v r=walk w v r
 | [],_,_,_,_,_,_,_=>rfl
 | k::p,x,v,F,y,h,fI,aU=>by
  simp only [ab.at] at fI;cases hc:x.kids[k]? with
  | none=>rw [hc] at fI; cases fI
  | some q9 =>
   rw [hc] at fI;simp only at fI;cases h with
   | @own z n cs _ e us Fs _ aX ah h1 hr aQ ar aH =>
    simp only [ab.kids] at hc;have hk:k<cs.length:=(List.getElem?_eq_some_iff.1 hc).1;have hu:us[k]?=some us[k]:=List.getElem?_eq_getElem (ah ▸ hk);have ml:=uF (w':=w') aX λc aa=>aU c ((aH c).2 (.inl aa));have:=R.p6 (w':=w') p (hr k q9 _ hc hu) fI λc aa=>aU c ((aH c).2 (.inr ⟨k,hk,aa⟩));simp [walk,pk aX hu,pk ml hu,this]
   | @obj cs b e arr Fs _ aX ah h1 hr aQ ar aH av =>
    simp only [ab.kids] at hc;have hk:k<cs.length:=(List.getElem?_eq_some_iff.1 hc).1;have hu:arr[k]?=some arr[k]:=Array.getElem?_eq_getElem (ah ▸ hk);have ml:=(aU b ((aH b).2 (.inl rfl))).trans aX;have:=R.p6 (w':=w') p (hr k q9 _ hc hu) fI λc aa=>aU c ((aH c).2 (.inr ⟨k,hk,aa⟩));simp [walk,child,World.cell?,aX,ml,hu,this]
   | @agg cs vs Fs _ ah h1 hr aQ aH =>
    simp only [ab.kids] at hc;have hk:k<cs.length:=(List.getElem?_eq_some_iff.1 hc).1;have hu:vs[k]?=some vs[k]:=Array.getElem?_eq_getElem (ah ▸ hk);have:=R.p6 (w':=w') p (hr k q9 _ hc hu) fI λc aa=>aU c ((aH c).2 ⟨k,hk,aa⟩);simp [walk,child,hu,this]
   | @bR cs vs Fs _ ah hr aQ aH =>
    simp only [ab.kids] at hc;have hk:k<cs.length:=(List.getElem?_eq_some_iff.1 hc).1;have hu:vs[k]?=some vs[k]:=Array.getElem?_eq_getElem (ah ▸ hk);have:=R.p6 (w':=w') p (hr k q9 _ hc hu) fI λc aa=>aU c ((aH c).2 ⟨k,hk,aa⟩);simp [walk,child,hu,this]
   | ref J _ _=>cases x <;> simp [ab.isRef,ab.kids] at J hc
   | _=>simp [ab.kids] at hc
theorem R.focus {w:World}{I:a'}{ρ:ab->Value->Prop}:∀ (q:List Nat) {x:ab}{v:Value}{F:a'}{y:ab},R w I ρ x v F->x.at q=some y ->
  ∃ h4 cq,walk w v q=some h4/\R w I ρ y h4 cq/\(∀ c,cq c->F c) /\
   (∀ (w':World),(∀ c,F c->¬ cq c->w'.heap[c]?=w.heap[c]?)->walk w' v q=some h4/\∀ r u3,x.at r=some u3->(∃ c',r=q++c')\/walk w' v r=walk w v r) /\
   ∀ (w':World) (I':a') (ρ':ab->Value->Prop) (y':ab) (jh:a'),Out w w' I I' ρ ρ' F cq->R w' I' ρ' y' h4 jh->(∀ c,jh c->F c->cq c)->(∀ j,y'=.self j->y=.self j) ->
    ∃ cU,R w' I' ρ' (x.setAt q y') v cU/\∀ c,cU c↔(F c/\¬ cq c)\/jh c
 | [],x,v,F,y,h,fI=>by
  simp only [ab.at,Option.some.injEq] at fI;subst fI;exact ⟨v,F,rfl,h,λ_ h=>h,λ_ _=>⟨rfl,λr _ _=>.inl ⟨r,rfl⟩⟩,λw' I' ρ' y' jh _ aY _ _=>⟨jh,aY,λc=>by simp⟩⟩
 | k::p,x,v,F,y,h,fI=>by
  simp only [ab.at] at fI;cases hc:x.kids[k]? with
  | none=>rw [hc] at fI; cases fI
  | some q9 =>
   rw [hc] at fI;simp only at fI;have zW:∀ y',x.setAt (k::p) y'=x.sI k (q9.setAt p y'):=λy'=>by simp [ab.setAt,hc]
   cases h with
   | @own z n cs _ e us Fs _ aX ah h1 hr aQ ar aH =>
    simp only [ab.kids] at hc;have hk:k<cs.length:=(List.getElem?_eq_some_iff.1 hc).1;have hu:us[k]?=some us[k]:=List.getElem?_eq_getElem (ah ▸ hk);obtain ⟨h4,cq,hw,dt,c_,eP,kD⟩:=R.focus p (hr k q9 _ hc hu) fI;refine ⟨h4,cq,by simp [walk,pk aX hu,hw],dt,λc aa=>(aH c).2 (.inr ⟨k,hk,c_ c aa⟩),?_,?_⟩
    ·intro w' av;have n0:∀ j c,j<cs.length->Fs j c->¬ cq c->w'.heap[c]?=w.heap[c]?:=λj c ag aa aC=>av c ((aH c).2 (.inr ⟨j,ag,aa⟩)) aC;obtain ⟨hX,gU⟩:=eP w' λc aa aC=>n0 k c hk aa aC;have ml:=uF (w':=w') aX λc aa=>av c ((aH c).2 (.inl aa)) λef=>ar k c hk (c_ c ef) aa;refine ⟨by simp [walk,pk ml hu,hX],?_⟩;intro r u3 dH;cases r with
     | nil=>exact .inr rfl
     | cons j r =>
      simp only [ab.at,ab.kids] at dH;cases ag:cs[j]? with
      | none=>rw [ag] at dH; cases dH
      | some w2 =>
       rw [ag] at dH;simp only at dH;have eF:j<cs.length:=(List.getElem?_eq_some_iff.1 ag).1;have rq:us[j]?=some us[j]:=List.getElem?_eq_getElem (ah ▸ eF);by_cases gH:j=k
       ·subst gH;rw [hc] at ag;cases ag;rcases gU r u3 dH with ⟨c',rfl⟩ | h
        ·exact .inl ⟨c',rfl⟩
        ·exact .inr (by simp [walk,pk aX hu,pk ml hu,h])
       ·have h:=R.p6 (w':=w') r (hr j w2 _ ag rq) dH λc aa=>n0 j c eF aa λef=>gH (aQ j k c eF hk aa (c_ c ef));exact .inr (by simp [walk,pk aX rq,pk ml rq,h])
    intro w' I' ρ' y' jh o iL nx ly;have jt:∀ j c,j<cs.length->Fs j c->F c:=λj c ag aa=>(aH c).2 (.inr ⟨j,ag,aa⟩);obtain ⟨bD,kp,eE⟩:=kD w' I' ρ' y' jh (o.mono (λc aa=>jt k c hk aa) λc _ h=>h) iL (λc aa pa=>nx c aa (jt k c hk pa)) ly;obtain ⟨dH,o_⟩:=F3 (get:=λj=>us[j]?) hr aQ jt hk c_ o hu kp λc=>by
     constructor
     ·intro h;rcases (eE c).1 h with h1 | h1
      ·exact .inl h1
      ·exact .inr ⟨h,λ⟨af,aE⟩=>aE (nx c h1 af)⟩
     ·rintro (h1 | ⟨h1,_⟩)
      ·exact (eE c).2 (.inl h1)
      ·exact h1
    rw [zW];refine ⟨_,.own (Fs:=λj=>if j=k then bD else Fs j) (uF aX λc aa=>o.rest c ((aH c).2 (.inl aa)) λef=>ar k c hk (c_ c ef) aa) (by simpa using ah) h1 dH o_ ?_ (λc=>Iff.rfl),λc=>?_⟩
    ·intro j c ag aa vK;rw [List.length_set] at ag;by_cases gH:j=k
     ·rw [if_pos gH] at aa;rcases (eE c).1 aa with ⟨h1,_⟩ | h1
      ·exact ar k c hk h1 vK
      ·exact ar k c hk (c_ c (nx c h1 ((aH c).2 (.inl vK)))) vK
     ·rw [if_neg gH] at aa; exact ar j c ag aa vK
    ·have hu:=F4 hk aQ c_ eE c;simp only [List.length_set];rw [hu,aH c];have eN:v.ownBlock=some c->¬ cq c:=λh1 af=>ar k c hk (c_ c af) h1;constructor
     ·rintro (h1 | ⟨h1,af⟩ | h1)
      ·exact .inl ⟨.inl h1,eN h1⟩
      ·exact .inl ⟨.inr h1,af⟩
      ·exact .inr h1
     ·rintro (⟨h1 | h1,af⟩ | h1)
      ·exact .inl h1
      ·exact .inr (.inl ⟨h1,af⟩)
      ·exact .inr (.inr h1)
   | @obj cs b e arr Fs _ aX ah h1 hr aQ ar aH av =>
    simp only [ab.kids] at hc;have hk:k<cs.length:=(List.getElem?_eq_some_iff.1 hc).1;have hu:arr[k]?=some arr[k]:=Array.getElem?_eq_getElem (ah ▸ hk);obtain ⟨h4,cq,hw,dt,c_,eP,kD⟩:=R.focus p (hr k q9 _ hc hu) fI;refine ⟨h4,cq,by simp [walk,child,World.cell?,aX,hu,hw],dt,λc aa=>(aH c).2 (.inr ⟨k,hk,c_ c aa⟩),?_,?_⟩
    ·intro w' av;have n0:∀ j c,j<cs.length->Fs j c->¬ cq c->w'.heap[c]?=w.heap[c]?:=λj c ag aa aC=>av c ((aH c).2 (.inr ⟨j,ag,aa⟩)) aC;obtain ⟨hX,gU⟩:=eP w' λc aa aC=>n0 k c hk aa aC;have ml:=(av b ((aH b).2 (.inl rfl)) λef=>ar k hk (c_ b ef)).trans aX;refine ⟨by simp [walk,child,World.cell?,ml,hu,hX],?_⟩;intro r u3 dH;cases r with
     | nil=>exact .inr rfl
     | cons j r =>
      simp only [ab.at,ab.kids] at dH;cases ag:cs[j]? with
      | none=>rw [ag] at dH; cases dH
      | some w2 =>
       rw [ag] at dH;simp only at dH;have eF:j<cs.length:=(List.getElem?_eq_some_iff.1 ag).1;have rq:arr[j]?=some arr[j]:=Array.getElem?_eq_getElem (ah ▸ eF);by_cases gH:j=k
       ·subst gH;rw [hc] at ag;cases ag;rcases gU r u3 dH with ⟨c',rfl⟩ | h
        ·exact .inl ⟨c',rfl⟩
        ·exact .inr (by simp [walk,child,World.cell?,aX,ml,hu,h])
       ·have h:=R.p6 (w':=w') r (hr j w2 _ ag rq) dH λc aa=>n0 j c eF aa λef=>gH (aQ j k c eF hk aa (c_ c ef));exact .inr (by simp [walk,child,World.cell?,aX,ml,rq,h])
    intro w' I' ρ' y' jh o iL nx ly;have jt:∀ j c,j<cs.length->Fs j c->F c:=λj c ag aa=>(aH c).2 (.inr ⟨j,ag,aa⟩);obtain ⟨bD,kp,eE⟩:=kD w' I' ρ' y' jh (o.mono (λc aa=>jt k c hk aa) λc _ h=>h) iL (λc aa pa=>nx c aa (jt k c hk pa)) ly;obtain ⟨dH,o_⟩:=F3 (get:=λj=>arr[j]?) hr aQ jt hk c_ o hu kp λc=>by
     constructor
     ·intro h;rcases (eE c).1 h with h1 | h1
      ·exact .inl h1
      ·exact .inr ⟨h,λ⟨af,aE⟩=>aE (nx c h1 af)⟩
     ·rintro (h1 | ⟨h1,_⟩)
      ·exact (eE c).2 (.inl h1)
      ·exact h1
    rw [zW];have nY:F b:=(aH b).2 (.inl rfl);have Jv:¬ cq b:=λh=>ar k hk (c_ b h);refine ⟨_,.obj (Fs:=λj=>if j=k then bD else Fs j) ((o.rest b nY Jv).trans aX) (by simpa using ah) h1 dH o_ ?_ (λc=>Iff.rfl) (λi j u hi h0=>?_),λc=>?_⟩
    ·intro j ag aa;rw [List.length_set] at ag;by_cases gH:j=k
     ·rw [if_pos gH] at aa;rcases (eE b).1 aa with ⟨h1,_⟩ | h1
      ·exact ar k hk h1
      ·exact Jv (nx b h1 nY)
     ·rw [if_neg gH] at aa; exact ar j ag aa
    ·rcases Q4 hi with ⟨rfl,he,_⟩ | ⟨_,hi⟩
     ·refine av _ j u ?_ h0;rw [hc];cases p with
      | nil =>
       simp only [ab.at,Option.some.injEq] at fI;rw [fI];exact congrArg some (ly j he.symm)
      | cons kc Le=>exact absurd he.symm (ab.aas fI)
     ·exact av i j u hi h0
    ·have hu:=F4 hk aQ c_ eE c;simp only [List.length_set];rw [hu,aH c];constructor
     ·rintro (rfl | ⟨h1,af⟩ | h1)
      ·exact .inl ⟨.inl rfl,Jv⟩
      ·exact .inl ⟨.inr h1,af⟩
      ·exact .inr h1
     ·rintro (⟨h1 | h1,af⟩ | h1)
      ·exact .inl h1
      ·exact .inr (.inl ⟨h1,af⟩)
      ·exact .inr (.inr h1)
   | @agg cs vs Fs _ ah h1 hr aQ aH =>
    simp only [ab.kids] at hc;have hk:k<cs.length:=(List.getElem?_eq_some_iff.1 hc).1;have hu:vs[k]?=some vs[k]:=Array.getElem?_eq_getElem (ah ▸ hk);obtain ⟨h4,cq,hw,dt,c_,eP,kD⟩:=R.focus p (hr k q9 _ hc hu) fI;refine ⟨h4,cq,by simp [walk,child,hu,hw],dt,λc aa=>(aH c).2 ⟨k,hk,c_ c aa⟩,?_,?_⟩
    ·intro w' av;have n0:∀ j c,j<cs.length->Fs j c->¬ cq c->w'.heap[c]?=w.heap[c]?:=λj c ag aa aC=>av c ((aH c).2 ⟨j,ag,aa⟩) aC;obtain ⟨hX,gU⟩:=eP w' λc aa aC=>n0 k c hk aa aC
     
     refine ⟨by simp [walk,child,hu,hX],?_⟩;intro r u3 dH;cases r with
     | nil=>exact .inr rfl
     | cons j r =>
      simp only [ab.at,ab.kids] at dH;cases ag:cs[j]? with
      | none=>rw [ag] at dH; cases dH
      | some w2 =>
       rw [ag] at dH;simp only at dH;have eF:j<cs.length:=(List.getElem?_eq_some_iff.1 ag).1;have rq:vs[j]?=some vs[j]:=Array.getElem?_eq_getElem (ah ▸ eF);by_cases gH:j=k
       ·subst gH;rw [hc] at ag;cases ag;rcases gU r u3 dH with ⟨c',rfl⟩ | h
        ·exact .inl ⟨c',rfl⟩
        ·exact .inr (by simp [walk,child,hu,h])
       ·have h:=R.p6 (w':=w') r (hr j w2 _ ag rq) dH λc aa=>n0 j c eF aa λef=>gH (aQ j k c eF hk aa (c_ c ef));exact .inr (by simp [walk,child,rq,h])
    intro w' I' ρ' y' jh o iL nx ly;have jt:∀ j c,j<cs.length->Fs j c->F c:=λj c ag aa=>(aH c).2 ⟨j,ag,aa⟩;obtain ⟨bD,kp,eE⟩:=kD w' I' ρ' y' jh (o.mono (λc aa=>jt k c hk aa) λc _ h=>h) iL (λc aa pa=>nx c aa (jt k c hk pa)) ly;obtain ⟨dH,o_⟩:=F3 (get:=λj=>vs[j]?) hr aQ jt hk c_ o hu kp λc=>by
     constructor
     ·intro h;rcases (eE c).1 h with h1 | h1
      ·exact .inl h1
      ·exact .inr ⟨h,λ⟨af,aE⟩=>aE (nx c h1 af)⟩
     ·rintro (h1 | ⟨h1,_⟩)
      ·exact (eE c).2 (.inl h1)
      ·exact h1
    rw [zW];refine ⟨_,.agg (Fs:=λj=>if j=k then bD else Fs j) (by simpa using ah) h1 dH o_ (λc=>Iff.rfl),λc=>?_⟩;have hu:=F4 hk aQ c_ eE c;simp only [List.length_set];rw [hu,aH c]
   | @bR cs vs Fs _ ah hr aQ aH =>
    simp only [ab.kids] at hc;have hk:k<cs.length:=(List.getElem?_eq_some_iff.1 hc).1;have hu:vs[k]?=some vs[k]:=Array.getElem?_eq_getElem (ah ▸ hk);obtain ⟨h4,cq,hw,dt,c_,eP,kD⟩:=R.focus p (hr k q9 _ hc hu) fI;refine ⟨h4,cq,by simp [walk,child,hu,hw],dt,λc aa=>(aH c).2 ⟨k,hk,c_ c aa⟩,?_,?_⟩
    ·intro w' av;have n0:∀ j c,j<cs.length->Fs j c->¬ cq c->w'.heap[c]?=w.heap[c]?:=λj c ag aa aC=>av c ((aH c).2 ⟨j,ag,aa⟩) aC;obtain ⟨hX,gU⟩:=eP w' λc aa aC=>n0 k c hk aa aC
     
     refine ⟨by simp [walk,child,hu,hX],?_⟩;intro r u3 dH;cases r with
     | nil=>exact .inr rfl
     | cons j r =>
      simp only [ab.at,ab.kids] at dH;cases ag:cs[j]? with
      | none=>rw [ag] at dH; cases dH
      | some w2 =>
       rw [ag] at dH;simp only at dH;have eF:j<cs.length:=(List.getElem?_eq_some_iff.1 ag).1;have rq:vs[j]?=some vs[j]:=Array.getElem?_eq_getElem (ah ▸ eF);by_cases gH:j=k
       ·subst gH;rw [hc] at ag;cases ag;rcases gU r u3 dH with ⟨c',rfl⟩ | h
        ·exact .inl ⟨c',rfl⟩
        ·exact .inr (by simp [walk,child,hu,h])
       ·have h:=R.p6 (w':=w') r (hr j w2 _ ag rq) dH λc aa=>n0 j c eF aa λef=>gH (aQ j k c eF hk aa (c_ c ef));exact .inr (by simp [walk,child,rq,h])
    intro w' I' ρ' y' jh o iL nx ly;have jt:∀ j c,j<cs.length->Fs j c->F c:=λj c ag aa=>(aH c).2 ⟨j,ag,aa⟩;obtain ⟨bD,kp,eE⟩:=kD w' I' ρ' y' jh (o.mono (λc aa=>jt k c hk aa) λc _ h=>h) iL (λc aa pa=>nx c aa (jt k c hk pa)) ly;obtain ⟨dH,o_⟩:=F3 (get:=λj=>vs[j]?) hr aQ jt hk c_ o hu kp λc=>by
     constructor
     ·intro h;rcases (eE c).1 h with h1 | h1
      ·exact .inl h1
      ·exact .inr ⟨h,λ⟨af,aE⟩=>aE (nx c h1 af)⟩
     ·rintro (h1 | ⟨h1,_⟩)
      ·exact (eE c).2 (.inl h1)
      ·exact h1
    rw [zW];refine ⟨_,.bR (Fs:=λj=>if j=k then bD else Fs j) (by simpa using ah) dH o_ (λc=>Iff.rfl),λc=>?_⟩;have hu:=F4 hk aQ c_ eE c;simp only [List.length_set];rw [hu,aH c]
   | ref J _ _=>cases x <;> simp [ab.isRef,ab.kids] at J hc
   | _=>simp [ab.kids] at hc
abbrev aM:=Nat->Option ab
def bE (g:aM) (p:Place):Option ab :=
 match g p.root with
 | some x=>x.at p.path
 | none=>none
def dy (w:World) (T:Array Value) (p:Place):Option Value :=
 match T[p.root]? with
 | some v=>walk w v p.path
 | none=>none
def addrOf:Value->Option Addr
 | .slice (some a) _ _=>some a
 | .pointer (some a)=>some a
 | _=>none
def fp (w:World) (T:Array Value):ab->Value->Prop
 | .ptr p k,v=>∃ u a,dy w T p=some u/\addrOf u=some a/\v=.pointer (some ⟨a.block,a.off+k,none⟩)
 | .a6 _ p n,v=>∃ a N cap,dy w T p=some (.slice a N cap)/\v=.slice a n cap/\n<=N
 | .sub z p lo n,v=>∃ a N cap ca nq,dy w T p=some (.slice a N cap)/\v=.slice ca n nq/\n<=nq/\lo+n<=N/\(0<n->∃ ad,a=some ad/\ca=some ⟨ad.block,ad.off+lo * z,none⟩)
 | .bI _ p n _ _,v=>∃ a cap,dy w T p=some (.slice a n cap)/\v=.slice a n cap
 | .gm p,v=>∃ b,dy w T p=some (.map b)/\v=.map b
 | _,_=>False
def gE (g:aM):ab->Prop
 | .ptr p k=>∃ y,bE g p=some y/\(∃ z n cs,(y=.own z n cs\/y=.obj cs)/\k<cs.length)
 | .a6 z p n=>(∃ N cs,bE g p=some (.own z N cs)/\n<=N)\/(p.path=[]/\∃ q gN m new,g p.root=some (.bI z q gN m new)/\n=gN+m)
 | .sub z p lo n=>∃ N cs,bE g p=some (.own z N cs)/\lo+n<=N
 | .bI z p n _ _=>(∃ cs,bE g p=some (.own z n cs))\/(p.path=[]/\∃ q gN m new cs,g p.root=some (.bI z q gN m new)/\n=gN+m/\bE g q=some (.own z gN cs))
 | .gm p=>∃ q,bE g p=some (.mp q)
 | _=>False
def dz (w:World) (T:Array Value) (g:aM) (r:ab) (v:Value):Prop:=fp w T r v/\gE g r
structure HN (w:World) (I:a') (ρ:ab->Value->Prop) (z:Nat) (p:Place) (n m:Nat) (new:List ab) (v:Value) (F:a') (bv:Value) (e b3:TypeId) (us news:List Value):Prop where
 ju:ρ (.bI z p n 0 []) bv
 kP:w.ownsRow 0 e z bv n us
 mT:w.ownsRow 0 b3 z v (n+m) (us++news)
 ah:new.length=news.length
 h1:∀ (k:Nat) (u:Value),news[k]?=some u->u.oneCell'=true
 hr:∀ (k:Nat) (x:ab) (u:Value),new[k]?=some x->news[k]?=some u->R w I ρ x u (λ_=>False)
 aH:∀ c,F c↔v.ownBlock=some c/\bv.ownBlock≠some c
inductive jF (w:World) (I:a') (ρ:ab->Value->Prop):ab->Value->a'->Prop
 | tree {x:ab}{v:Value}{F:a'}(h:R w I ρ x v F):jF w I ρ x v F
 | bI {z n m:Nat}{p:Place}{new:List ab}{v bv:Value}{e b3:TypeId}{us news:List Value}{F:a'}(h:HN w I ρ z p n m new v F bv e b3 us news):jF w I ρ (.bI z p n m new) v F
theorem R.lD {w:World}{I:a'}{ρ:ab->Value->Prop}{z n m:Nat}{p:Place}{new:List ab}{v:Value}{F:a'}(h:R w I ρ (.bI z p n m new) v F):False:=by
 cases h with
 | ref J=>simp [ab.isRef] at J
theorem jF.gw {w:World}{I:a'}{ρ:ab->Value->Prop}{x:ab}{v:Value}{F:a'}(h:jF w I ρ x v F) (J:∀ z p n m new,x≠.bI z p n m new):R w I ρ x v F:=by
 cases h with
 | tree h=>exact h
 | bI=>exact absurd rfl (J _ _ _ _ _)
theorem jF.vS {w:World}{I:a'}{ρ:ab->Value->Prop}{z n m:Nat}{p:Place}{new:List ab}{v:Value}{F:a'}(h:jF w I ρ (.bI z p n m new) v F):∃ bv e b3 us news,HN w I ρ z p n m new v F bv e b3 us news:=by
 cases h with
 | tree h=>exact h.lD.elim
 | bI h=>exact ⟨_,_,_,_,_,h⟩
theorem jF.lt {w:World}{I:a'}{ρ:ab->Value->Prop}{x:ab}{v:Value}{F:a'}(h:jF w I ρ x v F):∀ c,F c->c<w.heap.size:=by
 cases h with
 | tree h=>exact h.lt
 | bI h=>exact λc aa=>(h.mT.lt c ((h.aH c).1 aa).1).2
theorem jF.frame {w w':World}{I I':a'}{ρ ρ':ab->Value->Prop}{x:ab}{v:Value}{F:a'}(h:jF w I ρ x v F)
  (bc:∀ c,I c->w'.heap[c]?=w.heap[c]?) (oD:∀ c,I c->I' c) (l1:∀ x v,ρ x v->ρ' x v)
  (bT:∀ z p n bv,ρ (.bI z p n 0 []) bv->∀ c,bv.ownBlock=some c->w'.heap[c]?=w.heap[c]?)
  (aU:∀ c,F c->w'.heap[c]?=w.heap[c]?):jF w' I' ρ' x v F:=by
 cases h with
 | tree h=>exact .tree (h.frame bc oD l1 aU)
 | @bI z n m p new v bv e b3 us news F h =>
  have ar:=bT _ _ _ _ h.ju;refine .bI ⟨l1 _ _ h.ju,uF h.kP ar,uF h.mT λc aa=>?_,h.ah,h.h1,λk x u J hu=>(h.hr k x u J hu).frame bc oD l1 λc aa=>aa.elim,h.aH⟩;by_cases qv:bv.ownBlock=some c
  ·exact ar c qv
  ·exact aU c ((h.aH c).2 ⟨aa,qv⟩)
theorem ab.sX {z n m:Nat}{p:Place}{new:List ab}{q:List Nat}{y:ab}(h:(ab.bI z p n m new).at q=some y):q=[]/\y=.bI z p n m new:=by
 cases q with
 | nil=>simp [ab.at] at h; exact ⟨rfl,h.symm⟩
 | cons k q=>simp [ab.at,ab.kids] at h
class cF where
 q:World->a'->Prop
 keep:∀ {w w':World}{I I':a'},q w I->(∀ c,I c->w'.heap[c]?=w.heap[c]?)->(∀ c,I c->I' c)->q w' I'
variable [cF]
structure cB (w:World) (I:a') (T:Array Value) (g:aM) (Fs:Nat->a'):Prop where
 rel:∀ t x,g t=some x->∃ v,T[t]?=some v/\jF w I (dz w T g) x v (Fs t)
 lh:∀ t,g t=none->∀ c,¬ Fs t c
 ec:∀ t t' c,Fs t c->Fs t' c->t=t'
 bl:∀ t c,Fs t c->¬ I c
 lt:∀ c,I c->c<w.heap.size
 rF:∀ t t' z p n m new bQ cm m' cO,g t=some (.bI z p n m new)->g t'=some (.bI bQ p cm m' cO)->t=t'
 hW:cF.q w I
section
variable {w:World}{I:a'}{T:Array Value}{g:aM}{Fs:Nat->a'}
theorem cB.part (h:cB w I T g Fs) {p:Place}{y:ab}(aq:bE g p=some y) (ao:∀ z q n m new,y≠.bI z q n m new):∃ v cq,dy w T p=some v/\R w I (dz w T g) y v cq/\(∀ c,cq c->Fs p.root c):=by
 unfold bE at aq;cases J:g p.root with
 | none=>rw [J] at aq; cases aq
 | some x =>
  rw [J] at aq;obtain ⟨v,hv,aY⟩:=h.rel _ _ J;replace aY:=aY.gw (by
   rintro z q n m new rfl;exact ao _ _ _ _ _ (ab.sX aq).2)
  obtain ⟨h4,cq,hw,dt,c_,_⟩:=R.focus p.path aY aq;exact ⟨h4,cq,by simp [dy,hv,hw],dt,c_⟩
theorem R.rB {ρ:ab->Value->Prop}{z n:Nat}{cs:List ab}{v:Value}{F:a'}(h:R w I ρ (.own z n cs) v F):∀ c,v.ownBlock=some c->F c:=by
 cases h with
 | own aX ah h1 hr aQ ar aH=>exact λc aa=>(aH c).2 (.inl aa)
 | ref J=>simp [ab.isRef] at J
theorem R.od {ρ:ab->Value->Prop}{z n:Nat}{cs:List ab}{v:Value}{F:a'}(h:R w I ρ (.own z n cs) v F) :
  ∃ a cap,v=.slice a n cap/\n<=cap/\cs.length=n * z/\(∀ ad,a=some ad->ad.off=0/\ad.spot=none)/\(0<n->a.isSome=true):=by
 cases h with
 | own aX ah h1 hr aQ ar aH =>
  obtain ⟨h1,af⟩:=aX;rcases af with ⟨rfl,rfl⟩ | ⟨b,cap,cur,rfl,_,_,aC,_⟩
  ·exact ⟨none,0,rfl,Nat.le_refl _,by simp [ah,h1],by simp,by simp⟩
  ·exact ⟨_,cap,rfl,aC,by simp [ah,h1],by rintro ad ⟨⟩; exact ⟨rfl,rfl⟩,by simp⟩
 | ref J=>simp [ab.isRef] at J
theorem cB.yJ (h:cB w I T g Fs) {w':World}{T':Array Value}(cX:∀ t,g t≠none->T'[t]?=T[t]?) (aH:∀ t c,Fs t c->w'.heap[c]?=w.heap[c]?) {p:Place}{y:ab}(aq:bE g p=some y) :
  dy w' T' p=dy w T p:=by
 unfold bE at aq;cases J:g p.root with
 | none=>rw [J] at aq; cases aq
 | some x =>
  rw [J] at aq;obtain ⟨v,hv,aY⟩:=h.rel _ _ J;have ij:T'[p.root]?=some v:=by rw [cX _ (by rw [J]; simp),hv]
  cases aY with
  | tree aY =>
   have:=R.p6 (w':=w') p.path aY aq λc aa=>aH _ c aa;simp [dy,hv,ij,this]
  | bI aY=>simp [dy,hv,ij,(ab.sX aq).1,walk]
theorem k6 {g g':aM}(aN:∀ t x,g t=some x->g' t=some x) {p:Place}{y:ab}(aq:bE g p=some y):bE g' p=some y:=by
 unfold bE at *;cases J:g p.root with
 | none=>rw [J] at aq; cases aq
 | some x=>rw [J] at aq; rw [aN _ _ J]; exact aq
theorem gE.mono {g g':aM}(aN:∀ t x,g t=some x->g' t=some x) {r:ab}(h:gE g r):gE g' r:=by
 cases r <;> simp only [gE] at h ⊢
 case ptr p k=>obtain ⟨y,ao,h⟩:=h; exact ⟨y,k6 aN ao,h⟩
 case a6 z p n =>
  rcases h with ⟨N,cs,h1,af⟩ | ⟨aK,q,gN,m,new,h1,af⟩
  ·exact .inl ⟨N,cs,k6 aN h1,af⟩
  ·exact .inr ⟨aK,q,gN,m,new,aN _ _ h1,af⟩
 case sub z p lo n=>obtain ⟨N,cs,h1,af⟩:=h; exact ⟨N,cs,k6 aN h1,af⟩
 case bI z p n m new =>
  rcases h with ⟨cs,h1⟩ | ⟨aK,q,gN,m',cO,cs,h1,af,aE⟩
  ·exact .inl ⟨cs,k6 aN h1⟩
  ·exact .inr ⟨aK,q,gN,m',cO,cs,aN _ _ h1,af,k6 aN aE⟩
 case gm p=>obtain ⟨q,h⟩:=h; exact ⟨q,k6 aN h⟩
theorem cB.GM (h:cB w I T g Fs) {w':World}{T':Array Value}{g':aM}(cX:∀ t,g t≠none->T'[t]?=T[t]?) (aH:∀ t c,Fs t c->w'.heap[c]?=w.heap[c]?)
  (aN:∀ t x,g t=some x->g' t=some x) {r:ab}{v:Value}(hr:dz w T g r v):dz w' T' g' r v:=by
 obtain ⟨h1,af⟩:=hr;refine ⟨?_,af.mono aN⟩;have slot:∀ {p:Place}{x:ab},p.path=[]->g p.root=some x->dy w' T' p=dy w T p:=by
  intro p x aq J;obtain ⟨v,hv,_⟩:=h.rel _ _ J;simp [dy,aq,walk,cX p.root (by rw [J]; simp)]
 cases r <;> simp only [fp,gE] at h1 af ⊢
 case ptr p k =>
  obtain ⟨y,ao,_⟩:=af;rw [h.yJ cX aH ao]; exact h1
 case a6 z p n =>
  rcases af with ⟨N,cs,af,_⟩ | ⟨aK,q,gN,m,new,af,_⟩
  ·rw [h.yJ cX aH af]; exact h1
  ·rw [slot aK af]; exact h1
 case sub z p lo n =>
  obtain ⟨N,cs,af,_⟩:=af;rw [h.yJ cX aH af]; exact h1
 case bI z p n m new =>
  rcases af with ⟨cs,af⟩ | ⟨aK,q,gN,m',cO,cs,af,_⟩
  ·rw [h.yJ cX aH af]; exact h1
  ·rw [slot aK af]; exact h1
 case gm p =>
  obtain ⟨q,af⟩:=af;rw [h.yJ cX aH af]; exact h1
theorem cB.E6 (h:cB w I T g Fs) {z n:Nat}{p:Place}{bv:Value}(hr:dz w T g (.bI z p n 0 []) bv):∀ c,bv.ownBlock=some c->∃ t,Fs t c:=by
 obtain ⟨⟨a,cap,h1,rfl⟩,af⟩:=hr;intro c aa;have own:∀ {q:Place}{gN:Nat}{cs:List ab}{v:Value},bE g q=some (.own z gN cs)->dy w T q=some v->v.ownBlock=some c->∃ t,Fs t c:=by
  intro q gN cs v a_ hv aa;obtain ⟨dK,cq,ij,aY,c_⟩:=h.part a_ (by simp);rw [hv] at ij;cases ij;exact ⟨_,c_ c (aY.rB c aa)⟩
 rcases af with ⟨cs,af⟩ | ⟨aK,q,gN,m,new,cs,af,rfl,aE⟩
 ·exact own af h1 aa
 ·obtain ⟨v,hv,aY⟩:=h.rel _ _ af;have sj:v=.slice a (gN+m) cap:=by
   simp only [dy,hv,aK,walk,Option.some.injEq] at h1;exact h1
  obtain ⟨M1,e,b3,us,news,aY⟩:=aY.vS;by_cases hS:M1.ownBlock=some c
  ·obtain ⟨⟨a2,r2,bm,rfl⟩,_⟩:=aY.ju;exact own aE bm hS
  ·exact ⟨_,(aY.aH c).2 ⟨by rw [sj]; exact aa,hS⟩⟩
theorem cB.frame (h:cB w I T g Fs) {w':World}{I':a'}{T':Array Value}{g':aM}(cX:∀ t,g t≠none->T'[t]?=T[t]?) (aH:∀ t c,Fs t c->w'.heap[c]?=w.heap[c]?)
  (bc:∀ c,I c->w'.heap[c]?=w.heap[c]?) (oD:∀ c,I c->I' c) (aN:∀ t x,g t=some x->g' t=some x) {x:ab}{v:Value}{F:a'}(aY:R w I (dz w T g) x v F)
  (me:∀ c,F c->w'.heap[c]?=w.heap[c]?):R w' I' (dz w' T' g') x v F :=
 aY.frame bc oD (λ_ _ hr=>h.GM cX aH aN hr) me
theorem cB.w8 (h:cB w I T g Fs) {w':World}{I':a'}{T':Array Value}{g':aM}(cX:∀ t,g t≠none->T'[t]?=T[t]?) (aH:∀ t c,Fs t c->w'.heap[c]?=w.heap[c]?)
  (bc:∀ c,I c->w'.heap[c]?=w.heap[c]?) (oD:∀ c,I c->I' c) (aN:∀ t x,g t=some x->g' t=some x) {x:ab}{v:Value}{F:a'}(aY:jF w I (dz w T g) x v F)
  (me:∀ c,F c->w'.heap[c]?=w.heap[c]?):jF w' I' (dz w' T' g') x v F :=
 aY.frame bc oD (λ_ _ hr=>h.GM cX aH aN hr) (λ_ _ _ _ hr c aa=>by obtain ⟨t,au⟩:=h.E6 hr c aa; exact aH t c au) me
def cV (g:aM) (d:Nat) (x:ab):aM:=λt=>if t=d then some x else g t
def wy (Fs:Nat->a') (d:Nat) (F:a'):Nat->a':=λt=>if t=d then F else Fs t
theorem Rz {d:Nat}{x:ab}(aQ:g d=none):∀ t y,g t=some y->cV g d x t=some y:=by
 intro t y ao;unfold cV;split
 ·rename_i h; subst h; rw [aQ] at ao; cases ao
 ·exact ao
end
end Go.Own
namespace Go.Own
open Go
variable [cF]
theorem RE (w:World):∀ (p:List Nat) (v:Value) (k:Nat),walk w v (p++[k])=(walk w v p).bind λu=>child w u k
 | [],v,k=>by simp [walk]; cases child w v k <;> rfl
 | j::p,v,k=>by
  simp only [List.cons_append,walk];cases child w v j with
  | none=>rfl
  | some u=>exact RE w p u k
theorem MV:∀ (p:List Nat) (x:ab) (k:Nat),x.at (p++[k])=(x.at p).bind λy=>y.kids[k]?
 | [],x,k=>by simp [ab.at]; cases x.kids[k]? <;> rfl
 | j::p,x,k=>by
  simp only [List.cons_append,ab.at];cases x.kids[j]? with
  | none=>rfl
  | some u=>exact MV p u k
theorem tP (g:aM) (p:Place) (k:Nat):bE g (p.push k)=(bE g p).bind λy=>y.kids[k]?:=by
 unfold bE Place.push;cases g p.root with
 | none=>rfl
 | some x=>simp [MV]
theorem yI (w:World) (T:Array Value) (p:Place) (k:Nat):dy w T (p.push k)=(dy w T p).bind λu=>child w u k:=by
 unfold dy Place.push;cases T[p.root]? with
 | none=>rfl
 | some x=>simp [RE]
def fZ:Nat->Place->ab->ab
 | _,p,.own z n _=>.a6 z p n
 | _,p,.obj (_::_)=>.ptr p 0
 | _,_,.obj []=>.dead
 | _,_,.bI ..=>.dead
 | _,_,.self _=>.dead
 | _,_,.hY ..=>.dead
 | _,p,.mp _=>.gm p
 | d+1,p,.agg cs=>.agg (cs.mapIdx λi x=>fZ d (p.push i) x)
 | d+1,p,.bR cs=>.bR (cs.mapIdx λi x=>fZ d (p.push i) x)
 | 0,_,.agg _=>.dead
 | 0,_,.bR _=>.dead
 | _,_,x=>x
def pn (t:Nat):ab->ab
 | .bI z _ n m _=>.a6 z ⟨t,[]⟩ (n+m)
 | x=>fZ 2 ⟨t,[]⟩ x
def kC:Value->ab
 | .slice none 0 0=>.aS
 | .agg _=>.dead
 | .tuple _=>.dead
 | v=>.lit v
def ofConst:Value->ab
 | .agg vs=>if vs.all Value.oneCell' then .agg (vs.toList.map kC) else .dead
 | .tuple _=>.dead
 | v=>kC v
def bs (g:aM):Operand->Option ab
 | .tmp t=>(g t).map (pn t)
 | .const v=>some (ofConst v)
 | .func f=>some (.cD (.func f) [] [])
 | .global _=>none
theorem QE {d:Nat}{p:Place}{x:ab}{j:Nat × Nat}:fZ d p x≠.self j:=by
 cases x with
 | obj cs=>cases d <;> cases cs <;> simp [fZ]
 | _=>cases d <;> simp [fZ]
theorem Z1 {t:Nat}{x:ab}:sT (pn t x):=by
 intro cs h k j hk;cases x with
 | obj cs=>cases cs <;> simp [pn,fZ] at h
 | agg l =>
  simp only [pn,fZ,ab.agg.injEq] at h;subst h;rw [List.getElem?_mapIdx] at hk;cases J:l[k]? with
  | none=>rw [J] at hk; cases hk
  | some x=>rw [J] at hk; simp only [Option.map_some,Option.some.injEq] at hk; exact QE hk
 | _=>simp [pn,fZ] at h
theorem P5 (v:Value) (j:Nat × Nat):kC v≠.self j:=by
 unfold kC; split <;> simp
theorem P6 (vs:List Value):tE (vs.map kC):=λk j=>by
 rw [List.getElem?_map];cases vs[k]? with
 | none=>simp
 | some v=>simp [P5]
theorem La {g:aM}{o:Operand}{x:ab}(h:bs g o=some x):sT x:=by
 cases o with
 | tmp t =>
  simp only [bs] at h;cases au:g t with
  | none=>rw [au] at h; cases h
  | some y=>rw [au] at h; simp only [Option.map_some,Option.some.injEq] at h; exact h ▸ Z1
 | const v =>
  simp only [bs,Option.some.injEq] at h;subst h;intro cs h;unfold ofConst at h
  split at h
  ·split at h
   ·cases h; exact P6 _
   ·cases h
  ·cases h
  ·unfold kC at h; split at h <;> cases h
 | func f=>simp only [bs,Option.some.injEq] at h; subst h; intro cs h; cases h
 | global n=>cases h
theorem Zc {g:aM}{o:Operand}{x:ab}(h:bs g o=some x) (j:Nat × Nat):x≠.self j:=by
 cases o with
 | tmp t =>
  simp only [bs] at h;cases au:g t with
  | none=>rw [au] at h; cases h
  | some y =>
   rw [au] at h;simp only [Option.map_some,Option.some.injEq] at h;subst h;cases y with
   | bI=>simp [pn]
   | _=>exact QE
 | const v =>
  simp only [bs,Option.some.injEq] at h;subst h;unfold ofConst;split
  ·split <;> simp
  ·simp
  ·exact P5 _ _
 | func f=>simp only [bs,Option.some.injEq] at h; subst h; simp
 | global n=>cases h
abbrev cg:a':=λ_=>False
section
variable {w:World}{I:a'}{T:Array Value}{g:aM}{Fs:Nat->a'}
theorem R.empty {ρ:ab->Value->Prop}{x:ab}{v:Value}{F:a'}(h:R w I ρ x v F) (aH:∀ c,¬ F c):R w I ρ x v cg:=h.zu λc=>⟨λaa=>aH c aa,λaa=>aa.elim⟩
theorem GL:∀ (d:Nat) {p:Place}{x:ab}{v:Value}{F:a'},bE g p=some x->dy w T p=some v->R w I (dz w T g) x v F->R w I (dz w T g) (fZ d p x) v cg:=by
 intro d
 induction d with
 | zero =>
  intro p x v F aq hv aY;cases aY with
  | lit ah aH=>exact .lit ah λ_ h=>h
  | aS aH=>exact .aS λ_ h=>h
  | dead aH=>exact .dead λ_ h=>h
  | mv aH=>exact .dead λ_ h=>h
  | hY=>exact .dead λ_ h=>h
  | ref J hr aH=>cases x <;> simp [ab.isRef] at J <;> exact .ref rfl hr λ_ h=>h
  | mp=>exact .ref rfl ⟨⟨_,hv,rfl⟩,⟨_,aq⟩⟩ λ_ h=>h
  | imp aH bc aX a_=>exact .imp (λ_ h=>h) bc aX a_
  | gK aH=>exact .gK λ_ h=>h
  | bl aH lW bc av ah h1 aa hr=>exact .bl (λ_ h=>h) lW bc av ah h1 aa hr
  | cx aH bc av h1 aa hr=>exact .cx (λ_ h=>h) bc av h1 aa hr
  | own aX ah h1 hr aQ ar aH =>
   have CA:=R.own (I:=I) (ρ:=dz w T g) aX ah h1 hr aQ ar aH;obtain ⟨a,cap,rfl,aC,_⟩:=CA.od;exact .ref rfl ⟨⟨a,_,cap,hv,rfl,Nat.le_refl _⟩,.inl ⟨_,_,aq,Nat.le_refl _⟩⟩ λ_ h=>h
  | @obj cs b e arr bW _ aX ah h1 hr aQ ar aH =>
   cases cs with
   | nil=>exact .dead λ_ h=>h
   | cons c cs=>exact .ref rfl ⟨⟨_,_,hv,rfl,rfl⟩,⟨_,aq,0,0,_,.inr rfl,by simp⟩⟩ λ_ h=>h
  | agg=>exact .dead λ_ h=>h
  | bR=>exact .dead λ_ h=>h
  | cD aH h1 af i' hK=>exact .cD (λ_ h=>h) h1 af i' hK
 | succ d aO =>
  intro p x v F aq hv aY;cases aY with
  | lit ah aH=>exact .lit ah λ_ h=>h
  | aS aH=>exact .aS λ_ h=>h
  | dead aH=>exact .dead λ_ h=>h
  | mv aH=>exact .dead λ_ h=>h
  | hY=>exact .dead λ_ h=>h
  | ref J hr aH=>cases x <;> simp [ab.isRef] at J <;> exact .ref rfl hr λ_ h=>h
  | mp=>exact .ref rfl ⟨⟨_,hv,rfl⟩,⟨_,aq⟩⟩ λ_ h=>h
  | imp aH bc aX a_=>exact .imp (λ_ h=>h) bc aX a_
  | gK aH=>exact .gK λ_ h=>h
  | bl aH lW bc av ah h1 aa hr=>exact .bl (λ_ h=>h) lW bc av ah h1 aa hr
  | cx aH bc av h1 aa hr=>exact .cx (λ_ h=>h) bc av h1 aa hr
  | own aX ah h1 hr aQ ar aH =>
   have CA:=R.own (I:=I) (ρ:=dz w T g) aX ah h1 hr aQ ar aH;obtain ⟨a,cap,rfl,aC,_⟩:=CA.od;exact .ref rfl ⟨⟨a,_,cap,hv,rfl,Nat.le_refl _⟩,.inl ⟨_,_,aq,Nat.le_refl _⟩⟩ λ_ h=>h
  | @obj cs b e arr bW _ aX ah h1 hr aQ ar aH =>
   cases cs with
   | nil=>exact .dead λ_ h=>h
   | cons c cs=>exact .ref rfl ⟨⟨_,_,hv,rfl,rfl⟩,⟨_,aq,0,0,_,.inr rfl,by simp⟩⟩ λ_ h=>h
  | @agg cs vs bW _ ah h1 hr aQ aH =>
   refine .agg (Fs:=λ_=>cg) (by simpa using ah) h1 ?_ (λ_ _ _ _ _ h=>h.elim) (λc=>⟨λh=>h.elim,λ⟨_,_,h⟩=>h⟩);intro k y u ao hu;rw [List.getElem?_mapIdx] at ao;cases hk:cs[k]? with
   | none=>rw [hk] at ao; cases ao
   | some z =>
    rw [hk] at ao;cases ao;exact aO (by rw [tP,aq]; exact hk) (by rw [yI,hv]; exact hu) (hr k z u hk hu)
  | @bR cs vs bW _ ah hr aQ aH =>
   refine .bR (Fs:=λ_=>cg) (by simpa using ah) ?_ (λ_ _ _ _ _ h=>h.elim) (λc=>⟨λh=>h.elim,λ⟨_,_,h⟩=>h⟩);intro k y u ao hu;rw [List.getElem?_mapIdx] at ao;cases hk:cs[k]? with
   | none=>rw [hk] at ao; cases ao
   | some z =>
    rw [hk] at ao;cases ao;exact aO (by rw [tP,aq]; exact hk) (by rw [yI,hv]; exact hu) (hr k z u hk hu)
  | cD aH h1 af i' hK=>exact .cD (λ_ h=>h) h1 af i' hK
theorem Dk {ρ:ab->Value->Prop}(v:Value):R w I ρ (kC v) v cg:=by
 unfold kC;split
 ·exact .aS λ_ h=>h
 ·exact .dead λ_ h=>h
 ·exact .dead λ_ h=>h
 ·rename_i h1 af aE;refine .lit ?_ λ_ h=>h;cases v <;> first | rfl | (exact absurd rfl (af _)) | (exact absurd rfl (aE _))
theorem Y6 {ρ:ab->Value->Prop}(v:Value):R w I ρ (ofConst v) v cg:=by
 unfold ofConst;split
 ·rename_i vs;split
  ·rename_i hq;refine .agg (Fs:=λ_=>cg) (by simp) (λk u hu=>?_) ?_ (λ_ _ _ _ _ h=>h.elim) (λc=>⟨λh=>h.elim,λ⟨_,_,h⟩=>h⟩)
   ·exact Array.all_eq_true_iff_forall_mem.1 hq u (Array.mem_of_getElem? hu)
   ·intro k x u J hu;simp only [List.getElem?_map,Array.getElem?_toList,hu,Option.map_some,Option.some.injEq] at J;subst J;exact Dk u
  ·exact .dead λ_ h=>h
 ·exact .dead λ_ h=>h
 ·exact Dk v
theorem kd (h:cB w I T g Fs) {x:Operand}{y:ab}(ao:bs g x=some y) {a:Act}(aJ:a.tmps=T):R w I (dz w T g) y (a.eval x) cg:=by
 cases x with
 | tmp t =>
  simp only [bs] at ao;cases J:g t with
  | none=>rw [J] at ao; cases ao
  | some z =>
   rw [J] at ao;simp only [Option.map_some,Option.some.injEq] at ao;obtain ⟨v,hv,aY⟩:=h.rel t z J;have sa:a.eval (.tmp t)=v:=by simp [Act.eval,aJ,hv]
   rw [sa];have aq:bE g ⟨t,[]⟩=some z:=by simp [bE,J,ab.at]
   have zY:dy w T ⟨t,[]⟩=some v:=by simp [dy,hv,walk]
   subst ao;cases aY with
   | tree aY =>
    cases z with
    | bI=>exact aY.lD.elim
    | _=>exact GL 2 aq zY aY
   | @bI kZ n m p new v bv e b3 us news _ aY =>
    simp only [pn];have:∃ a cap,v=.slice a (n+m) cap:=by
     obtain ⟨_,af⟩:=aY.mT;rcases af with ⟨af,aE⟩ | ⟨b,cap,cur,af,_⟩
     ·exact ⟨none,0,by rw [af]; congr 1; omega⟩
     ·exact ⟨_,cap,af⟩
    obtain ⟨ca,cap,rfl⟩:=this;exact .ref rfl ⟨⟨ca,_,cap,zY,rfl,Nat.le_refl _⟩,.inr ⟨rfl,p,n,m,new,J,rfl⟩⟩ λ_ h=>h
 | const v=>simp only [bs,Option.some.injEq] at ao; subst ao; exact Y6 v
 | global n=>simp [bs] at ao
 | func f =>
  simp only [bs,Option.some.injEq] at ao;subst ao;exact .cD (λ_ h=>h) rfl rfl (by simp) (by simp)
end
def j6 (P:Program) (t:TypeId):Bool :=
 match P.underlying t,P.info? t with
 | some (.struct _),_=>false
 | some (.array ..),_=>false
 | some _,some i=>i.size == 1
 | _,_=>false
def h8 (P:Program) (t:TypeId) (k:Nat):Bool :=
 match P.underlying t,P.info? t with
 | some (.struct _),some i=>i.size == k
 | some (.array ..),some i=>i.size == k
 | _,_=>false
def ft (P:Program) (t e:TypeId) (z:Nat):Bool :=
 match P.underlying t,P.info? e with
 | some (.slice b5),some i=>b5 == e&&i.size == z
 | _,_=>false
def zh (P:Program) (t e:TypeId) (n z:Nat):Bool :=
 match P.underlying t,P.info? e with
 | some (.array cm b5),some i=>cm == n&&b5 == e&&i.size == z
 | _,_=>false
def sJ (P:Program) (t:TypeId):Bool :=
 match P.underlying t with
 | some .string=>true
 | _=>false
def zq (P:Program) (s d:TypeId):Bool :=
 match P.underlying s,P.underlying d with
 | some (.slice e),some .string=>match P.underlying e with
  | some (.int .u8)=>true
  | _=>false
 | _,_=>false
def iY (P:Program) (s:TypeId) (f off:Nat) (t:TypeId):Bool :=
 match P.underlying s with
 | some (.struct fs) =>
  match fs[f]? with
  | some fd=>fd.offset == off&&fd.type == t&&(match P.info? t with | some i=>i.size != 0 | none=>false)
  | none=>false
 | _=>false
section
variable {P:Program}{w:World}
theorem Ir {t:TypeId}(h:j6 P t=true):(isAgg t).run P w=.ok false w/\(sizeOf t).run P w=.ok 1 w:=by
 unfold j6 at h;cases hu:P.underlying t with
 | none=>simp [hu] at h
 | some d =>
  cases hi:P.info? t with
  | none=>cases d <;> simp [hu,hi] at h
  | some i=>cases d <;> simp [hu,hi] at h <;> simp [isAgg,run_underlying hu,sizeOf,typeInfo,hi,h]
theorem EX {t:TypeId}{k:Nat}(h:h8 P t k=true):(isAgg t).run P w=.ok true w/\(sizeOf t).run P w=.ok k w:=by
 unfold h8 at h;cases hu:P.underlying t with
 | none=>simp [hu] at h
 | some d =>
  cases hi:P.info? t with
  | none=>cases d <;> simp [hu,hi] at h
  | some i=>cases d <;> simp [hu,hi] at h <;> simp [isAgg,run_underlying hu,sizeOf,typeInfo,hi,h]
theorem rN {t e:TypeId}{z:Nat}(h:ft P t e z=true):P.underlying t=some (.slice e)/\P.elem t=e/\(sizeOf e).run P w=.ok z w:=by
 unfold ft at h;cases hu:P.underlying t with
 | none=>simp [hu] at h
 | some d =>
  cases hi:P.info? e with
  | none=>cases d <;> simp [hu,hi] at h
  | some i =>
   cases d <;> simp [hu,hi] at h;obtain ⟨rfl,h⟩:=h;exact ⟨rfl,by simp [Program.elem,hu],by simp [sizeOf,typeInfo,hi,h]⟩
theorem MN {t e:TypeId}{n z:Nat}(h:zh P t e n z=true):P.underlying t=some (.array n e)/\(sizeOf e).run P w=.ok z w:=by
 unfold zh at h;cases hu:P.underlying t with
 | none=>simp [hu] at h
 | some d =>
  cases hi:P.info? e with
  | none=>cases d <;> simp [hu,hi] at h
  | some i =>
   cases d <;> simp [hu,hi] at h;obtain ⟨⟨rfl,rfl⟩,h⟩:=h;exact ⟨rfl,by simp [sizeOf,typeInfo,hi,h]⟩
theorem M3 {s d:TypeId}(h:zq P s d=true):∃ e,P.underlying s=some (.slice e)/\P.underlying e=some (.int .u8)/\P.underlying d=some .string:=by
 unfold zq at h
 split at h
 ·rename_i e h1 af
  split at h
  ·rename_i aE;exact ⟨e,h1,aE,af⟩
  ·cases h
 ·cases h
theorem LN {t:TypeId}(h:sJ P t=true):P.underlying t=some .string:=by
 unfold sJ at h;cases hu:P.underlying t with
 | none=>simp [hu] at h
 | some d=>cases d <;> simp [hu] at h; rfl
theorem IV {s:TypeId}{f off:Nat}{t:TypeId}(h:iY P s f off t=true):∃ fs fd,P.underlying s=some (.struct fs)/\fs[f]?=some fd/\fd.offset=off/\fd.type=t/\∃ i,P.info? t=some i/\i.size≠0:=by
 unfold iY at h;cases hu:P.underlying s with
 | none=>simp [hu] at h
 | some d =>
  cases d <;> simp [hu] at h;rename_i fs;cases aU:fs[f]? with
  | none=>simp [aU] at h
  | some fd =>
   simp [aU] at h;obtain ⟨⟨h1,af⟩,aE⟩:=h;cases hi:P.info? t with
   | none=>simp [hi] at aE
   | some i=>simp [hi] at aE; exact ⟨fs,fd,rfl,aU,h1,af,i,rfl,aE⟩
theorem add_eq (b o k:Nat):(⟨b,o,none⟩:Addr).add k=⟨b,o+k,none⟩:=by
 unfold Addr.add;split
 ·rename_i h; subst h; rfl
 ·rfl
theorem QO {s:TypeId}{f off:Nat}{t:TypeId}(h:iY P s f off t=true) (b o:Nat):(Instr.fieldAt s (.pointer (some ⟨b,o,none⟩)) f).run P w=.ok (.pointer (some ⟨b,o+off,none⟩)) w:=by
 obtain ⟨fs,fd,hu,aU,rfl,rfl,i,hi,aK⟩:=IV h;simp [Instr.fieldAt,run_underlying hu,aU,Instr.sureAddr,fieldPlace,sizeOf,typeInfo,hi,aK,add_eq]
theorem QQ {t:TypeId}(h:j6 P t=true) {a:Addr}{v:Value}(aa:w.cell? a=some v):(Instr.loadAt t (.pointer (some a))).run P w=.ok v w:=by
 obtain ⟨h1,af⟩:=Ir (w:=w) h;simp [Instr.loadAt,Instr.sureAddr,loadVar,h1,aa]
theorem QP {t:TypeId}{k:Nat}(h:h8 P t k=true) {b o:Nat}{vs:List Value}(ah:vs.length=k) (aa:∀ j v,vs[j]?=some v->w.cell? ⟨b,o+j,none⟩=some v) :
  (Instr.loadAt t (.pointer (some ⟨b,o,none⟩))).run P w=.ok (.agg vs.toArray) w:=by
 obtain ⟨h1,af⟩:=EX (w:=w) h;have:=run_loadCells_list (P:=P) w ⟨b,o,none⟩ vs (λj v ag=>by rw [add_eq]; exact aa j v ag);rw [ah] at this;simp [Instr.loadAt,Instr.sureAddr,loadVar,h1,af,this]
end
section
variable {w:World}{I:a'}{ρ:ab->Value->Prop}{v:Value}{F:a'}
theorem R.hM {a:Value}(h:R w I ρ (.lit a) v F):v=a/\a.oneCell'=true:=by
 cases h with
 | lit hv=>exact ⟨rfl,hv⟩
 | ref J=>simp [ab.isRef] at J
theorem R.rv (h:R w I ρ .aS v F):v=.slice none 0 0:=by
 cases h with
 | aS=>rfl
 | ref J=>simp [ab.isRef] at J
theorem R.n4 {p:Place}{k:Nat}(h:R w I ρ (.ptr p k) v F):ρ (.ptr p k) v:=by
 cases h with
 | ref J h=>exact h
theorem R.n3 {z:Nat}{p:Place}{n:Nat}(h:R w I ρ (.a6 z p n) v F):ρ (.a6 z p n) v:=by
 cases h with
 | ref J h=>exact h
theorem R.z6 {z:Nat}{p:Place}{lo n:Nat}(h:R w I ρ (.sub z p lo n) v F):ρ (.sub z p lo n) v:=by
 cases h with
 | ref J h=>exact h
theorem R.z1 {z n:Nat}{cs:List ab}(h:R w I ρ (.bl z n cs) v F):∃ a cap,v=.slice a n cap/\n<=cap/\cs.length=n * z /\
  (cs≠[]\/0<n->∃ (ad:Addr) (us:Nat->Value),a=some ad/\I ad.block/\ad.spot=none/\(∀ (k:Nat) (x:ab),cs[k]?=some x->(us k).oneCell'=true)/\(∀ (k:Nat) (x:ab),cs[k]?=some x->w.cell? ⟨ad.block,ad.off+k,none⟩=some (us k))/\∀ (k:Nat) (x:ab),cs[k]?=some x->R w I ρ x (us k) cg):=by
 cases h with
 | @gK _ cap a=>exact ⟨a,cap,rfl,Nat.zero_le _,by simp,λh=>by simp at h⟩
 | @bl _ _ cap _ ad us _ aH lW bc av ah h1 aa hr=>exact ⟨_,cap,rfl,lW,ah,λ_=>⟨ad,us,rfl,bc,av,h1,aa,hr⟩⟩
 | ref J=>simp [ab.isRef] at J
theorem R.xM {cs:List ab}(h:R w I ρ (.cx cs) v F):∃ (ad:Addr) (us:Nat->Value),v=.pointer (some ad)/\I ad.block/\ad.spot=none/\(∀ (k:Nat) (x:ab),cs[k]?=some x->(us k).oneCell'=true)/\(∀ (k:Nat) (x:ab),cs[k]?=some x->w.cell? ⟨ad.block,ad.off+k,none⟩=some (us k))/\∀ (k:Nat) (x:ab),cs[k]?=some x->R w I ρ x (us k) cg:=by
 cases h with
 | @cx _ ad us _ aH bc av h1 aa hr=>exact ⟨ad,us,rfl,bc,av,h1,aa,hr⟩
 | ref J=>simp [ab.isRef] at J
theorem R.C0 {cs:List ab}(h:R w I ρ (.agg cs) v F) (aH:∀ c,¬ F c):∃ vs:Array Value,v=.agg vs/\cs.length=vs.size/\(∀ (k:Nat) (u:Value),vs[k]?=some u->u.oneCell'=true)/\∀ (k:Nat) (x:ab) (u:Value),cs[k]?=some x->vs[k]?=some u->R w I ρ x u cg:=by
 cases h with
 | @agg _ vs Fs _ ah h1 hr aQ oC=>exact ⟨vs,rfl,ah,h1,λk x u J hu=>(hr k x u J hu).empty λc aa=>aH c ((oC c).2 ⟨k,(List.getElem?_eq_some_iff.1 J).1,aa⟩)⟩
 | ref J=>simp [ab.isRef] at J
theorem R.YD {cs:List ab}(h:R w I ρ (.bR cs) v F) (aH:∀ c,¬ F c):∃ vs:Array Value,v=.tuple vs/\cs.length=vs.size/\∀ (k:Nat) (x:ab) (u:Value),cs[k]?=some x->vs[k]?=some u->R w I ρ x u cg:=by
 cases h with
 | @bR _ vs Fs _ ah hr aQ oC=>exact ⟨vs,rfl,ah,λk x u J hu=>(hr k x u J hu).empty λc aa=>aH c ((oC c).2 ⟨k,(List.getElem?_eq_some_iff.1 J).1,aa⟩)⟩
 | ref J=>simp [ab.isRef] at J
theorem R.node {y:ab}{z n:Nat}{cs:List ab}(h:R w I ρ y v F) (ao:y=.own z n cs\/y=.obj cs) {k:Nat}{x:ab}(hk:cs[k]?=some x) :
  ∃ b u,addrOf v=some ⟨b,0,none⟩/\w.cell? ⟨b,k,none⟩=some u/\child w v k=some u/\u.oneCell'=true/\∃ bD,R w I ρ x u bD:=by
 rcases ao with rfl | rfl
 ·cases h with
  | @own _ _ _ _ e us Fs _ aX ah h1 hr aQ ar aH =>
   have aP:k<cs.length:=(List.getElem?_eq_some_iff.1 hk).1;have hu:us[k]?=some us[k]:=List.getElem?_eq_getElem (ah ▸ aP);have nZ:=pk aX hu;obtain ⟨nz,af⟩:=aX;rcases af with ⟨rfl,rfl⟩ | ⟨b,cap,cur,rfl,aN,bO,rest⟩
   ·grind
   ·exact ⟨b,_,rfl,by simpa [child] using nZ,nZ,h1 k _ hu,Fs k,hr k x _ hk hu⟩
  | ref J=>simp [ab.isRef] at J
 ·cases h with
  | @obj _ b e arr Fs _ aX ah h1 hr aQ ar aH =>
   have aP:k<cs.length:=(List.getElem?_eq_some_iff.1 hk).1;have hu:arr[k]?=some arr[k]:=Array.getElem?_eq_getElem (ah ▸ aP);exact ⟨b,_,rfl,by simp [World.cell?,aX,hu],by simp [child,World.cell?,aX,hu],h1 k _ hu,Fs k,hr k x _ hk hu⟩
  | ref J=>simp [ab.isRef] at J
end
def p7 (g:aM) (d:Nat):Option Operand->Nat->Prop
 | none,j=>j=d
 | some o,j=>∃ k,bs g o=some (.lit (.int k (j:Int)))
inductive dj (P:Program) (g:aM):Op->TypeId->ab->Prop
 | move {x:Operand}{ty:TypeId}{y:ab}(J:bs g x=some y):dj P g (.move x) ty y
 | assign {x:Operand}{ty:TypeId}{y:ab}(J:bs g x=some y):dj P g (.assign x) ty y
 | pick {c a b:Operand}{ty:TypeId}{t:Bool}{r:ab}(aa:bs g c=some (.lit (.bool t))) (hr:bs g (if t then a else b)=some r):dj P g (.pick c a b) ty r
 | Gi {x:Operand}{ty:TypeId}{p:Place}{k:Nat}(J:bs g x=some (.ptr p k)):dj P g (.nilCheck x) ty (.ptr p k)
 | qF {x:Operand}{ty:TypeId}{cs:List ab}(J:bs g x=some (.cx cs)):dj P g (.nilCheck x) ty (.cx cs)
 | BT {x:Operand}{ty s t:TypeId}{f off:Nat}{p:Place}{k:Nat}(J:bs g x=some (.ptr p k)) (aU:iY P s f off t=true) (c6:gE g (.ptr p (k+off))):dj P g (.fieldAddr s x f) ty (.ptr p (k+off))
 | Fi {x:Operand}{ty s t:TypeId}{f off:Nat}{cs:List ab}(J:bs g x=some (.cx cs)) (aU:iY P s f off t=true):dj P g (.fieldAddr s x f) ty (.cx (cs.drop off))
 | IS {x:Operand}{ty s t:TypeId}{f off:Nat}{cs:List ab}{y:ab}(J:bs g x=some (.agg cs)) (aU:iY P s f off t=true) (au:j6 P t=true) (ao:cs[off]?=some y):dj P g (.field s x f) ty y
 | IT {x:Operand}{ty s t:TypeId}{f off k:Nat}{cs:List ab}(J:bs g x=some (.agg cs)) (aU:iY P s f off t=true) (au:h8 P t k=true) (hk:off+k<=cs.length):dj P g (.field s x f) ty (.agg ((cs.drop off).take k))
 | FU {x i:Operand}{ty t e:TypeId}{z n:Nat}{cs:List ab}{n_:IntKind}{j:Nat}(J:bs g x=some (.bl z n cs)) (hi:bs g i=some (.lit (.int n_ (j:Int)))) (au:ft P t e z=true) (ag:j<n):dj P g (.indexAddr t x i) ty (.cx (cs.drop (j * z)))
 | FT {x i:Operand}{ty t e:TypeId}{z n:Nat}{p:Place}{n_:IntKind}{j:Nat}(J:bs g x=some (.a6 z p n)) (hi:bs g i=some (.lit (.int n_ (j:Int)))) (au:ft P t e z=true) (ag:j<n) (c6:gE g (.ptr p (j * z))):dj P g (.indexAddr t x i) ty (.ptr p (j * z))
 | Ky {x i:Operand}{ty t e:TypeId}{z lo n:Nat}{p:Place}{n_:IntKind}{j:Nat}(J:bs g x=some (.sub z p lo n)) (hi:bs g i=some (.lit (.int n_ (j:Int)))) (au:ft P t e z=true) (ag:j<n) (c6:gE g (.ptr p ((lo+j) * z))):dj P g (.indexAddr t x i) ty (.ptr p ((lo+j) * z))
 | FR {x i:Operand}{ty t e:TypeId}{n z k:Nat}{p:Place}{n_:IntKind}{j:Nat}(J:bs g x=some (.ptr p k)) (hi:bs g i=some (.lit (.int n_ (j:Int)))) (au:zh P t e n z=true) (ag:j<n) (c6:gE g (.ptr p (k+j * z))):dj P g (.indexAddr t x i) ty (.ptr p (k+j * z))
 | Kx {x i:Operand}{ty t e:TypeId}{n z:Nat}{cs:List ab}{n_:IntKind}{j:Nat}(J:bs g x=some (.cx cs)) (hi:bs g i=some (.lit (.int n_ (j:Int)))) (au:zh P t e n z=true) (ag:j<n):dj P g (.indexAddr t x i) ty (.cx (cs.drop (j * z)))
 | F9 {x:Operand}{ty t:TypeId}{c:ab}{cs:List ab}(J:bs g x=some (.cx (c::cs))) (au:j6 P t=true):dj P g (.load t x) ty c
 | F_ {x:Operand}{ty t:TypeId}{k:Nat}{cs:List ab}(J:bs g x=some (.cx cs)) (au:h8 P t k=true) (hk:k<=cs.length):dj P g (.load t x) ty (.agg (cs.take k))
 | C' {x:Operand}{ty t:TypeId}{p:Place}{k:Nat}{y:ab}(J:bs g x=some (.ptr p k)) (au:j6 P t=true) (ao:bE g (p.push k)=some y):dj P g (.load t x) ty (fZ 0 (p.push k) y)
 | z' {x:Operand}{ty t:TypeId}{p:Place}{k m z n:Nat}{y:ab}{cs:List ab}(J:bs g x=some (.ptr p k)) (au:h8 P t m=true) (ao:bE g p=some y) (aa:y=.own z n cs\/y=.obj cs) (hm:k+m<=cs.length):dj P g (.load t x) ty (.agg (((cs.drop k).take m).mapIdx λi x=>fZ 0 (p.push (k+i)) x))
 | FV {x i:Operand}{ty t:TypeId}{s:ByteArray}{n_:IntKind}{j:Nat}{b:UInt8}(J:bs g x=some (.lit (.string s))) (hi:bs g i=some (.lit (.int n_ (j:Int)))) (au:sJ P t=true) (ar:s[j]?=some b):dj P g (.index t x i) ty (.lit (.int .u8 b.toNat))
 | bin {op:BinOp}{x y:Operand}{ty t t2:TypeId}{a b v:Value}(J:bs g x=some (.lit a)) (ao:bs g y=some (.lit b)) (hv:v.oneCell'=true) (hr:∀ w,(do eqGuard op t x y a b; binOp op t a b:Sem Value).run P w=.ok v w):dj P g (.binOp op t x y t2) ty (.lit v)
 | Bx {op:BinOp}{x y:Operand}{ty t t2:TypeId}{az dg:List Value}{v:Value}(J:bs g x=some (.agg (az.map .lit))) (ao:bs g y=some (.agg (dg.map .lit))) (hv:v.oneCell'=true) (hr:∀ w,(do eqGuard op t x y (.agg az.toArray) (.agg dg.toArray); binOp op t (.agg az.toArray) (.agg dg.toArray):Sem Value).run P w=.ok v w):dj P g (.binOp op t x y t2) ty (.lit v)
 | un {op:UnOp}{x:Operand}{ty t:TypeId}{a v:Value}(J:bs g x=some (.lit a)) (hv:v.oneCell'=true) (hr:∀ w,(Op.unary op a).run P w=.ok v w):dj P g (.unOp op t x) ty (.lit v)
 | conv {x:Operand}{ty s d:TypeId}{a v:Value}(J:bs g x=some (.lit a)) (hv:v.oneCell'=true) (hr:∀ w,(convert s d a).run P w=.ok v w):dj P g (.convert s d x) ty (.lit v)
 | Iv {x:Operand}{ty s d:TypeId}{n N:Nat}{p:Place}{cs:List ab}{xs:List Int}(J:bs g x=some (.a6 1 p n)) (aq:bE g p=some (.own 1 N cs)) (aC:n<=N) (eY:cs.take n=xs.map λb=>.lit (.int .u8 b)) (au:zq P s d=true):dj P g (.convert s d x) ty (.lit (.string (strOfNums xs)))
 | Fb {x:Operand}{ty s d:TypeId}{n:Nat}{xs:List Int}(J:bs g x=some (.bl 1 n (xs.map λb=>.lit (.int .u8 b)))) (au:zq P s d=true):dj P g (.convert s d x) ty (.lit (.string (strOfNums xs)))
 | IN {xs:Array Operand}{fR:Array TypeId}{ty:TypeId}{f:FuncId}{vs:List Value}{v:Value}(J:xs.toList.map (bs g)=vs.map λv=>some (.lit v)) (hv:v.oneCell'=true)
   (hr:∀ w,(callFunc f vs.toArray).run P w=.ok (.value v) w):dj P g (.call { callee:=.value (.func f),args:=xs,argTypes:=fR }) ty (.lit v)
 | Fg {x:Operand}{ty:TypeId}{i:Nat}{cs:List ab}{y:ab}(J:bs g x=some (.bR cs)) (ao:cs[i]?=some y):dj P g (.extract x i) ty y
 | Ec {x:Operand}{lo hi:Option Operand}{ty t e:TypeId}{z n l h:Nat}{cs:List ab}(J:bs g x=some (.bl z n cs)) (ah:p7 g 0 lo l) (bO:p7 g n hi h) (au:ft P t e z=true) (s8:l<=h) (aC:h<=n):dj P g (.slice t x lo hi none) ty (.bl z (h - l) ((cs.drop (l * z)).take ((h - l) * z)))
 | G7 {x:Operand}{lo hi:Option Operand}{ty t e:TypeId}{z n h:Nat}{p:Place}(J:bs g x=some (.a6 z p n)) (ah:p7 g 0 lo 0) (bO:p7 g n hi h) (au:ft P t e z=true) (aC:h<=n) (c6:gE g (.a6 z p h)):dj P g (.slice t x lo hi none) ty (.a6 z p h)
 | G6 {x:Operand}{lo hi:Option Operand}{ty t e:TypeId}{z n l h:Nat}{p:Place}(J:bs g x=some (.a6 z p n)) (ah:p7 g 0 lo l) (bO:p7 g n hi h) (au:ft P t e z=true) (s8:l<=h) (aC:h<=n) (c6:gE g (.sub z p l (h - l))):dj P g (.slice t x lo hi none) ty (.sub z p l (h - l))
 | G8 {x:Operand}{lo hi:Option Operand}{ty t:TypeId}{l h:Nat}{s:ByteArray}(J:bs g x=some (.lit (.string s))) (ah:p7 g 0 lo l) (bO:p7 g s.size hi h) (au:sJ P t=true) (s8:l<=h) (aC:h<=s.size):dj P g (.slice t x lo hi none) ty (.lit (.string (s.extract l h)))
 | F6 {x:Operand}{ty t e:TypeId}{z bQ n:Nat}{cs:List ab}(J:bs g x=some (.bl z n cs)) (au:ft P t e bQ=true):dj P g (.call { callee:=.builtin .len,args:=#[x],argTypes:=#[t] }) ty (.lit (.int .i64 n))
 | F5 {x:Operand}{ty t e:TypeId}{z bQ n:Nat}{p:Place}(J:bs g x=some (.a6 z p n)) (au:ft P t e bQ=true):dj P g (.call { callee:=.builtin .len,args:=#[x],argTypes:=#[t] }) ty (.lit (.int .i64 n))
 | KU {x:Operand}{ty t e:TypeId}{z bQ lo n:Nat}{p:Place}(J:bs g x=some (.sub z p lo n)) (au:ft P t e bQ=true):dj P g (.call { callee:=.builtin .len,args:=#[x],argTypes:=#[t] }) ty (.lit (.int .i64 n))
 | KT {x:Operand}{ty t e:TypeId}{bQ:Nat}(J:bs g x=some .aS) (au:ft P t e bQ=true):dj P g (.call { callee:=.builtin .len,args:=#[x],argTypes:=#[t] }) ty (.lit (.int .i64 0))
 | lits {b:Builtin}{xs:Array Operand}{fR:Array TypeId}{ty:TypeId}{vs:List Value}{v:Value}(J:xs.toList.map (bs g)=vs.map λv=>some (.lit v)) (hv:v.oneCell'=true)
   (hr:∀ w (cs:Array Bool),(builtin b fR ty cs vs.toArray).run P w=.ok (.value v) w):dj P g (.call { callee:=.builtin b,args:=xs,argTypes:=fR }) ty (.lit v)
 | F8 {x y:Operand}{ty t:TypeId}{p:Place}{q:Array MapEntry->Nat->Prop}{ok:Bool}{Y X:ab}{oN V:Value}(J:bs g x=some (.gm p)) (aq:bE g p=some (.mp q)) (ao:bs g y=some Y)
   (c5:∀ (w:World) (I:a') (ρ:ab->Value->Prop) (v:Value),R w I ρ Y v cg->v=oN) (aY:∀ (w:World) (I:a') (ρ:ab->Value->Prop),R w I ρ X V cg)
   (hr:∀ (w:World) (b:Nat) (es:Array MapEntry) (clock:Nat),w.heap[b]?=some (.map es clock)->q es clock->(Instr.lookup t (.map (some b)) oN ok).run P w=.ok V w):dj P g (.lookup t x y ok) ty X
 | KW {x y:Operand}{ty t:TypeId}{q:Array MapEntry->Nat->Prop}{ok:Bool}{Y X:ab}{oN V:Value}(J:bs g x=some (.imp q)) (ao:bs g y=some Y)
   (c5:∀ (w:World) (I:a') (ρ:ab->Value->Prop) (v:Value),R w I ρ Y v cg->v=oN) (aY:∀ (w:World) (I:a') (ρ:ab->Value->Prop),R w I ρ X V cg)
   (hr:∀ (w:World) (b:Nat) (es:Array MapEntry) (clock:Nat),w.heap[b]?=some (.map es clock)->q es clock->(Instr.lookup t (.map (some b)) oN ok).run P w=.ok V w):dj P g (.lookup t x y ok) ty X
theorem R.Pq {w:World}{I:a'}{ρ:ab->Value->Prop}{p:Place}{v:Value}{F:a'}(h:R w I ρ (.gm p) v F):ρ (.gm p) v:=by
 cases h with
 | ref _ h _=>exact h
theorem R.KB {w:World}{I:a'}{ρ:ab->Value->Prop}{q:Array MapEntry->Nat->Prop}{v:Value}{F:a'}(h:R w I ρ (.mp q) v F):∃ b es clock,v=.map (some b)/\w.heap[b]?=some (.map es clock)/\q es clock/\∀ c,F c↔c=b:=by
 cases h with
 | ref J=>simp [ab.isRef] at J
 | mp aX a_ aH=>exact ⟨_,_,_,rfl,aX,a_,aH⟩
theorem R.YC {w:World}{I:a'}{ρ:ab->Value->Prop}{q:Array MapEntry->Nat->Prop}{v:Value}{F:a'}(h:R w I ρ (.imp q) v F):∃ b es clock,v=.map (some b)/\w.heap[b]?=some (.map es clock)/\q es clock:=by
 cases h with
 | ref J=>simp [ab.isRef] at J
 | imp _ _ aX a_=>exact ⟨_,_,_,rfl,aX,a_⟩
section
variable {P:Program}{w:World}{I:a'}{T:Array Value}{g:aM}{Fs:Nat->a'}
theorem p7.sound (h:cB w I T g Fs) {d:Nat}{x:Option Operand}{j:Nat}(ar:p7 g d x j) {a:Act}(aJ:a.tmps=T):(x.map a.eval=none/\j=d)\/∃ k,x.map a.eval=some (.int k (j:Int)):=by
 cases x with
 | none=>exact .inl ⟨rfl,ar⟩
 | some o =>
  obtain ⟨k,hk⟩:=ar;exact .inr ⟨k,by rw [Option.map_some,(kd h hk aJ).hM.1]⟩
theorem GU {len cap l h:Nat}{lo hi:Option Value}(ah:(lo=none/\l=0)\/∃ k,lo=some (.int k (l:Int))) (bO:(hi=none/\h=len)\/∃ k,hi=some (.int k (h:Int))) (b:Bool) (s8:l<=h) (aa:h<=cap) :
  (Instr.sliceBounds b len cap lo hi none).run P w=.ok (l,h,cap) w:=by
 rcases ah with ⟨rfl,rfl⟩ | ⟨k,rfl⟩ <;> rcases bO with ⟨rfl,rfl⟩ | ⟨kc,rfl⟩ <;> simp [Instr.sliceBounds,Instr.sliceBound,asIntOf,s8,aa]
theorem PG (h:cB w I T g Fs) {a:Act}(aJ:a.tmps=T):∀ (xs:List Operand) (vs:List Value),xs.map (bs g)=vs.map (λv=>some (.lit v))->xs.map a.eval=vs
 | [],[],_=>rfl
 | [],_::_,h=>by simp at h
 | _::_,[],h=>by simp at h
 | x::xs,v::vs,J=>by
  simp only [List.map_cons,List.cons.injEq] at J;rw [List.map_cons,(kd h J.1 aJ).hM.1,PG h aJ xs vs J.2]
theorem ME {w:World}{I:a'}{ρ:ab->Value->Prop}{v:Value}{az:List Value}
  (h:∃ vs:Array Value,v=.agg vs/\(az.map ab.lit).length=vs.size/\(∀ (k:Nat) (u:Value),vs[k]?=some u->u.oneCell'=true)/\∀ (k:Nat) (x:ab) (u:Value),(az.map ab.lit)[k]?=some x->vs[k]?=some u->R w I ρ x u cg):v=.agg az.toArray:=by
 obtain ⟨vs,rfl,ah,-,hr⟩:=h;congr 1;apply Array.ext (by simpa using ah.symm);intro i h1 af;have aE:i<az.length:=by simpa using af
 have:=(hr i (.lit az[i]) vs[i] (by simp [aE]) (Array.getElem?_eq_getElem h1)).hM.1
 grind
theorem dj.sound (h:cB w I T g Fs) {a:Act}(aJ:a.tmps=T) {o:Oper}{kY:ab}(aq:dj P g o.op o.type kY) :
  ∃ v,(execOp a.eval o).run P w=.ok (.value v) w/\R w I (dz w T g) kY v cg:=by
 obtain ⟨dst,op,ty,pos,after,guard⟩:=o;simp only at aq;have fM:∀ {x:Operand}{y:ab},bs g x=some y->R w I (dz w T g) y (a.eval x) cg:=λao=>kd h ao aJ;have no:∀ c,¬ cg c:=λ_ h=>h;cases aq with
 | move J=>exact ⟨_,by simp [execOp],fM J⟩
 | assign J=>exact ⟨_,by simp [execOp],fM J⟩
 | @pick c x y _ t r aa hr =>
  have vv:=(fM aa).hM.1;refine ⟨_,?_,fM hr⟩;simp [execOp,vv,asBool]
  grind
 | @Gi x _ p k J =>
  have hr:=fM J;obtain ⟨⟨u,ad,h1,af,aE⟩,bm⟩:=hr.n4
  simp_all [execOp]
 | @qF x _ cs J =>
  have hr:=fM J;obtain ⟨ad,us,aE,_⟩:=hr.xM
  simp_all [execOp]
 | @BT x _ s t f off p k J aU c6 =>
  obtain ⟨⟨u,ad,h1,af,aE⟩,bm⟩:=(fM J).n4;refine ⟨.pointer (some ⟨ad.block,ad.off+k+off,none⟩),by simp [execOp,aE,QO aU],.ref rfl ⟨⟨u,ad,h1,af,by rw [Nat.add_assoc]⟩,c6⟩ no⟩
 | @Fi x _ s t f off cs J aU =>
  obtain ⟨ad,us,aE,bc,av,hz,aa,hr⟩:=(fM J).xM;obtain ⟨b,o,sp⟩:=ad;simp only at av;subst av;refine ⟨.pointer (some ⟨b,o+off,none⟩),by simp [execOp,aE,QO aU],.cx (us:=λk=>us (off+k)) no bc rfl (λk x hk=>hz _ x (by rwa [List.getElem?_drop] at hk)) (λk x hk=>?_) λk x hk=>?_⟩
  ·grind
  grind
 | @IS x _ s t f off cs y J aU au ao =>
  obtain ⟨vs,aE,ah,hz,hr⟩:=(fM J).C0 no;obtain ⟨fs,fd,hu,JF,rfl,rfl,i,hi,aK⟩:=IV aU;have hk:fd.offset<cs.length:=(List.getElem?_eq_some_iff.1 ao).1;have hv:vs[fd.offset]?=some vs[fd.offset]:=Array.getElem?_eq_getElem (ah ▸ hk);refine ⟨_,?_,hr _ kY _ ao hv⟩;simp [execOp,aE,Instr.field,run_underlying hu,JF,asAgg,part,(Ir (w:=w) au).1,hv]
 | @IT x _ s t f off k cs J aU au hk =>
  obtain ⟨vs,aE,ah,hz,hr⟩:=(fM J).C0 no;obtain ⟨fs,fd,hu,JF,rfl,rfl,i,hi,aK⟩:=IV aU;refine ⟨.agg (vs.extract fd.offset (fd.offset+k)),?_,.agg (Fs:=λ_=>cg) (by simp [ah]; omega) (λj u h0=>by
   rw [Array.getElem?_extract] at h0
   grind) (λj y u ao h0=>?_) (λ_ _ _ _ _ h=>h.elim) (λc=>⟨λh=>h.elim,λ⟨_,_,h⟩=>h⟩)⟩
  ·simp [execOp,aE,Instr.field,run_underlying hu,JF,asAgg,part,(EX (w:=w) au).1,(EX (w:=w) au).2]
  grind
 | @FU x i _ t e z n cs n_ j J hi au ag =>
  obtain ⟨hu,he,aW⟩:=rN (w:=w) au;obtain ⟨mK,cap,aE,_,ah,hm⟩:=(fM J).z1;obtain ⟨ad,us,rfl,bc,av,hz,aa,hr⟩:=hm (.inr (by omega));obtain ⟨b,o,sp⟩:=ad;simp only at av;subst av;have s7:=(fM hi).hM.1;refine ⟨.pointer (some ⟨b,o+j * z,none⟩),?_,.cx (us:=λk=>us (j * z+k)) no bc rfl (λk x hk=>hz _ x (by rwa [List.getElem?_drop] at hk)) (λk x hk=>?_) λk x hk=>?_⟩
  ·simp [execOp,aE,s7,Instr.indexAt,run_underlying hu,asIntOf,ag,aW,add_eq]
  ·grind
  grind
 | @FT x i _ t e z n p n_ j J hi au ag c6 =>
  obtain ⟨hu,he,aW⟩:=rN (w:=w) au;obtain ⟨⟨mK,N,cap,h1,af,aE⟩,bm⟩:=(fM J).n3;have s7:=(fM hi).hM.1;obtain ⟨y,ao,kZ,e1,cs,ef,aP⟩:=c6;obtain ⟨v,cq,hv,dt,_⟩:=h.part ao (by rcases ef with rfl | rfl <;> simp);rw [h1] at hv;cases hv;obtain ⟨b,u,fE,mP,_,_⟩:=dt.node ef (List.getElem?_eq_getElem aP);cases mK with
  | none=>simp [addrOf] at fE
  | some ad =>
   simp only [addrOf,Option.some.injEq] at fE;subst fE;refine ⟨.pointer (some ⟨b,j * z,none⟩),?_,.ref rfl ⟨⟨_,_,h1,rfl,by simp⟩,y,ao,kZ,e1,cs,ef,aP⟩ no⟩;simp [execOp,af,s7,Instr.indexAt,run_underlying hu,asIntOf,ag,aW,add_eq]
 | @Ky x i _ t e z lo n p n_ j J hi au ag c6 =>
  obtain ⟨hu,he,aW⟩:=rN (w:=w) au;obtain ⟨⟨mK,N,cap,ca,nq,h1,af,_,aE,b7⟩,bm⟩:=(fM J).z6;obtain ⟨ad,rfl,rfl⟩:=b7 (by omega);have s7:=(fM hi).hM.1;obtain ⟨y,ao,kZ,e1,cs,ef,aP⟩:=c6;obtain ⟨v,cq,hv,dt,_⟩:=h.part ao (by rcases ef with rfl | rfl <;> simp);rw [h1] at hv;cases hv;obtain ⟨b,u,fE,mP,_,_⟩:=dt.node ef (List.getElem?_eq_getElem aP);simp only [addrOf,Option.some.injEq] at fE;subst fE;refine ⟨.pointer (some ⟨b,(lo+j) * z,none⟩),?_,.ref rfl ⟨⟨_,_,h1,rfl,by simp⟩,y,ao,kZ,e1,cs,ef,aP⟩ no⟩;simp [execOp,af,s7,Instr.indexAt,run_underlying hu,asIntOf,ag,aW,add_eq,Nat.add_mul]
 | @FR x i _ t e n z k p n_ j J hi au ag c6 =>
  obtain ⟨hu,aW⟩:=MN (w:=w) au;obtain ⟨⟨u,ad,h1,af,aE⟩,bm⟩:=(fM J).n4;have s7:=(fM hi).hM.1;refine ⟨.pointer (some ⟨ad.block,ad.off+k+j * z,none⟩),?_,.ref rfl ⟨⟨u,ad,h1,af,by rw [Nat.add_assoc]⟩,c6⟩ no⟩;simp [execOp,aE,s7,Instr.indexAt,run_underlying hu,Instr.sureAddr,asIntOf,ag,aW,add_eq]
 | @Kx x i _ t e n z cs n_ j J hi au ag =>
  obtain ⟨hu,aW⟩:=MN (w:=w) au;obtain ⟨ad,us,aE,bc,av,hz,aa,hr⟩:=(fM J).xM;obtain ⟨b,o,sp⟩:=ad;simp only at av;subst av;have s7:=(fM hi).hM.1;refine ⟨.pointer (some ⟨b,o+j * z,none⟩),?_,.cx (us:=λk=>us (j * z+k)) no bc rfl (λk x hk=>hz _ x (by rwa [List.getElem?_drop] at hk)) (λk x hk=>?_) λk x hk=>?_⟩
  ·simp [execOp,aE,s7,Instr.indexAt,run_underlying hu,Instr.sureAddr,asIntOf,ag,aW,add_eq]
  ·grind
  grind
 | @F9 x _ t c cs J au =>
  obtain ⟨ad,us,aE,bc,av,hz,aa,hr⟩:=(fM J).xM;obtain ⟨b,o,sp⟩:=ad;simp only at av;subst av;have aK:w.cell? ⟨b,o,none⟩=some (us 0):=by simpa using aa 0 kY rfl
  simp_all [execOp,QQ]
 | @F_ x _ t k cs J au hk =>
  obtain ⟨ad,us,aE,bc,av,hz,aa,hr⟩:=(fM J).xM;obtain ⟨b,o,sp⟩:=ad;simp only at av;subst av;have Xn:∀ j v,((List.range k).map us)[j]?=some v->w.cell? ⟨b,o+j,none⟩=some v:=by
   grind
  refine ⟨.agg ((List.range k).map us).toArray,by simp [execOp,aE,QP au (by simp) Xn],.agg (Fs:=λ_=>cg) (by simp; omega) (λj u h0=>by
   grind) (λj y u ao h0=>?_) (λ_ _ _ _ _ h=>h.elim) (λc=>⟨λh=>h.elim,λ⟨_,_,h⟩=>h⟩)⟩
  grind
 | @C' x _ t p k y J au ao =>
  obtain ⟨⟨u,ad,h1,af,aE⟩,bm⟩:=(fM J).n4;rw [tP] at ao;cases aC:bE g p with
  | none=>rw [aC] at ao; cases ao
  | some nd =>
   rw [aC] at ao;simp only [Option.bind_some] at ao;obtain ⟨y',pd,kZ,e1,cs,ef,aP⟩:=bm;rw [aC] at pd;cases pd;obtain ⟨v,cq,hv,dt,c_⟩:=h.part aC (by rcases ef with rfl | rfl <;> simp);rw [h1] at hv;cases hv;have ih:cs[k]?=some y:=by rcases ef with rfl | rfl <;> simpa [ab.kids] using ao
   obtain ⟨b,gy,fE,mP,nZ,hz,bD,kp⟩:=dt.node ef ih;rw [fE] at af;cases af;refine ⟨gy,by simp only [execOp,aE]; simp [QQ au mP],GL 0 (by rw [tP,aC]; exact ao) (by rw [yI,h1]; exact nZ) kp⟩
 | @z' x _ t p k m z n y cs J au ao ef hm =>
  obtain ⟨⟨u,ad,h1,af,aE⟩,bm⟩:=(fM J).n4;obtain ⟨v,cq,hv,dt,c_⟩:=h.part ao (by rcases ef with rfl | rfl <;> simp);rw [h1] at hv;cases hv;have vu:∃ b,ad=⟨b,0,none⟩:=by
   obtain ⟨y',pd,kZ,e1,cs',Pf,aP⟩:=bm;rw [ao] at pd;cases pd;have:cs'=cs:=by rcases ef with rfl | rfl <;> rcases Pf with bO | bO <;> cases bO <;> rfl
   subst this;obtain ⟨b,gy,fE,_⟩:=dt.node Pf (List.getElem?_eq_getElem aP)
   grind
  obtain ⟨b,rfl⟩:=vu;have JS:y.kids=cs:=by rcases ef with rfl | rfl <;> rfl
  have cell:∀ j,j<m->∃ gy,w.cell? ⟨b,k+j,none⟩=some gy/\gy.oneCell'=true/\∃ lp,cs[k+j]?=some lp/\R w I (dz w T g) (fZ 0 (p.push (k+j)) lp) gy cg:=by
   intro j ag;have fc:cs[k+j]?=some cs[k+j]:=List.getElem?_eq_getElem (by omega);obtain ⟨dR,gy,fE,mP,nZ,hz,bD,kp⟩:=dt.node ef fc;rw [af] at fE;cases fE;exact ⟨gy,mP,hz,_,fc,GL 0 (by rw [tP,ao]; simp [JS]) (by rw [yI,h1]; exact nZ) kp⟩
  have hex:∃ us:List Value,us.length=m/\∀ j v,us[j]?=some v->w.cell? ⟨b,k+j,none⟩=some v:=by
   refine ⟨(List.range m).map λj=>(w.cell? ⟨b,k+j,none⟩).getD undef,by simp,?_⟩
   grind
  obtain ⟨us,oJ,XT⟩:=hex;refine ⟨.agg us.toArray,by simp only [execOp,aE]; simp [QP au oJ (b:=b) (o:=k) XT],.agg (Fs:=λ_=>cg) (by simp; omega) (λj u h0=>by
   grind) (λj iS u tf h0=>?_) (λ_ _ _ _ _ h=>h.elim) (λc=>⟨λh=>h.elim,λ⟨_,_,h⟩=>h⟩)⟩
  grind
 | @Iv x _ s d n N p cs xs J aq aC eY au =>
  obtain ⟨e,av,he,aQ⟩:=M3 au;obtain ⟨⟨mK,kI,cap,h1,af,aE⟩,_⟩:=(fM J).n3;obtain ⟨v,cq,hv,dt,c_⟩:=h.part aq (by simp);rw [h1] at hv;cases hv;have hT:(cs.take n).length=n:=by
   obtain ⟨_,_,_,ah⟩:=dt.od
   grind
  have hlen:xs.length=n:=by rw [<- hT,eY,List.length_map]
  refine ⟨_,?_,.lit rfl no⟩;obtain ⟨_,_,h',_,_,pb,sh⟩:=dt.od;cases h';cases mK with
  | none =>
   have aK:n=0:=by
    grind
   have:xs=[]:=List.eq_nil_of_length_eq_zero (hlen.trans aK);subst this;have hr:=run_convert_bytes_nil (P:=P) (w:=w) s e av he n cap d aQ;simp [execOp,af,hr];rfl
  | some ad =>
   obtain ⟨b,o,sp⟩:=ad;obtain ⟨rfl,rfl⟩:=pb _ rfl;have hr:=run_convert_bytes_arg (P:=P) w s e av he b 0 n cap xs hlen (λi hi=>by
    have Jz:(cs.take n)[i]?=some (.lit (.int .u8 (xs.getD i 0))):=by
     grind
    have WR:cs[i]?=some (.lit (.int .u8 (xs.getD i 0))):=by
     grind
    obtain ⟨dR,u,fE,mP,_,_,bD,kp⟩:=dt.node (.inl rfl) WR;simp only [addrOf,Option.some.injEq,Addr.mk.injEq,and_true] at fE;subst fE;rw [Nat.zero_add,mP,kp.hM.1]) d aQ
   simp_all [execOp]
 | @Fb x _ s d n xs J au =>
  obtain ⟨e,av,he,aQ⟩:=M3 au;have aY:=fM J;generalize sa:a.eval x=v at aY;refine ⟨_,?_,.lit rfl no⟩;generalize eY:(xs.map λb=>ab.lit (.int .u8 b))=cs at aY;cases aY with
  | ref J=>simp [ab.isRef] at J
  | @gK _ cap mK _ aH =>
   have:xs=[]:=by simpa using eY
   subst this;cases mK with
   | none =>
    have hr:=run_convert_bytes_nil (P:=P) (w:=w) s e av he 0 cap d aQ;simp [execOp,sa,hr];rfl
   | some ad =>
    have ah:(loadCells ad 0).run P w=.ok (([]:List Int).map (Value.int .u8)).toArray w:=by
     have:=run_loadCells_list (P:=P) w ad [] (λj v ag=>by simp at ag)
     grind
    have hr:=run_bytesToString w ad 0 cap [] ah;have aa:=run_convert_bytes_string (P:=P) w s d e (some ad) 0 cap av he aQ;rw [hr] at aa;simp [execOp,sa,aa];rfl
  | @bl _ _ cap _ ad us _ aH lW bc j_ ah h1 aa hr =>
   obtain ⟨b,o,sp⟩:=ad;simp only at j_;subst j_;have hlen:xs.length=n:=by rw [<- List.length_map (f:=λb=>ab.lit (.int .u8 b)),eY,ah,Nat.mul_one]
   have dH:=run_convert_bytes_arg (P:=P) w s e av he b o n cap xs hlen (λi hi=>by
    have Jz:cs[i]?=some (.lit (.int .u8 (xs.getD i 0))):=by
     grind
    have:=aa i _ Jz;simp only at this;rw [this,(hr i _ Jz).hM.1]) d aQ
   simp_all [execOp]
 | @IN xs fR _ f vs v J hv hr =>
  refine ⟨v,?_,.lit hv no⟩;have xD:xs.map a.eval=vs.toArray:=by
   apply Array.toList_inj.1;apply List.ext_getElem?;intro k;have:=congrArg (·[k]?) J;simp only [List.getElem?_map] at this;rw [Array.toList_map,List.getElem?_map];cases hk:xs.toList[k]? with
   | none =>
    grind
   | some o =>
    rw [hk] at this;cases hv:vs[k]? with
    | none=>rw [hv] at this; cases this
    | some v =>
     rw [hv] at this;simp only [Option.map_some,Option.some.injEq] at this ⊢;rw [(fM this).hM.1]
  have aU:a.eval (.func f)=.func (.func f) #[] #[]:=rfl
  simp_all [execOp,resolve,Deferred.ofValue,invoke]
 | @FV x i _ t s n_ j b J hi au ar =>
  have rn:=(fM J).hM.1;have s7:=(fM hi).hM.1;refine ⟨.int .u8 b.toNat,?_,.lit rfl no⟩
  simp_all [execOp,Instr.index,run_underlying,LN,asIntOf]
 | @bin op x y _ t t2 ca b v J ao hv hr =>
  have h1:=(fM J).hM.1;have af:=(fM ao).hM.1;refine ⟨v,?_,.lit hv no⟩
  grind [execOp,Sem.run_bind,Result.andThen_ok,Sem.run_pure]
 | @Bx op x y _ t t2 az dg v J ao hv hr =>
  have h1:=ME ((fM J).C0 no);have af:=ME ((fM ao).C0 no);refine ⟨v,?_,.lit hv no⟩
  grind [execOp,Sem.run_bind,Result.andThen_ok,Sem.run_pure]
 | @un op x _ t ca v J hv hr =>
  have h1:=(fM J).hM.1;exact ⟨v,by simp [execOp,h1,hr],.lit hv no⟩
 | @conv x _ s d ca v J hv hr =>
  have h1:=(fM J).hM.1;exact ⟨v,by simp [execOp,h1,hr],.lit hv no⟩
 | @Fg x _ i cs y J ao =>
  obtain ⟨vs,aE,ah,hr⟩:=(fM J).YD no;have hk:i<cs.length:=(List.getElem?_eq_some_iff.1 ao).1;have hv:vs[i]?=some vs[i]:=Array.getElem?_eq_getElem (ah ▸ hk);exact ⟨_,by simp [execOp,aE,Instr.extract,hv],hr _ kY _ ao hv⟩
 | @Ec x lo hi _ t e z n l bO cs J ah vz au s8 aC =>
  obtain ⟨hu,he,aW⟩:=rN (w:=w) au;obtain ⟨mK,cap,aE,lW,hlen,hm⟩:=(fM J).z1;have ar:=GU (P:=P) (w:=w) (len:=n) (cap:=cap) (ah.sound h aJ) (vz.sound h aJ) true s8 (by omega);have hA:(execOp a.eval { dst:=dst,op:=.slice t x lo hi none,type:=ty,pos:=pos,after:=after,guard:=guard }).run P w=.ok (.value (sliced mK l bO cap z)) w:=by
   simp_all [execOp,Instr.sliceAt,run_underlying,Instr.slice,sliced]
  refine ⟨_,hA,?_⟩;by_cases aK:bO - l=0
  ·rw [aK];simp only [Nat.zero_mul,List.take_zero,sliced,aK];exact .gK no
  ·obtain ⟨ad,us,rfl,bc,av,hz,aa,hr⟩:=hm (.inr (by omega));obtain ⟨b,o,sp⟩:=ad;simp only at av;subst av;have hT:cap≠l:=by omega
   simp only [sliced,hT,if_false,Option.map_some,add_eq];have Cs:((cs.drop (l * z)).take ((bO - l) * z)).length=(bO - l) * z:=by
    rw [List.length_take,List.length_drop,hlen];have:(bO - l) * z+l * z<=n * z:=by rw [<- Nat.add_mul]; exact Nat.mul_le_mul_right _ (by omega)
    omega
   refine .bl (us:=λk=>us (l * z+k)) no (by omega) bc rfl Cs (λk x hk=>hz (l * z+k) x (by
    grind)) (λk x hk=>?_) λk x hk=>?_
   ·grind
   grind
 | @G7 x lo hi _ t e z n bO p J ah vz au aC c6 =>
  obtain ⟨hu,he,aW⟩:=rN (w:=w) au;obtain ⟨⟨mK,N,cap,h1,af,aE⟩,bm⟩:=(fM J).n3;have lW:N<=cap:=by
   rcases bm with ⟨kI,cs,b7,dr⟩ | ⟨aK,q,gN,m,new,b7,dr⟩
   ·obtain ⟨v,cq,hv,dt,_⟩:=h.part b7 (by simp);rw [h1] at hv;obtain ⟨_,r2,OD,hle,_⟩:=dt.od
    grind
   ·obtain ⟨v,hv,dt⟩:=h.rel _ _ b7;simp only [dy,hv,aK,walk,Option.some.injEq] at h1;subst h1;obtain ⟨bv,b5,b3,us,news,dt⟩:=dt.vS;obtain ⟨_,mT⟩:=dt.mT
    grind
  have ar:=GU (P:=P) (w:=w) (len:=n) (cap:=cap) (ah.sound h aJ) (vz.sound h aJ) true (Nat.zero_le _) (by omega);refine ⟨.slice mK bO cap,?_,.ref rfl ⟨⟨mK,N,cap,h1,rfl,by omega⟩,c6⟩ no⟩
  simp_all [execOp,Instr.sliceAt,run_underlying,Instr.slice,Addr.add]
 | @G6 x lo hi _ t e z n l bO p J ah vz au s8 aC c6 =>
  obtain ⟨hu,he,aW⟩:=rN (w:=w) au;obtain ⟨⟨mK,N,cap,h1,af,aE⟩,bm⟩:=(fM J).n3;obtain ⟨kI,cs,b7,dr⟩:=c6;obtain ⟨v,cq,hv,dt,_⟩:=h.part b7 (by simp);rw [h1] at hv;obtain ⟨a2,r2,OD,hle,hlen,pb,sh⟩:=dt.od;rw [OD] at hv;cases hv;have ar:=GU (P:=P) (w:=w) (len:=n) (cap:=cap) (ah.sound h aJ) (vz.sound h aJ) true s8 (by omega);refine ⟨sliced mK l bO cap z,?_,.ref rfl ⟨⟨mK,_,cap,_,_,h1,rfl,by omega,by omega,λpP=>?_⟩,_,cs,b7,dr⟩ no⟩
  ·simp_all [execOp,Instr.sliceAt,run_underlying,Instr.slice,sliced]
  ·have av:=sh (by omega);cases mK with
   | none=>simp at av
   | some ad =>
    obtain ⟨aK,ja⟩:=pb ad rfl;obtain ⟨b,o,sp⟩:=ad
    grind [add_eq]
 | @G8 x lo hi _ t l bO s J ah vz au s8 aC =>
  have rn:=(fM J).hM.1;have ar:=GU (P:=P) (w:=w) (len:=s.size) (cap:=s.size) (ah.sound h aJ) (vz.sound h aJ) false s8 aC;exact ⟨.string (s.extract l bO),by simp [execOp,rn,Instr.sliceAt,run_underlying (LN au),Instr.slice,ar],.lit rfl no⟩
 | @F6 x _ t e z bQ n cs J au =>
  obtain ⟨hu,he,aW⟩:=rN (w:=w) au;obtain ⟨mK,cap,aE,_⟩:=(fM J).z1;exact ⟨_,by simp [execOp,resolve,invoke,builtin,aE,Builtin.len_,run_underlying hu,goInt],.lit rfl no⟩
 | @F5 x _ t e z bQ n p J au =>
  obtain ⟨hu,he,aW⟩:=rN (w:=w) au;obtain ⟨⟨mK,N,cap,h1,af,aE⟩,bm⟩:=(fM J).n3;exact ⟨_,by simp [execOp,resolve,invoke,builtin,af,Builtin.len_,run_underlying hu,goInt],.lit rfl no⟩
 | @KU x _ t e z bQ lo n p J au =>
  obtain ⟨hu,he,aW⟩:=rN (w:=w) au;obtain ⟨⟨mK,N,cap,ca,nq,h1,af,_,aE,b7⟩,bm⟩:=(fM J).z6;exact ⟨_,by simp [execOp,resolve,invoke,builtin,af,Builtin.len_,run_underlying hu,goInt],.lit rfl no⟩
 | @KT x _ t e bQ J au =>
  obtain ⟨hu,he,aW⟩:=rN (w:=w) au;have af:=(fM J).rv;exact ⟨_,by simp [execOp,resolve,invoke,builtin,af,Builtin.len_,run_underlying hu,goInt],.lit rfl no⟩
 | @lits b xs fR _ vs v J hv hr =>
  have qt:xs.map a.eval=vs.toArray:=by
   grind [Array.toList_map,PG]
  refine ⟨v,?_,.lit hv no⟩
  grind [execOp,resolve,invoke]
 | @F8 x y _ t p q ok Y _ oN V J aq ao c5 aY hr =>
  obtain ⟨⟨b,ar,hv⟩,_⟩:=(fM J).Pq;obtain ⟨dK,cq,ij,dt,_⟩:=h.part aq (by simp);rw [ar] at ij;cases ij;obtain ⟨dR,es,clock,e,aX,a_,_⟩:=dt.KB;cases e;refine ⟨V,?_,aY _ _ _⟩;simp [execOp,hv,c5 _ _ _ _ (fM ao),hr w _ _ _ aX a_]
 | @KW x y _ t q ok Y _ oN V J ao c5 aY hr =>
  obtain ⟨b,es,clock,hv,aX,a_⟩:=(fM J).YC;refine ⟨V,?_,aY _ _ _⟩;simp [execOp,hv,c5 _ _ _ _ (fM ao),hr w _ _ _ aX a_]
end
structure Fr (w w':World) (U:a'):Prop where
 os:w'.os=w.os
 tape:w'.tape=w.tape
 output:w'.output=w.output
 size:w.heap.size<=w'.heap.size
 block:∀ b,b<w.heap.size->¬ U b->w'.heap[b]?=w.heap[b]?
 dN:∀ a,a.block<w.heap.size->¬ U a.block->w'.frozen? a=w.frozen? a
 zx:w.drawn<=w'.drawn
theorem Fr.refl (w:World) (U:a'):Fr w w U:=⟨rfl,rfl,rfl,Nat.le_refl _,λ_ _ _=>rfl,λ_ _ _=>rfl,Nat.le_refl _⟩
theorem Fr.mono {w w':World}{U ET:a'}(h:Fr w w' U) (fq:∀ b,b<w.heap.size->U b->ET b):Fr w w' ET:=⟨h.os,h.tape,h.output,h.size,λb ar aC=>h.block b ar λhu=>aC (fq b ar hu),λa aJ aC=>h.dN a aJ λhu=>aC (fq _ aJ hu),h.zx⟩
theorem Fr.trans {w hX gU:World}{U zg:a'}(h:Fr w hX U) (h1:Fr hX gU zg) (fq:∀ b,b<w.heap.size->zg b->U b):Fr w gU U :=
 ⟨h1.os.trans h.os,h1.tape.trans h.tape,h1.output.trans h.output,Nat.le_trans h.size h1.size,λb ar aC=>(h1.block b (Nat.lt_of_lt_of_le ar h.size) λhu=>aC (fq b ar hu)).trans (h.block b ar aC),λa aJ aC=>(h1.dN a (Nat.lt_of_lt_of_le aJ h.size) λhu=>aC (fq _ aJ hu)).trans (h.dN a aJ aC),Nat.le_trans h.zx h1.zx⟩
theorem alloc_old (w:World) (o:Obj) (k:Nat) (h:k<w.heap.size):(w.alloc o).heap[k]?=w.heap[k]?:=by
 show (w.heap.push o)[k]?=_;rw [Array.getElem?_push,if_neg (by omega)]
theorem q6 (w:World) (o:Obj):(w.alloc o).heap[w.heap.size]?=some o:=by
 show (w.heap.push o)[w.heap.size]?=_;simp
theorem IW (w:World) (arr:Array Value) (t:TypeId) (a:Addr):(w.alloc (.cells arr t (0,0))).frozen? a=w.frozen? a:=by
 unfold World.frozen?;by_cases h:a.block=w.heap.size
 ·rw [h,q6];have:w.heap[w.heap.size]?=none:=by simp
  rw [this];simp
 ·by_cases af:a.block<w.heap.size
  ·rw [alloc_old w _ _ af]
  ·have aE:(w.alloc (.cells arr t (0,0))).heap[a.block]?=none:=by
    show (w.heap.push _)[a.block]?=_;rw [Array.getElem?_eq_none];simp; omega
   have bm:w.heap[a.block]?=none:=Array.getElem?_eq_none (by omega);rw [aE,bm]
theorem NQ (w:World) (g:Nat) (cs:Array Value) (a:Addr):(w.setRow g cs).frozen? a=w.frozen? a:=by
 unfold World.frozen? World.setRow;simp only [Array.getElem?_modify];by_cases h:g=a.block
 ·subst h;rw [if_pos rfl];cases bO:w.heap[a.block]? with
  | none=>rfl
  | some o=>cases o <;> rfl
 ·rw [if_neg h]
theorem Vk (w:World) (es:Array MapEntry) (n:Nat) (a:Addr):(w.alloc (.map es n)).frozen? a=w.frozen? a:=by
 unfold World.frozen?;by_cases h:a.block=w.heap.size
 ·rw [h,q6];have:w.heap[w.heap.size]?=none:=by simp
  rw [this]
 ·by_cases af:a.block<w.heap.size
  ·rw [alloc_old w _ _ af]
  ·have aE:(w.alloc (.map es n)).heap[a.block]?=none:=by
    show (w.heap.push _)[a.block]?=_;rw [Array.getElem?_eq_none];simp; omega
   have bm:w.heap[a.block]?=none:=Array.getElem?_eq_none (by omega);rw [aE,bm]
def Qs (o:Obj):Prop:=(∃ arr e,o=.cells arr e (0,0))\/∃ es n,o=.map es n
theorem Fr.alloc (w:World) (o:Obj) (U:a') (aX:Qs o):Fr w (w.alloc o) U:=by
 refine ⟨rfl,rfl,rfl,by simp,λb ar _=>alloc_old w o b ar,λa _ _=>?_,Nat.le_refl _⟩;rcases aX with ⟨arr,e,rfl⟩ | ⟨es,n,rfl⟩
 ·exact IW w arr e a
 ·exact Vk w es n a
theorem R.ZE {w:World}{I:a'}{ρ:ab->Value->Prop}{x:ab}{v:Value}{F:a'}(h:R w I ρ x v F):∀ c,F c->∃ o,w.heap[c]?=some o/\Qs o:=by
 induction h with
 | hY aX _ aH =>
  intro c aa;have aa:=(aH c).1 aa;obtain ⟨_,bO⟩:=aX;rcases bO with ⟨rfl,_⟩ | ⟨b,cap,cur,rfl,_,jy,_⟩
  ·simp [Value.ownBlock] at aa
  ·simp only [Value.ownBlock,Option.some.injEq] at aa;subst aa;exact ⟨_,jy,.inl ⟨_,_,rfl⟩⟩
 | mp aX _ aH =>
  intro c aa;cases (aH c).1 aa;exact ⟨_,aX,.inr ⟨_,_,rfl⟩⟩
 | lit _ aH | aS aH | dead aH | mv aH | ref _ _ aH | gK aH | bl aH | cx aH | cD aH | imp aH=>exact λc aa=>absurd aa (aH c)
 | own aX ah h1 hr aQ ar aH aO =>
  intro c aa;rcases (aH c).1 aa with h | ⟨k,hk,h⟩
  ·obtain ⟨_,bO⟩:=aX;rcases bO with ⟨rfl,_⟩ | ⟨b,cap,cur,rfl,_,jy,_⟩
   ·simp [Value.ownBlock] at h
   ·simp only [Value.ownBlock,Option.some.injEq] at h;subst h;exact ⟨_,jy,.inl ⟨_,_,rfl⟩⟩
  ·exact aO k _ _ (List.getElem?_eq_getElem hk) (List.getElem?_eq_getElem (ah ▸ hk)) c h
 | obj aX ah h1 hr aQ ar aH av aO =>
  intro c aa;rcases (aH c).1 aa with rfl | ⟨k,hk,h⟩
  ·exact ⟨_,aX,.inl ⟨_,_,rfl⟩⟩
  ·exact aO k _ _ (List.getElem?_eq_getElem hk) (Array.getElem?_eq_getElem (ah ▸ hk)) c h
 | agg ah h1 hr aQ aH aO =>
  intro c aa;obtain ⟨k,hk,h⟩:=(aH c).1 aa;exact aO k _ _ (List.getElem?_eq_getElem hk) (Array.getElem?_eq_getElem (ah ▸ hk)) c h
 | bR ah hr aQ aH aO =>
  intro c aa;obtain ⟨k,hk,h⟩:=(aH c).1 aa;exact aO k _ _ (List.getElem?_eq_getElem hk) (Array.getElem?_eq_getElem (ah ▸ hk)) c h
section
variable {w:World}{I:a'}{T:Array Value}{g:aM}{Fs:Nat->a'}
theorem cB.jc (h:cB w I T g Fs):∀ t c,Fs t c->c<w.heap.size:=by
 intro t c aa;cases J:g t with
 | none=>exact absurd aa (h.lh t J c)
 | some y=>obtain ⟨u,_,dt⟩:=h.rel t y J; exact dt.lt c aa
theorem cB.world (h:cB w I T g Fs) {w':World}(aH:∀ t c,Fs t c->w'.heap[c]?=w.heap[c]?) (bc:∀ c,I c->w'.heap[c]?=w.heap[c]?) (fr:w.heap.size<=w'.heap.size):cB w' I T g Fs :=
  ⟨λt x J=>by
    obtain ⟨v,hv,aY⟩:=h.rel t x J;exact ⟨v,hv,h.w8 (λ_ _=>rfl) aH bc (λ_ h=>h) (λ_ _ h=>h) aY λc aa=>aH t c aa⟩,
   h.lh,h.ec,h.bl,λc aa=>Nat.lt_of_lt_of_le (h.lt c aa) fr,h.rF,cF.keep h.hW bc λ_ h=>h⟩
theorem cB.alloc (h:cB w I T g Fs) (o:Obj):cB (w.alloc o) I T g Fs :=
 h.world (λt c aa=>alloc_old w o c (h.jc t c aa)) (λc aa=>alloc_old w o c (h.lt c aa)) (by simp)
theorem cB.uN (h:cB w I T g Fs) {d:Nat}{x:ab}{v:Value}{F:a'}(aQ:g d=none) (W0:d<T.size)
  (aY:jF w I (dz w T g) x v F) (sd:∀ t c,F c->¬ Fs t c) (Xr:∀ c,F c->¬ I c)
  (aq:∀ z p n m new,x=.bI z p n m new->∀ t bQ cm m' cO,g t≠some (.bI bQ p cm m' cO)) :
  cB w I (T.setIfInBounds d v) (cV g d x) (wy Fs d F):=by
 have cX:∀ t,g t≠none->(T.setIfInBounds d v)[t]?=T[t]?:=by
  intro t au;rw [Array.getElem?_setIfInBounds_ne];rintro rfl; exact au aQ
 refine ⟨?_,?_,?_,?_,h.lt,?_,h.hW⟩
 ·intro t y ao;unfold cV at ao
  split at ao
  ·rename_i vJ;subst vJ;cases ao;exact ⟨v,by simp [W0],by simpa [wy] using h.w8 cX (λ_ _ _=>rfl) (λ_ _=>rfl) (λ_ h=>h) (Rz aQ) aY λ_ _=>rfl⟩
  ·rename_i vJ;obtain ⟨u,hu,dt⟩:=h.rel t y ao;exact ⟨u,by rw [cX t (by rw [ao]; simp)]; exact hu,by simpa [wy,vJ] using h.w8 cX (λ_ _ _=>rfl) (λ_ _=>rfl) (λ_ h=>h) (Rz aQ) dt λ_ _=>rfl⟩
 ·intro t au c;unfold cV at au
  split at au
  ·cases au
  ·rename_i vJ; simpa [wy,vJ] using h.lh t au c
 ·intro t t' c aa et;by_cases h1:t=d <;> by_cases af:t'=d <;> simp [wy,h1,af] at aa et
  ·rw [h1,af]
  ·exact absurd et (sd t' c aa)
  ·exact absurd aa (sd t c et)
  ·exact h.ec t t' c aa et
 ·intro t c aa hi;by_cases h1:t=d <;> simp [wy,h1] at aa
  ·exact Xr c aa hi
  ·exact h.bl t c aa hi
 ·intro t t' z p n m new bQ cm m' cO h1 af;unfold cV at h1 af
  split at h1 <;> split at af
  ·rename_i a b; rw [a,b]
  ·cases h1; exact absurd af (aq z p n m new rfl t' bQ cm m' cO)
  ·cases af; exact absurd h1 (aq bQ p cm m' cO rfl t z n m new)
  ·exact h.rF _ _ _ _ _ _ _ _ _ _ _ h1 af
end
def j5:ab->Option (List ab)
 | .agg cs=>some cs
 | .lit v=>some [.lit v]
 | .aS=>some [.aS]
 | .bl z n cs=>some [.bl z n cs]
 | .cx cs=>some [.cx cs]
 | .ptr p k=>some [.ptr p k]
 | .a6 z p n=>some [.a6 z p n]
 | .sub z p l n=>some [.sub z p l n]
 | .cD f a b=>some [.cD f a b]
 | _=>none
theorem M0 {y:ab}{cs:List ab}(h:sT y) (aa:j5 y=some cs):tE cs:=by
 have one:∀ {x:ab},(∀ j,x≠.self j)->tE [x]:=λJ k j e=>by
  cases k with
  | zero=>simp only [List.getElem?_cons_zero,Option.some.injEq] at e; exact J j e
  | succ k=>simp at e
 cases y <;> simp only [Go.Own.j5,Option.some.injEq,reduceCtorEq] at aa <;> subst aa
 all_goals first | exact h _ rfl | exact one (by simp)
theorem R.j5 {w:World}{I:a'}{ρ:ab->Value->Prop}{y:ab}{v:Value}{F:a'}(h:R w I ρ y v F) (aH:∀ c,¬ F c) (l1:∀ x v,x.isRef=true->ρ x v->v.oneCell'=true) {cs:List ab}(aa:j5 y=some cs) :
  cs.length=v.cells.size/\(∀ (k:Nat) (u:Value),v.cells[k]?=some u->u.oneCell'=true)/\(∀ (k:Nat) (x:ab) (u:Value),cs[k]?=some x->v.cells[k]?=some u->R w I ρ x u cg):=by
 have one:∀ {y:ab},R w I ρ y v F->v.oneCell'=true->[y].length=v.cells.size/\(∀ (k:Nat) (u:Value),v.cells[k]?=some u->u.oneCell'=true)/\(∀ (k:Nat) (x:ab) (u:Value),[y][k]?=some x->v.cells[k]?=some u->R w I ρ x u cg):=by
  intro y h h1;have Fx:v.cells=#[v]:=by cases v <;> first | rfl | (simp [Value.oneCell'] at h1)
  refine ⟨by simp [Fx],λk u hu=>?_,λk x u J hu=>?_⟩
  ·rw [Fx] at hu;cases k with
   | zero=>simp at hu; subst hu; exact h1
   | succ k=>simp at hu
  rw [Fx] at hu;cases k with
  | zero=>simp at J hu; subst J hu; exact h.empty aH
  | succ k=>simp at J
 cases y <;> simp only [Go.Own.j5,Option.some.injEq,reduceCtorEq] at aa
 case agg l =>
  subst aa;obtain ⟨vs,rfl,ah,h1,hr⟩:=h.C0 aH;exact ⟨ah,h1,hr⟩
 case lit a=>subst aa; exact one h (by obtain ⟨rfl,h1⟩:=h.hM; exact h1)
 case aS=>subst aa; exact one h (by rw [h.rv]; rfl)
 case bl z n l=>subst aa; exact one h (by obtain ⟨a,cap,rfl,_⟩:=h.z1; rfl)
 case cx l=>subst aa; exact one h (by obtain ⟨ad,us,rfl,_⟩:=h.xM; rfl)
 case ptr p k=>subst aa; exact one h (l1 _ _ rfl h.n4)
 case a6 z p n=>subst aa; exact one h (l1 _ _ rfl h.n3)
 case sub z p l n=>subst aa; exact one h (l1 _ _ rfl h.z6)
 case cD f a b =>
  subst aa;refine one h ?_;cases h with
  | cD=>rfl
  | ref J=>simp [ab.isRef] at J
theorem dz.Dn {w:World}{T:Array Value}{g:aM}{x:ab}{v:Value}(J:x.isRef=true) (h:dz w T g x v):v.oneCell'=true:=by
 obtain ⟨h,_⟩:=h;cases x <;> simp [ab.isRef] at J
 case ptr p k=>obtain ⟨_,_,_,_,rfl⟩:=h; rfl
 case a6 z p n=>obtain ⟨_,_,_,_,rfl,_⟩:=h; rfl
 case sub z p lo n=>obtain ⟨_,_,_,_,_,_,rfl,_⟩:=h; rfl
 case gm p=>obtain ⟨_,_,rfl⟩:=h; rfl
def o3:List ab->Option (List ab)
 | []=>some []
 | y::ys =>
  match j5 y,o3 ys with
  | some a,some b=>some (a++b)
  | _,_=>none
def hn (g:aM):List Operand->Option (List ab)
 | []=>some []
 | x::xs =>
  match bs g x,hn g xs with
  | some y,some ys=>some (y::ys)
  | _,_=>none
theorem Qe {g:aM}:∀ {l:List Operand}{xs:List ab},hn g l=some xs->tE xs
 | [],xs,h,k,j=>by simp only [hn,Option.some.injEq] at h; subst h; simp
 | o::l,xs,h,k,j=>by
  simp only [hn] at h
  split at h
  ·rename_i y ys h1 af;cases h;cases k with
   | zero=>intro e; simp only [List.getElem?_cons_zero,Option.some.injEq] at e; exact Zc h1 j e
   | succ k=>exact Qe af k j
  ·cases h
def vk (place:Nat->Option (Nat × Nat)) (cells:List ab):List (Nat × List ab)->Option (List ab)
 | []=>some cells
 | (i,c)::rest =>
  match place i with
  | none=>none
  | some (off,size)=>if c.length=size/\off+c.length<=cells.length then vk place (cells.take off++c++cells.drop (off+c.length)) rest else none
def rC (g:aM):List (Nat × Operand)->Option (List (Nat × List ab))
 | []=>some []
 | (i,x)::xs =>
  match bs g x,rC g xs with
  | some y,some ys=>(j5 y).map λc=>(i,c)::ys
  | _,_=>none
def jV (P:Program) (t:TypeId) (pl:List (Nat × Nat)):Bool :=
 match P.underlying t with
 | some (.struct fs)=>fs.toList.map (λf=>(f.offset,(P.info? f.type).map (·.size))) == pl.map λ(a,b)=>(a,some b)
 | _=>false
inductive ov (P:Program) (g:aM):Op->TypeId->ab->Prop
 | box {e ty:TypeId}{x:Operand}{y:ab}{cs:List ab}(J:bs g x=some y) (aa:j5 y=some cs):ov P g (.box e x) ty (.obj cs)
 | HT {e ty:TypeId}{z:Value}(aW:(P.info? e).bind (·.zero)=some z) (aa:z.cells=#[.pointer none,.slice none 0 0]):ov P g (.alloc e) ty (.obj [.self (0,e),.aS])
 | H5 {e ty:TypeId}{t k:Nat}{x:Operand}{y:ab}{cs:List ab}(J:bs g x=some y) (aa:j5 y=some cs) (aK:cs[k]?=some (.lit (.pointer none))) (h1:cs[k+1]?=some .aS):ov P g (.box e x) ty (.obj ((cs.set k (.self (k,e))).set (k+1) (.hY t [])))
 | HS {e ty:TypeId}{t:Nat}{z:Value}(aW:(P.info? e).bind (·.zero)=some z) (aa:z.cells=#[.pointer none,.slice none 0 0]):ov P g (.alloc e) ty (.obj [.self (0,e),.hY t []])
 | alloc {e ty:TypeId}{z:Value}(aW:(P.info? e).bind (·.zero)=some z) (h1:z.cells.all Value.oneCell'=true):ov P g (.alloc e) ty (.obj (z.cells.toList.map kC))
 | buildSlice {t e ty:TypeId}{z:Nat}{parts:Array (Nat × Operand)}{xs:List Operand}{ys:List ab}{cs:List ab}(au:ft P t e z=true)
   (aq:parts.toList=xs.mapIdx (λi x=>(i,x))) (J:hn g xs=some ys) (aW:∀ y∈ys,∃ c,j5 y=some c/\c.length=z) (aa:o3 ys=some cs) (ar:xs.length * z<=16777216) (aC:xs.length<=16777216) (hzero:xs.length * z=0\/∃ v,(P.info? e).bind (·.zero)=some v/\v.cells.size=z) :
   ov P g (.buildSlice t xs.length parts) ty (.own z xs.length cs)
 | makeSlice {t e ty:TypeId}{x y:Operand}{z n b:Nat}{vU uz:IntKind}{cY:Value}(au:ft P t e z=true) (J:bs g x=some (.lit (.int vU (n:Int)))) (ao:bs g y=some (.lit (.int uz (n:Int))))
   (hzero:(P.info? e).bind (·.zero)=some cY) (h1:cY.cells.all Value.oneCell'=true) (l0:cY.cells.size=z) (ar:(P.info? e).map (·.bytes)=some b) (aC:n * b<=140737488355328) (rh:n<=4611686018427387904) {yM:List ab}(uv:yM.length=cY.cells.size)
   (FQ:∀ (k:Nat) (u:Value) (x:ab),cY.cells[k]?=some u->yM[k]?=some x->x=kC u\/(kC u=.aS/\∃ bQ,x=.bl bQ 0 [])) :
   ov P g (.makeSlice t x y) ty (.own z n (List.replicate n yM).flatten)
 | makeMap {t ty:TypeId}{q:Array MapEntry->Nat->Prop}(a_:q #[] 0):ov P g (.makeMap t none) ty (.mp q)
inductive u_ (P:Program) (g:aM):Op->TypeId->ab->Prop
 | build {t ty:TypeId}{parts:Array (Nat × Operand)}{pl:List (Nat × Nat)}{cY:Value}{ps:List (Nat × List ab)}{cs:List ab}(au:jV P t pl=true) (aW:(P.info? t).bind (·.zero)=some cY) (h1:cY.cells.all Value.oneCell'=true)
   (aq:rC g parts.toList=some ps) (aa:vk (λi=>pl[i]?) (cY.cells.toList.map kC) ps=some cs):u_ P g (.build t parts) ty (.agg cs)
 | makeFunc {fn:Fn}{first caps:Array Operand}{ty:TypeId}{a b:List ab}(aJ:hn g first.toList=some a) (ar:hn g caps.toList=some b):u_ P g (.makeFunc fn first caps) ty (.cD fn a b)
section
variable {P:Program}{w:World}{I:a'}{T:Array Value}{g:aM}{Fs:Nat->a'}
theorem Al (h:cB w I T g Fs) {a:Act}(aJ:a.tmps=T):∀ {xs:List Operand}{ys:List ab},hn g xs=some ys->ys.length=xs.length/\∀ (k:Nat) (y:ab) (x:Operand),ys[k]?=some y->xs[k]?=some x->R w I (dz w T g) y (a.eval x) cg
 | [],ys,ao=>by simp only [hn,Option.some.injEq] at ao; subst ao; simp
 | x::xs,ys,ao=>by
  simp only [hn] at ao;cases J:bs g x with
  | none=>simp [J] at ao
  | some y =>
   cases sr:hn g xs with
   | none=>simp [J,sr] at ao
   | some Es =>
    simp only [J,sr,Option.some.injEq] at ao;subst ao;obtain ⟨h1,af⟩:=Al h aJ sr;refine ⟨by simp [h1],λk y' x' pd fc=>?_⟩;cases k with
    | zero=>simp at pd fc; subst pd fc; exact kd h J aJ
    | succ k=>simp at pd fc; exact af k y' x' pd fc
theorem R.alloc (h:cB w I T g Fs) (o:Obj) {x:ab}{v:Value}{F:a'}(aY:R w I (dz w T g) x v F) (aH:∀ c,F c->c<w.heap.size):R (w.alloc o) I (dz (w.alloc o) T g) x v F :=
 h.frame (λ_ _=>rfl) (λt c aa=>alloc_old w o c (h.jc t c aa)) (λc aa=>alloc_old w o c (h.lt c aa)) (λ_ h=>h) (λ_ _ h=>h) aY λc aa=>alloc_old w o c (aH c aa)
theorem P7 {ρ:ab->Value->Prop}{vs:List Value}:∀ (k:Nat) (x:ab) (u:Value),(vs.map kC)[k]?=some x->vs[k]?=some u->R w I ρ x u cg:=by
 intro k x u J hu;rw [List.getElem?_map,hu] at J;simp only [Option.map_some,Option.some.injEq] at J;subst J;exact Dk u
theorem R.P4 {ρ:ab->Value->Prop}{cs:List ab}{b:Nat}{e:TypeId}{arr:Array Value}(aX:w.heap[b]?=some (.cells arr e (0,0))) (ah:cs.length=arr.size) (h1:∀ (k:Nat) (u:Value),arr[k]?=some u->u.oneCell'=true)
  (hr:∀ (k:Nat) (x:ab) (u:Value),cs[k]?=some x->arr[k]?=some u->R w I ρ x u cg) (ly:tE cs):R w I ρ (.obj cs) (.pointer (some ⟨b,0,none⟩)) (λc=>c=b) :=
 .obj (Fs:=λ_=>cg) aX ah h1 hr (λ_ _ _ _ _ h=>h.elim) (λ_ _ h=>h) (λ_=>⟨λh=>.inl h,λh=>h.elim id λ⟨_,_,h⟩=>h.elim⟩) λk j _ h=>absurd h (ly k j)
theorem R.Qj {ρ:ab->Value->Prop}{z n:Nat}{cs:List ab}{b cap:Nat}{e:TypeId}{arr:Array Value}(aX:w.heap[b]?=some (.cells arr e (0,0))) (aC:n<=cap) (aa:cap<=maxLen) (av:arr.size=cap * z) (ah:cs.length=n * z) (h1:∀ (k:Nat) (u:Value),arr[k]?=some u->u.oneCell'=true)
  (hr:∀ (k:Nat) (x:ab) (u:Value),cs[k]?=some x->arr[k]?=some u->R w I ρ x u cg):R w I ρ (.own z n cs) (.slice (some ⟨b,0,none⟩) n cap) (λc=>c=b):=by
 have hle:n * z<=arr.size:=by rw [av]; exact Nat.mul_le_mul_right _ aC
 refine .own (e:=e) (us:=arr.toList.take (n * z)) (Fs:=λ_=>cg) ⟨by simp; omega,.inr ⟨b,cap,arr,rfl,Nat.zero_le _,aX,aC,aa,av,rfl⟩⟩ (by simp; omega) (λk u hu=>?_) ?_ (λ_ _ _ _ _ h=>h.elim) (λ_ _ _ h=>h.elim) (λc=>?_)
 ·rw [List.getElem?_take] at hu
  split at hu
  ·exact h1 k u (by simpa using hu)
  ·cases hu
 ·intro k x u J hu;rw [List.getElem?_take] at hu
  split at hu
  ·exact hr k x u J (by simpa using hu)
  ·cases hu
 ·simp only [Value.ownBlock,Option.some.injEq];exact ⟨λh=>.inl h.symm,λh=>h.elim Eq.symm λ⟨_,_,h⟩=>h.elim⟩
theorem MZ {ρ:ab->Value->Prop}(l1:∀ x v,x.isRef=true->ρ x v->v.oneCell'=true):∀ {ys:List ab}{vs:List Value}{cs:List ab},ys.length=vs.length->(∀ (k:Nat) (y:ab) (v:Value),ys[k]?=some y->vs[k]?=some v->R w I ρ y v cg)->o3 ys=some cs ->
  cs.length=(vs.flatMap λv=>v.cells.toList).length/\(∀ (k:Nat) (u:Value),(vs.flatMap λv=>v.cells.toList)[k]?=some u->u.oneCell'=true)/\∀ (k:Nat) (x:ab) (u:Value),cs[k]?=some x->(vs.flatMap λv=>v.cells.toList)[k]?=some u->R w I ρ x u cg
 | [],vs,cs,ah,hr,aa=>by
  cases vs with
  | nil=>simp only [o3,Option.some.injEq] at aa; subst aa; simp
  | cons=>simp at ah
 | y::ys,vs,cs,ah,hr,aa=>by
  cases vs with
  | nil=>simp at ah
  | cons v vs =>
   simp only [o3] at aa;cases aJ:j5 y with
   | none=>simp [aJ] at aa
   | some a =>
    cases ar:o3 ys with
    | none=>simp [aJ,ar] at aa
    | some b =>
     simp only [aJ,ar,Option.some.injEq] at aa;subst aa;obtain ⟨h1,BX,af⟩:=(hr 0 y v rfl rfl).j5 (λ_ h=>h) l1 aJ;obtain ⟨aE,Vw,bm⟩:=MZ l1 (by simpa using ah) (λk y' dK ao hv=>hr (k+1) y' dK ao hv) ar;refine ⟨by simp [h1,aE],λk u hu=>?_,λk x u J hu=>?_⟩
     ·simp only [List.flatMap_cons] at hu;by_cases hk:k<v.cells.toList.length
      ·rw [List.getElem?_append_left hk] at hu;exact BX k u (by simpa using hu)
      ·rw [List.getElem?_append_right (by omega)] at hu;exact Vw _ u hu
     simp only [List.flatMap_cons] at hu;by_cases hk:k<a.length
     ·rw [List.getElem?_append_left hk] at J;rw [List.getElem?_append_left (by simp; omega)] at hu;exact af k x u J (by simpa using hu)
     ·rw [List.getElem?_append_right (by omega)] at J;rw [List.getElem?_append_right (by simp; omega)] at hu;refine bm (k - a.length) x u J ?_;rw [<- hu]; simp [h1]
end
theorem NO (off:Nat):∀ (l:List Value) (s:Nat) (arr:Array Value),off+s+l.length<=arr.size ->
  ((l.zipIdx s).foldl (λcs (x:Value × Nat)=>cs.setIfInBounds (off+x.2) x.1) arr).toList=arr.toList.take (off+s)++l++arr.toList.drop (off+s+l.length)
 | [],s,arr,h=>by simp
 | v::l,s,arr,h=>by
  simp only [List.length_cons] at h;rw [List.zipIdx_cons,List.foldl_cons,NO off l (s+1) _ (by simp; omega)];simp only [Array.toList_setIfInBounds,List.length_cons];have h1:(arr.toList.set (off+s) v).take (off+(s+1))=arr.toList.take (off+s)++[v]:=by
   rw [show off+(s+1)=off+s+1 by omega,List.take_succ_eq_append_getElem (by simp; omega)];rw [List.take_set_of_le (Nat.le_refl _)];simp
  have af:(arr.toList.set (off+s) v).drop (off+(s+1)+l.length)=arr.toList.drop (off+s+(l.length+1)):=by
   rw [List.drop_set_of_lt (by omega)];congr 1; omega
  rw [h1,af];simp
theorem NI {place:Nat->Option (Nat × Nat)}{i off size:Nat}(aq:place i=some (off,size)) {arr:Array Value}{v:Value}(h1:v.cells.size=size) (af:off+v.cells.size<=arr.size) (rest:List (Nat × Value)) :
  ∃ jl:Array Value,Instr.fill place arr ((i,v)::rest)=Instr.fill place jl rest/\jl.toList=arr.toList.take off++v.cells.toList++arr.toList.drop (off+v.cells.size):=by
 refine ⟨_,by simp only [Instr.fill,aq]; rw [if_neg (by simp; omega)],?_⟩;have:=NO off v.cells.toList 0 arr (by simpa using af)
 grind [Array.toList_zipIdx]
theorem NH (z:Nat):∀ (vs:List Value) (k:Nat) (arr:Array Value) (done rest:List Value),(∀ v∈vs,v.cells.size=z)->arr.toList=done++rest->done.length=k * z->rest.length=vs.length * z ->
  ∃ jl:Array Value,Instr.fill (λi=>some (i * z,z)) arr (vs.mapIdx λi v=>(k+i,v))=some jl/\jl.toList=done++vs.flatMap λv=>v.cells.toList
 | [],k,arr,done,rest,_,h1,af,aE=>by
  have:rest=[]:=List.eq_nil_of_length_eq_zero (by simpa using aE);subst this;exact ⟨arr,rfl,by simpa using h1⟩
 | v::vs,k,arr,done,rest,aW,h1,af,aE=>by
  have hv:=aW v (by simp);have hlen:arr.size=done.length+rest.length:=by rw [<- Array.length_toList,h1,List.length_append]
  simp only [List.length_cons,Nat.add_mul,Nat.one_mul] at aE;rw [List.mapIdx_cons];obtain ⟨E2,b9,b3⟩:=NI (place:=λi=>some (i * z,z)) (i:=k+0) (off:=k * z) (size:=z) (by simp) (arr:=arr) (v:=v) hv (by omega) ((vs.mapIdx λi v=>(k+(i+1),v)));have tT:E2.toList=(done++v.cells.toList)++rest.drop z:=by
   rw [b3,h1,<- af,List.take_left,hv,List.drop_append];simp
  obtain ⟨jl,e7,nr⟩:=NH z vs (k+1) E2 (done++v.cells.toList) (rest.drop z) (λu hu=>aW u (by simp [hu])) tT (by simp [af,hv,Nat.add_mul]) (by simp; omega);refine ⟨jl,?_,by rw [nr]; simp⟩;rw [b9,<- e7];congr 1;congr 1;funext i u;congr 1; omega
theorem HR {vs:Array Value}(h:vs.all Value.oneCell'=true):∀ (k:Nat) (u:Value),vs[k]?=some u->u.oneCell'=true:=by grind
theorem By {P:Program}{e:TypeId}{z:Value}(h:(P.info? e).bind (·.zero)=some z) (w:World):(zeroValue e).run P w=.ok z w:=by
 cases hi:P.info? e with
 | none=>simp [hi] at h
 | some i=>simp [hi] at h; simp [zeroValue,typeInfo,hi,h]
theorem NR {α:Type}(l:List α):∀ (n k:Nat),k<n * l.length->(List.replicate n l).flatten[k]?=l[k % l.length]?
 | 0,k,h=>by simp at h
 | n+1,k,h=>by
  rw [List.replicate_succ,List.flatten_cons];by_cases hk:k<l.length
  ·rw [List.getElem?_append_left hk,Nat.mod_eq_of_lt hk]
  ·rw [List.getElem?_append_right (by omega),NR l n (k - l.length) (by rw [Nat.add_mul] at h; omega)];rw [<- Nat.mod_eq_sub_mod (by omega)]
section
variable {P:Program}{w:World}{I:a'}{T:Array Value}{g:aM}{Fs:Nat->a'}
theorem Tn {ys cs:List ab}{z:Nat}(aW:∀ y∈ys,∃ c,j5 y=some c/\c.length=z) (aa:o3 ys=some cs):cs.length=ys.length * z:=by
 induction ys generalizing cs with
 | nil=>simp [o3] at aa; subst aa; simp
 | cons y ys aO =>
  obtain ⟨c,h1,af⟩:=aW y (by simp);simp only [o3,h1] at aa
  grind
theorem ov.sound (h:cB w I T g Fs) {a:Act}(aJ:a.tmps=T) {o:Oper}{kY:ab}(aq:ov P g o.op o.type kY) :
  ∃ v sB,(execOp a.eval o).run P w=.ok (.value v) (w.alloc sB)/\R (w.alloc sB) I (dz (w.alloc sB) T g) kY v (λc=>c=w.heap.size):=by
 obtain ⟨dst,op,ty,pos,after,guard⟩:=o;simp only at aq;have mX:∀ (sB:Obj) {x:ab}{v:Value},R w I (dz w T g) x v cg->R (w.alloc sB) I (dz (w.alloc sB) T g) x v cg:=λsB _ _ aY=>R.alloc h sB aY λ_ h=>h.elim;cases aq with
 | @box e _ x y cs J aa =>
  have ao:=kd h J aJ;obtain ⟨h1,BX,af⟩:=ao.j5 (λ_ h=>h) (λ_ _ J hr=>hr.Dn J) aa;refine ⟨_,.cells (a.eval x).cells e,by simp [execOp,Instr.box,newVar,newRow],R.P4 (e:=e) (q6 w _) h1 BX (λk x u J hu=>mX _ (af k x u J hu)) (M0 (La J) aa)⟩
 | @HT e _ z aW aa =>
  refine ⟨.pointer (some ⟨w.heap.size,0,none⟩),.cells z.cells e,by simp [execOp,Instr.alloc,newVar,newRow,By aW],?_⟩;rw [aa];refine .obj (Fs:=λ_=>cg) (e:=e) (q6 w _) rfl (λk u hu=>?_) (λk y u ao hu=>?_) (λ_ _ _ _ _ h=>h.elim) (λ_ _ h=>h) (λc=>⟨.inl,λh=>h.elim id λ⟨_,_,h⟩=>h.elim⟩) λk j u ao hu=>?_
  ·match k,hu with
   | 0,hu=>cases hu; rfl
   | 1,hu=>cases hu; rfl
   | k+2,hu=>simp at hu
  ·match k,ao,hu with
   | 0,ao,hu=>cases ao; exact .mv λ_ h=>h
   | 1,ao,hu=>cases ao; cases hu; exact .aS λ_ h=>h
   | k+2,ao,hu=>cases ao
  ·match k,ao,hu with
   | 0,ao,hu=>cases ao; cases hu; exact .inl ⟨rfl,rfl⟩
   | 1,ao,hu=>cases ao
   | k+2,ao,hu=>cases ao
 | @H5 e _ t k x y cs J aa aK jr =>
  have ao:=kd h J aJ;obtain ⟨h1,BX,af⟩:=ao.j5 (λ_ h=>h) (λ_ _ J hr=>hr.Dn J) aa;have ly:=M0 (La J) aa;have dv:k+1<cs.length:=(List.getElem?_eq_some_iff.1 jr).1;refine ⟨.pointer (some ⟨w.heap.size,0,none⟩),.cells (a.eval x).cells e,by simp [execOp,Instr.box,newVar,newRow],?_⟩;refine .obj (Fs:=λ_=>cg) (e:=e) (q6 w _) (by simpa using h1) BX (λj z u aW hu=>?_) (λ_ _ _ _ _ h=>h.elim) (λ_ _ h=>h) (λc=>⟨.inl,λh=>h.elim id λ⟨_,_,h⟩=>h.elim⟩) λj i u ag hu=>?_
  ·by_cases b9:k+1=j
   ·subst b9;rw [List.getElem?_set_self (by simpa using dv)] at aW;cases aW;rw [(af _ _ u jr hu).rv];exact .hY (World.ownsRow_nil _ _ _ _) rfl λc=>⟨λh=>h.elim,λh=>by simp [Value.ownBlock] at h⟩
   ·rw [List.getElem?_set_ne b9] at aW;by_cases fU:k=j
    ·subst fU;rw [List.getElem?_set_self (by omega)] at aW;cases aW;exact .mv λ_ h=>h
    ·rw [List.getElem?_set_ne fU] at aW;exact mX _ (af j z u aW hu)
  ·by_cases b9:k+1=j
   ·subst b9;rw [List.getElem?_set_self (by simpa using dv)] at ag;cases ag
   ·rw [List.getElem?_set_ne b9] at ag;by_cases fU:k=j
    ·subst fU;rw [List.getElem?_set_self (by omega)] at ag;cases ag;exact .inl ⟨(af k _ u aK hu).hM.1,rfl⟩
    ·rw [List.getElem?_set_ne fU] at ag;exact absurd ag (ly _ _)
 | @HS e _ t z aW aa =>
  refine ⟨.pointer (some ⟨w.heap.size,0,none⟩),.cells z.cells e,by simp [execOp,Instr.alloc,newVar,newRow,By aW],?_⟩;rw [aa];refine .obj (Fs:=λ_=>cg) (e:=e) (q6 w _) rfl (λk u hu=>?_) (λk y u ao hu=>?_) (λ_ _ _ _ _ h=>h.elim) (λ_ _ h=>h) (λc=>⟨.inl,λh=>h.elim id λ⟨_,_,h⟩=>h.elim⟩) λk j u ao hu=>?_
  ·match k,hu with
   | 0,hu=>cases hu; rfl
   | 1,hu=>cases hu; rfl
   | k+2,hu=>simp at hu
  ·match k,ao,hu with
   | 0,ao,hu=>cases ao; exact .mv λ_ h=>h
   | 1,ao,hu=>cases ao; cases hu; exact .hY (World.ownsRow_nil _ _ _ _) rfl λc=>⟨λh=>h.elim,λh=>by simp [Value.ownBlock] at h⟩
   | k+2,ao,hu=>cases ao
  ·match k,ao,hu with
   | 0,ao,hu=>cases ao; cases hu; exact .inl ⟨rfl,rfl⟩
   | 1,ao,hu=>cases ao
   | k+2,ao,hu=>cases ao
 | @alloc e _ z aW hz =>
  refine ⟨_,.cells z.cells e,by simp [execOp,Instr.alloc,newVar,newRow,By aW],R.P4 (e:=e) (q6 w _) (by simp) (HR hz) (λk x u J hu=>mX _ (P7 k x u J (by simpa using hu))) (P6 _)⟩
 | @makeMap t _ q a_ =>
  have J1:(Instr.makeMap t none).run P w=.ok (.map (some w.heap.size)) (w.alloc (.map #[] 0)):=rfl;exact ⟨.map (some w.heap.size),.map #[] 0,by simp [execOp,J1],.mp (q6 w _) a_ λc=>Iff.rfl⟩
 | @buildSlice t e _ z parts xs ys cs au aq J aW aa ar ri hzero =>
  obtain ⟨hu,he,fr⟩:=rN (w:=w) au;obtain ⟨ah,hr⟩:=Al h aJ J;have hT:=Tn aW aa;have XZ:∀ v∈xs.map a.eval,v.cells.size=z:=by
   intro v hv;obtain ⟨x,zZ,rfl⟩:=List.mem_map.1 hv;obtain ⟨k,hk,rfl⟩:=List.mem_iff_getElem.1 zZ;have pd:ys[k]?=some (ys[k]'(by omega)):=List.getElem?_eq_getElem (by omega);obtain ⟨c,h1,af⟩:=aW _ (List.getElem_mem (l:=ys) (n:=k) (by omega));obtain ⟨aE,_,_⟩:=(hr k _ _ pd (List.getElem?_eq_getElem hk)).j5 (λ_ h=>h) (λ_ _ J hr=>hr.Dn J) h1;rw [<- aE,af]
  obtain ⟨cY,Yp⟩:∃ cY:Array Value,(xs.length * z=0/\cY=#[])\/(xs.length * z≠0/\∃ v,cY=v.cells/\(zeroValue e).run P w=.ok v w):=by
   by_cases aK:xs.length * z=0
   ·exact ⟨#[],.inl ⟨aK,rfl⟩⟩
   ·rcases hzero with h1 | ⟨v,h1,af⟩
    ·exact absurd h1 aK
    ·exact ⟨v.cells,.inr ⟨aK,v,rfl,By h1 w⟩⟩
  obtain ⟨arr,b9,b3⟩:=NH z (xs.map a.eval) 0 ((Array.range (xs.length * z)).map (cY[· % cY.size]!)) [] ((Array.range (xs.length * z)).map (cY[· % cY.size]!)).toList XZ (by simp) (by simp) (by simp);have OU:(parts.map λ(p:Nat × Operand)=>(p.1,a.eval p.2)).toList=(xs.map a.eval).mapIdx λi v=>(0+i,v):=by
   rw [Array.toList_map,aq];apply List.ext_getElem?;intro k;simp only [List.getElem?_map,List.getElem?_mapIdx];cases xs[k]? <;> simp
  obtain ⟨eY,ku,WX⟩:=MZ (ρ:=dz w T g) (λ_ _ J hr=>hr.Dn J) (ys:=ys) (vs:=xs.map a.eval) (by simp [ah]) (λk y v ao hv=>by
   rw [List.getElem?_map] at hv;cases qC:xs[k]? with
   | none=>simp [qC] at hv
   | some x=>simp [qC] at hv; subst hv; exact hr k y x ao qC) aa
  have vr:arr.toList=(xs.map a.eval).flatMap λv=>v.cells.toList:=by simpa using b3
  have XN:arr.size=xs.length * z:=by rw [<- Array.length_toList,vr,<- eY,hT,ah]
  have hA:(execOp a.eval { dst:=dst,op:=.buildSlice t xs.length parts,type:=ty,pos:=pos,after:=after,guard:=guard }).run P w=.ok (.value (.slice (some ⟨w.heap.size,0,none⟩) xs.length xs.length)) (w.alloc (.cells arr e)):=by
   have hle:¬ (16777216<xs.length * z):=by omega
   rcases Yp with ⟨aK,rfl⟩ | ⟨aK,v,rfl,Yo⟩
   ·simp only [aK] at b9;rw [<- OU] at b9;simp at b9;simp [execOp,Instr.buildSlice,run_underlying hu,fr,aK,b9,newRow]
   ·rw [<- OU] at b9;simp at b9;simp [execOp,Instr.buildSlice,run_underlying hu,fr,aK,hle,Yo,b9,newRow]
  refine ⟨_,_,hA,R.Qj (e:=e) (arr:=arr) (q6 w _) (Nat.le_refl _) ?_ XN (by rw [hT,ah]) (λk u hu=>ku k u (by rw [<- vr]; simpa using hu)) λk x u J hu=>mX _ (WX k x u J ?_)⟩
  ·unfold maxLen; omega
  ·rw [<- vr]; simpa using hu
 | @makeSlice t e _ x y z n b vU uz cY au J ao hzero hz l0 ar aC rh yM uv FQ =>
  obtain ⟨hu,he,fr⟩:=rN (w:=w) au;have h1:=(kd h J aJ).hM.1;have af:=(kd h ao aJ).hM.1;cases hi:P.info? e with
  | none=>simp [hi] at ar
  | some i =>
   simp [hi] at ar hzero;have JL:i.size=z:=by
    unfold ft at au;rw [hu] at au;simp [hi] at au;exact au
   have zF:(i.bytes:Int) * (n:Int)<=281474976710656:=by
    have:((b * n:Nat):Int)<=281474976710656:=by have:=Nat.mul_comm n b; omega
    rw [ar,<- Int.natCast_mul]; exact this
   have hr:=run_make (P:=P) w t e i cY hu hi hzero vU uz n n (by omega) (Int.le_refl _) zF (by omega);simp only [Int.toNat_natCast] at hr;refine ⟨_,.cells (madeCells cY.cells (n * i.size)) e,by simp [execOp,h1,af,hr],R.Qj (e:=e) (q6 w _) (Nat.le_refl _) (by unfold maxLen; omega) (by rw [size_madeCells,JL]) (by simp [l0,uv]) (λk u hu=>?_) λk x u J hu=>?_⟩
   ·rw [madeCells,Array.getElem?_map,Array.getElem?_range] at hu
    split at hu
    ·rename_i hk;have aK:0<cY.cells.size:=by
      rcases Nat.eq_zero_or_pos cY.cells.size with h | h
      ·rw [JL,<- l0,h] at hk; simp at hk
      ·exact h
     have hm:k % cY.cells.size<cY.cells.size:=Nat.mod_lt _ aK;simp only [Option.map_some,Option.some.injEq] at hu;rw [<- hu,show cY.cells[k % cY.cells.size]! = cY.cells[k % cY.cells.size] by simp [hm]];exact HR hz _ _ (Array.getElem?_eq_getElem hm)
    ·cases hu
   have hk:k<n * cY.cells.size:=by
    have:=(List.getElem?_eq_some_iff.1 J).1;simpa [Nat.mul_comm,uv] using this
   have aK:0<cY.cells.size:=by
    rcases Nat.eq_zero_or_pos cY.cells.size with h | h
    ·rw [h] at hk; simp at hk
    ·exact h
   have hm:k % cY.cells.size<cY.cells.size:=Nat.mod_lt _ aK;rw [NR _ n k (by simpa [uv] using hk),uv] at J;rw [madeCells,Array.getElem?_map,Array.getElem?_range,if_pos (by rw [JL,<- l0]; exact hk)] at hu;simp only [Option.map_some,Option.some.injEq] at hu;have h0:cY.cells[k % cY.cells.size]! = cY.cells[k % cY.cells.size]:=by simp [hm]
   rw [h0] at hu;subst hu;rcases FQ _ _ x (Array.getElem?_eq_getElem hm) J with rfl | ⟨h1,bQ,rfl⟩
   ·exact mX _ (Dk _)
   ·have aY:=Dk (w:=w) (I:=I) (ρ:=dz w T g) cY.cells[k % cY.cells.size];rw [h1] at aY;rw [aY.rv];exact .gK λ_ h=>h
def Cells (w:World) (I:a') (ρ:ab->Value->Prop) (cs:List ab) (vs:List Value):Prop :=
 cs.length=vs.length/\(∀ (k:Nat) (u:Value),vs[k]?=some u->u.oneCell'=true)/\∀ (k:Nat) (x:ab) (u:Value),cs[k]?=some x->vs[k]?=some u->R w I ρ x u cg
theorem Cells.append {ρ:ab->Value->Prop}{a b:List ab}{u v:List Value}(h:Cells w I ρ a u) (aI:Cells w I ρ b v):Cells w I ρ (a++b) (u++v):=by
 refine ⟨by simp [h.1,aI.1],λk y ao=>?_,λk x y J ao=>?_⟩
 ·by_cases hk:k<u.length
  ·rw [List.getElem?_append_left hk] at ao; exact h.2.1 k y ao
  ·rw [List.getElem?_append_right (by omega)] at ao; exact aI.2.1 _ y ao
 ·by_cases hk:k<a.length
  ·rw [List.getElem?_append_left hk] at J;rw [List.getElem?_append_left (by rw [<- h.1]; exact hk)] at ao;exact h.2.2 k x y J ao
  ·rw [List.getElem?_append_right (by omega)] at J;rw [List.getElem?_append_right (by rw [<- h.1]; omega)] at ao;exact aI.2.2 _ x y J (by rw [h.1]; exact ao)
theorem Cells.take {ρ:ab->Value->Prop}{a:List ab}{u:List Value}(h:Cells w I ρ a u) (n:Nat):Cells w I ρ (a.take n) (u.take n):=by
 refine ⟨by simp [h.1],λk y ao=>?_,λk x y J ao=>?_⟩
 ·rw [List.getElem?_take] at ao
  split at ao
  ·exact h.2.1 k y ao
  grind
 ·rw [List.getElem?_take] at J ao
  split at J
  ·rename_i hk;rw [if_pos hk] at ao;exact h.2.2 k x y J ao
  grind
theorem Cells.drop {ρ:ab->Value->Prop}{a:List ab}{u:List Value}(h:Cells w I ρ a u) (n:Nat):Cells w I ρ (a.drop n) (u.drop n):=by
 refine ⟨by simp [h.1],λk y ao=>?_,λk x y J ao=>?_⟩
 ·rw [List.getElem?_drop] at ao; exact h.2.1 _ y ao
 ·rw [List.getElem?_drop] at J ao;exact h.2.2 _ x y J ao
theorem NG {ρ:ab->Value->Prop}{place:Nat->Option (Nat × Nat)}:∀ (ps:List (Nat × List ab)) (tx:List (Nat × Value)) {cells cs:List ab}{arr:Array Value},Cells w I ρ cells arr.toList ->
  ps.map (·.1)=tx.map (·.1)->(∀ (k:Nat) (p:Nat × List ab) (q:Nat × Value),ps[k]?=some p->tx[k]?=some q->Cells w I ρ p.2 q.2.cells.toList)->vk place cells ps=some cs ->
  ∃ jl:Array Value,Instr.fill place arr tx=some jl/\Cells w I ρ cs jl.toList
 | [],tx,cells,cs,arr,aa,hk,_,aU=>by
  cases tx with
  | nil=>simp only [vk,Option.some.injEq] at aU; subst aU; exact ⟨arr,rfl,aa⟩
  | cons=>simp at hk
 | (i,c)::ps,tx,cells,cs,arr,aa,hk,hr,aU=>by
  cases tx with
  | nil=>simp at hk
  | cons q tx =>
   obtain ⟨j,v⟩:=q;simp only [List.map_cons,List.cons.injEq] at hk;obtain ⟨rfl,hk⟩:=hk;have aK:=hr 0 _ _ rfl rfl;simp only [vk] at aU;cases aq:place i with
   | none=>simp [aq] at aU
   | some os =>
    obtain ⟨off,size⟩:=os;simp only [aq] at aU
    split at aU
    ·rename_i aeh;have hlen:v.cells.size=c.length:=by rw [<- Array.length_toList]; exact aK.1.symm
     have OK:arr.size=cells.length:=by rw [<- Array.length_toList]; exact aa.1.symm
     obtain ⟨E2,b9,b3⟩:=NI (arr:=arr) (v:=v) aq (by omega) (by omega) tx;have ku:Cells w I ρ (cells.take off++c++cells.drop (off+c.length)) E2.toList:=by
      rw [b3,hlen];exact ((aa.take off).append aK).append (aa.drop _)
     obtain ⟨jl,e7,nr⟩:=NG ps tx ku hk (λk p q aq a_=>hr (k+1) p q aq a_) aU;exact ⟨jl,by rw [b9,e7],nr⟩
    ·cases aU
theorem Qp (h:cB w I T g Fs) {a:Act}(aJ:a.tmps=T):∀ {l:List (Nat × Operand)}{ps:List (Nat × List ab)},rC g l=some ps ->
  ps.map (·.1)=(l.map λp=>(p.1,a.eval p.2)).map (·.1)/\∀ (k:Nat) (p:Nat × List ab) (q:Nat × Value),ps[k]?=some p->(l.map λp=>(p.1,a.eval p.2))[k]?=some q->Cells w I (dz w T g) p.2 q.2.cells.toList
 | [],ps,aq=>by simp only [rC,Option.some.injEq] at aq; subst aq; simp
 | (i,x)::l,ps,aq=>by
  simp only [rC] at aq;cases J:bs g x with
  | none=>simp [J] at aq
  | some y =>
   cases ah:rC g l with
   | none=>simp [J,ah] at aq
   | some aeX =>
    simp only [J,ah,Option.map_eq_some_iff] at aq;obtain ⟨c,aa,rfl⟩:=aq;obtain ⟨h1,af⟩:=Qp h aJ ah;refine ⟨by simp [h1],λk p q aq a_=>?_⟩;cases k with
    | zero =>
     simp at aq a_;subst aq a_;obtain ⟨aE,Vv,bm⟩:=(kd h J aJ).j5 (λ_ h=>h) (λ_ _ J hr=>hr.Dn J) aa;exact ⟨by simpa using aE,λk u hu=>Vv k u (by simpa using hu),λk x u J hu=>bm k x u J (by simpa using hu)⟩
    | succ k=>simp at aq a_; exact af k p q aq (by simpa using a_)
theorem aaQ {t:TypeId}{pl:List (Nat × Nat)}(h:jV P t pl=true):∃ fs,P.underlying t=some (.struct fs)/\fs.toList.mapM (λf=>(P.info? f.type).map λi=>(f.offset,i.size))=some pl:=by
 unfold jV at h;cases hu:P.underlying t with
 | none=>simp [hu] at h
 | some d =>
  cases d <;> simp only [hu,Bool.false_eq_true] at h;rename_i fs;refine ⟨fs,rfl,?_⟩;replace h:=LawfulBEq.eq_of_beq h;generalize fs.toList=l at h
  induction l generalizing pl with
  | nil=>cases pl with
   | nil=>rfl
   | cons=>simp at h
  | cons f l aO =>
   cases pl with
   | nil=>simp at h
   | cons p pl =>
    obtain ⟨o,s⟩:=p;simp only [List.map_cons,List.cons.injEq,Prod.mk.injEq] at h;obtain ⟨⟨rfl,h1⟩,af⟩:=h;have:=aO af;rw [List.mapM_cons,this];cases hi:P.info? f.type with
    | none=>simp [hi] at h1
    | some i=>simp [hi] at h1; subst h1; rfl
theorem u_.sound (h:cB w I T g Fs) {a:Act}(aJ:a.tmps=T) {o:Oper}{kY:ab}(aq:u_ P g o.op o.type kY) :
  ∃ v,(execOp a.eval o).run P w=.ok (.value v) w/\R w I (dz w T g) kY v cg:=by
 obtain ⟨dst,op,ty,pos,after,guard⟩:=o;simp only at aq;cases aq with
 | @build t _ parts pl cY ps cs au aW hz aq aa =>
  obtain ⟨fs,hu,zR⟩:=aaQ au;obtain ⟨h1,af⟩:=Qp h aJ aq;obtain ⟨jl,b9,b3⟩:=NG (w:=w) (I:=I) (ρ:=dz w T g) (place:=λi=>pl[i]?) ps _ (arr:=cY.cells) ⟨by simp,λk u hu=>HR hz k u (by simpa using hu),λk x u J hu=>P7 k x u J hu⟩ h1 af aa;refine ⟨.agg jl,?_,.agg (Fs:=λ_=>cg) (by simpa using b3.1) (λk u hu=>b3.2.1 k u (by simpa using hu)) (λk x u J hu=>b3.2.2 k x u J (by simpa using hu)) (λ_ _ _ _ _ h=>h.elim) (λc=>⟨λh=>h.elim,λ⟨_,_,h⟩=>h⟩)⟩;have aeJ:=run_places (P:=P) w fs.toList pl zR;have ar:P.built t ((parts.map λ(p:Nat × Operand)=>(p.1,a.eval p.2))).toList=some jl:=by
   rw [Array.toList_map];cases hi:P.info? t with
   | none=>simp [hi] at aW
   | some it =>
    simp_all [Program.built]
  simp_all [run_build,execOp]
 | @makeFunc fn first caps _ hD gl h1 af =>
  obtain ⟨aw,a2⟩:=Al h aJ h1;obtain ⟨gY,iu⟩:=Al h aJ af;refine ⟨.func fn (first.map a.eval) (caps.map a.eval),by simp [execOp,Instr.makeFunc],.cD (λ_ h=>h) (by simpa using aw) (by simpa using gY) (λk x u J hu=>?_) (λk x u J hu=>?_)⟩
  ·grind
  grind
end
structure A' (w w':World) (bv dK:Value) (e b3:TypeId) (z n m:Nat) (us news:List Value):Prop where
 mX:w'.ownsRow 0 e z bv n us
 new:w'.ownsRow 0 b3 z dK (n+m) (us++news)
 dM:Fr w w' (λc=>bv.ownBlock=some c)
 Bz:∀ c,dK.ownBlock=some c->bv.ownBlock=some c\/w.heap.size<=c
 sp:∀ c,bv.ownBlock=some c->∃ arr jl:Array Value,w.heap[c]?=some (.cells arr e (0,0))/\w'.heap[c]?=some (.cells jl e (0,0))/\jl.size=arr.size/\jl.toList.take (n * z)=arr.toList.take (n * z)
section
variable {P:Program}{w:World}
theorem A'.same {bv dK:Value}{e b3:TypeId}{z n m:Nat}{us news:List Value}{w':World}(kP:w.ownsRow 0 e z bv n us) (ar:∀ c,c<w.heap.size->w'.heap[c]?=w.heap[c]?) (av:w.heap.size<=w'.heap.size)
  (h1:w'.os=w.os) (af:w'.tape=w.tape) (aE:w'.output=w.output) (sd:w'.ownsRow 0 b3 z dK (n+m) (us++news)) (hblk:∀ c,dK.ownBlock=some c->bv.ownBlock=some c\/w.heap.size<=c) (o':∀ a,w'.frozen? a=w.frozen? a) (W2:w.drawn<=w'.drawn:=by first | exact Nat.le_refl _ | exact Nat.le_succ _):A' w w' bv dK e b3 z n m us news:=by
 have aP:=kP.lt;refine ⟨uF kP λc aa=>ar c (aP c aa).2,sd,⟨h1,af,aE,av,λb j7 _=>ar b j7,λa _ _=>o' a,W2⟩,hblk,λc aa=>?_⟩;obtain ⟨_,bO⟩:=kP;rcases bO with ⟨rfl,_⟩ | ⟨b,cap,cur,rfl,_,aN,_⟩
 ·simp [Value.ownBlock] at aa
 ·simp only [Value.ownBlock,Option.some.injEq] at aa;subst aa;exact ⟨cur,cur,aN,(ar _ (aP b rfl).2).trans aN,rfl,rfl⟩
theorem aac (t ty e b5:TypeId) (i:TypeInfo) (au:P.underlying t=some (.slice e)) (hi:P.info? e=some i)
  (b yw Lw:Nat) (cur:Array Value) (aN:w.heap[b]?=some (.cells cur b5 (0,0)))
  (a:Addr) (m c:Nat) (news:List Value) (ah:news.length=m * i.size) (se:∀ j u,news[j]?=some u->w.cell? (a.add j)=some u) (h1:∀ u∈news,u.oneCell'=true)
  (CH:yw+m<=Lw) (xp:yw * i.size+news.length<=cur.size) :
  (Builtin.append_ #[t,t] ty #[.slice (some ⟨b,0,none⟩) yw Lw,.slice (some a) m c]).run P w =
   .ok (.slice (some ⟨b,0,none⟩) (yw+m) Lw) (w.setRow b (cur.toList.take (yw * i.size)++news++cur.toList.drop (yw * i.size+news.length)).toArray):=by
 have aU:=run_firstCells_some (P:=P) w i.size m a m c news ah se;have bU:=run_storeCells_at P b (yw * i.size) b5 news 0 cur w aN (by simpa using xp) h1;simp only [Nat.add_zero] at bU;simp [Builtin.append_,run_underlying au,sizeOf,typeInfo,hi,Builtin.lenOf,CH,aU,Addr.add_lit,bU]
theorem GS (t ty e b5:TypeId) (i:TypeInfo) (cY:Value) (au:P.underlying t=some (.slice e)) (hi:P.info? e=some i) (aW:i.zero=some cY) (l0:cY.cells.size=i.size) (_h0:0<i.size)
  {bv:Value}{n m c:Nat}{us news:List Value}(kP:w.ownsRow 0 b5 i.size bv n us) {a:Option Addr}(aJ:0<m->a.isSome=true)
  (ah:news.length=m * i.size) (se:∀ ad,a=some ad->∀ (j:Nat) (u:Value),news[j]?=some u->w.cell? (ad.add j)=some u) (h1:∀ u∈news,u.oneCell'=true)
  (o7:n+m<=maxLen) (zF:(n+m) * i.bytes<=140737488355328) :
  ∃ dK w' b3,(Builtin.append_ #[t,t] ty #[bv,.slice a m c]).run P w=.ok dK w'/\A' w w' bv dK b5 b3 i.size n m us news:=by
 have nz:=kP.1;by_cases hm:m=0
 ·subst hm;have aC:news=[]:=List.eq_nil_of_length_eq_zero (by simpa using ah);subst aC;refine ⟨bv,w,b5,?_,.same kP (λ_ _=>rfl) (Nat.le_refl _) rfl rfl rfl (by simpa using kP) (λc aa=>.inl aa) λ_=>rfl⟩;obtain ⟨_,bO⟩:=kP;rcases bO with ⟨rfl,rfl⟩ | ⟨b,cap,cur,rfl,_,aN,hle,_⟩
  ·cases a <;> simp [Builtin.append_,run_underlying au,sizeOf,typeInfo,hi,Builtin.lenOf,Builtin.firstCells,loadCells,loadCellsFrom]
  ·cases a <;> simp [Builtin.append_,run_underlying au,sizeOf,typeInfo,hi,Builtin.lenOf,Builtin.firstCells,loadCells,loadCellsFrom,hle,storeCells]
 ·cases a with
  | none=>simp at aJ; omega
  | some ad =>
   replace se:=se ad rfl;have aeK:n+m<=9223372036854775807:=by simp only [maxLen] at o7; omega
   have grown:∀ (mX:Nat),mX<n+m ->
     (w.drew.alloc (.cells (us.toArray++news.toArray++Builtin.zeroCells cY.cells (grownCap w (n+m) mX e - (n+m))) e)).ownsRow 0 e i.size (.slice (some ⟨w.heap.size,0,none⟩) (n+m) (grownCap w (n+m) mX e)) (n+m) (us++news):=by
    intro mX aX;have dF:=grownCap_ge w (n+m) mX e;have hlen:(us++news).length=(n+m) * i.size:=by rw [List.length_append,nz,ah,Nat.add_mul]
    refine ⟨hlen,.inr ⟨w.heap.size,_,_,rfl,Nat.zero_le _,q6 w.drew _,dF,grownCap_le_maxLen w (n+m) mX e o7,?_,?_⟩⟩
    ·simp only [Array.size_append,List.size_toArray,size_zeroCells,l0,nz,ah,<- Nat.add_mul];congr 1;omega
    ·simp only [Array.toList_append,List.append_assoc];rw [<- List.append_assoc,<- hlen];exact List.take_left
   have J6:=kP;obtain ⟨_,bO⟩:=kP;rcases bO with ⟨rfl,rfl⟩ | ⟨b,cap,cur,rfl,_,aN,hle,r',eY,O4⟩
   ·have J:us=[]:=List.eq_nil_of_length_eq_zero (by simpa using nz);subst J;have hr:=run_append_nil (P:=P) w t ty e i cY au hi aW ad m c news ah se (by omega) (by omega) (by simp only [Nat.zero_add] at zF; omega);have sb:=grown 0 (by omega);simp only [Nat.zero_add,List.nil_append,Array.empty_append] at sb;exact ⟨_,_,e,hr,.same J6 (λc aa=>alloc_old w.drew _ c aa) (by simp) rfl rfl rfl (by simpa using sb) (λc aa=>.inr (by simp [Value.ownBlock] at aa; omega)) (λa=>IW w.drew _ _ a)⟩
   ·by_cases CH:n+m<=cap
    ·have xp:n * i.size+news.length<=cur.size:=by rw [ah,eY,<- Nat.add_mul]; exact Nat.mul_le_mul_right _ CH
     have hr:=aac (P:=P) (w:=w) t ty e b5 i au hi b n cap cur aN ad m c news ah se h1 CH xp;have hlen:(us++news).length=(n+m) * i.size:=by rw [List.length_append,nz,ah,Nat.add_mul]
     have fr:(cur.toList.take (n * i.size)++news++cur.toList.drop (n * i.size+news.length)).toArray.size=cur.size:=by
      simp only [List.size_toArray,List.length_append,List.length_take,List.length_drop,Array.length_toList];omega
     have fP:(cur.toList.take (n * i.size)++news++cur.toList.drop (n * i.size+news.length)).take (n * i.size)=cur.toList.take (n * i.size):=by
      rw [List.append_assoc];exact List.take_left' (by simp; omega)
     refine ⟨_,_,b5,hr,⟨⟨nz,.inr ⟨b,cap,_,rfl,Nat.zero_le _,setRow_heap w b cur _ b5 _ aN,hle,r',fr.trans eY,?_⟩⟩,⟨hlen,.inr ⟨b,cap,_,rfl,Nat.zero_le _,setRow_heap w b cur _ b5 _ aN,CH,r',fr.trans eY,?_⟩⟩,
      ⟨rfl,rfl,rfl,by simp,λk _ hk=>setRow_other w b k _ (λe=>hk (by simp [Value.ownBlock,e])),λa _ _=>NQ w b _ a,Nat.le_refl _⟩,λc aa=>.inl aa,λc aa=>?_⟩⟩
     ·rw [<- O4]; exact fP
     ·rw [O4,<- hlen];exact List.take_left
     ·simp only [Value.ownBlock,Option.some.injEq] at aa;subst aa;exact ⟨cur,_,aN,setRow_heap w b cur _ b5 _ aN,fr,fP⟩
    ·have holds:∀ (j:Nat) (u:Value),us[j]?=some u->w.cell? ((⟨b,0,none⟩:Addr).add j)=some u:=J6.cells (g:=b) rfl;have hr:=run_append_grow (P:=P) w t ty e i cY au hi aW ⟨b,0,none⟩ n cap us nz holds ad m c news ah se (by omega) (by omega) (growslice_fits (by omega) zF);have sb:=grown cap (by omega);exact ⟨_,_,e,hr,.same J6 (λc aa=>alloc_old w.drew _ c aa) (by simp) rfl rfl rfl sb (λc aa=>.inr (by simp [Value.ownBlock] at aa; omega)) (λa=>IW w.drew _ _ a)⟩
end
section
variable {w w':World}{I:a'}{ρ ρ':ab->Value->Prop}
theorem R.kids {x:ab}{v:Value}{F:a'}(h:R w I ρ x v F) (J:x.kids≠[]):∃ Fs:Nat->a',
  (∀ k y,x.kids[k]?=some y->∃ u,child w v k=some u/\R w I ρ y u (Fs k))/\(∀ (j k c:Nat),j<x.kids.length->k<x.kids.length->Fs j c->Fs k c->j=k) /\
  (∀ k c,k<x.kids.length->Fs k c->F c)/\(∀ z n cs,x=.own z n cs->∀ c,v.ownBlock=some c->∀ k,k<x.kids.length->¬ Fs k c):=by
 cases h with
 | @own z n cs _ e us Fs _ aX ah h1 hr aQ ar aH =>
  refine ⟨Fs,λk y hk=>?_,aQ,λk c hk aa=>(aH c).2 (.inr ⟨k,hk,aa⟩),λ_ _ _ _ c aa k hk h=>ar k c hk h aa⟩;simp only [ab.kids] at hk;have aP:k<cs.length:=(List.getElem?_eq_some_iff.1 hk).1;have hu:us[k]?=some us[k]:=List.getElem?_eq_getElem (ah ▸ aP)
  grind [pk]
 | @obj cs b e arr Fs _ aX ah h1 hr aQ ar aH =>
  refine ⟨Fs,λk y hk=>?_,aQ,λk c hk aa=>(aH c).2 (.inr ⟨k,hk,aa⟩),λ_ _ _ h=>by simp at h⟩;simp only [ab.kids] at hk;have aP:k<cs.length:=(List.getElem?_eq_some_iff.1 hk).1;have hu:arr[k]?=some arr[k]:=Array.getElem?_eq_getElem (ah ▸ aP);exact ⟨_,by simp [child,World.cell?,aX,hu],hr k y _ hk hu⟩
 | @agg cs vs Fs _ ah h1 hr aQ aH =>
  refine ⟨Fs,λk y hk=>?_,aQ,λk c hk aa=>(aH c).2 ⟨k,hk,aa⟩,λ_ _ _ h=>by simp at h⟩;simp only [ab.kids] at hk;have aP:k<cs.length:=(List.getElem?_eq_some_iff.1 hk).1
  simp_all [child]
 | @bR cs vs Fs _ ah hr aQ aH =>
  refine ⟨Fs,λk y hk=>?_,aQ,λk c hk aa=>(aH c).2 ⟨k,hk,aa⟩,λ_ _ _ h=>by simp at h⟩;simp only [ab.kids] at hk;have aP:k<cs.length:=(List.getElem?_eq_some_iff.1 hk).1
  simp_all [child]
 | ref fc=>cases x <;> simp [ab.isRef,ab.kids] at fc J
 | _=>simp [ab.kids] at J
theorem ab.vd {x y:ab}{k:Nat}{p:List Nat}(h:x.at (k::p)=some y):∃ c,x.kids[k]?=some c/\c.at p=some y:=by
 grind [ab.at]
theorem R.K9 {b:Nat}:∀ (q r:List Nat) {x:ab}{v:Value}{F:a'}{z n bQ cm:Nat}{cs cs':List ab}{na El:Value},R w I ρ x v F->x.at q=some (.own z n cs)->x.at r=some (.own bQ cm cs') ->
  walk w v q=some na->walk w v r=some El->na.ownBlock=some b->El.ownBlock=some b->q=r
 | [],[],_,_,_,_,_,_,_,_,_,_,_,_,_,_,_,_,_,_=>rfl
 | [],k::r,x,v,F,z,n,bQ,cm,cs,cs',na,El,h,a_,hr,oT,wr,zn,zo=>by
  obtain ⟨c,hk,aa⟩:=ab.vd hr;simp only [ab.at,Option.some.injEq] at a_;simp only [walk,Option.some.injEq] at oT;subst a_ oT;have aP:k<(ab.own z n cs).kids.length:=(List.getElem?_eq_some_iff.1 hk).1;obtain ⟨Fs,h1,af,aE,bm⟩:=h.kids (by intro e; rw [e] at aP; simp at aP);obtain ⟨u,hu,nu⟩:=h1 k c hk;simp only [walk,hu] at wr;obtain ⟨h4,cq,hw,dt,c_,_⟩:=R.focus r nu aa;rw [hw] at wr;cases wr;exact absurd (c_ b (dt.rB b zo)) (bm z n cs rfl b zn k aP)
 | j::q,[],x,v,F,z,n,bQ,cm,cs,cs',na,El,h,a_,hr,oT,wr,zn,zo=>by
  obtain ⟨c,hk,aa⟩:=ab.vd a_;simp only [ab.at,Option.some.injEq] at hr;simp only [walk,Option.some.injEq] at wr;subst hr wr;have aP:j<(ab.own bQ cm cs').kids.length:=(List.getElem?_eq_some_iff.1 hk).1;obtain ⟨Fs,h1,af,aE,bm⟩:=h.kids (by intro e; rw [e] at aP; simp at aP);obtain ⟨u,hu,nu⟩:=h1 j c hk;simp only [walk,hu] at oT;obtain ⟨h4,cq,hw,dt,c_,_⟩:=R.focus q nu aa;rw [hw] at oT;cases oT;exact absurd (c_ b (dt.rB b zn)) (bm bQ cm cs' rfl b zo j aP)
 | j::q,k::r,x,v,F,z,n,bQ,cm,cs,cs',na,El,h,a_,hr,oT,wr,zn,zo=>by
  obtain ⟨c,ag,aa⟩:=ab.vd a_;obtain ⟨d,hk,aQ⟩:=ab.vd hr;have eF:j<x.kids.length:=(List.getElem?_eq_some_iff.1 ag).1;have dv:k<x.kids.length:=(List.getElem?_eq_some_iff.1 hk).1;obtain ⟨Fs,h1,af,aE,bm⟩:=h.kids (by intro e; rw [e] at eF; simp at eF);obtain ⟨u,hu,nu⟩:=h1 j c ag;obtain ⟨sM,h0,Jk⟩:=h1 k d hk;simp only [walk,hu] at oT;simp only [walk,h0] at wr;by_cases gH:j=k
  ·subst gH;rw [ag] at hk; cases hk;rw [hu] at h0; cases h0;rw [R.K9 q r nu aa aQ oT wr zn zo]
  ·exfalso;obtain ⟨h4,cq,hw,dt,c_,_⟩:=R.focus q nu aa;obtain ⟨abl,jh,vM,B9,VX,_⟩:=R.focus r Jk aQ;rw [hw] at oT; cases oT;rw [vM] at wr; cases wr;exact gH (af j k b eF dv (c_ b (dt.rB b zn)) (VX b (B9.rB b zo)))
theorem ab.Q2:∀ (q:List Nat) {x y:ab},x.at q=some y->x.setAt q y=x
 | [],x,y,h=>by simp [ab.at] at h; simp [ab.setAt,h]
 | k::q,x,y,h=>by
  obtain ⟨c,hk,aa⟩:=ab.vd h;simp only [ab.setAt,hk,ab.Q2 q aa];have:∀ (l:List ab),l[k]?=some c->l.set k c=l:=by
   intro l ah;apply List.ext_getElem?;intro j;by_cases gH:k=j
   ·subst gH;have aP:k<l.length:=(List.getElem?_eq_some_iff.1 ah).1;rw [List.getElem?_set_self aP,ah]
   ·rw [List.getElem?_set_ne gH]
  cases x <;> simp [ab.kids] at hk <;> simp [ab.sI,this _ hk]
theorem Eo (w:World):∀ (p:List Nat) (v:Value) (r:List Nat),walk w v (p++r)=(walk w v p).bind λu=>walk w u r
 | [],v,r=>rfl
 | k::p,v,r=>by
  simp only [List.cons_append,walk];cases child w v k with
  | none=>rfl
  | some u=>exact Eo w p u r
theorem ab.H2:∀ (p:List Nat) (x:ab) (r:List Nat),x.at (p++r)=(x.at p).bind λy=>y.at r
 | [],x,r=>rfl
 | k::p,x,r=>by
  simp only [List.cons_append,ab.at];cases x.kids[k]? with
  | none=>rfl
  | some u=>exact ab.H2 p u r
structure ES (w w':World) (b M:Nat):Prop where
 other:∀ c,c<w.heap.size->c≠b->w'.heap[c]?=w.heap[c]?
 here:∃ (arr jl:Array Value) (e:TypeId),w.heap[b]?=some (.cells arr e (0,0))/\w'.heap[b]?=some (.cells jl e (0,0))/\jl.size=arr.size/\jl.toList.take M=arr.toList.take M
theorem ES.row {b M:Nat}(s:ES w w' b M) {e:TypeId}{z n:Nat}{v:Value}{us:List Value}(h:w.ownsRow 0 e z v n us) (aC:v.ownBlock=some b->n * z<=M):w'.ownsRow 0 e z v n us:=by
 by_cases ar:v.ownBlock=some b
 ·obtain ⟨arr,jl,b9,h1,af,aE,bm⟩:=s.here;obtain ⟨hu,bO⟩:=h;rcases bO with ⟨rfl,rfl⟩ | ⟨g,cap,cur,rfl,aN,aa,uO,jy,AX,yr⟩
  ·grind [Value.ownBlock]
  ·simp only [Value.ownBlock,Option.some.injEq] at ar;subst ar;rw [h1] at aa;cases aa;refine ⟨hu,.inr ⟨g,cap,jl,rfl,aN,af,uO,jy,by omega,?_⟩⟩;rw [<- yr];have:=congrArg (List.take (n * z)) bm
   rwa [List.take_take,List.take_take,Nat.min_eq_left (aC rfl)] at this
 ·exact uF h λc aa=>s.other c (h.lt c aa).2 λe=>ar (e ▸ aa)
theorem R.spare {b M:Nat}(s:ES w w' b M) (bc:∀ c,I c->c<w.heap.size/\c≠b) (l1:∀ x v,ρ x v->ρ' x v) {x:ab}{v:Value}{F:a'}(h:R w I ρ x v F) {q:List Nat}{z n:Nat}{cs:List ab}{h4:Value}
  (fI:x.at q=some (.own z n cs)) (hw:walk w v q=some h4) (ar:h4.ownBlock=some b) (aC:n * z<=M) :
  R w' I ρ' x v F/\∀ r y,x.at r=some y->walk w' v r=walk w v r:=by
 obtain ⟨abl,cq,vM,dt,c_,eP,kD⟩:=R.focus q h fI;rw [hw] at vM;cases vM;have nY:cq b:=dt.rB b ar;have aP:=h.lt;have same:∀ c,F c->c≠b->w'.heap[c]?=w.heap[c]?:=λc aa cS=>s.other c (aP c aa) cS;have aec:=dt;cases dt with
 | ref J=>simp [ab.isRef] at J
 | @own _ _ _ _ e us Fs _ aX ah h1 hr aQ i_ aH =>
  have ml:=s.row aX λ_=>aC;have cS:∀ k c,k<cs.length->Fs k c->c≠b:=λk c hk aa e=>i_ k c hk aa (e ▸ ar);have jt:∀ k c,k<cs.length->Fs k c->F c:=λk c hk aa=>c_ c ((aH c).2 (.inr ⟨k,hk,aa⟩));have sd:R w' I ρ' (.own z n cs) h4 cq:=by
   refine .own ml ah h1 (λk x u J hu=>?_) aQ i_ aH;have hk:k<cs.length:=(List.getElem?_eq_some_iff.1 J).1;exact (hr k x u J hu).frame (λc aa=>s.other c (bc c aa).1 (bc c aa).2) (λ_ h=>h) l1 λc aa=>same c (jt k c hk aa) (cS k c hk aa)
  constructor
  ·obtain ⟨cU,iL,oC⟩:=kD w' I ρ' _ cq ⟨λc aa=>s.other c (bc c aa).1 (bc c aa).2,λc aa aC=>same c aa λe=>aC (e ▸ nY),λ_ h=>h,l1⟩ sd (λc aa _=>aa) λ_ h=>by cases h
   rw [ab.Q2 q fI] at iL;refine iL.zu λc=>?_;rw [oC c];constructor
   ·rintro (⟨h,_⟩ | h)
    ·exact h
    ·exact c_ c h
   ·intro h;by_cases aa:cq c
    ·exact .inr aa
    ·exact .inl ⟨h,aa⟩
  ·obtain ⟨hX,gU⟩:=eP w' λc aa aC=>same c aa λe=>aC (e ▸ nY);intro r y dH;rcases gU r y dH with ⟨c',rfl⟩ | h
   ·rw [Eo,Eo,hX,hw];simp only [Option.bind_some];cases c' with
    | nil=>rfl
    | cons k c' =>
     rw [ab.H2,fI] at dH;obtain ⟨c,hk,aa⟩:=ab.vd (x:=.own z n cs) dH;simp only [ab.kids] at hk;have dv:k<cs.length:=(List.getElem?_eq_some_iff.1 hk).1;have hu:us[k]?=some us[k]:=List.getElem?_eq_getElem (ah ▸ dv);have:=R.p6 (w':=w') c' (hr k c _ hk hu) aa λc aa=>same c (jt k c dv aa) (cS k c dv aa);simp [walk,pk aX hu,pk ml hu,this]
   ·exact h
end
end Go.Own
