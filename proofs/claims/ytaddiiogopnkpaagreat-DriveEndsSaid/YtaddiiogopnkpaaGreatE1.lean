/- Parts of the proof that the last text states. -/
import Derived.Orders
import Derived.WalkKit
set_option linter.unusedSectionVars false
namespace Go.Own
open Go
structure Place where
 root:Nat
 path:List Nat
 deriving DecidableEq,Repr
def Place.push (p:Place) (k:Nat):Place:=⟨p.root,p.path++[k]⟩
inductive ab where
 | lit (v:Value)
 | aQ
 | bd (z n:Nat) (cs:List ab)
 | own (z n:Nat) (cs:List ab)
 | obj (cs:List ab)
 | agg (cs:List ab)
 | bS (cs:List ab)
 | cw (cs:List ab)
 | ptr (p:Place) (k:Nat)
 | a6 (z:Nat) (p:Place) (n:Nat)
 | sub (z:Nat) (p:Place) (lo n:Nat)
 | bL (z:Nat) (p:Place) (n m:Nat) (new:List ab)
 | cD (fn:Fn) (first caps:List ab)
 | mp (p:Array MapEntry->Nat->Prop)
 | gj (p:Place)
 | imp (p:Array MapEntry->Nat->Prop)
 | dead
 | self (k:Nat × Nat)
 | hS (t:Nat) (us:List Value)
 deriving Inhabited
def tB (cs:List ab):Prop:=∀ (k:Nat) (j:Nat × Nat),cs[k]?≠some (.self j)
def sR (x:ab):Prop:=∀ cs,x=.agg cs->tB cs
abbrev a':=Nat->Prop
def ab.isRef:ab->Bool
 | .ptr .. | .a6 .. | .sub .. | .gj ..=>true
 | _=>false
inductive R (w:World) (I:a') (ρ:ab->Value->Prop):ab->Value->a'->Prop
 | lit {v:Value}{F:a'}(hv:v.oneCell'=true) (aH:∀ c,¬ F c):R w I ρ (.lit v) v F
 | aQ {F:a'}(aH:∀ c,¬ F c):R w I ρ .aQ (.slice none 0 0) F
 | dead {v:Value}{F:a'}(aH:∀ c,¬ F c):R w I ρ .dead v F
 | hS {t:Nat}{us:List Value}{v:Value}{F:a'}(aW:w.ownsRow 0 t 1 v us.length us) (h1:v.oneCell'=true) (aH:∀ c,F c↔v.ownBlock=some c):R w I ρ (.hS t us) v F
 | mq {k:Nat × Nat}{v:Value}{F:a'}(aH:∀ c,¬ F c):R w I ρ (.self k) v F
 | ref {x:ab}{v:Value}{F:a'}(J:x.isRef=true) (h:ρ x v) (aH:∀ c,¬ F c):R w I ρ x v F
 | gG {z cap:Nat}{a:Option Addr}{F:a'}(aH:∀ c,¬ F c):R w I ρ (.bd z 0 []) (.slice a 0 cap) F
 | bd {z n cap:Nat}{cs:List ab}{ad:Addr}{us:Nat->Value}{F:a'}(aH:∀ c,¬ F c) (lO:n<=cap) (bf:I ad.block) (aw:ad.spot=none) (ah:cs.length=n * z) (h1:∀ (k:Nat) (x:ab),cs[k]?=some x->(us k).oneCell'=true)
   (aa:∀ (k:Nat) (x:ab),cs[k]?=some x->w.cell? ⟨ad.block,ad.off+k,none⟩=some (us k)) (hr:∀ (k:Nat) (x:ab),cs[k]?=some x->R w I ρ x (us k) (λ_=>False)) :
   R w I ρ (.bd z n cs) (.slice (some ad) n cap) F
 | cw {cs:List ab}{ad:Addr}{us:Nat->Value}{F:a'}(aH:∀ c,¬ F c) (bf:I ad.block) (aw:ad.spot=none) (h1:∀ (k:Nat) (x:ab),cs[k]?=some x->(us k).oneCell'=true)
   (aa:∀ (k:Nat) (x:ab),cs[k]?=some x->w.cell? ⟨ad.block,ad.off+k,none⟩=some (us k)) (hr:∀ (k:Nat) (x:ab),cs[k]?=some x->R w I ρ x (us k) (λ_=>False)) :
   R w I ρ (.cw cs) (.pointer (some ad)) F
 | own {z n:Nat}{cs:List ab}{v:Value}{e:TypeId}{us:List Value}{Fs:Nat->a'}{F:a'}
   (aW:w.ownsRow 0 e z v n us) (ah:cs.length=us.length) (h1:∀ (k:Nat) (u:Value),us[k]?=some u->u.oneCell'=true)
   (hr:∀ (k:Nat) (x:ab) (u:Value),cs[k]?=some x->us[k]?=some u->R w I ρ x u (Fs k))
   (aO:∀ (j k c:Nat),j<cs.length->k<cs.length->Fs j c->Fs k c->j=k) (au:∀ (k c:Nat),k<cs.length->Fs k c->v.ownBlock≠some c)
   (aH:∀ c,F c↔v.ownBlock=some c\/∃ k,k<cs.length/\Fs k c):R w I ρ (.own z n cs) v F
 | obj {cs:List ab}{b:Nat}{e:TypeId}{arr:Array Value}{Fs:Nat->a'}{F:a'}
   (aW:w.heap[b]?=some (.cells arr e (0,0))) (ah:cs.length=arr.size) (h1:∀ (k:Nat) (u:Value),arr[k]?=some u->u.oneCell'=true)
   (hr:∀ (k:Nat) (x:ab) (u:Value),cs[k]?=some x->arr[k]?=some u->R w I ρ x u (Fs k))
   (aO:∀ (j k c:Nat),j<cs.length->k<cs.length->Fs j c->Fs k c->j=k) (au:∀ (k:Nat),k<cs.length->¬ Fs k b)
   (aH:∀ c,F c↔c=b\/∃ k,k<cs.length/\Fs k c) (aw:∀ (k:Nat) (j:Nat × Nat) (u:Value),cs[k]?=some (.self j)->arr[k]?=some u->(u=.pointer none/\e=j.2)\/u=.pointer (some ⟨b,j.1,none⟩)):R w I ρ (.obj cs) (.pointer (some ⟨b,0,none⟩)) F
 | agg {cs:List ab}{vs:Array Value}{Fs:Nat->a'}{F:a'}(ah:cs.length=vs.size) (h1:∀ (k:Nat) (u:Value),vs[k]?=some u->u.oneCell'=true)
   (hr:∀ (k:Nat) (x:ab) (u:Value),cs[k]?=some x->vs[k]?=some u->R w I ρ x u (Fs k))
   (aO:∀ (j k c:Nat),j<cs.length->k<cs.length->Fs j c->Fs k c->j=k)
   (aH:∀ c,F c↔∃ k,k<cs.length/\Fs k c):R w I ρ (.agg cs) (.agg vs) F
 | bS {cs:List ab}{vs:Array Value}{Fs:Nat->a'}{F:a'}(ah:cs.length=vs.size)
   (hr:∀ (k:Nat) (x:ab) (u:Value),cs[k]?=some x->vs[k]?=some u->R w I ρ x u (Fs k))
   (aO:∀ (j k c:Nat),j<cs.length->k<cs.length->Fs j c->Fs k c->j=k)
   (aH:∀ c,F c↔∃ k,k<cs.length/\Fs k c):R w I ρ (.bS cs) (.tuple vs) F
 | cD {fn:Fn}{first caps:List ab}{v1 v2:Array Value}{F:a'}(aH:∀ c,¬ F c) (h1:first.length=v1.size) (af:caps.length=v2.size)
   (iU:∀ (k:Nat) (x:ab) (u:Value),first[k]?=some x->v1[k]?=some u->R w I ρ x u (λ_=>False))
   (hz:∀ (k:Nat) (x:ab) (u:Value),caps[k]?=some x->v2[k]?=some u->R w I ρ x u (λ_=>False)):R w I ρ (.cD fn first caps) (.func fn v1 v2) F
 | mp {p:Array MapEntry->Nat->Prop}{b:Nat}{es:Array MapEntry}{clock:Nat}{F:a'}(aW:w.heap[b]?=some (.map es clock)) (aq:p es clock) (aH:∀ c,F c↔c=b):R w I ρ (.mp p) (.map (some b)) F
 | imp {p:Array MapEntry->Nat->Prop}{b:Nat}{es:Array MapEntry}{clock:Nat}{F:a'}(aH:∀ c,¬ F c) (bf:I b) (aW:w.heap[b]?=some (.map es clock)) (aq:p es clock):R w I ρ (.imp p) (.map (some b)) F
theorem R.zr {w:World}{I:a'}{ρ:ab->Value->Prop}{x:ab}{v:Value}{F cQ:a'}(h:R w I ρ x v F) (aH:∀ c,F c↔cQ c):R w I ρ x v cQ:=by
 have:F=cQ:=funext λc=>propext (aH c)
 grind
theorem R.lt {w:World}{I:a'}{ρ:ab->Value->Prop}{x:ab}{v:Value}{F:a'}(h:R w I ρ x v F):∀ c,F c->c<w.heap.size:=by
 induction h with
 | lit _ aH | aQ aH | dead aH | mq aH | ref _ _ aH | gG aH | bd aH | cw aH | cD aH | imp aH=>exact λc aa=>absurd aa (aH c)
 | hS aW _ aH=>exact λc aa=>(aW.lt c ((aH c).1 aa)).2
 | mp aW _ aH=>exact λc aa=>by rw [(aH c).1 aa]; exact (Array.getElem?_eq_some_iff.1 aW).1
 | own aW ah h1 hr aO au aH aM =>
  intro c aa;rcases (aH c).1 aa with h | ⟨k,hk,h⟩
  ·exact (aW.lt c h).2
  ·exact aM k _ _ (List.getElem?_eq_getElem hk) (List.getElem?_eq_getElem (ah ▸ hk)) c h
 | obj aW ah h1 hr aO au aH aw aM =>
  intro c aa;rcases (aH c).1 aa with rfl | ⟨k,hk,h⟩
  ·exact (Array.getElem?_eq_some_iff.1 aW).1
  ·exact aM k _ _ (List.getElem?_eq_getElem hk) (Array.getElem?_eq_getElem (ah ▸ hk)) c h
 | agg ah h1 hr aO aH aM =>
  intro c aa;obtain ⟨k,hk,h⟩:=(aH c).1 aa;exact aM k _ _ (List.getElem?_eq_getElem hk) (Array.getElem?_eq_getElem (ah ▸ hk)) c h
 | bS ah hr aO aH aM =>
  intro c aa;obtain ⟨k,hk,h⟩:=(aH c).1 aa;exact aM k _ _ (List.getElem?_eq_getElem hk) (Array.getElem?_eq_getElem (ah ▸ hk)) c h
theorem uA {w w':World}{e:TypeId}{z n:Nat}{v:Value}{us:List Value}(h:w.ownsRow 0 e z v n us) (au:∀ c,v.ownBlock=some c->w'.heap[c]?=w.heap[c]?):w'.ownsRow 0 e z v n us:=by
 obtain ⟨h1,af⟩:=h;refine ⟨h1,?_⟩;rcases af with af | ⟨g,cap,cur,rfl,aP,bP,rest⟩
 ·grind
 ·exact .inr ⟨g,cap,cur,rfl,aP,by rw [au g rfl]; exact bP,rest⟩
theorem R.frame {w w':World}{I I':a'}{ρ ρ':ab->Value->Prop}{x:ab}{v:Value}{F:a'}(h:R w I ρ x v F)
  (bf:∀ c,I c->w'.heap[c]?=w.heap[c]?) (oE:∀ c,I c->I' c) (lU:∀ x v,ρ x v->ρ' x v) :
  (∀ c,F c->w'.heap[c]?=w.heap[c]?)->R w' I' ρ' x v F:=by
 induction h with
 | lit hv aH=>exact λ_=>.lit hv aH
 | aQ aH=>exact λ_=>.aQ aH
 | dead aH=>exact λ_=>.dead aH
 | mq aH=>exact λ_=>.mq aH
 | ref J h aH=>exact λ_=>.ref J (lU _ _ h) aH
 | gG aH=>exact λ_=>.gG aH
 | bd aH lO hi aw ah h1 aa hr aM =>
  exact λ_=>.bd aH lO (oE _ hi) aw ah h1 (λk x hk=>(World.cell?_of_block (a:=⟨_,_,none⟩) (bf _ hi)).trans (aa k x hk)) λk x hk=>aM k x hk (λc aa=>aa.elim)
 | cw aH hi aw h1 aa hr aM =>
  exact λ_=>.cw aH (oE _ hi) aw h1 (λk x hk=>(World.cell?_of_block (a:=⟨_,_,none⟩) (bf _ hi)).trans (aa k x hk)) λk x hk=>aM k x hk (λc aa=>aa.elim)
 | own aW ah h1 hr aO au aH aM =>
  intro aT;refine .own (uA aW λc aa=>aT c ((aH c).2 (.inl aa))) ah h1 (λk x u J hu=>aM k x u J hu λc aa=>aT c ((aH c).2 (.inr ⟨k,?_,aa⟩))) aO au aH;exact (List.getElem?_eq_some_iff.1 J).1
 | obj aW ah h1 hr aO au aH aw aM =>
  intro aT;refine .obj ((aT _ ((aH _).2 (.inl rfl))).trans aW) ah h1 (λk x u J hu=>aM k x u J hu λc aa=>aT c ((aH c).2 (.inr ⟨k,?_,aa⟩))) aO au aH aw;exact (List.getElem?_eq_some_iff.1 J).1
 | agg ah h1 hr aO aH aM =>
  intro aT;refine .agg ah h1 (λk x u J hu=>aM k x u J hu λc aa=>aT c ((aH c).2 ⟨k,?_,aa⟩)) aO aH;exact (List.getElem?_eq_some_iff.1 J).1
 | bS ah hr aO aH aM =>
  intro aT;refine .bS ah (λk x u J hu=>aM k x u J hu λc aa=>aT c ((aH c).2 ⟨k,?_,aa⟩)) aO aH;exact (List.getElem?_eq_some_iff.1 J).1
 | imp aH hi aW aq=>exact λ_=>.imp aH (oE _ hi) ((bf _ hi).trans aW) aq
 | hS aW h1 aH=>exact λaT=>.hS (uA aW λc aa=>aT c ((aH c).2 aa)) h1 aH
 | mp aW aq aH=>exact λaT=>.mp ((aT _ ((aH _).2 rfl)).trans aW) aq aH
 | cD aH h1 af iU hz gh fQ=>exact λ_=>.cD aH h1 af (λk x u J hu=>gh k x u J hu λc aa=>aa.elim) (λk x u J hu=>fQ k x u J hu λc aa=>aa.elim)
def ab.kids:ab->List ab
 | .own _ _ cs=>cs
 | .obj cs=>cs
 | .agg cs=>cs
 | .bS cs=>cs
 | _=>[]
def ab.sG (x:ab) (k:Nat) (y:ab):ab :=
 match x with
 | .own z n cs=>.own z n (cs.set k y)
 | .obj cs=>.obj (cs.set k y)
 | .agg cs=>.agg (cs.set k y)
 | .bS cs=>.bS (cs.set k y)
 | x=>x
def ab.at:ab->List Nat->Option ab
 | x,[]=>some x
 | x,k::p =>
  match x.kids[k]? with
  | some c=>c.at p
  | none=>none
def ab.setAt:ab->List Nat->ab->ab
 | _,[],y=>y
 | x,k::p,y =>
  match x.kids[k]? with
  | some c=>x.sG k (c.setAt p y)
  | none=>x
theorem ab.aaC {x y z:ab}{k:Nat}{j:Nat × Nat}{p:List Nat}(h:x.at (k::p)=some y):x.setAt (k::p) z≠.self j:=by
 intro e;simp only [ab.at,ab.setAt] at h e;cases hk:x.kids[k]? with
 | none=>rw [hk] at h; cases h
 | some c =>
  rw [hk] at e;cases x <;> simp [ab.sG,ab.kids] at e hk
def child (w:World) (v:Value) (k:Nat):Option Value :=
 match v with
 | .agg cs=>cs[k]?
 | .tuple cs=>cs[k]?
 | .slice (some a) _ _=>w.cell? ⟨a.block,a.off+k,none⟩
 | .pointer (some a)=>w.cell? ⟨a.block,a.off+k,none⟩
 | _=>none
def walk (w:World):Value->List Nat->Option Value
 | v,[]=>some v
 | v,k::p =>
  match child w v k with
  | some u=>walk w u p
  | none=>none
theorem pf {w:World}{e:TypeId}{z n:Nat}{v:Value}{us:List Value}(h:w.ownsRow 0 e z v n us) {k:Nat}{u:Value}(hu:us[k]?=some u):child w v k=some u:=by
 obtain ⟨h1,af⟩:=h;rcases af with ⟨rfl,rfl⟩ | ⟨g,cap,cur,rfl,aP,bP,aB,aa,aw,ar⟩
 ·grind
 ·rw [<- ar] at hu;rw [List.getElem?_take] at hu
  split at hu
  ·simpa [child,World.cell?,bP] using hu
  grind
theorem Q3 {α:Type}{l:List α}{k j:Nat}{y x:α}(h:(l.set k y)[j]?=some x):(j=k/\x=y/\k<l.length)\/(j≠k/\l[j]?=some x):=by
 grind
structure Out (w w':World) (I I':a') (ρ ρ':ab->Value->Prop) (F cu:a'):Prop where
 bd:∀ c,I c->w'.heap[c]?=w.heap[c]?
 rest:∀ c,F c->¬ cu c->w'.heap[c]?=w.heap[c]?
 more:∀ c,I c->I' c
 ref:∀ x v,ρ x v->ρ' x v
theorem Out.mono {w w':World}{I I':a'}{ρ ρ':ab->Value->Prop}{F cu cQ jd:a'}(h:Out w w' I I' ρ ρ' F cu) (h1:∀ c,cQ c->F c) (af:∀ c,cQ c->¬ jd c->¬ cu c):Out w w' I I' ρ ρ' cQ jd :=
 ⟨h.bd,λc aa aB=>h.rest c (h1 c aa) (af c aa aB),h.more,h.ref⟩
theorem R.outside {w w':World}{I I':a'}{ρ ρ':ab->Value->Prop}{F cu:a'}(o:Out w w' I I' ρ ρ' F cu) {x:ab}{v:Value}{G:a'}(h:R w I ρ x v G) (cY:∀ c,G c->F c/\¬ cu c):R w' I' ρ' x v G :=
 h.frame o.bd o.more o.ref λc aa=>o.rest c (cY c aa).1 (cY c aa).2
theorem FV {w w':World}{I I':a'}{ρ ρ':ab->Value->Prop}{cs:List ab}{get:Nat->Option Value}{Fs:Nat->a'}{F cu:a'}
  (hr:∀ (k:Nat) (x:ab) (u:Value),cs[k]?=some x->get k=some u->R w I ρ x u (Fs k))
  (aO:∀ (j k c:Nat),j<cs.length->k<cs.length->Fs j c->Fs k c->j=k)
  (aH:∀ k c,k<cs.length->Fs k c->F c) {k:Nat}(hk:k<cs.length) (ao:∀ c,cu c->Fs k c) (o:Out w w' I I' ρ ρ' F cu)
  {y:ab}{u:Value}{bH:a'}(hu:get k=some u) (aY:R w' I' ρ' y u bH) (ey:∀ c,bH c↔(Fs k c/\¬ cu c)\/(bH c/\¬ (F c/\¬ cu c))) :
  (∀ (j:Nat) (x:ab) (u:Value),(cs.set k y)[j]?=some x->get j=some u->R w' I' ρ' x u (if j=k then bH else Fs j)) /\
  (∀ (i j c:Nat),i<(cs.set k y).length->j<(cs.set k y).length->(if i=k then bH else Fs i) c->(if j=k then bH else Fs j) c->i=j):=by
 constructor
 ·intro j x sK J hU;rcases Q3 J with ⟨rfl,rfl,aN⟩ | ⟨cO,J⟩
  ·grind
  ·rw [if_neg cO];have ag:j<cs.length:=(List.getElem?_eq_some_iff.1 J).1;exact (hr j x sK J hU).outside o λc aa=>⟨aH j c ag aa,λec=>cO (aO j k c ag hk aa (ao c ec))⟩
 grind
theorem FW {m:Nat}{Fs:Nat->a'}{bH cu jd:a'}{k:Nat}(hk:k<m)
  (aO:∀ (j k c:Nat),j<m->k<m->Fs j c->Fs k c->j=k) (ao:∀ c,cu c->Fs k c) (ey:∀ c,bH c↔(Fs k c/\¬ cu c)\/jd c) (c:Nat) :
  (∃ j,j<m/\(if j=k then bH else Fs j) c)↔((∃ j,j<m/\Fs j c)/\¬ cu c)\/jd c:=by
 grind
theorem R.p1 {w w':World}{I:a'}{ρ:ab->Value->Prop}:∀ (r:List Nat) {x:ab}{v:Value}{F:a'}{y:ab},R w I ρ x v F->x.at r=some y ->
  (∀ c,F c->w'.heap[c]?=w.heap[c]?)->walk w' v r=walk w v r
 | [],_,_,_,_,_,_,_=>rfl
 | k::p,x,v,F,y,h,fD,aT=>by
  simp only [ab.at] at fD;cases gW:x.kids[k]? with
  | none=>rw [gW] at fD; cases fD
  | some q9 =>
   rw [gW] at fD;simp only at fD;cases h with
   | @own z n cs _ e us Fs _ aW ah h1 hr aO au aH =>
    simp only [ab.kids] at gW;have hk:k<cs.length:=(List.getElem?_eq_some_iff.1 gW).1;have hu:us[k]?=some us[k]:=List.getElem?_eq_getElem (ah ▸ hk);have mg:=uA (w':=w') aW λc aa=>aT c ((aH c).2 (.inl aa));have:=R.p1 (w':=w') p (hr k q9 _ gW hu) fD λc aa=>aT c ((aH c).2 (.inr ⟨k,hk,aa⟩));simp [walk,pf aW hu,pf mg hu,this]
   | @obj cs b e arr Fs _ aW ah h1 hr aO au aH aw =>
    simp only [ab.kids] at gW;have hk:k<cs.length:=(List.getElem?_eq_some_iff.1 gW).1;have hu:arr[k]?=some arr[k]:=Array.getElem?_eq_getElem (ah ▸ hk);have mg:=(aT b ((aH b).2 (.inl rfl))).trans aW;have:=R.p1 (w':=w') p (hr k q9 _ gW hu) fD λc aa=>aT c ((aH c).2 (.inr ⟨k,hk,aa⟩));simp [walk,child,World.cell?,aW,mg,hu,this]
   | @agg cs vs Fs _ ah h1 hr aO aH =>
    simp only [ab.kids] at gW;have hk:k<cs.length:=(List.getElem?_eq_some_iff.1 gW).1;have hu:vs[k]?=some vs[k]:=Array.getElem?_eq_getElem (ah ▸ hk);have:=R.p1 (w':=w') p (hr k q9 _ gW hu) fD λc aa=>aT c ((aH c).2 ⟨k,hk,aa⟩);simp [walk,child,hu,this]
   | @bS cs vs Fs _ ah hr aO aH =>
    simp only [ab.kids] at gW;have hk:k<cs.length:=(List.getElem?_eq_some_iff.1 gW).1;have hu:vs[k]?=some vs[k]:=Array.getElem?_eq_getElem (ah ▸ hk);have:=R.p1 (w':=w') p (hr k q9 _ gW hu) fD λc aa=>aT c ((aH c).2 ⟨k,hk,aa⟩);simp [walk,child,hu,this]
   | ref J _ _=>cases x <;> simp [ab.isRef,ab.kids] at J gW
   | _=>simp [ab.kids] at gW
theorem R.focus {w:World}{I:a'}{ρ:ab->Value->Prop}:∀ (q:List Nat) {x:ab}{v:Value}{F:a'}{y:ab},R w I ρ x v F->x.at q=some y ->
  ∃ hY cu,walk w v q=some hY/\R w I ρ y hY cu/\(∀ c,cu c->F c) /\
   (∀ (w':World),(∀ c,F c->¬ cu c->w'.heap[c]?=w.heap[c]?)->walk w' v q=some hY/\∀ r uW,x.at r=some uW->(∃ c',r=q++c')\/walk w' v r=walk w v r) /\
   ∀ (w':World) (I':a') (ρ':ab->Value->Prop) (y':ab) (jd:a'),Out w w' I I' ρ ρ' F cu->R w' I' ρ' y' hY jd->(∀ c,jd c->F c->cu c)->(∀ j,y'=.self j->y=.self j) ->
    ∃ cQ,R w' I' ρ' (x.setAt q y') v cQ/\∀ c,cQ c↔(F c/\¬ cu c)\/jd c
 | [],x,v,F,y,h,fD=>by
  simp only [ab.at,Option.some.injEq] at fD;subst fD;exact ⟨v,F,rfl,h,λ_ h=>h,λ_ _=>⟨rfl,λr _ _=>.inl ⟨r,rfl⟩⟩,λw' I' ρ' y' jd _ aY _ _=>⟨jd,aY,λc=>by simp⟩⟩
 | k::p,x,v,F,y,h,fD=>by
  simp only [ab.at] at fD;cases gW:x.kids[k]? with
  | none=>rw [gW] at fD; cases fD
  | some q9 =>
   rw [gW] at fD;simp only at fD;have zR:∀ y',x.setAt (k::p) y'=x.sG k (q9.setAt p y'):=λy'=>by simp [ab.setAt,gW]
   cases h with
   | @own z n cs _ e us Fs _ aW ah h1 hr aO au aH =>
    simp only [ab.kids] at gW;have hk:k<cs.length:=(List.getElem?_eq_some_iff.1 gW).1;have hu:us[k]?=some us[k]:=List.getElem?_eq_getElem (ah ▸ hk);obtain ⟨hY,cu,hw,ds,c_,e5,kr⟩:=R.focus p (hr k q9 _ gW hu) fD;refine ⟨hY,cu,by simp [walk,pf aW hu,hw],ds,λc aa=>(aH c).2 (.inr ⟨k,hk,c_ c aa⟩),?_,?_⟩
    ·intro w' aw;have n0:∀ j c,j<cs.length->Fs j c->¬ cu c->w'.heap[c]?=w.heap[c]?:=λj c ag aa aB=>aw c ((aH c).2 (.inr ⟨j,ag,aa⟩)) aB;obtain ⟨ik,hs⟩:=e5 w' λc aa aB=>n0 k c hk aa aB;have mg:=uA (w':=w') aW λc aa=>aw c ((aH c).2 (.inl aa)) λec=>au k c hk (c_ c ec) aa;refine ⟨by simp [walk,pf mg hu,ik],?_⟩;intro r uW dG;cases r with
     | nil=>exact .inr rfl
     | cons j r =>
      simp only [ab.at,ab.kids] at dG;cases ag:cs[j]? with
      | none=>rw [ag] at dG; cases dG
      | some wW =>
       rw [ag] at dG;simp only at dG;have ez:j<cs.length:=(List.getElem?_eq_some_iff.1 ag).1;have rp:us[j]?=some us[j]:=List.getElem?_eq_getElem (ah ▸ ez);by_cases gC:j=k
       ·subst gC;rw [gW] at ag;cases ag;rcases hs r uW dG with ⟨c',rfl⟩ | h
        ·exact .inl ⟨c',rfl⟩
        ·exact .inr (by simp [walk,pf aW hu,pf mg hu,h])
       ·have h:=R.p1 (w':=w') r (hr j wW _ ag rp) dG λc aa=>n0 j c ez aa λec=>gC (aO j k c ez hk aa (c_ c ec));exact .inr (by simp [walk,pf aW rp,pf mg rp,h])
    intro w' I' ρ' y' jd o h6 nw ln;have jn:∀ j c,j<cs.length->Fs j c->F c:=λj c ag aa=>(aH c).2 (.inr ⟨j,ag,aa⟩);obtain ⟨bH,ki,ey⟩:=kr w' I' ρ' y' jd (o.mono (λc aa=>jn k c hk aa) λc _ h=>h) h6 (λc aa o7=>nw c aa (jn k c hk o7)) ln;obtain ⟨dG,o5⟩:=FV (get:=λj=>us[j]?) hr aO jn hk c_ o hu ki λc=>by
     constructor
     ·intro h;rcases (ey c).1 h with h1 | h1
      ·exact .inl h1
      ·exact .inr ⟨h,λ⟨af,aD⟩=>aD (nw c h1 af)⟩
     ·rintro (h1 | ⟨h1,_⟩)
      ·exact (ey c).2 (.inl h1)
      ·exact h1
    rw [zR];refine ⟨_,.own (Fs:=λj=>if j=k then bH else Fs j) (uA aW λc aa=>o.rest c ((aH c).2 (.inl aa)) λec=>au k c hk (c_ c ec) aa) (by simpa using ah) h1 dG o5 ?_ (λc=>Iff.rfl),λc=>?_⟩
    ·intro j c ag aa vG;rw [List.length_set] at ag;by_cases gC:j=k
     ·rw [if_pos gC] at aa;rcases (ey c).1 aa with ⟨h1,_⟩ | h1
      ·exact au k c hk h1 vG
      ·exact au k c hk (c_ c (nw c h1 ((aH c).2 (.inl vG)))) vG
     ·rw [if_neg gC] at aa; exact au j c ag aa vG
    ·have hu:=FW hk aO c_ ey c;simp only [List.length_set];rw [hu,aH c];have eH:v.ownBlock=some c->¬ cu c:=λh1 af=>au k c hk (c_ c af) h1;constructor
     ·rintro (h1 | ⟨h1,af⟩ | h1)
      ·exact .inl ⟨.inl h1,eH h1⟩
      ·exact .inl ⟨.inr h1,af⟩
      ·exact .inr h1
     ·rintro (⟨h1 | h1,af⟩ | h1)
      ·exact .inl h1
      ·exact .inr (.inl ⟨h1,af⟩)
      ·exact .inr (.inr h1)
   | @obj cs b e arr Fs _ aW ah h1 hr aO au aH aw =>
    simp only [ab.kids] at gW;have hk:k<cs.length:=(List.getElem?_eq_some_iff.1 gW).1;have hu:arr[k]?=some arr[k]:=Array.getElem?_eq_getElem (ah ▸ hk);obtain ⟨hY,cu,hw,ds,c_,e5,kr⟩:=R.focus p (hr k q9 _ gW hu) fD;refine ⟨hY,cu,by simp [walk,child,World.cell?,aW,hu,hw],ds,λc aa=>(aH c).2 (.inr ⟨k,hk,c_ c aa⟩),?_,?_⟩
    ·intro w' aw;have n0:∀ j c,j<cs.length->Fs j c->¬ cu c->w'.heap[c]?=w.heap[c]?:=λj c ag aa aB=>aw c ((aH c).2 (.inr ⟨j,ag,aa⟩)) aB;obtain ⟨ik,hs⟩:=e5 w' λc aa aB=>n0 k c hk aa aB;have mg:=(aw b ((aH b).2 (.inl rfl)) λec=>au k hk (c_ b ec)).trans aW;refine ⟨by simp [walk,child,World.cell?,mg,hu,ik],?_⟩;intro r uW dG;cases r with
     | nil=>exact .inr rfl
     | cons j r =>
      simp only [ab.at,ab.kids] at dG;cases ag:cs[j]? with
      | none=>rw [ag] at dG; cases dG
      | some wW =>
       rw [ag] at dG;simp only at dG;have ez:j<cs.length:=(List.getElem?_eq_some_iff.1 ag).1;have rp:arr[j]?=some arr[j]:=Array.getElem?_eq_getElem (ah ▸ ez);by_cases gC:j=k
       ·subst gC;rw [gW] at ag;cases ag;rcases hs r uW dG with ⟨c',rfl⟩ | h
        ·exact .inl ⟨c',rfl⟩
        ·exact .inr (by simp [walk,child,World.cell?,aW,mg,hu,h])
       ·have h:=R.p1 (w':=w') r (hr j wW _ ag rp) dG λc aa=>n0 j c ez aa λec=>gC (aO j k c ez hk aa (c_ c ec));exact .inr (by simp [walk,child,World.cell?,aW,mg,rp,h])
    intro w' I' ρ' y' jd o h6 nw ln;have jn:∀ j c,j<cs.length->Fs j c->F c:=λj c ag aa=>(aH c).2 (.inr ⟨j,ag,aa⟩);obtain ⟨bH,ki,ey⟩:=kr w' I' ρ' y' jd (o.mono (λc aa=>jn k c hk aa) λc _ h=>h) h6 (λc aa o7=>nw c aa (jn k c hk o7)) ln;obtain ⟨dG,o5⟩:=FV (get:=λj=>arr[j]?) hr aO jn hk c_ o hu ki λc=>by
     constructor
     ·intro h;rcases (ey c).1 h with h1 | h1
      ·exact .inl h1
      ·exact .inr ⟨h,λ⟨af,aD⟩=>aD (nw c h1 af)⟩
     ·rintro (h1 | ⟨h1,_⟩)
      ·exact (ey c).2 (.inl h1)
      ·exact h1
    rw [zR];have nY:F b:=(aH b).2 (.inl rfl);have Jj:¬ cu b:=λh=>au k hk (c_ b h);refine ⟨_,.obj (Fs:=λj=>if j=k then bH else Fs j) ((o.rest b nY Jj).trans aW) (by simpa using ah) h1 dG o5 ?_ (λc=>Iff.rfl) (λi j u hi hU=>?_),λc=>?_⟩
    ·intro j ag aa;rw [List.length_set] at ag;by_cases gC:j=k
     ·rw [if_pos gC] at aa;rcases (ey b).1 aa with ⟨h1,_⟩ | h1
      ·exact au k hk h1
      ·exact Jj (nw b h1 nY)
     ·rw [if_neg gC] at aa; exact au j ag aa
    ·rcases Q3 hi with ⟨rfl,he,_⟩ | ⟨_,hi⟩
     ·refine aw _ j u ?_ hU;rw [gW];cases p with
      | nil =>
       simp only [ab.at,Option.some.injEq] at fD;rw [fD];exact congrArg some (ln j he.symm)
      | cons j8 K7=>exact absurd he.symm (ab.aaC fD)
     ·exact aw i j u hi hU
    ·have hu:=FW hk aO c_ ey c;simp only [List.length_set];rw [hu,aH c];constructor
     ·rintro (rfl | ⟨h1,af⟩ | h1)
      ·exact .inl ⟨.inl rfl,Jj⟩
      ·exact .inl ⟨.inr h1,af⟩
      ·exact .inr h1
     ·rintro (⟨h1 | h1,af⟩ | h1)
      ·exact .inl h1
      ·exact .inr (.inl ⟨h1,af⟩)
      ·exact .inr (.inr h1)
   | @agg cs vs Fs _ ah h1 hr aO aH =>
    simp only [ab.kids] at gW;have hk:k<cs.length:=(List.getElem?_eq_some_iff.1 gW).1;have hu:vs[k]?=some vs[k]:=Array.getElem?_eq_getElem (ah ▸ hk);obtain ⟨hY,cu,hw,ds,c_,e5,kr⟩:=R.focus p (hr k q9 _ gW hu) fD;refine ⟨hY,cu,by simp [walk,child,hu,hw],ds,λc aa=>(aH c).2 ⟨k,hk,c_ c aa⟩,?_,?_⟩
    ·intro w' aw;have n0:∀ j c,j<cs.length->Fs j c->¬ cu c->w'.heap[c]?=w.heap[c]?:=λj c ag aa aB=>aw c ((aH c).2 ⟨j,ag,aa⟩) aB;obtain ⟨ik,hs⟩:=e5 w' λc aa aB=>n0 k c hk aa aB
     
     refine ⟨by simp [walk,child,hu,ik],?_⟩;intro r uW dG;cases r with
     | nil=>exact .inr rfl
     | cons j r =>
      simp only [ab.at,ab.kids] at dG;cases ag:cs[j]? with
      | none=>rw [ag] at dG; cases dG
      | some wW =>
       rw [ag] at dG;simp only at dG;have ez:j<cs.length:=(List.getElem?_eq_some_iff.1 ag).1;have rp:vs[j]?=some vs[j]:=Array.getElem?_eq_getElem (ah ▸ ez);by_cases gC:j=k
       ·subst gC;rw [gW] at ag;cases ag;rcases hs r uW dG with ⟨c',rfl⟩ | h
        ·exact .inl ⟨c',rfl⟩
        ·exact .inr (by simp [walk,child,hu,h])
       ·have h:=R.p1 (w':=w') r (hr j wW _ ag rp) dG λc aa=>n0 j c ez aa λec=>gC (aO j k c ez hk aa (c_ c ec));exact .inr (by simp [walk,child,rp,h])
    intro w' I' ρ' y' jd o h6 nw ln;have jn:∀ j c,j<cs.length->Fs j c->F c:=λj c ag aa=>(aH c).2 ⟨j,ag,aa⟩;obtain ⟨bH,ki,ey⟩:=kr w' I' ρ' y' jd (o.mono (λc aa=>jn k c hk aa) λc _ h=>h) h6 (λc aa o7=>nw c aa (jn k c hk o7)) ln;obtain ⟨dG,o5⟩:=FV (get:=λj=>vs[j]?) hr aO jn hk c_ o hu ki λc=>by
     constructor
     ·intro h;rcases (ey c).1 h with h1 | h1
      ·exact .inl h1
      ·exact .inr ⟨h,λ⟨af,aD⟩=>aD (nw c h1 af)⟩
     ·rintro (h1 | ⟨h1,_⟩)
      ·exact (ey c).2 (.inl h1)
      ·exact h1
    rw [zR];refine ⟨_,.agg (Fs:=λj=>if j=k then bH else Fs j) (by simpa using ah) h1 dG o5 (λc=>Iff.rfl),λc=>?_⟩;have hu:=FW hk aO c_ ey c;simp only [List.length_set];rw [hu,aH c]
   | @bS cs vs Fs _ ah hr aO aH =>
    simp only [ab.kids] at gW;have hk:k<cs.length:=(List.getElem?_eq_some_iff.1 gW).1;have hu:vs[k]?=some vs[k]:=Array.getElem?_eq_getElem (ah ▸ hk);obtain ⟨hY,cu,hw,ds,c_,e5,kr⟩:=R.focus p (hr k q9 _ gW hu) fD;refine ⟨hY,cu,by simp [walk,child,hu,hw],ds,λc aa=>(aH c).2 ⟨k,hk,c_ c aa⟩,?_,?_⟩
    ·intro w' aw;have n0:∀ j c,j<cs.length->Fs j c->¬ cu c->w'.heap[c]?=w.heap[c]?:=λj c ag aa aB=>aw c ((aH c).2 ⟨j,ag,aa⟩) aB;obtain ⟨ik,hs⟩:=e5 w' λc aa aB=>n0 k c hk aa aB
     
     refine ⟨by simp [walk,child,hu,ik],?_⟩;intro r uW dG;cases r with
     | nil=>exact .inr rfl
     | cons j r =>
      simp only [ab.at,ab.kids] at dG;cases ag:cs[j]? with
      | none=>rw [ag] at dG; cases dG
      | some wW =>
       rw [ag] at dG;simp only at dG;have ez:j<cs.length:=(List.getElem?_eq_some_iff.1 ag).1;have rp:vs[j]?=some vs[j]:=Array.getElem?_eq_getElem (ah ▸ ez);by_cases gC:j=k
       ·subst gC;rw [gW] at ag;cases ag;rcases hs r uW dG with ⟨c',rfl⟩ | h
        ·exact .inl ⟨c',rfl⟩
        ·exact .inr (by simp [walk,child,hu,h])
       ·have h:=R.p1 (w':=w') r (hr j wW _ ag rp) dG λc aa=>n0 j c ez aa λec=>gC (aO j k c ez hk aa (c_ c ec));exact .inr (by simp [walk,child,rp,h])
    intro w' I' ρ' y' jd o h6 nw ln;have jn:∀ j c,j<cs.length->Fs j c->F c:=λj c ag aa=>(aH c).2 ⟨j,ag,aa⟩;obtain ⟨bH,ki,ey⟩:=kr w' I' ρ' y' jd (o.mono (λc aa=>jn k c hk aa) λc _ h=>h) h6 (λc aa o7=>nw c aa (jn k c hk o7)) ln;obtain ⟨dG,o5⟩:=FV (get:=λj=>vs[j]?) hr aO jn hk c_ o hu ki λc=>by
     constructor
     ·intro h;rcases (ey c).1 h with h1 | h1
      ·exact .inl h1
      ·exact .inr ⟨h,λ⟨af,aD⟩=>aD (nw c h1 af)⟩
     ·rintro (h1 | ⟨h1,_⟩)
      ·exact (ey c).2 (.inl h1)
      ·exact h1
    rw [zR];refine ⟨_,.bS (Fs:=λj=>if j=k then bH else Fs j) (by simpa using ah) dG o5 (λc=>Iff.rfl),λc=>?_⟩;have hu:=FW hk aO c_ ey c;simp only [List.length_set];rw [hu,aH c]
   | ref J _ _=>cases x <;> simp [ab.isRef,ab.kids] at J gW
   | _=>simp [ab.kids] at gW
abbrev aL:=Nat->Option ab
def bG (g:aL) (p:Place):Option ab :=
 match g p.root with
 | some x=>x.at p.path
 | none=>none
def dx (w:World) (T:Array Value) (p:Place):Option Value :=
 match T[p.root]? with
 | some v=>walk w v p.path
 | none=>none
def addrOf:Value->Option Addr
 | .slice (some a) _ _=>some a
 | .pointer (some a)=>some a
 | _=>none
def fh (w:World) (T:Array Value):ab->Value->Prop
 | .ptr p k,v=>∃ u a,dx w T p=some u/\addrOf u=some a/\v=.pointer (some ⟨a.block,a.off+k,none⟩)
 | .a6 _ p n,v=>∃ a N cap,dx w T p=some (.slice a N cap)/\v=.slice a n cap/\n<=N
 | .sub z p lo n,v=>∃ a N cap b' nq,dx w T p=some (.slice a N cap)/\v=.slice b' n nq/\n<=nq/\lo+n<=N/\(0<n->∃ ad,a=some ad/\b'=some ⟨ad.block,ad.off+lo * z,none⟩)
 | .bL _ p n _ _,v=>∃ a cap,dx w T p=some (.slice a n cap)/\v=.slice a n cap
 | .gj p,v=>∃ b,dx w T p=some (.map b)/\v=.map b
 | _,_=>False
def gA (g:aL):ab->Prop
 | .ptr p k=>∃ y,bG g p=some y/\(∃ z n cs,(y=.own z n cs\/y=.obj cs)/\k<cs.length)
 | .a6 z p n=>(∃ N cs,bG g p=some (.own z N cs)/\n<=N)\/(p.path=[]/\∃ q gJ m new,g p.root=some (.bL z q gJ m new)/\n=gJ+m)
 | .sub z p lo n=>∃ N cs,bG g p=some (.own z N cs)/\lo+n<=N
 | .bL z p n _ _=>(∃ cs,bG g p=some (.own z n cs))\/(p.path=[]/\∃ q gJ m new cs,g p.root=some (.bL z q gJ m new)/\n=gJ+m/\bG g q=some (.own z gJ cs))
 | .gj p=>∃ q,bG g p=some (.mp q)
 | _=>False
def dy (w:World) (T:Array Value) (g:aL) (r:ab) (v:Value):Prop:=fh w T r v/\gA g r
structure Hv (w:World) (I:a') (ρ:ab->Value->Prop) (z:Nat) (p:Place) (n m:Nat) (new:List ab) (v:Value) (F:a') (bv:Value) (e b3:TypeId) (us news:List Value):Prop where
 jo:ρ (.bL z p n 0 []) bv
 kE:w.ownsRow 0 e z bv n us
 mN:w.ownsRow 0 b3 z v (n+m) (us++news)
 ah:new.length=news.length
 h1:∀ (k:Nat) (u:Value),news[k]?=some u->u.oneCell'=true
 hr:∀ (k:Nat) (x:ab) (u:Value),new[k]?=some x->news[k]?=some u->R w I ρ x u (λ_=>False)
 aH:∀ c,F c↔v.ownBlock=some c/\bv.ownBlock≠some c
inductive jB (w:World) (I:a') (ρ:ab->Value->Prop):ab->Value->a'->Prop
 | tree {x:ab}{v:Value}{F:a'}(h:R w I ρ x v F):jB w I ρ x v F
 | bL {z n m:Nat}{p:Place}{new:List ab}{v bv:Value}{e b3:TypeId}{us news:List Value}{F:a'}(h:Hv w I ρ z p n m new v F bv e b3 us news):jB w I ρ (.bL z p n m new) v F
theorem R.lv {w:World}{I:a'}{ρ:ab->Value->Prop}{z n m:Nat}{p:Place}{new:List ab}{v:Value}{F:a'}(h:R w I ρ (.bL z p n m new) v F):False:=by
 cases h with
 | ref J=>simp [ab.isRef] at J
theorem jB.gp {w:World}{I:a'}{ρ:ab->Value->Prop}{x:ab}{v:Value}{F:a'}(h:jB w I ρ x v F) (J:∀ z p n m new,x≠.bL z p n m new):R w I ρ x v F:=by
 cases h with
 | tree h=>exact h
 | bL=>exact absurd rfl (J _ _ _ _ _)
theorem jB.vO {w:World}{I:a'}{ρ:ab->Value->Prop}{z n m:Nat}{p:Place}{new:List ab}{v:Value}{F:a'}(h:jB w I ρ (.bL z p n m new) v F):∃ bv e b3 us news,Hv w I ρ z p n m new v F bv e b3 us news:=by
 cases h with
 | tree h=>exact h.lv.elim
 | bL h=>exact ⟨_,_,_,_,_,h⟩
theorem jB.lt {w:World}{I:a'}{ρ:ab->Value->Prop}{x:ab}{v:Value}{F:a'}(h:jB w I ρ x v F):∀ c,F c->c<w.heap.size:=by
 cases h with
 | tree h=>exact h.lt
 | bL h=>exact λc aa=>(h.mN.lt c ((h.aH c).1 aa).1).2
theorem jB.frame {w w':World}{I I':a'}{ρ ρ':ab->Value->Prop}{x:ab}{v:Value}{F:a'}(h:jB w I ρ x v F)
  (bf:∀ c,I c->w'.heap[c]?=w.heap[c]?) (oE:∀ c,I c->I' c) (lU:∀ x v,ρ x v->ρ' x v)
  (bQ:∀ z p n bv,ρ (.bL z p n 0 []) bv->∀ c,bv.ownBlock=some c->w'.heap[c]?=w.heap[c]?)
  (aT:∀ c,F c->w'.heap[c]?=w.heap[c]?):jB w' I' ρ' x v F:=by
 cases h with
 | tree h=>exact .tree (h.frame bf oE lU aT)
 | @bL z n m p new v bv e b3 us news F h =>
  have au:=bQ _ _ _ _ h.jo;refine .bL ⟨lU _ _ h.jo,uA h.kE au,uA h.mN λc aa=>?_,h.ah,h.h1,λk x u J hu=>(h.hr k x u J hu).frame bf oE lU λc aa=>aa.elim,h.aH⟩;by_cases qp:bv.ownBlock=some c
  ·exact au c qp
  ·exact aT c ((h.aH c).2 ⟨aa,qp⟩)
theorem ab.sV {z n m:Nat}{p:Place}{new:List ab}{q:List Nat}{y:ab}(h:(ab.bL z p n m new).at q=some y):q=[]/\y=.bL z p n m new:=by
 cases q with
 | nil=>simp [ab.at] at h; exact ⟨rfl,h.symm⟩
 | cons k q=>simp [ab.at,ab.kids] at h
class cE where
 q:World->a'->Prop
 keep:∀ {w w':World}{I I':a'},q w I->(∀ c,I c->w'.heap[c]?=w.heap[c]?)->(∀ c,I c->I' c)->q w' I'
variable [cE]
structure cA (w:World) (I:a') (T:Array Value) (g:aL) (Fs:Nat->a'):Prop where
 rel:∀ t x,g t=some x->∃ v,T[t]?=some v/\jB w I (dy w T g) x v (Fs t)
 k6:∀ t,g t=none->∀ c,¬ Fs t c
 d_:∀ t t' c,Fs t c->Fs t' c->t=t'
 bd:∀ t c,Fs t c->¬ I c
 lt:∀ c,I c->c<w.heap.size
 rF:∀ t t' z p n m new bR cr m' cL,g t=some (.bL z p n m new)->g t'=some (.bL bR p cr m' cL)->t=t'
 hP:cE.q w I
section
variable {w:World}{I:a'}{T:Array Value}{g:aL}{Fs:Nat->a'}
theorem cA.part (h:cA w I T g Fs) {p:Place}{y:ab}(aq:bG g p=some y) (ao:∀ z q n m new,y≠.bL z q n m new):∃ v cu,dx w T p=some v/\R w I (dy w T g) y v cu/\(∀ c,cu c->Fs p.root c):=by
 unfold bG at aq;cases J:g p.root with
 | none=>rw [J] at aq; cases aq
 | some x =>
  rw [J] at aq;obtain ⟨v,hv,aY⟩:=h.rel _ _ J;replace aY:=aY.gp (by
   rintro z q n m new rfl;exact ao _ _ _ _ _ (ab.sV aq).2)
  obtain ⟨hY,cu,hw,ds,c_,_⟩:=R.focus p.path aY aq;exact ⟨hY,cu,by simp [dx,hv,hw],ds,c_⟩
theorem R.rA {ρ:ab->Value->Prop}{z n:Nat}{cs:List ab}{v:Value}{F:a'}(h:R w I ρ (.own z n cs) v F):∀ c,v.ownBlock=some c->F c:=by
 cases h with
 | own aW ah h1 hr aO au aH=>exact λc aa=>(aH c).2 (.inl aa)
 | ref J=>simp [ab.isRef] at J
theorem R.oa {ρ:ab->Value->Prop}{z n:Nat}{cs:List ab}{v:Value}{F:a'}(h:R w I ρ (.own z n cs) v F) :
  ∃ a cap,v=.slice a n cap/\n<=cap/\cs.length=n * z/\(∀ ad,a=some ad->ad.off=0/\ad.spot=none)/\(0<n->a.isSome=true):=by
 cases h with
 | own aW ah h1 hr aO au aH =>
  obtain ⟨h1,af⟩:=aW;rcases af with ⟨rfl,rfl⟩ | ⟨b,cap,cur,rfl,_,_,aB,_⟩
  ·exact ⟨none,0,rfl,Nat.le_refl _,by simp [ah,h1],by simp,by simp⟩
  ·exact ⟨_,cap,rfl,aB,by simp [ah,h1],by rintro ad ⟨⟩; exact ⟨rfl,rfl⟩,by simp⟩
 | ref J=>simp [ab.isRef] at J
theorem cA.yC (h:cA w I T g Fs) {w':World}{T':Array Value}(cU:∀ t,g t≠none->T'[t]?=T[t]?) (aH:∀ t c,Fs t c->w'.heap[c]?=w.heap[c]?) {p:Place}{y:ab}(aq:bG g p=some y) :
  dx w' T' p=dx w T p:=by
 unfold bG at aq;cases J:g p.root with
 | none=>rw [J] at aq; cases aq
 | some x =>
  rw [J] at aq;obtain ⟨v,hv,aY⟩:=h.rel _ _ J;have ih:T'[p.root]?=some v:=by rw [cU _ (by rw [J]; simp),hv]
  cases aY with
  | tree aY =>
   have:=R.p1 (w':=w') p.path aY aq λc aa=>aH _ c aa;simp [dx,hv,ih,this]
  | bL aY=>simp [dx,hv,ih,(ab.sV aq).1,walk]
theorem kV {g g':aL}(aP:∀ t x,g t=some x->g' t=some x) {p:Place}{y:ab}(aq:bG g p=some y):bG g' p=some y:=by
 unfold bG at *;cases J:g p.root with
 | none=>rw [J] at aq; cases aq
 | some x=>rw [J] at aq; rw [aP _ _ J]; exact aq
theorem gA.mono {g g':aL}(aP:∀ t x,g t=some x->g' t=some x) {r:ab}(h:gA g r):gA g' r:=by
 cases r <;> simp only [gA] at h ⊢
 case ptr p k=>obtain ⟨y,ao,h⟩:=h; exact ⟨y,kV aP ao,h⟩
 case a6 z p n =>
  rcases h with ⟨N,cs,h1,af⟩ | ⟨aK,q,gJ,m,new,h1,af⟩
  ·exact .inl ⟨N,cs,kV aP h1,af⟩
  ·exact .inr ⟨aK,q,gJ,m,new,aP _ _ h1,af⟩
 case sub z p lo n=>obtain ⟨N,cs,h1,af⟩:=h; exact ⟨N,cs,kV aP h1,af⟩
 case bL z p n m new =>
  rcases h with ⟨cs,h1⟩ | ⟨aK,q,gJ,m',cL,cs,h1,af,aD⟩
  ·exact .inl ⟨cs,kV aP h1⟩
  ·exact .inr ⟨aK,q,gJ,m',cL,cs,aP _ _ h1,af,kV aP aD⟩
 case gj p=>obtain ⟨q,h⟩:=h; exact ⟨q,kV aP h⟩
theorem cA.GF (h:cA w I T g Fs) {w':World}{T':Array Value}{g':aL}(cU:∀ t,g t≠none->T'[t]?=T[t]?) (aH:∀ t c,Fs t c->w'.heap[c]?=w.heap[c]?)
  (aP:∀ t x,g t=some x->g' t=some x) {r:ab}{v:Value}(hr:dy w T g r v):dy w' T' g' r v:=by
 obtain ⟨h1,af⟩:=hr;refine ⟨?_,af.mono aP⟩;have slot:∀ {p:Place}{x:ab},p.path=[]->g p.root=some x->dx w' T' p=dx w T p:=by
  intro p x aq J;obtain ⟨v,hv,_⟩:=h.rel _ _ J;simp [dx,aq,walk,cU p.root (by rw [J]; simp)]
 cases r <;> simp only [fh,gA] at h1 af ⊢
 case ptr p k =>
  obtain ⟨y,ao,_⟩:=af;rw [h.yC cU aH ao]; exact h1
 case a6 z p n =>
  rcases af with ⟨N,cs,af,_⟩ | ⟨aK,q,gJ,m,new,af,_⟩
  ·rw [h.yC cU aH af]; exact h1
  ·rw [slot aK af]; exact h1
 case sub z p lo n =>
  obtain ⟨N,cs,af,_⟩:=af;rw [h.yC cU aH af]; exact h1
 case bL z p n m new =>
  rcases af with ⟨cs,af⟩ | ⟨aK,q,gJ,m',cL,cs,af,_⟩
  ·rw [h.yC cU aH af]; exact h1
  ·rw [slot aK af]; exact h1
 case gj p =>
  obtain ⟨q,af⟩:=af;rw [h.yC cU aH af]; exact h1
theorem cA.EZ (h:cA w I T g Fs) {z n:Nat}{p:Place}{bv:Value}(hr:dy w T g (.bL z p n 0 []) bv):∀ c,bv.ownBlock=some c->∃ t,Fs t c:=by
 obtain ⟨⟨a,cap,h1,rfl⟩,af⟩:=hr;intro c aa;have own:∀ {q:Place}{gJ:Nat}{cs:List ab}{v:Value},bG g q=some (.own z gJ cs)->dx w T q=some v->v.ownBlock=some c->∃ t,Fs t c:=by
  intro q gJ cs v a8 hv aa;obtain ⟨dH,cu,ih,aY,c_⟩:=h.part a8 (by simp);rw [hv] at ih;cases ih;exact ⟨_,c_ c (aY.rA c aa)⟩
 rcases af with ⟨cs,af⟩ | ⟨aK,q,gJ,m,new,cs,af,rfl,aD⟩
 ·exact own af h1 aa
 ·obtain ⟨v,hv,aY⟩:=h.rel _ _ af;have sl:v=.slice a (gJ+m) cap:=by
   simp only [dx,hv,aK,walk,Option.some.injEq] at h1;exact h1
  obtain ⟨MT,e,b3,us,news,aY⟩:=aY.vO;by_cases fj:MT.ownBlock=some c
  ·obtain ⟨⟨a2,r3,bm,rfl⟩,_⟩:=aY.jo;exact own aD bm fj
  ·exact ⟨_,(aY.aH c).2 ⟨by rw [sl]; exact aa,fj⟩⟩
theorem cA.frame (h:cA w I T g Fs) {w':World}{I':a'}{T':Array Value}{g':aL}(cU:∀ t,g t≠none->T'[t]?=T[t]?) (aH:∀ t c,Fs t c->w'.heap[c]?=w.heap[c]?)
  (bf:∀ c,I c->w'.heap[c]?=w.heap[c]?) (oE:∀ c,I c->I' c) (aP:∀ t x,g t=some x->g' t=some x) {x:ab}{v:Value}{F:a'}(aY:R w I (dy w T g) x v F)
  (ma:∀ c,F c->w'.heap[c]?=w.heap[c]?):R w' I' (dy w' T' g') x v F :=
 aY.frame bf oE (λ_ _ hr=>h.GF cU aH aP hr) ma
theorem cA.w2 (h:cA w I T g Fs) {w':World}{I':a'}{T':Array Value}{g':aL}(cU:∀ t,g t≠none->T'[t]?=T[t]?) (aH:∀ t c,Fs t c->w'.heap[c]?=w.heap[c]?)
  (bf:∀ c,I c->w'.heap[c]?=w.heap[c]?) (oE:∀ c,I c->I' c) (aP:∀ t x,g t=some x->g' t=some x) {x:ab}{v:Value}{F:a'}(aY:jB w I (dy w T g) x v F)
  (ma:∀ c,F c->w'.heap[c]?=w.heap[c]?):jB w' I' (dy w' T' g') x v F :=
 aY.frame bf oE (λ_ _ hr=>h.GF cU aH aP hr) (λ_ _ _ _ hr c aa=>by obtain ⟨t,ar⟩:=h.EZ hr c aa; exact aH t c ar) ma
def cR (g:aL) (d:Nat) (x:ab):aL:=λt=>if t=d then some x else g t
def wv (Fs:Nat->a') (d:Nat) (F:a'):Nat->a':=λt=>if t=d then F else Fs t
theorem Rz {d:Nat}{x:ab}(aO:g d=none):∀ t y,g t=some y->cR g d x t=some y:=by
 intro t y ao;unfold cR;split
 ·rename_i h; subst h; rw [aO] at ao; cases ao
 ·exact ao
end
end Go.Own
namespace Go.Own
open Go
variable [cE]
theorem RE (w:World):∀ (p:List Nat) (v:Value) (k:Nat),walk w v (p++[k])=(walk w v p).bind λu=>child w u k
 | [],v,k=>by simp [walk]; cases child w v k <;> rfl
 | j::p,v,k=>by
  simp only [List.cons_append,walk];cases child w v j with
  | none=>rfl
  | some u=>exact RE w p u k
theorem MN:∀ (p:List Nat) (x:ab) (k:Nat),x.at (p++[k])=(x.at p).bind λy=>y.kids[k]?
 | [],x,k=>by simp [ab.at]; cases x.kids[k]? <;> rfl
 | j::p,x,k=>by
  simp only [List.cons_append,ab.at];cases x.kids[j]? with
  | none=>rfl
  | some u=>exact MN p u k
theorem tL (g:aL) (p:Place) (k:Nat):bG g (p.push k)=(bG g p).bind λy=>y.kids[k]?:=by
 unfold bG Place.push;cases g p.root with
 | none=>rfl
 | some x=>simp [MN]
theorem yB (w:World) (T:Array Value) (p:Place) (k:Nat):dx w T (p.push k)=(dx w T p).bind λu=>child w u k:=by
 unfold dx Place.push;cases T[p.root]? with
 | none=>rfl
 | some x=>simp [RE]
def fW:Nat->Place->ab->ab
 | _,p,.own z n _=>.a6 z p n
 | _,p,.obj (_::_)=>.ptr p 0
 | _,_,.obj []=>.dead
 | _,_,.bL ..=>.dead
 | _,_,.self _=>.dead
 | _,_,.hS ..=>.dead
 | _,p,.mp _=>.gj p
 | d+1,p,.agg cs=>.agg (cs.mapIdx λi x=>fW d (p.push i) x)
 | d+1,p,.bS cs=>.bS (cs.mapIdx λi x=>fW d (p.push i) x)
 | 0,_,.agg _=>.dead
 | 0,_,.bS _=>.dead
 | _,_,x=>x
def pg (t:Nat):ab->ab
 | .bL z _ n m _=>.a6 z ⟨t,[]⟩ (n+m)
 | x=>fW 2 ⟨t,[]⟩ x
def kq:Value->ab
 | .slice none 0 0=>.aQ
 | .agg _=>.dead
 | .tuple _=>.dead
 | v=>.lit v
def ofConst:Value->ab
 | .agg vs=>if vs.all Value.oneCell' then .agg (vs.toList.map kq) else .dead
 | .tuple _=>.dead
 | v=>kq v
def bs (g:aL):Operand->Option ab
 | .tmp t=>(g t).map (pg t)
 | .const v=>some (ofConst v)
 | .func f=>some (.cD (.func f) [] [])
 | .global _=>none
theorem QD {d:Nat}{p:Place}{x:ab}{j:Nat × Nat}:fW d p x≠.self j:=by
 cases x with
 | obj cs=>cases d <;> cases cs <;> simp [fW]
 | _=>cases d <;> simp [fW]
theorem Z' {t:Nat}{x:ab}:sR (pg t x):=by
 intro cs h k j hk;cases x with
 | obj cs=>cases cs <;> simp [pg,fW] at h
 | agg l =>
  simp only [pg,fW,ab.agg.injEq] at h;subst h;rw [List.getElem?_mapIdx] at hk;cases J:l[k]? with
  | none=>rw [J] at hk; cases hk
  | some x=>rw [J] at hk; simp only [Option.map_some,Option.some.injEq] at hk; exact QD hk
 | _=>simp [pg,fW] at h
theorem P1 (v:Value) (j:Nat × Nat):kq v≠.self j:=by
 unfold kq; split <;> simp
theorem P2 (vs:List Value):tB (vs.map kq):=λk j=>by
 rw [List.getElem?_map];cases vs[k]? with
 | none=>simp
 | some v=>simp [P1]
theorem K3 {g:aL}{o:Operand}{x:ab}(h:bs g o=some x):sR x:=by
 cases o with
 | tmp t =>
  simp only [bs] at h;cases ar:g t with
  | none=>rw [ar] at h; cases h
  | some y=>rw [ar] at h; simp only [Option.map_some,Option.some.injEq] at h; exact h ▸ Z'
 | const v =>
  simp only [bs,Option.some.injEq] at h;subst h;intro cs h;unfold ofConst at h
  split at h
  ·split at h
   ·cases h; exact P2 _
   ·cases h
  ·cases h
  ·unfold kq at h; split at h <;> cases h
 | func f=>simp only [bs,Option.some.injEq] at h; subst h; intro cs h; cases h
 | global n=>cases h
theorem Zo {g:aL}{o:Operand}{x:ab}(h:bs g o=some x) (j:Nat × Nat):x≠.self j:=by
 cases o with
 | tmp t =>
  simp only [bs] at h;cases ar:g t with
  | none=>rw [ar] at h; cases h
  | some y =>
   rw [ar] at h;simp only [Option.map_some,Option.some.injEq] at h;subst h;cases y with
   | bL=>simp [pg]
   | _=>exact QD
 | const v =>
  simp only [bs,Option.some.injEq] at h;subst h;unfold ofConst;split
  ·split <;> simp
  ·simp
  ·exact P1 _ _
 | func f=>simp only [bs,Option.some.injEq] at h; subst h; simp
 | global n=>cases h
abbrev cj:a':=λ_=>False
section
variable {w:World}{I:a'}{T:Array Value}{g:aL}{Fs:Nat->a'}
theorem R.empty {ρ:ab->Value->Prop}{x:ab}{v:Value}{F:a'}(h:R w I ρ x v F) (aH:∀ c,¬ F c):R w I ρ x v cj:=h.zr λc=>⟨λaa=>aH c aa,λaa=>aa.elim⟩
theorem GD:∀ (d:Nat) {p:Place}{x:ab}{v:Value}{F:a'},bG g p=some x->dx w T p=some v->R w I (dy w T g) x v F->R w I (dy w T g) (fW d p x) v cj:=by
 intro d
 induction d with
 | zero =>
  intro p x v F aq hv aY;cases aY with
  | lit ah aH=>exact .lit ah λ_ h=>h
  | aQ aH=>exact .aQ λ_ h=>h
  | dead aH=>exact .dead λ_ h=>h
  | mq aH=>exact .dead λ_ h=>h
  | hS=>exact .dead λ_ h=>h
  | ref J hr aH=>cases x <;> simp [ab.isRef] at J <;> exact .ref rfl hr λ_ h=>h
  | mp=>exact .ref rfl ⟨⟨_,hv,rfl⟩,⟨_,aq⟩⟩ λ_ h=>h
  | imp aH bf aW a8=>exact .imp (λ_ h=>h) bf aW a8
  | gG aH=>exact .gG λ_ h=>h
  | bd aH lO bf aw ah h1 aa hr=>exact .bd (λ_ h=>h) lO bf aw ah h1 aa hr
  | cw aH bf aw h1 aa hr=>exact .cw (λ_ h=>h) bf aw h1 aa hr
  | own aW ah h1 hr aO au aH =>
   have Cw:=R.own (I:=I) (ρ:=dy w T g) aW ah h1 hr aO au aH;obtain ⟨a,cap,rfl,aB,_⟩:=Cw.oa;exact .ref rfl ⟨⟨a,_,cap,hv,rfl,Nat.le_refl _⟩,.inl ⟨_,_,aq,Nat.le_refl _⟩⟩ λ_ h=>h
  | @obj cs b e arr bV _ aW ah h1 hr aO au aH =>
   cases cs with
   | nil=>exact .dead λ_ h=>h
   | cons c cs=>exact .ref rfl ⟨⟨_,_,hv,rfl,rfl⟩,⟨_,aq,0,0,_,.inr rfl,by simp⟩⟩ λ_ h=>h
  | agg=>exact .dead λ_ h=>h
  | bS=>exact .dead λ_ h=>h
  | cD aH h1 af iU hz=>exact .cD (λ_ h=>h) h1 af iU hz
 | succ d aM =>
  intro p x v F aq hv aY;cases aY with
  | lit ah aH=>exact .lit ah λ_ h=>h
  | aQ aH=>exact .aQ λ_ h=>h
  | dead aH=>exact .dead λ_ h=>h
  | mq aH=>exact .dead λ_ h=>h
  | hS=>exact .dead λ_ h=>h
  | ref J hr aH=>cases x <;> simp [ab.isRef] at J <;> exact .ref rfl hr λ_ h=>h
  | mp=>exact .ref rfl ⟨⟨_,hv,rfl⟩,⟨_,aq⟩⟩ λ_ h=>h
  | imp aH bf aW a8=>exact .imp (λ_ h=>h) bf aW a8
  | gG aH=>exact .gG λ_ h=>h
  | bd aH lO bf aw ah h1 aa hr=>exact .bd (λ_ h=>h) lO bf aw ah h1 aa hr
  | cw aH bf aw h1 aa hr=>exact .cw (λ_ h=>h) bf aw h1 aa hr
  | own aW ah h1 hr aO au aH =>
   have Cw:=R.own (I:=I) (ρ:=dy w T g) aW ah h1 hr aO au aH;obtain ⟨a,cap,rfl,aB,_⟩:=Cw.oa;exact .ref rfl ⟨⟨a,_,cap,hv,rfl,Nat.le_refl _⟩,.inl ⟨_,_,aq,Nat.le_refl _⟩⟩ λ_ h=>h
  | @obj cs b e arr bV _ aW ah h1 hr aO au aH =>
   cases cs with
   | nil=>exact .dead λ_ h=>h
   | cons c cs=>exact .ref rfl ⟨⟨_,_,hv,rfl,rfl⟩,⟨_,aq,0,0,_,.inr rfl,by simp⟩⟩ λ_ h=>h
  | @agg cs vs bV _ ah h1 hr aO aH =>
   refine .agg (Fs:=λ_=>cj) (by simpa using ah) h1 ?_ (λ_ _ _ _ _ h=>h.elim) (λc=>⟨λh=>h.elim,λ⟨_,_,h⟩=>h⟩);intro k y u ao hu;rw [List.getElem?_mapIdx] at ao;cases hk:cs[k]? with
   | none=>rw [hk] at ao; cases ao
   | some z =>
    rw [hk] at ao;cases ao;exact aM (by rw [tL,aq]; exact hk) (by rw [yB,hv]; exact hu) (hr k z u hk hu)
  | @bS cs vs bV _ ah hr aO aH =>
   refine .bS (Fs:=λ_=>cj) (by simpa using ah) ?_ (λ_ _ _ _ _ h=>h.elim) (λc=>⟨λh=>h.elim,λ⟨_,_,h⟩=>h⟩);intro k y u ao hu;rw [List.getElem?_mapIdx] at ao;cases hk:cs[k]? with
   | none=>rw [hk] at ao; cases ao
   | some z =>
    rw [hk] at ao;cases ao;exact aM (by rw [tL,aq]; exact hk) (by rw [yB,hv]; exact hu) (hr k z u hk hu)
  | cD aH h1 af iU hz=>exact .cD (λ_ h=>h) h1 af iU hz
theorem Dh {ρ:ab->Value->Prop}(v:Value):R w I ρ (kq v) v cj:=by
 unfold kq;split
 ·exact .aQ λ_ h=>h
 ·exact .dead λ_ h=>h
 ·exact .dead λ_ h=>h
 ·rename_i h1 af aD;refine .lit ?_ λ_ h=>h;cases v <;> first | rfl | (exact absurd rfl (af _)) | (exact absurd rfl (aD _))
theorem Zg {ρ:ab->Value->Prop}(v:Value):R w I ρ (ofConst v) v cj:=by
 unfold ofConst;split
 ·rename_i vs;split
  ·rename_i hg;refine .agg (Fs:=λ_=>cj) (by simp) (λk u hu=>?_) ?_ (λ_ _ _ _ _ h=>h.elim) (λc=>⟨λh=>h.elim,λ⟨_,_,h⟩=>h⟩)
   ·exact Array.all_eq_true_iff_forall_mem.1 hg u (Array.mem_of_getElem? hu)
   ·intro k x u J hu;simp only [List.getElem?_map,Array.getElem?_toList,hu,Option.map_some,Option.some.injEq] at J;subst J;exact Dh u
  ·exact .dead λ_ h=>h
 ·exact .dead λ_ h=>h
 ·exact Dh v
theorem j9 (h:cA w I T g Fs) {x:Operand}{y:ab}(ao:bs g x=some y) {a:Act}(aI:a.tmps=T):R w I (dy w T g) y (a.eval x) cj:=by
 cases x with
 | tmp t =>
  simp only [bs] at ao;cases J:g t with
  | none=>rw [J] at ao; cases ao
  | some z =>
   rw [J] at ao;simp only [Option.map_some,Option.some.injEq] at ao;obtain ⟨v,hv,aY⟩:=h.rel t z J;have sb:a.eval (.tmp t)=v:=by simp [Act.eval,aI,hv]
   rw [sb];have aq:bG g ⟨t,[]⟩=some z:=by simp [bG,J,ab.at]
   have zT:dx w T ⟨t,[]⟩=some v:=by simp [dx,hv,walk]
   subst ao;cases aY with
   | tree aY =>
    cases z with
    | bL=>exact aY.lv.elim
    | _=>exact GD 2 aq zT aY
   | @bL kt n m p new v bv e b3 us news _ aY =>
    simp only [pg];have:∃ a cap,v=.slice a (n+m) cap:=by
     obtain ⟨_,af⟩:=aY.mN;rcases af with ⟨af,aD⟩ | ⟨b,cap,cur,af,_⟩
     ·exact ⟨none,0,by rw [af]; congr 1; omega⟩
     ·exact ⟨_,cap,af⟩
    obtain ⟨b',cap,rfl⟩:=this;exact .ref rfl ⟨⟨b',_,cap,zT,rfl,Nat.le_refl _⟩,.inr ⟨rfl,p,n,m,new,J,rfl⟩⟩ λ_ h=>h
 | const v=>simp only [bs,Option.some.injEq] at ao; subst ao; exact Zg v
 | global n=>simp [bs] at ao
 | func f =>
  simp only [bs,Option.some.injEq] at ao;subst ao;exact .cD (λ_ h=>h) rfl rfl (by simp) (by simp)
end
def j0 (P:Program) (t:TypeId):Bool :=
 match P.underlying t,P.info? t with
 | some (.struct _),_=>false
 | some (.array ..),_=>false
 | some _,some i=>i.size == 1
 | _,_=>false
def h3 (P:Program) (t:TypeId) (k:Nat):Bool :=
 match P.underlying t,P.info? t with
 | some (.struct _),some i=>i.size == k
 | some (.array ..),some i=>i.size == k
 | _,_=>false
def fk (P:Program) (t e:TypeId) (z:Nat):Bool :=
 match P.underlying t,P.info? e with
 | some (.slice b1),some i=>b1 == e&&i.size == z
 | _,_=>false
def zc (P:Program) (t e:TypeId) (n z:Nat):Bool :=
 match P.underlying t,P.info? e with
 | some (.array cr b1),some i=>cr == n&&b1 == e&&i.size == z
 | _,_=>false
def sI (P:Program) (t:TypeId):Bool :=
 match P.underlying t with
 | some .string=>true
 | _=>false
def zm (P:Program) (s d:TypeId):Bool :=
 match P.underlying s,P.underlying d with
 | some (.slice e),some .string=>match P.underlying e with
  | some (.int .u8)=>true
  | _=>false
 | _,_=>false
def iR (P:Program) (s:TypeId) (f off:Nat) (t:TypeId):Bool :=
 match P.underlying s with
 | some (.struct fs) =>
  match fs[f]? with
  | some fd=>fd.offset == off&&fd.type == t&&(match P.info? t with | some i=>i.size != 0 | none=>false)
  | none=>false
 | _=>false
section
variable {P:Program}{w:World}
theorem H_ {t:TypeId}(h:j0 P t=true):(isAgg t).run P w=.ok false w/\(sizeOf t).run P w=.ok 1 w:=by
 unfold j0 at h;cases hu:P.underlying t with
 | none=>simp [hu] at h
 | some d =>
  cases hi:P.info? t with
  | none=>cases d <;> simp [hu,hi] at h
  | some i=>cases d <;> simp [hu,hi] at h <;> simp [isAgg,run_underlying hu,sizeOf,typeInfo,hi,h]
theorem ER {t:TypeId}{k:Nat}(h:h3 P t k=true):(isAgg t).run P w=.ok true w/\(sizeOf t).run P w=.ok k w:=by
 unfold h3 at h;cases hu:P.underlying t with
 | none=>simp [hu] at h
 | some d =>
  cases hi:P.info? t with
  | none=>cases d <;> simp [hu,hi] at h
  | some i=>cases d <;> simp [hu,hi] at h <;> simp [isAgg,run_underlying hu,sizeOf,typeInfo,hi,h]
theorem rL {t e:TypeId}{z:Nat}(h:fk P t e z=true):P.underlying t=some (.slice e)/\P.elem t=e/\(sizeOf e).run P w=.ok z w:=by
 unfold fk at h;cases hu:P.underlying t with
 | none=>simp [hu] at h
 | some d =>
  cases hi:P.info? e with
  | none=>cases d <;> simp [hu,hi] at h
  | some i =>
   cases d <;> simp [hu,hi] at h;obtain ⟨rfl,h⟩:=h;exact ⟨rfl,by simp [Program.elem,hu],by simp [sizeOf,typeInfo,hi,h]⟩
theorem MG {t e:TypeId}{n z:Nat}(h:zc P t e n z=true):P.underlying t=some (.array n e)/\(sizeOf e).run P w=.ok z w:=by
 unfold zc at h;cases hu:P.underlying t with
 | none=>simp [hu] at h
 | some d =>
  cases hi:P.info? e with
  | none=>cases d <;> simp [hu,hi] at h
  | some i =>
   cases d <;> simp [hu,hi] at h;obtain ⟨⟨rfl,rfl⟩,h⟩:=h;exact ⟨rfl,by simp [sizeOf,typeInfo,hi,h]⟩
theorem MU {s d:TypeId}(h:zm P s d=true):∃ e,P.underlying s=some (.slice e)/\P.underlying e=some (.int .u8)/\P.underlying d=some .string:=by
 unfold zm at h
 split at h
 ·rename_i e h1 af
  split at h
  ·rename_i aD;exact ⟨e,h1,aD,af⟩
  ·cases h
 ·cases h
theorem LD {t:TypeId}(h:sI P t=true):P.underlying t=some .string:=by
 unfold sI at h;cases hu:P.underlying t with
 | none=>simp [hu] at h
 | some d=>cases d <;> simp [hu] at h; rfl
theorem IF {s:TypeId}{f off:Nat}{t:TypeId}(h:iR P s f off t=true):∃ fs fd,P.underlying s=some (.struct fs)/\fs[f]?=some fd/\fd.offset=off/\fd.type=t/\∃ i,P.info? t=some i/\i.size≠0:=by
 unfold iR at h;cases hu:P.underlying s with
 | none=>simp [hu] at h
 | some d =>
  cases d <;> simp [hu] at h;rename_i fs;cases aT:fs[f]? with
  | none=>simp [aT] at h
  | some fd =>
   simp [aT] at h;obtain ⟨⟨h1,af⟩,aD⟩:=h;cases hi:P.info? t with
   | none=>simp [hi] at aD
   | some i=>simp [hi] at aD; exact ⟨fs,fd,rfl,aT,h1,af,i,rfl,aD⟩
theorem add_eq (b o k:Nat):(⟨b,o,none⟩:Addr).add k=⟨b,o+k,none⟩:=by
 unfold Addr.add;split
 ·rename_i h; subst h; rfl
 ·rfl
theorem QN {s:TypeId}{f off:Nat}{t:TypeId}(h:iR P s f off t=true) (b o:Nat):(Instr.fieldAt s (.pointer (some ⟨b,o,none⟩)) f).run P w=.ok (.pointer (some ⟨b,o+off,none⟩)) w:=by
 obtain ⟨fs,fd,hu,aT,rfl,rfl,i,hi,aK⟩:=IF h;simp [Instr.fieldAt,run_underlying hu,aT,Instr.sureAddr,fieldPlace,sizeOf,typeInfo,hi,aK,add_eq]
theorem QP {t:TypeId}(h:j0 P t=true) {a:Addr}{v:Value}(aa:w.cell? a=some v):(Instr.loadAt t (.pointer (some a))).run P w=.ok v w:=by
 obtain ⟨h1,af⟩:=H_ (w:=w) h;simp [Instr.loadAt,Instr.sureAddr,loadVar,h1,aa]
theorem QO {t:TypeId}{k:Nat}(h:h3 P t k=true) {b o:Nat}{vs:List Value}(ah:vs.length=k) (aa:∀ j v,vs[j]?=some v->w.cell? ⟨b,o+j,none⟩=some v) :
  (Instr.loadAt t (.pointer (some ⟨b,o,none⟩))).run P w=.ok (.agg vs.toArray) w:=by
 obtain ⟨h1,af⟩:=ER (w:=w) h;have:=run_loadCells_list (P:=P) w ⟨b,o,none⟩ vs (λj v ag=>by rw [add_eq]; exact aa j v ag);rw [ah] at this;simp [Instr.loadAt,Instr.sureAddr,loadVar,h1,af,this]
end
section
variable {w:World}{I:a'}{ρ:ab->Value->Prop}{v:Value}{F:a'}
theorem R.hB {a:Value}(h:R w I ρ (.lit a) v F):v=a/\a.oneCell'=true:=by
 cases h with
 | lit hv=>exact ⟨rfl,hv⟩
 | ref J=>simp [ab.isRef] at J
theorem R.ru (h:R w I ρ .aQ v F):v=.slice none 0 0:=by
 cases h with
 | aQ=>rfl
 | ref J=>simp [ab.isRef] at J
theorem R.n3 {p:Place}{k:Nat}(h:R w I ρ (.ptr p k) v F):ρ (.ptr p k) v:=by
 cases h with
 | ref J h=>exact h
theorem R.n2 {z:Nat}{p:Place}{n:Nat}(h:R w I ρ (.a6 z p n) v F):ρ (.a6 z p n) v:=by
 cases h with
 | ref J h=>exact h
theorem R.zW {z:Nat}{p:Place}{lo n:Nat}(h:R w I ρ (.sub z p lo n) v F):ρ (.sub z p lo n) v:=by
 cases h with
 | ref J h=>exact h
theorem R.zV {z n:Nat}{cs:List ab}(h:R w I ρ (.bd z n cs) v F):∃ a cap,v=.slice a n cap/\n<=cap/\cs.length=n * z /\
  (cs≠[]\/0<n->∃ (ad:Addr) (us:Nat->Value),a=some ad/\I ad.block/\ad.spot=none/\(∀ (k:Nat) (x:ab),cs[k]?=some x->(us k).oneCell'=true)/\(∀ (k:Nat) (x:ab),cs[k]?=some x->w.cell? ⟨ad.block,ad.off+k,none⟩=some (us k))/\∀ (k:Nat) (x:ab),cs[k]?=some x->R w I ρ x (us k) cj):=by
 cases h with
 | @gG _ cap a=>exact ⟨a,cap,rfl,Nat.zero_le _,by simp,λh=>by simp at h⟩
 | @bd _ _ cap _ ad us _ aH lO bf aw ah h1 aa hr=>exact ⟨_,cap,rfl,lO,ah,λ_=>⟨ad,us,rfl,bf,aw,h1,aa,hr⟩⟩
 | ref J=>simp [ab.isRef] at J
theorem R.xI {cs:List ab}(h:R w I ρ (.cw cs) v F):∃ (ad:Addr) (us:Nat->Value),v=.pointer (some ad)/\I ad.block/\ad.spot=none/\(∀ (k:Nat) (x:ab),cs[k]?=some x->(us k).oneCell'=true)/\(∀ (k:Nat) (x:ab),cs[k]?=some x->w.cell? ⟨ad.block,ad.off+k,none⟩=some (us k))/\∀ (k:Nat) (x:ab),cs[k]?=some x->R w I ρ x (us k) cj:=by
 cases h with
 | @cw _ ad us _ aH bf aw h1 aa hr=>exact ⟨ad,us,rfl,bf,aw,h1,aa,hr⟩
 | ref J=>simp [ab.isRef] at J
theorem R.CY {cs:List ab}(h:R w I ρ (.agg cs) v F) (aH:∀ c,¬ F c):∃ vs:Array Value,v=.agg vs/\cs.length=vs.size/\(∀ (k:Nat) (u:Value),vs[k]?=some u->u.oneCell'=true)/\∀ (k:Nat) (x:ab) (u:Value),cs[k]?=some x->vs[k]?=some u->R w I ρ x u cj:=by
 cases h with
 | @agg _ vs Fs _ ah h1 hr aO oD=>exact ⟨vs,rfl,ah,h1,λk x u J hu=>(hr k x u J hu).empty λc aa=>aH c ((oD c).2 ⟨k,(List.getElem?_eq_some_iff.1 J).1,aa⟩)⟩
 | ref J=>simp [ab.isRef] at J
theorem R.YP {cs:List ab}(h:R w I ρ (.bS cs) v F) (aH:∀ c,¬ F c):∃ vs:Array Value,v=.tuple vs/\cs.length=vs.size/\∀ (k:Nat) (x:ab) (u:Value),cs[k]?=some x->vs[k]?=some u->R w I ρ x u cj:=by
 cases h with
 | @bS _ vs Fs _ ah hr aO oD=>exact ⟨vs,rfl,ah,λk x u J hu=>(hr k x u J hu).empty λc aa=>aH c ((oD c).2 ⟨k,(List.getElem?_eq_some_iff.1 J).1,aa⟩)⟩
 | ref J=>simp [ab.isRef] at J
theorem R.node {y:ab}{z n:Nat}{cs:List ab}(h:R w I ρ y v F) (ao:y=.own z n cs\/y=.obj cs) {k:Nat}{x:ab}(hk:cs[k]?=some x) :
  ∃ b u,addrOf v=some ⟨b,0,none⟩/\w.cell? ⟨b,k,none⟩=some u/\child w v k=some u/\u.oneCell'=true/\∃ bH,R w I ρ x u bH:=by
 rcases ao with rfl | rfl
 ·cases h with
  | @own _ _ _ _ e us Fs _ aW ah h1 hr aO au aH =>
   have aN:k<cs.length:=(List.getElem?_eq_some_iff.1 hk).1;have hu:us[k]?=some us[k]:=List.getElem?_eq_getElem (ah ▸ aN);have nZ:=pf aW hu;obtain ⟨ny,af⟩:=aW;rcases af with ⟨rfl,rfl⟩ | ⟨b,cap,cur,rfl,aP,bP,rest⟩
   ·grind
   ·exact ⟨b,_,rfl,by simpa [child] using nZ,nZ,h1 k _ hu,Fs k,hr k x _ hk hu⟩
  | ref J=>simp [ab.isRef] at J
 ·cases h with
  | @obj _ b e arr Fs _ aW ah h1 hr aO au aH =>
   have aN:k<cs.length:=(List.getElem?_eq_some_iff.1 hk).1;have hu:arr[k]?=some arr[k]:=Array.getElem?_eq_getElem (ah ▸ aN);exact ⟨b,_,rfl,by simp [World.cell?,aW,hu],by simp [child,World.cell?,aW,hu],h1 k _ hu,Fs k,hr k x _ hk hu⟩
  | ref J=>simp [ab.isRef] at J
end
def p2 (g:aL) (d:Nat):Option Operand->Nat->Prop
 | none,j=>j=d
 | some o,j=>∃ k,bs g o=some (.lit (.int k (j:Int)))
inductive df (P:Program) (g:aL):Op->TypeId->ab->Prop
 | move {x:Operand}{ty:TypeId}{y:ab}(J:bs g x=some y):df P g (.move x) ty y
 | assign {x:Operand}{ty:TypeId}{y:ab}(J:bs g x=some y):df P g (.assign x) ty y
 | pick {c a b:Operand}{ty:TypeId}{t:Bool}{r:ab}(aa:bs g c=some (.lit (.bool t))) (hr:bs g (if t then a else b)=some r):df P g (.pick c a b) ty r
 | Ga {x:Operand}{ty:TypeId}{p:Place}{k:Nat}(J:bs g x=some (.ptr p k)):df P g (.nilCheck x) ty (.ptr p k)
 | qE {x:Operand}{ty:TypeId}{cs:List ab}(J:bs g x=some (.cw cs)):df P g (.nilCheck x) ty (.cw cs)
 | BQ {x:Operand}{ty s t:TypeId}{f off:Nat}{p:Place}{k:Nat}(J:bs g x=some (.ptr p k)) (aT:iR P s f off t=true) (c7:gA g (.ptr p (k+off))):df P g (.fieldAddr s x f) ty (.ptr p (k+off))
 | E_ {x:Operand}{ty s t:TypeId}{f off:Nat}{cs:List ab}(J:bs g x=some (.cw cs)) (aT:iR P s f off t=true):df P g (.fieldAddr s x f) ty (.cw (cs.drop off))
 | IC {x:Operand}{ty s t:TypeId}{f off:Nat}{cs:List ab}{y:ab}(J:bs g x=some (.agg cs)) (aT:iR P s f off t=true) (ar:j0 P t=true) (ao:cs[off]?=some y):df P g (.field s x f) ty y
 | ID {x:Operand}{ty s t:TypeId}{f off k:Nat}{cs:List ab}(J:bs g x=some (.agg cs)) (aT:iR P s f off t=true) (ar:h3 P t k=true) (hk:off+k<=cs.length):df P g (.field s x f) ty (.agg ((cs.drop off).take k))
 | FL {x i:Operand}{ty t e:TypeId}{z n:Nat}{cs:List ab}{n5:IntKind}{j:Nat}(J:bs g x=some (.bd z n cs)) (hi:bs g i=some (.lit (.int n5 (j:Int)))) (ar:fk P t e z=true) (ag:j<n):df P g (.indexAddr t x i) ty (.cw (cs.drop (j * z)))
 | FK {x i:Operand}{ty t e:TypeId}{z n:Nat}{p:Place}{n5:IntKind}{j:Nat}(J:bs g x=some (.a6 z p n)) (hi:bs g i=some (.lit (.int n5 (j:Int)))) (ar:fk P t e z=true) (ag:j<n) (c7:gA g (.ptr p (j * z))):df P g (.indexAddr t x i) ty (.ptr p (j * z))
 | Ko {x i:Operand}{ty t e:TypeId}{z lo n:Nat}{p:Place}{n5:IntKind}{j:Nat}(J:bs g x=some (.sub z p lo n)) (hi:bs g i=some (.lit (.int n5 (j:Int)))) (ar:fk P t e z=true) (ag:j<n) (c7:gA g (.ptr p ((lo+j) * z))):df P g (.indexAddr t x i) ty (.ptr p ((lo+j) * z))
 | FJ {x i:Operand}{ty t e:TypeId}{n z k:Nat}{p:Place}{n5:IntKind}{j:Nat}(J:bs g x=some (.ptr p k)) (hi:bs g i=some (.lit (.int n5 (j:Int)))) (ar:zc P t e n z=true) (ag:j<n) (c7:gA g (.ptr p (k+j * z))):df P g (.indexAddr t x i) ty (.ptr p (k+j * z))
 | Kn {x i:Operand}{ty t e:TypeId}{n z:Nat}{cs:List ab}{n5:IntKind}{j:Nat}(J:bs g x=some (.cw cs)) (hi:bs g i=some (.lit (.int n5 (j:Int)))) (ar:zc P t e n z=true) (ag:j<n):df P g (.indexAddr t x i) ty (.cw (cs.drop (j * z)))
 | F1 {x:Operand}{ty t:TypeId}{c:ab}{cs:List ab}(J:bs g x=some (.cw (c::cs))) (ar:j0 P t=true):df P g (.load t x) ty c
 | F2 {x:Operand}{ty t:TypeId}{k:Nat}{cs:List ab}(J:bs g x=some (.cw cs)) (ar:h3 P t k=true) (hk:k<=cs.length):df P g (.load t x) ty (.agg (cs.take k))
 | C9 {x:Operand}{ty t:TypeId}{p:Place}{k:Nat}{y:ab}(J:bs g x=some (.ptr p k)) (ar:j0 P t=true) (ao:bG g (p.push k)=some y):df P g (.load t x) ty (fW 0 (p.push k) y)
 | z6 {x:Operand}{ty t:TypeId}{p:Place}{k m z n:Nat}{y:ab}{cs:List ab}(J:bs g x=some (.ptr p k)) (ar:h3 P t m=true) (ao:bG g p=some y) (aa:y=.own z n cs\/y=.obj cs) (hm:k+m<=cs.length):df P g (.load t x) ty (.agg (((cs.drop k).take m).mapIdx λi x=>fW 0 (p.push (k+i)) x))
 | FM {x i:Operand}{ty t:TypeId}{s:ByteArray}{n5:IntKind}{j:Nat}{b:UInt8}(J:bs g x=some (.lit (.string s))) (hi:bs g i=some (.lit (.int n5 (j:Int)))) (ar:sI P t=true) (au:s[j]?=some b):df P g (.index t x i) ty (.lit (.int .u8 b.toNat))
 | bin {op:BinOp}{x y:Operand}{ty t t2:TypeId}{a b v:Value}(J:bs g x=some (.lit a)) (ao:bs g y=some (.lit b)) (hv:v.oneCell'=true) (hr:∀ w,(do eqGuard op t x y a b; binOp op t a b:Sem Value).run P w=.ok v w):df P g (.binOp op t x y t2) ty (.lit v)
 | Bt {op:BinOp}{x y:Operand}{ty t t2:TypeId}{az c8:List Value}{v:Value}(J:bs g x=some (.agg (az.map .lit))) (ao:bs g y=some (.agg (c8.map .lit))) (hv:v.oneCell'=true) (hr:∀ w,(do eqGuard op t x y (.agg az.toArray) (.agg c8.toArray); binOp op t (.agg az.toArray) (.agg c8.toArray):Sem Value).run P w=.ok v w):df P g (.binOp op t x y t2) ty (.lit v)
 | un {op:UnOp}{x:Operand}{ty t:TypeId}{a v:Value}(J:bs g x=some (.lit a)) (hv:v.oneCell'=true) (hr:∀ w,(Op.unary op a).run P w=.ok v w):df P g (.unOp op t x) ty (.lit v)
 | conv {x:Operand}{ty s d:TypeId}{a v:Value}(J:bs g x=some (.lit a)) (hv:v.oneCell'=true) (hr:∀ w,(convert s d a).run P w=.ok v w):df P g (.convert s d x) ty (.lit v)
 | Ib {x:Operand}{ty s d:TypeId}{n N:Nat}{p:Place}{cs:List ab}{xs:List Int}(J:bs g x=some (.a6 1 p n)) (aq:bG g p=some (.own 1 N cs)) (aB:n<=N) (eS:cs.take n=xs.map λb=>.lit (.int .u8 b)) (ar:zm P s d=true):df P g (.convert s d x) ty (.lit (.string (strOfNums xs)))
 | E6 {x:Operand}{ty s d:TypeId}{n:Nat}{xs:List Int}(J:bs g x=some (.bd 1 n (xs.map λb=>.lit (.int .u8 b)))) (ar:zm P s d=true):df P g (.convert s d x) ty (.lit (.string (strOfNums xs)))
 | Iz {xs:Array Operand}{fM:Array TypeId}{ty:TypeId}{f:FuncId}{vs:List Value}{v:Value}(J:xs.toList.map (bs g)=vs.map λv=>some (.lit v)) (hv:v.oneCell'=true)
   (hr:∀ w,(callFunc f vs.toArray).run P w=.ok (.value v) w):df P g (.call { callee:=.value (.func f),args:=xs,argTypes:=fM }) ty (.lit v)
 | E8 {x:Operand}{ty:TypeId}{i:Nat}{cs:List ab}{y:ab}(J:bs g x=some (.bS cs)) (ao:cs[i]?=some y):df P g (.extract x i) ty y
 | Ea {x:Operand}{lo hi:Option Operand}{ty t e:TypeId}{z n l h:Nat}{cs:List ab}(J:bs g x=some (.bd z n cs)) (ah:p2 g 0 lo l) (bP:p2 g n hi h) (ar:fk P t e z=true) (s6:l<=h) (aB:h<=n):df P g (.slice t x lo hi none) ty (.bd z (h - l) ((cs.drop (l * z)).take ((h - l) * z)))
 | GX {x:Operand}{lo hi:Option Operand}{ty t e:TypeId}{z n h:Nat}{p:Place}(J:bs g x=some (.a6 z p n)) (ah:p2 g 0 lo 0) (bP:p2 g n hi h) (ar:fk P t e z=true) (aB:h<=n) (c7:gA g (.a6 z p h)):df P g (.slice t x lo hi none) ty (.a6 z p h)
 | GW {x:Operand}{lo hi:Option Operand}{ty t e:TypeId}{z n l h:Nat}{p:Place}(J:bs g x=some (.a6 z p n)) (ah:p2 g 0 lo l) (bP:p2 g n hi h) (ar:fk P t e z=true) (s6:l<=h) (aB:h<=n) (c7:gA g (.sub z p l (h - l))):df P g (.slice t x lo hi none) ty (.sub z p l (h - l))
 | GY {x:Operand}{lo hi:Option Operand}{ty t:TypeId}{l h:Nat}{s:ByteArray}(J:bs g x=some (.lit (.string s))) (ah:p2 g 0 lo l) (bP:p2 g s.size hi h) (ar:sI P t=true) (s6:l<=h) (aB:h<=s.size):df P g (.slice t x lo hi none) ty (.lit (.string (s.extract l h)))
 | FY {x:Operand}{ty t e:TypeId}{z bR n:Nat}{cs:List ab}(J:bs g x=some (.bd z n cs)) (ar:fk P t e bR=true):df P g (.call { callee:=.builtin .len,args:=#[x],argTypes:=#[t] }) ty (.lit (.int .i64 n))
 | FX {x:Operand}{ty t e:TypeId}{z bR n:Nat}{p:Place}(J:bs g x=some (.a6 z p n)) (ar:fk P t e bR=true):df P g (.call { callee:=.builtin .len,args:=#[x],argTypes:=#[t] }) ty (.lit (.int .i64 n))
 | KK {x:Operand}{ty t e:TypeId}{z bR lo n:Nat}{p:Place}(J:bs g x=some (.sub z p lo n)) (ar:fk P t e bR=true):df P g (.call { callee:=.builtin .len,args:=#[x],argTypes:=#[t] }) ty (.lit (.int .i64 n))
 | KJ {x:Operand}{ty t e:TypeId}{bR:Nat}(J:bs g x=some .aQ) (ar:fk P t e bR=true):df P g (.call { callee:=.builtin .len,args:=#[x],argTypes:=#[t] }) ty (.lit (.int .i64 0))
 | lits {b:Builtin}{xs:Array Operand}{fM:Array TypeId}{ty:TypeId}{vs:List Value}{v:Value}(J:xs.toList.map (bs g)=vs.map λv=>some (.lit v)) (hv:v.oneCell'=true)
   (hr:∀ w (cs:Array Bool),(builtin b fM ty cs vs.toArray).run P w=.ok (.value v) w):df P g (.call { callee:=.builtin b,args:=xs,argTypes:=fM }) ty (.lit v)
 | F0 {x y:Operand}{ty t:TypeId}{p:Place}{q:Array MapEntry->Nat->Prop}{ok:Bool}{Y X:ab}{oO V:Value}(J:bs g x=some (.gj p)) (aq:bG g p=some (.mp q)) (ao:bs g y=some Y)
   (cZ:∀ (w:World) (I:a') (ρ:ab->Value->Prop) (v:Value),R w I ρ Y v cj->v=oO) (aY:∀ (w:World) (I:a') (ρ:ab->Value->Prop),R w I ρ X V cj)
   (hr:∀ (w:World) (b:Nat) (es:Array MapEntry) (clock:Nat),w.heap[b]?=some (.map es clock)->q es clock->(Instr.lookup t (.map (some b)) oO ok).run P w=.ok V w):df P g (.lookup t x y ok) ty X
 | KM {x y:Operand}{ty t:TypeId}{q:Array MapEntry->Nat->Prop}{ok:Bool}{Y X:ab}{oO V:Value}(J:bs g x=some (.imp q)) (ao:bs g y=some Y)
   (cZ:∀ (w:World) (I:a') (ρ:ab->Value->Prop) (v:Value),R w I ρ Y v cj->v=oO) (aY:∀ (w:World) (I:a') (ρ:ab->Value->Prop),R w I ρ X V cj)
   (hr:∀ (w:World) (b:Nat) (es:Array MapEntry) (clock:Nat),w.heap[b]?=some (.map es clock)->q es clock->(Instr.lookup t (.map (some b)) oO ok).run P w=.ok V w):df P g (.lookup t x y ok) ty X
theorem R.Pk {w:World}{I:a'}{ρ:ab->Value->Prop}{p:Place}{v:Value}{F:a'}(h:R w I ρ (.gj p) v F):ρ (.gj p) v:=by
 cases h with
 | ref _ h _=>exact h
theorem R.Kr {w:World}{I:a'}{ρ:ab->Value->Prop}{q:Array MapEntry->Nat->Prop}{v:Value}{F:a'}(h:R w I ρ (.mp q) v F):∃ b es clock,v=.map (some b)/\w.heap[b]?=some (.map es clock)/\q es clock/\∀ c,F c↔c=b:=by
 cases h with
 | ref J=>simp [ab.isRef] at J
 | mp aW a8 aH=>exact ⟨_,_,_,rfl,aW,a8,aH⟩
theorem R.YO {w:World}{I:a'}{ρ:ab->Value->Prop}{q:Array MapEntry->Nat->Prop}{v:Value}{F:a'}(h:R w I ρ (.imp q) v F):∃ b es clock,v=.map (some b)/\w.heap[b]?=some (.map es clock)/\q es clock:=by
 cases h with
 | ref J=>simp [ab.isRef] at J
 | imp _ _ aW a8=>exact ⟨_,_,_,rfl,aW,a8⟩
section
variable {P:Program}{w:World}{I:a'}{T:Array Value}{g:aL}{Fs:Nat->a'}
theorem p2.sound (h:cA w I T g Fs) {d:Nat}{x:Option Operand}{j:Nat}(au:p2 g d x j) {a:Act}(aI:a.tmps=T):(x.map a.eval=none/\j=d)\/∃ k,x.map a.eval=some (.int k (j:Int)):=by
 cases x with
 | none=>exact .inl ⟨rfl,au⟩
 | some o =>
  obtain ⟨k,hk⟩:=au;exact .inr ⟨k,by rw [Option.map_some,(j9 h hk aI).hB.1]⟩
theorem GL {len cap l h:Nat}{lo hi:Option Value}(ah:(lo=none/\l=0)\/∃ k,lo=some (.int k (l:Int))) (bP:(hi=none/\h=len)\/∃ k,hi=some (.int k (h:Int))) (b:Bool) (s6:l<=h) (aa:h<=cap) :
  (Instr.sliceBounds b len cap lo hi none).run P w=.ok (l,h,cap) w:=by
 rcases ah with ⟨rfl,rfl⟩ | ⟨k,rfl⟩ <;> rcases bP with ⟨rfl,rfl⟩ | ⟨j8,rfl⟩ <;> simp [Instr.sliceBounds,Instr.sliceBound,asIntOf,s6,aa]
theorem PB (h:cA w I T g Fs) {a:Act}(aI:a.tmps=T):∀ (xs:List Operand) (vs:List Value),xs.map (bs g)=vs.map (λv=>some (.lit v))->xs.map a.eval=vs
 | [],[],_=>rfl
 | [],_::_,h=>by simp at h
 | _::_,[],h=>by simp at h
 | x::xs,v::vs,J=>by
  simp only [List.map_cons,List.cons.injEq] at J;rw [List.map_cons,(j9 h J.1 aI).hB.1,PB h aI xs vs J.2]
theorem Mw {w:World}{I:a'}{ρ:ab->Value->Prop}{v:Value}{az:List Value}
  (h:∃ vs:Array Value,v=.agg vs/\(az.map ab.lit).length=vs.size/\(∀ (k:Nat) (u:Value),vs[k]?=some u->u.oneCell'=true)/\∀ (k:Nat) (x:ab) (u:Value),(az.map ab.lit)[k]?=some x->vs[k]?=some u->R w I ρ x u cj):v=.agg az.toArray:=by
 obtain ⟨vs,rfl,ah,-,hr⟩:=h;congr 1;apply Array.ext (by simpa using ah.symm);intro i h1 af;have aD:i<az.length:=by simpa using af
 have:=(hr i (.lit az[i]) vs[i] (by simp [aD]) (Array.getElem?_eq_getElem h1)).hB.1
 grind
theorem df.sound (h:cA w I T g Fs) {a:Act}(aI:a.tmps=T) {o:Oper}{kO:ab}(aq:df P g o.op o.type kO) :
  ∃ v,(execOp a.eval o).run P w=.ok (.value v) w/\R w I (dy w T g) kO v cj:=by
 obtain ⟨dst,op,ty,pos,after,guard⟩:=o;simp only at aq;have fJ:∀ {x:Operand}{y:ab},bs g x=some y->R w I (dy w T g) y (a.eval x) cj:=λao=>j9 h ao aI;have no:∀ c,¬ cj c:=λ_ h=>h;cases aq with
 | move J=>exact ⟨_,by simp [execOp],fJ J⟩
 | assign J=>exact ⟨_,by simp [execOp],fJ J⟩
 | @pick c x y _ t r aa hr =>
  have vr:=(fJ aa).hB.1;refine ⟨_,?_,fJ hr⟩;simp [execOp,vr,asBool]
  grind
 | @Ga x _ p k J =>
  have hr:=fJ J;obtain ⟨⟨u,ad,h1,af,aD⟩,bm⟩:=hr.n3
  simp_all [execOp]
 | @qE x _ cs J =>
  have hr:=fJ J;obtain ⟨ad,us,aD,_⟩:=hr.xI
  simp_all [execOp]
 | @BQ x _ s t f off p k J aT c7 =>
  obtain ⟨⟨u,ad,h1,af,aD⟩,bm⟩:=(fJ J).n3;refine ⟨.pointer (some ⟨ad.block,ad.off+k+off,none⟩),by simp [execOp,aD,QN aT],.ref rfl ⟨⟨u,ad,h1,af,by rw [Nat.add_assoc]⟩,c7⟩ no⟩
 | @E_ x _ s t f off cs J aT =>
  obtain ⟨ad,us,aD,bf,aw,hh,aa,hr⟩:=(fJ J).xI;obtain ⟨b,o,sp⟩:=ad;simp only at aw;subst aw;refine ⟨.pointer (some ⟨b,o+off,none⟩),by simp [execOp,aD,QN aT],.cw (us:=λk=>us (off+k)) no bf rfl (λk x hk=>hh _ x (by rwa [List.getElem?_drop] at hk)) (λk x hk=>?_) λk x hk=>?_⟩
  ·grind
  grind
 | @IC x _ s t f off cs y J aT ar ao =>
  obtain ⟨vs,aD,ah,hh,hr⟩:=(fJ J).CY no;obtain ⟨fs,fd,hu,Jt,rfl,rfl,i,hi,aK⟩:=IF aT;have hk:fd.offset<cs.length:=(List.getElem?_eq_some_iff.1 ao).1;have hv:vs[fd.offset]?=some vs[fd.offset]:=Array.getElem?_eq_getElem (ah ▸ hk);refine ⟨_,?_,hr _ kO _ ao hv⟩;simp [execOp,aD,Instr.field,run_underlying hu,Jt,asAgg,part,(H_ (w:=w) ar).1,hv]
 | @ID x _ s t f off k cs J aT ar hk =>
  obtain ⟨vs,aD,ah,hh,hr⟩:=(fJ J).CY no;obtain ⟨fs,fd,hu,Jt,rfl,rfl,i,hi,aK⟩:=IF aT;refine ⟨.agg (vs.extract fd.offset (fd.offset+k)),?_,.agg (Fs:=λ_=>cj) (by simp [ah]; omega) (λj u hU=>by
   rw [Array.getElem?_extract] at hU
   grind) (λj y u ao hU=>?_) (λ_ _ _ _ _ h=>h.elim) (λc=>⟨λh=>h.elim,λ⟨_,_,h⟩=>h⟩)⟩
  ·simp [execOp,aD,Instr.field,run_underlying hu,Jt,asAgg,part,(ER (w:=w) ar).1,(ER (w:=w) ar).2]
  grind
 | @FL x i _ t e z n cs n5 j J hi ar ag =>
  obtain ⟨hu,he,aX⟩:=rL (w:=w) ar;obtain ⟨mF,cap,aD,_,ah,hm⟩:=(fJ J).zV;obtain ⟨ad,us,rfl,bf,aw,hh,aa,hr⟩:=hm (.inr (by omega));obtain ⟨b,o,sp⟩:=ad;simp only at aw;subst aw;have s5:=(fJ hi).hB.1;refine ⟨.pointer (some ⟨b,o+j * z,none⟩),?_,.cw (us:=λk=>us (j * z+k)) no bf rfl (λk x hk=>hh _ x (by rwa [List.getElem?_drop] at hk)) (λk x hk=>?_) λk x hk=>?_⟩
  ·simp [execOp,aD,s5,Instr.indexAt,run_underlying hu,asIntOf,ag,aX,add_eq]
  ·grind
  grind
 | @FK x i _ t e z n p n5 j J hi ar ag c7 =>
  obtain ⟨hu,he,aX⟩:=rL (w:=w) ar;obtain ⟨⟨mF,N,cap,h1,af,aD⟩,bm⟩:=(fJ J).n2;have s5:=(fJ hi).hB.1;obtain ⟨y,ao,kt,eW,cs,ec,aN⟩:=c7;obtain ⟨v,cu,hv,ds,_⟩:=h.part ao (by rcases ec with rfl | rfl <;> simp);rw [h1] at hv;cases hv;obtain ⟨b,u,fx,mJ,_,_⟩:=ds.node ec (List.getElem?_eq_getElem aN);cases mF with
  | none=>simp [addrOf] at fx
  | some ad =>
   simp only [addrOf,Option.some.injEq] at fx;subst fx;refine ⟨.pointer (some ⟨b,j * z,none⟩),?_,.ref rfl ⟨⟨_,_,h1,rfl,by simp⟩,y,ao,kt,eW,cs,ec,aN⟩ no⟩;simp [execOp,af,s5,Instr.indexAt,run_underlying hu,asIntOf,ag,aX,add_eq]
 | @Ko x i _ t e z lo n p n5 j J hi ar ag c7 =>
  obtain ⟨hu,he,aX⟩:=rL (w:=w) ar;obtain ⟨⟨mF,N,cap,b',nq,h1,af,_,aD,b7⟩,bm⟩:=(fJ J).zW;obtain ⟨ad,rfl,rfl⟩:=b7 (by omega);have s5:=(fJ hi).hB.1;obtain ⟨y,ao,kt,eW,cs,ec,aN⟩:=c7;obtain ⟨v,cu,hv,ds,_⟩:=h.part ao (by rcases ec with rfl | rfl <;> simp);rw [h1] at hv;cases hv;obtain ⟨b,u,fx,mJ,_,_⟩:=ds.node ec (List.getElem?_eq_getElem aN);simp only [addrOf,Option.some.injEq] at fx;subst fx;refine ⟨.pointer (some ⟨b,(lo+j) * z,none⟩),?_,.ref rfl ⟨⟨_,_,h1,rfl,by simp⟩,y,ao,kt,eW,cs,ec,aN⟩ no⟩;simp [execOp,af,s5,Instr.indexAt,run_underlying hu,asIntOf,ag,aX,add_eq,Nat.add_mul]
 | @FJ x i _ t e n z k p n5 j J hi ar ag c7 =>
  obtain ⟨hu,aX⟩:=MG (w:=w) ar;obtain ⟨⟨u,ad,h1,af,aD⟩,bm⟩:=(fJ J).n3;have s5:=(fJ hi).hB.1;refine ⟨.pointer (some ⟨ad.block,ad.off+k+j * z,none⟩),?_,.ref rfl ⟨⟨u,ad,h1,af,by rw [Nat.add_assoc]⟩,c7⟩ no⟩;simp [execOp,aD,s5,Instr.indexAt,run_underlying hu,Instr.sureAddr,asIntOf,ag,aX,add_eq]
 | @Kn x i _ t e n z cs n5 j J hi ar ag =>
  obtain ⟨hu,aX⟩:=MG (w:=w) ar;obtain ⟨ad,us,aD,bf,aw,hh,aa,hr⟩:=(fJ J).xI;obtain ⟨b,o,sp⟩:=ad;simp only at aw;subst aw;have s5:=(fJ hi).hB.1;refine ⟨.pointer (some ⟨b,o+j * z,none⟩),?_,.cw (us:=λk=>us (j * z+k)) no bf rfl (λk x hk=>hh _ x (by rwa [List.getElem?_drop] at hk)) (λk x hk=>?_) λk x hk=>?_⟩
  ·simp [execOp,aD,s5,Instr.indexAt,run_underlying hu,Instr.sureAddr,asIntOf,ag,aX,add_eq]
  ·grind
  grind
 | @F1 x _ t c cs J ar =>
  obtain ⟨ad,us,aD,bf,aw,hh,aa,hr⟩:=(fJ J).xI;obtain ⟨b,o,sp⟩:=ad;simp only at aw;subst aw;have aK:w.cell? ⟨b,o,none⟩=some (us 0):=by simpa using aa 0 kO rfl
  simp_all [execOp,QP]
 | @F2 x _ t k cs J ar hk =>
  obtain ⟨ad,us,aD,bf,aw,hh,aa,hr⟩:=(fJ J).xI;obtain ⟨b,o,sp⟩:=ad;simp only at aw;subst aw;have Xy:∀ j v,((List.range k).map us)[j]?=some v->w.cell? ⟨b,o+j,none⟩=some v:=by
   grind
  refine ⟨.agg ((List.range k).map us).toArray,by simp [execOp,aD,QO ar (by simp) Xy],.agg (Fs:=λ_=>cj) (by simp; omega) (λj u hU=>by
   grind) (λj y u ao hU=>?_) (λ_ _ _ _ _ h=>h.elim) (λc=>⟨λh=>h.elim,λ⟨_,_,h⟩=>h⟩)⟩
  grind
 | @C9 x _ t p k y J ar ao =>
  obtain ⟨⟨u,ad,h1,af,aD⟩,bm⟩:=(fJ J).n3;rw [tL] at ao;cases aB:bG g p with
  | none=>rw [aB] at ao; cases ao
  | some nd =>
   rw [aB] at ao;simp only [Option.bind_some] at ao;obtain ⟨y',o9,kt,eW,cs,ec,aN⟩:=bm;rw [aB] at o9;cases o9;obtain ⟨v,cu,hv,ds,c_⟩:=h.part aB (by rcases ec with rfl | rfl <;> simp);rw [h1] at hv;cases hv;have ig:cs[k]?=some y:=by rcases ec with rfl | rfl <;> simpa [ab.kids] using ao
   obtain ⟨b,gq,fx,mJ,nZ,hh,bH,ki⟩:=ds.node ec ig;rw [fx] at af;cases af;refine ⟨gq,by simp only [execOp,aD]; simp [QP ar mJ],GD 0 (by rw [tL,aB]; exact ao) (by rw [yB,h1]; exact nZ) ki⟩
 | @z6 x _ t p k m z n y cs J ar ao ec hm =>
  obtain ⟨⟨u,ad,h1,af,aD⟩,bm⟩:=(fJ J).n3;obtain ⟨v,cu,hv,ds,c_⟩:=h.part ao (by rcases ec with rfl | rfl <;> simp);rw [h1] at hv;cases hv;have vq:∃ b,ad=⟨b,0,none⟩:=by
   obtain ⟨y',o9,kt,eW,cs',O',aN⟩:=bm;rw [ao] at o9;cases o9;have:cs'=cs:=by rcases ec with rfl | rfl <;> rcases O' with bP | bP <;> cases bP <;> rfl
   subst this;obtain ⟨b,gq,fx,_⟩:=ds.node O' (List.getElem?_eq_getElem aN)
   grind
  obtain ⟨b,rfl⟩:=vq;have JH:y.kids=cs:=by rcases ec with rfl | rfl <;> rfl
  have cell:∀ j,j<m->∃ gq,w.cell? ⟨b,k+j,none⟩=some gq/\gq.oneCell'=true/\∃ k',cs[k+j]?=some k'/\R w I (dy w T g) (fW 0 (p.push (k+j)) k') gq cj:=by
   intro j ag;have e8:cs[k+j]?=some cs[k+j]:=List.getElem?_eq_getElem (by omega);obtain ⟨dR,gq,fx,mJ,nZ,hh,bH,ki⟩:=ds.node ec e8;rw [af] at fx;cases fx;exact ⟨gq,mJ,hh,_,e8,GD 0 (by rw [tL,ao]; simp [JH]) (by rw [yB,h1]; exact nZ) ki⟩
  have hex:∃ us:List Value,us.length=m/\∀ j v,us[j]?=some v->w.cell? ⟨b,k+j,none⟩=some v:=by
   refine ⟨(List.range m).map λj=>(w.cell? ⟨b,k+j,none⟩).getD undef,by simp,?_⟩
   grind
  obtain ⟨us,oK,X5⟩:=hex;refine ⟨.agg us.toArray,by simp only [execOp,aD]; simp [QO ar oK (b:=b) (o:=k) X5],.agg (Fs:=λ_=>cj) (by simp; omega) (λj u hU=>by
   grind) (λj iM u ta hU=>?_) (λ_ _ _ _ _ h=>h.elim) (λc=>⟨λh=>h.elim,λ⟨_,_,h⟩=>h⟩)⟩
  grind
 | @Ib x _ s d n N p cs xs J aq aB eS ar =>
  obtain ⟨e,aw,he,aO⟩:=MU ar;obtain ⟨⟨mF,kx,cap,h1,af,aD⟩,_⟩:=(fJ J).n2;obtain ⟨v,cu,hv,ds,c_⟩:=h.part aq (by simp);rw [h1] at hv;cases hv;have hK:(cs.take n).length=n:=by
   obtain ⟨_,_,_,ah⟩:=ds.oa
   grind
  have hlen:xs.length=n:=by rw [<- hK,eS,List.length_map]
  refine ⟨_,?_,.lit rfl no⟩;obtain ⟨_,_,h9,_,_,o8,sj⟩:=ds.oa;cases h9;cases mF with
  | none =>
   have aK:n=0:=by
    grind
   have:xs=[]:=List.eq_nil_of_length_eq_zero (hlen.trans aK);subst this;have hr:=run_convert_bytes_nil (P:=P) (w:=w) s e aw he n cap d aO;simp [execOp,af,hr];rfl
  | some ad =>
   obtain ⟨b,o,sp⟩:=ad;obtain ⟨rfl,rfl⟩:=o8 _ rfl;have hr:=run_convert_bytes_arg (P:=P) w s e aw he b 0 n cap xs hlen (λi hi=>by
    have Jn:(cs.take n)[i]?=some (.lit (.int .u8 (xs.getD i 0))):=by
     grind
    have W3:cs[i]?=some (.lit (.int .u8 (xs.getD i 0))):=by
     grind
    obtain ⟨dR,u,fx,mJ,_,_,bH,ki⟩:=ds.node (.inl rfl) W3;simp only [addrOf,Option.some.injEq,Addr.mk.injEq,and_true] at fx;subst fx;rw [Nat.zero_add,mJ,ki.hB.1]) d aO
   simp_all [execOp]
 | @E6 x _ s d n xs J ar =>
  obtain ⟨e,aw,he,aO⟩:=MU ar;have aY:=fJ J;generalize sb:a.eval x=v at aY;refine ⟨_,?_,.lit rfl no⟩;generalize eS:(xs.map λb=>ab.lit (.int .u8 b))=cs at aY;cases aY with
  | ref J=>simp [ab.isRef] at J
  | @gG _ cap mF _ aH =>
   have:xs=[]:=by simpa using eS
   subst this;cases mF with
   | none =>
    have hr:=run_convert_bytes_nil (P:=P) (w:=w) s e aw he 0 cap d aO;simp [execOp,sb,hr];rfl
   | some ad =>
    have ah:(loadCells ad 0).run P w=.ok (([]:List Int).map (Value.int .u8)).toArray w:=by
     have:=run_loadCells_list (P:=P) w ad [] (λj v ag=>by simp at ag)
     grind
    have hr:=run_bytesToString w ad 0 cap [] ah;have aa:=run_convert_bytes_string (P:=P) w s d e (some ad) 0 cap aw he aO;rw [hr] at aa;simp [execOp,sb,aa];rfl
  | @bd _ _ cap _ ad us _ aH lO bf j4 ah h1 aa hr =>
   obtain ⟨b,o,sp⟩:=ad;simp only at j4;subst j4;have hlen:xs.length=n:=by rw [<- List.length_map (f:=λb=>ab.lit (.int .u8 b)),eS,ah,Nat.mul_one]
   have dG:=run_convert_bytes_arg (P:=P) w s e aw he b o n cap xs hlen (λi hi=>by
    have Jn:cs[i]?=some (.lit (.int .u8 (xs.getD i 0))):=by
     grind
    have:=aa i _ Jn;simp only at this;rw [this,(hr i _ Jn).hB.1]) d aO
   simp_all [execOp]
 | @Iz xs fM _ f vs v J hv hr =>
  refine ⟨v,?_,.lit hv no⟩;have xz:xs.map a.eval=vs.toArray:=by
   apply Array.toList_inj.1;apply List.ext_getElem?;intro k;have:=congrArg (·[k]?) J;simp only [List.getElem?_map] at this;rw [Array.toList_map,List.getElem?_map];cases hk:xs.toList[k]? with
   | none =>
    grind
   | some o =>
    rw [hk] at this;cases hv:vs[k]? with
    | none=>rw [hv] at this; cases this
    | some v =>
     rw [hv] at this;simp only [Option.map_some,Option.some.injEq] at this ⊢;rw [(fJ this).hB.1]
  have aT:a.eval (.func f)=.func (.func f) #[] #[]:=rfl
  simp_all [execOp,resolve,Deferred.ofValue,invoke]
 | @FM x i _ t s n5 j b J hi ar au =>
  have rm:=(fJ J).hB.1;have s5:=(fJ hi).hB.1;refine ⟨.int .u8 b.toNat,?_,.lit rfl no⟩
  simp_all [execOp,Instr.index,run_underlying,LD,asIntOf]
 | @bin op x y _ t t2 b' b v J ao hv hr =>
  have h1:=(fJ J).hB.1;have af:=(fJ ao).hB.1;refine ⟨v,?_,.lit hv no⟩
  grind [execOp,Sem.run_bind,Result.andThen_ok,Sem.run_pure]
 | @Bt op x y _ t t2 az c8 v J ao hv hr =>
  have h1:=Mw ((fJ J).CY no);have af:=Mw ((fJ ao).CY no);refine ⟨v,?_,.lit hv no⟩
  grind [execOp,Sem.run_bind,Result.andThen_ok,Sem.run_pure]
 | @un op x _ t b' v J hv hr =>
  have h1:=(fJ J).hB.1;exact ⟨v,by simp [execOp,h1,hr],.lit hv no⟩
 | @conv x _ s d b' v J hv hr =>
  have h1:=(fJ J).hB.1;exact ⟨v,by simp [execOp,h1,hr],.lit hv no⟩
 | @E8 x _ i cs y J ao =>
  obtain ⟨vs,aD,ah,hr⟩:=(fJ J).YP no;have hk:i<cs.length:=(List.getElem?_eq_some_iff.1 ao).1;have hv:vs[i]?=some vs[i]:=Array.getElem?_eq_getElem (ah ▸ hk);exact ⟨_,by simp [execOp,aD,Instr.extract,hv],hr _ kO _ ao hv⟩
 | @Ea x lo hi _ t e z n l bP cs J ah vv ar s6 aB =>
  obtain ⟨hu,he,aX⟩:=rL (w:=w) ar;obtain ⟨mF,cap,aD,lO,hlen,hm⟩:=(fJ J).zV;have au:=GL (P:=P) (w:=w) (len:=n) (cap:=cap) (ah.sound h aI) (vv.sound h aI) true s6 (by omega);have hj:(execOp a.eval { dst:=dst,op:=.slice t x lo hi none,type:=ty,pos:=pos,after:=after,guard:=guard }).run P w=.ok (.value (sliced mF l bP cap z)) w:=by
   simp_all [execOp,Instr.sliceAt,run_underlying,Instr.slice,sliced]
  refine ⟨_,hj,?_⟩;by_cases aK:bP - l=0
  ·rw [aK];simp only [Nat.zero_mul,List.take_zero,sliced,aK];exact .gG no
  ·obtain ⟨ad,us,rfl,bf,aw,hh,aa,hr⟩:=hm (.inr (by omega));obtain ⟨b,o,sp⟩:=ad;simp only at aw;subst aw;have hK:cap≠l:=by omega
   simp only [sliced,hK,if_false,Option.map_some,add_eq];have Cn:((cs.drop (l * z)).take ((bP - l) * z)).length=(bP - l) * z:=by
    rw [List.length_take,List.length_drop,hlen];have:(bP - l) * z+l * z<=n * z:=by rw [<- Nat.add_mul]; exact Nat.mul_le_mul_right _ (by omega)
    omega
   refine .bd (us:=λk=>us (l * z+k)) no (by omega) bf rfl Cn (λk x hk=>hh (l * z+k) x (by
    grind)) (λk x hk=>?_) λk x hk=>?_
   ·grind
   grind
 | @GX x lo hi _ t e z n bP p J ah vv ar aB c7 =>
  obtain ⟨hu,he,aX⟩:=rL (w:=w) ar;obtain ⟨⟨mF,N,cap,h1,af,aD⟩,bm⟩:=(fJ J).n2;have lO:N<=cap:=by
   rcases bm with ⟨kx,cs,b7,dp⟩ | ⟨aK,q,gJ,m,new,b7,dp⟩
   ·obtain ⟨v,cu,hv,ds,_⟩:=h.part b7 (by simp);rw [h1] at hv;obtain ⟨_,r3,Ox,hle,_⟩:=ds.oa
    grind
   ·obtain ⟨v,hv,ds⟩:=h.rel _ _ b7;simp only [dx,hv,aK,walk,Option.some.injEq] at h1;subst h1;obtain ⟨bv,b1,b3,us,news,ds⟩:=ds.vO;obtain ⟨_,mN⟩:=ds.mN
    grind
  have au:=GL (P:=P) (w:=w) (len:=n) (cap:=cap) (ah.sound h aI) (vv.sound h aI) true (Nat.zero_le _) (by omega);refine ⟨.slice mF bP cap,?_,.ref rfl ⟨⟨mF,N,cap,h1,rfl,by omega⟩,c7⟩ no⟩
  simp_all [execOp,Instr.sliceAt,run_underlying,Instr.slice,Addr.add]
 | @GW x lo hi _ t e z n l bP p J ah vv ar s6 aB c7 =>
  obtain ⟨hu,he,aX⟩:=rL (w:=w) ar;obtain ⟨⟨mF,N,cap,h1,af,aD⟩,bm⟩:=(fJ J).n2;obtain ⟨kx,cs,b7,dp⟩:=c7;obtain ⟨v,cu,hv,ds,_⟩:=h.part b7 (by simp);rw [h1] at hv;obtain ⟨a2,r3,Ox,hle,hlen,o8,sj⟩:=ds.oa;rw [Ox] at hv;cases hv;have au:=GL (P:=P) (w:=w) (len:=n) (cap:=cap) (ah.sound h aI) (vv.sound h aI) true s6 (by omega);refine ⟨sliced mF l bP cap z,?_,.ref rfl ⟨⟨mF,_,cap,_,_,h1,rfl,by omega,by omega,λpO=>?_⟩,_,cs,b7,dp⟩ no⟩
  ·simp_all [execOp,Instr.sliceAt,run_underlying,Instr.slice,sliced]
  ·have aw:=sj (by omega);cases mF with
   | none=>simp at aw
   | some ad =>
    obtain ⟨aK,iV⟩:=o8 ad rfl;obtain ⟨b,o,sp⟩:=ad
    grind [add_eq]
 | @GY x lo hi _ t l bP s J ah vv ar s6 aB =>
  have rm:=(fJ J).hB.1;have au:=GL (P:=P) (w:=w) (len:=s.size) (cap:=s.size) (ah.sound h aI) (vv.sound h aI) false s6 aB;exact ⟨.string (s.extract l bP),by simp [execOp,rm,Instr.sliceAt,run_underlying (LD ar),Instr.slice,au],.lit rfl no⟩
 | @FY x _ t e z bR n cs J ar =>
  obtain ⟨hu,he,aX⟩:=rL (w:=w) ar;obtain ⟨mF,cap,aD,_⟩:=(fJ J).zV;exact ⟨_,by simp [execOp,resolve,invoke,builtin,aD,Builtin.len_,run_underlying hu,goInt],.lit rfl no⟩
 | @FX x _ t e z bR n p J ar =>
  obtain ⟨hu,he,aX⟩:=rL (w:=w) ar;obtain ⟨⟨mF,N,cap,h1,af,aD⟩,bm⟩:=(fJ J).n2;exact ⟨_,by simp [execOp,resolve,invoke,builtin,af,Builtin.len_,run_underlying hu,goInt],.lit rfl no⟩
 | @KK x _ t e z bR lo n p J ar =>
  obtain ⟨hu,he,aX⟩:=rL (w:=w) ar;obtain ⟨⟨mF,N,cap,b',nq,h1,af,_,aD,b7⟩,bm⟩:=(fJ J).zW;exact ⟨_,by simp [execOp,resolve,invoke,builtin,af,Builtin.len_,run_underlying hu,goInt],.lit rfl no⟩
 | @KJ x _ t e bR J ar =>
  obtain ⟨hu,he,aX⟩:=rL (w:=w) ar;have af:=(fJ J).ru;exact ⟨_,by simp [execOp,resolve,invoke,builtin,af,Builtin.len_,run_underlying hu,goInt],.lit rfl no⟩
 | @lits b xs fM _ vs v J hv hr =>
  have qm:xs.map a.eval=vs.toArray:=by
   grind [Array.toList_map,PB]
  refine ⟨v,?_,.lit hv no⟩
  grind [execOp,resolve,invoke]
 | @F0 x y _ t p q ok Y _ oO V J aq ao cZ aY hr =>
  obtain ⟨⟨b,au,hv⟩,_⟩:=(fJ J).Pk;obtain ⟨dH,cu,ih,ds,_⟩:=h.part aq (by simp);rw [au] at ih;cases ih;obtain ⟨dR,es,clock,e,aW,a8,_⟩:=ds.Kr;cases e;refine ⟨V,?_,aY _ _ _⟩;simp [execOp,hv,cZ _ _ _ _ (fJ ao),hr w _ _ _ aW a8]
 | @KM x y _ t q ok Y _ oO V J ao cZ aY hr =>
  obtain ⟨b,es,clock,hv,aW,a8⟩:=(fJ J).YO;refine ⟨V,?_,aY _ _ _⟩;simp [execOp,hv,cZ _ _ _ _ (fJ ao),hr w _ _ _ aW a8]
end
structure Fr (w w':World) (U:a'):Prop where
 os:w'.os=w.os
 tape:w'.tape=w.tape
 output:w'.output=w.output
 size:w.heap.size<=w'.heap.size
 block:∀ b,b<w.heap.size->¬ U b->w'.heap[b]?=w.heap[b]?
 dL:∀ a,a.block<w.heap.size->¬ U a.block->w'.frozen? a=w.frozen? a
 zu:w.drawn<=w'.drawn
theorem Fr.refl (w:World) (U:a'):Fr w w U:=⟨rfl,rfl,rfl,Nat.le_refl _,λ_ _ _=>rfl,λ_ _ _=>rfl,Nat.le_refl _⟩
theorem Fr.mono {w w':World}{U EN:a'}(h:Fr w w' U) (fi:∀ b,b<w.heap.size->U b->EN b):Fr w w' EN:=⟨h.os,h.tape,h.output,h.size,λb au aB=>h.block b au λhu=>aB (fi b au hu),λa aI aB=>h.dL a aI λhu=>aB (fi _ aI hu),h.zu⟩
theorem Fr.trans {w ik hs:World}{U zb:a'}(h:Fr w ik U) (h1:Fr ik hs zb) (fi:∀ b,b<w.heap.size->zb b->U b):Fr w hs U :=
 ⟨h1.os.trans h.os,h1.tape.trans h.tape,h1.output.trans h.output,Nat.le_trans h.size h1.size,λb au aB=>(h1.block b (Nat.lt_of_lt_of_le au h.size) λhu=>aB (fi b au hu)).trans (h.block b au aB),λa aI aB=>(h1.dL a (Nat.lt_of_lt_of_le aI h.size) λhu=>aB (fi _ aI hu)).trans (h.dL a aI aB),Nat.le_trans h.zu h1.zu⟩
theorem alloc_old (w:World) (o:Obj) (k:Nat) (h:k<w.heap.size):(w.alloc o).heap[k]?=w.heap[k]?:=by
 show (w.heap.push o)[k]?=_;rw [Array.getElem?_push,if_neg (by omega)]
theorem q7 (w:World) (o:Obj):(w.alloc o).heap[w.heap.size]?=some o:=by
 show (w.heap.push o)[w.heap.size]?=_;simp
theorem IG (w:World) (arr:Array Value) (t:TypeId) (a:Addr):(w.alloc (.cells arr t (0,0))).frozen? a=w.frozen? a:=by
 unfold World.frozen?;by_cases h:a.block=w.heap.size
 ·rw [h,q7];have:w.heap[w.heap.size]?=none:=by simp
  rw [this];simp
 ·by_cases af:a.block<w.heap.size
  ·rw [alloc_old w _ _ af]
  ·have aD:(w.alloc (.cells arr t (0,0))).heap[a.block]?=none:=by
    show (w.heap.push _)[a.block]?=_;rw [Array.getElem?_eq_none];simp; omega
   have bm:w.heap[a.block]?=none:=Array.getElem?_eq_none (by omega);rw [aD,bm]
theorem NM (w:World) (g:Nat) (cs:Array Value) (a:Addr):(w.setRow g cs).frozen? a=w.frozen? a:=by
 unfold World.frozen? World.setRow;simp only [Array.getElem?_modify];by_cases h:g=a.block
 ·subst h;rw [if_pos rfl];cases bP:w.heap[a.block]? with
  | none=>rfl
  | some o=>cases o <;> rfl
 ·rw [if_neg h]
theorem Vv (w:World) (es:Array MapEntry) (n:Nat) (a:Addr):(w.alloc (.map es n)).frozen? a=w.frozen? a:=by
 unfold World.frozen?;by_cases h:a.block=w.heap.size
 ·rw [h,q7];have:w.heap[w.heap.size]?=none:=by simp
  rw [this]
 ·by_cases af:a.block<w.heap.size
  ·rw [alloc_old w _ _ af]
  ·have aD:(w.alloc (.map es n)).heap[a.block]?=none:=by
    show (w.heap.push _)[a.block]?=_;rw [Array.getElem?_eq_none];simp; omega
   have bm:w.heap[a.block]?=none:=Array.getElem?_eq_none (by omega);rw [aD,bm]
def Qp (o:Obj):Prop:=(∃ arr e,o=.cells arr e (0,0))\/∃ es n,o=.map es n
theorem Fr.alloc (w:World) (o:Obj) (U:a') (aW:Qp o):Fr w (w.alloc o) U:=by
 refine ⟨rfl,rfl,rfl,by simp,λb au _=>alloc_old w o b au,λa _ _=>?_,Nat.le_refl _⟩;rcases aW with ⟨arr,e,rfl⟩ | ⟨es,n,rfl⟩
 ·exact IG w arr e a
 ·exact Vv w es n a
theorem R.ZQ {w:World}{I:a'}{ρ:ab->Value->Prop}{x:ab}{v:Value}{F:a'}(h:R w I ρ x v F):∀ c,F c->∃ o,w.heap[c]?=some o/\Qp o:=by
 induction h with
 | hS aW _ aH =>
  intro c aa;have aa:=(aH c).1 aa;obtain ⟨_,bP⟩:=aW;rcases bP with ⟨rfl,_⟩ | ⟨b,cap,cur,rfl,_,hE,_⟩
  ·simp [Value.ownBlock] at aa
  ·simp only [Value.ownBlock,Option.some.injEq] at aa;subst aa;exact ⟨_,hE,.inl ⟨_,_,rfl⟩⟩
 | mp aW _ aH =>
  intro c aa;cases (aH c).1 aa;exact ⟨_,aW,.inr ⟨_,_,rfl⟩⟩
 | lit _ aH | aQ aH | dead aH | mq aH | ref _ _ aH | gG aH | bd aH | cw aH | cD aH | imp aH=>exact λc aa=>absurd aa (aH c)
 | own aW ah h1 hr aO au aH aM =>
  intro c aa;rcases (aH c).1 aa with h | ⟨k,hk,h⟩
  ·obtain ⟨_,bP⟩:=aW;rcases bP with ⟨rfl,_⟩ | ⟨b,cap,cur,rfl,_,hE,_⟩
   ·simp [Value.ownBlock] at h
   ·simp only [Value.ownBlock,Option.some.injEq] at h;subst h;exact ⟨_,hE,.inl ⟨_,_,rfl⟩⟩
  ·exact aM k _ _ (List.getElem?_eq_getElem hk) (List.getElem?_eq_getElem (ah ▸ hk)) c h
 | obj aW ah h1 hr aO au aH aw aM =>
  intro c aa;rcases (aH c).1 aa with rfl | ⟨k,hk,h⟩
  ·exact ⟨_,aW,.inl ⟨_,_,rfl⟩⟩
  ·exact aM k _ _ (List.getElem?_eq_getElem hk) (Array.getElem?_eq_getElem (ah ▸ hk)) c h
 | agg ah h1 hr aO aH aM =>
  intro c aa;obtain ⟨k,hk,h⟩:=(aH c).1 aa;exact aM k _ _ (List.getElem?_eq_getElem hk) (Array.getElem?_eq_getElem (ah ▸ hk)) c h
 | bS ah hr aO aH aM =>
  intro c aa;obtain ⟨k,hk,h⟩:=(aH c).1 aa;exact aM k _ _ (List.getElem?_eq_getElem hk) (Array.getElem?_eq_getElem (ah ▸ hk)) c h
section
variable {w:World}{I:a'}{T:Array Value}{g:aL}{Fs:Nat->a'}
theorem cA.iX (h:cA w I T g Fs):∀ t c,Fs t c->c<w.heap.size:=by
 intro t c aa;cases J:g t with
 | none=>exact absurd aa (h.k6 t J c)
 | some y=>obtain ⟨u,_,ds⟩:=h.rel t y J; exact ds.lt c aa
theorem cA.world (h:cA w I T g Fs) {w':World}(aH:∀ t c,Fs t c->w'.heap[c]?=w.heap[c]?) (bf:∀ c,I c->w'.heap[c]?=w.heap[c]?) (fz:w.heap.size<=w'.heap.size):cA w' I T g Fs :=
  ⟨λt x J=>by
    obtain ⟨v,hv,aY⟩:=h.rel t x J;exact ⟨v,hv,h.w2 (λ_ _=>rfl) aH bf (λ_ h=>h) (λ_ _ h=>h) aY λc aa=>aH t c aa⟩,
   h.k6,h.d_,h.bd,λc aa=>Nat.lt_of_lt_of_le (h.lt c aa) fz,h.rF,cE.keep h.hP bf λ_ h=>h⟩
theorem cA.alloc (h:cA w I T g Fs) (o:Obj):cA (w.alloc o) I T g Fs :=
 h.world (λt c aa=>alloc_old w o c (h.iX t c aa)) (λc aa=>alloc_old w o c (h.lt c aa)) (by simp)
theorem cA.uH (h:cA w I T g Fs) {d:Nat}{x:ab}{v:Value}{F:a'}(aO:g d=none) (Xa:d<T.size)
  (aY:jB w I (dy w T g) x v F) (se:∀ t c,F c->¬ Fs t c) (XC:∀ c,F c->¬ I c)
  (aq:∀ z p n m new,x=.bL z p n m new->∀ t bR cr m' cL,g t≠some (.bL bR p cr m' cL)) :
  cA w I (T.setIfInBounds d v) (cR g d x) (wv Fs d F):=by
 have cU:∀ t,g t≠none->(T.setIfInBounds d v)[t]?=T[t]?:=by
  intro t ar;rw [Array.getElem?_setIfInBounds_ne];rintro rfl; exact ar aO
 refine ⟨?_,?_,?_,?_,h.lt,?_,h.hP⟩
 ·intro t y ao;unfold cR at ao
  split at ao
  ·rename_i vF;subst vF;cases ao;exact ⟨v,by simp [Xa],by simpa [wv] using h.w2 cU (λ_ _ _=>rfl) (λ_ _=>rfl) (λ_ h=>h) (Rz aO) aY λ_ _=>rfl⟩
  ·rename_i vF;obtain ⟨u,hu,ds⟩:=h.rel t y ao;exact ⟨u,by rw [cU t (by rw [ao]; simp)]; exact hu,by simpa [wv,vF] using h.w2 cU (λ_ _ _=>rfl) (λ_ _=>rfl) (λ_ h=>h) (Rz aO) ds λ_ _=>rfl⟩
 ·intro t ar c;unfold cR at ar
  split at ar
  ·cases ar
  ·rename_i vF; simpa [wv,vF] using h.k6 t ar c
 ·intro t t' c aa ep;by_cases h1:t=d <;> by_cases af:t'=d <;> simp [wv,h1,af] at aa ep
  ·rw [h1,af]
  ·exact absurd ep (se t' c aa)
  ·exact absurd aa (se t c ep)
  ·exact h.d_ t t' c aa ep
 ·intro t c aa hi;by_cases h1:t=d <;> simp [wv,h1] at aa
  ·exact XC c aa hi
  ·exact h.bd t c aa hi
 ·intro t t' z p n m new bR cr m' cL h1 af;unfold cR at h1 af
  split at h1 <;> split at af
  ·rename_i a b; rw [a,b]
  ·cases h1; exact absurd af (aq z p n m new rfl t' bR cr m' cL)
  ·cases af; exact absurd h1 (aq bR p cr m' cL rfl t z n m new)
  ·exact h.rF _ _ _ _ _ _ _ _ _ _ _ h1 af
end
def jZ:ab->Option (List ab)
 | .agg cs=>some cs
 | .lit v=>some [.lit v]
 | .aQ=>some [.aQ]
 | .bd z n cs=>some [.bd z n cs]
 | .cw cs=>some [.cw cs]
 | .ptr p k=>some [.ptr p k]
 | .a6 z p n=>some [.a6 z p n]
 | .sub z p l n=>some [.sub z p l n]
 | .cD f a b=>some [.cD f a b]
 | _=>none
theorem MS {y:ab}{cs:List ab}(h:sR y) (aa:jZ y=some cs):tB cs:=by
 have one:∀ {x:ab},(∀ j,x≠.self j)->tB [x]:=λJ k j e=>by
  cases k with
  | zero=>simp only [List.getElem?_cons_zero,Option.some.injEq] at e; exact J j e
  | succ k=>simp at e
 cases y <;> simp only [Go.Own.jZ,Option.some.injEq,reduceCtorEq] at aa <;> subst aa
 all_goals first | exact h _ rfl | exact one (by simp)
theorem R.jZ {w:World}{I:a'}{ρ:ab->Value->Prop}{y:ab}{v:Value}{F:a'}(h:R w I ρ y v F) (aH:∀ c,¬ F c) (lU:∀ x v,x.isRef=true->ρ x v->v.oneCell'=true) {cs:List ab}(aa:jZ y=some cs) :
  cs.length=v.cells.size/\(∀ (k:Nat) (u:Value),v.cells[k]?=some u->u.oneCell'=true)/\(∀ (k:Nat) (x:ab) (u:Value),cs[k]?=some x->v.cells[k]?=some u->R w I ρ x u cj):=by
 have one:∀ {y:ab},R w I ρ y v F->v.oneCell'=true->[y].length=v.cells.size/\(∀ (k:Nat) (u:Value),v.cells[k]?=some u->u.oneCell'=true)/\(∀ (k:Nat) (x:ab) (u:Value),[y][k]?=some x->v.cells[k]?=some u->R w I ρ x u cj):=by
  intro y h h1;have Fm:v.cells=#[v]:=by cases v <;> first | rfl | (simp [Value.oneCell'] at h1)
  refine ⟨by simp [Fm],λk u hu=>?_,λk x u J hu=>?_⟩
  ·rw [Fm] at hu;cases k with
   | zero=>simp at hu; subst hu; exact h1
   | succ k=>simp at hu
  rw [Fm] at hu;cases k with
  | zero=>simp at J hu; subst J hu; exact h.empty aH
  | succ k=>simp at J
 cases y <;> simp only [Go.Own.jZ,Option.some.injEq,reduceCtorEq] at aa
 case agg l =>
  subst aa;obtain ⟨vs,rfl,ah,h1,hr⟩:=h.CY aH;exact ⟨ah,h1,hr⟩
 case lit a=>subst aa; exact one h (by obtain ⟨rfl,h1⟩:=h.hB; exact h1)
 case aQ=>subst aa; exact one h (by rw [h.ru]; rfl)
 case bd z n l=>subst aa; exact one h (by obtain ⟨a,cap,rfl,_⟩:=h.zV; rfl)
 case cw l=>subst aa; exact one h (by obtain ⟨ad,us,rfl,_⟩:=h.xI; rfl)
 case ptr p k=>subst aa; exact one h (lU _ _ rfl h.n3)
 case a6 z p n=>subst aa; exact one h (lU _ _ rfl h.n2)
 case sub z p l n=>subst aa; exact one h (lU _ _ rfl h.zW)
 case cD f a b =>
  subst aa;refine one h ?_;cases h with
  | cD=>rfl
  | ref J=>simp [ab.isRef] at J
theorem dy.Dk {w:World}{T:Array Value}{g:aL}{x:ab}{v:Value}(J:x.isRef=true) (h:dy w T g x v):v.oneCell'=true:=by
 obtain ⟨h,_⟩:=h;cases x <;> simp [ab.isRef] at J
 case ptr p k=>obtain ⟨_,_,_,_,rfl⟩:=h; rfl
 case a6 z p n=>obtain ⟨_,_,_,_,rfl,_⟩:=h; rfl
 case sub z p lo n=>obtain ⟨_,_,_,_,_,_,rfl,_⟩:=h; rfl
 case gj p=>obtain ⟨_,_,rfl⟩:=h; rfl
def o0:List ab->Option (List ab)
 | []=>some []
 | y::ys =>
  match jZ y,o0 ys with
  | some a,some b=>some (a++b)
  | _,_=>none
def hc (g:aL):List Operand->Option (List ab)
 | []=>some []
 | x::xs =>
  match bs g x,hc g xs with
  | some y,some ys=>some (y::ys)
  | _,_=>none
theorem Qb {g:aL}:∀ {l:List Operand}{xs:List ab},hc g l=some xs->tB xs
 | [],xs,h,k,j=>by simp only [hc,Option.some.injEq] at h; subst h; simp
 | o::l,xs,h,k,j=>by
  simp only [hc] at h
  split at h
  ·rename_i y ys h1 af;cases h;cases k with
   | zero=>intro e; simp only [List.getElem?_cons_zero,Option.some.injEq] at e; exact Zo h1 j e
   | succ k=>exact Qb af k j
  ·cases h
def vf (place:Nat->Option (Nat × Nat)) (cells:List ab):List (Nat × List ab)->Option (List ab)
 | []=>some cells
 | (i,c)::rest =>
  match place i with
  | none=>none
  | some (off,size)=>if c.length=size/\off+c.length<=cells.length then vf place (cells.take off++c++cells.drop (off+c.length)) rest else none
def rC (g:aL):List (Nat × Operand)->Option (List (Nat × List ab))
 | []=>some []
 | (i,x)::xs =>
  match bs g x,rC g xs with
  | some y,some ys=>(jZ y).map λc=>(i,c)::ys
  | _,_=>none
def jR (P:Program) (t:TypeId) (pl:List (Nat × Nat)):Bool :=
 match P.underlying t with
 | some (.struct fs)=>fs.toList.map (λf=>(f.offset,(P.info? f.type).map (·.size))) == pl.map λ(a,b)=>(a,some b)
 | _=>false
inductive oq (P:Program) (g:aL):Op->TypeId->ab->Prop
 | box {e ty:TypeId}{x:Operand}{y:ab}{cs:List ab}(J:bs g x=some y) (aa:jZ y=some cs):oq P g (.box e x) ty (.obj cs)
 | HD {e ty:TypeId}{z:Value}(aX:(P.info? e).bind (·.zero)=some z) (aa:z.cells=#[.pointer none,.slice none 0 0]):oq P g (.alloc e) ty (.obj [.self (0,e),.aQ])
 | HO {e ty:TypeId}{t k:Nat}{x:Operand}{y:ab}{cs:List ab}(J:bs g x=some y) (aa:jZ y=some cs) (aK:cs[k]?=some (.lit (.pointer none))) (h1:cs[k+1]?=some .aQ):oq P g (.box e x) ty (.obj ((cs.set k (.self (k,e))).set (k+1) (.hS t [])))
 | HC {e ty:TypeId}{t:Nat}{z:Value}(aX:(P.info? e).bind (·.zero)=some z) (aa:z.cells=#[.pointer none,.slice none 0 0]):oq P g (.alloc e) ty (.obj [.self (0,e),.hS t []])
 | alloc {e ty:TypeId}{z:Value}(aX:(P.info? e).bind (·.zero)=some z) (h1:z.cells.all Value.oneCell'=true):oq P g (.alloc e) ty (.obj (z.cells.toList.map kq))
 | buildSlice {t e ty:TypeId}{z:Nat}{parts:Array (Nat × Operand)}{xs:List Operand}{ys:List ab}{cs:List ab}(ar:fk P t e z=true)
   (aq:parts.toList=xs.mapIdx (λi x=>(i,x))) (J:hc g xs=some ys) (aX:∀ y∈ys,∃ c,jZ y=some c/\c.length=z) (aa:o0 ys=some cs) (au:xs.length * z<=16777216) (aB:xs.length<=16777216) (hzero:xs.length * z=0\/∃ v,(P.info? e).bind (·.zero)=some v/\v.cells.size=z) :
   oq P g (.buildSlice t xs.length parts) ty (.own z xs.length cs)
 | makeSlice {t e ty:TypeId}{x y:Operand}{z n b:Nat}{vQ td:IntKind}{cW:Value}(ar:fk P t e z=true) (J:bs g x=some (.lit (.int vQ (n:Int)))) (ao:bs g y=some (.lit (.int td (n:Int))))
   (hzero:(P.info? e).bind (·.zero)=some cW) (h1:cW.cells.all Value.oneCell'=true) (lT:cW.cells.size=z) (au:(P.info? e).map (·.bytes)=some b) (aB:n * b<=140737488355328) (rh:n<=4611686018427387904) {yE:List ab}(uq:yE.length=cW.cells.size)
   (FI:∀ (k:Nat) (u:Value) (x:ab),cW.cells[k]?=some u->yE[k]?=some x->x=kq u\/(kq u=.aQ/\∃ bR,x=.bd bR 0 [])) :
   oq P g (.makeSlice t x y) ty (.own z n (List.replicate n yE).flatten)
 | makeMap {t ty:TypeId}{q:Array MapEntry->Nat->Prop}(a8:q #[] 0):oq P g (.makeMap t none) ty (.mp q)
inductive u2 (P:Program) (g:aL):Op->TypeId->ab->Prop
 | build {t ty:TypeId}{parts:Array (Nat × Operand)}{pl:List (Nat × Nat)}{cW:Value}{ps:List (Nat × List ab)}{cs:List ab}(ar:jR P t pl=true) (aX:(P.info? t).bind (·.zero)=some cW) (h1:cW.cells.all Value.oneCell'=true)
   (aq:rC g parts.toList=some ps) (aa:vf (λi=>pl[i]?) (cW.cells.toList.map kq) ps=some cs):u2 P g (.build t parts) ty (.agg cs)
 | makeFunc {fn:Fn}{first caps:Array Operand}{ty:TypeId}{a b:List ab}(aI:hc g first.toList=some a) (au:hc g caps.toList=some b):u2 P g (.makeFunc fn first caps) ty (.cD fn a b)
section
variable {P:Program}{w:World}{I:a'}{T:Array Value}{g:aL}{Fs:Nat->a'}
theorem Ah (h:cA w I T g Fs) {a:Act}(aI:a.tmps=T):∀ {xs:List Operand}{ys:List ab},hc g xs=some ys->ys.length=xs.length/\∀ (k:Nat) (y:ab) (x:Operand),ys[k]?=some y->xs[k]?=some x->R w I (dy w T g) y (a.eval x) cj
 | [],ys,ao=>by simp only [hc,Option.some.injEq] at ao; subst ao; simp
 | x::xs,ys,ao=>by
  simp only [hc] at ao;cases J:bs g x with
  | none=>simp [J] at ao
  | some y =>
   cases sq:hc g xs with
   | none=>simp [J,sq] at ao
   | some Eo =>
    simp only [J,sq,Option.some.injEq] at ao;subst ao;obtain ⟨h1,af⟩:=Ah h aI sq;refine ⟨by simp [h1],λk y' x' o9 e8=>?_⟩;cases k with
    | zero=>simp at o9 e8; subst o9 e8; exact j9 h J aI
    | succ k=>simp at o9 e8; exact af k y' x' o9 e8
theorem R.alloc (h:cA w I T g Fs) (o:Obj) {x:ab}{v:Value}{F:a'}(aY:R w I (dy w T g) x v F) (aH:∀ c,F c->c<w.heap.size):R (w.alloc o) I (dy (w.alloc o) T g) x v F :=
 h.frame (λ_ _=>rfl) (λt c aa=>alloc_old w o c (h.iX t c aa)) (λc aa=>alloc_old w o c (h.lt c aa)) (λ_ h=>h) (λ_ _ h=>h) aY λc aa=>alloc_old w o c (aH c aa)
theorem P3 {ρ:ab->Value->Prop}{vs:List Value}:∀ (k:Nat) (x:ab) (u:Value),(vs.map kq)[k]?=some x->vs[k]?=some u->R w I ρ x u cj:=by
 intro k x u J hu;rw [List.getElem?_map,hu] at J;simp only [Option.map_some,Option.some.injEq] at J;subst J;exact Dh u
theorem R.P0 {ρ:ab->Value->Prop}{cs:List ab}{b:Nat}{e:TypeId}{arr:Array Value}(aW:w.heap[b]?=some (.cells arr e (0,0))) (ah:cs.length=arr.size) (h1:∀ (k:Nat) (u:Value),arr[k]?=some u->u.oneCell'=true)
  (hr:∀ (k:Nat) (x:ab) (u:Value),cs[k]?=some x->arr[k]?=some u->R w I ρ x u cj) (ln:tB cs):R w I ρ (.obj cs) (.pointer (some ⟨b,0,none⟩)) (λc=>c=b) :=
 .obj (Fs:=λ_=>cj) aW ah h1 hr (λ_ _ _ _ _ h=>h.elim) (λ_ _ h=>h) (λ_=>⟨λh=>.inl h,λh=>h.elim id λ⟨_,_,h⟩=>h.elim⟩) λk j _ h=>absurd h (ln k j)
theorem R.Qg {ρ:ab->Value->Prop}{z n:Nat}{cs:List ab}{b cap:Nat}{e:TypeId}{arr:Array Value}(aW:w.heap[b]?=some (.cells arr e (0,0))) (aB:n<=cap) (aa:cap<=maxLen) (aw:arr.size=cap * z) (ah:cs.length=n * z) (h1:∀ (k:Nat) (u:Value),arr[k]?=some u->u.oneCell'=true)
  (hr:∀ (k:Nat) (x:ab) (u:Value),cs[k]?=some x->arr[k]?=some u->R w I ρ x u cj):R w I ρ (.own z n cs) (.slice (some ⟨b,0,none⟩) n cap) (λc=>c=b):=by
 have hle:n * z<=arr.size:=by rw [aw]; exact Nat.mul_le_mul_right _ aB
 refine .own (e:=e) (us:=arr.toList.take (n * z)) (Fs:=λ_=>cj) ⟨by simp; omega,.inr ⟨b,cap,arr,rfl,Nat.zero_le _,aW,aB,aa,aw,rfl⟩⟩ (by simp; omega) (λk u hu=>?_) ?_ (λ_ _ _ _ _ h=>h.elim) (λ_ _ _ h=>h.elim) (λc=>?_)
 ·rw [List.getElem?_take] at hu
  split at hu
  ·exact h1 k u (by simpa using hu)
  ·cases hu
 ·intro k x u J hu;rw [List.getElem?_take] at hu
  split at hu
  ·exact hr k x u J (by simpa using hu)
  ·cases hu
 ·simp only [Value.ownBlock,Option.some.injEq];exact ⟨λh=>.inl h.symm,λh=>h.elim Eq.symm λ⟨_,_,h⟩=>h.elim⟩
theorem MR {ρ:ab->Value->Prop}(lU:∀ x v,x.isRef=true->ρ x v->v.oneCell'=true):∀ {ys:List ab}{vs:List Value}{cs:List ab},ys.length=vs.length->(∀ (k:Nat) (y:ab) (v:Value),ys[k]?=some y->vs[k]?=some v->R w I ρ y v cj)->o0 ys=some cs ->
  cs.length=(vs.flatMap λv=>v.cells.toList).length/\(∀ (k:Nat) (u:Value),(vs.flatMap λv=>v.cells.toList)[k]?=some u->u.oneCell'=true)/\∀ (k:Nat) (x:ab) (u:Value),cs[k]?=some x->(vs.flatMap λv=>v.cells.toList)[k]?=some u->R w I ρ x u cj
 | [],vs,cs,ah,hr,aa=>by
  cases vs with
  | nil=>simp only [o0,Option.some.injEq] at aa; subst aa; simp
  | cons=>simp at ah
 | y::ys,vs,cs,ah,hr,aa=>by
  cases vs with
  | nil=>simp at ah
  | cons v vs =>
   simp only [o0] at aa;cases aI:jZ y with
   | none=>simp [aI] at aa
   | some a =>
    cases au:o0 ys with
    | none=>simp [aI,au] at aa
    | some b =>
     simp only [aI,au,Option.some.injEq] at aa;subst aa;obtain ⟨h1,BU,af⟩:=(hr 0 y v rfl rfl).jZ (λ_ h=>h) lU aI;obtain ⟨aD,VH,bm⟩:=MR lU (by simpa using ah) (λk y' dH ao hv=>hr (k+1) y' dH ao hv) au;refine ⟨by simp [h1,aD],λk u hu=>?_,λk x u J hu=>?_⟩
     ·simp only [List.flatMap_cons] at hu;by_cases hk:k<v.cells.toList.length
      ·rw [List.getElem?_append_left hk] at hu;exact BU k u (by simpa using hu)
      ·rw [List.getElem?_append_right (by omega)] at hu;exact VH _ u hu
     simp only [List.flatMap_cons] at hu;by_cases hk:k<a.length
     ·rw [List.getElem?_append_left hk] at J;rw [List.getElem?_append_left (by simp; omega)] at hu;exact af k x u J (by simpa using hu)
     ·rw [List.getElem?_append_right (by omega)] at J;rw [List.getElem?_append_right (by simp; omega)] at hu;refine bm (k - a.length) x u J ?_;rw [<- hu]; simp [h1]
end
theorem NK (off:Nat):∀ (l:List Value) (s:Nat) (arr:Array Value),off+s+l.length<=arr.size ->
  ((l.zipIdx s).foldl (λcs (x:Value × Nat)=>cs.setIfInBounds (off+x.2) x.1) arr).toList=arr.toList.take (off+s)++l++arr.toList.drop (off+s+l.length)
 | [],s,arr,h=>by simp
 | v::l,s,arr,h=>by
  simp only [List.length_cons] at h;rw [List.zipIdx_cons,List.foldl_cons,NK off l (s+1) _ (by simp; omega)];simp only [Array.toList_setIfInBounds,List.length_cons];have h1:(arr.toList.set (off+s) v).take (off+(s+1))=arr.toList.take (off+s)++[v]:=by
   rw [show off+(s+1)=off+s+1 by omega,List.take_succ_eq_append_getElem (by simp; omega)];rw [List.take_set_of_le (Nat.le_refl _)];simp
  have af:(arr.toList.set (off+s) v).drop (off+(s+1)+l.length)=arr.toList.drop (off+s+(l.length+1)):=by
   rw [List.drop_set_of_lt (by omega)];congr 1; omega
  rw [h1,af];simp
theorem ND {place:Nat->Option (Nat × Nat)}{i off size:Nat}(aq:place i=some (off,size)) {arr:Array Value}{v:Value}(h1:v.cells.size=size) (af:off+v.cells.size<=arr.size) (rest:List (Nat × Value)) :
  ∃ jg:Array Value,Instr.fill place arr ((i,v)::rest)=Instr.fill place jg rest/\jg.toList=arr.toList.take off++v.cells.toList++arr.toList.drop (off+v.cells.size):=by
 refine ⟨_,by simp only [Instr.fill,aq]; rw [if_neg (by simp; omega)],?_⟩;have:=NK off v.cells.toList 0 arr (by simpa using af)
 grind [Array.toList_zipIdx]
theorem NC (z:Nat):∀ (vs:List Value) (k:Nat) (arr:Array Value) (done rest:List Value),(∀ v∈vs,v.cells.size=z)->arr.toList=done++rest->done.length=k * z->rest.length=vs.length * z ->
  ∃ jg:Array Value,Instr.fill (λi=>some (i * z,z)) arr (vs.mapIdx λi v=>(k+i,v))=some jg/\jg.toList=done++vs.flatMap λv=>v.cells.toList
 | [],k,arr,done,rest,_,h1,af,aD=>by
  have:rest=[]:=List.eq_nil_of_length_eq_zero (by simpa using aD);subst this;exact ⟨arr,rfl,by simpa using h1⟩
 | v::vs,k,arr,done,rest,aX,h1,af,aD=>by
  have hv:=aX v (by simp);have hlen:arr.size=done.length+rest.length:=by rw [<- Array.length_toList,h1,List.length_append]
  simp only [List.length_cons,Nat.add_mul,Nat.one_mul] at aD;rw [List.mapIdx_cons];obtain ⟨EW,b9,b3⟩:=ND (place:=λi=>some (i * z,z)) (i:=k+0) (off:=k * z) (size:=z) (by simp) (arr:=arr) (v:=v) hv (by omega) ((vs.mapIdx λi v=>(k+(i+1),v)));have tQ:EW.toList=(done++v.cells.toList)++rest.drop z:=by
   rw [b3,h1,<- af,List.take_left,hv,List.drop_append];simp
  obtain ⟨jg,eP,lj⟩:=NC z vs (k+1) EW (done++v.cells.toList) (rest.drop z) (λu hu=>aX u (by simp [hu])) tQ (by simp [af,hv,Nat.add_mul]) (by simp; omega);refine ⟨jg,?_,by rw [lj]; simp⟩;rw [b9,<- eP];congr 1;congr 1;funext i u;congr 1; omega
theorem HB {vs:Array Value}(h:vs.all Value.oneCell'=true):∀ (k:Nat) (u:Value),vs[k]?=some u->u.oneCell'=true:=by grind
theorem Bu {P:Program}{e:TypeId}{z:Value}(h:(P.info? e).bind (·.zero)=some z) (w:World):(zeroValue e).run P w=.ok z w:=by
 cases hi:P.info? e with
 | none=>simp [hi] at h
 | some i=>simp [hi] at h; simp [zeroValue,typeInfo,hi,h]
theorem NN {α:Type}(l:List α):∀ (n k:Nat),k<n * l.length->(List.replicate n l).flatten[k]?=l[k % l.length]?
 | 0,k,h=>by simp at h
 | n+1,k,h=>by
  rw [List.replicate_succ,List.flatten_cons];by_cases hk:k<l.length
  ·rw [List.getElem?_append_left hk,Nat.mod_eq_of_lt hk]
  ·rw [List.getElem?_append_right (by omega),NN l n (k - l.length) (by rw [Nat.add_mul] at h; omega)];rw [<- Nat.mod_eq_sub_mod (by omega)]
section
variable {P:Program}{w:World}{I:a'}{T:Array Value}{g:aL}{Fs:Nat->a'}
theorem Tp {ys cs:List ab}{z:Nat}(aX:∀ y∈ys,∃ c,jZ y=some c/\c.length=z) (aa:o0 ys=some cs):cs.length=ys.length * z:=by
 induction ys generalizing cs with
 | nil=>simp [o0] at aa; subst aa; simp
 | cons y ys aM =>
  obtain ⟨c,h1,af⟩:=aX y (by simp);simp only [o0,h1] at aa
  grind
theorem oq.sound (h:cA w I T g Fs) {a:Act}(aI:a.tmps=T) {o:Oper}{kO:ab}(aq:oq P g o.op o.type kO) :
  ∃ v sA,(execOp a.eval o).run P w=.ok (.value v) (w.alloc sA)/\R (w.alloc sA) I (dy (w.alloc sA) T g) kO v (λc=>c=w.heap.size):=by
 obtain ⟨dst,op,ty,pos,after,guard⟩:=o;simp only at aq;have mU:∀ (sA:Obj) {x:ab}{v:Value},R w I (dy w T g) x v cj->R (w.alloc sA) I (dy (w.alloc sA) T g) x v cj:=λsA _ _ aY=>R.alloc h sA aY λ_ h=>h.elim;cases aq with
 | @box e _ x y cs J aa =>
  have ao:=j9 h J aI;obtain ⟨h1,BU,af⟩:=ao.jZ (λ_ h=>h) (λ_ _ J hr=>hr.Dk J) aa;refine ⟨_,.cells (a.eval x).cells e,by simp [execOp,Instr.box,newVar,newRow],R.P0 (e:=e) (q7 w _) h1 BU (λk x u J hu=>mU _ (af k x u J hu)) (MS (K3 J) aa)⟩
 | @HD e _ z aX aa =>
  refine ⟨.pointer (some ⟨w.heap.size,0,none⟩),.cells z.cells e,by simp [execOp,Instr.alloc,newVar,newRow,Bu aX],?_⟩;rw [aa];refine .obj (Fs:=λ_=>cj) (e:=e) (q7 w _) rfl (λk u hu=>?_) (λk y u ao hu=>?_) (λ_ _ _ _ _ h=>h.elim) (λ_ _ h=>h) (λc=>⟨.inl,λh=>h.elim id λ⟨_,_,h⟩=>h.elim⟩) λk j u ao hu=>?_
  ·match k,hu with
   | 0,hu=>cases hu; rfl
   | 1,hu=>cases hu; rfl
   | k+2,hu=>simp at hu
  ·match k,ao,hu with
   | 0,ao,hu=>cases ao; exact .mq λ_ h=>h
   | 1,ao,hu=>cases ao; cases hu; exact .aQ λ_ h=>h
   | k+2,ao,hu=>cases ao
  ·match k,ao,hu with
   | 0,ao,hu=>cases ao; cases hu; exact .inl ⟨rfl,rfl⟩
   | 1,ao,hu=>cases ao
   | k+2,ao,hu=>cases ao
 | @HO e _ t k x y cs J aa aK jl =>
  have ao:=j9 h J aI;obtain ⟨h1,BU,af⟩:=ao.jZ (λ_ h=>h) (λ_ _ J hr=>hr.Dk J) aa;have ln:=MS (K3 J) aa;have dq:k+1<cs.length:=(List.getElem?_eq_some_iff.1 jl).1;refine ⟨.pointer (some ⟨w.heap.size,0,none⟩),.cells (a.eval x).cells e,by simp [execOp,Instr.box,newVar,newRow],?_⟩;refine .obj (Fs:=λ_=>cj) (e:=e) (q7 w _) (by simpa using h1) BU (λj z u aX hu=>?_) (λ_ _ _ _ _ h=>h.elim) (λ_ _ h=>h) (λc=>⟨.inl,λh=>h.elim id λ⟨_,_,h⟩=>h.elim⟩) λj i u ag hu=>?_
  ·by_cases b9:k+1=j
   ·subst b9;rw [List.getElem?_set_self (by simpa using dq)] at aX;cases aX;rw [(af _ _ u jl hu).ru];exact .hS (World.ownsRow_nil _ _ _ _) rfl λc=>⟨λh=>h.elim,λh=>by simp [Value.ownBlock] at h⟩
   ·rw [List.getElem?_set_ne b9] at aX;by_cases ft:k=j
    ·subst ft;rw [List.getElem?_set_self (by omega)] at aX;cases aX;exact .mq λ_ h=>h
    ·rw [List.getElem?_set_ne ft] at aX;exact mU _ (af j z u aX hu)
  ·by_cases b9:k+1=j
   ·subst b9;rw [List.getElem?_set_self (by simpa using dq)] at ag;cases ag
   ·rw [List.getElem?_set_ne b9] at ag;by_cases ft:k=j
    ·subst ft;rw [List.getElem?_set_self (by omega)] at ag;cases ag;exact .inl ⟨(af k _ u aK hu).hB.1,rfl⟩
    ·rw [List.getElem?_set_ne ft] at ag;exact absurd ag (ln _ _)
 | @HC e _ t z aX aa =>
  refine ⟨.pointer (some ⟨w.heap.size,0,none⟩),.cells z.cells e,by simp [execOp,Instr.alloc,newVar,newRow,Bu aX],?_⟩;rw [aa];refine .obj (Fs:=λ_=>cj) (e:=e) (q7 w _) rfl (λk u hu=>?_) (λk y u ao hu=>?_) (λ_ _ _ _ _ h=>h.elim) (λ_ _ h=>h) (λc=>⟨.inl,λh=>h.elim id λ⟨_,_,h⟩=>h.elim⟩) λk j u ao hu=>?_
  ·match k,hu with
   | 0,hu=>cases hu; rfl
   | 1,hu=>cases hu; rfl
   | k+2,hu=>simp at hu
  ·match k,ao,hu with
   | 0,ao,hu=>cases ao; exact .mq λ_ h=>h
   | 1,ao,hu=>cases ao; cases hu; exact .hS (World.ownsRow_nil _ _ _ _) rfl λc=>⟨λh=>h.elim,λh=>by simp [Value.ownBlock] at h⟩
   | k+2,ao,hu=>cases ao
  ·match k,ao,hu with
   | 0,ao,hu=>cases ao; cases hu; exact .inl ⟨rfl,rfl⟩
   | 1,ao,hu=>cases ao
   | k+2,ao,hu=>cases ao
 | @alloc e _ z aX hh =>
  refine ⟨_,.cells z.cells e,by simp [execOp,Instr.alloc,newVar,newRow,Bu aX],R.P0 (e:=e) (q7 w _) (by simp) (HB hh) (λk x u J hu=>mU _ (P3 k x u J (by simpa using hu))) (P2 _)⟩
 | @makeMap t _ q a8 =>
  have JQ:(Instr.makeMap t none).run P w=.ok (.map (some w.heap.size)) (w.alloc (.map #[] 0)):=rfl;exact ⟨.map (some w.heap.size),.map #[] 0,by simp [execOp,JQ],.mp (q7 w _) a8 λc=>Iff.rfl⟩
 | @buildSlice t e _ z parts xs ys cs ar aq J aX aa au ri hzero =>
  obtain ⟨hu,he,fz⟩:=rL (w:=w) ar;obtain ⟨ah,hr⟩:=Ah h aI J;have hK:=Tp aX aa;have X':∀ v∈xs.map a.eval,v.cells.size=z:=by
   intro v hv;obtain ⟨x,CU,rfl⟩:=List.mem_map.1 hv;obtain ⟨k,hk,rfl⟩:=List.mem_iff_getElem.1 CU;have o9:ys[k]?=some (ys[k]'(by omega)):=List.getElem?_eq_getElem (by omega);obtain ⟨c,h1,af⟩:=aX _ (List.getElem_mem (l:=ys) (n:=k) (by omega));obtain ⟨aD,_,_⟩:=(hr k _ _ o9 (List.getElem?_eq_getElem hk)).jZ (λ_ h=>h) (λ_ _ J hr=>hr.Dk J) h1;rw [<- aD,af]
  obtain ⟨cW,YB⟩:∃ cW:Array Value,(xs.length * z=0/\cW=#[])\/(xs.length * z≠0/\∃ v,cW=v.cells/\(zeroValue e).run P w=.ok v w):=by
   by_cases aK:xs.length * z=0
   ·exact ⟨#[],.inl ⟨aK,rfl⟩⟩
   ·rcases hzero with h1 | ⟨v,h1,af⟩
    ·exact absurd h1 aK
    ·exact ⟨v.cells,.inr ⟨aK,v,rfl,Bu h1 w⟩⟩
  obtain ⟨arr,b9,b3⟩:=NC z (xs.map a.eval) 0 ((Array.range (xs.length * z)).map (cW[· % cW.size]!)) [] ((Array.range (xs.length * z)).map (cW[· % cW.size]!)).toList X' (by simp) (by simp) (by simp);have OO:(parts.map λ(p:Nat × Operand)=>(p.1,a.eval p.2)).toList=(xs.map a.eval).mapIdx λi v=>(0+i,v):=by
   rw [Array.toList_map,aq];apply List.ext_getElem?;intro k;simp only [List.getElem?_map,List.getElem?_mapIdx];cases xs[k]? <;> simp
  obtain ⟨eS,kl,W9⟩:=MR (ρ:=dy w T g) (λ_ _ J hr=>hr.Dk J) (ys:=ys) (vs:=xs.map a.eval) (by simp [ah]) (λk y v ao hv=>by
   rw [List.getElem?_map] at hv;cases qA:xs[k]? with
   | none=>simp [qA] at hv
   | some x=>simp [qA] at hv; subst hv; exact hr k y x ao qA) aa
  have vo:arr.toList=(xs.map a.eval).flatMap λv=>v.cells.toList:=by simpa using b3
  have XZ:arr.size=xs.length * z:=by rw [<- Array.length_toList,vo,<- eS,hK,ah]
  have hj:(execOp a.eval { dst:=dst,op:=.buildSlice t xs.length parts,type:=ty,pos:=pos,after:=after,guard:=guard }).run P w=.ok (.value (.slice (some ⟨w.heap.size,0,none⟩) xs.length xs.length)) (w.alloc (.cells arr e)):=by
   have hle:¬ (16777216<xs.length * z):=by omega
   rcases YB with ⟨aK,rfl⟩ | ⟨aK,v,rfl,YA⟩
   ·simp only [aK] at b9;rw [<- OO] at b9;simp at b9;simp [execOp,Instr.buildSlice,run_underlying hu,fz,aK,b9,newRow]
   ·rw [<- OO] at b9;simp at b9;simp [execOp,Instr.buildSlice,run_underlying hu,fz,aK,hle,YA,b9,newRow]
  refine ⟨_,_,hj,R.Qg (e:=e) (arr:=arr) (q7 w _) (Nat.le_refl _) ?_ XZ (by rw [hK,ah]) (λk u hu=>kl k u (by rw [<- vo]; simpa using hu)) λk x u J hu=>mU _ (W9 k x u J ?_)⟩
  ·unfold maxLen; omega
  ·rw [<- vo]; simpa using hu
 | @makeSlice t e _ x y z n b vQ td cW ar J ao hzero hh lT au aB rh yE uq FI =>
  obtain ⟨hu,he,fz⟩:=rL (w:=w) ar;have h1:=(j9 h J aI).hB.1;have af:=(j9 h ao aI).hB.1;cases hi:P.info? e with
  | none=>simp [hi] at au
  | some i =>
   simp [hi] at au hzero;have Jz:i.size=z:=by
    unfold fk at ar;rw [hu] at ar;simp [hi] at ar;exact ar
   have zB:(i.bytes:Int) * (n:Int)<=281474976710656:=by
    have:((b * n:Nat):Int)<=281474976710656:=by have:=Nat.mul_comm n b; omega
    rw [au,<- Int.natCast_mul]; exact this
   have hr:=run_make (P:=P) w t e i cW hu hi hzero vQ td n n (by omega) (Int.le_refl _) zB (by omega);simp only [Int.toNat_natCast] at hr;refine ⟨_,.cells (madeCells cW.cells (n * i.size)) e,by simp [execOp,h1,af,hr],R.Qg (e:=e) (q7 w _) (Nat.le_refl _) (by unfold maxLen; omega) (by rw [size_madeCells,Jz]) (by simp [lT,uq]) (λk u hu=>?_) λk x u J hu=>?_⟩
   ·rw [madeCells,Array.getElem?_map,Array.getElem?_range] at hu
    split at hu
    ·rename_i hk;have aK:0<cW.cells.size:=by
      rcases Nat.eq_zero_or_pos cW.cells.size with h | h
      ·rw [Jz,<- lT,h] at hk; simp at hk
      ·exact h
     have hm:k % cW.cells.size<cW.cells.size:=Nat.mod_lt _ aK;simp only [Option.map_some,Option.some.injEq] at hu;rw [<- hu,show cW.cells[k % cW.cells.size]! = cW.cells[k % cW.cells.size] by simp [hm]];exact HB hh _ _ (Array.getElem?_eq_getElem hm)
    ·cases hu
   have hk:k<n * cW.cells.size:=by
    have:=(List.getElem?_eq_some_iff.1 J).1;simpa [Nat.mul_comm,uq] using this
   have aK:0<cW.cells.size:=by
    rcases Nat.eq_zero_or_pos cW.cells.size with h | h
    ·rw [h] at hk; simp at hk
    ·exact h
   have hm:k % cW.cells.size<cW.cells.size:=Nat.mod_lt _ aK;rw [NN _ n k (by simpa [uq] using hk),uq] at J;rw [madeCells,Array.getElem?_map,Array.getElem?_range,if_pos (by rw [Jz,<- lT]; exact hk)] at hu;simp only [Option.map_some,Option.some.injEq] at hu;have hU:cW.cells[k % cW.cells.size]! = cW.cells[k % cW.cells.size]:=by simp [hm]
   rw [hU] at hu;subst hu;rcases FI _ _ x (Array.getElem?_eq_getElem hm) J with rfl | ⟨h1,bR,rfl⟩
   ·exact mU _ (Dh _)
   ·have aY:=Dh (w:=w) (I:=I) (ρ:=dy w T g) cW.cells[k % cW.cells.size];rw [h1] at aY;rw [aY.ru];exact .gG λ_ h=>h
def Cells (w:World) (I:a') (ρ:ab->Value->Prop) (cs:List ab) (vs:List Value):Prop :=
 cs.length=vs.length/\(∀ (k:Nat) (u:Value),vs[k]?=some u->u.oneCell'=true)/\∀ (k:Nat) (x:ab) (u:Value),cs[k]?=some x->vs[k]?=some u->R w I ρ x u cj
theorem Cells.append {ρ:ab->Value->Prop}{a b:List ab}{u v:List Value}(h:Cells w I ρ a u) (aJ:Cells w I ρ b v):Cells w I ρ (a++b) (u++v):=by
 refine ⟨by simp [h.1,aJ.1],λk y ao=>?_,λk x y J ao=>?_⟩
 ·by_cases hk:k<u.length
  ·rw [List.getElem?_append_left hk] at ao; exact h.2.1 k y ao
  ·rw [List.getElem?_append_right (by omega)] at ao; exact aJ.2.1 _ y ao
 ·by_cases hk:k<a.length
  ·rw [List.getElem?_append_left hk] at J;rw [List.getElem?_append_left (by rw [<- h.1]; exact hk)] at ao;exact h.2.2 k x y J ao
  ·rw [List.getElem?_append_right (by omega)] at J;rw [List.getElem?_append_right (by rw [<- h.1]; omega)] at ao;exact aJ.2.2 _ x y J (by rw [h.1]; exact ao)
theorem Cells.take {ρ:ab->Value->Prop}{a:List ab}{u:List Value}(h:Cells w I ρ a u) (n:Nat):Cells w I ρ (a.take n) (u.take n):=by
 refine ⟨by simp [h.1],λk y ao=>?_,λk x y J ao=>?_⟩
 ·rw [List.getElem?_take] at ao
  split at ao
  ·exact h.2.1 k y ao
  grind
 ·rw [List.getElem?_take] at J ao
  split at J
  ·rename_i hk;rw [if_pos hk] at ao;exact h.2.2 k x y J ao
  grind
theorem Cells.drop {ρ:ab->Value->Prop}{a:List ab}{u:List Value}(h:Cells w I ρ a u) (n:Nat):Cells w I ρ (a.drop n) (u.drop n):=by
 refine ⟨by simp [h.1],λk y ao=>?_,λk x y J ao=>?_⟩
 ·rw [List.getElem?_drop] at ao; exact h.2.1 _ y ao
 ·rw [List.getElem?_drop] at J ao;exact h.2.2 _ x y J ao
theorem NB {ρ:ab->Value->Prop}{place:Nat->Option (Nat × Nat)}:∀ (ps:List (Nat × List ab)) (tu:List (Nat × Value)) {cells cs:List ab}{arr:Array Value},Cells w I ρ cells arr.toList ->
  ps.map (·.1)=tu.map (·.1)->(∀ (k:Nat) (p:Nat × List ab) (q:Nat × Value),ps[k]?=some p->tu[k]?=some q->Cells w I ρ p.2 q.2.cells.toList)->vf place cells ps=some cs ->
  ∃ jg:Array Value,Instr.fill place arr tu=some jg/\Cells w I ρ cs jg.toList
 | [],tu,cells,cs,arr,aa,hk,_,aT=>by
  cases tu with
  | nil=>simp only [vf,Option.some.injEq] at aT; subst aT; exact ⟨arr,rfl,aa⟩
  | cons=>simp at hk
 | (i,c)::ps,tu,cells,cs,arr,aa,hk,hr,aT=>by
  cases tu with
  | nil=>simp at hk
  | cons q tu =>
   obtain ⟨j,v⟩:=q;simp only [List.map_cons,List.cons.injEq] at hk;obtain ⟨rfl,hk⟩:=hk;have aK:=hr 0 _ _ rfl rfl;simp only [vf] at aT;cases aq:place i with
   | none=>simp [aq] at aT
   | some os =>
    obtain ⟨off,size⟩:=os;simp only [aq] at aT
    split at aT
    ·rename_i aeS;have hlen:v.cells.size=c.length:=by rw [<- Array.length_toList]; exact aK.1.symm
     have OE:arr.size=cells.length:=by rw [<- Array.length_toList]; exact aa.1.symm
     obtain ⟨EW,b9,b3⟩:=ND (arr:=arr) (v:=v) aq (by omega) (by omega) tu;have kl:Cells w I ρ (cells.take off++c++cells.drop (off+c.length)) EW.toList:=by
      rw [b3,hlen];exact ((aa.take off).append aK).append (aa.drop _)
     obtain ⟨jg,eP,lj⟩:=NB ps tu kl hk (λk p q aq a8=>hr (k+1) p q aq a8) aT;exact ⟨jg,by rw [b9,eP],lj⟩
    ·cases aT
theorem Qm (h:cA w I T g Fs) {a:Act}(aI:a.tmps=T):∀ {l:List (Nat × Operand)}{ps:List (Nat × List ab)},rC g l=some ps ->
  ps.map (·.1)=(l.map λp=>(p.1,a.eval p.2)).map (·.1)/\∀ (k:Nat) (p:Nat × List ab) (q:Nat × Value),ps[k]?=some p->(l.map λp=>(p.1,a.eval p.2))[k]?=some q->Cells w I (dy w T g) p.2 q.2.cells.toList
 | [],ps,aq=>by simp only [rC,Option.some.injEq] at aq; subst aq; simp
 | (i,x)::l,ps,aq=>by
  simp only [rC] at aq;cases J:bs g x with
  | none=>simp [J] at aq
  | some y =>
   cases ah:rC g l with
   | none=>simp [J,ah] at aq
   | some afx =>
    simp only [J,ah,Option.map_eq_some_iff] at aq;obtain ⟨c,aa,rfl⟩:=aq;obtain ⟨h1,af⟩:=Qm h aI ah;refine ⟨by simp [h1],λk p q aq a8=>?_⟩;cases k with
    | zero =>
     simp at aq a8;subst aq a8;obtain ⟨aD,VG,bm⟩:=(j9 h J aI).jZ (λ_ h=>h) (λ_ _ J hr=>hr.Dk J) aa;exact ⟨by simpa using aD,λk u hu=>VG k u (by simpa using hu),λk x u J hu=>bm k x u J (by simpa using hu)⟩
    | succ k=>simp at aq a8; exact af k p q aq (by simpa using a8)
theorem aa1 {t:TypeId}{pl:List (Nat × Nat)}(h:jR P t pl=true):∃ fs,P.underlying t=some (.struct fs)/\fs.toList.mapM (λf=>(P.info? f.type).map λi=>(f.offset,i.size))=some pl:=by
 unfold jR at h;cases hu:P.underlying t with
 | none=>simp [hu] at h
 | some d =>
  cases d <;> simp only [hu,Bool.false_eq_true] at h;rename_i fs;refine ⟨fs,rfl,?_⟩;replace h:=LawfulBEq.eq_of_beq h;generalize fs.toList=l at h
  induction l generalizing pl with
  | nil=>cases pl with
   | nil=>rfl
   | cons=>simp at h
  | cons f l aM =>
   cases pl with
   | nil=>simp at h
   | cons p pl =>
    obtain ⟨o,s⟩:=p;simp only [List.map_cons,List.cons.injEq,Prod.mk.injEq] at h;obtain ⟨⟨rfl,h1⟩,af⟩:=h;have:=aM af;rw [List.mapM_cons,this];cases hi:P.info? f.type with
    | none=>simp [hi] at h1
    | some i=>simp [hi] at h1; subst h1; rfl
theorem u2.sound (h:cA w I T g Fs) {a:Act}(aI:a.tmps=T) {o:Oper}{kO:ab}(aq:u2 P g o.op o.type kO) :
  ∃ v,(execOp a.eval o).run P w=.ok (.value v) w/\R w I (dy w T g) kO v cj:=by
 obtain ⟨dst,op,ty,pos,after,guard⟩:=o;simp only at aq;cases aq with
 | @build t _ parts pl cW ps cs ar aX hh aq aa =>
  obtain ⟨fs,hu,zM⟩:=aa1 ar;obtain ⟨h1,af⟩:=Qm h aI aq;obtain ⟨jg,b9,b3⟩:=NB (w:=w) (I:=I) (ρ:=dy w T g) (place:=λi=>pl[i]?) ps _ (arr:=cW.cells) ⟨by simp,λk u hu=>HB hh k u (by simpa using hu),λk x u J hu=>P3 k x u J hu⟩ h1 af aa;refine ⟨.agg jg,?_,.agg (Fs:=λ_=>cj) (by simpa using b3.1) (λk u hu=>b3.2.1 k u (by simpa using hu)) (λk x u J hu=>b3.2.2 k x u J (by simpa using hu)) (λ_ _ _ _ _ h=>h.elim) (λc=>⟨λh=>h.elim,λ⟨_,_,h⟩=>h⟩)⟩;have afi:=run_places (P:=P) w fs.toList pl zM;have au:P.built t ((parts.map λ(p:Nat × Operand)=>(p.1,a.eval p.2))).toList=some jg:=by
   rw [Array.toList_map];cases hi:P.info? t with
   | none=>simp [hi] at aX
   | some it =>
    simp_all [Program.built]
  simp_all [run_build,execOp]
 | @makeFunc fn first caps _ gi fV h1 af =>
  obtain ⟨av,a2⟩:=Ah h aI h1;obtain ⟨gR,iu⟩:=Ah h aI af;refine ⟨.func fn (first.map a.eval) (caps.map a.eval),by simp [execOp,Instr.makeFunc],.cD (λ_ h=>h) (by simpa using av) (by simpa using gR) (λk x u J hu=>?_) (λk x u J hu=>?_)⟩
  ·grind
  grind
end
structure A8 (w w':World) (bv dH:Value) (e b3:TypeId) (z n m:Nat) (us news:List Value):Prop where
 mU:w'.ownsRow 0 e z bv n us
 new:w'.ownsRow 0 b3 z dH (n+m) (us++news)
 dK:Fr w w' (λc=>bv.ownBlock=some c)
 Bv:∀ c,dH.ownBlock=some c->bv.ownBlock=some c\/w.heap.size<=c
 sp:∀ c,bv.ownBlock=some c->∃ arr jg:Array Value,w.heap[c]?=some (.cells arr e (0,0))/\w'.heap[c]?=some (.cells jg e (0,0))/\jg.size=arr.size/\jg.toList.take (n * z)=arr.toList.take (n * z)
section
variable {P:Program}{w:World}
theorem A8.same {bv dH:Value}{e b3:TypeId}{z n m:Nat}{us news:List Value}{w':World}(kE:w.ownsRow 0 e z bv n us) (au:∀ c,c<w.heap.size->w'.heap[c]?=w.heap[c]?) (aw:w.heap.size<=w'.heap.size)
  (h1:w'.os=w.os) (af:w'.tape=w.tape) (aD:w'.output=w.output) (se:w'.ownsRow 0 b3 z dH (n+m) (us++news)) (hblk:∀ c,dH.ownBlock=some c->bv.ownBlock=some c\/w.heap.size<=c) (o6:∀ a,w'.frozen? a=w.frozen? a) (Xc:w.drawn<=w'.drawn:=by first | exact Nat.le_refl _ | exact Nat.le_succ _):A8 w w' bv dH e b3 z n m us news:=by
 have aN:=kE.lt;refine ⟨uA kE λc aa=>au c (aN c aa).2,se,⟨h1,af,aD,aw,λb j2 _=>au b j2,λa _ _=>o6 a,Xc⟩,hblk,λc aa=>?_⟩;obtain ⟨_,bP⟩:=kE;rcases bP with ⟨rfl,_⟩ | ⟨b,cap,cur,rfl,_,aP,_⟩
 ·simp [Value.ownBlock] at aa
 ·simp only [Value.ownBlock,Option.some.injEq] at aa;subst aa;exact ⟨cur,cur,aP,(au _ (aN b rfl).2).trans aP,rfl,rfl⟩
theorem aam (t ty e b1:TypeId) (i:TypeInfo) (ar:P.underlying t=some (.slice e)) (hi:P.info? e=some i)
  (b yq Lp:Nat) (cur:Array Value) (aP:w.heap[b]?=some (.cells cur b1 (0,0)))
  (a:Addr) (m c:Nat) (news:List Value) (ah:news.length=m * i.size) (sf:∀ j u,news[j]?=some u->w.cell? (a.add j)=some u) (h1:∀ u∈news,u.oneCell'=true)
  (CD:yq+m<=Lp) (xk:yq * i.size+news.length<=cur.size) :
  (Builtin.append_ #[t,t] ty #[.slice (some ⟨b,0,none⟩) yq Lp,.slice (some a) m c]).run P w =
   .ok (.slice (some ⟨b,0,none⟩) (yq+m) Lp) (w.setRow b (cur.toList.take (yq * i.size)++news++cur.toList.drop (yq * i.size+news.length)).toArray):=by
 have aT:=run_firstCells_some (P:=P) w i.size m a m c news ah sf;have bU:=run_storeCells_at P b (yq * i.size) b1 news 0 cur w aP (by simpa using xk) h1;simp only [Nat.add_zero] at bU;simp [Builtin.append_,run_underlying ar,sizeOf,typeInfo,hi,Builtin.lenOf,CD,aT,Addr.add_lit,bU]
theorem GK (t ty e b1:TypeId) (i:TypeInfo) (cW:Value) (ar:P.underlying t=some (.slice e)) (hi:P.info? e=some i) (aX:i.zero=some cW) (lT:cW.cells.size=i.size) (_h0:0<i.size)
  {bv:Value}{n m c:Nat}{us news:List Value}(kE:w.ownsRow 0 b1 i.size bv n us) {a:Option Addr}(aI:0<m->a.isSome=true)
  (ah:news.length=m * i.size) (sf:∀ ad,a=some ad->∀ (j:Nat) (u:Value),news[j]?=some u->w.cell? (ad.add j)=some u) (h1:∀ u∈news,u.oneCell'=true)
  (o3:n+m<=maxLen) (zB:(n+m) * i.bytes<=140737488355328) :
  ∃ dH w' b3,(Builtin.append_ #[t,t] ty #[bv,.slice a m c]).run P w=.ok dH w'/\A8 w w' bv dH b1 b3 i.size n m us news:=by
 have ny:=kE.1;by_cases hm:m=0
 ·subst hm;have aB:news=[]:=List.eq_nil_of_length_eq_zero (by simpa using ah);subst aB;refine ⟨bv,w,b1,?_,.same kE (λ_ _=>rfl) (Nat.le_refl _) rfl rfl rfl (by simpa using kE) (λc aa=>.inl aa) λ_=>rfl⟩;obtain ⟨_,bP⟩:=kE;rcases bP with ⟨rfl,rfl⟩ | ⟨b,cap,cur,rfl,_,aP,hle,_⟩
  ·cases a <;> simp [Builtin.append_,run_underlying ar,sizeOf,typeInfo,hi,Builtin.lenOf,Builtin.firstCells,loadCells,loadCellsFrom]
  ·cases a <;> simp [Builtin.append_,run_underlying ar,sizeOf,typeInfo,hi,Builtin.lenOf,Builtin.firstCells,loadCells,loadCellsFrom,hle,storeCells]
 ·cases a with
  | none=>simp at aI; omega
  | some ad =>
   replace sf:=sf ad rfl;have afj:n+m<=9223372036854775807:=by simp only [maxLen] at o3; omega
   have grown:∀ (mU:Nat),mU<n+m ->
     (w.drew.alloc (.cells (us.toArray++news.toArray++Builtin.zeroCells cW.cells (grownCap w (n+m) mU e - (n+m))) e)).ownsRow 0 e i.size (.slice (some ⟨w.heap.size,0,none⟩) (n+m) (grownCap w (n+m) mU e)) (n+m) (us++news):=by
    intro mU aW;have dF:=grownCap_ge w (n+m) mU e;have hlen:(us++news).length=(n+m) * i.size:=by rw [List.length_append,ny,ah,Nat.add_mul]
    refine ⟨hlen,.inr ⟨w.heap.size,_,_,rfl,Nat.zero_le _,q7 w.drew _,dF,grownCap_le_maxLen w (n+m) mU e o3,?_,?_⟩⟩
    ·simp only [Array.size_append,List.size_toArray,size_zeroCells,lT,ny,ah,<- Nat.add_mul];congr 1;omega
    ·simp only [Array.toList_append,List.append_assoc];rw [<- List.append_assoc,<- hlen];exact List.take_left
   have JV:=kE;obtain ⟨_,bP⟩:=kE;rcases bP with ⟨rfl,rfl⟩ | ⟨b,cap,cur,rfl,_,aP,hle,sa,eS,OY⟩
   ·have J:us=[]:=List.eq_nil_of_length_eq_zero (by simpa using ny);subst J;have hr:=run_append_nil (P:=P) w t ty e i cW ar hi aX ad m c news ah sf (by omega) (by omega) (by simp only [Nat.zero_add] at zB; omega);have sc:=grown 0 (by omega);simp only [Nat.zero_add,List.nil_append,Array.empty_append] at sc;exact ⟨_,_,e,hr,.same JV (λc aa=>alloc_old w.drew _ c aa) (by simp) rfl rfl rfl (by simpa using sc) (λc aa=>.inr (by simp [Value.ownBlock] at aa; omega)) (λa=>IG w.drew _ _ a)⟩
   ·by_cases CD:n+m<=cap
    ·have xk:n * i.size+news.length<=cur.size:=by rw [ah,eS,<- Nat.add_mul]; exact Nat.mul_le_mul_right _ CD
     have hr:=aam (P:=P) (w:=w) t ty e b1 i ar hi b n cap cur aP ad m c news ah sf h1 CD xk;have hlen:(us++news).length=(n+m) * i.size:=by rw [List.length_append,ny,ah,Nat.add_mul]
     have fz:(cur.toList.take (n * i.size)++news++cur.toList.drop (n * i.size+news.length)).toArray.size=cur.size:=by
      simp only [List.size_toArray,List.length_append,List.length_take,List.length_drop,Array.length_toList];omega
     have fA:(cur.toList.take (n * i.size)++news++cur.toList.drop (n * i.size+news.length)).take (n * i.size)=cur.toList.take (n * i.size):=by
      rw [List.append_assoc];exact List.take_left' (by simp; omega)
     refine ⟨_,_,b1,hr,⟨⟨ny,.inr ⟨b,cap,_,rfl,Nat.zero_le _,setRow_heap w b cur _ b1 _ aP,hle,sa,fz.trans eS,?_⟩⟩,⟨hlen,.inr ⟨b,cap,_,rfl,Nat.zero_le _,setRow_heap w b cur _ b1 _ aP,CD,sa,fz.trans eS,?_⟩⟩,
      ⟨rfl,rfl,rfl,by simp,λk _ hk=>setRow_other w b k _ (λe=>hk (by simp [Value.ownBlock,e])),λa _ _=>NM w b _ a,Nat.le_refl _⟩,λc aa=>.inl aa,λc aa=>?_⟩⟩
     ·rw [<- OY]; exact fA
     ·rw [OY,<- hlen];exact List.take_left
     ·simp only [Value.ownBlock,Option.some.injEq] at aa;subst aa;exact ⟨cur,_,aP,setRow_heap w b cur _ b1 _ aP,fz,fA⟩
    ·have holds:∀ (j:Nat) (u:Value),us[j]?=some u->w.cell? ((⟨b,0,none⟩:Addr).add j)=some u:=JV.cells (g:=b) rfl;have hr:=run_append_grow (P:=P) w t ty e i cW ar hi aX ⟨b,0,none⟩ n cap us ny holds ad m c news ah sf (by omega) (by omega) (growslice_fits (by omega) zB);have sc:=grown cap (by omega);exact ⟨_,_,e,hr,.same JV (λc aa=>alloc_old w.drew _ c aa) (by simp) rfl rfl rfl sc (λc aa=>.inr (by simp [Value.ownBlock] at aa; omega)) (λa=>IG w.drew _ _ a)⟩
end
section
variable {w w':World}{I:a'}{ρ ρ':ab->Value->Prop}
theorem R.kids {x:ab}{v:Value}{F:a'}(h:R w I ρ x v F) (J:x.kids≠[]):∃ Fs:Nat->a',
  (∀ k y,x.kids[k]?=some y->∃ u,child w v k=some u/\R w I ρ y u (Fs k))/\(∀ (j k c:Nat),j<x.kids.length->k<x.kids.length->Fs j c->Fs k c->j=k) /\
  (∀ k c,k<x.kids.length->Fs k c->F c)/\(∀ z n cs,x=.own z n cs->∀ c,v.ownBlock=some c->∀ k,k<x.kids.length->¬ Fs k c):=by
 cases h with
 | @own z n cs _ e us Fs _ aW ah h1 hr aO au aH =>
  refine ⟨Fs,λk y hk=>?_,aO,λk c hk aa=>(aH c).2 (.inr ⟨k,hk,aa⟩),λ_ _ _ _ c aa k hk h=>au k c hk h aa⟩;simp only [ab.kids] at hk;have aN:k<cs.length:=(List.getElem?_eq_some_iff.1 hk).1;have hu:us[k]?=some us[k]:=List.getElem?_eq_getElem (ah ▸ aN)
  grind [pf]
 | @obj cs b e arr Fs _ aW ah h1 hr aO au aH =>
  refine ⟨Fs,λk y hk=>?_,aO,λk c hk aa=>(aH c).2 (.inr ⟨k,hk,aa⟩),λ_ _ _ h=>by simp at h⟩;simp only [ab.kids] at hk;have aN:k<cs.length:=(List.getElem?_eq_some_iff.1 hk).1;have hu:arr[k]?=some arr[k]:=Array.getElem?_eq_getElem (ah ▸ aN);exact ⟨_,by simp [child,World.cell?,aW,hu],hr k y _ hk hu⟩
 | @agg cs vs Fs _ ah h1 hr aO aH =>
  refine ⟨Fs,λk y hk=>?_,aO,λk c hk aa=>(aH c).2 ⟨k,hk,aa⟩,λ_ _ _ h=>by simp at h⟩;simp only [ab.kids] at hk;have aN:k<cs.length:=(List.getElem?_eq_some_iff.1 hk).1
  simp_all [child]
 | @bS cs vs Fs _ ah hr aO aH =>
  refine ⟨Fs,λk y hk=>?_,aO,λk c hk aa=>(aH c).2 ⟨k,hk,aa⟩,λ_ _ _ h=>by simp at h⟩;simp only [ab.kids] at hk;have aN:k<cs.length:=(List.getElem?_eq_some_iff.1 hk).1
  simp_all [child]
 | ref e8=>cases x <;> simp [ab.isRef,ab.kids] at e8 J
 | _=>simp [ab.kids] at J
theorem ab.u_ {x y:ab}{k:Nat}{p:List Nat}(h:x.at (k::p)=some y):∃ c,x.kids[k]?=some c/\c.at p=some y:=by
 grind [ab.at]
theorem R.K0 {b:Nat}:∀ (q r:List Nat) {x:ab}{v:Value}{F:a'}{z n bR cr:Nat}{cs cs':List ab}{mZ Ei:Value},R w I ρ x v F->x.at q=some (.own z n cs)->x.at r=some (.own bR cr cs') ->
  walk w v q=some mZ->walk w v r=some Ei->mZ.ownBlock=some b->Ei.ownBlock=some b->q=r
 | [],[],_,_,_,_,_,_,_,_,_,_,_,_,_,_,_,_,_,_=>rfl
 | [],k::r,x,v,F,z,n,bR,cr,cs,cs',mZ,Ei,h,a8,hr,qO,wr,zj,zk=>by
  obtain ⟨c,hk,aa⟩:=ab.u_ hr;simp only [ab.at,Option.some.injEq] at a8;simp only [walk,Option.some.injEq] at qO;subst a8 qO;have aN:k<(ab.own z n cs).kids.length:=(List.getElem?_eq_some_iff.1 hk).1;obtain ⟨Fs,h1,af,aD,bm⟩:=h.kids (by intro e; rw [e] at aN; simp at aN);obtain ⟨u,hu,nt⟩:=h1 k c hk;simp only [walk,hu] at wr;obtain ⟨hY,cu,hw,ds,c_,_⟩:=R.focus r nt aa;rw [hw] at wr;cases wr;exact absurd (c_ b (ds.rA b zk)) (bm z n cs rfl b zj k aN)
 | j::q,[],x,v,F,z,n,bR,cr,cs,cs',mZ,Ei,h,a8,hr,qO,wr,zj,zk=>by
  obtain ⟨c,hk,aa⟩:=ab.u_ a8;simp only [ab.at,Option.some.injEq] at hr;simp only [walk,Option.some.injEq] at wr;subst hr wr;have aN:j<(ab.own bR cr cs').kids.length:=(List.getElem?_eq_some_iff.1 hk).1;obtain ⟨Fs,h1,af,aD,bm⟩:=h.kids (by intro e; rw [e] at aN; simp at aN);obtain ⟨u,hu,nt⟩:=h1 j c hk;simp only [walk,hu] at qO;obtain ⟨hY,cu,hw,ds,c_,_⟩:=R.focus q nt aa;rw [hw] at qO;cases qO;exact absurd (c_ b (ds.rA b zj)) (bm bR cr cs' rfl b zk j aN)
 | j::q,k::r,x,v,F,z,n,bR,cr,cs,cs',mZ,Ei,h,a8,hr,qO,wr,zj,zk=>by
  obtain ⟨c,ag,aa⟩:=ab.u_ a8;obtain ⟨d,hk,aO⟩:=ab.u_ hr;have ez:j<x.kids.length:=(List.getElem?_eq_some_iff.1 ag).1;have dq:k<x.kids.length:=(List.getElem?_eq_some_iff.1 hk).1;obtain ⟨Fs,h1,af,aD,bm⟩:=h.kids (by intro e; rw [e] at ez; simp at ez);obtain ⟨u,hu,nt⟩:=h1 j c ag;obtain ⟨sK,hU,I5⟩:=h1 k d hk;simp only [walk,hu] at qO;simp only [walk,hU] at wr;by_cases gC:j=k
  ·subst gC;rw [ag] at hk; cases hk;rw [hu] at hU; cases hU;rw [R.K0 q r nt aa aO qO wr zj zk]
  ·exfalso;obtain ⟨hY,cu,hw,ds,c_,_⟩:=R.focus q nt aa;obtain ⟨abx,jd,vI,B5,V8,_⟩:=R.focus r I5 aO;rw [hw] at qO; cases qO;rw [vI] at wr; cases wr;exact gC (af j k b ez dq (c_ b (ds.rA b zj)) (V8 b (B5.rA b zk)))
theorem ab.Q1:∀ (q:List Nat) {x y:ab},x.at q=some y->x.setAt q y=x
 | [],x,y,h=>by simp [ab.at] at h; simp [ab.setAt,h]
 | k::q,x,y,h=>by
  obtain ⟨c,hk,aa⟩:=ab.u_ h;simp only [ab.setAt,hk,ab.Q1 q aa];have:∀ (l:List ab),l[k]?=some c->l.set k c=l:=by
   intro l ah;apply List.ext_getElem?;intro j;by_cases gC:k=j
   ·subst gC;have aN:k<l.length:=(List.getElem?_eq_some_iff.1 ah).1;rw [List.getElem?_set_self aN,ah]
   ·rw [List.getElem?_set_ne gC]
  cases x <;> simp [ab.kids] at hk <;> simp [ab.sG,this _ hk]
theorem El (w:World):∀ (p:List Nat) (v:Value) (r:List Nat),walk w v (p++r)=(walk w v p).bind λu=>walk w u r
 | [],v,r=>rfl
 | k::p,v,r=>by
  simp only [List.cons_append,walk];cases child w v k with
  | none=>rfl
  | some u=>exact El w p u r
theorem ab.HL:∀ (p:List Nat) (x:ab) (r:List Nat),x.at (p++r)=(x.at p).bind λy=>y.at r
 | [],x,r=>rfl
 | k::p,x,r=>by
  simp only [List.cons_append,ab.at];cases x.kids[k]? with
  | none=>rfl
  | some u=>exact ab.HL p u r
structure EM (w w':World) (b M:Nat):Prop where
 other:∀ c,c<w.heap.size->c≠b->w'.heap[c]?=w.heap[c]?
 here:∃ (arr jg:Array Value) (e:TypeId),w.heap[b]?=some (.cells arr e (0,0))/\w'.heap[b]?=some (.cells jg e (0,0))/\jg.size=arr.size/\jg.toList.take M=arr.toList.take M
theorem EM.row {b M:Nat}(s:EM w w' b M) {e:TypeId}{z n:Nat}{v:Value}{us:List Value}(h:w.ownsRow 0 e z v n us) (aB:v.ownBlock=some b->n * z<=M):w'.ownsRow 0 e z v n us:=by
 by_cases au:v.ownBlock=some b
 ·obtain ⟨arr,jg,b9,h1,af,aD,bm⟩:=s.here;obtain ⟨hu,bP⟩:=h;rcases bP with ⟨rfl,rfl⟩ | ⟨g,cap,cur,rfl,aP,aa,uJ,hE,wg,ym⟩
  ·grind [Value.ownBlock]
  ·simp only [Value.ownBlock,Option.some.injEq] at au;subst au;rw [h1] at aa;cases aa;refine ⟨hu,.inr ⟨g,cap,jg,rfl,aP,af,uJ,hE,by omega,?_⟩⟩;rw [<- ym];have:=congrArg (List.take (n * z)) bm
   rwa [List.take_take,List.take_take,Nat.min_eq_left (aB rfl)] at this
 ·exact uA h λc aa=>s.other c (h.lt c aa).2 λe=>au (e ▸ aa)
theorem R.spare {b M:Nat}(s:EM w w' b M) (bf:∀ c,I c->c<w.heap.size/\c≠b) (lU:∀ x v,ρ x v->ρ' x v) {x:ab}{v:Value}{F:a'}(h:R w I ρ x v F) {q:List Nat}{z n:Nat}{cs:List ab}{hY:Value}
  (fD:x.at q=some (.own z n cs)) (hw:walk w v q=some hY) (au:hY.ownBlock=some b) (aB:n * z<=M) :
  R w' I ρ' x v F/\∀ r y,x.at r=some y->walk w' v r=walk w v r:=by
 obtain ⟨abx,cu,vI,ds,c_,e5,kr⟩:=R.focus q h fD;rw [hw] at vI;cases vI;have nY:cu b:=ds.rA b au;have aN:=h.lt;have same:∀ c,F c->c≠b->w'.heap[c]?=w.heap[c]?:=λc aa cO=>s.other c (aN c aa) cO;have aeN:=ds;cases ds with
 | ref J=>simp [ab.isRef] at J
 | @own _ _ _ _ e us Fs _ aW ah h1 hr aO iT aH =>
  have mg:=s.row aW λ_=>aB;have cO:∀ k c,k<cs.length->Fs k c->c≠b:=λk c hk aa e=>iT k c hk aa (e ▸ au);have jn:∀ k c,k<cs.length->Fs k c->F c:=λk c hk aa=>c_ c ((aH c).2 (.inr ⟨k,hk,aa⟩));have se:R w' I ρ' (.own z n cs) hY cu:=by
   refine .own mg ah h1 (λk x u J hu=>?_) aO iT aH;have hk:k<cs.length:=(List.getElem?_eq_some_iff.1 J).1;exact (hr k x u J hu).frame (λc aa=>s.other c (bf c aa).1 (bf c aa).2) (λ_ h=>h) lU λc aa=>same c (jn k c hk aa) (cO k c hk aa)
  constructor
  ·obtain ⟨cQ,h6,oD⟩:=kr w' I ρ' _ cu ⟨λc aa=>s.other c (bf c aa).1 (bf c aa).2,λc aa aB=>same c aa λe=>aB (e ▸ nY),λ_ h=>h,lU⟩ se (λc aa _=>aa) λ_ h=>by cases h
   rw [ab.Q1 q fD] at h6;refine h6.zr λc=>?_;rw [oD c];constructor
   ·rintro (⟨h,_⟩ | h)
    ·exact h
    ·exact c_ c h
   ·intro h;by_cases aa:cu c
    ·exact .inr aa
    ·exact .inl ⟨h,aa⟩
  ·obtain ⟨ik,hs⟩:=e5 w' λc aa aB=>same c aa λe=>aB (e ▸ nY);intro r y dG;rcases hs r y dG with ⟨c',rfl⟩ | h
   ·rw [El,El,ik,hw];simp only [Option.bind_some];cases c' with
    | nil=>rfl
    | cons k c' =>
     rw [ab.HL,fD] at dG;obtain ⟨c,hk,aa⟩:=ab.u_ (x:=.own z n cs) dG;simp only [ab.kids] at hk;have dq:k<cs.length:=(List.getElem?_eq_some_iff.1 hk).1;have hu:us[k]?=some us[k]:=List.getElem?_eq_getElem (ah ▸ dq);have:=R.p1 (w':=w') c' (hr k c _ hk hu) aa λc aa=>same c (jn k c dq aa) (cO k c dq aa);simp [walk,pf aW hu,pf mg hu,this]
   ·exact h
end
end Go.Own
