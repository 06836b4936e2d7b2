/- Parts of the proof that the last text states. -/
import Derived.Orders
import Derived.WalkKit
namespace Go.Own
open Go
structure Place where
 root:Nat
 path:List Nat
 deriving DecidableEq,Repr
def Place.push (p:Place) (k:Nat):Place:=⟨p.root,p.path++[k]⟩
inductive ab where
 | lit (v:Value)
 | aQ
 | bm (z n:Nat) (cs:List ab)
 | own (z n:Nat) (cs:List ab)
 | obj (cs:List ab)
 | agg (cs:List ab)
 | bQ (cs:List ab)
 | cO (cs:List ab)
 | ptr (p:Place) (k:Nat)
 | bg (z:Nat) (p:Place) (n:Nat)
 | sub (z:Nat) (p:Place) (lo n:Nat)
 | bB (z:Nat) (p:Place) (n m:Nat) (new:List ab)
 | dj (fn:Fn) (first caps:List ab)
 | mp (p:Array MapEntry->Nat->Prop)
 | hr (p:Place)
 | imp (p:Array MapEntry->Nat->Prop)
 | dead
 | self (k:Nat × Nat)
 | eR (t:Nat) (us:List Value)
 deriving Inhabited
def qH (cs:List ab):Prop:=∀ (k:Nat) (J:Nat × Nat),cs[k]?≠some (.self J)
def sn (x:ab):Prop:=∀ cs,x=.agg cs->qH cs
abbrev a8:=Nat->Prop
def ab.isRef:ab->Bool
 | .ptr .. | .bg .. | .sub .. | .hr ..=>true
 | _=>false
inductive R (w:World) (I:a8) (ρ:ab->Value->Prop):ab->Value->a8->Prop
 | lit {v:Value}{F:a8}(hv:v.oneCell'=true) (aH:∀ c,¬ F c):R w I ρ (.lit v) v F
 | aQ {F:a8}(aH:∀ c,¬ F c):R w I ρ .aQ (.slice none 0 0) F
 | dead {v:Value}{F:a8}(aH:∀ c,¬ F c):R w I ρ .dead v F
 | eR {t:Nat}{us:List Value}{v:Value}{F:a8}(aU:w.ownsRow 0 t 1 v us.length us) (h1:v.oneCell'=true) (aH:∀ c,F c↔v.ownBlock=some c):R w I ρ (.eR t us) v F
 | l3 {k:Nat × Nat}{v:Value}{F:a8}(aH:∀ c,¬ F c):R w I ρ (.self k) v F
 | ref {x:ab}{v:Value}{F:a8}(j:x.isRef=true) (h:ρ x v) (aH:∀ c,¬ F c):R w I ρ x v F
 | hz {z cap:Nat}{a:Option Addr}{F:a8}(aH:∀ c,¬ F c):R w I ρ (.bm z 0 []) (.slice a 0 cap) F
 | bm {z n cap:Nat}{cs:List ab}{ad:Addr}{us:Nat->Value}{F:a8}(aH:∀ c,¬ F c) (k2:n<=cap) (bb:I ad.block) (ay:ad.spot=none) (aj:cs.length=n * z) (h1:∀ (k:Nat) (x:ab),cs[k]?=some x->(us k).oneCell'=true)
   (aa:∀ (k:Nat) (x:ab),cs[k]?=some x->w.cell? ⟨ad.block,ad.off+k,none⟩=some (us k)) (ah:∀ (k:Nat) (x:ab),cs[k]?=some x->R w I ρ x (us k) (λ_=>False)) :
   R w I ρ (.bm z n cs) (.slice (some ad) n cap) F
 | cO {cs:List ab}{ad:Addr}{us:Nat->Value}{F:a8}(aH:∀ c,¬ F c) (bb:I ad.block) (ay:ad.spot=none) (h1:∀ (k:Nat) (x:ab),cs[k]?=some x->(us k).oneCell'=true)
   (aa:∀ (k:Nat) (x:ab),cs[k]?=some x->w.cell? ⟨ad.block,ad.off+k,none⟩=some (us k)) (ah:∀ (k:Nat) (x:ab),cs[k]?=some x->R w I ρ x (us k) (λ_=>False)) :
   R w I ρ (.cO cs) (.pointer (some ad)) F
 | own {z n:Nat}{cs:List ab}{v:Value}{e:TypeId}{us:List Value}{Fs:Nat->a8}{F:a8}
   (aU:w.ownsRow 0 e z v n us) (aj:cs.length=us.length) (h1:∀ (k:Nat) (u:Value),us[k]?=some u->u.oneCell'=true)
   (ah:∀ (k:Nat) (x:ab) (u:Value),cs[k]?=some x->us[k]?=some u->R w I ρ x u (Fs k))
   (aP:∀ (J k c:Nat),J<cs.length->k<cs.length->Fs J c->Fs k c->J=k) (av:∀ (k c:Nat),k<cs.length->Fs k c->v.ownBlock≠some c)
   (aH:∀ c,F c↔v.ownBlock=some c\/∃ k,k<cs.length/\Fs k c):R w I ρ (.own z n cs) v F
 | obj {cs:List ab}{b:Nat}{e:TypeId}{arr:Array Value}{Fs:Nat->a8}{F:a8}
   (aU:w.heap[b]?=some (.cells arr e (0,0))) (aj:cs.length=arr.size) (h1:∀ (k:Nat) (u:Value),arr[k]?=some u->u.oneCell'=true)
   (ah:∀ (k:Nat) (x:ab) (u:Value),cs[k]?=some x->arr[k]?=some u->R w I ρ x u (Fs k))
   (aP:∀ (J k c:Nat),J<cs.length->k<cs.length->Fs J c->Fs k c->J=k) (av:∀ (k:Nat),k<cs.length->¬ Fs k b)
   (aH:∀ c,F c↔c=b\/∃ k,k<cs.length/\Fs k c) (ay:∀ (k:Nat) (J:Nat × Nat) (u:Value),cs[k]?=some (.self J)->arr[k]?=some u->(u=.pointer none/\e=J.2)\/u=.pointer (some ⟨b,J.1,none⟩)):R w I ρ (.obj cs) (.pointer (some ⟨b,0,none⟩)) F
 | agg {cs:List ab}{vs:Array Value}{Fs:Nat->a8}{F:a8}(aj:cs.length=vs.size) (h1:∀ (k:Nat) (u:Value),vs[k]?=some u->u.oneCell'=true)
   (ah:∀ (k:Nat) (x:ab) (u:Value),cs[k]?=some x->vs[k]?=some u->R w I ρ x u (Fs k))
   (aP:∀ (J k c:Nat),J<cs.length->k<cs.length->Fs J c->Fs k c->J=k)
   (aH:∀ c,F c↔∃ k,k<cs.length/\Fs k c):R w I ρ (.agg cs) (.agg vs) F
 | bQ {cs:List ab}{vs:Array Value}{Fs:Nat->a8}{F:a8}(aj:cs.length=vs.size)
   (ah:∀ (k:Nat) (x:ab) (u:Value),cs[k]?=some x->vs[k]?=some u->R w I ρ x u (Fs k))
   (aP:∀ (J k c:Nat),J<cs.length->k<cs.length->Fs J c->Fs k c->J=k)
   (aH:∀ c,F c↔∃ k,k<cs.length/\Fs k c):R w I ρ (.bQ cs) (.tuple vs) F
 | dj {fn:Fn}{first caps:List ab}{v1 v2:Array Value}{F:a8}(aH:∀ c,¬ F c) (h1:first.length=v1.size) (af:caps.length=v2.size)
   (h9:∀ (k:Nat) (x:ab) (u:Value),first[k]?=some x->v1[k]?=some u->R w I ρ x u (λ_=>False))
   (hN:∀ (k:Nat) (x:ab) (u:Value),caps[k]?=some x->v2[k]?=some u->R w I ρ x u (λ_=>False)):R w I ρ (.dj fn first caps) (.func fn v1 v2) F
 | mp {p:Array MapEntry->Nat->Prop}{b:Nat}{es:Array MapEntry}{clock:Nat}{F:a8}(aU:w.heap[b]?=some (.map es clock)) (au:p es clock) (aH:∀ c,F c↔c=b):R w I ρ (.mp p) (.map (some b)) F
 | imp {p:Array MapEntry->Nat->Prop}{b:Nat}{es:Array MapEntry}{clock:Nat}{F:a8}(aH:∀ c,¬ F c) (bb:I b) (aU:w.heap[b]?=some (.map es clock)) (au:p es clock):R w I ρ (.imp p) (.map (some b)) F
theorem R.y5 {w:World}{I:a8}{ρ:ab->Value->Prop}{x:ab}{v:Value}{F cY:a8}(h:R w I ρ x v F) (aH:∀ c,F c↔cY c):R w I ρ x v cY:=by
 have:F=cY:=funext λc=>propext (aH c)
 grind
theorem R.lt {w:World}{I:a8}{ρ:ab->Value->Prop}{x:ab}{v:Value}{F:a8}(h:R w I ρ x v F):∀ c,F c->c<w.heap.size:=by
 induction h with
 | lit _ aH | aQ aH | dead aH | l3 aH | ref _ _ aH | hz aH | bm aH | cO aH | dj aH | imp aH=>exact λc aa=>absurd aa (aH c)
 | eR aU _ aH=>exact λc aa=>(aU.lt c ((aH c).1 aa)).2
 | mp aU _ aH=>exact λc aa=>by rw [(aH c).1 aa]; exact (Array.getElem?_eq_some_iff.1 aU).1
 | own aU aj h1 ah aP av aH aM =>
  intro c aa;rcases (aH c).1 aa with h | ⟨k,hk,h⟩
  ·exact (aU.lt c h).2
  ·exact aM k _ _ (List.getElem?_eq_getElem hk) (List.getElem?_eq_getElem (aj ▸ hk)) c h
 | obj aU aj h1 ah aP av aH ay aM =>
  intro c aa;rcases (aH c).1 aa with rfl | ⟨k,hk,h⟩
  ·exact (Array.getElem?_eq_some_iff.1 aU).1
  ·exact aM k _ _ (List.getElem?_eq_getElem hk) (Array.getElem?_eq_getElem (aj ▸ hk)) c h
 | agg aj h1 ah aP aH aM =>
  intro c aa;obtain ⟨k,hk,h⟩:=(aH c).1 aa;exact aM k _ _ (List.getElem?_eq_getElem hk) (Array.getElem?_eq_getElem (aj ▸ hk)) c h
 | bQ aj ah aP aH aM =>
  intro c aa;obtain ⟨k,hk,h⟩:=(aH c).1 aa;exact aM k _ _ (List.getElem?_eq_getElem hk) (Array.getElem?_eq_getElem (aj ▸ hk)) c h
theorem r' {w w':World}{e:TypeId}{z n:Nat}{v:Value}{us:List Value}(h:w.ownsRow 0 e z v n us) (av:∀ c,v.ownBlock=some c->w'.heap[c]?=w.heap[c]?):w'.ownsRow 0 e z v n us:=by
 obtain ⟨h1,af⟩:=h;refine ⟨h1,?_⟩;rcases af with af | ⟨g,cap,cur,rfl,aN,bG,rest⟩
 ·grind
 ·exact .inr ⟨g,cap,cur,rfl,aN,by rw [av g rfl]; exact bG,rest⟩
theorem R.frame {w w':World}{I I':a8}{ρ ρ':ab->Value->Prop}{x:ab}{v:Value}{F:a8}(h:R w I ρ x v F)
  (bb:∀ c,I c->w'.heap[c]?=w.heap[c]?) (nU:∀ c,I c->I' c) (lA:∀ x v,ρ x v->ρ' x v) :
  (∀ c,F c->w'.heap[c]?=w.heap[c]?)->R w' I' ρ' x v F:=by
 induction h with
 | lit hv aH=>exact λ_=>.lit hv aH
 | aQ aH=>exact λ_=>.aQ aH
 | dead aH=>exact λ_=>.dead aH
 | l3 aH=>exact λ_=>.l3 aH
 | ref j h aH=>exact λ_=>.ref j (lA _ _ h) aH
 | hz aH=>exact λ_=>.hz aH
 | bm aH k2 hi ay aj h1 aa ah aM =>
  exact λ_=>.bm aH k2 (nU _ hi) ay aj h1 (λk x hk=>(World.cell?_of_block (a:=⟨_,_,none⟩) (bb _ hi)).trans (aa k x hk)) λk x hk=>aM k x hk (λc aa=>aa.elim)
 | cO aH hi ay h1 aa ah aM =>
  exact λ_=>.cO aH (nU _ hi) ay h1 (λk x hk=>(World.cell?_of_block (a:=⟨_,_,none⟩) (bb _ hi)).trans (aa k x hk)) λk x hk=>aM k x hk (λc aa=>aa.elim)
 | own aU aj h1 ah aP av aH aM =>
  intro aS;refine .own (r' aU λc aa=>aS c ((aH c).2 (.inl aa))) aj h1 (λk x u j hu=>aM k x u j hu λc aa=>aS c ((aH c).2 (.inr ⟨k,?_,aa⟩))) aP av aH;exact (List.getElem?_eq_some_iff.1 j).1
 | obj aU aj h1 ah aP av aH ay aM =>
  intro aS;refine .obj ((aS _ ((aH _).2 (.inl rfl))).trans aU) aj h1 (λk x u j hu=>aM k x u j hu λc aa=>aS c ((aH c).2 (.inr ⟨k,?_,aa⟩))) aP av aH ay;exact (List.getElem?_eq_some_iff.1 j).1
 | agg aj h1 ah aP aH aM =>
  intro aS;refine .agg aj h1 (λk x u j hu=>aM k x u j hu λc aa=>aS c ((aH c).2 ⟨k,?_,aa⟩)) aP aH;exact (List.getElem?_eq_some_iff.1 j).1
 | bQ aj ah aP aH aM =>
  intro aS;refine .bQ aj (λk x u j hu=>aM k x u j hu λc aa=>aS c ((aH c).2 ⟨k,?_,aa⟩)) aP aH;exact (List.getElem?_eq_some_iff.1 j).1
 | imp aH hi aU au=>exact λ_=>.imp aH (nU _ hi) ((bb _ hi).trans aU) au
 | eR aU h1 aH=>exact λaS=>.eR (r' aU λc aa=>aS c ((aH c).2 aa)) h1 aH
 | mp aU au aH=>exact λaS=>.mp ((aS _ ((aH _).2 rfl)).trans aU) au aH
 | dj aH h1 af h9 hN fZ fQ=>exact λ_=>.dj aH h1 af (λk x u j hu=>fZ k x u j hu λc aa=>aa.elim) (λk x u j hu=>fQ k x u j hu λc aa=>aa.elim)
def ab.kids:ab->List ab
 | .own _ _ cs=>cs
 | .obj cs=>cs
 | .agg cs=>cs
 | .bQ cs=>cs
 | _=>[]
def ab.uM (x:ab) (k:Nat) (y:ab):ab :=
 match x with
 | .own z n cs=>.own z n (cs.set k y)
 | .obj cs=>.obj (cs.set k y)
 | .agg cs=>.agg (cs.set k y)
 | .bQ cs=>.bQ (cs.set k y)
 | x=>x
def ab.at:ab->List Nat->Option ab
 | x,[]=>some x
 | x,k::p =>
  match x.kids[k]? with
  | some c=>c.at p
  | none=>none
def ab.setAt:ab->List Nat->ab->ab
 | _,[],y=>y
 | x,k::p,y =>
  match x.kids[k]? with
  | some c=>x.uM k (c.setAt p y)
  | none=>x
theorem ab.Zh {x y z:ab}{k:Nat}{J:Nat × Nat}{p:List Nat}(h:x.at (k::p)=some y):x.setAt (k::p) z≠.self J:=by
 intro e;simp only [ab.at,ab.setAt] at h e;cases hk:x.kids[k]? with
 | none=>rw [hk] at h; cases h
 | some c =>
  rw [hk] at e;cases x <;> simp [ab.uM,ab.kids] at e hk
def child (w:World) (v:Value) (k:Nat):Option Value :=
 match v with
 | .agg cs=>cs[k]?
 | .tuple cs=>cs[k]?
 | .slice (some a) _ _=>w.cell? ⟨a.block,a.off+k,none⟩
 | .pointer (some a)=>w.cell? ⟨a.block,a.off+k,none⟩
 | _=>none
def walk (w:World):Value->List Nat->Option Value
 | v,[]=>some v
 | v,k::p =>
  match child w v k with
  | some u=>walk w u p
  | none=>none
theorem oU {w:World}{e:TypeId}{z n:Nat}{v:Value}{us:List Value}(h:w.ownsRow 0 e z v n us) {k:Nat}{u:Value}(hu:us[k]?=some u):child w v k=some u:=by
 obtain ⟨h1,af⟩:=h;rcases af with ⟨rfl,rfl⟩ | ⟨g,cap,cur,rfl,aN,bG,aA,aa,ay,aq⟩
 ·grind
 ·rw [<- aq] at hu;rw [List.getElem?_take] at hu
  split at hu
  ·simpa [child,World.cell?,bG] using hu
  grind
theorem P2 {α:Type}{l:List α}{k J:Nat}{y x:α}(h:(l.set k y)[J]?=some x):(J=k/\x=y/\k<l.length)\/(J≠k/\l[J]?=some x):=by
 grind
structure Out (w w':World) (I I':a8) (ρ ρ':ab->Value->Prop) (F cn:a8):Prop where
 bm:∀ c,I c->w'.heap[c]?=w.heap[c]?
 rest:∀ c,F c->¬ cn c->w'.heap[c]?=w.heap[c]?
 more:∀ c,I c->I' c
 ref:∀ x v,ρ x v->ρ' x v
theorem Out.mono {w w':World}{I I':a8}{ρ ρ':ab->Value->Prop}{F cn cY jb:a8}(h:Out w w' I I' ρ ρ' F cn) (h1:∀ c,cY c->F c) (af:∀ c,cY c->¬ jb c->¬ cn c):Out w w' I I' ρ ρ' cY jb :=
 ⟨h.bm,λc aa aA=>h.rest c (h1 c aa) (af c aa aA),h.more,h.ref⟩
theorem R.outside {w w':World}{I I':a8}{ρ ρ':ab->Value->Prop}{F cn:a8}(o:Out w w' I I' ρ ρ' F cn) {x:ab}{v:Value}{G:a8}(h:R w I ρ x v G) (c_:∀ c,G c->F c/\¬ cn c):R w' I' ρ' x v G :=
 h.frame o.bm o.more o.ref λc aa=>o.rest c (c_ c aa).1 (c_ c aa).2
theorem E4 {w w':World}{I I':a8}{ρ ρ':ab->Value->Prop}{cs:List ab}{get:Nat->Option Value}{Fs:Nat->a8}{F cn:a8}
  (ah:∀ (k:Nat) (x:ab) (u:Value),cs[k]?=some x->get k=some u->R w I ρ x u (Fs k))
  (aP:∀ (J k c:Nat),J<cs.length->k<cs.length->Fs J c->Fs k c->J=k)
  (aH:∀ k c,k<cs.length->Fs k c->F c) {k:Nat}(hk:k<cs.length) (al:∀ c,cn c->Fs k c) (o:Out w w' I I' ρ ρ' F cn)
  {y:ab}{u:Value}{bW:a8}(hu:get k=some u) (aY:R w' I' ρ' y u bW) (eT:∀ c,bW c↔(Fs k c/\¬ cn c)\/(bW c/\¬ (F c/\¬ cn c))) :
  (∀ (J:Nat) (x:ab) (u:Value),(cs.set k y)[J]?=some x->get J=some u->R w' I' ρ' x u (if J=k then bW else Fs J)) /\
  (∀ (i J c:Nat),i<(cs.set k y).length->J<(cs.set k y).length->(if i=k then bW else Fs i) c->(if J=k then bW else Fs J) c->i=J):=by
 constructor
 ·intro J x wh j hP;rcases P2 j with ⟨rfl,rfl,aT⟩ | ⟨cA,j⟩
  ·grind
  ·rw [if_neg cA];have ai:J<cs.length:=(List.getElem?_eq_some_iff.1 j).1;exact (ah J x wh j hP).outside o λc aa=>⟨aH J c ai aa,λep=>cA (aP J k c ai hk aa (al c ep))⟩
 grind
theorem E5 {m:Nat}{Fs:Nat->a8}{bW cn jb:a8}{k:Nat}(hk:k<m)
  (aP:∀ (J k c:Nat),J<m->k<m->Fs J c->Fs k c->J=k) (al:∀ c,cn c->Fs k c) (eT:∀ c,bW c↔(Fs k c/\¬ cn c)\/jb c) (c:Nat) :
  (∃ J,J<m/\(if J=k then bW else Fs J) c)↔((∃ J,J<m/\Fs J c)/\¬ cn c)\/jb c:=by
 grind
theorem R.pN {w w':World}{I:a8}{ρ:ab->Value->Prop}:∀ (r:List Nat) {x:ab}{v:Value}{F:a8}{y:ab},R w I ρ x v F->x.at r=some y ->
  (∀ c,F c->w'.heap[c]?=w.heap[c]?)->walk w' v r=walk w v r
 | [],_,_,_,_,_,_,_=>rfl
 | k::p,x,v,F,y,h,fz,aS=>by
  simp only [ab.at] at fz;cases hc:x.kids[k]? with
  | none=>rw [hc] at fz; cases fz
  | some sw =>
   rw [hc] at fz;simp only at fz;cases h with
   | @own z n cs _ e us Fs _ aU aj h1 ah aP av aH =>
    simp only [ab.kids] at hc;have hk:k<cs.length:=(List.getElem?_eq_some_iff.1 hc).1;have hu:us[k]?=some us[k]:=List.getElem?_eq_getElem (aj ▸ hk);have mL:=r' (w':=w') aU λc aa=>aS c ((aH c).2 (.inl aa));have:=R.pN (w':=w') p (ah k sw _ hc hu) fz λc aa=>aS c ((aH c).2 (.inr ⟨k,hk,aa⟩));simp [walk,oU aU hu,oU mL hu,this]
   | @obj cs b e arr Fs _ aU aj h1 ah aP av aH ay =>
    simp only [ab.kids] at hc;have hk:k<cs.length:=(List.getElem?_eq_some_iff.1 hc).1;have hu:arr[k]?=some arr[k]:=Array.getElem?_eq_getElem (aj ▸ hk);have mL:=(aS b ((aH b).2 (.inl rfl))).trans aU;have:=R.pN (w':=w') p (ah k sw _ hc hu) fz λc aa=>aS c ((aH c).2 (.inr ⟨k,hk,aa⟩));simp [walk,child,World.cell?,aU,mL,hu,this]
   | @agg cs vs Fs _ aj h1 ah aP aH =>
    simp only [ab.kids] at hc;have hk:k<cs.length:=(List.getElem?_eq_some_iff.1 hc).1;have hu:vs[k]?=some vs[k]:=Array.getElem?_eq_getElem (aj ▸ hk);have:=R.pN (w':=w') p (ah k sw _ hc hu) fz λc aa=>aS c ((aH c).2 ⟨k,hk,aa⟩);simp [walk,child,hu,this]
   | @bQ cs vs Fs _ aj ah aP aH =>
    simp only [ab.kids] at hc;have hk:k<cs.length:=(List.getElem?_eq_some_iff.1 hc).1;have hu:vs[k]?=some vs[k]:=Array.getElem?_eq_getElem (aj ▸ hk);have:=R.pN (w':=w') p (ah k sw _ hc hu) fz λc aa=>aS c ((aH c).2 ⟨k,hk,aa⟩);simp [walk,child,hu,this]
   | ref j _ _=>cases x <;> simp [ab.isRef,ab.kids] at j hc
   | _=>simp [ab.kids] at hc
theorem R.focus {w:World}{I:a8}{ρ:ab->Value->Prop}:∀ (q:List Nat) {x:ab}{v:Value}{F:a8}{y:ab},R w I ρ x v F->x.at q=some y ->
  ∃ ik cn,walk w v q=some ik/\R w I ρ y ik cn/\(∀ c,cn c->F c) /\
   (∀ (w':World),(∀ c,F c->¬ cn c->w'.heap[c]?=w.heap[c]?)->walk w' v q=some ik/\∀ r uT,x.at r=some uT->(∃ ck,r=q++ck)\/walk w' v r=walk w v r) /\
   ∀ (w':World) (I':a8) (ρ':ab->Value->Prop) (y':ab) (jb:a8),Out w w' I I' ρ ρ' F cn->R w' I' ρ' y' ik jb->(∀ c,jb c->F c->cn c)->(∀ J,y'=.self J->y=.self J) ->
    ∃ cY,R w' I' ρ' (x.setAt q y') v cY/\∀ c,cY c↔(F c/\¬ cn c)\/jb c
 | [],x,v,F,y,h,fz=>by
  simp only [ab.at,Option.some.injEq] at fz;subst fz;exact ⟨v,F,rfl,h,λ_ h=>h,λ_ _=>⟨rfl,λr _ _=>.inl ⟨r,rfl⟩⟩,λw' I' ρ' y' jb _ aY _ _=>⟨jb,aY,λc=>by simp⟩⟩
 | k::p,x,v,F,y,h,fz=>by
  simp only [ab.at] at fz;cases hc:x.kids[k]? with
  | none=>rw [hc] at fz; cases fz
  | some sw =>
   rw [hc] at fz;simp only at fz;have zq:∀ y',x.setAt (k::p) y'=x.uM k (sw.setAt p y'):=λy'=>by simp [ab.setAt,hc]
   cases h with
   | @own z n cs _ e us Fs _ aU aj h1 ah aP av aH =>
    simp only [ab.kids] at hc;have hk:k<cs.length:=(List.getElem?_eq_some_iff.1 hc).1;have hu:us[k]?=some us[k]:=List.getElem?_eq_getElem (aj ▸ hk);obtain ⟨ik,cn,hw,dB,di,eB,kO⟩:=R.focus p (ah k sw _ hc hu) fz;refine ⟨ik,cn,by simp [walk,oU aU hu,hw],dB,λc aa=>(aH c).2 (.inr ⟨k,hk,di c aa⟩),?_,?_⟩
    ·intro w' ay;have pt:∀ J c,J<cs.length->Fs J c->¬ cn c->w'.heap[c]?=w.heap[c]?:=λJ c ai aa aA=>ay c ((aH c).2 (.inr ⟨J,ai,aa⟩)) aA;obtain ⟨gH,fp⟩:=eB w' λc aa aA=>pt k c hk aa aA;have mL:=r' (w':=w') aU λc aa=>ay c ((aH c).2 (.inl aa)) λep=>av k c hk (di c ep) aa;refine ⟨by simp [walk,oU mL hu,gH],?_⟩;intro r uT dM;cases r with
     | nil=>exact .inr rfl
     | cons J r =>
      simp only [ab.at,ab.kids] at dM;cases ai:cs[J]? with
      | none=>rw [ai] at dM; cases dM
      | some wN =>
       rw [ai] at dM;simp only at dM;have eU:J<cs.length:=(List.getElem?_eq_some_iff.1 ai).1;have qU:us[J]?=some us[J]:=List.getElem?_eq_getElem (aj ▸ eU);by_cases fA:J=k
       ·subst fA;rw [hc] at ai;cases ai;rcases fp r uT dM with ⟨ck,rfl⟩ | h
        ·exact .inl ⟨ck,rfl⟩
        ·exact .inr (by simp [walk,oU aU hu,oU mL hu,h])
       ·have h:=R.pN (w':=w') r (ah J wN _ ai qU) dM λc aa=>pt J c eU aa λep=>fA (aP J k c eU hk aa (di c ep));exact .inr (by simp [walk,oU aU qU,oU mL qU,h])
    intro w' I' ρ' y' jb o jl mJ lS;have jk:∀ J c,J<cs.length->Fs J c->F c:=λJ c ai aa=>(aH c).2 (.inr ⟨J,ai,aa⟩);obtain ⟨bW,j',eT⟩:=kO w' I' ρ' y' jb (o.mono (λc aa=>jk k c hk aa) λc _ h=>h) jl (λc aa oG=>mJ c aa (jk k c hk oG)) lS;obtain ⟨dM,mi⟩:=E4 (get:=λJ=>us[J]?) ah aP jk hk di o hu j' λc=>by
     constructor
     ·intro h;rcases (eT c).1 h with h1 | h1
      ·exact .inl h1
      ·exact .inr ⟨h,λ⟨af,aJ⟩=>aJ (mJ c h1 af)⟩
     ·rintro (h1 | ⟨h1,_⟩)
      ·exact (eT c).2 (.inl h1)
      ·exact h1
    rw [zq];refine ⟨_,.own (Fs:=λJ=>if J=k then bW else Fs J) (r' aU λc aa=>o.rest c ((aH c).2 (.inl aa)) λep=>av k c hk (di c ep) aa) (by simpa using aj) h1 dM mi ?_ (λc=>Iff.rfl),λc=>?_⟩
    ·intro J c ai aa vz;rw [List.length_set] at ai;by_cases fA:J=k
     ·rw [if_pos fA] at aa;rcases (eT c).1 aa with ⟨h1,_⟩ | h1
      ·exact av k c hk h1 vz
      ·exact av k c hk (di c (mJ c h1 ((aH c).2 (.inl vz)))) vz
     ·rw [if_neg fA] at aa; exact av J c ai aa vz
    ·have hu:=E5 hk aP di eT c;simp only [List.length_set];rw [hu,aH c];have e6:v.ownBlock=some c->¬ cn c:=λh1 af=>av k c hk (di c af) h1;constructor
     ·rintro (h1 | ⟨h1,af⟩ | h1)
      ·exact .inl ⟨.inl h1,e6 h1⟩
      ·exact .inl ⟨.inr h1,af⟩
      ·exact .inr h1
     ·rintro (⟨h1 | h1,af⟩ | h1)
      ·exact .inl h1
      ·exact .inr (.inl ⟨h1,af⟩)
      ·exact .inr (.inr h1)
   | @obj cs b e arr Fs _ aU aj h1 ah aP av aH ay =>
    simp only [ab.kids] at hc;have hk:k<cs.length:=(List.getElem?_eq_some_iff.1 hc).1;have hu:arr[k]?=some arr[k]:=Array.getElem?_eq_getElem (aj ▸ hk);obtain ⟨ik,cn,hw,dB,di,eB,kO⟩:=R.focus p (ah k sw _ hc hu) fz;refine ⟨ik,cn,by simp [walk,child,World.cell?,aU,hu,hw],dB,λc aa=>(aH c).2 (.inr ⟨k,hk,di c aa⟩),?_,?_⟩
    ·intro w' ay;have pt:∀ J c,J<cs.length->Fs J c->¬ cn c->w'.heap[c]?=w.heap[c]?:=λJ c ai aa aA=>ay c ((aH c).2 (.inr ⟨J,ai,aa⟩)) aA;obtain ⟨gH,fp⟩:=eB w' λc aa aA=>pt k c hk aa aA;have mL:=(ay b ((aH b).2 (.inl rfl)) λep=>av k hk (di b ep)).trans aU;refine ⟨by simp [walk,child,World.cell?,mL,hu,gH],?_⟩;intro r uT dM;cases r with
     | nil=>exact .inr rfl
     | cons J r =>
      simp only [ab.at,ab.kids] at dM;cases ai:cs[J]? with
      | none=>rw [ai] at dM; cases dM
      | some wN =>
       rw [ai] at dM;simp only at dM;have eU:J<cs.length:=(List.getElem?_eq_some_iff.1 ai).1;have qU:arr[J]?=some arr[J]:=Array.getElem?_eq_getElem (aj ▸ eU);by_cases fA:J=k
       ·subst fA;rw [hc] at ai;cases ai;rcases fp r uT dM with ⟨ck,rfl⟩ | h
        ·exact .inl ⟨ck,rfl⟩
        ·exact .inr (by simp [walk,child,World.cell?,aU,mL,hu,h])
       ·have h:=R.pN (w':=w') r (ah J wN _ ai qU) dM λc aa=>pt J c eU aa λep=>fA (aP J k c eU hk aa (di c ep));exact .inr (by simp [walk,child,World.cell?,aU,mL,qU,h])
    intro w' I' ρ' y' jb o jl mJ lS;have jk:∀ J c,J<cs.length->Fs J c->F c:=λJ c ai aa=>(aH c).2 (.inr ⟨J,ai,aa⟩);obtain ⟨bW,j',eT⟩:=kO w' I' ρ' y' jb (o.mono (λc aa=>jk k c hk aa) λc _ h=>h) jl (λc aa oG=>mJ c aa (jk k c hk oG)) lS;obtain ⟨dM,mi⟩:=E4 (get:=λJ=>arr[J]?) ah aP jk hk di o hu j' λc=>by
     constructor
     ·intro h;rcases (eT c).1 h with h1 | h1
      ·exact .inl h1
      ·exact .inr ⟨h,λ⟨af,aJ⟩=>aJ (mJ c h1 af)⟩
     ·rintro (h1 | ⟨h1,_⟩)
      ·exact (eT c).2 (.inl h1)
      ·exact h1
    rw [zq];have oE:F b:=(aH b).2 (.inl rfl);have Ic:¬ cn b:=λh=>av k hk (di b h);refine ⟨_,.obj (Fs:=λJ=>if J=k then bW else Fs J) ((o.rest b oE Ic).trans aU) (by simpa using aj) h1 dM mi ?_ (λc=>Iff.rfl) (λi J u hi hP=>?_),λc=>?_⟩
    ·intro J ai aa;rw [List.length_set] at ai;by_cases fA:J=k
     ·rw [if_pos fA] at aa;rcases (eT b).1 aa with ⟨h1,_⟩ | h1
      ·exact av k hk h1
      ·exact Ic (mJ b h1 oE)
     ·rw [if_neg fA] at aa; exact av J ai aa
    ·rcases P2 hi with ⟨rfl,he,_⟩ | ⟨_,hi⟩
     ·refine ay _ J u ?_ hP;rw [hc];cases p with
      | nil =>
       simp only [ab.at,Option.some.injEq] at fz;rw [fz];exact congrArg some (lS J he.symm)
      | cons kJ Pb=>exact absurd he.symm (ab.Zh fz)
     ·exact ay i J u hi hP
    ·have hu:=E5 hk aP di eT c;simp only [List.length_set];rw [hu,aH c];constructor
     ·rintro (rfl | ⟨h1,af⟩ | h1)
      ·exact .inl ⟨.inl rfl,Ic⟩
      ·exact .inl ⟨.inr h1,af⟩
      ·exact .inr h1
     ·rintro (⟨h1 | h1,af⟩ | h1)
      ·exact .inl h1
      ·exact .inr (.inl ⟨h1,af⟩)
      ·exact .inr (.inr h1)
   | @agg cs vs Fs _ aj h1 ah aP aH =>
    simp only [ab.kids] at hc;have hk:k<cs.length:=(List.getElem?_eq_some_iff.1 hc).1;have hu:vs[k]?=some vs[k]:=Array.getElem?_eq_getElem (aj ▸ hk);obtain ⟨ik,cn,hw,dB,di,eB,kO⟩:=R.focus p (ah k sw _ hc hu) fz;refine ⟨ik,cn,by simp [walk,child,hu,hw],dB,λc aa=>(aH c).2 ⟨k,hk,di c aa⟩,?_,?_⟩
    ·intro w' ay;have pt:∀ J c,J<cs.length->Fs J c->¬ cn c->w'.heap[c]?=w.heap[c]?:=λJ c ai aa aA=>ay c ((aH c).2 ⟨J,ai,aa⟩) aA;obtain ⟨gH,fp⟩:=eB w' λc aa aA=>pt k c hk aa aA
     
     refine ⟨by simp [walk,child,hu,gH],?_⟩;intro r uT dM;cases r with
     | nil=>exact .inr rfl
     | cons J r =>
      simp only [ab.at,ab.kids] at dM;cases ai:cs[J]? with
      | none=>rw [ai] at dM; cases dM
      | some wN =>
       rw [ai] at dM;simp only at dM;have eU:J<cs.length:=(List.getElem?_eq_some_iff.1 ai).1;have qU:vs[J]?=some vs[J]:=Array.getElem?_eq_getElem (aj ▸ eU);by_cases fA:J=k
       ·subst fA;rw [hc] at ai;cases ai;rcases fp r uT dM with ⟨ck,rfl⟩ | h
        ·exact .inl ⟨ck,rfl⟩
        ·exact .inr (by simp [walk,child,hu,h])
       ·have h:=R.pN (w':=w') r (ah J wN _ ai qU) dM λc aa=>pt J c eU aa λep=>fA (aP J k c eU hk aa (di c ep));exact .inr (by simp [walk,child,qU,h])
    intro w' I' ρ' y' jb o jl mJ lS;have jk:∀ J c,J<cs.length->Fs J c->F c:=λJ c ai aa=>(aH c).2 ⟨J,ai,aa⟩;obtain ⟨bW,j',eT⟩:=kO w' I' ρ' y' jb (o.mono (λc aa=>jk k c hk aa) λc _ h=>h) jl (λc aa oG=>mJ c aa (jk k c hk oG)) lS;obtain ⟨dM,mi⟩:=E4 (get:=λJ=>vs[J]?) ah aP jk hk di o hu j' λc=>by
     constructor
     ·intro h;rcases (eT c).1 h with h1 | h1
      ·exact .inl h1
      ·exact .inr ⟨h,λ⟨af,aJ⟩=>aJ (mJ c h1 af)⟩
     ·rintro (h1 | ⟨h1,_⟩)
      ·exact (eT c).2 (.inl h1)
      ·exact h1
    rw [zq];refine ⟨_,.agg (Fs:=λJ=>if J=k then bW else Fs J) (by simpa using aj) h1 dM mi (λc=>Iff.rfl),λc=>?_⟩;have hu:=E5 hk aP di eT c;simp only [List.length_set];rw [hu,aH c]
   | @bQ cs vs Fs _ aj ah aP aH =>
    simp only [ab.kids] at hc;have hk:k<cs.length:=(List.getElem?_eq_some_iff.1 hc).1;have hu:vs[k]?=some vs[k]:=Array.getElem?_eq_getElem (aj ▸ hk);obtain ⟨ik,cn,hw,dB,di,eB,kO⟩:=R.focus p (ah k sw _ hc hu) fz;refine ⟨ik,cn,by simp [walk,child,hu,hw],dB,λc aa=>(aH c).2 ⟨k,hk,di c aa⟩,?_,?_⟩
    ·intro w' ay;have pt:∀ J c,J<cs.length->Fs J c->¬ cn c->w'.heap[c]?=w.heap[c]?:=λJ c ai aa aA=>ay c ((aH c).2 ⟨J,ai,aa⟩) aA;obtain ⟨gH,fp⟩:=eB w' λc aa aA=>pt k c hk aa aA
     
     refine ⟨by simp [walk,child,hu,gH],?_⟩;intro r uT dM;cases r with
     | nil=>exact .inr rfl
     | cons J r =>
      simp only [ab.at,ab.kids] at dM;cases ai:cs[J]? with
      | none=>rw [ai] at dM; cases dM
      | some wN =>
       rw [ai] at dM;simp only at dM;have eU:J<cs.length:=(List.getElem?_eq_some_iff.1 ai).1;have qU:vs[J]?=some vs[J]:=Array.getElem?_eq_getElem (aj ▸ eU);by_cases fA:J=k
       ·subst fA;rw [hc] at ai;cases ai;rcases fp r uT dM with ⟨ck,rfl⟩ | h
        ·exact .inl ⟨ck,rfl⟩
        ·exact .inr (by simp [walk,child,hu,h])
       ·have h:=R.pN (w':=w') r (ah J wN _ ai qU) dM λc aa=>pt J c eU aa λep=>fA (aP J k c eU hk aa (di c ep));exact .inr (by simp [walk,child,qU,h])
    intro w' I' ρ' y' jb o jl mJ lS;have jk:∀ J c,J<cs.length->Fs J c->F c:=λJ c ai aa=>(aH c).2 ⟨J,ai,aa⟩;obtain ⟨bW,j',eT⟩:=kO w' I' ρ' y' jb (o.mono (λc aa=>jk k c hk aa) λc _ h=>h) jl (λc aa oG=>mJ c aa (jk k c hk oG)) lS;obtain ⟨dM,mi⟩:=E4 (get:=λJ=>vs[J]?) ah aP jk hk di o hu j' λc=>by
     constructor
     ·intro h;rcases (eT c).1 h with h1 | h1
      ·exact .inl h1
      ·exact .inr ⟨h,λ⟨af,aJ⟩=>aJ (mJ c h1 af)⟩
     ·rintro (h1 | ⟨h1,_⟩)
      ·exact (eT c).2 (.inl h1)
      ·exact h1
    rw [zq];refine ⟨_,.bQ (Fs:=λJ=>if J=k then bW else Fs J) (by simpa using aj) dM mi (λc=>Iff.rfl),λc=>?_⟩;have hu:=E5 hk aP di eT c;simp only [List.length_set];rw [hu,aH c]
   | ref j _ _=>cases x <;> simp [ab.isRef,ab.kids] at j hc
   | _=>simp [ab.kids] at hc
end Go.Own
namespace Go.Own
open Go
abbrev aK:=Nat->Option ab
def bu (g:aK) (p:Place):Option ab :=
 match g p.root with
 | some x=>x.at p.path
 | none=>none
def dU (w:World) (T:Array Value) (p:Place):Option Value :=
 match T[p.root]? with
 | some v=>walk w v p.path
 | none=>none
def addrOf:Value->Option Addr
 | .slice (some a) _ _=>some a
 | .pointer (some a)=>some a
 | _=>none
def fH (w:World) (T:Array Value):ab->Value->Prop
 | .ptr p k,v=>∃ u a,dU w T p=some u/\addrOf u=some a/\v=.pointer (some ⟨a.block,a.off+k,none⟩)
 | .bg _ p n,v=>∃ a N cap,dU w T p=some (.slice a N cap)/\v=.slice a n cap/\n<=N
 | .sub z p lo n,v=>∃ a N cap bZ mF,dU w T p=some (.slice a N cap)/\v=.slice bZ n mF/\n<=mF/\lo+n<=N/\(0<n->∃ ad,a=some ad/\bZ=some ⟨ad.block,ad.off+lo * z,none⟩)
 | .bB _ p n _ _,v=>∃ a cap,dU w T p=some (.slice a n cap)/\v=.slice a n cap
 | .hr p,v=>∃ b,dU w T p=some (.map b)/\v=.map b
 | _,_=>False
def gZ (g:aK):ab->Prop
 | .ptr p k=>∃ y,bu g p=some y/\(∃ z n cs,(y=.own z n cs\/y=.obj cs)/\k<cs.length)
 | .bg z p n=>(∃ N cs,bu g p=some (.own z N cs)/\n<=N)\/(p.path=[]/\∃ q gU m new,g p.root=some (.bB z q gU m new)/\n=gU+m)
 | .sub z p lo n=>∃ N cs,bu g p=some (.own z N cs)/\lo+n<=N
 | .bB z p n _ _=>(∃ cs,bu g p=some (.own z n cs))\/(p.path=[]/\∃ q gU m new cs,g p.root=some (.bB z q gU m new)/\n=gU+m/\bu g q=some (.own z gU cs))
 | .hr p=>∃ q,bu g p=some (.mp q)
 | _=>False
def dR (w:World) (T:Array Value) (g:aK) (r:ab) (v:Value):Prop:=fH w T r v/\gZ g r
structure GA (w:World) (I:a8) (ρ:ab->Value->Prop) (z:Nat) (p:Place) (n m:Nat) (new:List ab) (v:Value) (F:a8) (bv:Value) (e b9:TypeId) (us news:List Value):Prop where
 kp:ρ (.bB z p n 0 []) bv
 iX:w.ownsRow 0 e z bv n us
 np:w.ownsRow 0 b9 z v (n+m) (us++news)
 aj:new.length=news.length
 h1:∀ (k:Nat) (u:Value),news[k]?=some u->u.oneCell'=true
 ah:∀ (k:Nat) (x:ab) (u:Value),new[k]?=some x->news[k]?=some u->R w I ρ x u (λ_=>False)
 aH:∀ c,F c↔v.ownBlock=some c/\bv.ownBlock≠some c
inductive jx (w:World) (I:a8) (ρ:ab->Value->Prop):ab->Value->a8->Prop
 | tree {x:ab}{v:Value}{F:a8}(h:R w I ρ x v F):jx w I ρ x v F
 | bB {z n m:Nat}{p:Place}{new:List ab}{v bv:Value}{e b9:TypeId}{us news:List Value}{F:a8}(h:GA w I ρ z p n m new v F bv e b9 us news):jx w I ρ (.bB z p n m new) v F
theorem R.k_ {w:World}{I:a8}{ρ:ab->Value->Prop}{z n m:Nat}{p:Place}{new:List ab}{v:Value}{F:a8}(h:R w I ρ (.bB z p n m new) v F):False:=by
 cases h with
 | ref j=>simp [ab.isRef] at j
theorem jx.hd {w:World}{I:a8}{ρ:ab->Value->Prop}{x:ab}{v:Value}{F:a8}(h:jx w I ρ x v F) (j:∀ z p n m new,x≠.bB z p n m new):R w I ρ x v F:=by
 cases h with
 | tree h=>exact h
 | bB=>exact absurd rfl (j _ _ _ _ _)
theorem jx.vG {w:World}{I:a8}{ρ:ab->Value->Prop}{z n m:Nat}{p:Place}{new:List ab}{v:Value}{F:a8}(h:jx w I ρ (.bB z p n m new) v F):∃ bv e b9 us news,GA w I ρ z p n m new v F bv e b9 us news:=by
 cases h with
 | tree h=>exact h.k_.elim
 | bB h=>exact ⟨_,_,_,_,_,h⟩
theorem jx.lt {w:World}{I:a8}{ρ:ab->Value->Prop}{x:ab}{v:Value}{F:a8}(h:jx w I ρ x v F):∀ c,F c->c<w.heap.size:=by
 cases h with
 | tree h=>exact h.lt
 | bB h=>exact λc aa=>(h.np.lt c ((h.aH c).1 aa).1).2
theorem jx.frame {w w':World}{I I':a8}{ρ ρ':ab->Value->Prop}{x:ab}{v:Value}{F:a8}(h:jx w I ρ x v F)
  (bb:∀ c,I c->w'.heap[c]?=w.heap[c]?) (nU:∀ c,I c->I' c) (lA:∀ x v,ρ x v->ρ' x v)
  (cb:∀ z p n bv,ρ (.bB z p n 0 []) bv->∀ c,bv.ownBlock=some c->w'.heap[c]?=w.heap[c]?)
  (aS:∀ c,F c->w'.heap[c]?=w.heap[c]?):jx w' I' ρ' x v F:=by
 cases h with
 | tree h=>exact .tree (h.frame bb nU lA aS)
 | @bB z n m p new v bv e b9 us news F h =>
  have av:=cb _ _ _ _ h.kp;refine .bB ⟨lA _ _ h.kp,r' h.iX av,r' h.np λc aa=>?_,h.aj,h.h1,λk x u j hu=>(h.ah k x u j hu).frame bb nU lA λc aa=>aa.elim,h.aH⟩;by_cases p6:bv.ownBlock=some c
  ·exact av c p6
  ·exact aS c ((h.aH c).2 ⟨aa,p6⟩)
theorem ab.tE {z n m:Nat}{p:Place}{new:List ab}{q:List Nat}{y:ab}(h:(ab.bB z p n m new).at q=some y):q=[]/\y=.bB z p n m new:=by
 cases q with
 | nil=>simp [ab.at] at h; exact ⟨rfl,h.symm⟩
 | cons k q=>simp [ab.at,ab.kids] at h
class cI where
 q:World->a8->Prop
 keep:∀ {w w':World}{I I':a8},q w I->(∀ c,I c->w'.heap[c]?=w.heap[c]?)->(∀ c,I c->I' c)->q w' I'
set_option linter.unusedSectionVars false
variable [cI]
structure cF (w:World) (I:a8) (T:Array Value) (g:aK) (Fs:Nat->a8):Prop where
 rel:∀ t x,g t=some x->∃ v,T[t]?=some v/\jx w I (dR w T g) x v (Fs t)
 kM:∀ t,g t=none->∀ c,¬ Fs t c
 eu:∀ t t' c,Fs t c->Fs t' c->t=t'
 bm:∀ t c,Fs t c->¬ I c
 lt:∀ c,I c->c<w.heap.size
 q8:∀ t t' z p n m new bs ch bh cQ,g t=some (.bB z p n m new)->g t'=some (.bB bs p ch bh cQ)->t=t'
 hV:cI.q w I
section
variable {w:World}{I:a8}{T:Array Value}{g:aK}{Fs:Nat->a8}
theorem cF.part (h:cF w I T g Fs) {p:Place}{y:ab}(au:bu g p=some y) (al:∀ z q n m new,y≠.bB z q n m new):∃ v cn,dU w T p=some v/\R w I (dR w T g) y v cn/\(∀ c,cn c->Fs p.root c):=by
 unfold bu at au;cases j:g p.root with
 | none=>rw [j] at au; cases au
 | some x =>
  rw [j] at au;obtain ⟨v,hv,aY⟩:=h.rel _ _ j;replace aY:=aY.hd (by
   rintro z q n m new rfl;exact al _ _ _ _ _ (ab.tE au).2)
  obtain ⟨ik,cn,hw,dB,di,_⟩:=R.focus p.path aY au;exact ⟨ik,cn,by simp [dU,hv,hw],dB,di⟩
theorem R.qi {ρ:ab->Value->Prop}{z n:Nat}{cs:List ab}{v:Value}{F:a8}(h:R w I ρ (.own z n cs) v F):∀ c,v.ownBlock=some c->F c:=by
 cases h with
 | own aU aj h1 ah aP av aH=>exact λc aa=>(aH c).2 (.inl aa)
 | ref j=>simp [ab.isRef] at j
theorem R.mR {ρ:ab->Value->Prop}{z n:Nat}{cs:List ab}{v:Value}{F:a8}(h:R w I ρ (.own z n cs) v F) :
  ∃ a cap,v=.slice a n cap/\n<=cap/\cs.length=n * z/\(∀ ad,a=some ad->ad.off=0/\ad.spot=none)/\(0<n->a.isSome=true):=by
 cases h with
 | own aU aj h1 ah aP av aH =>
  obtain ⟨h1,af⟩:=aU;rcases af with ⟨rfl,rfl⟩ | ⟨b,cap,cur,rfl,_,_,aA,_⟩
  ·exact ⟨none,0,rfl,Nat.le_refl _,by simp [aj,h1],by simp,by simp⟩
  ·exact ⟨_,cap,rfl,aA,by simp [aj,h1],by rintro ad ⟨⟩; exact ⟨rfl,rfl⟩,by simp⟩
 | ref j=>simp [ab.isRef] at j
theorem cF.yj (h:cF w I T g Fs) {w':World}{T':Array Value}(dk:∀ t,g t≠none->T'[t]?=T[t]?) (aH:∀ t c,Fs t c->w'.heap[c]?=w.heap[c]?) {p:Place}{y:ab}(au:bu g p=some y) :
  dU w' T' p=dU w T p:=by
 unfold bu at au;cases j:g p.root with
 | none=>rw [j] at au; cases au
 | some x =>
  rw [j] at au;obtain ⟨v,hv,aY⟩:=h.rel _ _ j;have iY:T'[p.root]?=some v:=by rw [dk _ (by rw [j]; simp),hv]
  cases aY with
  | tree aY =>
   have:=R.pN (w':=w') p.path aY au λc aa=>aH _ c aa;simp [dU,hv,iY,this]
  | bB aY=>simp [dU,hv,iY,(ab.tE au).1,walk]
theorem kC {g g':aK}(aN:∀ t x,g t=some x->g' t=some x) {p:Place}{y:ab}(au:bu g p=some y):bu g' p=some y:=by
 unfold bu at *;cases j:g p.root with
 | none=>rw [j] at au; cases au
 | some x=>rw [j] at au; rw [aN _ _ j]; exact au
theorem gZ.mono {g g':aK}(aN:∀ t x,g t=some x->g' t=some x) {r:ab}(h:gZ g r):gZ g' r:=by
 cases r <;> simp only [gZ] at h ⊢
 case ptr p k=>obtain ⟨y,al,h⟩:=h; exact ⟨y,kC aN al,h⟩
 case bg z p n =>
  rcases h with ⟨N,cs,h1,af⟩ | ⟨aO,q,gU,m,new,h1,af⟩
  ·exact .inl ⟨N,cs,kC aN h1,af⟩
  ·exact .inr ⟨aO,q,gU,m,new,aN _ _ h1,af⟩
 case sub z p lo n=>obtain ⟨N,cs,h1,af⟩:=h; exact ⟨N,cs,kC aN h1,af⟩
 case bB z p n m new =>
  rcases h with ⟨cs,h1⟩ | ⟨aO,q,gU,bh,cQ,cs,h1,af,aJ⟩
  ·exact .inl ⟨cs,kC aN h1⟩
  ·exact .inr ⟨aO,q,gU,bh,cQ,cs,aN _ _ h1,af,kC aN aJ⟩
 case hr p=>obtain ⟨q,h⟩:=h; exact ⟨q,kC aN h⟩
theorem cF.FG (h:cF w I T g Fs) {w':World}{T':Array Value}{g':aK}(dk:∀ t,g t≠none->T'[t]?=T[t]?) (aH:∀ t c,Fs t c->w'.heap[c]?=w.heap[c]?)
  (aN:∀ t x,g t=some x->g' t=some x) {r:ab}{v:Value}(ah:dR w T g r v):dR w' T' g' r v:=by
 obtain ⟨h1,af⟩:=ah;refine ⟨?_,af.mono aN⟩;have slot:∀ {p:Place}{x:ab},p.path=[]->g p.root=some x->dU w' T' p=dU w T p:=by
  intro p x au j;obtain ⟨v,hv,_⟩:=h.rel _ _ j;simp [dU,au,walk,dk p.root (by rw [j]; simp)]
 cases r <;> simp only [fH,gZ] at h1 af ⊢
 case ptr p k =>
  obtain ⟨y,al,_⟩:=af;rw [h.yj dk aH al]; exact h1
 case bg z p n =>
  rcases af with ⟨N,cs,af,_⟩ | ⟨aO,q,gU,m,new,af,_⟩
  ·rw [h.yj dk aH af]; exact h1
  ·rw [slot aO af]; exact h1
 case sub z p lo n =>
  obtain ⟨N,cs,af,_⟩:=af;rw [h.yj dk aH af]; exact h1
 case bB z p n m new =>
  rcases af with ⟨cs,af⟩ | ⟨aO,q,gU,bh,cQ,cs,af,_⟩
  ·rw [h.yj dk aH af]; exact h1
  ·rw [slot aO af]; exact h1
 case hr p =>
  obtain ⟨q,af⟩:=af;rw [h.yj dk aH af]; exact h1
theorem cF.DU (h:cF w I T g Fs) {z n:Nat}{p:Place}{bv:Value}(ah:dR w T g (.bB z p n 0 []) bv):∀ c,bv.ownBlock=some c->∃ t,Fs t c:=by
 obtain ⟨⟨a,cap,h1,rfl⟩,af⟩:=ah;intro c aa;have own:∀ {q:Place}{gU:Nat}{cs:List ab}{v:Value},bu g q=some (.own z gU cs)->dU w T q=some v->v.ownBlock=some c->∃ t,Fs t c:=by
  intro q gU cs v a7 hv aa;obtain ⟨ef,cn,iY,aY,di⟩:=h.part a7 (by simp);rw [hv] at iY;cases iY;exact ⟨_,di c (aY.qi c aa)⟩
 rcases af with ⟨cs,af⟩ | ⟨aO,q,gU,m,new,cs,af,rfl,aJ⟩
 ·exact own af h1 aa
 ·obtain ⟨v,hv,aY⟩:=h.rel _ _ af;have rV:v=.slice a (gU+m) cap:=by
   simp only [dU,hv,aO,walk,Option.some.injEq] at h1;exact h1
  obtain ⟨LU,e,b9,us,news,aY⟩:=aY.vG;by_cases fo:LU.ownBlock=some c
  ·obtain ⟨⟨a2,rE,bx,rfl⟩,_⟩:=aY.kp;exact own aJ bx fo
  ·exact ⟨_,(aY.aH c).2 ⟨by rw [rV]; exact aa,fo⟩⟩
theorem cF.frame (h:cF w I T g Fs) {w':World}{I':a8}{T':Array Value}{g':aK}(dk:∀ t,g t≠none->T'[t]?=T[t]?) (aH:∀ t c,Fs t c->w'.heap[c]?=w.heap[c]?)
  (bb:∀ c,I c->w'.heap[c]?=w.heap[c]?) (nU:∀ c,I c->I' c) (aN:∀ t x,g t=some x->g' t=some x) {x:ab}{v:Value}{F:a8}(aY:R w I (dR w T g) x v F)
  (lP:∀ c,F c->w'.heap[c]?=w.heap[c]?):R w' I' (dR w' T' g') x v F :=
 aY.frame bb nU (λ_ _ ah=>h.FG dk aH aN ah) lP
theorem cF.wW (h:cF w I T g Fs) {w':World}{I':a8}{T':Array Value}{g':aK}(dk:∀ t,g t≠none->T'[t]?=T[t]?) (aH:∀ t c,Fs t c->w'.heap[c]?=w.heap[c]?)
  (bb:∀ c,I c->w'.heap[c]?=w.heap[c]?) (nU:∀ c,I c->I' c) (aN:∀ t x,g t=some x->g' t=some x) {x:ab}{v:Value}{F:a8}(aY:jx w I (dR w T g) x v F)
  (lP:∀ c,F c->w'.heap[c]?=w.heap[c]?):jx w' I' (dR w' T' g') x v F :=
 aY.frame bb nU (λ_ _ ah=>h.FG dk aH aN ah) (λ_ _ _ _ ah c aa=>by obtain ⟨t,aq⟩:=h.DU ah c aa; exact aH t c aq) lP
def cK (g:aK) (d:Nat) (x:ab):aK:=λt=>if t=d then some x else g t
def uR (Fs:Nat->a8) (d:Nat) (F:a8):Nat->a8:=λt=>if t=d then F else Fs t
theorem Qx {d:Nat}{x:ab}(aP:g d=none):∀ t y,g t=some y->cK g d x t=some y:=by
 intro t y al;unfold cK;split
 ·rename_i h; subst h; rw [aP] at al; cases al
 ·exact al
end
end Go.Own
namespace Go.Own
open Go
set_option linter.unusedSectionVars false
variable [cI]
theorem QA (w:World):∀ (p:List Nat) (v:Value) (k:Nat),walk w v (p++[k])=(walk w v p).bind λu=>child w u k
 | [],v,k=>by simp [walk]; cases child w v k <;> rfl
 | J::p,v,k=>by
  simp only [List.cons_append,walk];cases child w v J with
  | none=>rfl
  | some u=>exact QA w p u k
theorem LM:∀ (p:List Nat) (x:ab) (k:Nat),x.at (p++[k])=(x.at p).bind λy=>y.kids[k]?
 | [],x,k=>by simp [ab.at]; cases x.kids[k]? <;> rfl
 | J::p,x,k=>by
  simp only [List.cons_append,ab.at];cases x.kids[J]? with
  | none=>rfl
  | some u=>exact LM p u k
theorem tD (g:aK) (p:Place) (k:Nat):bu g (p.push k)=(bu g p).bind λy=>y.kids[k]?:=by
 unfold bu Place.push;cases g p.root with
 | none=>rfl
 | some x=>simp [LM]
theorem yi (w:World) (T:Array Value) (p:Place) (k:Nat):dU w T (p.push k)=(dU w T p).bind λu=>child w u k:=by
 unfold dU Place.push;cases T[p.root]? with
 | none=>rfl
 | some x=>simp [QA]
def fD:Nat->Place->ab->ab
 | _,p,.own z n _=>.bg z p n
 | _,p,.obj (_::_)=>.ptr p 0
 | _,_,.obj []=>.dead
 | _,_,.bB ..=>.dead
 | _,_,.self _=>.dead
 | _,_,.eR ..=>.dead
 | _,p,.mp _=>.hr p
 | d+1,p,.agg cs=>.agg (cs.mapIdx λi x=>fD d (p.push i) x)
 | d+1,p,.bQ cs=>.bQ (cs.mapIdx λi x=>fD d (p.push i) x)
 | 0,_,.agg _=>.dead
 | 0,_,.bQ _=>.dead
 | _,_,x=>x
def n_ (t:Nat):ab->ab
 | .bB z _ n m _=>.bg z ⟨t,[]⟩ (n+m)
 | x=>fD 2 ⟨t,[]⟩ x
def kd:Value->ab
 | .slice none 0 0=>.aQ
 | .agg _=>.dead
 | .tuple _=>.dead
 | v=>.lit v
def ofConst:Value->ab
 | .agg vs=>if vs.all Value.oneCell' then .agg (vs.toList.map kd) else .dead
 | .tuple _=>.dead
 | v=>kd v
def bo (g:aK):Operand->Option ab
 | .tmp t=>(g t).map (n_ t)
 | .const v=>some (ofConst v)
 | .func f=>some (.dj (.func f) [] [])
 | .global _=>none
theorem Pw {d:Nat}{p:Place}{x:ab}{J:Nat × Nat}:fD d p x≠.self J:=by
 cases x with
 | obj cs=>cases d <;> cases cs <;> simp [fD]
 | _=>cases d <;> simp [fD]
theorem YR {t:Nat}{x:ab}:sn (n_ t x):=by
 intro cs h k J hk;cases x with
 | obj cs=>cases cs <;> simp [n_,fD] at h
 | agg l =>
  simp only [n_,fD,ab.agg.injEq] at h;subst h;rw [List.getElem?_mapIdx] at hk;cases j:l[k]? with
  | none=>rw [j] at hk; cases hk
  | some x=>rw [j] at hk; simp only [Option.map_some,Option.some.injEq] at hk; exact Pw hk
 | _=>simp [n_,fD] at h
theorem OW (v:Value) (J:Nat × Nat):kd v≠.self J:=by
 unfold kd; split <;> simp
theorem OX (vs:List Value):qH (vs.map kd):=λk J=>by
 rw [List.getElem?_map];cases vs[k]? with
 | none=>simp
 | some v=>simp [OW]
theorem O7 {g:aK}{o:Operand}{x:ab}(h:bo g o=some x):sn x:=by
 cases o with
 | tmp t =>
  simp only [bo] at h;cases aq:g t with
  | none=>rw [aq] at h; cases h
  | some y=>rw [aq] at h; simp only [Option.map_some,Option.some.injEq] at h; exact h ▸ YR
 | const v =>
  simp only [bo,Option.some.injEq] at h;subst h;intro cs h;unfold ofConst at h
  split at h
  ·split at h
   ·cases h; exact OX _
   ·cases h
  ·cases h
  ·unfold kd at h; split at h <;> cases h
 | func f=>simp only [bo,Option.some.injEq] at h; subst h; intro cs h; cases h
 | global n=>cases h
theorem X9 {g:aK}{o:Operand}{x:ab}(h:bo g o=some x) (J:Nat × Nat):x≠.self J:=by
 cases o with
 | tmp t =>
  simp only [bo] at h;cases aq:g t with
  | none=>rw [aq] at h; cases h
  | some y =>
   rw [aq] at h;simp only [Option.map_some,Option.some.injEq] at h;subst h;cases y with
   | bB=>simp [n_]
   | _=>exact Pw
 | const v =>
  simp only [bo,Option.some.injEq] at h;subst h;unfold ofConst;split
  ·split <;> simp
  ·simp
  ·exact OW _ _
 | func f=>simp only [bo,Option.some.injEq] at h; subst h; simp
 | global n=>cases h
abbrev ct:a8:=λ_=>False
section
variable {w:World}{I:a8}{T:Array Value}{g:aK}{Fs:Nat->a8}
theorem R.empty {ρ:ab->Value->Prop}{x:ab}{v:Value}{F:a8}(h:R w I ρ x v F) (aH:∀ c,¬ F c):R w I ρ x v ct:=h.y5 λc=>⟨λaa=>aH c aa,λaa=>aa.elim⟩
theorem FF:∀ (d:Nat) {p:Place}{x:ab}{v:Value}{F:a8},bu g p=some x->dU w T p=some v->R w I (dR w T g) x v F->R w I (dR w T g) (fD d p x) v ct:=by
 intro d
 induction d with
 | zero =>
  intro p x v F au hv aY;cases aY with
  | lit aj aH=>exact .lit aj λ_ h=>h
  | aQ aH=>exact .aQ λ_ h=>h
  | dead aH=>exact .dead λ_ h=>h
  | l3 aH=>exact .dead λ_ h=>h
  | eR=>exact .dead λ_ h=>h
  | ref j ah aH=>cases x <;> simp [ab.isRef] at j <;> exact .ref rfl ah λ_ h=>h
  | mp=>exact .ref rfl ⟨⟨_,hv,rfl⟩,⟨_,au⟩⟩ λ_ h=>h
  | imp aH bb aU a7=>exact .imp (λ_ h=>h) bb aU a7
  | hz aH=>exact .hz λ_ h=>h
  | bm aH k2 bb ay aj h1 aa ah=>exact .bm (λ_ h=>h) k2 bb ay aj h1 aa ah
  | cO aH bb ay h1 aa ah=>exact .cO (λ_ h=>h) bb ay h1 aa ah
  | own aU aj h1 ah aP av aH =>
   have nq:=R.own (I:=I) (ρ:=dR w T g) aU aj h1 ah aP av aH;obtain ⟨a,cap,rfl,aA,_⟩:=nq.mR;exact .ref rfl ⟨⟨a,_,cap,hv,rfl,Nat.le_refl _⟩,.inl ⟨_,_,au,Nat.le_refl _⟩⟩ λ_ h=>h
  | @obj cs b e arr b2 _ aU aj h1 ah aP av aH =>
   cases cs with
   | nil=>exact .dead λ_ h=>h
   | cons c cs=>exact .ref rfl ⟨⟨_,_,hv,rfl,rfl⟩,⟨_,au,0,0,_,.inr rfl,by simp⟩⟩ λ_ h=>h
  | agg=>exact .dead λ_ h=>h
  | bQ=>exact .dead λ_ h=>h
  | dj aH h1 af h9 hN=>exact .dj (λ_ h=>h) h1 af h9 hN
 | succ d aM =>
  intro p x v F au hv aY;cases aY with
  | lit aj aH=>exact .lit aj λ_ h=>h
  | aQ aH=>exact .aQ λ_ h=>h
  | dead aH=>exact .dead λ_ h=>h
  | l3 aH=>exact .dead λ_ h=>h
  | eR=>exact .dead λ_ h=>h
  | ref j ah aH=>cases x <;> simp [ab.isRef] at j <;> exact .ref rfl ah λ_ h=>h
  | mp=>exact .ref rfl ⟨⟨_,hv,rfl⟩,⟨_,au⟩⟩ λ_ h=>h
  | imp aH bb aU a7=>exact .imp (λ_ h=>h) bb aU a7
  | hz aH=>exact .hz λ_ h=>h
  | bm aH k2 bb ay aj h1 aa ah=>exact .bm (λ_ h=>h) k2 bb ay aj h1 aa ah
  | cO aH bb ay h1 aa ah=>exact .cO (λ_ h=>h) bb ay h1 aa ah
  | own aU aj h1 ah aP av aH =>
   have nq:=R.own (I:=I) (ρ:=dR w T g) aU aj h1 ah aP av aH;obtain ⟨a,cap,rfl,aA,_⟩:=nq.mR;exact .ref rfl ⟨⟨a,_,cap,hv,rfl,Nat.le_refl _⟩,.inl ⟨_,_,au,Nat.le_refl _⟩⟩ λ_ h=>h
  | @obj cs b e arr b2 _ aU aj h1 ah aP av aH =>
   cases cs with
   | nil=>exact .dead λ_ h=>h
   | cons c cs=>exact .ref rfl ⟨⟨_,_,hv,rfl,rfl⟩,⟨_,au,0,0,_,.inr rfl,by simp⟩⟩ λ_ h=>h
  | @agg cs vs b2 _ aj h1 ah aP aH =>
   refine .agg (Fs:=λ_=>ct) (by simpa using aj) h1 ?_ (λ_ _ _ _ _ h=>h.elim) (λc=>⟨λh=>h.elim,λ⟨_,_,h⟩=>h⟩);intro k y u al hu;rw [List.getElem?_mapIdx] at al;cases hk:cs[k]? with
   | none=>rw [hk] at al; cases al
   | some z =>
    rw [hk] at al;cases al;exact aM (by rw [tD,au]; exact hk) (by rw [yi,hv]; exact hu) (ah k z u hk hu)
  | @bQ cs vs b2 _ aj ah aP aH =>
   refine .bQ (Fs:=λ_=>ct) (by simpa using aj) ?_ (λ_ _ _ _ _ h=>h.elim) (λc=>⟨λh=>h.elim,λ⟨_,_,h⟩=>h⟩);intro k y u al hu;rw [List.getElem?_mapIdx] at al;cases hk:cs[k]? with
   | none=>rw [hk] at al; cases al
   | some z =>
    rw [hk] at al;cases al;exact aM (by rw [tD,au]; exact hk) (by rw [yi,hv]; exact hu) (ah k z u hk hu)
  | dj aH h1 af h9 hN=>exact .dj (λ_ h=>h) h1 af h9 hN
theorem Cu {ρ:ab->Value->Prop}(v:Value):R w I ρ (kd v) v ct:=by
 unfold kd;split
 ·exact .aQ λ_ h=>h
 ·exact .dead λ_ h=>h
 ·exact .dead λ_ h=>h
 ·rename_i h1 af aJ;refine .lit ?_ λ_ h=>h;cases v <;> first | rfl | (exact absurd rfl (af _)) | (exact absurd rfl (aJ _))
theorem X1 {ρ:ab->Value->Prop}(v:Value):R w I ρ (ofConst v) v ct:=by
 unfold ofConst;split
 ·rename_i vs;split
  ·rename_i hj;refine .agg (Fs:=λ_=>ct) (by simp) (λk u hu=>?_) ?_ (λ_ _ _ _ _ h=>h.elim) (λc=>⟨λh=>h.elim,λ⟨_,_,h⟩=>h⟩)
   ·exact Array.all_eq_true_iff_forall_mem.1 hj u (Array.mem_of_getElem? hu)
   ·intro k x u j hu;simp only [List.getElem?_map,Array.getElem?_toList,hu,Option.map_some,Option.some.injEq] at j;subst j;exact Cu u
  ·exact .dead λ_ h=>h
 ·exact .dead λ_ h=>h
 ·exact Cu v
theorem la (h:cF w I T g Fs) {x:Operand}{y:ab}(al:bo g x=some y) {a:Act}(aR:a.tmps=T):R w I (dR w T g) y (a.eval x) ct:=by
 cases x with
 | tmp t =>
  simp only [bo] at al;cases j:g t with
  | none=>rw [j] at al; cases al
  | some z =>
   rw [j] at al;simp only [Option.map_some,Option.some.injEq] at al;obtain ⟨v,hv,aY⟩:=h.rel t z j;have rM:a.eval (.tmp t)=v:=by simp [Act.eval,aR,hv]
   rw [rM];have au:bu g ⟨t,[]⟩=some z:=by simp [bu,j,ab.at]
   have zu:dU w T ⟨t,[]⟩=some v:=by simp [dU,hv,walk]
   subst al;cases aY with
   | tree aY =>
    cases z with
    | bB=>exact aY.k_.elim
    | _=>exact FF 2 au zu aY
   | @bB jY n m p new v bv e b9 us news _ aY =>
    simp only [n_];have:∃ a cap,v=.slice a (n+m) cap:=by
     obtain ⟨_,af⟩:=aY.np;rcases af with ⟨af,aJ⟩ | ⟨b,cap,cur,af,_⟩
     ·exact ⟨none,0,by rw [af]; congr 1; omega⟩
     ·exact ⟨_,cap,af⟩
    obtain ⟨bZ,cap,rfl⟩:=this;exact .ref rfl ⟨⟨bZ,_,cap,zu,rfl,Nat.le_refl _⟩,.inr ⟨rfl,p,n,m,new,j,rfl⟩⟩ λ_ h=>h
 | const v=>simp only [bo,Option.some.injEq] at al; subst al; exact X1 v
 | global n=>simp [bo] at al
 | func f =>
  simp only [bo,Option.some.injEq] at al;subst al;exact .dj (λ_ h=>h) rfl rfl (by simp) (by simp)
end
end Go.Own
namespace Go.Own
open Go
set_option linter.unusedSectionVars false
variable [cI]
def j9 (P:Program) (t:TypeId):Bool :=
 match P.underlying t,P.info? t with
 | some (.struct _),_=>false
 | some (.array ..),_=>false
 | some _,some i=>i.size == 1
 | _,_=>false
def iH (P:Program) (t:TypeId) (k:Nat):Bool :=
 match P.underlying t,P.info? t with
 | some (.struct _),some i=>i.size == k
 | some (.array ..),some i=>i.size == k
 | _,_=>false
def fb (P:Program) (t e:TypeId) (z:Nat):Bool :=
 match P.underlying t,P.info? e with
 | some (.slice b_),some i=>b_ == e&&i.size == z
 | _,_=>false
def DT (P:Program) (t e:TypeId) (n z:Nat):Bool :=
 match P.underlying t,P.info? e with
 | some (.array ch b_),some i=>ch == n&&b_ == e&&i.size == z
 | _,_=>false
def oc (P:Program) (t:TypeId):Bool :=
 match P.underlying t with
 | some .string=>true
 | _=>false
def wK (P:Program) (s d:TypeId):Bool :=
 match P.underlying s,P.underlying d with
 | some (.slice e),some .string=>match P.underlying e with
  | some (.int .u8)=>true
  | _=>false
 | _,_=>false
def iV (P:Program) (s:TypeId) (f off:Nat) (t:TypeId):Bool :=
 match P.underlying s with
 | some (.struct fs) =>
  match fs[f]? with
  | some fd=>fd.offset == off&&fd.type == t&&(match P.info? t with | some i=>i.size != 0 | none=>false)
  | none=>false
 | _=>false
section
variable {P:Program}{w:World}
theorem Hd {t:TypeId}(h:j9 P t=true):(isAgg t).run P w=.ok false w/\(sizeOf t).run P w=.ok 1 w:=by
 unfold j9 at h;cases hu:P.underlying t with
 | none=>simp [hu] at h
 | some d =>
  cases hi:P.info? t with
  | none=>cases d <;> simp [hu,hi] at h
  | some i=>cases d <;> simp [hu,hi] at h <;> simp [isAgg,run_underlying hu,sizeOf,typeInfo,hi,h]
theorem DP {t:TypeId}{k:Nat}(h:iH P t k=true):(isAgg t).run P w=.ok true w/\(sizeOf t).run P w=.ok k w:=by
 unfold iH at h;cases hu:P.underlying t with
 | none=>simp [hu] at h
 | some d =>
  cases hi:P.info? t with
  | none=>cases d <;> simp [hu,hi] at h
  | some i=>cases d <;> simp [hu,hi] at h <;> simp [isAgg,run_underlying hu,sizeOf,typeInfo,hi,h]
theorem qv {t e:TypeId}{z:Nat}(h:fb P t e z=true):P.underlying t=some (.slice e)/\P.elem t=e/\(sizeOf e).run P w=.ok z w:=by
 unfold fb at h;cases hu:P.underlying t with
 | none=>simp [hu] at h
 | some d =>
  cases hi:P.info? e with
  | none=>cases d <;> simp [hu,hi] at h
  | some i =>
   cases d <;> simp [hu,hi] at h;obtain ⟨rfl,h⟩:=h;exact ⟨rfl,by simp [Program.elem,hu],by simp [sizeOf,typeInfo,hi,h]⟩
theorem LH {t e:TypeId}{n z:Nat}(h:DT P t e n z=true):P.underlying t=some (.array n e)/\(sizeOf e).run P w=.ok z w:=by
 unfold DT at h;cases hu:P.underlying t with
 | none=>simp [hu] at h
 | some d =>
  cases hi:P.info? e with
  | none=>cases d <;> simp [hu,hi] at h
  | some i =>
   cases d <;> simp [hu,hi] at h;obtain ⟨⟨rfl,rfl⟩,h⟩:=h;exact ⟨rfl,by simp [sizeOf,typeInfo,hi,h]⟩
theorem LW {s d:TypeId}(h:wK P s d=true):∃ e,P.underlying s=some (.slice e)/\P.underlying e=some (.int .u8)/\P.underlying d=some .string:=by
 unfold wK at h
 split at h
 ·rename_i e h1 af
  split at h
  ·rename_i aJ;exact ⟨e,h1,aJ,af⟩
  ·cases h
 ·cases h
theorem Kw {t:TypeId}(h:oc P t=true):P.underlying t=some .string:=by
 unfold oc at h;cases hu:P.underlying t with
 | none=>simp [hu] at h
 | some d=>cases d <;> simp [hu] at h; rfl
theorem Hx {s:TypeId}{f off:Nat}{t:TypeId}(h:iV P s f off t=true):∃ fs fd,P.underlying s=some (.struct fs)/\fs[f]?=some fd/\fd.offset=off/\fd.type=t/\∃ i,P.info? t=some i/\i.size≠0:=by
 unfold iV at h;cases hu:P.underlying s with
 | none=>simp [hu] at h
 | some d =>
  cases d <;> simp [hu] at h;rename_i fs;cases aS:fs[f]? with
  | none=>simp [aS] at h
  | some fd =>
   simp [aS] at h;obtain ⟨⟨h1,af⟩,aJ⟩:=h;cases hi:P.info? t with
   | none=>simp [hi] at aJ
   | some i=>simp [hi] at aJ; exact ⟨fs,fd,rfl,aS,h1,af,i,rfl,aJ⟩
theorem add_eq (b o k:Nat):(⟨b,o,none⟩:Addr).add k=⟨b,o+k,none⟩:=by
 unfold Addr.add;split
 ·rename_i h; subst h; rfl
 ·rfl
theorem PH {s:TypeId}{f off:Nat}{t:TypeId}(h:iV P s f off t=true) (b o:Nat):(Instr.fieldAt s (.pointer (some ⟨b,o,none⟩)) f).run P w=.ok (.pointer (some ⟨b,o+off,none⟩)) w:=by
 obtain ⟨fs,fd,hu,aS,rfl,rfl,i,hi,aO⟩:=Hx h;simp [Instr.fieldAt,run_underlying hu,aS,Instr.sureAddr,fieldPlace,sizeOf,typeInfo,hi,aO,add_eq]
theorem PJ {t:TypeId}(h:j9 P t=true) {a:Addr}{v:Value}(aa:w.cell? a=some v):(Instr.loadAt t (.pointer (some a))).run P w=.ok v w:=by
 obtain ⟨h1,af⟩:=Hd (w:=w) h;simp [Instr.loadAt,Instr.sureAddr,loadVar,h1,aa]
theorem PI {t:TypeId}{k:Nat}(h:iH P t k=true) {b o:Nat}{vs:List Value}(aj:vs.length=k) (aa:∀ J v,vs[J]?=some v->w.cell? ⟨b,o+J,none⟩=some v) :
  (Instr.loadAt t (.pointer (some ⟨b,o,none⟩))).run P w=.ok (.agg vs.toArray) w:=by
 obtain ⟨h1,af⟩:=DP (w:=w) h;have:=run_loadCells_list (P:=P) w ⟨b,o,none⟩ vs (λJ v ai=>by rw [add_eq]; exact aa J v ai);rw [aj] at this;simp [Instr.loadAt,Instr.sureAddr,loadVar,h1,af,this]
end
end Go.Own
namespace Go.Own
open Go
set_option linter.unusedSectionVars false
variable [cI]
section
variable {w:World}{I:a8}{ρ:ab->Value->Prop}{v:Value}{F:a8}
theorem R.h' {a:Value}(h:R w I ρ (.lit a) v F):v=a/\a.oneCell'=true:=by
 cases h with
 | lit hv=>exact ⟨rfl,hv⟩
 | ref j=>simp [ab.isRef] at j
theorem R.r5 (h:R w I ρ .aQ v F):v=.slice none 0 0:=by
 cases h with
 | aQ=>rfl
 | ref j=>simp [ab.isRef] at j
theorem R.nx {p:Place}{k:Nat}(h:R w I ρ (.ptr p k) v F):ρ (.ptr p k) v:=by
 cases h with
 | ref j h=>exact h
theorem R.mO {z:Nat}{p:Place}{n:Nat}(h:R w I ρ (.bg z p n) v F):ρ (.bg z p n) v:=by
 cases h with
 | ref j h=>exact h
theorem R.xp {z:Nat}{p:Place}{lo n:Nat}(h:R w I ρ (.sub z p lo n) v F):ρ (.sub z p lo n) v:=by
 cases h with
 | ref j h=>exact h
theorem R.zw {z n:Nat}{cs:List ab}(h:R w I ρ (.bm z n cs) v F):∃ a cap,v=.slice a n cap/\n<=cap/\cs.length=n * z /\
  (cs≠[]\/0<n->∃ (ad:Addr) (us:Nat->Value),a=some ad/\I ad.block/\ad.spot=none/\(∀ (k:Nat) (x:ab),cs[k]?=some x->(us k).oneCell'=true)/\(∀ (k:Nat) (x:ab),cs[k]?=some x->w.cell? ⟨ad.block,ad.off+k,none⟩=some (us k))/\∀ (k:Nat) (x:ab),cs[k]?=some x->R w I ρ x (us k) ct):=by
 cases h with
 | @hz _ cap a=>exact ⟨a,cap,rfl,Nat.zero_le _,by simp,λh=>by simp at h⟩
 | @bm _ _ cap _ ad us _ aH k2 bb ay aj h1 aa ah=>exact ⟨_,cap,rfl,k2,aj,λ_=>⟨ad,us,rfl,bb,ay,h1,aa,ah⟩⟩
 | ref j=>simp [ab.isRef] at j
theorem R.xo {cs:List ab}(h:R w I ρ (.cO cs) v F):∃ (ad:Addr) (us:Nat->Value),v=.pointer (some ad)/\I ad.block/\ad.spot=none/\(∀ (k:Nat) (x:ab),cs[k]?=some x->(us k).oneCell'=true)/\(∀ (k:Nat) (x:ab),cs[k]?=some x->w.cell? ⟨ad.block,ad.off+k,none⟩=some (us k))/\∀ (k:Nat) (x:ab),cs[k]?=some x->R w I ρ x (us k) ct:=by
 cases h with
 | @cO _ ad us _ aH bb ay h1 aa ah=>exact ⟨ad,us,rfl,bb,ay,h1,aa,ah⟩
 | ref j=>simp [ab.isRef] at j
theorem R.B8 {cs:List ab}(h:R w I ρ (.agg cs) v F) (aH:∀ c,¬ F c):∃ vs:Array Value,v=.agg vs/\cs.length=vs.size/\(∀ (k:Nat) (u:Value),vs[k]?=some u->u.oneCell'=true)/\∀ (k:Nat) (x:ab) (u:Value),cs[k]?=some x->vs[k]?=some u->R w I ρ x u ct:=by
 cases h with
 | @agg _ vs Fs _ aj h1 ah aP pn=>exact ⟨vs,rfl,aj,h1,λk x u j hu=>(ah k x u j hu).empty λc aa=>aH c ((pn c).2 ⟨k,(List.getElem?_eq_some_iff.1 j).1,aa⟩)⟩
 | ref j=>simp [ab.isRef] at j
theorem R.Xo {cs:List ab}(h:R w I ρ (.bQ cs) v F) (aH:∀ c,¬ F c):∃ vs:Array Value,v=.tuple vs/\cs.length=vs.size/\∀ (k:Nat) (x:ab) (u:Value),cs[k]?=some x->vs[k]?=some u->R w I ρ x u ct:=by
 cases h with
 | @bQ _ vs Fs _ aj ah aP pn=>exact ⟨vs,rfl,aj,λk x u j hu=>(ah k x u j hu).empty λc aa=>aH c ((pn c).2 ⟨k,(List.getElem?_eq_some_iff.1 j).1,aa⟩)⟩
 | ref j=>simp [ab.isRef] at j
theorem R.node {y:ab}{z n:Nat}{cs:List ab}(h:R w I ρ y v F) (al:y=.own z n cs\/y=.obj cs) {k:Nat}{x:ab}(hk:cs[k]?=some x) :
  ∃ b u,addrOf v=some ⟨b,0,none⟩/\w.cell? ⟨b,k,none⟩=some u/\child w v k=some u/\u.oneCell'=true/\∃ bW,R w I ρ x u bW:=by
 rcases al with rfl | rfl
 ·cases h with
  | @own _ _ _ _ e us Fs _ aU aj h1 ah aP av aH =>
   have aT:k<cs.length:=(List.getElem?_eq_some_iff.1 hk).1;have hu:us[k]?=some us[k]:=List.getElem?_eq_getElem (aj ▸ aT);have nk:=oU aU hu;obtain ⟨k7,af⟩:=aU;rcases af with ⟨rfl,rfl⟩ | ⟨b,cap,cur,rfl,aN,bG,rest⟩
   ·grind
   ·exact ⟨b,_,rfl,by simpa [child] using nk,nk,h1 k _ hu,Fs k,ah k x _ hk hu⟩
  | ref j=>simp [ab.isRef] at j
 ·cases h with
  | @obj _ b e arr Fs _ aU aj h1 ah aP av aH =>
   have aT:k<cs.length:=(List.getElem?_eq_some_iff.1 hk).1;have hu:arr[k]?=some arr[k]:=Array.getElem?_eq_getElem (aj ▸ aT);exact ⟨b,_,rfl,by simp [World.cell?,aU,hu],by simp [child,World.cell?,aU,hu],h1 k _ hu,Fs k,ah k x _ hk hu⟩
  | ref j=>simp [ab.isRef] at j
end
def pR (g:aK) (d:Nat):Option Operand->Nat->Prop
 | none,J=>J=d
 | some o,J=>∃ k,bo g o=some (.lit (.int k (J:Int)))
inductive cU (P:Program) (g:aK):Op->TypeId->ab->Prop
 | move {x:Operand}{ty:TypeId}{y:ab}(j:bo g x=some y):cU P g (.move x) ty y
 | assign {x:Operand}{ty:TypeId}{y:ab}(j:bo g x=some y):cU P g (.assign x) ty y
 | pick {c a b:Operand}{ty:TypeId}{t:Bool}{r:ab}(aa:bo g c=some (.lit (.bool t))) (ah:bo g (if t then a else b)=some r):cU P g (.pick c a b) ty r
 | Fk {x:Operand}{ty:TypeId}{p:Place}{k:Nat}(j:bo g x=some (.ptr p k)):cU P g (.nilCheck x) ty (.ptr p k)
 | qh {x:Operand}{ty:TypeId}{cs:List ab}(j:bo g x=some (.cO cs)):cU P g (.nilCheck x) ty (.cO cs)
 | A8 {x:Operand}{ty s t:TypeId}{f off:Nat}{p:Place}{k:Nat}(j:bo g x=some (.ptr p k)) (aS:iV P s f off t=true) (cX:gZ g (.ptr p (k+off))):cU P g (.fieldAddr s x f) ty (.ptr p (k+off))
 | Eb {x:Operand}{ty s t:TypeId}{f off:Nat}{cs:List ab}(j:bo g x=some (.cO cs)) (aS:iV P s f off t=true):cU P g (.fieldAddr s x f) ty (.cO (cs.drop off))
 | Ea {x:Operand}{ty s t:TypeId}{f off:Nat}{cs:List ab}{y:ab}(j:bo g x=some (.agg cs)) (aS:iV P s f off t=true) (aq:j9 P t=true) (al:cs[off]?=some y):cU P g (.field s x f) ty y
 | Hw {x:Operand}{ty s t:TypeId}{f off k:Nat}{cs:List ab}(j:bo g x=some (.agg cs)) (aS:iV P s f off t=true) (aq:iH P t k=true) (hk:off+k<=cs.length):cU P g (.field s x f) ty (.agg ((cs.drop off).take k))
 | EY {x i:Operand}{ty t e:TypeId}{z n:Nat}{cs:List ab}{nz:IntKind}{J:Nat}(j:bo g x=some (.bm z n cs)) (hi:bo g i=some (.lit (.int nz (J:Int)))) (aq:fb P t e z=true) (ai:J<n):cU P g (.indexAddr t x i) ty (.cO (cs.drop (J * z)))
 | EX {x i:Operand}{ty t e:TypeId}{z n:Nat}{p:Place}{nz:IntKind}{J:Nat}(j:bo g x=some (.bg z p n)) (hi:bo g i=some (.lit (.int nz (J:Int)))) (aq:fb P t e z=true) (ai:J<n) (cX:gZ g (.ptr p (J * z))):cU P g (.indexAddr t x i) ty (.ptr p (J * z))
 | Je {x i:Operand}{ty t e:TypeId}{z lo n:Nat}{p:Place}{nz:IntKind}{J:Nat}(j:bo g x=some (.sub z p lo n)) (hi:bo g i=some (.lit (.int nz (J:Int)))) (aq:fb P t e z=true) (ai:J<n) (cX:gZ g (.ptr p ((lo+J) * z))):cU P g (.indexAddr t x i) ty (.ptr p ((lo+J) * z))
 | Jd {x i:Operand}{ty t e:TypeId}{n z k:Nat}{p:Place}{nz:IntKind}{J:Nat}(j:bo g x=some (.ptr p k)) (hi:bo g i=some (.lit (.int nz (J:Int)))) (aq:DT P t e n z=true) (ai:J<n) (cX:gZ g (.ptr p (k+J * z))):cU P g (.indexAddr t x i) ty (.ptr p (k+J * z))
 | Jc {x i:Operand}{ty t e:TypeId}{n z:Nat}{cs:List ab}{nz:IntKind}{J:Nat}(j:bo g x=some (.cO cs)) (hi:bo g i=some (.lit (.int nz (J:Int)))) (aq:DT P t e n z=true) (ai:J<n):cU P g (.indexAddr t x i) ty (.cO (cs.drop (J * z)))
 | Fa {x:Operand}{ty t:TypeId}{c:ab}{cs:List ab}(j:bo g x=some (.cO (c::cs))) (aq:j9 P t=true):cU P g (.load t x) ty c
 | Fb {x:Operand}{ty t:TypeId}{k:Nat}{cs:List ab}(j:bo g x=some (.cO cs)) (aq:iH P t k=true) (hk:k<=cs.length):cU P g (.load t x) ty (.agg (cs.take k))
 | Ci {x:Operand}{ty t:TypeId}{p:Place}{k:Nat}{y:ab}(j:bo g x=some (.ptr p k)) (aq:j9 P t=true) (al:bu g (p.push k)=some y):cU P g (.load t x) ty (fD 0 (p.push k) y)
 | xB {x:Operand}{ty t:TypeId}{p:Place}{k m z n:Nat}{y:ab}{cs:List ab}(j:bo g x=some (.ptr p k)) (aq:iH P t m=true) (al:bu g p=some y) (aa:y=.own z n cs\/y=.obj cs) (hm:k+m<=cs.length):cU P g (.load t x) ty (.agg (((cs.drop k).take m).mapIdx λi x=>fD 0 (p.push (k+i)) x))
 | EZ {x i:Operand}{ty t:TypeId}{s:ByteArray}{nz:IntKind}{J:Nat}{b:UInt8}(j:bo g x=some (.lit (.string s))) (hi:bo g i=some (.lit (.int nz (J:Int)))) (aq:oc P t=true) (av:s[J]?=some b):cU P g (.index t x i) ty (.lit (.int .u8 b.toNat))
 | bin {op:BinOp}{x y:Operand}{ty t t2:TypeId}{a b v:Value}(j:bo g x=some (.lit a)) (al:bo g y=some (.lit b)) (hv:v.oneCell'=true) (ah:∀ w,(do eqGuard op t x y a b; binOp op t a b:Sem Value).run P w=.ok v w):cU P g (.binOp op t x y t2) ty (.lit v)
 | AM {op:BinOp}{x y:Operand}{ty t t2:TypeId}{dy dq:List Value}{v:Value}(j:bo g x=some (.agg (dy.map .lit))) (al:bo g y=some (.agg (dq.map .lit))) (hv:v.oneCell'=true) (ah:∀ w,(do eqGuard op t x y (.agg dy.toArray) (.agg dq.toArray); binOp op t (.agg dy.toArray) (.agg dq.toArray):Sem Value).run P w=.ok v w):cU P g (.binOp op t x y t2) ty (.lit v)
 | un {op:UnOp}{x:Operand}{ty t:TypeId}{a v:Value}(j:bo g x=some (.lit a)) (hv:v.oneCell'=true) (ah:∀ w,(Op.unary op a).run P w=.ok v w):cU P g (.unOp op t x) ty (.lit v)
 | conv {x:Operand}{ty s d:TypeId}{a v:Value}(j:bo g x=some (.lit a)) (hv:v.oneCell'=true) (ah:∀ w,(convert s d a).run P w=.ok v w):cU P g (.convert s d x) ty (.lit v)
 | D3 {x:Operand}{ty s d:TypeId}{n N:Nat}{p:Place}{cs:List ab}{xs:List Int}(j:bo g x=some (.bg 1 p n)) (au:bu g p=some (.own 1 N cs)) (aA:n<=N) (gR:cs.take n=xs.map λb=>.lit (.int .u8 b)) (aq:wK P s d=true):cU P g (.convert s d x) ty (.lit (.string (strOfNums xs)))
 | D4 {x:Operand}{ty s d:TypeId}{n:Nat}{xs:List Int}(j:bo g x=some (.bm 1 n (xs.map λb=>.lit (.int .u8 b)))) (aq:wK P s d=true):cU P g (.convert s d x) ty (.lit (.string (strOfNums xs)))
 | Ht {xs:Array Operand}{ga:Array TypeId}{ty:TypeId}{f:FuncId}{vs:List Value}{v:Value}(j:xs.toList.map (bo g)=vs.map λv=>some (.lit v)) (hv:v.oneCell'=true)
   (ah:∀ w,(callFunc f vs.toArray).run P w=.ok (.value v) w):cU P g (.call { callee:=.value (.func f),args:=xs,argTypes:=ga }) ty (.lit v)
 | D9 {x:Operand}{ty:TypeId}{i:Nat}{cs:List ab}{y:ab}(j:bo g x=some (.bQ cs)) (al:cs[i]?=some y):cU P g (.extract x i) ty y
 | Ae {x:Operand}{lo hi:Option Operand}{ty t e:TypeId}{z n l h:Nat}{cs:List ab}(j:bo g x=some (.bm z n cs)) (aj:pR g 0 lo l) (bG:pR g n hi h) (aq:fb P t e z=true) (sG:l<=h) (aA:h<=n):cU P g (.slice t x lo hi none) ty (.bm z (h - l) ((cs.drop (l * z)).take ((h - l) * z)))
 | Ku {x:Operand}{lo hi:Option Operand}{ty t e:TypeId}{z n h:Nat}{p:Place}(j:bo g x=some (.bg z p n)) (aj:pR g 0 lo 0) (bG:pR g n hi h) (aq:fb P t e z=true) (aA:h<=n) (cX:gZ g (.bg z p h)):cU P g (.slice t x lo hi none) ty (.bg z p h)
 | FR {x:Operand}{lo hi:Option Operand}{ty t e:TypeId}{z n l h:Nat}{p:Place}(j:bo g x=some (.bg z p n)) (aj:pR g 0 lo l) (bG:pR g n hi h) (aq:fb P t e z=true) (sG:l<=h) (aA:h<=n) (cX:gZ g (.sub z p l (h - l))):cU P g (.slice t x lo hi none) ty (.sub z p l (h - l))
 | Af {x:Operand}{lo hi:Option Operand}{ty t:TypeId}{l h:Nat}{s:ByteArray}(j:bo g x=some (.lit (.string s))) (aj:pR g 0 lo l) (bG:pR g s.size hi h) (aq:oc P t=true) (sG:l<=h) (aA:h<=s.size):cU P g (.slice t x lo hi none) ty (.lit (.string (s.extract l h)))
 | Ce {x:Operand}{ty t e:TypeId}{z bs n:Nat}{cs:List ab}(j:bo g x=some (.bm z n cs)) (aq:fb P t e bs=true):cU P g (.call { callee:=.builtin .len,args:=#[x],argTypes:=#[t] }) ty (.lit (.int .i64 n))
 | Cd {x:Operand}{ty t e:TypeId}{z bs n:Nat}{p:Place}(j:bo g x=some (.bg z p n)) (aq:fb P t e bs=true):cU P g (.call { callee:=.builtin .len,args:=#[x],argTypes:=#[t] }) ty (.lit (.int .i64 n))
 | Jx {x:Operand}{ty t e:TypeId}{z bs lo n:Nat}{p:Place}(j:bo g x=some (.sub z p lo n)) (aq:fb P t e bs=true):cU P g (.call { callee:=.builtin .len,args:=#[x],argTypes:=#[t] }) ty (.lit (.int .i64 n))
 | Jw {x:Operand}{ty t e:TypeId}{bs:Nat}(j:bo g x=some .aQ) (aq:fb P t e bs=true):cU P g (.call { callee:=.builtin .len,args:=#[x],argTypes:=#[t] }) ty (.lit (.int .i64 0))
 | lits {b:Builtin}{xs:Array Operand}{ga:Array TypeId}{ty:TypeId}{vs:List Value}{v:Value}(j:xs.toList.map (bo g)=vs.map λv=>some (.lit v)) (hv:v.oneCell'=true)
   (ah:∀ w (cs:Array Bool),(builtin b ga ty cs vs.toArray).run P w=.ok (.value v) w):cU P g (.call { callee:=.builtin b,args:=xs,argTypes:=ga }) ty (.lit v)
 | JB {x y:Operand}{ty t:TypeId}{p:Place}{q:Array MapEntry->Nat->Prop}{ok:Bool}{Y X:ab}{qZ V:Value}(j:bo g x=some (.hr p)) (au:bu g p=some (.mp q)) (al:bo g y=some Y)
   (c6:∀ (w:World) (I:a8) (ρ:ab->Value->Prop) (v:Value),R w I ρ Y v ct->v=qZ) (aY:∀ (w:World) (I:a8) (ρ:ab->Value->Prop),R w I ρ X V ct)
   (ah:∀ (w:World) (b:Nat) (es:Array MapEntry) (clock:Nat),w.heap[b]?=some (.map es clock)->q es clock->(Instr.lookup t (.map (some b)) qZ ok).run P w=.ok V w):cU P g (.lookup t x y ok) ty X
 | Ch {x y:Operand}{ty t:TypeId}{q:Array MapEntry->Nat->Prop}{ok:Bool}{Y X:ab}{qZ V:Value}(j:bo g x=some (.imp q)) (al:bo g y=some Y)
   (c6:∀ (w:World) (I:a8) (ρ:ab->Value->Prop) (v:Value),R w I ρ Y v ct->v=qZ) (aY:∀ (w:World) (I:a8) (ρ:ab->Value->Prop),R w I ρ X V ct)
   (ah:∀ (w:World) (b:Nat) (es:Array MapEntry) (clock:Nat),w.heap[b]?=some (.map es clock)->q es clock->(Instr.lookup t (.map (some b)) qZ ok).run P w=.ok V w):cU P g (.lookup t x y ok) ty X
theorem R.Xn {w:World}{I:a8}{ρ:ab->Value->Prop}{p:Place}{v:Value}{F:a8}(h:R w I ρ (.hr p) v F):ρ (.hr p) v:=by
 cases h with
 | ref _ h _=>exact h
theorem R.Xm {w:World}{I:a8}{ρ:ab->Value->Prop}{q:Array MapEntry->Nat->Prop}{v:Value}{F:a8}(h:R w I ρ (.mp q) v F):∃ b es clock,v=.map (some b)/\w.heap[b]?=some (.map es clock)/\q es clock/\∀ c,F c↔c=b:=by
 cases h with
 | ref j=>simp [ab.isRef] at j
 | mp aU a7 aH=>exact ⟨_,_,_,rfl,aU,a7,aH⟩
theorem R.Xl {w:World}{I:a8}{ρ:ab->Value->Prop}{q:Array MapEntry->Nat->Prop}{v:Value}{F:a8}(h:R w I ρ (.imp q) v F):∃ b es clock,v=.map (some b)/\w.heap[b]?=some (.map es clock)/\q es clock:=by
 cases h with
 | ref j=>simp [ab.isRef] at j
 | imp _ _ aU a7=>exact ⟨_,_,_,rfl,aU,a7⟩
end Go.Own
namespace Go.Own
open Go
set_option linter.unusedSectionVars false
variable [cI]
section
variable {P:Program}{w:World}{I:a8}{T:Array Value}{g:aK}{Fs:Nat->a8}
theorem pR.sound (h:cF w I T g Fs) {d:Nat}{x:Option Operand}{J:Nat}(av:pR g d x J) {a:Act}(aR:a.tmps=T):(x.map a.eval=none/\J=d)\/∃ k,x.map a.eval=some (.int k (J:Int)):=by
 cases x with
 | none=>exact .inl ⟨rfl,av⟩
 | some o =>
  obtain ⟨k,hk⟩:=av;exact .inr ⟨k,by rw [Option.map_some,(la h hk aR).h'.1]⟩
theorem FJ {len cap l h:Nat}{lo hi:Option Value}(aj:(lo=none/\l=0)\/∃ k,lo=some (.int k (l:Int))) (bG:(hi=none/\h=len)\/∃ k,hi=some (.int k (h:Int))) (b:Bool) (sG:l<=h) (aa:h<=cap) :
  (Instr.sliceBounds b len cap lo hi none).run P w=.ok (l,h,cap) w:=by
 rcases aj with ⟨rfl,rfl⟩ | ⟨k,rfl⟩ <;> rcases bG with ⟨rfl,rfl⟩ | ⟨kJ,rfl⟩ <;> simp [Instr.sliceBounds,Instr.sliceBound,asIntOf,sG,aa]
theorem OB (h:cF w I T g Fs) {a:Act}(aR:a.tmps=T):∀ (xs:List Operand) (vs:List Value),xs.map (bo g)=vs.map (λv=>some (.lit v))->xs.map a.eval=vs
 | [],[],_=>rfl
 | [],_::_,h=>by simp at h
 | _::_,[],h=>by simp at h
 | x::xs,v::vs,j=>by
  simp only [List.map_cons,List.cons.injEq] at j;rw [List.map_cons,(la h j.1 aR).h'.1,OB h aR xs vs j.2]
theorem Ly {w:World}{I:a8}{ρ:ab->Value->Prop}{v:Value}{dy:List Value}
  (h:∃ vs:Array Value,v=.agg vs/\(dy.map ab.lit).length=vs.size/\(∀ (k:Nat) (u:Value),vs[k]?=some u->u.oneCell'=true)/\∀ (k:Nat) (x:ab) (u:Value),(dy.map ab.lit)[k]?=some x->vs[k]?=some u->R w I ρ x u ct):v=.agg dy.toArray:=by
 obtain ⟨vs,rfl,aj,-,ah⟩:=h;congr 1;apply Array.ext (by simpa using aj.symm);intro i h1 af;have aJ:i<dy.length:=by simpa using af
 have:=(ah i (.lit dy[i]) vs[i] (by simp [aJ]) (Array.getElem?_eq_getElem h1)).h'.1
 grind
theorem cU.sound (h:cF w I T g Fs) {a:Act}(aR:a.tmps=T) {o:Oper}{kz:ab}(au:cU P g o.op o.type kz) :
  ∃ v,(execOp a.eval o).run P w=.ok (.value v) w/\R w I (dR w T g) kz v ct:=by
 obtain ⟨dst,op,ty,pos,after,guard⟩:=o;simp only at au;have fJ:∀ {x:Operand}{y:ab},bo g x=some y->R w I (dR w T g) y (a.eval x) ct:=λal=>la h al aR;have no:∀ c,¬ ct c:=λ_ h=>h;cases au with
 | move j=>exact ⟨_,by simp [execOp],fJ j⟩
 | assign j=>exact ⟨_,by simp [execOp],fJ j⟩
 | @pick c x y _ t r aa ah =>
  have vh:=(fJ aa).h'.1;refine ⟨_,?_,fJ ah⟩;simp [execOp,vh,asBool]
  grind
 | @Fk x _ p k j =>
  have ah:=fJ j;obtain ⟨⟨u,ad,h1,af,aJ⟩,bx⟩:=ah.nx
  simp_all [execOp]
 | @qh x _ cs j =>
  have ah:=fJ j;obtain ⟨ad,us,aJ,_⟩:=ah.xo
  simp_all [execOp]
 | @A8 x _ s t f off p k j aS cX =>
  obtain ⟨⟨u,ad,h1,af,aJ⟩,bx⟩:=(fJ j).nx;refine ⟨.pointer (some ⟨ad.block,ad.off+k+off,none⟩),by simp [execOp,aJ,PH aS],.ref rfl ⟨⟨u,ad,h1,af,by rw [Nat.add_assoc]⟩,cX⟩ no⟩
 | @Eb x _ s t f off cs j aS =>
  obtain ⟨ad,us,aJ,bb,ay,gv,aa,ah⟩:=(fJ j).xo;obtain ⟨b,o,sp⟩:=ad;simp only at ay;subst ay;refine ⟨.pointer (some ⟨b,o+off,none⟩),by simp [execOp,aJ,PH aS],.cO (us:=λk=>us (off+k)) no bb rfl (λk x hk=>gv _ x (by rwa [List.getElem?_drop] at hk)) (λk x hk=>?_) λk x hk=>?_⟩
  ·grind
  grind
 | @Ea x _ s t f off cs y j aS aq al =>
  obtain ⟨vs,aJ,aj,gv,ah⟩:=(fJ j).B8 no;obtain ⟨fs,fd,hu,Iq,rfl,rfl,i,hi,aO⟩:=Hx aS;have hk:fd.offset<cs.length:=(List.getElem?_eq_some_iff.1 al).1;have hv:vs[fd.offset]?=some vs[fd.offset]:=Array.getElem?_eq_getElem (aj ▸ hk);refine ⟨_,?_,ah _ kz _ al hv⟩;simp [execOp,aJ,Instr.field,run_underlying hu,Iq,asAgg,part,(Hd (w:=w) aq).1,hv]
 | @Hw x _ s t f off k cs j aS aq hk =>
  obtain ⟨vs,aJ,aj,gv,ah⟩:=(fJ j).B8 no;obtain ⟨fs,fd,hu,Iq,rfl,rfl,i,hi,aO⟩:=Hx aS;refine ⟨.agg (vs.extract fd.offset (fd.offset+k)),?_,.agg (Fs:=λ_=>ct) (by simp [aj]; omega) (λJ u hP=>by
   rw [Array.getElem?_extract] at hP
   grind) (λJ y u al hP=>?_) (λ_ _ _ _ _ h=>h.elim) (λc=>⟨λh=>h.elim,λ⟨_,_,h⟩=>h⟩)⟩
  ·simp [execOp,aJ,Instr.field,run_underlying hu,Iq,asAgg,part,(DP (w:=w) aq).1,(DP (w:=w) aq).2]
  grind
 | @EY x i _ t e z n cs nz J j hi aq ai =>
  obtain ⟨hu,he,aW⟩:=qv (w:=w) aq;obtain ⟨lq,cap,aJ,_,aj,hm⟩:=(fJ j).zw;obtain ⟨ad,us,rfl,bb,ay,gv,aa,ah⟩:=hm (.inr (by omega));obtain ⟨b,o,sp⟩:=ad;simp only at ay;subst ay;have sF:=(fJ hi).h'.1;refine ⟨.pointer (some ⟨b,o+J * z,none⟩),?_,.cO (us:=λk=>us (J * z+k)) no bb rfl (λk x hk=>gv _ x (by rwa [List.getElem?_drop] at hk)) (λk x hk=>?_) λk x hk=>?_⟩
  ·simp [execOp,aJ,sF,Instr.indexAt,run_underlying hu,asIntOf,ai,aW,add_eq]
  ·grind
  grind
 | @EX x i _ t e z n p nz J j hi aq ai cX =>
  obtain ⟨hu,he,aW⟩:=qv (w:=w) aq;obtain ⟨⟨lq,N,cap,h1,af,aJ⟩,bx⟩:=(fJ j).mO;have sF:=(fJ hi).h'.1;obtain ⟨y,al,jY,de,cs,ep,aT⟩:=cX;obtain ⟨v,cn,hv,dB,_⟩:=h.part al (by rcases ep with rfl | rfl <;> simp);rw [h1] at hv;cases hv;obtain ⟨b,u,ft,mh,_,_⟩:=dB.node ep (List.getElem?_eq_getElem aT);cases lq with
  | none=>simp [addrOf] at ft
  | some ad =>
   simp only [addrOf,Option.some.injEq] at ft;subst ft;refine ⟨.pointer (some ⟨b,J * z,none⟩),?_,.ref rfl ⟨⟨_,_,h1,rfl,by simp⟩,y,al,jY,de,cs,ep,aT⟩ no⟩;simp [execOp,af,sF,Instr.indexAt,run_underlying hu,asIntOf,ai,aW,add_eq]
 | @Je x i _ t e z lo n p nz J j hi aq ai cX =>
  obtain ⟨hu,he,aW⟩:=qv (w:=w) aq;obtain ⟨⟨lq,N,cap,bZ,mF,h1,af,_,aJ,cu⟩,bx⟩:=(fJ j).xp;obtain ⟨ad,rfl,rfl⟩:=cu (by omega);have sF:=(fJ hi).h'.1;obtain ⟨y,al,jY,de,cs,ep,aT⟩:=cX;obtain ⟨v,cn,hv,dB,_⟩:=h.part al (by rcases ep with rfl | rfl <;> simp);rw [h1] at hv;cases hv;obtain ⟨b,u,ft,mh,_,_⟩:=dB.node ep (List.getElem?_eq_getElem aT);simp only [addrOf,Option.some.injEq] at ft;subst ft;refine ⟨.pointer (some ⟨b,(lo+J) * z,none⟩),?_,.ref rfl ⟨⟨_,_,h1,rfl,by simp⟩,y,al,jY,de,cs,ep,aT⟩ no⟩;simp [execOp,af,sF,Instr.indexAt,run_underlying hu,asIntOf,ai,aW,add_eq,Nat.add_mul]
 | @Jd x i _ t e n z k p nz J j hi aq ai cX =>
  obtain ⟨hu,aW⟩:=LH (w:=w) aq;obtain ⟨⟨u,ad,h1,af,aJ⟩,bx⟩:=(fJ j).nx;have sF:=(fJ hi).h'.1;refine ⟨.pointer (some ⟨ad.block,ad.off+k+J * z,none⟩),?_,.ref rfl ⟨⟨u,ad,h1,af,by rw [Nat.add_assoc]⟩,cX⟩ no⟩;simp [execOp,aJ,sF,Instr.indexAt,run_underlying hu,Instr.sureAddr,asIntOf,ai,aW,add_eq]
 | @Jc x i _ t e n z cs nz J j hi aq ai =>
  obtain ⟨hu,aW⟩:=LH (w:=w) aq;obtain ⟨ad,us,aJ,bb,ay,gv,aa,ah⟩:=(fJ j).xo;obtain ⟨b,o,sp⟩:=ad;simp only at ay;subst ay;have sF:=(fJ hi).h'.1;refine ⟨.pointer (some ⟨b,o+J * z,none⟩),?_,.cO (us:=λk=>us (J * z+k)) no bb rfl (λk x hk=>gv _ x (by rwa [List.getElem?_drop] at hk)) (λk x hk=>?_) λk x hk=>?_⟩
  ·simp [execOp,aJ,sF,Instr.indexAt,run_underlying hu,Instr.sureAddr,asIntOf,ai,aW,add_eq]
  ·grind
  grind
 | @Fa x _ t c cs j aq =>
  obtain ⟨ad,us,aJ,bb,ay,gv,aa,ah⟩:=(fJ j).xo;obtain ⟨b,o,sp⟩:=ad;simp only at ay;subst ay;have aO:w.cell? ⟨b,o,none⟩=some (us 0):=by simpa using aa 0 kz rfl
  simp_all [execOp,PJ]
 | @Fb x _ t k cs j aq hk =>
  obtain ⟨ad,us,aJ,bb,ay,gv,aa,ah⟩:=(fJ j).xo;obtain ⟨b,o,sp⟩:=ad;simp only at ay;subst ay;have VX:∀ J v,((List.range k).map us)[J]?=some v->w.cell? ⟨b,o+J,none⟩=some v:=by
   grind
  refine ⟨.agg ((List.range k).map us).toArray,by simp [execOp,aJ,PI aq (by simp) VX],.agg (Fs:=λ_=>ct) (by simp; omega) (λJ u hP=>by
   grind) (λJ y u al hP=>?_) (λ_ _ _ _ _ h=>h.elim) (λc=>⟨λh=>h.elim,λ⟨_,_,h⟩=>h⟩)⟩
  grind
 | @Ci x _ t p k y j aq al =>
  obtain ⟨⟨u,ad,h1,af,aJ⟩,bx⟩:=(fJ j).nx;rw [tD] at al;cases aA:bu g p with
  | none=>rw [aA] at al; cases al
  | some nd =>
   rw [aA] at al;simp only [Option.bind_some] at al;obtain ⟨y',nv,jY,de,cs,ep,aT⟩:=bx;rw [aA] at nv;cases nv;obtain ⟨v,cn,hv,dB,di⟩:=h.part aA (by rcases ep with rfl | rfl <;> simp);rw [h1] at hv;cases hv;have jN:cs[k]?=some y:=by rcases ep with rfl | rfl <;> simpa [ab.kids] using al
   obtain ⟨b,gF,ft,mh,nk,gv,bW,j'⟩:=dB.node ep jN;rw [ft] at af;cases af;refine ⟨gF,by simp only [execOp,aJ]; simp [PJ aq mh],FF 0 (by rw [tD,aA]; exact al) (by rw [yi,h1]; exact nk) j'⟩
 | @xB x _ t p k m z n y cs j aq al ep hm =>
  obtain ⟨⟨u,ad,h1,af,aJ⟩,bx⟩:=(fJ j).nx;obtain ⟨v,cn,hv,dB,di⟩:=h.part al (by rcases ep with rfl | rfl <;> simp);rw [h1] at hv;cases hv;have pr:∃ b,ad=⟨b,0,none⟩:=by
   obtain ⟨y',nv,jY,de,cs',Od,aT⟩:=bx;rw [al] at nv;cases nv;have:cs'=cs:=by rcases ep with rfl | rfl <;> rcases Od with bG | bG <;> cases bG <;> rfl
   subst this;obtain ⟨b,gF,ft,_⟩:=dB.node Od (List.getElem?_eq_getElem aT)
   grind
  obtain ⟨b,rfl⟩:=pr;have Iy:y.kids=cs:=by rcases ep with rfl | rfl <;> rfl
  have cell:∀ J,J<m->∃ gF,w.cell? ⟨b,k+J,none⟩=some gF/\gF.oneCell'=true/\∃ kQ,cs[k+J]?=some kQ/\R w I (dR w T g) (fD 0 (p.push (k+J)) kQ) gF ct:=by
   intro J ai;have fL:cs[k+J]?=some cs[k+J]:=List.getElem?_eq_getElem (by omega);obtain ⟨dX,gF,ft,mh,nk,gv,bW,j'⟩:=dB.node ep fL;rw [af] at ft;cases ft;exact ⟨gF,mh,gv,_,fL,FF 0 (by rw [tD,al]; simp [Iy]) (by rw [yi,h1]; exact nk) j'⟩
  have hex:∃ us:List Value,us.length=m/\∀ J v,us[J]?=some v->w.cell? ⟨b,k+J,none⟩=some v:=by
   refine ⟨(List.range m).map λJ=>(w.cell? ⟨b,k+J,none⟩).getD undef,by simp,?_⟩
   grind
  obtain ⟨us,n0,WA⟩:=hex;refine ⟨.agg us.toArray,by simp only [execOp,aJ]; simp [PI aq n0 (b:=b) (o:=k) WA],.agg (Fs:=λ_=>ct) (by simp; omega) (λJ u hP=>by
   grind) (λJ iM u sP hP=>?_) (λ_ _ _ _ _ h=>h.elim) (λc=>⟨λh=>h.elim,λ⟨_,_,h⟩=>h⟩)⟩
  grind
 | @D3 x _ s d n N p cs xs j au aA gR aq =>
  obtain ⟨e,ay,he,aP⟩:=LW aq;obtain ⟨⟨lq,iR,cap,h1,af,aJ⟩,_⟩:=(fJ j).mO;obtain ⟨v,cn,hv,dB,di⟩:=h.part au (by simp);rw [h1] at hv;cases hv;have hF:(cs.take n).length=n:=by
   obtain ⟨_,_,_,aj⟩:=dB.mR
   grind
  have hlen:xs.length=n:=by rw [<- hF,gR,List.length_map]
  refine ⟨_,?_,.lit rfl no⟩;obtain ⟨_,_,kb,_,_,qS,um⟩:=dB.mR;cases kb;cases lq with
  | none =>
   have aO:n=0:=by
    grind
   have:xs=[]:=List.eq_nil_of_length_eq_zero (hlen.trans aO);subst this;have ah:=run_convert_bytes_nil (P:=P) (w:=w) s e ay he n cap d aP;simp [execOp,af,ah];rfl
  | some ad =>
   obtain ⟨b,o,sp⟩:=ad;obtain ⟨rfl,rfl⟩:=qS _ rfl;have ah:=run_convert_bytes_arg (P:=P) w s e ay he b 0 n cap xs hlen (λi hi=>by
    have Ii:(cs.take n)[i]?=some (.lit (.int .u8 (xs.getD i 0))):=by
     grind
    have Vm:cs[i]?=some (.lit (.int .u8 (xs.getD i 0))):=by
     grind
    obtain ⟨dX,u,ft,mh,_,_,bW,j'⟩:=dB.node (.inl rfl) Vm;simp only [addrOf,Option.some.injEq,Addr.mk.injEq,and_true] at ft;subst ft;rw [Nat.zero_add,mh,j'.h'.1]) d aP
   simp_all [execOp]
 | @D4 x _ s d n xs j aq =>
  obtain ⟨e,ay,he,aP⟩:=LW aq;have aY:=fJ j;generalize rM:a.eval x=v at aY;refine ⟨_,?_,.lit rfl no⟩;generalize gR:(xs.map λb=>ab.lit (.int .u8 b))=cs at aY;cases aY with
  | ref j=>simp [ab.isRef] at j
  | @hz _ cap lq _ aH =>
   have:xs=[]:=by simpa using gR
   subst this;cases lq with
   | none =>
    have ah:=run_convert_bytes_nil (P:=P) (w:=w) s e ay he 0 cap d aP;simp [execOp,rM,ah];rfl
   | some ad =>
    have aj:(loadCells ad 0).run P w=.ok (([]:List Int).map (Value.int .u8)).toArray w:=by
     have:=run_loadCells_list (P:=P) w ad [] (λJ v ai=>by simp at ai)
     grind
    have ah:=run_bytesToString w ad 0 cap [] aj;have aa:=run_convert_bytes_string (P:=P) w s d e (some ad) 0 cap ay he aP;rw [ah] at aa;simp [execOp,rM,aa];rfl
  | @bm _ _ cap _ ad us _ aH k2 bb kG aj h1 aa ah =>
   obtain ⟨b,o,sp⟩:=ad;simp only at kG;subst kG;have hlen:xs.length=n:=by rw [<- List.length_map (f:=λb=>ab.lit (.int .u8 b)),gR,aj,Nat.mul_one]
   have dM:=run_convert_bytes_arg (P:=P) w s e ay he b o n cap xs hlen (λi hi=>by
    have Ii:cs[i]?=some (.lit (.int .u8 (xs.getD i 0))):=by
     grind
    have:=aa i _ Ii;simp only at this;rw [this,(ah i _ Ii).h'.1]) d aP
   simp_all [execOp]
 | @Ht xs ga _ f vs v j hv ah =>
  refine ⟨v,?_,.lit hv no⟩;have IW:xs.map a.eval=vs.toArray:=by
   apply Array.toList_inj.1;apply List.ext_getElem?;intro k;have:=congrArg (·[k]?) j;simp only [List.getElem?_map] at this;rw [Array.toList_map,List.getElem?_map];cases hk:xs.toList[k]? with
   | none =>
    grind
   | some o =>
    rw [hk] at this;cases hv:vs[k]? with
    | none=>rw [hv] at this; cases this
    | some v =>
     rw [hv] at this;simp only [Option.map_some,Option.some.injEq] at this ⊢;rw [(fJ this).h'.1]
  have aS:a.eval (.func f)=.func (.func f) #[] #[]:=rfl
  simp_all [execOp,resolve,Deferred.ofValue,invoke]
 | @EZ x i _ t s nz J b j hi aq av =>
  have vv:=(fJ j).h'.1;have sF:=(fJ hi).h'.1;refine ⟨.int .u8 b.toNat,?_,.lit rfl no⟩
  simp_all [execOp,Instr.index,run_underlying,Kw,asIntOf]
 | @bin op x y _ t t2 bZ b v j al hv ah =>
  have h1:=(fJ j).h'.1;have af:=(fJ al).h'.1;refine ⟨v,?_,.lit hv no⟩
  grind [execOp,Sem.run_bind,Result.andThen_ok,Sem.run_pure]
 | @AM op x y _ t t2 dy dq v j al hv ah =>
  have h1:=Ly ((fJ j).B8 no);have af:=Ly ((fJ al).B8 no);refine ⟨v,?_,.lit hv no⟩
  grind [execOp,Sem.run_bind,Result.andThen_ok,Sem.run_pure]
 | @un op x _ t bZ v j hv ah =>
  have h1:=(fJ j).h'.1;exact ⟨v,by simp [execOp,h1,ah],.lit hv no⟩
 | @conv x _ s d bZ v j hv ah =>
  have h1:=(fJ j).h'.1;exact ⟨v,by simp [execOp,h1,ah],.lit hv no⟩
 | @D9 x _ i cs y j al =>
  obtain ⟨vs,aJ,aj,ah⟩:=(fJ j).Xo no;have hk:i<cs.length:=(List.getElem?_eq_some_iff.1 al).1;have hv:vs[i]?=some vs[i]:=Array.getElem?_eq_getElem (aj ▸ hk);exact ⟨_,by simp [execOp,aJ,Instr.extract,hv],ah _ kz _ al hv⟩
 | @Ae x lo hi _ t e z n l bG cs j aj vj aq sG aA =>
  obtain ⟨hu,he,aW⟩:=qv (w:=w) aq;obtain ⟨lq,cap,aJ,k2,hlen,hm⟩:=(fJ j).zw;have av:=FJ (P:=P) (w:=w) (len:=n) (cap:=cap) (aj.sound h aR) (vj.sound h aR) true sG (by omega);have h_:(execOp a.eval { dst:=dst,op:=.slice t x lo hi none,type:=ty,pos:=pos,after:=after,guard:=guard }).run P w=.ok (.value (sliced lq l bG cap z)) w:=by
   simp_all [execOp,Instr.sliceAt,run_underlying,Instr.slice,sliced]
  refine ⟨_,h_,?_⟩;by_cases aO:bG - l=0
  ·rw [aO];simp only [Nat.zero_mul,List.take_zero,sliced,aO];exact .hz no
  ·obtain ⟨ad,us,rfl,bb,ay,gv,aa,ah⟩:=hm (.inr (by omega));obtain ⟨b,o,sp⟩:=ad;simp only at ay;subst ay;have hF:cap≠l:=by omega
   simp only [sliced,hF,if_false,Option.map_some,add_eq];have BC:((cs.drop (l * z)).take ((bG - l) * z)).length=(bG - l) * z:=by
    rw [List.length_take,List.length_drop,hlen];have:(bG - l) * z+l * z<=n * z:=by rw [<- Nat.add_mul]; exact Nat.mul_le_mul_right _ (by omega)
    omega
   refine .bm (us:=λk=>us (l * z+k)) no (by omega) bb rfl BC (λk x hk=>gv (l * z+k) x (by
    grind)) (λk x hk=>?_) λk x hk=>?_
   ·grind
   grind
 | @Ku x lo hi _ t e z n bG p j aj vj aq aA cX =>
  obtain ⟨hu,he,aW⟩:=qv (w:=w) aq;obtain ⟨⟨lq,N,cap,h1,af,aJ⟩,bx⟩:=(fJ j).mO;have k2:N<=cap:=by
   rcases bx with ⟨iR,cs,cu,dL⟩ | ⟨aO,q,gU,m,new,cu,dL⟩
   ·obtain ⟨v,cn,hv,dB,_⟩:=h.part cu (by simp);rw [h1] at hv;obtain ⟨_,rE,NB,hle,_⟩:=dB.mR
    grind
   ·obtain ⟨v,hv,dB⟩:=h.rel _ _ cu;simp only [dU,hv,aO,walk,Option.some.injEq] at h1;subst h1;obtain ⟨bv,b_,b9,us,news,dB⟩:=dB.vG;obtain ⟨_,np⟩:=dB.np
    grind
  have av:=FJ (P:=P) (w:=w) (len:=n) (cap:=cap) (aj.sound h aR) (vj.sound h aR) true (Nat.zero_le _) (by omega);refine ⟨.slice lq bG cap,?_,.ref rfl ⟨⟨lq,N,cap,h1,rfl,by omega⟩,cX⟩ no⟩
  simp_all [execOp,Instr.sliceAt,run_underlying,Instr.slice,Addr.add]
 | @FR x lo hi _ t e z n l bG p j aj vj aq sG aA cX =>
  obtain ⟨hu,he,aW⟩:=qv (w:=w) aq;obtain ⟨⟨lq,N,cap,h1,af,aJ⟩,bx⟩:=(fJ j).mO;obtain ⟨iR,cs,cu,dL⟩:=cX;obtain ⟨v,cn,hv,dB,_⟩:=h.part cu (by simp);rw [h1] at hv;obtain ⟨a2,rE,NB,hle,hlen,qS,um⟩:=dB.mR;rw [NB] at hv;cases hv;have av:=FJ (P:=P) (w:=w) (len:=n) (cap:=cap) (aj.sound h aR) (vj.sound h aR) true sG (by omega);refine ⟨sliced lq l bG cap z,?_,.ref rfl ⟨⟨lq,_,cap,_,_,h1,rfl,by omega,by omega,λsI=>?_⟩,_,cs,cu,dL⟩ no⟩
  ·simp_all [execOp,Instr.sliceAt,run_underlying,Instr.slice,sliced]
  ·have ay:=um (by omega);cases lq with
   | none=>simp at ay
   | some ad =>
    obtain ⟨aO,mm⟩:=qS ad rfl;obtain ⟨b,o,sp⟩:=ad
    grind [add_eq]
 | @Af x lo hi _ t l bG s j aj vj aq sG aA =>
  have vv:=(fJ j).h'.1;have av:=FJ (P:=P) (w:=w) (len:=s.size) (cap:=s.size) (aj.sound h aR) (vj.sound h aR) false sG aA;exact ⟨.string (s.extract l bG),by simp [execOp,vv,Instr.sliceAt,run_underlying (Kw aq),Instr.slice,av],.lit rfl no⟩
 | @Ce x _ t e z bs n cs j aq =>
  obtain ⟨hu,he,aW⟩:=qv (w:=w) aq;obtain ⟨lq,cap,aJ,_⟩:=(fJ j).zw;exact ⟨_,by simp [execOp,resolve,invoke,builtin,aJ,Builtin.len_,run_underlying hu,goInt],.lit rfl no⟩
 | @Cd x _ t e z bs n p j aq =>
  obtain ⟨hu,he,aW⟩:=qv (w:=w) aq;obtain ⟨⟨lq,N,cap,h1,af,aJ⟩,bx⟩:=(fJ j).mO;exact ⟨_,by simp [execOp,resolve,invoke,builtin,af,Builtin.len_,run_underlying hu,goInt],.lit rfl no⟩
 | @Jx x _ t e z bs lo n p j aq =>
  obtain ⟨hu,he,aW⟩:=qv (w:=w) aq;obtain ⟨⟨lq,N,cap,bZ,mF,h1,af,_,aJ,cu⟩,bx⟩:=(fJ j).xp;exact ⟨_,by simp [execOp,resolve,invoke,builtin,af,Builtin.len_,run_underlying hu,goInt],.lit rfl no⟩
 | @Jw x _ t e bs j aq =>
  obtain ⟨hu,he,aW⟩:=qv (w:=w) aq;have af:=(fJ j).r5;exact ⟨_,by simp [execOp,resolve,invoke,builtin,af,Builtin.len_,run_underlying hu,goInt],.lit rfl no⟩
 | @lits b xs ga _ vs v j hv ah =>
  have oA:xs.map a.eval=vs.toArray:=by
   grind [Array.toList_map,OB]
  refine ⟨v,?_,.lit hv no⟩
  grind [execOp,resolve,invoke]
 | @JB x y _ t p q ok Y _ qZ V j au al c6 aY ah =>
  obtain ⟨⟨b,av,hv⟩,_⟩:=(fJ j).Xn;obtain ⟨ef,cn,iY,dB,_⟩:=h.part au (by simp);rw [av] at iY;cases iY;obtain ⟨dX,es,clock,e,aU,a7,_⟩:=dB.Xm;cases e;refine ⟨V,?_,aY _ _ _⟩;simp [execOp,hv,c6 _ _ _ _ (fJ al),ah w _ _ _ aU a7]
 | @Ch x y _ t q ok Y _ qZ V j al c6 aY ah =>
  obtain ⟨b,es,clock,hv,aU,a7⟩:=(fJ j).Xl;refine ⟨V,?_,aY _ _ _⟩;simp [execOp,hv,c6 _ _ _ _ (fJ al),ah w _ _ _ aU a7]
end
end Go.Own
namespace Go.Own
open Go
set_option linter.unusedSectionVars false
variable [cI]
structure Fr (w w':World) (U:a8):Prop where
 os:w'.os=w.os
 tape:w'.tape=w.tape
 output:w'.output=w.output
 size:w.heap.size<=w'.heap.size
 block:∀ b,b<w.heap.size->¬ U b->w'.heap[b]?=w.heap[b]?
 dS:∀ a,a.block<w.heap.size->¬ U a.block->w'.frozen? a=w.frozen? a
 wS:w.drawn<=w'.drawn
theorem Fr.refl (w:World) (U:a8):Fr w w U:=⟨rfl,rfl,rfl,Nat.le_refl _,λ_ _ _=>rfl,λ_ _ _=>rfl,Nat.le_refl _⟩
theorem Fr.mono {w w':World}{U U':a8}(h:Fr w w' U) (fy:∀ b,b<w.heap.size->U b->U' b):Fr w w' U':=⟨h.os,h.tape,h.output,h.size,λb av aA=>h.block b av λhu=>aA (fy b av hu),λa aR aA=>h.dS a aR λhu=>aA (fy _ aR hu),h.wS⟩
theorem Fr.trans {w gH fp:World}{U yP:a8}(h:Fr w gH U) (h1:Fr gH fp yP) (fy:∀ b,b<w.heap.size->yP b->U b):Fr w fp U :=
 ⟨h1.os.trans h.os,h1.tape.trans h.tape,h1.output.trans h.output,Nat.le_trans h.size h1.size,λb av aA=>(h1.block b (Nat.lt_of_lt_of_le av h.size) λhu=>aA (fy b av hu)).trans (h.block b av aA),λa aR aA=>(h1.dS a (Nat.lt_of_lt_of_le aR h.size) λhu=>aA (fy _ aR hu)).trans (h.dS a aR aA),Nat.le_trans h.wS h1.wS⟩
theorem alloc_old (w:World) (o:Obj) (k:Nat) (h:k<w.heap.size):(w.alloc o).heap[k]?=w.heap[k]?:=by
 show (w.heap.push o)[k]?=_;rw [Array.getElem?_push,if_neg (by omega)]
theorem ry (w:World) (o:Obj):(w.alloc o).heap[w.heap.size]?=some o:=by
 show (w.heap.push o)[w.heap.size]?=_;simp
theorem A' (w:World) (arr:Array Value) (t:TypeId) (a:Addr):(w.alloc (.cells arr t (0,0))).frozen? a=w.frozen? a:=by
 unfold World.frozen?;by_cases h:a.block=w.heap.size
 ·rw [h,ry];have:w.heap[w.heap.size]?=none:=by simp
  rw [this];simp
 ·by_cases af:a.block<w.heap.size
  ·rw [alloc_old w _ _ af]
  ·have aJ:(w.alloc (.cells arr t (0,0))).heap[a.block]?=none:=by
    show (w.heap.push _)[a.block]?=_;rw [Array.getElem?_eq_none];simp; omega
   have bx:w.heap[a.block]?=none:=Array.getElem?_eq_none (by omega);rw [aJ,bx]
theorem Ec (w:World) (g:Nat) (cs:Array Value) (a:Addr):(w.setRow g cs).frozen? a=w.frozen? a:=by
 unfold World.frozen? World.setRow;simp only [Array.getElem?_modify];by_cases h:g=a.block
 ·subst h;rw [if_pos rfl];cases bG:w.heap[a.block]? with
  | none=>rfl
  | some o=>cases o <;> rfl
 ·rw [if_neg h]
theorem TQ (w:World) (es:Array MapEntry) (n:Nat) (a:Addr):(w.alloc (.map es n)).frozen? a=w.frozen? a:=by
 unfold World.frozen?;by_cases h:a.block=w.heap.size
 ·rw [h,ry];have:w.heap[w.heap.size]?=none:=by simp
  rw [this]
 ·by_cases af:a.block<w.heap.size
  ·rw [alloc_old w _ _ af]
  ·have aJ:(w.alloc (.map es n)).heap[a.block]?=none:=by
    show (w.heap.push _)[a.block]?=_;rw [Array.getElem?_eq_none];simp; omega
   have bx:w.heap[a.block]?=none:=Array.getElem?_eq_none (by omega);rw [aJ,bx]
def Pl (o:Obj):Prop:=(∃ arr e,o=.cells arr e (0,0))\/∃ es n,o=.map es n
theorem Fr.alloc (w:World) (o:Obj) (U:a8) (aU:Pl o):Fr w (w.alloc o) U:=by
 refine ⟨rfl,rfl,rfl,by simp,λb av _=>alloc_old w o b av,λa _ _=>?_,Nat.le_refl _⟩;rcases aU with ⟨arr,e,rfl⟩ | ⟨es,n,rfl⟩
 ·exact A' w arr e a
 ·exact TQ w es n a
theorem R.Yv {w:World}{I:a8}{ρ:ab->Value->Prop}{x:ab}{v:Value}{F:a8}(h:R w I ρ x v F):∀ c,F c->∃ o,w.heap[c]?=some o/\Pl o:=by
 induction h with
 | eR aU _ aH =>
  intro c aa;have aa:=(aH c).1 aa;obtain ⟨_,bG⟩:=aU;rcases bG with ⟨rfl,_⟩ | ⟨b,cap,cur,rfl,_,jt,_⟩
  ·simp [Value.ownBlock] at aa
  ·simp only [Value.ownBlock,Option.some.injEq] at aa;subst aa;exact ⟨_,jt,.inl ⟨_,_,rfl⟩⟩
 | mp aU _ aH =>
  intro c aa;cases (aH c).1 aa;exact ⟨_,aU,.inr ⟨_,_,rfl⟩⟩
 | lit _ aH | aQ aH | dead aH | l3 aH | ref _ _ aH | hz aH | bm aH | cO aH | dj aH | imp aH=>exact λc aa=>absurd aa (aH c)
 | own aU aj h1 ah aP av aH aM =>
  intro c aa;rcases (aH c).1 aa with h | ⟨k,hk,h⟩
  ·obtain ⟨_,bG⟩:=aU;rcases bG with ⟨rfl,_⟩ | ⟨b,cap,cur,rfl,_,jt,_⟩
   ·simp [Value.ownBlock] at h
   ·simp only [Value.ownBlock,Option.some.injEq] at h;subst h;exact ⟨_,jt,.inl ⟨_,_,rfl⟩⟩
  ·exact aM k _ _ (List.getElem?_eq_getElem hk) (List.getElem?_eq_getElem (aj ▸ hk)) c h
 | obj aU aj h1 ah aP av aH ay aM =>
  intro c aa;rcases (aH c).1 aa with rfl | ⟨k,hk,h⟩
  ·exact ⟨_,aU,.inl ⟨_,_,rfl⟩⟩
  ·exact aM k _ _ (List.getElem?_eq_getElem hk) (Array.getElem?_eq_getElem (aj ▸ hk)) c h
 | agg aj h1 ah aP aH aM =>
  intro c aa;obtain ⟨k,hk,h⟩:=(aH c).1 aa;exact aM k _ _ (List.getElem?_eq_getElem hk) (Array.getElem?_eq_getElem (aj ▸ hk)) c h
 | bQ aj ah aP aH aM =>
  intro c aa;obtain ⟨k,hk,h⟩:=(aH c).1 aa;exact aM k _ _ (List.getElem?_eq_getElem hk) (Array.getElem?_eq_getElem (aj ▸ hk)) c h
theorem Fr.drew {w w':World}{U:a8}(h:Fr w w' U):Fr w w'.drew U:=⟨h.os,h.tape,h.output,h.size,h.block,h.dS,Nat.le_succ_of_le h.wS⟩
section
variable {w:World}{I:a8}{T:Array Value}{g:aK}{Fs:Nat->a8}
theorem cF.jT (h:cF w I T g Fs):∀ t c,Fs t c->c<w.heap.size:=by
 intro t c aa;cases j:g t with
 | none=>exact absurd aa (h.kM t j c)
 | some y=>obtain ⟨u,_,dB⟩:=h.rel t y j; exact dB.lt c aa
theorem cF.world (h:cF w I T g Fs) {w':World}(aH:∀ t c,Fs t c->w'.heap[c]?=w.heap[c]?) (bb:∀ c,I c->w'.heap[c]?=w.heap[c]?) (eM:w.heap.size<=w'.heap.size):cF w' I T g Fs :=
  ⟨λt x j=>by
    obtain ⟨v,hv,aY⟩:=h.rel t x j;exact ⟨v,hv,h.wW (λ_ _=>rfl) aH bb (λ_ h=>h) (λ_ _ h=>h) aY λc aa=>aH t c aa⟩,
   h.kM,h.eu,h.bm,λc aa=>Nat.lt_of_lt_of_le (h.lt c aa) eM,h.q8,cI.keep h.hV bb λ_ h=>h⟩
theorem cF.alloc (h:cF w I T g Fs) (o:Obj):cF (w.alloc o) I T g Fs :=
 h.world (λt c aa=>alloc_old w o c (h.jT t c aa)) (λc aa=>alloc_old w o c (h.lt c aa)) (by simp)
theorem cF.uI (h:cF w I T g Fs) {d:Nat}{x:ab}{v:Value}{F:a8}(aP:g d=none) (Vv:d<T.size)
  (aY:jx w I (dR w T g) x v F) (rP:∀ t c,F c->¬ Fs t c) (V2:∀ c,F c->¬ I c)
  (au:∀ z p n m new,x=.bB z p n m new->∀ t bs ch bh cQ,g t≠some (.bB bs p ch bh cQ)) :
  cF w I (T.setIfInBounds d v) (cK g d x) (uR Fs d F):=by
 have dk:∀ t,g t≠none->(T.setIfInBounds d v)[t]?=T[t]?:=by
  intro t aq;rw [Array.getElem?_setIfInBounds_ne];rintro rfl; exact aq aP
 refine ⟨?_,?_,?_,?_,h.lt,?_,h.hV⟩
 ·intro t y al;unfold cK at al
  split at al
  ·rename_i vx;subst vx;cases al;exact ⟨v,by simp [Vv],by simpa [uR] using h.wW dk (λ_ _ _=>rfl) (λ_ _=>rfl) (λ_ h=>h) (Qx aP) aY λ_ _=>rfl⟩
  ·rename_i vx;obtain ⟨u,hu,dB⟩:=h.rel t y al;exact ⟨u,by rw [dk t (by rw [al]; simp)]; exact hu,by simpa [uR,vx] using h.wW dk (λ_ _ _=>rfl) (λ_ _=>rfl) (λ_ h=>h) (Qx aP) dB λ_ _=>rfl⟩
 ·intro t aq c;unfold cK at aq
  split at aq
  ·cases aq
  ·rename_i vx; simpa [uR,vx] using h.kM t aq c
 ·intro t t' c aa e5;by_cases h1:t=d <;> by_cases af:t'=d <;> simp [uR,h1,af] at aa e5
  ·rw [h1,af]
  ·exact absurd e5 (rP t' c aa)
  ·exact absurd aa (rP t c e5)
  ·exact h.eu t t' c aa e5
 ·intro t c aa hi;by_cases h1:t=d <;> simp [uR,h1] at aa
  ·exact V2 c aa hi
  ·exact h.bm t c aa hi
 ·intro t t' z p n m new bs ch bh cQ h1 af;unfold cK at h1 af
  split at h1 <;> split at af
  ·rename_i a b; rw [a,b]
  ·cases h1; exact absurd af (au z p n m new rfl t' bs ch bh cQ)
  ·cases af; exact absurd h1 (au bs p ch bh cQ rfl t z n m new)
  ·exact h.q8 _ _ _ _ _ _ _ _ _ _ _ h1 af
end
def jf:ab->Option (List ab)
 | .agg cs=>some cs
 | .lit v=>some [.lit v]
 | .aQ=>some [.aQ]
 | .bm z n cs=>some [.bm z n cs]
 | .cO cs=>some [.cO cs]
 | .ptr p k=>some [.ptr p k]
 | .bg z p n=>some [.bg z p n]
 | .sub z p l n=>some [.sub z p l n]
 | .dj f a b=>some [.dj f a b]
 | _=>none
theorem Sg {y:ab}{cs:List ab}(h:sn y) (aa:jf y=some cs):qH cs:=by
 have one:∀ {x:ab},(∀ J,x≠.self J)->qH [x]:=λj k J e=>by
  cases k with
  | zero=>simp only [List.getElem?_cons_zero,Option.some.injEq] at e; exact j J e
  | succ k=>simp at e
 cases y <;> simp only [Go.Own.jf,Option.some.injEq,reduceCtorEq] at aa <;> subst aa
 all_goals first | exact h _ rfl | exact one (by simp)
theorem R.jf {w:World}{I:a8}{ρ:ab->Value->Prop}{y:ab}{v:Value}{F:a8}(h:R w I ρ y v F) (aH:∀ c,¬ F c) (lA:∀ x v,x.isRef=true->ρ x v->v.oneCell'=true) {cs:List ab}(aa:jf y=some cs) :
  cs.length=v.cells.size/\(∀ (k:Nat) (u:Value),v.cells[k]?=some u->u.oneCell'=true)/\(∀ (k:Nat) (x:ab) (u:Value),cs[k]?=some x->v.cells[k]?=some u->R w I ρ x u ct):=by
 have one:∀ {y:ab},R w I ρ y v F->v.oneCell'=true->[y].length=v.cells.size/\(∀ (k:Nat) (u:Value),v.cells[k]?=some u->u.oneCell'=true)/\(∀ (k:Nat) (x:ab) (u:Value),[y][k]?=some x->v.cells[k]?=some u->R w I ρ x u ct):=by
  intro y h h1;have Eo:v.cells=#[v]:=by cases v <;> first | rfl | (simp [Value.oneCell'] at h1)
  refine ⟨by simp [Eo],λk u hu=>?_,λk x u j hu=>?_⟩
  ·rw [Eo] at hu;cases k with
   | zero=>simp at hu; subst hu; exact h1
   | succ k=>simp at hu
  rw [Eo] at hu;cases k with
  | zero=>simp at j hu; subst j hu; exact h.empty aH
  | succ k=>simp at j
 cases y <;> simp only [Go.Own.jf,Option.some.injEq,reduceCtorEq] at aa
 case agg l =>
  subst aa;obtain ⟨vs,rfl,aj,h1,ah⟩:=h.B8 aH;exact ⟨aj,h1,ah⟩
 case lit a=>subst aa; exact one h (by obtain ⟨rfl,h1⟩:=h.h'; exact h1)
 case aQ=>subst aa; exact one h (by rw [h.r5]; rfl)
 case bm z n l=>subst aa; exact one h (by obtain ⟨a,cap,rfl,_⟩:=h.zw; rfl)
 case cO l=>subst aa; exact one h (by obtain ⟨ad,us,rfl,_⟩:=h.xo; rfl)
 case ptr p k=>subst aa; exact one h (lA _ _ rfl h.nx)
 case bg z p n=>subst aa; exact one h (lA _ _ rfl h.mO)
 case sub z p l n=>subst aa; exact one h (lA _ _ rfl h.xp)
 case dj f a b =>
  subst aa;refine one h ?_;cases h with
  | dj=>rfl
  | ref j=>simp [ab.isRef] at j
theorem dR.Fq {w:World}{T:Array Value}{g:aK}{x:ab}{v:Value}(j:x.isRef=true) (h:dR w T g x v):v.oneCell'=true:=by
 obtain ⟨h,_⟩:=h;cases x <;> simp [ab.isRef] at j
 case ptr p k=>obtain ⟨_,_,_,_,rfl⟩:=h; rfl
 case bg z p n=>obtain ⟨_,_,_,_,rfl,_⟩:=h; rfl
 case sub z p lo n=>obtain ⟨_,_,_,_,_,_,rfl,_⟩:=h; rfl
 case hr p=>obtain ⟨_,_,rfl⟩:=h; rfl
def ma:List ab->Option (List ab)
 | []=>some []
 | y::ys =>
  match jf y,ma ys with
  | some a,some b=>some (a++b)
  | _,_=>none
def fC (g:aK):List Operand->Option (List ab)
 | []=>some []
 | x::xs =>
  match bo g x,fC g xs with
  | some y,some ys=>some (y::ys)
  | _,_=>none
theorem O8 {g:aK}:∀ {l:List Operand}{xs:List ab},fC g l=some xs->qH xs
 | [],xs,h,k,J=>by simp only [fC,Option.some.injEq] at h; subst h; simp
 | o::l,xs,h,k,J=>by
  simp only [fC] at h
  split at h
  ·rename_i y ys h1 af;cases h;cases k with
   | zero=>intro e; simp only [List.getElem?_cons_zero,Option.some.injEq] at e; exact X9 h1 J e
   | succ k=>exact O8 af k J
  ·cases h
def vb (place:Nat->Option (Nat × Nat)) (cells:List ab):List (Nat × List ab)->Option (List ab)
 | []=>some cells
 | (i,c)::rest =>
  match place i with
  | none=>none
  | some (off,size)=>if c.length=size/\off+c.length<=cells.length then vb place (cells.take off++c++cells.drop (off+c.length)) rest else none
def q3 (g:aK):List (Nat × Operand)->Option (List (Nat × List ab))
 | []=>some []
 | (i,x)::xs =>
  match bo g x,q3 g xs with
  | some y,some ys=>(jf y).map λc=>(i,c)::ys
  | _,_=>none
def kq (P:Program) (t:TypeId) (pl:List (Nat × Nat)):Bool :=
 match P.underlying t with
 | some (.struct fs)=>fs.toList.map (λf=>(f.offset,(P.info? f.type).map (·.size))) == pl.map λ(a,b)=>(a,some b)
 | _=>false
inductive pa (P:Program) (g:aK):Op->TypeId->ab->Prop
 | box {e ty:TypeId}{x:Operand}{y:ab}{cs:List ab}(j:bo g x=some y) (aa:jf y=some cs):pa P g (.box e x) ty (.obj cs)
 | DQ {e ty:TypeId}{t:Nat}{z:Value}(aW:(P.info? e).bind (·.zero)=some z) (aa:z.cells=#[.pointer none,.slice none 0 0]):pa P g (.alloc e) ty (.obj [.self (0,e),.eR t []])
 | alloc {e ty:TypeId}{z:Value}(aW:(P.info? e).bind (·.zero)=some z) (h1:z.cells.all Value.oneCell'=true):pa P g (.alloc e) ty (.obj (z.cells.toList.map kd))
 | buildSlice {t e ty:TypeId}{z:Nat}{parts:Array (Nat × Operand)}{xs:List Operand}{ys:List ab}{cs:List ab}(aq:fb P t e z=true)
   (au:parts.toList=xs.mapIdx (λi x=>(i,x))) (j:fC g xs=some ys) (aW:∀ y∈ys,∃ c,jf y=some c/\c.length=z) (aa:ma ys=some cs) (av:xs.length * z<=16777216) (aA:xs.length<=16777216) (hzero:xs.length * z=0\/∃ v,(P.info? e).bind (·.zero)=some v/\v.cells.size=z) :
   pa P g (.buildSlice t xs.length parts) ty (.own z xs.length cs)
 | makeSlice {t e ty:TypeId}{x y:Operand}{z n b:Nat}{vK py:IntKind}{df:Value}(aq:fb P t e z=true) (j:bo g x=some (.lit (.int vK (n:Int)))) (al:bo g y=some (.lit (.int py (n:Int))))
   (hzero:(P.info? e).bind (·.zero)=some df) (h1:df.cells.all Value.oneCell'=true) (oO:df.cells.size=z) (av:(P.info? e).map (·.bytes)=some b) (aA:n * b<=140737488355328) (oI:n<=4611686018427387904) {yo:List ab}(uw:yo.length=df.cells.size)
   (EW:∀ (k:Nat) (u:Value) (x:ab),df.cells[k]?=some u->yo[k]?=some x->x=kd u\/(kd u=.aQ/\∃ bs,x=.bm bs 0 [])) :
   pa P g (.makeSlice t x y) ty (.own z n (List.replicate n yo).flatten)
 | makeMap {t ty:TypeId}{q:Array MapEntry->Nat->Prop}(a7:q #[] 0):pa P g (.makeMap t none) ty (.mp q)
inductive u0 (P:Program) (g:aK):Op->TypeId->ab->Prop
 | build {t ty:TypeId}{parts:Array (Nat × Operand)}{pl:List (Nat × Nat)}{df:Value}{ps:List (Nat × List ab)}{cs:List ab}(aq:kq P t pl=true) (aW:(P.info? t).bind (·.zero)=some df) (h1:df.cells.all Value.oneCell'=true)
   (au:q3 g parts.toList=some ps) (aa:vb (λi=>pl[i]?) (df.cells.toList.map kd) ps=some cs):u0 P g (.build t parts) ty (.agg cs)
 | makeFunc {fn:Fn}{first caps:Array Operand}{ty:TypeId}{a b:List ab}(aR:fC g first.toList=some a) (av:fC g caps.toList=some b):u0 P g (.makeFunc fn first caps) ty (.dj fn a b)
section
variable {P:Program}{w:World}{I:a8}{T:Array Value}{g:aK}{Fs:Nat->a8}
theorem zH (h:cF w I T g Fs) {a:Act}(aR:a.tmps=T):∀ {xs:List Operand}{ys:List ab},fC g xs=some ys->ys.length=xs.length/\∀ (k:Nat) (y:ab) (x:Operand),ys[k]?=some y->xs[k]?=some x->R w I (dR w T g) y (a.eval x) ct
 | [],ys,al=>by simp only [fC,Option.some.injEq] at al; subst al; simp
 | x::xs,ys,al=>by
  simp only [fC] at al;cases j:bo g x with
  | none=>simp [j] at al
  | some y =>
   cases r3:fC g xs with
   | none=>simp [j,r3] at al
   | some Dt =>
    simp only [j,r3,Option.some.injEq] at al;subst al;obtain ⟨h1,af⟩:=zH h aR r3;refine ⟨by simp [h1],λk y' x' nv fL=>?_⟩;cases k with
    | zero=>simp at nv fL; subst nv fL; exact la h j aR
    | succ k=>simp at nv fL; exact af k y' x' nv fL
theorem R.alloc (h:cF w I T g Fs) (o:Obj) {x:ab}{v:Value}{F:a8}(aY:R w I (dR w T g) x v F) (aH:∀ c,F c->c<w.heap.size):R (w.alloc o) I (dR (w.alloc o) T g) x v F :=
 h.frame (λ_ _=>rfl) (λt c aa=>alloc_old w o c (h.jT t c aa)) (λc aa=>alloc_old w o c (h.lt c aa)) (λ_ h=>h) (λ_ _ h=>h) aY λc aa=>alloc_old w o c (aH c aa)
theorem OY {ρ:ab->Value->Prop}{vs:List Value}:∀ (k:Nat) (x:ab) (u:Value),(vs.map kd)[k]?=some x->vs[k]?=some u->R w I ρ x u ct:=by
 intro k x u j hu;rw [List.getElem?_map,hu] at j;simp only [Option.map_some,Option.some.injEq] at j;subst j;exact Cu u
theorem R.OV {ρ:ab->Value->Prop}{cs:List ab}{b:Nat}{e:TypeId}{arr:Array Value}(aU:w.heap[b]?=some (.cells arr e (0,0))) (aj:cs.length=arr.size) (h1:∀ (k:Nat) (u:Value),arr[k]?=some u->u.oneCell'=true)
  (ah:∀ (k:Nat) (x:ab) (u:Value),cs[k]?=some x->arr[k]?=some u->R w I ρ x u ct) (lS:qH cs):R w I ρ (.obj cs) (.pointer (some ⟨b,0,none⟩)) (λc=>c=b) :=
 .obj (Fs:=λ_=>ct) aU aj h1 ah (λ_ _ _ _ _ h=>h.elim) (λ_ _ h=>h) (λ_=>⟨λh=>.inl h,λh=>h.elim id λ⟨_,_,h⟩=>h.elim⟩) λk J _ h=>absurd h (lS k J)
theorem R.Pa {ρ:ab->Value->Prop}{z n:Nat}{cs:List ab}{b cap:Nat}{e:TypeId}{arr:Array Value}(aU:w.heap[b]?=some (.cells arr e (0,0))) (aA:n<=cap) (aa:cap<=maxLen) (ay:arr.size=cap * z) (aj:cs.length=n * z) (h1:∀ (k:Nat) (u:Value),arr[k]?=some u->u.oneCell'=true)
  (ah:∀ (k:Nat) (x:ab) (u:Value),cs[k]?=some x->arr[k]?=some u->R w I ρ x u ct):R w I ρ (.own z n cs) (.slice (some ⟨b,0,none⟩) n cap) (λc=>c=b):=by
 have hle:n * z<=arr.size:=by rw [ay]; exact Nat.mul_le_mul_right _ aA
 refine .own (e:=e) (us:=arr.toList.take (n * z)) (Fs:=λ_=>ct) ⟨by simp; omega,.inr ⟨b,cap,arr,rfl,Nat.zero_le _,aU,aA,aa,ay,rfl⟩⟩ (by simp; omega) (λk u hu=>?_) ?_ (λ_ _ _ _ _ h=>h.elim) (λ_ _ _ h=>h.elim) (λc=>?_)
 ·rw [List.getElem?_take] at hu
  split at hu
  ·exact h1 k u (by simpa using hu)
  ·cases hu
 ·intro k x u j hu;rw [List.getElem?_take] at hu
  split at hu
  ·exact ah k x u j (by simpa using hu)
  ·cases hu
 ·simp only [Value.ownBlock,Option.some.injEq];exact ⟨λh=>.inl h.symm,λh=>h.elim Eq.symm λ⟨_,_,h⟩=>h.elim⟩
theorem LS {ρ:ab->Value->Prop}(lA:∀ x v,x.isRef=true->ρ x v->v.oneCell'=true):∀ {ys:List ab}{vs:List Value}{cs:List ab},ys.length=vs.length->(∀ (k:Nat) (y:ab) (v:Value),ys[k]?=some y->vs[k]?=some v->R w I ρ y v ct)->ma ys=some cs ->
  cs.length=(vs.flatMap λv=>v.cells.toList).length/\(∀ (k:Nat) (u:Value),(vs.flatMap λv=>v.cells.toList)[k]?=some u->u.oneCell'=true)/\∀ (k:Nat) (x:ab) (u:Value),cs[k]?=some x->(vs.flatMap λv=>v.cells.toList)[k]?=some u->R w I ρ x u ct
 | [],vs,cs,aj,ah,aa=>by
  cases vs with
  | nil=>simp only [ma,Option.some.injEq] at aa; subst aa; simp
  | cons=>simp at aj
 | y::ys,vs,cs,aj,ah,aa=>by
  cases vs with
  | nil=>simp at aj
  | cons v vs =>
   simp only [ma] at aa;cases aR:jf y with
   | none=>simp [aR] at aa
   | some a =>
    cases av:ma ys with
    | none=>simp [aR,av] at aa
    | some b =>
     simp only [aR,av,Option.some.injEq] at aa;subst aa;obtain ⟨h1,HE,af⟩:=(ah 0 y v rfl rfl).jf (λ_ h=>h) lA aR;obtain ⟨aJ,TX,bx⟩:=LS lA (by simpa using aj) (λk y' ef al hv=>ah (k+1) y' ef al hv) av;refine ⟨by simp [h1,aJ],λk u hu=>?_,λk x u j hu=>?_⟩
     ·simp only [List.flatMap_cons] at hu;by_cases hk:k<v.cells.toList.length
      ·rw [List.getElem?_append_left hk] at hu;exact HE k u (by simpa using hu)
      ·rw [List.getElem?_append_right (by omega)] at hu;exact TX _ u hu
     simp only [List.flatMap_cons] at hu;by_cases hk:k<a.length
     ·rw [List.getElem?_append_left hk] at j;rw [List.getElem?_append_left (by simp; omega)] at hu;exact af k x u j (by simpa using hu)
     ·rw [List.getElem?_append_right (by omega)] at j;rw [List.getElem?_append_right (by simp; omega)] at hu;refine bx (k - a.length) x u j ?_;rw [<- hu]; simp [h1]
end
end Go.Own
namespace Go.Own
open Go
set_option linter.unusedSectionVars false
variable [cI]
theorem MO (off:Nat):∀ (l:List Value) (s:Nat) (arr:Array Value),off+s+l.length<=arr.size ->
  ((l.zipIdx s).foldl (λcs (x:Value × Nat)=>cs.setIfInBounds (off+x.2) x.1) arr).toList=arr.toList.take (off+s)++l++arr.toList.drop (off+s+l.length)
 | [],s,arr,h=>by simp
 | v::l,s,arr,h=>by
  simp only [List.length_cons] at h;rw [List.zipIdx_cons,List.foldl_cons,MO off l (s+1) _ (by simp; omega)];simp only [Array.toList_setIfInBounds,List.length_cons];have h1:(arr.toList.set (off+s) v).take (off+(s+1))=arr.toList.take (off+s)++[v]:=by
   rw [show off+(s+1)=off+s+1 by omega,List.take_succ_eq_append_getElem (by simp; omega)];rw [List.take_set_of_le (Nat.le_refl _)];simp
  have af:(arr.toList.set (off+s) v).drop (off+(s+1)+l.length)=arr.toList.drop (off+s+(l.length+1)):=by
   rw [List.drop_set_of_lt (by omega)];congr 1; omega
  rw [h1,af];simp
theorem MM {place:Nat->Option (Nat × Nat)}{i off size:Nat}(au:place i=some (off,size)) {arr:Array Value}{v:Value}(h1:v.cells.size=size) (af:off+v.cells.size<=arr.size) (rest:List (Nat × Value)) :
  ∃ je:Array Value,Instr.fill place arr ((i,v)::rest)=Instr.fill place je rest/\je.toList=arr.toList.take off++v.cells.toList++arr.toList.drop (off+v.cells.size):=by
 refine ⟨_,by simp only [Instr.fill,au]; rw [if_neg (by simp; omega)],?_⟩;have:=MO off v.cells.toList 0 arr (by simpa using af)
 grind [Array.toList_zipIdx]
theorem ML (z:Nat):∀ (vs:List Value) (k:Nat) (arr:Array Value) (done rest:List Value),(∀ v∈vs,v.cells.size=z)->arr.toList=done++rest->done.length=k * z->rest.length=vs.length * z ->
  ∃ je:Array Value,Instr.fill (λi=>some (i * z,z)) arr (vs.mapIdx λi v=>(k+i,v))=some je/\je.toList=done++vs.flatMap λv=>v.cells.toList
 | [],k,arr,done,rest,_,h1,af,aJ=>by
  have:rest=[]:=List.eq_nil_of_length_eq_zero (by simpa using aJ);subst this;exact ⟨arr,rfl,by simpa using h1⟩
 | v::vs,k,arr,done,rest,aW,h1,af,aJ=>by
  have hv:=aW v (by simp);have hlen:arr.size=done.length+rest.length:=by rw [<- Array.length_toList,h1,List.length_append]
  simp only [List.length_cons,Nat.add_mul,Nat.one_mul] at aJ;rw [List.mapIdx_cons];obtain ⟨DS,cr,b9⟩:=MM (place:=λi=>some (i * z,z)) (i:=k+0) (off:=k * z) (size:=z) (by simp) (arr:=arr) (v:=v) hv (by omega) ((vs.mapIdx λi v=>(k+(i+1),v)));have tL:DS.toList=(done++v.cells.toList)++rest.drop z:=by
   rw [b9,h1,<- af,List.take_left,hv,List.drop_append];simp
  obtain ⟨je,fi,ph⟩:=ML z vs (k+1) DS (done++v.cells.toList) (rest.drop z) (λu hu=>aW u (by simp [hu])) tL (by simp [af,hv,Nat.add_mul]) (by simp; omega);refine ⟨je,?_,by rw [ph]; simp⟩;rw [cr,<- fi];congr 1;congr 1;funext i u;congr 1; omega
theorem GF {vs:Array Value}(h:vs.all Value.oneCell'=true):∀ (k:Nat) (u:Value),vs[k]?=some u->u.oneCell'=true:=by grind
theorem GQ {P:Program}{e:TypeId}{z:Value}(h:(P.info? e).bind (·.zero)=some z) (w:World):(zeroValue e).run P w=.ok z w:=by
 cases hi:P.info? e with
 | none=>simp [hi] at h
 | some i=>simp [hi] at h; simp [zeroValue,typeInfo,hi,h]
theorem MR {α:Type}(l:List α):∀ (n k:Nat),k<n * l.length->(List.replicate n l).flatten[k]?=l[k % l.length]?
 | 0,k,h=>by simp at h
 | n+1,k,h=>by
  rw [List.replicate_succ,List.flatten_cons];by_cases hk:k<l.length
  ·rw [List.getElem?_append_left hk,Nat.mod_eq_of_lt hk]
  ·rw [List.getElem?_append_right (by omega),MR l n (k - l.length) (by rw [Nat.add_mul] at h; omega)];rw [<- Nat.mod_eq_sub_mod (by omega)]
section
variable {P:Program}{w:World}{I:a8}{T:Array Value}{g:aK}{Fs:Nat->a8}
theorem Sf {ys cs:List ab}{z:Nat}(aW:∀ y∈ys,∃ c,jf y=some c/\c.length=z) (aa:ma ys=some cs):cs.length=ys.length * z:=by
 induction ys generalizing cs with
 | nil=>simp [ma] at aa; subst aa; simp
 | cons y ys aM =>
  obtain ⟨c,h1,af⟩:=aW y (by simp);simp only [ma,h1] at aa
  grind
theorem pa.sound (h:cF w I T g Fs) {a:Act}(aR:a.tmps=T) {o:Oper}{kz:ab}(au:pa P g o.op o.type kz) :
  ∃ v r_,(execOp a.eval o).run P w=.ok (.value v) (w.alloc r_)/\R (w.alloc r_) I (dR (w.alloc r_) T g) kz v (λc=>c=w.heap.size):=by
 obtain ⟨dst,op,ty,pos,after,guard⟩:=o;simp only at au;have jH:∀ (r_:Obj) {x:ab}{v:Value},R w I (dR w T g) x v ct->R (w.alloc r_) I (dR (w.alloc r_) T g) x v ct:=λr_ _ _ aY=>R.alloc h r_ aY λ_ h=>h.elim;cases au with
 | @box e _ x y cs j aa =>
  have al:=la h j aR;obtain ⟨h1,HE,af⟩:=al.jf (λ_ h=>h) (λ_ _ j ah=>ah.Fq j) aa;refine ⟨_,.cells (a.eval x).cells e,by simp [execOp,Instr.box,newVar,newRow],R.OV (e:=e) (ry w _) h1 HE (λk x u j hu=>jH _ (af k x u j hu)) (Sg (O7 j) aa)⟩
 | @DQ e _ t z aW aa =>
  refine ⟨.pointer (some ⟨w.heap.size,0,none⟩),.cells z.cells e,by simp [execOp,Instr.alloc,newVar,newRow,GQ aW],?_⟩;rw [aa];refine .obj (Fs:=λ_=>ct) (e:=e) (ry w _) rfl (λk u hu=>?_) (λk y u al hu=>?_) (λ_ _ _ _ _ h=>h.elim) (λ_ _ h=>h) (λc=>⟨.inl,λh=>h.elim id λ⟨_,_,h⟩=>h.elim⟩) λk J u al hu=>?_
  ·match k,hu with
   | 0,hu=>cases hu; rfl
   | 1,hu=>cases hu; rfl
   | k+2,hu=>simp at hu
  ·match k,al,hu with
   | 0,al,hu=>cases al; exact .l3 λ_ h=>h
   | 1,al,hu=>cases al; cases hu; exact .eR (World.ownsRow_nil _ _ _ _) rfl λc=>⟨λh=>h.elim,λh=>by simp [Value.ownBlock] at h⟩
   | k+2,al,hu=>cases al
  ·match k,al,hu with
   | 0,al,hu=>cases al; cases hu; exact .inl ⟨rfl,rfl⟩
   | 1,al,hu=>cases al
   | k+2,al,hu=>cases al
 | @alloc e _ z aW gv =>
  refine ⟨_,.cells z.cells e,by simp [execOp,Instr.alloc,newVar,newRow,GQ aW],R.OV (e:=e) (ry w _) (by simp) (GF gv) (λk x u j hu=>jH _ (OY k x u j (by simpa using hu))) (OX _)⟩
 | @makeMap t _ q a7 =>
  have IG:(Instr.makeMap t none).run P w=.ok (.map (some w.heap.size)) (w.alloc (.map #[] 0)):=rfl;exact ⟨.map (some w.heap.size),.map #[] 0,by simp [execOp,IG],.mp (ry w _) a7 λc=>Iff.rfl⟩
 | @buildSlice t e _ z parts xs ys cs aq au j aW aa av kF hzero =>
  obtain ⟨hu,he,eM⟩:=qv (w:=w) aq;obtain ⟨aj,ah⟩:=zH h aR j;have hF:=Sf aW aa;have WI:∀ v∈xs.map a.eval,v.cells.size=z:=by
   intro v hv;obtain ⟨x,vD,rfl⟩:=List.mem_map.1 hv;obtain ⟨k,hk,rfl⟩:=List.mem_iff_getElem.1 vD;have nv:ys[k]?=some (ys[k]'(by omega)):=List.getElem?_eq_getElem (by omega);obtain ⟨c,h1,af⟩:=aW _ (List.getElem_mem (l:=ys) (n:=k) (by omega));obtain ⟨aJ,_,_⟩:=(ah k _ _ nv (List.getElem?_eq_getElem hk)).jf (λ_ h=>h) (λ_ _ j ah=>ah.Fq j) h1;rw [<- aJ,af]
  obtain ⟨df,Xb⟩:∃ df:Array Value,(xs.length * z=0/\df=#[])\/(xs.length * z≠0/\∃ v,df=v.cells/\(zeroValue e).run P w=.ok v w):=by
   by_cases aO:xs.length * z=0
   ·exact ⟨#[],.inl ⟨aO,rfl⟩⟩
   ·rcases hzero with h1 | ⟨v,h1,af⟩
    ·exact absurd h1 aO
    ·exact ⟨v.cells,.inr ⟨aO,v,rfl,GQ h1 w⟩⟩
  obtain ⟨arr,cr,b9⟩:=ML z (xs.map a.eval) 0 ((Array.range (xs.length * z)).map (df[· % df.size]!)) [] ((Array.range (xs.length * z)).map (df[· % df.size]!)).toList WI (by simp) (by simp) (by simp);have NR:(parts.map λ(p:Nat × Operand)=>(p.1,a.eval p.2)).toList=(xs.map a.eval).mapIdx λi v=>(0+i,v):=by
   rw [Array.toList_map,au];apply List.ext_getElem?;intro k;simp only [List.getElem?_map,List.getElem?_mapIdx];cases xs[k]? <;> simp
  obtain ⟨gR,lR,Vr⟩:=LS (ρ:=dR w T g) (λ_ _ j ah=>ah.Fq j) (ys:=ys) (vs:=xs.map a.eval) (by simp [aj]) (λk y v al hv=>by
   rw [List.getElem?_map] at hv;cases qc:xs[k]? with
   | none=>simp [qc] at hv
   | some x=>simp [qc] at hv; subst hv; exact ah k y x al qc) aa
  have tU:arr.toList=(xs.map a.eval).flatMap λv=>v.cells.toList:=by simpa using b9
  have vt:arr.size=xs.length * z:=by rw [<- Array.length_toList,tU,<- gR,hF,aj]
  have h_:(execOp a.eval { dst:=dst,op:=.buildSlice t xs.length parts,type:=ty,pos:=pos,after:=after,guard:=guard }).run P w=.ok (.value (.slice (some ⟨w.heap.size,0,none⟩) xs.length xs.length)) (w.alloc (.cells arr e)):=by
   have hle:¬ (16777216<xs.length * z):=by omega
   rcases Xb with ⟨aO,rfl⟩ | ⟨aO,v,rfl,Xa⟩
   ·simp only [aO] at cr;rw [<- NR] at cr;simp at cr;simp [execOp,Instr.buildSlice,run_underlying hu,eM,aO,cr,newRow]
   ·rw [<- NR] at cr;simp at cr;simp [execOp,Instr.buildSlice,run_underlying hu,eM,aO,hle,Xa,cr,newRow]
  refine ⟨_,_,h_,R.Pa (e:=e) (arr:=arr) (ry w _) (Nat.le_refl _) ?_ vt (by rw [hF,aj]) (λk u hu=>lR k u (by rw [<- tU]; simpa using hu)) λk x u j hu=>jH _ (Vr k x u j ?_)⟩
  ·unfold maxLen; omega
  ·rw [<- tU]; simpa using hu
 | @makeSlice t e _ x y z n b vK py df aq j al hzero gv oO av aA oI yo uw EW =>
  obtain ⟨hu,he,eM⟩:=qv (w:=w) aq;have h1:=(la h j aR).h'.1;have af:=(la h al aR).h'.1;cases hi:P.info? e with
  | none=>simp [hi] at av
  | some i =>
   simp [hi] at av hzero;have It:i.size=z:=by
    unfold fb at aq;rw [hu] at aq;simp [hi] at aq;exact aq
   have w5:(i.bytes:Int) * (n:Int)<=281474976710656:=by
    have:((b * n:Nat):Int)<=281474976710656:=by have:=Nat.mul_comm n b; omega
    rw [av,<- Int.natCast_mul]; exact this
   have ah:=run_make (P:=P) w t e i df hu hi hzero vK py n n (by omega) (Int.le_refl _) w5 (by omega);simp only [Int.toNat_natCast] at ah;refine ⟨_,.cells (madeCells df.cells (n * i.size)) e,by simp [execOp,h1,af,ah],R.Pa (e:=e) (ry w _) (Nat.le_refl _) (by unfold maxLen; omega) (by rw [size_madeCells,It]) (by simp [oO,uw]) (λk u hu=>?_) λk x u j hu=>?_⟩
   ·rw [madeCells,Array.getElem?_map,Array.getElem?_range] at hu
    split at hu
    ·rename_i hk;have aO:0<df.cells.size:=by
      rcases Nat.eq_zero_or_pos df.cells.size with h | h
      ·rw [It,<- oO,h] at hk; simp at hk
      ·exact h
     have hm:k % df.cells.size<df.cells.size:=Nat.mod_lt _ aO;simp only [Option.map_some,Option.some.injEq] at hu;rw [<- hu,show df.cells[k % df.cells.size]! = df.cells[k % df.cells.size] by simp [hm]];exact GF gv _ _ (Array.getElem?_eq_getElem hm)
    ·cases hu
   have hk:k<n * df.cells.size:=by
    have:=(List.getElem?_eq_some_iff.1 j).1;simpa [Nat.mul_comm,uw] using this
   have aO:0<df.cells.size:=by
    rcases Nat.eq_zero_or_pos df.cells.size with h | h
    ·rw [h] at hk; simp at hk
    ·exact h
   have hm:k % df.cells.size<df.cells.size:=Nat.mod_lt _ aO;rw [MR _ n k (by simpa [uw] using hk),uw] at j;rw [madeCells,Array.getElem?_map,Array.getElem?_range,if_pos (by rw [It,<- oO]; exact hk)] at hu;simp only [Option.map_some,Option.some.injEq] at hu;have hP:df.cells[k % df.cells.size]! = df.cells[k % df.cells.size]:=by simp [hm]
   rw [hP] at hu;subst hu;rcases EW _ _ x (Array.getElem?_eq_getElem hm) j with rfl | ⟨h1,bs,rfl⟩
   ·exact jH _ (Cu _)
   ·have aY:=Cu (w:=w) (I:=I) (ρ:=dR w T g) df.cells[k % df.cells.size];rw [h1] at aY;rw [aY.r5];exact .hz λ_ h=>h
def Cells (w:World) (I:a8) (ρ:ab->Value->Prop) (cs:List ab) (vs:List Value):Prop :=
 cs.length=vs.length/\(∀ (k:Nat) (u:Value),vs[k]?=some u->u.oneCell'=true)/\∀ (k:Nat) (x:ab) (u:Value),cs[k]?=some x->vs[k]?=some u->R w I ρ x u ct
theorem Cells.append {ρ:ab->Value->Prop}{a b:List ab}{u v:List Value}(h:Cells w I ρ a u) (aI:Cells w I ρ b v):Cells w I ρ (a++b) (u++v):=by
 refine ⟨by simp [h.1,aI.1],λk y al=>?_,λk x y j al=>?_⟩
 ·by_cases hk:k<u.length
  ·rw [List.getElem?_append_left hk] at al; exact h.2.1 k y al
  ·rw [List.getElem?_append_right (by omega)] at al; exact aI.2.1 _ y al
 ·by_cases hk:k<a.length
  ·rw [List.getElem?_append_left hk] at j;rw [List.getElem?_append_left (by rw [<- h.1]; exact hk)] at al;exact h.2.2 k x y j al
  ·rw [List.getElem?_append_right (by omega)] at j;rw [List.getElem?_append_right (by rw [<- h.1]; omega)] at al;exact aI.2.2 _ x y j (by rw [h.1]; exact al)
theorem Cells.take {ρ:ab->Value->Prop}{a:List ab}{u:List Value}(h:Cells w I ρ a u) (n:Nat):Cells w I ρ (a.take n) (u.take n):=by
 refine ⟨by simp [h.1],λk y al=>?_,λk x y j al=>?_⟩
 ·rw [List.getElem?_take] at al
  split at al
  ·exact h.2.1 k y al
  grind
 ·rw [List.getElem?_take] at j al
  split at j
  ·rename_i hk;rw [if_pos hk] at al;exact h.2.2 k x y j al
  grind
theorem Cells.drop {ρ:ab->Value->Prop}{a:List ab}{u:List Value}(h:Cells w I ρ a u) (n:Nat):Cells w I ρ (a.drop n) (u.drop n):=by
 refine ⟨by simp [h.1],λk y al=>?_,λk x y j al=>?_⟩
 ·rw [List.getElem?_drop] at al; exact h.2.1 _ y al
 ·rw [List.getElem?_drop] at j al;exact h.2.2 _ x y j al
theorem MK {ρ:ab->Value->Prop}{place:Nat->Option (Nat × Nat)}:∀ (ps:List (Nat × List ab)) (tc:List (Nat × Value)) {cells cs:List ab}{arr:Array Value},Cells w I ρ cells arr.toList ->
  ps.map (·.1)=tc.map (·.1)->(∀ (k:Nat) (p:Nat × List ab) (q:Nat × Value),ps[k]?=some p->tc[k]?=some q->Cells w I ρ p.2 q.2.cells.toList)->vb place cells ps=some cs ->
  ∃ je:Array Value,Instr.fill place arr tc=some je/\Cells w I ρ cs je.toList
 | [],tc,cells,cs,arr,aa,hk,_,aS=>by
  cases tc with
  | nil=>simp only [vb,Option.some.injEq] at aS; subst aS; exact ⟨arr,rfl,aa⟩
  | cons=>simp at hk
 | (i,c)::ps,tc,cells,cs,arr,aa,hk,ah,aS=>by
  cases tc with
  | nil=>simp at hk
  | cons q tc =>
   obtain ⟨J,v⟩:=q;simp only [List.map_cons,List.cons.injEq] at hk;obtain ⟨rfl,hk⟩:=hk;have aO:=ah 0 _ _ rfl rfl;simp only [vb] at aS;cases au:place i with
   | none=>simp [au] at aS
   | some os =>
    obtain ⟨off,size⟩:=os;simp only [au] at aS
    split at aS
    ·rename_i acG;have hlen:v.cells.size=c.length:=by rw [<- Array.length_toList]; exact aO.1.symm
     have ac1:arr.size=cells.length:=by rw [<- Array.length_toList]; exact aa.1.symm
     obtain ⟨DS,cr,b9⟩:=MM (arr:=arr) (v:=v) au (by omega) (by omega) tc;have lR:Cells w I ρ (cells.take off++c++cells.drop (off+c.length)) DS.toList:=by
      rw [b9,hlen];exact ((aa.take off).append aO).append (aa.drop _)
     obtain ⟨je,fi,ph⟩:=MK ps tc lR hk (λk p q au a7=>ah (k+1) p q au a7) aS;exact ⟨je,by rw [cr,fi],ph⟩
    ·cases aS
theorem Ph (h:cF w I T g Fs) {a:Act}(aR:a.tmps=T):∀ {l:List (Nat × Operand)}{ps:List (Nat × List ab)},q3 g l=some ps ->
  ps.map (·.1)=(l.map λp=>(p.1,a.eval p.2)).map (·.1)/\∀ (k:Nat) (p:Nat × List ab) (q:Nat × Value),ps[k]?=some p->(l.map λp=>(p.1,a.eval p.2))[k]?=some q->Cells w I (dR w T g) p.2 q.2.cells.toList
 | [],ps,au=>by simp only [q3,Option.some.injEq] at au; subst au; simp
 | (i,x)::l,ps,au=>by
  simp only [q3] at au;cases j:bo g x with
  | none=>simp [j] at au
  | some y =>
   cases aj:q3 g l with
   | none=>simp [j,aj] at au
   | some adr =>
    simp only [j,aj,Option.map_eq_some_iff] at au;obtain ⟨c,aa,rfl⟩:=au;obtain ⟨h1,af⟩:=Ph h aR aj;refine ⟨by simp [h1],λk p q au a7=>?_⟩;cases k with
    | zero =>
     simp at au a7;subst au a7;obtain ⟨aJ,TW,bx⟩:=(la h j aR).jf (λ_ h=>h) (λ_ _ j ah=>ah.Fq j) aa;exact ⟨by simpa using aJ,λk u hu=>TW k u (by simpa using hu),λk x u j hu=>bx k x u j (by simpa using hu)⟩
    | succ k=>simp at au a7; exact af k p q au (by simpa using a7)
theorem Zy {t:TypeId}{pl:List (Nat × Nat)}(h:kq P t pl=true):∃ fs,P.underlying t=some (.struct fs)/\fs.toList.mapM (λf=>(P.info? f.type).map λi=>(f.offset,i.size))=some pl:=by
 unfold kq at h;cases hu:P.underlying t with
 | none=>simp [hu] at h
 | some d =>
  cases d <;> simp only [hu,Bool.false_eq_true] at h;rename_i fs;refine ⟨fs,rfl,?_⟩;replace h:=LawfulBEq.eq_of_beq h;generalize fs.toList=l at h
  induction l generalizing pl with
  | nil=>cases pl with
   | nil=>rfl
   | cons=>simp at h
  | cons f l aM =>
   cases pl with
   | nil=>simp at h
   | cons p pl =>
    obtain ⟨o,s⟩:=p;simp only [List.map_cons,List.cons.injEq,Prod.mk.injEq] at h;obtain ⟨⟨rfl,h1⟩,af⟩:=h;have:=aM af;rw [List.mapM_cons,this];cases hi:P.info? f.type with
    | none=>simp [hi] at h1
    | some i=>simp [hi] at h1; subst h1; rfl
theorem u0.sound (h:cF w I T g Fs) {a:Act}(aR:a.tmps=T) {o:Oper}{kz:ab}(au:u0 P g o.op o.type kz) :
  ∃ v,(execOp a.eval o).run P w=.ok (.value v) w/\R w I (dR w T g) kz v ct:=by
 obtain ⟨dst,op,ty,pos,after,guard⟩:=o;simp only at au;cases au with
 | @build t _ parts pl df ps cs aq aW gv au aa =>
  obtain ⟨fs,hu,zm⟩:=Zy aq;obtain ⟨h1,af⟩:=Ph h aR au;obtain ⟨je,cr,b9⟩:=MK (w:=w) (I:=I) (ρ:=dR w T g) (place:=λi=>pl[i]?) ps _ (arr:=df.cells) ⟨by simp,λk u hu=>GF gv k u (by simpa using hu),λk x u j hu=>OY k x u j hu⟩ h1 af aa;refine ⟨.agg je,?_,.agg (Fs:=λ_=>ct) (by simpa using b9.1) (λk u hu=>b9.2.1 k u (by simpa using hu)) (λk x u j hu=>b9.2.2 k x u j (by simpa using hu)) (λ_ _ _ _ _ h=>h.elim) (λc=>⟨λh=>h.elim,λ⟨_,_,h⟩=>h⟩)⟩;have ada:=run_places (P:=P) w fs.toList pl zm;have av:P.built t ((parts.map λ(p:Nat × Operand)=>(p.1,a.eval p.2))).toList=some je:=by
   rw [Array.toList_map];cases hi:P.info? t with
   | none=>simp [hi] at aW
   | some it =>
    simp_all [Program.built]
  simp_all [run_build,execOp]
 | @makeFunc fn first caps _ hQ f_ h1 af =>
  obtain ⟨aB,a2⟩:=zH h aR h1;obtain ⟨hg,h5⟩:=zH h aR af;refine ⟨.func fn (first.map a.eval) (caps.map a.eval),by simp [execOp,Instr.makeFunc],.dj (λ_ h=>h) (by simpa using aB) (by simpa using hg) (λk x u j hu=>?_) (λk x u j hu=>?_)⟩
  ·grind
  grind
end
end Go.Own
namespace Go.Own
open Go
set_option linter.unusedSectionVars false
variable [cI]
structure yq (w w':World) (bv ef:Value) (e b9:TypeId) (z n m:Nat) (us news:List Value):Prop where
 jH:w'.ownsRow 0 e z bv n us
 new:w'.ownsRow 0 b9 z ef (n+m) (us++news)
 dF:Fr w w' (λc=>bv.ownBlock=some c)
 yV:∀ c,ef.ownBlock=some c->bv.ownBlock=some c\/w.heap.size<=c
 sp:∀ c,bv.ownBlock=some c->∃ arr je:Array Value,w.heap[c]?=some (.cells arr e (0,0))/\w'.heap[c]?=some (.cells je e (0,0))/\je.size=arr.size/\je.toList.take (n * z)=arr.toList.take (n * z)
section
variable {P:Program}{w:World}
theorem yq.same {bv ef:Value}{e b9:TypeId}{z n m:Nat}{us news:List Value}{w':World}(iX:w.ownsRow 0 e z bv n us) (av:∀ c,c<w.heap.size->w'.heap[c]?=w.heap[c]?) (ay:w.heap.size<=w'.heap.size)
  (h1:w'.os=w.os) (af:w'.tape=w.tape) (aJ:w'.output=w.output) (rP:w'.ownsRow 0 b9 z ef (n+m) (us++news)) (hblk:∀ c,ef.ownBlock=some c->bv.ownBlock=some c\/w.heap.size<=c) (nV:∀ a,w'.frozen? a=w.frozen? a) (Es:w.drawn<=w'.drawn:=by first | exact Nat.le_refl _ | exact Nat.le_succ _):yq w w' bv ef e b9 z n m us news:=by
 have aT:=iX.lt;refine ⟨r' iX λc aa=>av c (aT c aa).2,rP,⟨h1,af,aJ,ay,λb hD _=>av b hD,λa _ _=>nV a,Es⟩,hblk,λc aa=>?_⟩;obtain ⟨_,bG⟩:=iX;rcases bG with ⟨rfl,_⟩ | ⟨b,cap,cur,rfl,_,aN,_⟩
 ·simp [Value.ownBlock] at aa
 ·simp only [Value.ownBlock,Option.some.injEq] at aa;subst aa;exact ⟨cur,cur,aN,(av _ (aT b rfl).2).trans aN,rfl,rfl⟩
theorem Y6 (t ty e b_:TypeId) (i:TypeInfo) (aq:P.underlying t=some (.slice e)) (hi:P.info? e=some i)
  (b x_ Km:Nat) (cur:Array Value) (aN:w.heap[b]?=some (.cells cur b_ (0,0)))
  (a:Addr) (m c:Nat) (news:List Value) (aj:news.length=m * i.size) (uj:∀ J u,news[J]?=some u->w.cell? (a.add J)=some u) (h1:∀ u∈news,u.oneCell'=true)
  (vr:x_+m<=Km) (w_:x_ * i.size+news.length<=cur.size) :
  (Builtin.append_ #[t,t] ty #[.slice (some ⟨b,0,none⟩) x_ Km,.slice (some a) m c]).run P w =
   .ok (.slice (some ⟨b,0,none⟩) (x_+m) Km) (w.setRow b (cur.toList.take (x_ * i.size)++news++cur.toList.drop (x_ * i.size+news.length)).toArray):=by
 have aS:=run_firstCells_some (P:=P) w i.size m a m c news aj uj;have bT:=run_storeCells_at P b (x_ * i.size) b_ news 0 cur w aN (by simpa using w_) h1;simp only [Nat.add_zero] at bT;simp [Builtin.append_,run_underlying aq,sizeOf,typeInfo,hi,Builtin.lenOf,vr,aS,Addr.add_lit,bT]
theorem PG (t ty e b_:TypeId) (i:TypeInfo) (df:Value) (aq:P.underlying t=some (.slice e)) (hi:P.info? e=some i) (aW:i.zero=some df) (oO:df.cells.size=i.size) (_h0:0<i.size)
  {bv:Value}{n m c:Nat}{us news:List Value}(iX:w.ownsRow 0 b_ i.size bv n us) {a:Option Addr}(aR:0<m->a.isSome=true)
  (aj:news.length=m * i.size) (uj:∀ ad,a=some ad->∀ (J:Nat) (u:Value),news[J]?=some u->w.cell? (ad.add J)=some u) (h1:∀ u∈news,u.oneCell'=true)
  (nh:n+m<=maxLen) (w5:(n+m) * i.bytes<=140737488355328) :
  ∃ ef w' b9,(Builtin.append_ #[t,t] ty #[bv,.slice a m c]).run P w=.ok ef w'/\yq w w' bv ef b_ b9 i.size n m us news:=by
 have k7:=iX.1;by_cases hm:m=0
 ·subst hm;have aA:news=[]:=List.eq_nil_of_length_eq_zero (by simpa using aj);subst aA;refine ⟨bv,w,b_,?_,.same iX (λ_ _=>rfl) (Nat.le_refl _) rfl rfl rfl (by simpa using iX) (λc aa=>.inl aa) λ_=>rfl⟩;obtain ⟨_,bG⟩:=iX;rcases bG with ⟨rfl,rfl⟩ | ⟨b,cap,cur,rfl,_,aN,hle,_⟩
  ·cases a <;> simp [Builtin.append_,run_underlying aq,sizeOf,typeInfo,hi,Builtin.lenOf,Builtin.firstCells,loadCells,loadCellsFrom]
  ·cases a <;> simp [Builtin.append_,run_underlying aq,sizeOf,typeInfo,hi,Builtin.lenOf,Builtin.firstCells,loadCells,loadCellsFrom,hle,storeCells]
 ·cases a with
  | none=>simp at aR; omega
  | some ad =>
   replace uj:=uj ad rfl;have Ws:n+m<=9223372036854775807:=by simp only [maxLen] at nh; omega
   have grown:∀ (jH:Nat),jH<n+m ->
     (w.drew.alloc (.cells (us.toArray++news.toArray++Builtin.zeroCells df.cells (grownCap w (n+m) jH e - (n+m))) e)).ownsRow 0 e i.size (.slice (some ⟨w.heap.size,0,none⟩) (n+m) (grownCap w (n+m) jH e)) (n+m) (us++news):=by
    intro jH aU;have dC:=grownCap_ge w (n+m) jH e;have hlen:(us++news).length=(n+m) * i.size:=by rw [List.length_append,k7,aj,Nat.add_mul]
    refine ⟨hlen,.inr ⟨w.heap.size,_,_,rfl,Nat.zero_le _,ry w.drew _,dC,grownCap_le_maxLen w (n+m) jH e nh,?_,?_⟩⟩
    ·simp only [Array.size_append,List.size_toArray,size_zeroCells,oO,k7,aj,<- Nat.add_mul];congr 1;omega
    ·simp only [Array.toList_append,List.append_assoc];rw [<- List.append_assoc,<- hlen];exact List.take_left
   have xc:=iX;obtain ⟨_,bG⟩:=iX;rcases bG with ⟨rfl,rfl⟩ | ⟨b,cap,cur,rfl,_,aN,hle,p7,gR,zr⟩
   ·have j:us=[]:=List.eq_nil_of_length_eq_zero (by simpa using k7);subst j;have ah:=run_append_nil (P:=P) w t ty e i df aq hi aW ad m c news aj uj (by omega) (by omega) (by simp only [Nat.zero_add] at w5; omega);have nX:=grown 0 (by omega);simp only [Nat.zero_add,List.nil_append,Array.empty_append] at nX;exact ⟨_,_,e,ah,.same xc (λc aa=>alloc_old w.drew _ c aa) (by simp) rfl rfl rfl (by simpa using nX) (λc aa=>.inr (by simp [Value.ownBlock] at aa; omega)) (λa=>A' w.drew _ _ a)⟩
   ·by_cases vr:n+m<=cap
    ·have w_:n * i.size+news.length<=cur.size:=by rw [aj,gR,<- Nat.add_mul]; exact Nat.mul_le_mul_right _ vr
     have ah:=Y6 (P:=P) (w:=w) t ty e b_ i aq hi b n cap cur aN ad m c news aj uj h1 vr w_;have hlen:(us++news).length=(n+m) * i.size:=by rw [List.length_append,k7,aj,Nat.add_mul]
     have eM:(cur.toList.take (n * i.size)++news++cur.toList.drop (n * i.size+news.length)).toArray.size=cur.size:=by
      simp only [List.size_toArray,List.length_append,List.length_take,List.length_drop,Array.length_toList];omega
     have fu:(cur.toList.take (n * i.size)++news++cur.toList.drop (n * i.size+news.length)).take (n * i.size)=cur.toList.take (n * i.size):=by
      rw [List.append_assoc];exact List.take_left' (by simp; omega)
     refine ⟨_,_,b_,ah,⟨⟨k7,.inr ⟨b,cap,_,rfl,Nat.zero_le _,setRow_heap w b cur _ b_ _ aN,hle,p7,eM.trans gR,?_⟩⟩,⟨hlen,.inr ⟨b,cap,_,rfl,Nat.zero_le _,setRow_heap w b cur _ b_ _ aN,vr,p7,eM.trans gR,?_⟩⟩,
      ⟨rfl,rfl,rfl,by simp,λk _ hk=>setRow_other w b k _ (λe=>hk (by simp [Value.ownBlock,e])),λa _ _=>Ec w b _ a,Nat.le_refl _⟩,λc aa=>.inl aa,λc aa=>?_⟩⟩
     ·rw [<- zr]; exact fu
     ·rw [zr,<- hlen];exact List.take_left
     ·simp only [Value.ownBlock,Option.some.injEq] at aa;subst aa;exact ⟨cur,_,aN,setRow_heap w b cur _ b_ _ aN,eM,fu⟩
    ·have holds:∀ (J:Nat) (u:Value),us[J]?=some u->w.cell? ((⟨b,0,none⟩:Addr).add J)=some u:=xc.cells (g:=b) rfl;have ah:=run_append_grow (P:=P) w t ty e i df aq hi aW ⟨b,0,none⟩ n cap us k7 holds ad m c news aj uj (by omega) (by omega) (growslice_fits (by omega) w5);have nX:=grown cap (by omega);exact ⟨_,_,e,ah,.same xc (λc aa=>alloc_old w.drew _ c aa) (by simp) rfl rfl rfl nX (λc aa=>.inr (by simp [Value.ownBlock] at aa; omega)) (λa=>A' w.drew _ _ a)⟩
end
end Go.Own
namespace Go.Own
open Go
set_option linter.unusedSectionVars false
variable [cI]
section
variable {w w':World}{I:a8}{ρ ρ':ab->Value->Prop}
theorem R.kids {x:ab}{v:Value}{F:a8}(h:R w I ρ x v F) (j:x.kids≠[]):∃ Fs:Nat->a8,
  (∀ k y,x.kids[k]?=some y->∃ u,child w v k=some u/\R w I ρ y u (Fs k))/\(∀ (J k c:Nat),J<x.kids.length->k<x.kids.length->Fs J c->Fs k c->J=k) /\
  (∀ k c,k<x.kids.length->Fs k c->F c)/\(∀ z n cs,x=.own z n cs->∀ c,v.ownBlock=some c->∀ k,k<x.kids.length->¬ Fs k c):=by
 cases h with
 | @own z n cs _ e us Fs _ aU aj h1 ah aP av aH =>
  refine ⟨Fs,λk y hk=>?_,aP,λk c hk aa=>(aH c).2 (.inr ⟨k,hk,aa⟩),λ_ _ _ _ c aa k hk h=>av k c hk h aa⟩;simp only [ab.kids] at hk;have aT:k<cs.length:=(List.getElem?_eq_some_iff.1 hk).1;have hu:us[k]?=some us[k]:=List.getElem?_eq_getElem (aj ▸ aT)
  grind [oU]
 | @obj cs b e arr Fs _ aU aj h1 ah aP av aH =>
  refine ⟨Fs,λk y hk=>?_,aP,λk c hk aa=>(aH c).2 (.inr ⟨k,hk,aa⟩),λ_ _ _ h=>by simp at h⟩;simp only [ab.kids] at hk;have aT:k<cs.length:=(List.getElem?_eq_some_iff.1 hk).1;have hu:arr[k]?=some arr[k]:=Array.getElem?_eq_getElem (aj ▸ aT);exact ⟨_,by simp [child,World.cell?,aU,hu],ah k y _ hk hu⟩
 | @agg cs vs Fs _ aj h1 ah aP aH =>
  refine ⟨Fs,λk y hk=>?_,aP,λk c hk aa=>(aH c).2 ⟨k,hk,aa⟩,λ_ _ _ h=>by simp at h⟩;simp only [ab.kids] at hk;have aT:k<cs.length:=(List.getElem?_eq_some_iff.1 hk).1
  simp_all [child]
 | @bQ cs vs Fs _ aj ah aP aH =>
  refine ⟨Fs,λk y hk=>?_,aP,λk c hk aa=>(aH c).2 ⟨k,hk,aa⟩,λ_ _ _ h=>by simp at h⟩;simp only [ab.kids] at hk;have aT:k<cs.length:=(List.getElem?_eq_some_iff.1 hk).1
  simp_all [child]
 | ref fL=>cases x <;> simp [ab.isRef,ab.kids] at fL j
 | _=>simp [ab.kids] at j
theorem ab.u9 {x y:ab}{k:Nat}{p:List Nat}(h:x.at (k::p)=some y):∃ c,x.kids[k]?=some c/\c.at p=some y:=by
 grind [ab.at]
theorem R.JT {b:Nat}:∀ (q r:List Nat) {x:ab}{v:Value}{F:a8}{z n bs ch:Nat}{cs cs':List ab}{my Dk:Value},R w I ρ x v F->x.at q=some (.own z n cs)->x.at r=some (.own bs ch cs') ->
  walk w v q=some my->walk w v r=some Dk->my.ownBlock=some b->Dk.ownBlock=some b->q=r
 | [],[],_,_,_,_,_,_,_,_,_,_,_,_,_,_,_,_,_,_=>rfl
 | [],k::r,x,v,F,z,n,bs,ch,cs,cs',my,Dk,h,a7,ah,oe,wr,yW,yX=>by
  obtain ⟨c,hk,aa⟩:=ab.u9 ah;simp only [ab.at,Option.some.injEq] at a7;simp only [walk,Option.some.injEq] at oe;subst a7 oe;have aT:k<(ab.own z n cs).kids.length:=(List.getElem?_eq_some_iff.1 hk).1;obtain ⟨Fs,h1,af,aJ,bx⟩:=h.kids (by intro e; rw [e] at aT; simp at aT);obtain ⟨u,hu,mI⟩:=h1 k c hk;simp only [walk,hu] at wr;obtain ⟨ik,cn,hw,dB,di,_⟩:=R.focus r mI aa;rw [hw] at wr;cases wr;exact absurd (di b (dB.qi b yX)) (bx z n cs rfl b yW k aT)
 | J::q,[],x,v,F,z,n,bs,ch,cs,cs',my,Dk,h,a7,ah,oe,wr,yW,yX=>by
  obtain ⟨c,hk,aa⟩:=ab.u9 a7;simp only [ab.at,Option.some.injEq] at ah;simp only [walk,Option.some.injEq] at wr;subst ah wr;have aT:J<(ab.own bs ch cs').kids.length:=(List.getElem?_eq_some_iff.1 hk).1;obtain ⟨Fs,h1,af,aJ,bx⟩:=h.kids (by intro e; rw [e] at aT; simp at aT);obtain ⟨u,hu,mI⟩:=h1 J c hk;simp only [walk,hu] at oe;obtain ⟨ik,cn,hw,dB,di,_⟩:=R.focus q mI aa;rw [hw] at oe;cases oe;exact absurd (di b (dB.qi b yW)) (bx bs ch cs' rfl b yX J aT)
 | J::q,k::r,x,v,F,z,n,bs,ch,cs,cs',my,Dk,h,a7,ah,oe,wr,yW,yX=>by
  obtain ⟨c,ai,aa⟩:=ab.u9 a7;obtain ⟨d,hk,aP⟩:=ab.u9 ah;have eU:J<x.kids.length:=(List.getElem?_eq_some_iff.1 ai).1;have dT:k<x.kids.length:=(List.getElem?_eq_some_iff.1 hk).1;obtain ⟨Fs,h1,af,aJ,bx⟩:=h.kids (by intro e; rw [e] at eU; simp at eU);obtain ⟨u,hu,mI⟩:=h1 J c ai;obtain ⟨wh,hP,HW⟩:=h1 k d hk;simp only [walk,hu] at oe;simp only [walk,hP] at wr;by_cases fA:J=k
  ·subst fA;rw [ai] at hk; cases hk;rw [hu] at hP; cases hP;rw [R.JT q r mI aa aP oe wr yW yX]
  ·exfalso;obtain ⟨ik,cn,hw,dB,di,_⟩:=R.focus q mI aa;obtain ⟨Z9,jb,xh,Bm,Un,_⟩:=R.focus r HW aP;rw [hw] at oe; cases oe;rw [xh] at wr; cases wr;exact fA (af J k b eU dT (di b (dB.qi b yW)) (Un b (Bm.qi b yX)))
theorem ab.P0:∀ (q:List Nat) {x y:ab},x.at q=some y->x.setAt q y=x
 | [],x,y,h=>by simp [ab.at] at h; simp [ab.setAt,h]
 | k::q,x,y,h=>by
  obtain ⟨c,hk,aa⟩:=ab.u9 h;simp only [ab.setAt,hk,ab.P0 q aa];have:∀ (l:List ab),l[k]?=some c->l.set k c=l:=by
   intro l aj;apply List.ext_getElem?;intro J;by_cases fA:k=J
   ·subst fA;have aT:k<l.length:=(List.getElem?_eq_some_iff.1 aj).1;rw [List.getElem?_set_self aT,aj]
   ·rw [List.getElem?_set_ne fA]
  cases x <;> simp [ab.kids] at hk <;> simp [ab.uM,this _ hk]
theorem Dm (w:World):∀ (p:List Nat) (v:Value) (r:List Nat),walk w v (p++r)=(walk w v p).bind λu=>walk w u r
 | [],v,r=>rfl
 | k::p,v,r=>by
  simp only [List.cons_append,walk];cases child w v k with
  | none=>rfl
  | some u=>exact Dm w p u r
theorem ab.GM:∀ (p:List Nat) (x:ab) (r:List Nat),x.at (p++r)=(x.at p).bind λy=>y.at r
 | [],x,r=>rfl
 | k::p,x,r=>by
  simp only [List.cons_append,ab.at];cases x.kids[k]? with
  | none=>rfl
  | some u=>exact ab.GM p u r
structure DL (w w':World) (b M:Nat):Prop where
 other:∀ c,c<w.heap.size->c≠b->w'.heap[c]?=w.heap[c]?
 here:∃ (arr je:Array Value) (e:TypeId),w.heap[b]?=some (.cells arr e (0,0))/\w'.heap[b]?=some (.cells je e (0,0))/\je.size=arr.size/\je.toList.take M=arr.toList.take M
theorem DL.row {b M:Nat}(s:DL w w' b M) {e:TypeId}{z n:Nat}{v:Value}{us:List Value}(h:w.ownsRow 0 e z v n us) (aA:v.ownBlock=some b->n * z<=M):w'.ownsRow 0 e z v n us:=by
 by_cases av:v.ownBlock=some b
 ·obtain ⟨arr,je,cr,h1,af,aJ,bx⟩:=s.here;obtain ⟨hu,bG⟩:=h;rcases bG with ⟨rfl,rfl⟩ | ⟨g,cap,cur,rfl,aN,aa,q9,jt,x3,v_⟩
  ·grind [Value.ownBlock]
  ·simp only [Value.ownBlock,Option.some.injEq] at av;subst av;rw [h1] at aa;cases aa;refine ⟨hu,.inr ⟨g,cap,je,rfl,aN,af,q9,jt,by omega,?_⟩⟩;rw [<- v_];have:=congrArg (List.take (n * z)) bx
   rwa [List.take_take,List.take_take,Nat.min_eq_left (aA rfl)] at this
 ·exact r' h λc aa=>s.other c (h.lt c aa).2 λe=>av (e ▸ aa)
theorem R.spare {b M:Nat}(s:DL w w' b M) (bb:∀ c,I c->c<w.heap.size/\c≠b) (lA:∀ x v,ρ x v->ρ' x v) {x:ab}{v:Value}{F:a8}(h:R w I ρ x v F) {q:List Nat}{z n:Nat}{cs:List ab}{ik:Value}
  (fz:x.at q=some (.own z n cs)) (hw:walk w v q=some ik) (av:ik.ownBlock=some b) (aA:n * z<=M) :
  R w' I ρ' x v F/\∀ r y,x.at r=some y->walk w' v r=walk w v r:=by
 obtain ⟨Z9,cn,xh,dB,di,eB,kO⟩:=R.focus q h fz;rw [hw] at xh;cases xh;have oE:cn b:=dB.qi b av;have aT:=h.lt;have same:∀ c,F c->c≠b->w'.heap[c]?=w.heap[c]?:=λc aa cA=>s.other c (aT c aa) cA;have acz:=dB;cases dB with
 | ref j=>simp [ab.isRef] at j
 | @own _ _ _ _ e us Fs _ aU aj h1 ah aP jm aH =>
  have mL:=s.row aU λ_=>aA;have cA:∀ k c,k<cs.length->Fs k c->c≠b:=λk c hk aa e=>jm k c hk aa (e ▸ av);have jk:∀ k c,k<cs.length->Fs k c->F c:=λk c hk aa=>di c ((aH c).2 (.inr ⟨k,hk,aa⟩));have rP:R w' I ρ' (.own z n cs) ik cn:=by
   refine .own mL aj h1 (λk x u j hu=>?_) aP jm aH;have hk:k<cs.length:=(List.getElem?_eq_some_iff.1 j).1;exact (ah k x u j hu).frame (λc aa=>s.other c (bb c aa).1 (bb c aa).2) (λ_ h=>h) lA λc aa=>same c (jk k c hk aa) (cA k c hk aa)
  constructor
  ·obtain ⟨cY,jl,pn⟩:=kO w' I ρ' _ cn ⟨λc aa=>s.other c (bb c aa).1 (bb c aa).2,λc aa aA=>same c aa λe=>aA (e ▸ oE),λ_ h=>h,lA⟩ rP (λc aa _=>aa) λ_ h=>by cases h
   rw [ab.P0 q fz] at jl;refine jl.y5 λc=>?_;rw [pn c];constructor
   ·rintro (⟨h,_⟩ | h)
    ·exact h
    ·exact di c h
   ·intro h;by_cases aa:cn c
    ·exact .inr aa
    ·exact .inl ⟨h,aa⟩
  ·obtain ⟨gH,fp⟩:=eB w' λc aa aA=>same c aa λe=>aA (e ▸ oE);intro r y dM;rcases fp r y dM with ⟨ck,rfl⟩ | h
   ·rw [Dm,Dm,gH,hw];simp only [Option.bind_some];cases ck with
    | nil=>rfl
    | cons k ck =>
     rw [ab.GM,fz] at dM;obtain ⟨c,hk,aa⟩:=ab.u9 (x:=.own z n cs) dM;simp only [ab.kids] at hk;have dT:k<cs.length:=(List.getElem?_eq_some_iff.1 hk).1;have hu:us[k]?=some us[k]:=List.getElem?_eq_getElem (aj ▸ dT);have:=R.pN (w':=w') ck (ah k c _ hk hu) aa λc aa=>same c (jk k c dT aa) (cA k c dT aa);simp [walk,oU aU hu,oU mL hu,this]
   ·exact h
end
end Go.Own
namespace Go.Own
open Go
set_option linter.unusedSectionVars false
variable [cI]
section
variable {w w':World}{I:a8}{T:Array Value}{g:aK}{Fs:Nat->a8}
theorem cF.Kv (h:cF w I T g Fs) {t:Nat}{x:ab}(j:g t=some x):∃ v,T[t]?=some v/\dU w T ⟨t,[]⟩=some v/\jx w I (dR w T g) x v (Fs t):=by
 obtain ⟨v,hv,aY⟩:=h.rel t x j;exact ⟨v,hv,by simp [dU,hv,walk],aY⟩
theorem cF.app (h:cF w I T g Fs) {z n m:Nat}{p:Place}{bv ef:Value}{e b9:TypeId}{us news:List Value}(kp:dR w T g (.bB z p n 0 []) bv)
  (e6:∀ t bs ch bh cQ,g t≠some (.bB bs p ch bh cQ)) (A:yq w w' bv ef e b9 z n m us news):cF w' I T g Fs/\∀ r v,dR w T g r v->dR w' T g r v:=by
 cases jm:bv.ownBlock with
 | none =>
  have same:∀ c,c<w.heap.size->w'.heap[c]?=w.heap[c]?:=λc aa=>A.dF.block c aa (by rw [jm]; simp);exact ⟨h.world (λt c aa=>same c (h.jT t c aa)) (λc aa=>same c (h.lt c aa)) A.dF.size,λr v ah=>h.FG (λ_ _=>rfl) (λt c aa=>same c (h.jT t c aa)) (λ_ _ h=>h) ah⟩
 | some b =>
  have s:DL w w' b (n * z):=by
   refine ⟨λc aa cA=>A.dF.block c aa (by rw [jm]; simpa using Ne.symm cA),?_⟩;obtain ⟨arr,je,h1,af,aJ,bx⟩:=A.sp b jm;exact ⟨arr,je,e,h1,af,aJ,bx⟩
  obtain ⟨t0,sL⟩:=h.DU kp b jm;have bb:∀ c,I c->c<w.heap.size/\c≠b:=λc aa=>⟨h.lt c aa,λe=>h.bm t0 b sL (e ▸ aa)⟩;obtain ⟨⟨wE,wH,Ie,rfl⟩,cX⟩:=kp
  -- the home of the block
  have home:∃ N:Place->Prop,(∀ q bs ch cs' my,bu g q=some (.own bs ch cs')->dU w T q=some my->my.ownBlock=some b->N q) /\
    (∀ q,N q->∀ t bs ch bh cQ,g t=some (.bB bs q ch bh cQ)->t=p.root/\p.path=[]) /\
    (∀ t bs gy ch bh cQ,Fs t b->g t=some (.bB bs gy ch bh cQ)->t=p.root/\p.path=[]) /\
    (∀ bs gy ch bh cQ,p.path=[]->g p.root=some (.bB bs gy ch bh cQ)->bs=z/\n=ch+bh) /\
    (∀ t x v,Fs t b->g t=some x->T[t]?=some v->R w I (dR w T g) x v (Fs t)->∃ q bs ch cs' ik,x.at q=some (.own bs ch cs')/\walk w v q=some ik/\ik.ownBlock=some b/\ch * bs<=n * z):=by
   rcases cX with ⟨cs,au⟩ | ⟨fB,kN,mQ,m1,adk,cs,au,aA,BM⟩
   ·-- the base is a row of a tree
    obtain ⟨qw,qC,gC,hy,me⟩:=h.part au (by simp);rw [Ie] at gC;cases gC;have mN:t0=p.root:=h.eu _ _ _ sL (me b (hy.qi b jm));obtain ⟨eC,jF⟩:∃ eC,g p.root=some eC:=by
     unfold bu at au;cases j:g p.root with
     | none=>rw [j] at au; cases au
     | some x=>exact ⟨x,rfl⟩
    have rK:eC.at p.path=some (.own z n cs):=by simpa [bu,jF] using au
    have k_:∀ bs gy ch bh cQ,g p.root≠some (.bB bs gy ch bh cQ):=by
     intro bs gy ch bh cQ bG;rw [jF] at bG;cases bG;have:=(ab.tE rK).2;simp at this
    obtain ⟨v0,jo,fP⟩:=h.rel _ _ jF;have HQ:=fP.hd (λbs gy ch bh cQ e=>k_ bs gy ch bh cQ (by rw [jF,e]));have BX:walk w v0 p.path=some (.slice wE n wH):=by simpa [dU,jo] using Ie
    refine ⟨λq=>q=p,?_,?_,?_,?_,?_⟩
    ·intro q bs ch cs' my a7 sN w4;obtain ⟨Qz,Gv,vA,HU,HL⟩:=h.part a7 (by simp);rw [sN] at vA;cases vA;have ah:q.root=p.root:=(h.eu _ _ _ (HL b (HU.qi b w4)) sL).trans mN;have Br:eC.at q.path=some (.own bs ch cs'):=by simpa [bu,ah,jF] using a7
     have IX:walk w v0 q.path=some my:=by simpa [dU,ah,jo] using sN
     have:=R.JT q.path p.path HQ Br rK IX BX w4 jm;cases q; cases p; simp_all
    ·rintro q rfl t bs ch bh cQ bG; exact absurd bG (e6 t bs ch bh cQ)
    ·intro t bs gy ch bh cQ iI bG;have:t=p.root:=(h.eu _ _ _ iI sL).trans mN;rw [this] at bG;exact absurd bG (k_ _ _ _ _ _)
    ·intro bs gy ch bh cQ _ bG; exact absurd bG (k_ _ _ _ _ _)
    ·intro t x v iI j hv aY;have:t=p.root:=(h.eu _ _ _ iI sL).trans mN;subst this;rw [jF] at j; cases j;rw [jo] at hv; cases hv;exact ⟨_,_,_,_,_,rK,BX,jm,Nat.le_refl _⟩
   ·-- the base is behind an append itself
    obtain ⟨v0,jo,BV,fP⟩:=h.Kv au;have WC:v0=.slice wE n wH:=by
     have:(⟨p.root,[]⟩:Place)=p:=by cases p; simp_all
     rw [this,Ie] at BV;exact (Option.some.inj BV).symm
    subst WC;obtain ⟨Sj,cr,ab8,Z4,adm,fP⟩:=fP.vG;by_cases oB:Sj.ownBlock=some b
    ·obtain ⟨⟨aB,L7,N6,rfl⟩,_⟩:=fP.kp;obtain ⟨my,Gv,sN,HU,HL⟩:=h.part BM (by simp);rw [N6] at sN;cases sN;have mN:t0=kN.root:=h.eu _ _ _ sL (HL b (HU.qi b oB));obtain ⟨eC,jF⟩:∃ eC,g kN.root=some eC:=by
      unfold bu at BM;cases j:g kN.root with
      | none=>rw [j] at BM; cases BM
      | some x=>exact ⟨x,rfl⟩
     have rK:eC.at kN.path=some (.own z mQ cs):=by simpa [bu,jF] using BM
     have k_:∀ bs gy ch bh cQ,g kN.root≠some (.bB bs gy ch bh cQ):=by
      intro bs gy ch bh cQ bG;rw [jF] at bG;cases bG;have:=(ab.tE rK).2;simp at this
     obtain ⟨v1,rT,Bk⟩:=h.rel _ _ jF;have UD:=Bk.hd (λbs gy ch bh cQ e=>k_ bs gy ch bh cQ (by rw [jF,e]));have BX:walk w v1 kN.path=some (.slice aB mQ L7):=by simpa [dU,rT] using N6
     refine ⟨λq=>q=kN,?_,?_,?_,?_,?_⟩
     ·intro q bs ch cs' my a7 sN w4;obtain ⟨Qz,Q9,vA,HV,HM⟩:=h.part a7 (by simp);rw [sN] at vA;cases vA;have ah:q.root=kN.root:=(h.eu _ _ _ (HM b (HV.qi b w4)) sL).trans mN;have Br:eC.at q.path=some (.own bs ch cs'):=by simpa [bu,ah,jF] using a7
      have IX:walk w v1 q.path=some my:=by simpa [dU,ah,rT] using sN
      have:=R.JT q.path kN.path UD Br rK IX BX w4 oB;cases q; cases kN; simp_all
     ·rintro q rfl t bs ch bh cQ bG; exact ⟨h.q8 _ _ _ _ _ _ _ _ _ _ _ bG au,fB⟩
     ·intro t bs gy ch bh cQ iI bG;have:t=kN.root:=(h.eu _ _ _ iI sL).trans mN;rw [this] at bG;exact absurd bG (k_ _ _ _ _ _)
     ·intro bs gy ch bh cQ _ bG;rw [au] at bG; cases bG; exact ⟨rfl,aA⟩
     ·intro t x v iI j hv aY;have:t=kN.root:=(h.eu _ _ _ iI sL).trans mN;subst this;rw [jF] at j; cases j;rw [rT] at hv; cases hv;exact ⟨_,_,_,_,_,rK,BX,oB,Nat.mul_le_mul_right _ (by omega)⟩
    ·have tO:Fs p.root b:=(fP.aH b).2 ⟨jm,oB⟩;have mN:t0=p.root:=h.eu _ _ _ sL tO;refine ⟨λ_=>False,?_,λ_ h=>h.elim,?_,?_,?_⟩
     ·intro q bs ch cs' my a7 sN w4;obtain ⟨Qz,Q9,vA,HV,HM⟩:=h.part a7 (by simp);rw [sN] at vA;cases vA;have ah:q.root=p.root:=h.eu _ _ _ (HM b (HV.qi b w4)) tO;unfold bu at a7;rw [ah,au] at a7;have:=(ab.tE a7).2;simp at this
     ·intro t bs gy ch bh cQ iI _; exact ⟨h.eu _ _ _ iI tO,fB⟩
     ·intro bs gy ch bh cQ _ bG;rw [au] at bG; cases bG; exact ⟨rfl,aA⟩
     ·intro t x v iI j hv aY;have:t=p.root:=h.eu _ _ _ iI tO;subst this;rw [au] at j; cases j;exact aY.k_.elim
  obtain ⟨N,M_,M',Na,Uy,Uz⟩:=home
  -- rows of pends
  have pends:∀ t bs gy ch bh cQ v yY b_ tL iL Fg,g t=some (.bB bs gy ch bh cQ)->T[t]?=some v->GA w I (dR w T g) bs gy ch bh cQ v (Fs t) yY b_ tL iL Fg ->
    (v.ownBlock=some b->(ch+bh) * bs<=n * z)/\(yY.ownBlock=some b->ch * bs<=n * z):=by
   intro t bs gy ch bh cQ v yY b_ tL iL Fg aN hv aY;by_cases aq:t=p.root/\p.path=[]
   ·obtain ⟨rfl,fB⟩:=aq;obtain ⟨rfl,rfl⟩:=Uy _ _ _ _ _ fB aN;exact ⟨λ_=>Nat.le_refl _,λ_=>Nat.mul_le_mul_right _ (by omega)⟩
   ·have pr:yY.ownBlock≠some b:=by
     intro hD;obtain ⟨⟨a2,rE,N7,rfl⟩,V8⟩:=aY.kp;rcases V8 with ⟨cs2,af⟩ | ⟨aO,C3,XP,m3,adl,ab3,af,aJ,bx⟩
     ·exact aq (M' gy (M_ gy _ _ _ _ af N7 hD) t _ _ _ _ aN)
     ·obtain ⟨v2,zt,N4,mf⟩:=h.Kv af;have EG:(⟨gy.root,[]⟩:Place)=gy:=by cases gy; simp_all
      rw [EG,N7] at N4;cases N4;have NW:gy.root=p.root/\p.path=[]->False:=by
       rintro ⟨ah,fB⟩;have:gy=p:=by cases gy; cases p; simp_all
       exact e6 t bs ch bh cQ (this ▸ aN)
      obtain ⟨Sk,fi,ab_,adA,adn,mf⟩:=mf.vG;by_cases pq:Sk.ownBlock=some b
      ·obtain ⟨⟨a4,aay,WE,rfl⟩,_⟩:=mf.kp;exact NW (M' C3 (M_ C3 _ _ _ _ bx WE pq) _ _ _ _ _ af)
      ·exact NW (Na _ _ _ _ _ _ ((mf.aH b).2 ⟨hD,pq⟩) af)
    refine ⟨λBW=>?_,λhD=>absurd hD pr⟩;exact absurd (Na _ _ _ _ _ _ ((aY.aH b).2 ⟨BW,pr⟩) aN) aq
  -- trees
  have aT:=h.jT;have trees:∀ t x v (ρ':ab->Value->Prop),(∀ x v,dR w T g x v->ρ' x v)->g t=some x->T[t]?=some v->R w I (dR w T g) x v (Fs t)->R w' I ρ' x v (Fs t)/\∀ r y,x.at r=some y->walk w' v r=walk w v r:=by
   intro t x v ρ' lA j hv aY;by_cases iI:Fs t b
   ·obtain ⟨q,bs,ch,cs',ik,h1,af,aJ,bx⟩:=Uz t x v iI j hv aY;exact aY.spare s bb lA h1 af aJ bx
   ·have same:∀ c,Fs t c->w'.heap[c]?=w.heap[c]?:=λc aa=>s.other c (aT t c aa) λe=>iI (e ▸ aa);exact ⟨aY.frame (λc aa=>s.other c (bb c aa).1 (bb c aa).2) (λ_ h=>h) lA same,λr y ah=>R.pN r aY ah same⟩
  have val:∀ q y,bu g q=some y->dU w' T q=dU w T q:=by
   intro q y a7;unfold bu at a7;cases j:g q.root with
   | none=>rw [j] at a7; cases a7
   | some x =>
    rw [j] at a7;obtain ⟨v,hv,aY⟩:=h.rel _ _ j;cases aY with
    | tree aY=>have:=(trees _ x v _ (λ_ _ h=>h) j hv aY).2 q.path y a7; simp [dU,hv,this]
    | bB aY=>simp [dU,hv,(ab.tE a7).1,walk]
  have slot:∀ {q:Place}{x:ab},q.path=[]->g q.root=some x->dU w' T q=dU w T q:=by
   intro q x a7 j;obtain ⟨v,hv,_⟩:=h.rel _ _ j;simp [dU,a7,walk]
  have refs:∀ r v,dR w T g r v->dR w' T g r v:=by
   rintro r v ⟨h1,af⟩;refine ⟨?_,af⟩;cases r <;> simp only [fH,gZ] at h1 af ⊢
   case ptr q k=>obtain ⟨y,al,_⟩:=af; rw [val q y al]; exact h1
   case bg bs q ch =>
    rcases af with ⟨_,_,af,_⟩ | ⟨aO,_,_,_,_,af,_⟩
    ·rw [val q _ af]; exact h1
    ·rw [slot aO af]; exact h1
   case sub bs q lo ch=>obtain ⟨_,_,af,_⟩:=af; rw [val q _ af]; exact h1
   case hr q=>obtain ⟨_,af⟩:=af; rw [val q _ af]; exact h1
   case bB bs q ch bh cQ =>
    rcases af with ⟨_,af⟩ | ⟨aO,_,_,_,_,_,af,_⟩
    ·rw [val q _ af]; exact h1
    ·rw [slot aO af]; exact h1
  refine ⟨⟨λt x j=>?_,h.kM,h.eu,h.bm,λc aa=>Nat.lt_of_lt_of_le (h.lt c aa) A.dF.size,h.q8,cI.keep h.hV (λc aa=>s.other c (bb c aa).1 (bb c aa).2) λ_ h=>h⟩,refs⟩;obtain ⟨v,hv,aY⟩:=h.rel t x j;refine ⟨v,hv,?_⟩;cases aY with
  | tree aY=>exact .tree (trees t x v _ refs j hv aY).1
  | @bB bs ch bh gy cQ _ yY b_ tL iL Fg _ aY =>
   obtain ⟨eD,qj⟩:=pends t _ _ _ _ _ v yY b_ tL iL Fg j hv aY;refine .bB ⟨refs _ _ aY.kp,s.row aY.iX qj,s.row aY.np eD,aY.aj,aY.h1,λk x u j hu=>?_,aY.aH⟩;exact (aY.ah k x u j hu).frame (λc aa=>s.other c (bb c aa).1 (bb c aa).2) (λ_ h=>h) refs λc aa=>aa.elim
end
end Go.Own
namespace Go.Own
open Go
set_option linter.unusedSectionVars false
variable [cI]
def uY (w:World) (I:a8) (T:Array Value) (g:aK) (Fs:Nat->a8) (x:ab) (v:Value) (w':World):Prop :=
 ∃ F I',cF w' I' T g Fs/\jx w' I' (dR w' T g) x v F/\(∀ t c,F c->¬ Fs t c)/\(∀ c,F c->w.heap.size<=c/\¬ I' c)/\(∀ c,I c->I' c)/\(∀ c,I' c->I c\/w.heap.size<=c)/\Fr w w' (λc=>∃ t,Fs t c)/\(∀ z p n m new,x=.bB z p n m new->∀ t bs ch bh cQ,g t≠some (.bB bs p ch bh cQ))
inductive Src (g:aK):ab->Nat->Nat->List ab->Prop
 | bm {z m:Nat}{cs:List ab}:Src g (.bm z m cs) z m cs
 | aQ {z:Nat}:Src g .aQ z 0 []
 | bg {z m N:Nat}{q:Place}{cs:List ab}(a7:bu g q=some (.own z N cs)) (hm:m<=N):Src g (.bg z q m) z m ((cs.take (m * z)).mapIdx λi x=>fD 0 (q.push i) x)
 | sub {z lo m N:Nat}{q:Place}{cs:List ab}(a7:bu g q=some (.own z N cs)) (hm:lo+m<=N):Src g (.sub z q lo m) z m (((cs.drop (lo * z)).take (m * z)).mapIdx λi x=>fD 0 (q.push (lo * z+i)) x)
def jM (P:Program) (t e:TypeId) (z b:Nat):Bool :=
 match P.underlying t,P.info? e with
 | some (.slice b_),some i=>b_ == e&&i.size == z&&i.bytes == b&&z != 0&&(match i.zero with | some v=>v.cells.size == z | none=>false)
 | _,_=>false
section
variable {P:Program}{w:World}{I:a8}{T:Array Value}{g:aK}{Fs:Nat->a8}
theorem LG {t e:TypeId}{z b:Nat}(h:jM P t e z b=true):∃ i df,P.underlying t=some (.slice e)/\P.info? e=some i/\i.size=z/\i.bytes=b/\0<z/\i.zero=some df/\df.cells.size=z:=by
 unfold jM at h;cases hu:P.underlying t with
 | none=>simp [hu] at h
 | some d =>
  cases hi:P.info? e with
  | none=>cases d <;> simp [hu,hi] at h
  | some i =>
   cases d <;> simp [hu,hi] at h;obtain ⟨⟨⟨⟨rfl,h1⟩,af⟩,aJ⟩,bx⟩:=h;cases aW:i.zero with
   | none=>simp [aW] at bx
   | some df=>simp [aW] at bx; exact ⟨i,df,rfl,rfl,h1,af,by omega,aW,bx⟩
theorem Src.sound (h:cF w I T g Fs) {y:ab}{v:Value}{z m:Nat}{cells:List ab}(ay:Src g y z m cells) (aY:R w I (dR w T g) y v ct) :
  ∃ (a:Option Addr) (c:Nat) (news:List Value),v=.slice a m c/\news.length=m * z/\(0<m->0<z->a.isSome=true)/\(∀ ad,a=some ad->∀ (J:Nat) (u:Value),news[J]?=some u->w.cell? (ad.add J)=some u)/\Cells w I (dR w T g) cells news:=by
 have OZ:∀ {q:Place}{N:Nat}{cs:List ab}(lo:Nat) {a:Option Addr}{cap:Nat},bu g q=some (.own z N cs)->dU w T q=some (.slice a N cap)->lo+m<=N ->
   ∃ news:List Value,news.length=m * z/\(∀ ad,a=some ad->∀ (J:Nat) (u:Value),news[J]?=some u->w.cell? ⟨ad.block,lo * z+J,none⟩=some u)/\Cells w I (dR w T g) (((cs.drop (lo * z)).take (m * z)).mapIdx λi x=>fD 0 (q.push (lo * z+i)) x) news/\(0<m->0<z->∃ b,a=some ⟨b,0,none⟩):=by
  intro q N cs lo a cap a7 hv hm;obtain ⟨ef,cn,iY,dB,_⟩:=h.part a7 (by simp);rw [hv] at iY;cases iY;obtain ⟨bZ,mF,kb,_,hlen,qS,_⟩:=dB.mR;cases kb;have acE:lo * z+m * z<=cs.length:=by rw [hlen,<- Nat.add_mul]; exact Nat.mul_le_mul_right _ hm
  have cell:∀ J,J<m * z->∃ b gF kQ,a=some ⟨b,0,none⟩/\w.cell? ⟨b,lo * z+J,none⟩=some gF/\gF.oneCell'=true/\cs[lo * z+J]?=some kQ/\R w I (dR w T g) (fD 0 (q.push (lo * z+J)) kQ) gF ct:=by
   intro J ai;have fL:cs[lo * z+J]?=some cs[lo * z+J]:=List.getElem?_eq_getElem (by omega);obtain ⟨b,gF,ft,mh,nk,gv,bW,j'⟩:=dB.node (.inl rfl) fL;refine ⟨b,gF,_,?_,mh,gv,fL,FF 0 (by rw [tD,a7]; simp [ab.kids]) (by rw [yi,hv]; exact nk) j'⟩;cases a with
   | none=>simp [addrOf] at ft
   | some ad=>simp only [addrOf] at ft; rw [Option.some.inj ft]
  have uj:∃ news:List Value,news.length=m * z/\∀ J,J<m * z->∃ b gF kQ,news[J]?=some gF/\a=some ⟨b,0,none⟩/\w.cell? ⟨b,lo * z+J,none⟩=some gF/\gF.oneCell'=true/\cs[lo * z+J]?=some kQ/\R w I (dR w T g) (fD 0 (q.push (lo * z+J)) kQ) gF ct:=by
   refine ⟨(List.range (m * z)).map λJ=>(w.cell? ⟨(a.map (·.block)).getD 0,lo * z+J,none⟩).getD undef,by simp,λJ ai=>?_⟩;obtain ⟨b,gF,kQ,h1,af,aJ,bx,cu⟩:=cell J ai;refine ⟨b,gF,kQ,?_,h1,af,aJ,bx,cu⟩;rw [List.getElem?_map,List.getElem?_range ai,h1];simp [af]
  obtain ⟨news,aj,aA⟩:=uj;refine ⟨news,aj,λad ft J u ai=>?_,⟨?_,λJ u ai=>?_,λJ x u j ai=>?_⟩,λBD B6=>?_⟩
  ·obtain ⟨b,gF,kQ,h1,af,aJ,_⟩:=aA J (by rw [<- aj]; exact (List.getElem?_eq_some_iff.1 ai).1);rw [h1] at ai; cases ai;rw [ft] at af; cases af;exact aJ
  ·simp; omega
  ·obtain ⟨b,gF,kQ,h1,af,aJ,bx,_⟩:=aA J (by rw [<- aj]; exact (List.getElem?_eq_some_iff.1 ai).1);rw [h1] at ai; cases ai; exact bx
  ·obtain ⟨b,gF,kQ,h1,af,aJ,bx,cu,dL⟩:=aA J (by rw [<- aj]; exact (List.getElem?_eq_some_iff.1 ai).1);rw [h1] at ai; cases ai;rw [List.getElem?_mapIdx,List.getElem?_take] at j
   split at j
   ·rw [List.getElem?_drop,cu] at j;simp only [Option.map_some,Option.some.injEq] at j;rw [<- j]; exact dL
   ·cases j
  ·obtain ⟨b,_,_,h1,_⟩:=cell 0 (Nat.mul_pos BD B6);exact ⟨b,h1⟩
 cases ay with
 | bm =>
  obtain ⟨a,cap,rfl,_,hlen,hm⟩:=aY.zw;by_cases aO:cells≠[]\/0<m
  ·obtain ⟨ad,us,rfl,bb,mm,gv,aa,ah⟩:=hm aO;refine ⟨_,cap,(List.range cells.length).map us,rfl,by simp [hlen],by simp,λRv ft J u ai=>?_,⟨by simp,λJ u ai=>?_,λJ x u j ai=>?_⟩⟩
   ·cases ft;rw [List.getElem?_map] at ai;by_cases eU:J<cells.length
    ·rw [List.getElem?_range eU] at ai;simp only [Option.map_some,Option.some.injEq] at ai;obtain ⟨b,o,sp⟩:=ad;simp only at mm;subst mm;rw [add_eq,<- ai];exact aa J _ (List.getElem?_eq_getElem eU)
    ·rw [List.getElem?_eq_none (by simp; omega)] at ai; cases ai
   ·rw [List.getElem?_map] at ai;by_cases eU:J<cells.length
    ·rw [List.getElem?_range eU] at ai;simp only [Option.map_some,Option.some.injEq] at ai;rw [<- ai];exact gv J _ (List.getElem?_eq_getElem eU)
    ·rw [List.getElem?_eq_none (by simp; omega)] at ai; cases ai
   ·rw [List.getElem?_map] at ai;have eU:J<cells.length:=(List.getElem?_eq_some_iff.1 j).1;rw [List.getElem?_range eU] at ai;simp only [Option.map_some,Option.some.injEq] at ai;rw [<- ai];exact ah J x j
  ·have BD:m=0:=by omega
   have Ig:cells=[]:=Classical.byContradiction λe=>aO (.inl e);subst BD Ig;exact ⟨a,cap,[],rfl,by simp,by simp,by simp,by simp [Cells]⟩
 | aQ =>
  rw [aY.r5];exact ⟨none,0,[],rfl,by simp,by simp,by simp,by simp [Cells]⟩
 | @bg _ _ N q cs a7 hm =>
  obtain ⟨⟨a,iR,cap,h1,rfl,aJ⟩,bx⟩:=aY.mO;obtain ⟨ef,cn,iY,dB,_⟩:=h.part a7 (by simp);obtain ⟨bZ,mF,kb,_⟩:=dB.mR;rw [h1] at iY;cases iY;cases kb;obtain ⟨news,aj,aa,gR,aR⟩:=OZ 0 a7 h1 (by omega);simp only [Nat.zero_mul,List.drop_zero,Nat.zero_add] at gR aa;refine ⟨a,cap,news,rfl,aj,λaO Ee=>by obtain ⟨b,rfl⟩:=aR aO Ee; rfl,λad ft J u ai=>?_,gR⟩;have vk:=aa ad ft J u ai;by_cases aO:0<m/\0<z
  ·obtain ⟨b,av⟩:=aR aO.1 aO.2;rw [ft] at av; cases av;rw [add_eq]; simpa using vk
  ·have:m * z=0:=by
    rcases Nat.eq_zero_or_pos m with h | h
    ·simp [h]
    ·rcases Nat.eq_zero_or_pos z with aI | aI
     ·simp [aI]
     ·exact absurd ⟨h,aI⟩ aO
   have:=(List.getElem?_eq_some_iff.1 ai).1;omega
 | @sub _ lo _ N q cs a7 hm =>
  obtain ⟨⟨a,iR,cap,bZ,mF,h1,rfl,_,aJ,cu⟩,bx⟩:=aY.xp;obtain ⟨ef,cn,iY,dB,_⟩:=h.part a7 (by simp);obtain ⟨a2,rE,kb,_⟩:=dB.mR;rw [h1] at iY;cases iY;cases kb;obtain ⟨news,aj,aa,gR,aR⟩:=OZ lo a7 h1 hm;refine ⟨bZ,mF,news,rfl,aj,λaO _=>by obtain ⟨ad,_,rfl⟩:=cu aO; rfl,λad ft J u ai=>?_,gR⟩;have aT:=(List.getElem?_eq_some_iff.1 ai).1;have aO:0<m:=(Nat.eq_zero_or_pos m).elim (λh=>by rw [h] at aj; omega) id

  have aW:0<z:=(Nat.eq_zero_or_pos z).elim (λh=>by rw [h] at aj; omega) id

  obtain ⟨Rv,dL,k1⟩:=cu aO;obtain ⟨b,av⟩:=aR aO aW;rw [dL] at av; cases av;rw [ft] at k1; cases k1;have vk:=aa _ dL J u ai;rw [add_eq]; simpa using vk
end
end Go.Own
namespace Go.Own
open Go
set_option linter.unusedSectionVars false
variable [cI]
inductive AB (P:Program) (g:aK):Op->TypeId->ab->Prop
 | grow {s x:Operand}{t e ty:TypeId}{z b n m:Nat}{p:Place}{y:ab}{cells:List ab}(ay:bo g s=some (.bg z p n)) (cX:gZ g (.bB z p n 0 [])) (e6:∀ t bs ch bh cQ,g t≠some (.bB bs p ch bh cQ))
   (j:bo g x=some y) (rS:Src g y z m cells) (aq:jM P t e z b=true) (nh:n+m<=4611686018427387904) (av:(n+m) * b<=140737488355328) :
   AB P g (.call { callee:=.builtin .append,args:=#[s,x],argTypes:=#[t,t] }) ty (.bB z p n m cells)
 | nil {s x:Operand}{t e ty:TypeId}{z b m:Nat}{y:ab}{cells:List ab}(ay:bo g s=some .aQ)
   (j:bo g x=some y) (rS:Src g y z m cells) (aq:jM P t e z b=true) (nh:m<=4611686018427387904) (av:m * b<=140737488355328) :
   AB P g (.call { callee:=.builtin .append,args:=#[s,x],argTypes:=#[t,t] }) ty (.own z m cells)
inductive b7 (P:Program) (g:aK):Op->TypeId->ab->Prop
 | eD {op:Op}{ty:TypeId}{x:ab}(h:cU P g op ty x):b7 P g op ty x
 | qj {op:Op}{ty:TypeId}{x:ab}(h:pa P g op ty x):b7 P g op ty x
 | Cx {op:Op}{ty:TypeId}{x:ab}(h:u0 P g op ty x):b7 P g op ty x
 | lE {op:Op}{ty:TypeId}{x:ab}(h:AB P g op ty x):b7 P g op ty x
section
variable {P:Program}{w:World}{I:a8}{T:Array Value}{g:aK}{Fs:Nat->a8}
theorem Cells.frame {w':World}{cells:List ab}{news:List Value}(aa:Cells w I (dR w T g) cells news) (bb:∀ c,I c->w'.heap[c]?=w.heap[c]?) (ah:∀ r v,dR w T g r v->dR w' T g r v):Cells w' I (dR w' T g) cells news :=
 ⟨aa.1,aa.2.1,λk x u j hu=>(aa.2.2 k x u j hu).frame bb (λ_ h=>h) ah λ_ h=>h.elim⟩
theorem AB.sound (h:cF w I T g Fs) {a:Act}(aR:a.tmps=T) {o:Oper}{kz:ab}(au:AB P g o.op o.type kz) :
  ∃ v w',(execOp a.eval o).run P w=.ok (.value v) w'/\uY w I T g Fs kz v w':=by
 obtain ⟨dst,op,ty,pos,after,guard⟩:=o;simp only at au;cases au with
 | @grow s x t e _ z b n m p y cells ay cX e6 j rS aq nh av =>
  obtain ⟨i,df,hu,hi,rfl,rfl,aO,aW,oO⟩:=LG aq;obtain ⟨⟨wE,N,wH,h1,af,aJ⟩,bx⟩:=(la h ay aR).mO;obtain ⟨C_,Ko,news,vv,aj,BP,IN,gR⟩:=rS.sound h (la h j aR)
  -- the row of the base
  have lT:N=n/\∃ b_ us,w.ownsRow 0 b_ i.size (.slice wE n wH) n us:=by
   rcases cX with ⟨cs,au⟩ | ⟨fB,q,gU,m0,new,cs,au,rfl,_⟩
   ·obtain ⟨ef,cn,iY,dB,_⟩:=h.part au (by simp);rw [h1] at iY;cases iY;obtain ⟨bZ,mF,kb,_⟩:=dB.mR;cases kb;cases dB with
    | own aU=>exact ⟨rfl,_,_,aU⟩
    | ref j=>simp [ab.isRef] at j
   ·obtain ⟨v0,jo,BV,fP⟩:=h.Kv au;have a7:(⟨p.root,[]⟩:Place)=p:=by cases p; simp_all
    rw [a7,h1] at BV;cases BV;obtain ⟨bv,cr,b9,us,ado,fP⟩:=fP.vG;have a_:N=gU+m0:=by
     obtain ⟨_,bG⟩:=fP.np;rcases bG with ⟨bG,aA⟩ | ⟨g,cap,cur,bG,_⟩
     ·cases bG; omega
     ·cases bG; rfl
    subst a_;exact ⟨rfl,_,_,fP.np⟩
  obtain ⟨rfl,b_,us,iX⟩:=lT;have kp:dR w T g (.bB i.size p N 0 []) (.slice wE N wH):=⟨⟨wE,wH,h1,rfl⟩,cX⟩;obtain ⟨ef,w',b9,h_,A⟩:=PG (P:=P) (w:=w) t ty e b_ i df hu hi aW oO aO iX (a:=C_) (c:=Ko) (m:=m) (news:=news) (λhm=>BP hm aO) aj IN (λu hu=>by
   obtain ⟨k,hk,rfl⟩:=List.mem_iff_getElem.1 hu;exact gR.2.1 k _ (List.getElem?_eq_getElem hk)) (by unfold maxLen; omega) av
  obtain ⟨bn,hrefs⟩:=h.app kp e6 A;refine ⟨ef,w',by simp [execOp,resolve,invoke,builtin,af,vv,h_],(λc=>ef.ownBlock=some c/\(Value.slice wE N wH).ownBlock≠some c),I,bn,?_,?_,?_,λ_ h=>h,λ_ h=>.inl h,?_,?_⟩
  ·have bb:∀ c,I c->w'.heap[c]?=w.heap[c]?:=by
    intro c aa;refine A.dF.block c (h.lt c aa) λav=>?_;obtain ⟨t,aq⟩:=h.DU kp c av;exact h.bm t c aq aa
   have k3:=gR.frame bb hrefs;exact .bB ⟨hrefs _ _ kp,A.jH,A.new,k3.1,k3.2.1,k3.2.2,λc=>Iff.rfl⟩
  ·rintro t c ⟨lR,w6⟩ aS;rcases A.yV c lR with h | aI
   ·exact w6 h
   ·have:=h.jT t c aS; omega
  ·rintro c ⟨lR,w6⟩;rcases A.yV c lR with aI | aI
   ·exact absurd aI w6
   ·exact ⟨aI,λhi=>by have:=h.lt c hi; omega⟩
  ·exact A.dF.mono λc _ aa=>h.DU kp c aa
  ·intro bs Pb ch bh cQ he;cases he;exact e6
 | @nil s x t e _ z b m y cells ay j rS aq nh av =>
  obtain ⟨i,df,hu,hi,rfl,rfl,aO,aW,oO⟩:=LG aq;have af:=(la h ay aR).r5;obtain ⟨C_,Ko,news,vv,aj,BP,IN,gR⟩:=rS.sound h (la h j aR);obtain ⟨ef,w',b9,h_,A⟩:=PG (P:=P) (w:=w) t ty e e i df hu hi aW oO aO (World.ownsRow_nil w 0 e i.size) (a:=C_) (c:=Ko) (m:=m) (news:=news) (λhm=>BP hm aO) aj IN (λu hu=>by
   obtain ⟨k,hk,rfl⟩:=List.mem_iff_getElem.1 hu;exact gR.2.1 k _ (List.getElem?_eq_getElem hk)) (by unfold maxLen; omega) (by simpa using av)
  have same:∀ c,c<w.heap.size->w'.heap[c]?=w.heap[c]?:=λc aa=>A.dF.block c aa (by simp [Value.ownBlock]);have rP:=A.new;simp only [Nat.zero_add,List.nil_append] at rP;have k3:=gR.frame (λc aa=>same c (h.lt c aa)) λr v ah=>h.FG (λ_ _=>rfl) (λt c aa=>same c (h.jT t c aa)) (λ_ _ h=>h) ah;have hblk:∀ c,ef.ownBlock=some c->w.heap.size<=c:=λc aa=>(A.yV c aa).elim (λh=>by simp [Value.ownBlock] at h) id;refine ⟨ef,w',by simp [execOp,resolve,invoke,builtin,af,vv,h_],(λc=>ef.ownBlock=some c),I,h.world (λt c aa=>same c (h.jT t c aa)) (λc aa=>same c (h.lt c aa)) A.dF.size,?_,?_,λc aa=>⟨hblk c aa,λhi=>by have:=h.lt c hi; have:=hblk c aa; omega⟩,λ_ h=>h,λ_ h=>.inl h,?_,?_⟩
  ·exact .tree (.own (Fs:=λ_=>ct) rP k3.1 k3.2.1 k3.2.2 (λ_ _ _ _ _ h=>h.elim) (λ_ _ _ h=>h.elim) λc=>⟨.inl,λh=>h.elim id λ⟨_,_,h⟩=>h.elim⟩)
  ·intro t c aa aS; have:=hblk c aa; have:=h.jT t c aS; omega
  ·exact A.dF.mono λc _ aa=>by simp [Value.ownBlock] at aa
  ·intro bs Pb ch bh cQ he; cases he
theorem b7.sound (h:cF w I T g Fs) {a:Act}(aR:a.tmps=T) {o:Oper}{kz:ab}(au:b7 P g o.op o.type kz) :
  ∃ v w',(execOp a.eval o).run P w=.ok (.value v) w'/\uY w I T g Fs kz v w':=by
 have Cr:∀ {v:Value}{F:a8},R w I (dR w T g) kz v F->∀ z p n m new,kz=.bB z p n m new->∀ t bs ch bh cQ,g t≠some (.bB bs p ch bh cQ):=by
  rintro v F aY z p n m new rfl;exact aY.k_.elim
 cases au with
 | eD au =>
  obtain ⟨v,ah,aY⟩:=au.sound h aR;exact ⟨v,w,ah,ct,I,h,.tree aY,λ_ _ h=>h.elim,λ_ h=>h.elim,λ_ h=>h,λ_ h=>.inl h,Fr.refl _ _,Cr aY⟩
 | Cx au =>
  obtain ⟨v,ah,aY⟩:=au.sound h aR;exact ⟨v,w,ah,ct,I,h,.tree aY,λ_ _ h=>h.elim,λ_ h=>h.elim,λ_ h=>h,λ_ h=>.inl h,Fr.refl _ _,Cr aY⟩
 | qj au =>
  obtain ⟨v,r_,ah,aY⟩:=au.sound h aR;refine ⟨v,_,ah,_,I,h.alloc r_,.tree aY,λt c aa aS=>?_,λc aa=>⟨by rw [aa]; exact Nat.le_refl _,λhi=>by have:=h.lt c hi; omega⟩,λ_ h=>h,λ_ h=>.inl h,Fr.alloc w r_ _ (by
   obtain ⟨o,h1,af⟩:=aY.Yv w.heap.size rfl;rw [ry] at h1;cases h1;exact af),?_⟩
  ·have:=h.jT t c aS; omega
  ·rintro z p n m new rfl; exact aY.k_.elim
 | lE au=>exact au.sound h aR
end
end Go.Own
namespace Go.Own
open Go
set_option linter.unusedSectionVars false
variable [cI]
inductive cE:ab->Prop
 | lit {v:Value}:cE (.lit v)
 | aQ:cE .aQ
 | dead:cE .dead
 | self {k:Nat × Nat}:cE (.self k)
 | bm {z n:Nat}{cs:List ab}(h:∀ x∈cs,cE x):cE (.bm z n cs)
 | own {z n:Nat}{cs:List ab}(h:∀ x∈cs,cE x):cE (.own z n cs)
 | obj {cs:List ab}(h:∀ x∈cs,cE x):cE (.obj cs)
 | agg {cs:List ab}(h:∀ x∈cs,cE x):cE (.agg cs)
 | bQ {cs:List ab}(h:∀ x∈cs,cE x):cE (.bQ cs)
 | cO {cs:List ab}(h:∀ x∈cs,cE x):cE (.cO cs)
 | dj {fn:Fn}{a b:List ab}(h1:∀ x∈a,cE x) (af:∀ x∈b,cE x):cE (.dj fn a b)
 | mp {p:Array MapEntry->Nat->Prop}:cE (.mp p)
 | eR {t:Nat}{us:List Value}:cE (.eR t us)
 | imp {p:Array MapEntry->Nat->Prop}:cE (.imp p)
inductive j0:ab->Prop
 | lit {v:Value}:j0 (.lit v)
 | aQ:j0 .aQ
 | dead:j0 .dead
 | self {k:Nat × Nat}:j0 (.self k)
 | own {z n:Nat}{cs:List ab}(h:∀ x∈cs,j0 x):j0 (.own z n cs)
 | obj {cs:List ab}(h:∀ x∈cs,j0 x):j0 (.obj cs)
 | agg {cs:List ab}(h:∀ x∈cs,j0 x):j0 (.agg cs)
 | bQ {cs:List ab}(h:∀ x∈cs,j0 x):j0 (.bQ cs)
 | mp {p:Array MapEntry->Nat->Prop}:j0 (.mp p)
 | eR {t:Nat}{us:List Value}:j0 (.eR t us)
theorem j0.bl {x:ab}(h:j0 x):cE x:=by
 induction h with
 | lit=>exact .lit
 | aQ=>exact .aQ
 | dead=>exact .dead
 | self=>exact .self
 | own _ aM=>exact .own aM
 | obj _ aM=>exact .obj aM
 | agg _ aM=>exact .agg aM
 | bQ _ aM=>exact .bQ aM
 | mp=>exact .mp
 | eR=>exact .eR
inductive Rows (g:aK):Place->Nat->Nat->List ab->Prop
 | own {p:Place}{z n:Nat}{cs:List ab}(au:bu g p=some (.own z n cs)):Rows g p z n cs
 | bB {t z n m:Nat}{q:Place}{new cs:List ab}(aq:g t=some (.bB z q n m new)) (a7:Rows g q z n cs):Rows g ⟨t,[]⟩ z (n+m) (cs++new)
theorem Rows.mono {g g':aK}(h:∀ {p:Place}{y:ab},bu g p=some y->bu g' p=some y) {p:Place}{z n:Nat}{cs:List ab}(ah:Rows g p z n cs) (af:∀ t x,g t=some x->g' t=some x):Rows g' p z n cs:=by
 induction ah with
 | own au=>exact .own (h au)
 | bB aq _ aM=>exact .bB (af _ _ aq) aM
inductive View (g:aK):ab->ab->Prop
 | self {x:ab}(h:cE x) (j:∀ z n cs,x≠.own z n cs) (aU:∀ cs,x≠.obj cs) (aR:∀ cs,x≠.agg cs) (aq:∀ cs,x≠.bQ cs) (hm:(∀ p,x≠.mp p)/\∀ t us,x≠.eR t us):View g x x
 | mp {p:Array MapEntry->Nat->Prop}:View g (.mp p) (.imp p)
 | hr {p:Place}{q:Array MapEntry->Nat->Prop}(au:bu g p=some (.mp q)):View g (.hr p) (.imp q)
 | qh {z:Nat}:View g .aQ (.bm z 0 [])
 | agg {cs cs':List ab}(aj:cs'.length=cs.length) (h:∀ (k:Nat) (x y:ab),cs[k]?=some x->cs'[k]?=some y->View g x y):View g (.agg cs) (.agg cs')
 | own {z n:Nat}{cs cs':List ab}(aj:cs'.length=cs.length) (h:∀ (k:Nat) (x y:ab),cs[k]?=some x->cs'[k]?=some y->View g x y):View g (.own z n cs) (.bm z n cs')
 | obj {cs cs':List ab}(aj:cs'.length=cs.length) (h:∀ (k:Nat) (x y:ab),cs[k]?=some x->cs'[k]?=some y->View g x y):View g (.obj cs) (.cO cs')
 | bg {z n N:Nat}{p:Place}{cs cs':List ab}(au:bu g p=some (.own z N cs)) (aA:n<=N) (aj:cs'.length=(cs.take (n * z)).length) (h:∀ (k:Nat) (x y:ab),(cs.take (n * z))[k]?=some x->cs'[k]?=some y->View g x y):View g (.bg z p n) (.bm z n cs')
 | sub {z lo n N:Nat}{p:Place}{cs cs':List ab}(au:bu g p=some (.own z N cs)) (aA:lo+n<=N) (aj:cs'.length=((cs.drop (lo * z)).take (n * z)).length) (h:∀ (k:Nat) (x y:ab),((cs.drop (lo * z)).take (n * z))[k]?=some x->cs'[k]?=some y->View g x y):View g (.sub z p lo n) (.bm z n cs')
 | ptr {p:Place}{k z n:Nat}{y:ab}{cs cs':List ab}(au:bu g p=some y) (al:y=.own z n cs\/y=.obj cs) (hk:k<cs.length) (aj:cs'.length=(cs.drop k).length) (h:∀ (J:Nat) (x y:ab),(cs.drop k)[J]?=some x->cs'[J]?=some y->View g x y):View g (.ptr p k) (.cO cs')
 | dj {fn:Fn}{cs cs':List ab}(aj:cs'.length=cs.length) (h:∀ (k:Nat) (x y:ab),cs[k]?=some x->cs'[k]?=some y->View g x y):View g (.dj fn [] cs) (.dj fn [] cs')
 | rows {z n:Nat}{p:Place}{cs cs':List ab}(au:Rows g p z n cs) (aj:cs'.length=cs.length) (h:∀ (k:Nat) (x y:ab),cs[k]?=some x->cs'[k]?=some y->View g x y):View g (.bg z p n) (.bm z n cs')
section
variable {P:Program}{w:World}{I:a8}{T:Array Value}{g:aK}{Fs:Nat->a8}
theorem R.bl {ρ ρ':ab->Value->Prop}{x:ab}{v:Value}{F:a8}(h:R w I ρ x v F):cE x->R w I ρ' x v F:=by
 induction h with
 | lit h aH=>exact λ_=>.lit h aH
 | aQ aH=>exact λ_=>.aQ aH
 | dead aH=>exact λ_=>.dead aH
 | l3 aH=>exact λ_=>.l3 aH
 | @ref x _ _ j h aH=>intro aA; cases aA <;> simp [ab.isRef] at j
 | hz aH=>exact λ_=>.hz aH
 | bm aH k2 bb ay aj h1 aa ah aM=>exact λaA=>.bm aH k2 bb ay aj h1 aa λk x j=>aM k x j (by cases aA with | bm h=>exact h x (List.mem_of_getElem? j))
 | cO aH bb ay h1 aa ah aM=>exact λaA=>.cO aH bb ay h1 aa λk x j=>aM k x j (by cases aA with | cO h=>exact h x (List.mem_of_getElem? j))
 | own aU aj h1 ah aP av aH aM=>exact λaA=>.own aU aj h1 (λk x u j hu=>aM k x u j hu (by cases aA with | own h=>exact h x (List.mem_of_getElem? j))) aP av aH
 | obj aU aj h1 ah aP av aH ay aM=>exact λaA=>.obj aU aj h1 (λk x u j hu=>aM k x u j hu (by cases aA with | obj h=>exact h x (List.mem_of_getElem? j))) aP av aH ay
 | agg aj h1 ah aP aH aM=>exact λaA=>.agg aj h1 (λk x u j hu=>aM k x u j hu (by cases aA with | agg h=>exact h x (List.mem_of_getElem? j))) aP aH
 | bQ aj ah aP aH aM=>exact λaA=>.bQ aj (λk x u j hu=>aM k x u j hu (by cases aA with | bQ h=>exact h x (List.mem_of_getElem? j))) aP aH
 | mp aU au aH=>exact λ_=>.mp aU au aH
 | eR aU h1 aH=>exact λ_=>.eR aU h1 aH
 | imp aH bb aU au=>exact λ_=>.imp aH bb aU au
 | dj aH h1 af h9 hN fZ fQ=>exact λaA=>.dj aH h1 af (λk x u j hu=>fZ k x u j hu (by cases aA with | dj h _=>exact h x (List.mem_of_getElem? j))) (λk x u j hu=>fQ k x u j hu (by cases aA with | dj _ h=>exact h x (List.mem_of_getElem? j)))
theorem R.nD {ρ:ab->Value->Prop}{I':a8}{x:ab}{v:Value}{F:a8}(h:R w I ρ x v F) (bb:∀ c,I c->I' c):R w I' ρ x v F :=
 h.frame (λ_ _=>rfl) bb (λ_ _ h=>h) λ_ _=>rfl
theorem R.k' {ρ ρ':ab->Value->Prop}{I':a8}{x:ab}{v:Value}{F:a8}(h:R w I ρ x v F):j0 x->R w I' ρ' x v F:=by
 induction h with
 | lit h aH=>exact λ_=>.lit h aH
 | aQ aH=>exact λ_=>.aQ aH
 | dead aH=>exact λ_=>.dead aH
 | l3 aH=>exact λ_=>.l3 aH
 | @ref x _ _ j h aH=>intro aA; cases aA <;> simp [ab.isRef] at j
 | hz=>intro aA; cases aA
 | bm=>intro aA; cases aA
 | cO=>intro aA; cases aA
 | own aU aj h1 ah aP av aH aM=>exact λaA=>.own aU aj h1 (λk x u j hu=>aM k x u j hu (by cases aA with | own h=>exact h x (List.mem_of_getElem? j))) aP av aH
 | obj aU aj h1 ah aP av aH ay aM=>exact λaA=>.obj aU aj h1 (λk x u j hu=>aM k x u j hu (by cases aA with | obj h=>exact h x (List.mem_of_getElem? j))) aP av aH ay
 | agg aj h1 ah aP aH aM=>exact λaA=>.agg aj h1 (λk x u j hu=>aM k x u j hu (by cases aA with | agg h=>exact h x (List.mem_of_getElem? j))) aP aH
 | bQ aj ah aP aH aM=>exact λaA=>.bQ aj (λk x u j hu=>aM k x u j hu (by cases aA with | bQ h=>exact h x (List.mem_of_getElem? j))) aP aH
 | dj=>intro aA; cases aA
 | mp aU au aH=>exact λ_=>.mp aU au aH
 | eR aU h1 aH=>exact λ_=>.eR aU h1 aH
 | imp=>intro aA; cases aA
theorem R.zI {ρ:ab->Value->Prop}{z n:Nat}{cs:List ab}{v:Value}{F:a8}(h:R w I ρ (.own z n cs) v F):∃ (a:Option Addr) (cap:Nat) (us:Nat->Value) (bW:Nat->a8),v=.slice a n cap/\n<=cap/\cs.length=n * z /\
  (∀ ad,a=some ad->∃ b,ad=⟨b,0,none⟩/\F b)/\(∀ (k:Nat) (x:ab),cs[k]?=some x->∃ b,a=some ⟨b,0,none⟩/\w.cell? ⟨b,k,none⟩=some (us k)/\(us k).oneCell'=true/\R w I ρ x (us k) (bW k)/\∀ c,bW k c->F c):=by
 have aO:=h;cases h with
 | ref j=>simp [ab.isRef] at j
 | @own _ _ _ _ e us Fs _ aU aj h1 ah aP av aH =>
  obtain ⟨a,cap,rfl,aA,hlen,qS,um⟩:=aO.mR;refine ⟨a,cap,λk=>us.getD k undef,Fs,rfl,aA,hlen,λad ft=>?_,λk x hk=>?_⟩
  ·obtain ⟨qR,zl⟩:=qS ad ft;obtain ⟨b,o,sp⟩:=ad;simp only at qR zl;subst qR zl;exact ⟨b,rfl,(aH b).2 (.inl (by rw [ft]; rfl))⟩
  ·have aT:k<cs.length:=(List.getElem?_eq_some_iff.1 hk).1;have hu:us[k]?=some us[k]:=List.getElem?_eq_getElem (aj ▸ aT);obtain ⟨b,u,ft,mh,nk,gv,_⟩:=aO.node (.inl rfl) hk;have:a=some ⟨b,0,none⟩:=by
    cases a with
    | none=>simp [addrOf] at ft
    | some ad=>simp only [addrOf] at ft; rw [Option.some.inj ft]
   grind [oU]
theorem R.Fl {ρ:ab->Value->Prop}{y:ab}{v:Value}{F:a8}{z n:Nat}{cs:List ab}(h:R w I ρ y v F) (al:y=.own z n cs\/y=.obj cs) {ad:Addr}(aR:addrOf v=some ad):F ad.block:=by
 rcases al with rfl | rfl
 ·obtain ⟨a,cap,rfl,_⟩:=h.mR;refine h.qi _ ?_;cases a with
  | none=>simp [addrOf] at aR
  | some a=>simp only [addrOf,Option.some.injEq] at aR; subst aR; rfl
 ·cases h with
  | ref j=>simp [ab.isRef] at j
  | obj aU aj h1 ah aP av aH=>simp only [addrOf,Option.some.injEq] at aR; subst aR; exact (aH _).2 (.inl rfl)
theorem Ya {w:World}{e b_:TypeId}{z n:Nat}{v:Value}{us iL:List Value}(h:w.ownsRow 0 e z v n us) (aI:w.ownsRow 0 b_ z v n iL):us=iL:=by
 obtain ⟨h1,af⟩:=h;obtain ⟨aJ,bx⟩:=aI;rcases af with ⟨rfl,rfl⟩ | ⟨b,cap,cur,rfl,_,bG,_,_,_,aq⟩
 ·grind
 grind
theorem Rows.sound {ρ:ab->Value->Prop}(H1:∀ t z q n m new,g t=some (.bB z q n m new)->∃ v,T[t]?=some v/\jx w I ρ (.bB z q n m new) v (Fs t))
  (Ra:∀ p z n cs,bu g p=some (.own z n cs)->∃ v cn,dU w T p=some v/\R w I ρ (.own z n cs) v cn/\∀ c,cn c->Fs p.root c) (Ax:∀ z p n v,ρ (.bB z p n 0 []) v->dU w T p=some v) {p:Place}{z n:Nat}{cs:List ab}(h:Rows g p z n cs) :
  ∃ v e us,dU w T p=some v/\w.ownsRow 0 e z v n us/\us.length=cs.length/\(∀ (k:Nat) (u:Value),us[k]?=some u->u.oneCell'=true)/\(∀ c,v.ownBlock=some c->∃ t,Fs t c) /\
   (∀ (k:Nat) (x:ab) (u:Value),cs[k]?=some x->us[k]?=some u->∃ bW,R w I ρ x u bW/\∀ c,bW c->∃ t,Fs t c):=by
 induction h with
 | @own p z n cs au =>
  obtain ⟨v,cn,hv,aY,aH⟩:=Ra p z n cs au;cases aY with
  | ref j=>simp [ab.isRef] at j
  | @own _ _ _ _ e us bW _ aU aj h1 ah aP av lP =>
   grind
 | @bB t z n m q new cs aq _ aM =>
  obtain ⟨v,hv,aY⟩:=H1 t z q n m new aq;obtain ⟨v0,e,us,jo,aU,aj,h1,av,ah⟩:=aM;cases aY with
  | tree aY=>exact aY.k_.elim
  | @bB _ _ _ _ _ _ bv cr b9 Z4 news _ aY =>
   have hC:=Ax _ _ _ _ aY.kp;rw [jo] at hC;cases hC;have:=Ya aU aY.iX;subst this;refine ⟨v,b9,us++news,by simp [dU,hv,walk],aY.np,by rw [List.length_append,List.length_append,aj,aY.aj],λk u hu=>?_,λc aa=>?_,λk x u j hu=>?_⟩
   ·by_cases hk:k<us.length
    ·grind
    ·rw [List.getElem?_append_right (by omega)] at hu; exact aY.h1 _ u hu
   ·by_cases p6:v0.ownBlock=some c
    ·grind
    ·exact ⟨t,(aY.aH c).2 ⟨aa,p6⟩⟩
   ·by_cases hk:k<us.length
    ·grind
    ·rw [List.getElem?_append_right (by omega)] at j;rw [List.getElem?_append_right (by omega),aj] at hu;exact ⟨_,aY.ah _ x u j hu,λc aa=>aa.elim⟩
theorem Py {ρ':ab->Value->Prop}{e:TypeId}{z n N cap:Nat}{a:Option Addr}{us:List Value}{cs cs':List ab}(aU:w.ownsRow 0 e z (.slice a N cap) n us) (hlen:us.length=cs.length) (h1:∀ (k:Nat) (u:Value),us[k]?=some u->u.oneCell'=true) (av:∀ c,(Value.slice a N cap).ownBlock=some c->∃ t,Fs t c) (aj:cs'.length=cs.length)
  (ah:∀ (k:Nat) (x y:ab) (u:Value),cs[k]?=some x->cs'[k]?=some y->us[k]?=some u->R w (λc=>I c\/∃ t,Fs t c) ρ' y u ct):R w (λc=>I c\/∃ t,Fs t c) ρ' (.bm z n cs') (.slice a n cap) ct:=by
 obtain ⟨NL,aU⟩:=aU;rcases aU with ⟨hC,aO⟩ | ⟨b,rE,cur,cr,_,bG,EC,aa,ay,aq⟩
 ·cases hC;subst aO;have k3:cs'=[]:=List.eq_nil_of_length_eq_zero (by rw [aj,<- hlen,NL]; simp);subst k3;exact .hz λ_ h=>h
 ·cases cr;refine .bm (us:=λk=>us.getD k undef) (λ_ h=>h) EC (.inr (av b rfl)) rfl (by rw [aj,<- hlen,NL]) (λk y al=>?_) (λk y al=>?_) λk y al=>?_
  all_goals
   have hk:k<us.length:=by rw [hlen,<- aj]; exact (List.getElem?_eq_some_iff.1 al).1
   have hu:us[k]?=some us[k]:=List.getElem?_eq_getElem hk;have aN:us.getD k undef=us[k]:=by simp [List.getD,hu]
  ·grind
  ·rw [aN];have zs:∀ u,us[k]?=some u->w.cell? ⟨b,k,none⟩=some u:=λu zs=>by
    rw [<- aq,List.getElem?_take] at zs
    split at zs
    ·simpa [World.cell?,bG] using zs
    grind
   grind
  grind
theorem View.sound (h:cF w I T g Fs) {x x':ab}(hv:View g x x'):∀ {v:Value}{F:a8},R w I (dR w T g) x v F->(∀ c,F c->∃ t,Fs t c)->∀ ρ',R w (λc=>I c\/∃ t,Fs t c) ρ' x' v ct:=by
 induction hv with
 | qh =>
  intro v F aY aH ρ';have:=aY.r5;subst this;exact .hz λ_ h=>h
 | mp =>
  intro v F aY aH ρ';cases aY with
  | ref j=>simp [ab.isRef] at j
  | mp aU au av=>exact .imp (λ_ h=>h) (.inr (aH _ ((av _).2 rfl))) aU au
 | hr au =>
  intro v F aY aH ρ';cases aY with
  | ref _ ah _ =>
   obtain ⟨⟨b,av,rfl⟩,_⟩:=ah;obtain ⟨ef,cn,iY,dB,di⟩:=h.part au (by simp);rw [av] at iY;cases iY;cases dB with
   | ref j=>simp [ab.isRef] at j
   | mp aU au av=>exact .imp (λ_ h=>h) (.inr ⟨_,di _ ((av _).2 rfl)⟩) aU au
 | self aA h1 af aJ bx cu =>
  intro v F aY aH ρ';refine ((aY.bl aA).nD λc aa=>.inl aa).empty ?_;cases aY with
  | mp=>exact absurd rfl (cu.1 _)
  | eR=>exact absurd rfl (cu.2 _ _)
  | lit _ aH | aQ aH | dead aH | l3 aH | ref _ _ aH | hz aH | bm aH | cO aH | dj aH | imp aH=>exact aH
  | own=>exact absurd rfl (h1 _ _ _)
  | obj=>exact absurd rfl (af _)
  | agg=>exact absurd rfl (aJ _)
  | bQ=>exact absurd rfl (bx _)
 | @agg cs cs' aj _ aM =>
  intro v F aY aH ρ';cases aY with
  | ref j=>simp [ab.isRef] at j
  | @agg _ vs bW _ hM h1 ah aP lP =>
   refine .agg (Fs:=λ_=>ct) (by rw [aj,hM]) h1 (λk y u al hu=>?_) (λ_ _ _ _ _ h=>h.elim) (λc=>⟨λh=>h.elim,λ⟨_,_,h⟩=>h⟩);have hk:k<cs.length:=by rw [<- aj]; exact (List.getElem?_eq_some_iff.1 al).1
   have j:=List.getElem?_eq_getElem hk;exact aM k _ y j al (ah k _ u j hu) (λc aa=>aH c ((lP c).2 ⟨k,hk,aa⟩)) ρ'
 | @dj fn cs cs' aj _ aM =>
  intro v F aY aH ρ';cases aY with
  | ref j=>simp [ab.isRef] at j
  | @dj _ _ _ v1 v2 _ tO h1 af h9 hN =>
   refine .dj (λ_ h=>h) h1 (by rw [aj,af]) (λk x u j=>by simp at j) (λk y u al hu=>?_);have hk:k<cs.length:=by rw [<- aj]; exact (List.getElem?_eq_some_iff.1 al).1
   have j:=List.getElem?_eq_getElem hk;exact aM k _ y j al (hN k _ u j hu) (λc aa=>aa.elim) ρ'
 | @own z n cs cs' aj _ aM =>
  intro v F aY aH ρ';obtain ⟨a,cap,us,bW,rfl,aA,hlen,aR,aa⟩:=aY.zI;cases a with
  | none =>
   have gR:cs=[]:=by
    cases cs with
    | nil=>rfl
    | cons c cs=>obtain ⟨b,av,_⟩:=aa 0 c rfl; cases av
   subst gR;have k3:cs'=[]:=List.eq_nil_of_length_eq_zero (by simpa using aj);subst k3;have k6:n=0:=by
    cases aY with
    | ref j=>simp [ab.isRef] at j
    | own aU =>
     obtain ⟨_,bG⟩:=aU;rcases bG with ⟨bG,aO⟩ | ⟨b,c2,cur,bG,_⟩
     ·exact aO
     ·cases bG
   subst k6;exact .hz λ_ h=>h
  | some ad =>
   obtain ⟨b,rfl,lQ⟩:=aR ad rfl;refine .bm (us:=us) (λ_ h=>h) aA (.inr (aH b lQ)) rfl (by rw [aj,hlen]) (λk y al=>?_) (λk y al=>?_) λk y al=>?_
   all_goals
    have hk:k<cs.length:=by rw [<- aj]; exact (List.getElem?_eq_some_iff.1 al).1
    have j:=List.getElem?_eq_getElem hk;obtain ⟨dX,hD,h1,af,aJ,bx⟩:=aa k _ j;cases hD
   ·exact af
   ·simpa using h1
   ·exact aM k _ y j al aJ (λc aa=>aH c (bx c aa)) ρ'
 | @obj cs cs' aj _ aM =>
  intro v F aY aH ρ';cases aY with
  | ref j=>simp [ab.isRef] at j
  | @obj _ b e arr bW _ aU hM h1 ah aP av lP =>
   refine .cO (us:=λk=>arr.getD k undef) (λ_ h=>h) (.inr (aH b ((lP b).2 (.inl rfl)))) rfl (λk y al=>?_) (λk y al=>?_) λk y al=>?_
   all_goals
    have hk:k<cs.length:=by rw [<- aj]; exact (List.getElem?_eq_some_iff.1 al).1
    have j:=List.getElem?_eq_getElem hk;have hu:arr[k]?=some arr[k]:=Array.getElem?_eq_getElem (hM ▸ hk)
   ·simpa [hu] using h1 k _ hu
   ·simp [World.cell?,aU,hu]
   ·simpa [hu] using aM k _ y j al (ah k _ _ j hu) (λc aa=>aH c ((lP c).2 (.inr ⟨k,hk,aa⟩))) ρ'
 | @bg z n N p cs cs' au aA aj _ aM =>
  intro v F aY aH ρ';obtain ⟨⟨a,iR,cap,h1,rfl,aJ⟩,_⟩:=aY.mO;obtain ⟨qw,qC,gC,hy,me⟩:=h.part au (by simp);rw [h1] at gC;cases gC;obtain ⟨a2,rE,us,bW,kb,k2,hlen,aR,aa⟩:=hy.zI;cases kb;have hle:n * z<=N * z:=Nat.mul_le_mul_right _ aA;have cell:∀ k,k<cs'.length->∃ x b,(cs.take (n * z))[k]?=some x/\a=some ⟨b,0,none⟩/\w.cell? ⟨b,k,none⟩=some (us k)/\(us k).oneCell'=true/\R w I (dR w T g) x (us k) (bW k)/\∀ c,bW k c->qC c:=by
   intro k hk;rw [aj,List.length_take] at hk;have j:cs[k]?=some cs[k]:=List.getElem?_eq_getElem (by omega);obtain ⟨b,r⟩:=aa k _ j;exact ⟨_,b,by rw [List.getElem?_take,if_pos (by omega)]; exact j,r⟩
  cases a with
  | none =>
   have k3:cs'=[]:=by
    cases cs' with
    | nil=>rfl
    | cons c l=>obtain ⟨_,b,_,av,_⟩:=cell 0 (by simp); cases av
   subst k3;obtain ⟨_,_,kb,_,_,_,um⟩:=hy.mR;cases kb;have k6:n=0:=by
    rcases Nat.eq_zero_or_pos n with aO | aO
    ·exact aO
    ·have:=um (by omega); simp at this
   subst k6;exact .hz λ_ h=>h
  | some ad =>
   obtain ⟨b,rfl,lQ⟩:=aR ad rfl;refine .bm (us:=us) (λ_ h=>h) (by omega) (.inr ⟨_,me b lQ⟩) rfl (by rw [aj,List.length_take,hlen]; omega) (λk y al=>?_) (λk y al=>?_) λk y al=>?_
   all_goals
    obtain ⟨x,dX,j,hD,bx,cu,dL,k1⟩:=cell k (List.getElem?_eq_some_iff.1 al).1;cases hD
   ·exact cu
   ·simpa using bx
   ·exact aM k x y j al dL (λc aa=>⟨_,me c (k1 c aa)⟩) ρ'
 | @sub z lo n N p cs cs' au aA aj _ aM =>
  intro v F aY aH ρ';obtain ⟨⟨a,iR,cap,bZ,mF,h1,rfl,IH,aJ,cu⟩,_⟩:=aY.xp;obtain ⟨qw,qC,gC,hy,me⟩:=h.part au (by simp);rw [h1] at gC;cases gC;obtain ⟨a2,rE,us,bW,kb,k2,hlen,aR,aa⟩:=hy.zI;cases kb;have hle:lo * z+n * z<=N * z:=by rw [<- Nat.add_mul]; exact Nat.mul_le_mul_right _ aA
  have hM:cs'.length=n * z:=by rw [aj,List.length_take,List.length_drop,hlen]; omega
  have cell:∀ k,k<cs'.length->∃ x b,((cs.drop (lo * z)).take (n * z))[k]?=some x/\a=some ⟨b,0,none⟩/\w.cell? ⟨b,lo * z+k,none⟩=some (us (lo * z+k))/\(us (lo * z+k)).oneCell'=true/\R w I (dR w T g) x (us (lo * z+k)) (bW (lo * z+k))/\∀ c,bW (lo * z+k) c->qC c:=by
   intro k hk;have j:cs[lo * z+k]?=some cs[lo * z+k]:=List.getElem?_eq_getElem (by omega);obtain ⟨b,r⟩:=aa _ _ j;exact ⟨_,b,by rw [List.getElem?_take,if_pos (by omega),List.getElem?_drop]; exact j,r⟩
  by_cases k6:n=0
  ·subst k6;have k3:cs'=[]:=List.eq_nil_of_length_eq_zero (by simpa using hM);subst k3;exact .hz λ_ h=>h
  ·obtain ⟨ad,rfl,rfl⟩:=cu (by omega);obtain ⟨b,rfl,lQ⟩:=aR ad rfl;refine .bm (us:=λk=>us (lo * z+k)) (λ_ h=>h) IH (.inr ⟨_,me b lQ⟩) rfl hM (λk y al=>?_) (λk y al=>?_) λk y al=>?_
   all_goals
    obtain ⟨x,dX,j,hD,bx,HG,dL,k1⟩:=cell k (List.getElem?_eq_some_iff.1 al).1;cases hD
   ·exact HG
   ·simpa using bx
   ·exact aM k x y j al dL (λc aa=>⟨_,me c (k1 c aa)⟩) ρ'
 | @ptr p k z n y cs cs' au al hk aj _ aM =>
  intro v F aY aH ρ';obtain ⟨⟨u,ad,h1,af,rfl⟩,_⟩:=aY.nx;obtain ⟨qw,qC,gC,hy,me⟩:=h.part au (by rcases al with rfl | rfl <;> simp);rw [h1] at gC;cases gC;have cell:∀ J,J<cs'.length->∃ gF kQ wx,w.cell? ⟨ad.block,k+J,none⟩=some gF/\gF.oneCell'=true/\(cs.drop k)[J]?=some kQ/\R w I (dR w T g) kQ gF wx/\(∀ c,wx c->∃ t,Fs t c):=by
   intro J ai;rw [aj,List.length_drop] at ai;have fL:cs[k+J]?=some cs[k+J]:=List.getElem?_eq_getElem (by omega);obtain ⟨b,gF,ft,mh,nk,gv,_⟩:=hy.node al fL;rw [af] at ft;cases ft;have fz:bu g (p.push (k+J))=some cs[k+J]:=by rw [tD,au]; rcases al with rfl | rfl <;> simp [ab.kids]
   by_cases gw:∃ bs gy ch bh cQ,cs[k+J]=.bB bs gy ch bh cQ
   ·obtain ⟨bs,gy,ch,bh,cQ,gw⟩:=gw;obtain ⟨b,Z6,_,_,Bx,_,bW,j'⟩:=hy.node al fL;rw [gw] at j';exact j'.k_.elim
   ·obtain ⟨pM,Gu,rV,HS,lP⟩:=h.part fz (λbs gy ch bh cQ e=>gw ⟨_,_,_,_,_,e⟩);rw [yi,h1] at rV;simp only [Option.bind_some] at rV;rw [nk] at rV;cases rV;exact ⟨gF,_,Gu,mh,gv,by rw [List.getElem?_drop]; exact fL,HS,λc aa=>⟨_,lP c aa⟩⟩
  obtain ⟨b,gF,ft,_⟩:=hy.node al (List.getElem?_eq_getElem hk);rw [af] at ft;cases ft;have hblk:∃ t,Fs t b:=⟨_,me b (hy.Fl al af)⟩;refine .cO (us:=λJ=>(w.cell? ⟨b,k+J,none⟩).getD undef) (λ_ h=>h) (.inr hblk) rfl (λJ iM sP=>?_) (λJ iM sP=>?_) λJ iM sP=>?_
  all_goals
   obtain ⟨gF,kQ,wx,c1,c2,j8,c4,nb⟩:=cell J (List.getElem?_eq_some_iff.1 sP).1
  ·simpa [c1] using c2
  ·simp [c1]
  ·simpa [c1] using aM J kQ iM j8 sP c4 nb ρ'
 | @rows z n p cs cs' au aj _ aM =>
  intro v F aY aH ρ';obtain ⟨a,iR,cap,h1,rfl,aJ⟩:=aY.mO.1;obtain ⟨v0,e,us,jo,aU,hlen,mH,av,ah⟩:=Rows.sound (w:=w) (I:=I) (T:=T) (Fs:=Fs) (λt z q n m new aq=>h.rel t _ aq) (λp z n cs au=>h.part au (by simp)) (λz p n v hv=>by obtain ⟨⟨a,cap,h1,rfl⟩,_⟩:=hv; exact h1) au;rw [h1] at jo;cases jo;refine Py aU hlen mH av aj λk x y u j al hu=>?_;obtain ⟨bW,j',eT⟩:=ah k x u j hu;exact aM k x y j al j' eT ρ'
end
end Go.Own
namespace Go.Own
open Go
set_option linter.unusedSectionVars false
variable [cI]
def pf (args:List ab):aK:=λt=>args[t]?
def lZ (outs:List (Option ab)) (res:ab):aK:=λt=>if t=outs.length then some res else (outs[t]?).join
structure kX (w:World) (I U:a8) (w':World) (I' U':a8):Prop where
 dF:Fr w w' U
 more:∀ c,I c->I' c
 new:∀ c,I' c->I c\/U c\/w.heap.size<=c
 own:∀ c,U' c->U c\/w.heap.size<=c
def b1 (P:Program) (f:FuncId) (args:List ab) (outs:List (Option ab)) (res:ab):Prop :=
 outs.length=args.length/\∀ (w:World) (I:a8) (vs:List Value) (Fs:Nat->a8),vs.length=args.length->cF w I vs.toArray (pf args) Fs ->
  Calls P f vs.toArray w λe w'=>∃ v I' b2,e=.returned v/\cF w' I' (vs++[v]).toArray (lZ outs res) b2/\kX w I (λc=>∃ t,Fs t c) w' I' (λc=>∃ t,b2 t c)
def jB (P:Program) (f:FuncId):Bool :=
 match P.funcs[f]? with
 | some fn => fn.name != "runtime.NumGoroutine" && fn.body.isSome
 | none=>false
inductive cV (P:Program) (g:aK):Op->ab->Prop
 | plain {c:Operand}{xs:Array Operand}{ga:Array TypeId}{f:FuncId}{first caps ys:List ab}{res:ab}(aa:bo g c=some (.dj (.func f) first caps)) (j:fC g xs.toList=some ys) (aS:jB P f=true)
   (aA:∀ y∈first++ys++caps,cE y) (hb:b1 P f (first++ys++caps) ((first++ys++caps).map λ_=>none) res) (ah:cE res):cV P g (.call { callee:=.value c,args:=xs,argTypes:=ga }) res
 | E9 {c:Operand}{xs:Array Operand}{ga:Array TypeId}{f:FuncId}{first caps ys args:List ab}{res:ab}(aa:bo g c=some (.dj (.func f) first caps)) (j:fC g xs.toList=some ys) (aS:jB P f=true)
   (aj:args.length=(first++ys++caps).length) (hv:∀ (k:Nat) (x y:ab),(first++ys++caps)[k]?=some x->args[k]?=some y->View g x y) (hb:b1 P f args (args.map λ_=>none) res) (ah:j0 res) :
   cV P g (.call { callee:=.value c,args:=xs,argTypes:=ga }) res
section
variable {P:Program}{w:World}{I:a8}{T:Array Value}{g:aK}{Fs:Nat->a8}
theorem Hb {f:FuncId}(h:jB P f=true) (args:Array Value):(callFunc f args).run P w=.ok (.enter f args) w:=by
 unfold jB at h;cases aS:P.funcs[f]? with
 | none=>simp [aS] at h
 | some fn =>
  simp [aS] at h;obtain ⟨h1,af⟩:=h;cases av:fn.body with
  | none=>simp [av] at af
  | some c=>simp [callFunc,aS,h1,av]
theorem Ha (h:cF w I T g Fs) {a:Act}(aR:a.tmps=T) {c:Operand}{xs:Array Operand}{f:FuncId}{first caps ys:List ab}(aa:bo g c=some (.dj (.func f) first caps)) (j:fC g xs.toList=some ys) :
  ∃ v1 v2:Array Value,a.eval c=.func (.func f) v1 v2/\(first++ys++caps).length=(v1++xs.map a.eval++v2).toList.length /\
   ∀ (k:Nat) (x:ab) (u:Value),(first++ys++caps)[k]?=some x->(v1++xs.map a.eval++v2).toList[k]?=some u->R w I (dR w T g) x u ct:=by
 have Nd:=la h aa aR;obtain ⟨aj,ah⟩:=zH h aR j;generalize vh:a.eval c=adB at Nd;cases Nd with
 | ref j=>simp [ab.isRef] at j
 | @dj _ _ _ v1 v2 _ _ h1 af h9 hN =>
  have hlen:xs.size=ys.length:=by rw [<- Array.length_toList,aj]
  refine ⟨v1,v2,rfl,by simp [h1,af,hlen],λk x u qc pw=>?_⟩;simp only [Array.toList_append,Array.toList_map] at pw;by_cases gg:k<first.length
  ·rw [List.append_assoc,List.getElem?_append_left gg] at qc;rw [List.append_assoc,List.getElem?_append_left (by simp; omega)] at pw;exact h9 k x u qc (by simpa using pw)
  ·rw [List.append_assoc,List.getElem?_append_right (by omega)] at qc;rw [List.append_assoc,List.getElem?_append_right (by simp; omega)] at pw;simp only [Array.length_toList,<- h1] at pw;by_cases fK:k - first.length<ys.length
   ·rw [List.getElem?_append_left fK] at qc;rw [List.getElem?_append_left (by simp; omega),List.getElem?_map] at pw;cases I9:xs.toList[k - first.length]? with
    | none=>rw [I9] at pw; cases pw
    | some o=>rw [I9] at pw; cases pw; exact ah _ x o qc I9
   ·rw [List.getElem?_append_right (by omega)] at qc;rw [List.getElem?_append_right (by simp; omega)] at pw;simp only [List.length_map,Array.length_toList] at pw;rw [hlen] at pw;exact hN _ x u qc (by simpa using pw)
theorem cF.args {I':a8}(h:cF w I T g Fs) (nU:∀ c,I c->I' c) (bb:∀ c,I' c->I c\/∃ t,Fs t c) {args:List ab}{vs:List Value}(aj:args.length=vs.length)
  (ah:∀ (ρ':ab->Value->Prop) (k:Nat) (x:ab) (u:Value),args[k]?=some x->vs[k]?=some u->R w I' ρ' x u ct):cF w I' vs.toArray (pf args) (λ_=>ct):=by
 refine ⟨λt x j=>?_,λ_ _ _ h=>h,λ_ _ _ h=>h.elim,λ_ _ h=>h.elim,λc aa=>?_,λt t' z p n m new bs ch bh cQ h1 af=>?_,cI.keep h.hV (λ_ _=>rfl) nU⟩
 ·have aq:t<args.length:=(List.getElem?_eq_some_iff.1 j).1;have hu:vs[t]?=some vs[t]:=List.getElem?_eq_getElem (aj ▸ aq);exact ⟨vs[t],by rw [List.getElem?_toArray]; exact hu,.tree (ah _ t x _ j hu)⟩
 ·rcases bb c aa with aI | ⟨t,aI⟩
  ·exact h.lt c aI
  ·exact h.jT t c aI
 ·have aq:t<args.length:=(List.getElem?_eq_some_iff.1 h1).1;exact (ah (λ_ _=>False) t _ _ h1 (List.getElem?_eq_getElem (aj ▸ aq))).k_.elim
theorem cV.sound (h:cF w I T g Fs) {a:Act}(aR:a.tmps=T) {o:Oper}{kz:ab}(au:cV P g o.op kz) {K:Act->World->Prop}{Q:Exit->Act->World->Prop}
  (c6:∀ v w',uY w I T g Fs kz v w'->K (a.put o.dst v) w'):o.wp P a w K Q:=by
 obtain ⟨dst,op,ty,pos,after,guard⟩:=o;simp only at au c6;have Cr:cE kz->∀ z p n m new,kz=.bB z p n m new->∀ t bs ch bh cQ,g t≠some (.bB bs p ch bh cQ):=by
  rintro aA z p n m new rfl;cases aA
 have last:∀ {args:List ab}{res:ab}{v:Value}{vs:List Value}{w':World}{I':a8}{b2:Nat->a8},vs.length=args.length->cF w' I' (vs++[v]).toArray (lZ (args.map λ_=>none) res) b2->jx w' I' (dR w' (vs++[v]).toArray (lZ (args.map λ_=>none) res)) res v (b2 args.length)/\∀ t,t≠args.length->∀ c,¬ b2 t c:=by
  intro args res v vs w' I' b2 aj bn;constructor
  ·obtain ⟨u,hu,aY⟩:=bn.rel args.length res (by simp [lZ]);have:u=v:=by
    rw [<- aj] at hu;simpa using hu.symm
   subst this; exact aY
  ·intro t aq c aa;refine bn.kM t ?_ c aa;have sK:t≠(args.map λ_=>(none:Option ab)).length:=by simpa using aq
   simp only [lZ,if_neg sK,List.getElem?_map];cases args[t]? <;> rfl
 cases au with
 | @plain c xs ga f first caps ys _ aa j aS aA hb ah =>
  obtain ⟨v1,v2,vh,aj,oA⟩:=Ha h aR aa j;have h_:(execOp a.eval { dst:=dst,op:=.call { callee:=.value c,args:=xs,argTypes:=ga },type:=ty,pos:=pos,after:=after,guard:=guard }).run P w=.ok (.enter f (v1++xs.map a.eval++v2)) w:=by
   simp [execOp,resolve,Deferred.ofValue,vh,invoke,Hb aS]
  have bn:=h.args (I':=I) (λ_ h=>h) (λc aa=>.inl aa) aj λρ' k x u j hu=>(oA k x u j hu).bl (aA x (List.mem_of_getElem? j));have vg:=hb.2 w I (v1++xs.map a.eval++v2).toList _ aj.symm bn;unfold Oper.wp Oper.upon;simp only [h_];rw [Array.toArray_toList] at vg;refine Calls.mono vg ?_;rintro e w' ⟨v,I',b2,rfl,dZ,bT⟩;obtain ⟨zp,e6⟩:=last aj.symm dZ;have k4:Fr w w' (λ_=>False):=bT.dF.mono λb _ ⟨_,av⟩=>av;refine c6 v w' ⟨b2 (first++ys++caps).length,I',?_,?_,?_,?_,bT.more,?_,k4.mono λ_ _ h=>h.elim,Cr ah⟩
  ·have:=h.world (w':=w') (λt c aa=>k4.block c (h.jT t c aa) (λh=>h)) (λc aa=>k4.block c (h.lt c aa) λh=>h) k4.size;refine ⟨λt x j=>?_,this.kM,this.eu,λt c aa hi=>?_,dZ.lt,this.q8,dZ.hV⟩
   ·obtain ⟨v,hv,aY⟩:=this.rel t x j;exact ⟨v,hv,aY.frame (λ_ _=>rfl) bT.more (λ_ _ h=>h) (λ_ _ _ _ _ _ _=>rfl) λ_ _=>rfl⟩
   ·rcases bT.new c hi with aI | ⟨_,aI⟩ | aI
    ·exact h.bm t c aa aI
    ·exact aI
    ·have:=h.jT t c aa; omega
  ·exact .tree ((zp.hd (by rintro z p n m new rfl; cases ah)).bl ah)
  ·intro t c aa qQ;rcases bT.own c ⟨_,aa⟩ with ⟨_,aI⟩ | aI
   ·exact aI
   ·have:=h.jT t c qQ; omega
  ·intro c aa;rcases bT.own c ⟨_,aa⟩ with ⟨_,aI⟩ | aI
   ·exact aI.elim
   ·exact ⟨aI,dZ.bm _ c aa⟩
  ·intro c aa;rcases bT.new c aa with aI | ⟨_,aI⟩ | aI
   ·exact .inl aI
   ·exact aI.elim
   ·exact .inr aI
 | @E9 c xs ga f first caps ys args _ aa j aS zj hv hb ah =>
  obtain ⟨v1,v2,vh,aj,oA⟩:=Ha h aR aa j;have h_:(execOp a.eval { dst:=dst,op:=.call { callee:=.value c,args:=xs,argTypes:=ga },type:=ty,pos:=pos,after:=after,guard:=guard }).run P w=.ok (.enter f (v1++xs.map a.eval++v2)) w:=by
   simp [execOp,resolve,Deferred.ofValue,vh,invoke,Hb aS]
  have hM:args.length=(v1++xs.map a.eval++v2).toList.length:=by rw [zj,aj]
  have bn:=h.args (I':=λc=>I c\/∃ t,Fs t c) (λ_ h=>.inl h) (λc aa=>aa) hM λρ' k x u j hu=>by
   have hk:k<(first++ys++caps).length:=by rw [<- zj]; exact (List.getElem?_eq_some_iff.1 j).1
   have jF:=List.getElem?_eq_getElem hk;exact (hv k _ x jF j).sound h (oA k _ u jF hu) (λ_ h=>h.elim) ρ'
  have vg:=hb.2 w _ (v1++xs.map a.eval++v2).toList _ hM.symm bn;unfold Oper.wp Oper.upon;simp only [h_];rw [Array.toArray_toList] at vg;refine Calls.mono vg ?_;rintro e w' ⟨v,I',b2,rfl,dZ,bT⟩;obtain ⟨zp,e6⟩:=last hM.symm dZ;have k4:Fr w w' (λ_=>False):=bT.dF.mono λb _ ⟨_,av⟩=>av;refine c6 v w' ⟨b2 args.length,I,?_,?_,?_,?_,λ_ h=>h,λ_ h=>.inl h,k4.mono λ_ _ h=>h.elim,Cr ah.bl⟩
  ·exact h.world (w':=w') (λt c aa=>k4.block c (h.jT t c aa) (λh=>h)) (λc aa=>k4.block c (h.lt c aa) λh=>h) k4.size
  ·exact .tree ((zp.hd (by rintro z p n m new rfl; cases ah)).k' ah)
  ·intro t c aa qQ;rcases bT.own c ⟨_,aa⟩ with ⟨_,aI⟩ | aI
   ·exact aI
   ·have:=h.jT t c qQ; omega
  ·intro c aa;rcases bT.own c ⟨_,aa⟩ with ⟨_,aI⟩ | aI
   ·exact aI.elim
   ·exact ⟨aI,λhi=>by have:=h.lt c hi; omega⟩
end
end Go.Own
namespace Go.Own
open Go
set_option linter.unusedSectionVars false
variable [cI]
structure jy (w:World) (I:a8) (T:Array Value) (g:aK) (Fs:Nat->a8):Prop where
 rel:∀ t x,g t=some x->∃ v,T[t]?=some v/\jx w I (fH w T) x v (Fs t)
 kM:∀ t,g t=none->∀ c,¬ Fs t c
 eu:∀ t t' c,Fs t c->Fs t' c->t=t'
 bm:∀ t c,Fs t c->¬ I c
 lt:∀ c,I c->c<w.heap.size
 hV:cI.q w I
def cj (g:aK) (p:Place) (y:ab):aK:=λt=>if t=p.root then (g t).map λx=>x.setAt p.path y else g t
inductive ej (g:aK):ab->Prop
 | bl {x:ab}(h:cE x):ej g x
 | ref {x:ab}(j:x.isRef=true) (h:gZ g x):ej g x
 | own {z n:Nat}{cs:List ab}(h:∀ x∈cs,ej g x):ej g (.own z n cs)
 | obj {cs:List ab}(h:∀ x∈cs,ej g x):ej g (.obj cs)
 | agg {cs:List ab}(h:∀ x∈cs,ej g x):ej g (.agg cs)
 | bQ {cs:List ab}(h:∀ x∈cs,ej g x):ej g (.bQ cs)
 | dj {fn:Fn}{a b:List ab}(h1:∀ x∈a,ej g x) (af:∀ x∈b,ej g x):ej g (.dj fn a b)
 | bB {z n m:Nat}{p:Place}{new:List ab}(au:gZ g (.bB z p n 0 [])) (h:∀ x∈new,ej g x):ej g (.bB z p n m new)
section
variable {w:World}{I:a8}{T:Array Value}{g:aK}{Fs:Nat->a8}
theorem R.b' {x:ab}{v:Value}{F:a8}(h:R w I (fH w T) x v F):ej g x->R w I (dR w T g) x v F:=by
 induction h with
 | lit h aH=>exact λ_=>.lit h aH
 | aQ aH=>exact λ_=>.aQ aH
 | dead aH=>exact λ_=>.dead aH
 | l3 aH=>exact λ_=>.l3 aH
 | @ref x _ _ j h aH =>
  intro hk;refine .ref j ⟨h,?_⟩ aH;cases hk with
  | ref _ h=>exact h
  | bl h=>cases h <;> simp [ab.isRef] at j
  | _=>simp [ab.isRef] at j
 | hz aH=>exact λ_=>.hz aH
 | mp aU au aH=>exact λ_=>.mp aU au aH
 | eR aU h1 aH=>exact λ_=>.eR aU h1 aH
 | imp aH bb aU au=>exact λ_=>.imp aH bb aU au
 | bm aH k2 bb ay aj h1 aa ah aM =>
  intro hk;cases hk with
  | ref j=>simp [ab.isRef] at j
  | bl h=>cases h with | bm h=>exact .bm aH k2 bb ay aj h1 aa λk x j=>aM k x j (.bl (h x (List.mem_of_getElem? j)))
 | cO aH bb ay h1 aa ah aM =>
  intro hk;cases hk with
  | ref j=>simp [ab.isRef] at j
  | bl h=>cases h with | cO h=>exact .cO aH bb ay h1 aa λk x j=>aM k x j (.bl (h x (List.mem_of_getElem? j)))
 | own aU aj h1 ah aP av aH aM =>
  intro hk;refine .own aU aj h1 (λk x u j hu=>aM k x u j hu ?_) aP av aH;cases hk with
  | ref j=>simp [ab.isRef] at j
  | bl h=>cases h with | own h=>exact .bl (h x (List.mem_of_getElem? j))
  | own h=>exact h x (List.mem_of_getElem? j)
 | obj aU aj h1 ah aP av aH ay aM =>
  intro hk;refine .obj aU aj h1 (λk x u j hu=>aM k x u j hu ?_) aP av aH ay;cases hk with
  | ref j=>simp [ab.isRef] at j
  | bl h=>cases h with | obj h=>exact .bl (h x (List.mem_of_getElem? j))
  | obj h=>exact h x (List.mem_of_getElem? j)
 | agg aj h1 ah aP aH aM =>
  intro hk;refine .agg aj h1 (λk x u j hu=>aM k x u j hu ?_) aP aH;cases hk with
  | ref j=>simp [ab.isRef] at j
  | bl h=>cases h with | agg h=>exact .bl (h x (List.mem_of_getElem? j))
  | agg h=>exact h x (List.mem_of_getElem? j)
 | bQ aj ah aP aH aM =>
  intro hk;refine .bQ aj (λk x u j hu=>aM k x u j hu ?_) aP aH;cases hk with
  | ref j=>simp [ab.isRef] at j
  | bl h=>cases h with | bQ h=>exact .bl (h x (List.mem_of_getElem? j))
  | bQ h=>exact h x (List.mem_of_getElem? j)
 | @dj fn first caps v1 v2 F aH h1 af h9 hN fZ fQ =>
  intro hk;have:(∀ x∈first,ej g x)/\∀ x∈caps,ej g x:=by
   cases hk with
   | ref j=>simp [ab.isRef] at j
   | bl h=>cases h with | dj h1 af=>exact ⟨λx j=>.bl (h1 x j),λx j=>.bl (af x j)⟩
   | dj h1 af=>exact ⟨h1,af⟩
  exact .dj aH h1 af (λk x u j hu=>fZ k x u j hu (this.1 x (List.mem_of_getElem? j))) (λk x u j hu=>fQ k x u j hu (this.2 x (List.mem_of_getElem? j)))
theorem jx.b' {x:ab}{v:Value}{F:a8}(h:jx w I (fH w T) x v F) (hk:ej g x):jx w I (dR w T g) x v F:=by
 cases h with
 | tree h=>exact .tree (h.b' hk)
 | bB h =>
  cases hk with
  | bl h=>cases h
  | ref j=>simp [ab.isRef] at j
  | bB au aA=>exact .bB ⟨⟨h.kp,au⟩,h.iX,h.np,h.aj,h.h1,λk x u j hu=>(h.ah k x u j hu).b' (aA x (List.mem_of_getElem? j)),h.aH⟩
theorem cF.mw (h:cF w I T g Fs):jy w I T g Fs :=
  ⟨λt x j=>by
    obtain ⟨v,hv,aY⟩:=h.rel t x j;refine ⟨v,hv,?_⟩;cases aY with
    | tree aY=>exact .tree (aY.frame (λ_ _=>rfl) (λ_ h=>h) (λ_ _ h=>h.1) λ_ _=>rfl)
    | bB aY=>exact .bB ⟨aY.kp.1,aY.iX,aY.np,aY.aj,aY.h1,λk x u j hu=>(aY.ah k x u j hu).frame (λ_ _=>rfl) (λ_ h=>h) (λ_ _ h=>h.1) λ_ _=>rfl,aY.aH⟩,
   h.kM,h.eu,h.bm,h.lt,h.hV⟩
theorem jy.ZV (h:jy w I T g Fs) {g':aK}(aN:∀ t x,g' t=some x->g t=some x) (hk:∀ t x,g' t=some x->ej g' x)
  (au:∀ t t' z p n m new bs ch bh cQ,g' t=some (.bB z p n m new)->g' t'=some (.bB bs p ch bh cQ)->t=t'):cF w I T g' (λt c=>g' t≠none/\Fs t c):=by
 refine ⟨λt x j=>?_,λt aq c aa=>aa.1 aq,λt t' c aa e5=>h.eu t t' c aa.2 e5.2,λt c aa=>h.bm t c aa.2,h.lt,au,h.hV⟩;obtain ⟨v,hv,aY⟩:=h.rel t x (aN t x j);have:Fs t=λc=>g' t≠none/\Fs t c:=by
  funext c;exact propext ⟨λaa=>⟨by rw [j]; simp,aa⟩,λaa=>aa.2⟩
 refine ⟨v,hv,?_⟩;rw [<- this];exact aY.b' (hk t x j)
theorem jy.part (h:jy w I T g Fs) {p:Place}{y:ab}(au:bu g p=some y) (al:∀ z q n m new,y≠.bB z q n m new):∃ v cn,dU w T p=some v/\R w I (fH w T) y v cn/\(∀ c,cn c->Fs p.root c) /\
  ∀ (y':ab) (jb:a8),R w I (fH w T) y' v jb->(∀ c,jb c->Fs p.root c->cn c)->(∀ c,jb c->¬ I c)->(∀ t c,t≠p.root->jb c->¬ Fs t c)->(∀ J,y'=.self J->y=.self J) ->
   ∃ b2,jy w I T (cj g p y') b2/\(∀ c,b2 p.root c↔(Fs p.root c/\¬ cn c)\/jb c)/\∀ t,t≠p.root->b2 t=Fs t:=by
 unfold bu at au;cases j:g p.root with
 | none=>rw [j] at au; cases au
 | some x =>
  rw [j] at au;obtain ⟨v,hv,aY⟩:=h.rel _ _ j;replace aY:=aY.hd (by
   rintro z q n m new rfl;exact al _ _ _ _ _ (ab.tE au).2)
  obtain ⟨ik,cn,hw,dB,di,eB,kO⟩:=R.focus p.path aY au;refine ⟨ik,cn,by simp [dU,hv,hw],dB,di,λy' jb jl mJ bb NP lS=>?_⟩;obtain ⟨cY,HR,pn⟩:=kO w I (fH w T) y' jb ⟨λ_ _=>rfl,λ_ _ _=>rfl,λ_ h=>h,λ_ _ h=>h⟩ jl mJ lS;refine ⟨λt=>if t=p.root then cY else Fs t,⟨λt x' fL=>?_,λt aq c=>?_,λt t' c aa e5=>?_,λt c aa=>?_,h.lt,h.hV⟩,λc=>by simp [pn c],λt aq=>by simp [aq]⟩
  ·by_cases ie:t=p.root
   ·subst ie;have WM:x.setAt p.path y'=x':=by simpa [cj,j] using fL
    subst WM;exact ⟨v,hv,.tree (by simpa using HR)⟩
   ·simp only [cj,if_neg ie] at fL;simpa [ie] using h.rel t x' fL
  ·by_cases ie:t=p.root
   ·subst ie; simp [cj,j] at aq
   ·simp only [cj,if_neg ie] at aq; simpa [ie] using h.kM t aq c
  ·by_cases h1:t=p.root <;> by_cases af:t'=p.root <;> simp only [h1,af,if_true,if_false] at aa e5
   ·rw [h1,af]
   ·rcases (pn c).1 aa with ⟨aJ,_⟩ | aJ
    ·rw [h1]; exact h.eu _ _ _ aJ e5
    ·exact absurd e5 (NP t' c af aJ)
   ·rcases (pn c).1 e5 with ⟨aJ,_⟩ | aJ
    ·rw [af]; exact h.eu _ _ _ aa aJ
    ·exact absurd aa (NP t c h1 aJ)
   ·exact h.eu _ _ _ aa e5
  ·by_cases h1:t=p.root <;> simp only [h1,if_true,if_false] at aa
   ·rcases (pn c).1 aa with ⟨aJ,_⟩ | aJ
    ·exact h.bm _ c aJ
    ·exact bb c aJ
   ·exact h.bm t c aa
end
end Go.Own
namespace Go.Own
open Go
set_option linter.unusedSectionVars false
variable [cI]
inductive Take:aK->List ab->List ab->aK->Prop
 | bl {g:aK}{xs:List ab}(h:∀ x∈xs,cE x):Take g xs xs g
 | cons {g g':aK}{x:ab}{xs xs':List ab}(h:cE x) (aq:Take g xs xs' g'):Take g (x::xs) (x::xs') g'
 | bg {g g1 g':aK}{z n N:Nat}{p:Place}{cs cs' xs xs':List ab}(au:bu g p=some (.own z N cs)) (aA:n<=N) (h1:Take (cj g p .dead) (cs.take (n * z)) cs' g1) (af:Take g1 xs xs' g') :
   Take g (.bg z p n::xs) (.own z n cs'::xs') g'
 | bB {g g1 g':aK}{z n m t:Nat}{q:Place}{cs new cs' xs xs':List ab}(aq:g t=some (.bB z q n m new)) (au:bu g q=some (.own z n cs)) (a7:q.root≠t) (h1:Take (cj (cj g ⟨t,[]⟩ .dead) q .dead) (cs++new) cs' g1) (af:Take g1 xs xs' g') :
   Take g (.bg z ⟨t,[]⟩ (n+m)::xs) (.own z (n+m) cs'::xs') g'
 | zJ {g g1 g':aK}{z n m t q1 m2 t2:Nat}{q:Place}{cs new zE cs' xs xs':List ab}(aq:g t=some (.bB z ⟨t2,[]⟩ n m new)) (N1:g t2=some (.bB z q q1 m2 zE)) (aA:n=q1+m2) (au:bu g q=some (.own z q1 cs)) (a7:q.root≠t) (qT:q.root≠t2) (Wy:t≠t2)
   (h1:Take (cj (cj (cj g ⟨t,[]⟩ .dead) ⟨t2,[]⟩ .dead) q .dead) (cs++zE++new) cs' g1) (af:Take g1 xs xs' g') :
   Take g (.bg z ⟨t,[]⟩ (n+m)::xs) (.own z (n+m) cs'::xs') g'
 | obj {g g1 g':aK}{p:Place}{cs cs' xs xs':List ab}(au:bu g p=some (.obj cs)) (h1:Take (cj g p .dead) cs cs' g1) (af:Take g1 xs xs' g'):Take g (.ptr p 0::xs) (.obj cs'::xs') g'
 | mp {g g1 g':aK}{p:Place}{q:Array MapEntry->Nat->Prop}{xs xs':List ab}(au:bu g p=some (.mp q)) (h1:Take (cj g p .dead) [] [] g1) (af:Take g1 xs xs' g'):Take g (.hr p::xs) (.mp q::xs') g'
 | agg {g g1 g':aK}{cs cs' xs xs':List ab}(h1:Take g cs cs' g1) (af:Take g1 xs xs' g'):Take g (.agg cs::xs) (.agg cs'::xs') g'
 | bQ {g g1 g':aK}{cs cs' xs xs':List ab}(h1:Take g cs cs' g1) (af:Take g1 xs xs' g'):Take g (.bQ cs::xs) (.bQ cs'::xs') g'
structure Hand (w:World) (I:a8) (ρ:ab->Value->Prop) (Fs:Nat->a8) (xs:List ab) (vs:List Value) (dm:Nat->a8):Prop where
 len:xs.length=vs.length
 rel:∀ (k:Nat) (x:ab) (u:Value),xs[k]?=some x->vs[k]?=some u->R w I ρ x u (dm k)
 eu:∀ (J k c:Nat),J<xs.length->k<xs.length->dm J c->dm k c->J=k
 off:∀ (k t c:Nat),k<xs.length->dm k c->¬ Fs t c
 bm:∀ (k c:Nat),k<xs.length->dm k c->¬ I c
def lj (Fs:Nat->a8) (n:Nat) (dm:Nat->a8):a8:=λc=>(∃ t,Fs t c)\/∃ k,k<n/\dm k c
section
variable {w:World}{I:a8}{T:Array Value}
theorem Take.length {g g':aK}{xs xs':List ab}(h:Take g xs xs' g'):xs'.length=xs.length:=by
 induction h with
 | bl=>rfl
 | cons _ _ aM=>simp [aM]
 | bg _ _ _ _ _ aM=>simp [aM]
 | bB _ _ _ _ _ _ aM=>simp [aM]
 | zJ _ _ _ _ _ _ _ _ _ _ aM=>simp [aM]
 | obj _ _ _ _ aM=>simp [aM]
 | mp _ _ _ _ aM=>simp [aM]
 | agg _ _ _ aM=>simp [aM]
 | bQ _ _ _ aM=>simp [aM]
theorem qH.cons {x:ab}{l:List ab}(h:qH (x::l)):(∀ J,x≠.self J)/\qH l:=⟨λJ e=>h 0 J (by rw [e]; rfl),λk J e=>h (k+1) J e⟩
theorem Take.self {g g':aK}{xs xs':List ab}(h:Take g xs xs' g'):∀ (k:Nat) (J:Nat × Nat),xs'[k]?=some (.self J)->xs[k]?=some (.self J):=by
 have step:∀ {x x':ab}{xs xs':List ab},(∀ J,x'=.self J->x=.self J)->(∀ (k:Nat) (J:Nat × Nat),xs'[k]?=some (.self J)->xs[k]?=some (.self J))->∀ (k:Nat) (J:Nat × Nat),(x'::xs')[k]?=some (.self J)->(x::xs)[k]?=some (.self J):=by
  intro x x' xs xs' h1 af k J h;cases k with
  | zero=>simp only [List.getElem?_cons_zero,Option.some.injEq] at h ⊢; exact h1 J h
  | succ k=>exact af k J h
 induction h with
 | bl=>exact λ_ _ h=>h
 | cons _ _ aM=>exact step (λ_ h=>h) aM
 | bg _ _ _ _ _ aM=>exact step (λ_ h=>by cases h) aM
 | bB _ _ _ _ _ _ aM=>exact step (λ_ h=>by cases h) aM
 | zJ _ _ _ _ _ _ _ _ _ _ aM=>exact step (λ_ h=>by cases h) aM
 | obj _ _ _ _ aM=>exact step (λ_ h=>by cases h) aM
 | mp _ _ _ _ aM=>exact step (λ_ h=>by cases h) aM
 | agg _ _ _ aM=>exact step (λ_ h=>by cases h) aM
 | bQ _ _ _ aM=>exact step (λ_ h=>by cases h) aM
theorem Take.xK {g g':aK}{xs xs':List ab}(h:Take g xs xs' g') (aU:∀ x∈xs,sn x):∀ x∈xs',sn x:=by
 induction h with
 | bl=>exact aU
 | cons _ _ aM =>
  intro x j;rcases List.mem_cons.1 j with rfl | j
  ·exact aU _ (by simp)
  ·exact aM (λx h=>aU x (by simp [h])) x j
 | bg _ _ _ _ _ aM | bB _ _ _ _ _ _ aM | zJ _ _ _ _ _ _ _ _ _ _ aM | obj _ _ _ _ aM | mp _ _ _ _ aM | bQ _ _ _ aM =>
  intro x j;rcases List.mem_cons.1 j with rfl | j
  ·intro cs e; cases e
  ·exact aM (λx h=>aU x (by simp [h])) x j
 | agg h1 _ _ aM =>
  intro x j;rcases List.mem_cons.1 j with rfl | j
  ·intro cs e;cases e;exact λk J hk=>aU _ (List.mem_cons_self ..) _ rfl k J (h1.self k J hk)
  ·exact aM (λx h=>aU x (by simp [h])) x j
theorem Hand.cons {ρ:ab->Value->Prop}{Fs:Nat->a8}{x:ab}{v:Value}{F:a8}{xs:List ab}{vs:List Value}{dm:Nat->a8}(h:Hand w I ρ Fs xs vs dm) (j:R w I ρ x v F)
  (aP:∀ k c,k<xs.length->F c->¬ dm k c) (aU:∀ t c,F c->¬ Fs t c) (hi:∀ c,F c->¬ I c):Hand w I ρ Fs (x::xs) (v::vs) (λk=>match k with | 0=>F | k+1=>dm k):=by
 refine ⟨by simp [h.len],λk y u al hu=>?_,λJ k c ai hk h1 af=>?_,λk t c hk aa=>?_,λk c hk aa=>?_⟩
 ·cases k with
  | zero=>simp at al hu; subst al hu; exact j
  | succ k=>simp at al hu; exact h.rel k y u al hu
 ·cases J <;> cases k
  ·rfl
  ·exact absurd af (aP _ c (by simpa using hk) h1)
  ·exact absurd h1 (aP _ c (by simpa using ai) af)
  ·rw [h.eu _ _ c (by simpa using ai) (by simpa using hk) h1 af]
 ·cases k with
  | zero=>exact aU t c aa
  | succ k=>exact h.off k t c (by simpa using hk) aa
 ·cases k with
  | zero=>exact hi c aa
  | succ k=>exact h.bm k c (by simpa using hk) aa
theorem Hand.tail {ρ:ab->Value->Prop}{Fs:Nat->a8}{x:ab}{v:Value}{xs:List ab}{vs:List Value}{dm:Nat->a8}(h:Hand w I ρ Fs (x::xs) (v::vs) dm):Hand w I ρ Fs xs vs (λk=>dm (k+1)) :=
  ⟨by simpa using h.len,λk y u al hu=>h.rel (k+1) y u al hu,λJ k c ai hk h1 af=>by have:=h.eu (J+1) (k+1) c (by simpa using ai) (by simpa using hk) h1 af; omega,
   λk t c hk aa=>h.off (k+1) t c (by simpa using hk) aa,λk c hk aa=>h.bm (k+1) c (by simpa using hk) aa⟩
theorem pC {x:ab}{xs:List ab}(h:cE x) (aM:∀ y∈xs,cE y):∀ y∈x::xs,cE y:=by
 intro y al;rcases List.mem_cons.1 al with rfl | al
 ·exact h
 ·exact aM y al
theorem Take.Ct {g g':aK}{xs xs':List ab}(h:Take g xs xs' g'):∀ x∈xs',cE x:=by
 induction h with
 | bl h=>exact h
 | cons h _ aM=>exact pC h aM
 | bg _ _ _ _ fZ fQ=>exact pC (.own fZ) fQ
 | bB _ _ _ _ _ fZ fQ=>exact pC (.own fZ) fQ
 | zJ _ _ _ _ _ _ _ _ _ fZ fQ=>exact pC (.own fZ) fQ
 | obj _ _ _ fZ fQ=>exact pC (.obj fZ) fQ
 | mp _ _ _ _ fQ=>exact pC .mp fQ
 | agg _ _ fZ fQ=>exact pC (.agg fZ) fQ
 | bQ _ _ fZ fQ=>exact pC (.bQ fZ) fQ
def GB (w:World) (I:a8) (T:Array Value) (g:aK) (xs xs':List ab) (g':aK):Prop :=
 ∀ {Fs:Nat->a8}{vs:List Value}{dm:Nat->a8},jy w I T g Fs->Hand w I (fH w T) Fs xs vs dm ->
  ∃ b2 jw,jy w I T g' b2/\Hand w I (fH w T) b2 xs' vs jw/\∀ c,lj b2 xs'.length jw c->lj Fs xs.length dm c
theorem JZ {w:World}{e b_:TypeId}{z n:Nat}{v:Value}{us iL:List Value}(h:w.ownsRow 0 e z v n us) (aI:w.ownsRow 0 b_ z v n iL):us=iL:=by
 obtain ⟨h1,af⟩:=h;obtain ⟨mH,HF⟩:=aI;rcases af with ⟨rfl,rfl⟩ | ⟨b,cap,cur,rfl,_,aN,_,_,_,aq⟩
 ·simp at h1 mH; rw [h1,mH]
 ·rcases HF with ⟨bG,_⟩ | ⟨dX,mF,ab4,bG,_,Et,_,_,_,sK⟩
  ·cases bG
  ·cases bG;rw [aN] at Et;cases Et;rw [<- aq,<- sK]
theorem Take.node {g1 g2 g':aK}{Fs fF:Nat->a8}{B H0:a8}{cs cs' xs xs':List ab}{us vs:List Value}{bW dm:Nat->a8}{X:ab}{v0:Value}
  (bn:jy w I T g1 fF) (hH:Hand w I (fH w T) fF cs us bW) (e4:∀ c,B c->(∃ t,Fs t c)/\(∀ t,¬ fF t c)/\(∀ k,k<cs.length->¬ bW k c)/\¬ I c)
  (gx:∀ c,lj fF cs.length bW c->(∃ t,Fs t c)\/H0 c) (dk:Hand w I (fH w T) Fs xs vs dm) (ve:∀ c,H0 c->(∀ t,¬ Fs t c)/\∀ k,k<xs.length->¬ dm k c)
  (fZ:GB w I T g1 cs cs' g2) (fQ:GB w I T g2 xs xs' g')
  (build:∀ jw:Nat->a8,(∀ (k:Nat) (x:ab) (u:Value),cs'[k]?=some x->us[k]?=some u->R w I (fH w T) x u (jw k))->(∀ (J k c:Nat),J<cs'.length->k<cs'.length->jw J c->jw k c->J=k) ->
   (∀ k c,k<cs'.length->jw k c->¬ B c)->R w I (fH w T) X v0 (λc=>B c\/∃ k,k<cs'.length/\jw k c)) :
  ∃ b2 jw,jy w I T g' b2/\Hand w I (fH w T) b2 (X::xs') (v0::vs) jw/\∀ c,lj b2 (X::xs').length jw c->(∃ t,Fs t c)\/H0 c\/∃ k,k<xs.length/\dm k c:=by
 obtain ⟨iQ,H1,h7,Em,Bp⟩:=fZ bn hH;have X4:∀ k t c,k<xs.length->dm k c->¬ iQ t c:=by
  intro k t c hk aa aS;rcases gx c (Bp c (.inl ⟨t,aS⟩)) with ⟨t',h⟩ | h
  ·exact dk.off k t' c hk aa h
  ·exact (ve c h).2 k hk aa
 obtain ⟨yA,Ax,HY,Ur,Ng⟩:=fQ h7 (⟨dk.len,dk.rel,dk.eu,X4,dk.bm⟩:Hand w I (fH w T) iQ xs vs dm);have Uf:∀ k c,k<cs'.length->H1 k c->¬ B c:=by
  intro k c hk aa av;obtain ⟨_,h1,af,_⟩:=e4 c av;rcases Bp c (.inr ⟨k,hk,aa⟩) with ⟨t,h⟩ | ⟨J,ai,h⟩
  ·exact h1 t h
  ·exact af J ai h
 have tS:=build H1 Em.rel Em.eu Uf
 -- the node's blocks: apart from all else
 have key:∀ c,(B c\/∃ k,k<cs'.length/\H1 k c)->(∀ t,¬ iQ t c)/\(∀ k,k<xs.length->¬ dm k c)/\¬ I c/\((∃ t,Fs t c)\/H0 c):=by
  rintro c (av | ⟨k,hk,aa⟩)
  ·obtain ⟨⟨t0,aO⟩,h1,af,aJ⟩:=e4 c av;refine ⟨λt aS=>?_,λk hk aa=>dk.off k t0 c hk aa aO,aJ,.inl ⟨t0,aO⟩⟩;rcases Bp c (.inl ⟨t,aS⟩) with ⟨t',h⟩ | ⟨J,ai,h⟩
   ·exact h1 t' h
   ·exact af J ai h
  ·have ay:=gx c (Bp c (.inr ⟨k,hk,aa⟩));refine ⟨λt aS=>Em.off k t c hk aa aS,λJ ai w7=>?_,Em.bm k c hk aa,ay⟩;rcases ay with ⟨t,h⟩ | h
   ·exact dk.off J t c ai w7 h
   ·exact (ve c h).2 J ai w7
 have fin:∀ c,(B c\/∃ k,k<cs'.length/\H1 k c)->(∀ t,¬ yA t c)/\∀ k,k<xs'.length->¬ Ax k c:=by
  intro c aa;obtain ⟨h1,af,_,_⟩:=key c aa;have none:¬ lj yA xs'.length Ax c:=by
   intro h;rcases Ng c h with ⟨t,h⟩ | ⟨k,hk,h⟩
   ·exact h1 t h
   ·exact af k hk h
  exact ⟨λt h=>none (.inl ⟨t,h⟩),λk hk h=>none (.inr ⟨k,hk,h⟩)⟩
 refine ⟨yA,_,HY,Ur.cons tS (λk c hk aa=>(fin c aa).2 k hk) (λt c aa=>(fin c aa).1 t) (λc aa=>(key c aa).2.2.1),?_⟩;have back:∀ c,lj yA xs'.length Ax c->(∃ t,Fs t c)\/H0 c\/∃ k,k<xs.length/\dm k c:=by
  intro c h;rcases Ng c h with ⟨t,h⟩ | h
  ·rcases gx c (Bp c (.inl ⟨t,h⟩)) with h | h
   ·exact .inl h
   ·exact .inr (.inl h)
  ·exact .inr (.inr h)
 rintro c (h | ⟨k,hk,aa⟩)
 ·exact back c (.inl h)
 ·cases k with
  | zero =>
   rcases (key c aa).2.2.2 with h | h
   ·exact .inl h
   ·exact .inr (.inl h)
  | succ k=>exact back c (.inr ⟨k,by simpa using hk,aa⟩)
end
end Go.Own
namespace Go.Own
open Go
set_option linter.unusedSectionVars false
variable [cI]
section
variable {w:World}{I:a8}{T:Array Value}
theorem jy.kill {g:aK}{Fs:Nat->a8}(h:jy w I T g Fs) (t:Nat):∃ b2,jy w I T (cj g ⟨t,[]⟩ .dead) b2/\(∀ c,¬ b2 t c)/\∀ s,s≠t->b2 s=Fs s:=by
 refine ⟨λs=>if s=t then ct else Fs s,⟨λs x j=>?_,λs ay c=>?_,λs cp c aa e5=>?_,λs c aa=>?_,h.lt,h.hV⟩,λc=>by simp,λs ay=>by simp [ay]⟩
 ·by_cases bT:s=t
  ·subst bT;simp only [cj,if_pos] at j;cases aN:g s with
   | none=>rw [aN] at j; cases j
   | some y =>
    rw [aN] at j;have:x=.dead:=by simpa [ab.setAt] using j.symm
    subst this;obtain ⟨v,hv,_⟩:=h.rel s y aN;exact ⟨v,hv,.tree (.dead (by simp))⟩
  ·simp only [cj,if_neg bT] at j; simpa [bT] using h.rel s x j
 ·by_cases bT:s=t
  ·simp [bT]
  ·simp only [cj,if_neg bT] at ay; simpa [bT] using h.kM s ay c
 ·by_cases h1:s=t <;> by_cases af:cp=t <;> simp [h1,af,ct] at aa e5;exact h.eu _ _ _ aa e5
 ·by_cases h1:s=t <;> simp [h1,ct] at aa;exact h.bm _ _ aa
theorem R.vi {ρ:ab->Value->Prop}{Fs:Nat->a8}{x:ab}{v:Value}{xs:List ab}{vs:List Value}{dm:Nat->a8}(h:Hand w I ρ Fs (x::xs) (v::vs) dm):∀ c,dm 0 c->(∀ t,¬ Fs t c)/\∀ k,k<xs.length->¬ dm (k+1) c:=by
 intro c aa;refine ⟨λt=>h.off 0 t c (by simp) aa,λk hk jN=>?_⟩;have:=h.eu 0 (k+1) c (by simp) (by simpa using hk) aa jN;omega
theorem lj.head {Fs:Nat->a8}{x:ab}{xs:List ab}{dm:Nat->a8}{c:Nat}(h:(∃ t,Fs t c)\/dm 0 c\/∃ k,k<xs.length/\dm (k+1) c):lj Fs (x::xs).length dm c:=by
 rcases h with h | h | ⟨k,hk,h⟩
 ·exact .inl h
 ·exact .inr ⟨0,by simp,h⟩
 ·exact .inr ⟨k+1,by simpa using hk,h⟩
theorem FM {g:aK}{p:Place}{y:ab}{q:Place}(h:q.root≠p.root):bu (cj g p y) q=bu g q:=by
 grind [bu,cj]
theorem ya {g:aK}{p:Place}{y:ab}{t:Nat}(h:t≠p.root):cj g p y t=g t:=by
 grind [cj]
theorem O' {a:Option Addr}{n cap ch mF:Nat}:(Value.slice a n cap).ownBlock=(Value.slice a ch mF).ownBlock:=by cases a <;> rfl
theorem Yb {e:TypeId}{z n N:Nat}{a:Option Addr}{cap:Nat}{us:List Value}(h:w.ownsRow 0 e z (.slice a N cap) N us) (aA:n<=N):w.ownsRow 0 e z (.slice a n cap) n (us.take (n * z)):=by
 have hle:n * z<=N * z:=Nat.mul_le_mul_right _ aA;obtain ⟨hu,bG⟩:=h;refine ⟨by rw [List.length_take,hu]; omega,?_⟩
 grind
theorem Take.sound {g g':aK}{xs xs':List ab}(h:Take g xs xs' g'):GB w I T g xs xs' g':=by
 induction h with
 | bl h=>exact λ{Fs vs dm} bn hH=>⟨Fs,dm,bn,hH,λ_ h=>h⟩
 | @cons g g' x xs xs' j _ aM =>
  intro Fs vs dm bn hH;cases vs with
  | nil=>have:=hH.len; simp at this
  | cons v vs =>
   obtain ⟨b2,jw,dZ,Uq,hj⟩:=aM bn hH.tail;have aO:=R.vi hH;have off:∀ c,dm 0 c->¬ lj b2 xs'.length jw c:=by
    intro c aa av;rcases hj c av with ⟨t,h⟩ | ⟨k,hk,h⟩
    ·exact (aO c aa).1 t h
    ·exact (aO c aa).2 k hk h
   refine ⟨b2,_,dZ,Uq.cons (hH.rel 0 x v rfl rfl) (λk c hk aa h=>off c aa (.inr ⟨k,hk,h⟩)) (λt c aa h=>off c aa (.inl ⟨t,h⟩)) (λc aa=>hH.bm 0 c (by simp) aa),?_⟩;rintro c (h | ⟨k,hk,h⟩)
   ·rcases hj c (.inl h) with h | ⟨J,ai,h⟩
    ·exact .inl h
    ·exact .inr ⟨J+1,by simpa using ai,h⟩
   ·cases k with
    | zero=>exact .inr ⟨0,by simp,h⟩
    | succ k =>
     rcases hj c (.inr ⟨k,by simpa using hk,h⟩) with h | ⟨J,ai,h⟩
     ·exact .inl h
     ·exact .inr ⟨J+1,by simpa using ai,h⟩
 | @bg g g1 g' z n N p cs cs' xs xs' au aA t1 _ fZ fQ =>
  intro Fs vs dm bn hH;cases vs with
  | nil=>have:=hH.len; simp at this
  | cons v vs =>
   obtain ⟨qw,cn,gC,hy,di,kO⟩:=bn.part au (by simp);obtain ⟨a,iR,cap,h1,rfl,aJ⟩:=(hH.rel 0 _ v rfl rfl).mO;rw [h1] at gC;cases gC;obtain ⟨a2,rE,kb,_⟩:=hy.mR;cases kb;obtain ⟨fF,iW,h9,hN⟩:=kO .dead ct (.dead λ_ h=>h) (λ_ h=>h.elim) (λ_ h=>h.elim) (λ_ _ _ h=>h.elim) (λ_ h=>by cases h);have lv:∀ t c,fF t c->Fs t c/\¬ cn c:=by
    intro t c aa;by_cases aq:t=p.root
    ·subst aq;rcases (h9 c).1 aa with h | h
     ·exact h
     ·exact h.elim
    ·rw [hN t aq] at aa;exact ⟨aa,λep=>aq (bn.eu _ _ _ aa (di c ep))⟩
   cases hy with
   | ref j=>simp [ab.isRef] at j
   | @own _ _ _ _ e us bW _ aU aj mH ah aP av aH =>
    have EK:∀ k,k<(cs.take (n * z)).length->k<cs.length:=λk hk=>by rw [List.length_take] at hk; omega
    have eT:∀ k c,k<(cs.take (n * z)).length->bW k c->cn c:=λk c hk aa=>(aH c).2 (.inr ⟨k,EK k hk,aa⟩);have ix:Hand w I (fH w T) fF (cs.take (n * z)) (us.take (n * z)) bW:=by
     refine ⟨by simp [aj],λk x u j hu=>?_,λJ k c ai hk=>aP J k c (EK J ai) (EK k hk),λk t c hk aa aS=>(lv t c aS).2 (eT k c hk aa),λk c hk aa=>bn.bm _ c (di c (eT k c hk aa))⟩;rw [List.getElem?_take] at j hu
     split at j
     ·rename_i dT; rw [if_pos dT] at hu; exact ah k x u j hu
     ·cases j
    have lT:=Yb aU aA;obtain ⟨b2,jw,aB,a2,a3⟩:=Take.node (g1:=cj g p .dead) (Fs:=Fs) (B:=λc=>(Value.slice a n cap).ownBlock=some c) (H0:=dm 0) (X:=.own z n cs') (v0:=.slice a n cap) iW ix
     (λc aa=>by
      have ep:cn c:=(aH c).2 (.inl (by rw [<- aa]; exact O'));exact ⟨⟨_,di c ep⟩,λt aS=>(lv t c aS).2 ep,λk hk jN=>av k c (EK k hk) jN (by rw [<- aa]; exact O'),bn.bm _ c (di c ep)⟩)
     (λc aa=>by
      rcases aa with ⟨t,h⟩ | ⟨k,hk,h⟩
      ·exact .inl ⟨t,(lv t c h).1⟩
      ·exact .inl ⟨_,di c (eT k c hk h)⟩)
     hH.tail (R.vi hH) fZ fQ (λyC hg h5 kD=>by
      refine .own lT (by rw [t1.length]; simp [aj]) (λk u hu=>?_) hg h5 (λk c hk aa h=>kD k c hk aa h) λc=>Iff.rfl;rw [List.getElem?_take] at hu
      split at hu
      ·exact mH k u hu
      ·cases hu)
    exact ⟨b2,jw,aB,a2,λc aa=>lj.head (a3 c aa)⟩
 | @bB g g1 g' z n m t q cs new cs' xs xs' aq au a7 t1 _ fZ fQ =>
  intro Fs vs dm bn hH;cases vs with
  | nil=>have:=hH.len; simp at this
  | cons v vs =>
   obtain ⟨a,iR,cap,h1,rfl,aJ⟩:=(hH.rel 0 _ v rfl rfl).mO;obtain ⟨v0,jo,fP⟩:=bn.rel t _ aq;simp only [dU,jo,walk,Option.some.injEq] at h1;subst h1;obtain ⟨bv,e,b9,us,news,fP⟩:=fP.vG;have a_:iR=n+m:=by
    obtain ⟨_,bG⟩:=fP.np;rcases bG with ⟨bG,aO⟩ | ⟨_,_,_,bG,_⟩
    ·cases bG; omega
    ·cases bG; rfl
   subst a_;obtain ⟨Q_,H2,gg,fK⟩:=bn.kill t;have IK:bu (cj g ⟨t,[]⟩ .dead) q=some (.own z n cs):=by rw [FM (by simpa using a7)]; exact au
   obtain ⟨qw,cn,gC,hy,di,kO⟩:=H2.part IK (by simp);obtain ⟨bZ,mF,bx,rfl⟩:=fP.kp;rw [bx] at gC;cases gC;obtain ⟨fF,iW,h9,hN⟩:=kO .dead ct (.dead λ_ h=>h) (λ_ h=>h.elim) (λ_ h=>h.elim) (λ_ _ _ h=>h.elim) (λ_ h=>by cases h);have p4:∀ c,cn c->Fs q.root c:=λc aa=>by have:=di c aa; rwa [fK _ a7] at this
   have lv:∀ s c,fF s c->Fs s c/\¬ cn c/\s≠t:=by
    intro s c aa;have bT:s≠t:=by
     rintro rfl;by_cases vu:s=q.root
     ·exact a7 vu.symm
     ·rw [hN s vu] at aa; exact gg c aa
    by_cases ay:s=q.root
    ·subst ay;rcases (h9 c).1 aa with h | h
     ·exact ⟨by have:=h.1; rwa [fK _ a7] at this,h.2,bT⟩
     ·exact h.elim
    ·rw [hN s ay,fK s bT] at aa;exact ⟨aa,λep=>ay (bn.eu _ _ _ aa (p4 c ep)),bT⟩
   cases hy with
   | ref j=>simp [ab.isRef] at j
   | @own _ _ _ _ b_ iL bW _ aU aj mH ah aP av aH =>
    have:=JZ aU fP.iX;subst this;have eT:∀ k c,k<cs.length->bW k c->cn c:=λk c hk aa=>(aH c).2 (.inr ⟨k,hk,aa⟩);have ix:Hand w I (fH w T) fF (cs++new) (iL++news) (λk=>if k<cs.length then bW k else ct):=by
     refine ⟨by simp [aj,fP.aj],λk x u j hu=>?_,λJ k c ai hk aa e5=>?_,λk s c hk aa aS=>?_,λk c hk aa=>?_⟩
     ·by_cases dT:k<cs.length
      ·rw [List.getElem?_append_left dT] at j;rw [List.getElem?_append_left (by omega)] at hu;simpa [dT] using ah k x u j hu
      ·rw [List.getElem?_append_right (by omega)] at j;rw [List.getElem?_append_right (by omega),<- aj] at hu;simpa [dT] using fP.ah _ x u j hu
     ·by_cases eU:J<cs.length <;> by_cases dT:k<cs.length <;> simp [eU,dT,ct] at aa e5;exact aP J k c eU dT aa e5
     ·by_cases dT:k<cs.length <;> simp [dT,ct] at aa;exact (lv s c aS).2.1 (eT k c dT aa)
     ·by_cases dT:k<cs.length <;> simp [dT,ct] at aa;exact bn.bm _ c (p4 c (eT k c dT aa))
    obtain ⟨b2,jw,aB,a2,a3⟩:=Take.node (g1:=cj (cj g ⟨t,[]⟩ .dead) q .dead) (Fs:=Fs) (B:=λc=>(Value.slice a (n+m) cap).ownBlock=some c) (H0:=dm 0) (X:=.own z (n+m) cs') (v0:=.slice a (n+m) cap) iW ix
     (λc aa=>by
      by_cases p6:(Value.slice bZ n mF).ownBlock=some c
      ·have ep:cn c:=(aH c).2 (.inl p6);refine ⟨⟨_,p4 c ep⟩,λs aS=>(lv s c aS).2.1 ep,λk hk jN=>?_,bn.bm _ c (p4 c ep)⟩;by_cases dT:k<cs.length <;> simp [dT,ct] at jN;exact av k c dT jN p6
      ·have EL:Fs t c:=(fP.aH c).2 ⟨aa,p6⟩;refine ⟨⟨_,EL⟩,λs aS=>(lv s c aS).2.2 (bn.eu _ _ _ (lv s c aS).1 EL),λk hk jN=>?_,bn.bm _ c EL⟩;by_cases dT:k<cs.length <;> simp [dT,ct] at jN;exact a7 (bn.eu _ _ _ (p4 c (eT k c dT jN)) EL))
     (λc aa=>by
      rcases aa with ⟨s,h⟩ | ⟨k,hk,h⟩
      ·exact .inl ⟨s,(lv s c h).1⟩
      ·by_cases dT:k<cs.length <;> simp [dT,ct] at h;exact .inl ⟨_,p4 c (eT k c dT h)⟩)
     hH.tail (R.vi hH) fZ fQ (λyC hg h5 kD=>by
      refine .own fP.np (by rw [t1.length]; simp [aj,fP.aj]) (λk u hu=>?_) hg h5 (λk c hk aa h=>kD k c hk aa h) λc=>Iff.rfl;by_cases dT:k<iL.length
      ·rw [List.getElem?_append_left dT] at hu; exact mH k u hu
      ·rw [List.getElem?_append_right (by omega)] at hu; exact fP.h1 _ u hu)
    exact ⟨b2,jw,aB,a2,λc aa=>lj.head (a3 c aa)⟩
 | @zJ g g1 g' z n m t q1 m2 t2 q cs new zE cs' xs xs' aq N1 aA au a7 qT Wy t1 _ fZ fQ =>
  subst aA;intro Fs vs dm bn hH;cases vs with
  | nil=>have:=hH.len; simp at this
  | cons v vs =>
   obtain ⟨a,iR,cap,h1,rfl,aJ⟩:=(hH.rel 0 _ v rfl rfl).mO;obtain ⟨v0,jo,fP⟩:=bn.rel t _ aq;simp only [dU,jo,walk,Option.some.injEq] at h1;subst h1;obtain ⟨bv,e,b9,us,news,fP⟩:=fP.vG;have a_:iR=q1+m2+m:=by
    obtain ⟨_,bG⟩:=fP.np;rcases bG with ⟨bG,aO⟩ | ⟨_,_,_,bG,_⟩
    ·cases bG; omega
    ·cases bG; rfl
   subst a_;obtain ⟨v2,zt,mf⟩:=bn.rel t2 _ N1;obtain ⟨LU,b_,tL,Z5,JQ,mf⟩:=mf.vG;have kp:bv=v2:=by
    obtain ⟨aB,L7,cu,rfl⟩:=fP.kp;simp only [dU,zt,walk,Option.some.injEq] at cu;exact cu.symm
   subst kp;have k7:us=Z5++JQ:=JZ fP.iX mf.np;subst k7;obtain ⟨aar,UJ,VR,Iv⟩:=bn.kill t;obtain ⟨Q_,H2,gg,fK⟩:=UJ.kill t2;have IK:bu (cj (cj g ⟨t,[]⟩ .dead) ⟨t2,[]⟩ .dead) q=some (.own z q1 cs):=by rw [FM (by simpa using qT),FM (by simpa using a7)]; exact au
   obtain ⟨qw,cn,gC,hy,di,kO⟩:=H2.part IK (by simp);obtain ⟨bZ,mF,bx,rfl⟩:=mf.kp;rw [bx] at gC;cases gC;obtain ⟨fF,iW,h9,hN⟩:=kO .dead ct (.dead λ_ h=>h) (λ_ h=>h.elim) (λ_ h=>h.elim) (λ_ _ _ h=>h.elim) (λ_ h=>by cases h);have p4:∀ c,cn c->Fs q.root c:=λc aa=>by have:=di c aa; rwa [fK _ qT,Iv _ a7] at this
   have lv:∀ s c,fF s c->Fs s c/\¬ cn c/\s≠t/\s≠t2:=by
    intro s c aa;have oK:s≠t2:=by
     rintro rfl;by_cases vu:s=q.root
     ·exact qT vu.symm
     ·rw [hN s vu] at aa; exact gg c aa
    have bT:s≠t:=by
     rintro rfl;by_cases vu:s=q.root
     ·exact a7 vu.symm
     ·rw [hN s vu,fK s oK] at aa; exact VR c aa
    by_cases ay:s=q.root
    ·subst ay;rcases (h9 c).1 aa with h | h
     ·exact ⟨by have:=h.1; rwa [fK _ qT,Iv _ a7] at this,h.2,bT,oK⟩
     ·exact h.elim
    ·rw [hN s ay,fK s oK,Iv s bT] at aa;exact ⟨aa,λep=>ay (bn.eu _ _ _ aa (p4 c ep)),bT,oK⟩
   cases hy with
   | ref j=>simp [ab.isRef] at j
   | @own _ _ _ _ fi iL bW _ aU aj mH ah aP av aH =>
    have:=JZ aU mf.iX;subst this;have eT:∀ k c,k<cs.length->bW k c->cn c:=λk c hk aa=>(aH c).2 (.inr ⟨k,hk,aa⟩);have ix:Hand w I (fH w T) fF (cs++zE++new) (iL++JQ++news) (λk=>if k<cs.length then bW k else ct):=by
     have f_:=mf.aj;have xx:=fP.aj;refine ⟨by simp [aj,f_,xx],λk x u j hu=>?_,λJ k c ai hk aa e5=>?_,λk s c hk aa aS=>?_,λk c hk aa=>?_⟩
     ·rw [List.append_assoc] at j hu;by_cases dT:k<cs.length
      ·rw [List.getElem?_append_left dT] at j;rw [List.getElem?_append_left (by omega)] at hu;simpa [dT] using ah k x u j hu
      ·rw [List.getElem?_append_right (by omega)] at j;rw [List.getElem?_append_right (by omega),<- aj] at hu;simp only [dT,if_false];by_cases Iz:k - cs.length<zE.length
       ·rw [List.getElem?_append_left Iz] at j;rw [List.getElem?_append_left (by omega)] at hu;exact mf.ah _ x u j hu
       ·rw [List.getElem?_append_right (by omega)] at j;rw [List.getElem?_append_right (by omega),<- f_] at hu;exact fP.ah _ x u j hu
     ·by_cases eU:J<cs.length <;> by_cases dT:k<cs.length <;> simp [eU,dT,ct] at aa e5;exact aP J k c eU dT aa e5
     ·by_cases dT:k<cs.length <;> simp [dT,ct] at aa;exact (lv s c aS).2.1 (eT k c dT aa)
     ·by_cases dT:k<cs.length <;> simp [dT,ct] at aa;exact bn.bm _ c (p4 c (eT k c dT aa))
    have Qb:∀ s c,Fs s c->s=t\/s=t2->(∃ s,Fs s c)/\(∀ s,¬ fF s c)/\(∀ k,k<(cs++zE++new).length->¬ (if k<cs.length then bW k else ct) c)/\¬ I c:=by
     intro s c aa ay;refine ⟨⟨_,aa⟩,λcp aS=>?_,λk hk jN=>?_,bn.bm _ c aa⟩
     ·obtain ⟨f1,_,f2,f3⟩:=lv cp c aS;have:=bn.eu _ _ _ f1 aa;rcases ay with rfl | rfl
      ·exact f2 this
      ·exact f3 this
     ·by_cases dT:k<cs.length <;> simp [dT,ct] at jN;have:=bn.eu _ _ _ (p4 c (eT k c dT jN)) aa;rcases ay with rfl | rfl
      ·exact a7 this
      ·exact qT this
    obtain ⟨b2,jw,aB,a2,a3⟩:=Take.node (g1:=cj (cj (cj g ⟨t,[]⟩ .dead) ⟨t2,[]⟩ .dead) q .dead) (Fs:=Fs) (B:=λc=>(Value.slice a (q1+m2+m) cap).ownBlock=some c) (H0:=dm 0) (X:=.own z (q1+m2+m) cs') (v0:=.slice a (q1+m2+m) cap) iW ix
     (λc aa=>by
      by_cases p6:bv.ownBlock=some c
      ·by_cases H':(Value.slice bZ q1 mF).ownBlock=some c
       ·have ep:cn c:=(aH c).2 (.inl H');refine ⟨⟨_,p4 c ep⟩,λs aS=>(lv s c aS).2.1 ep,λk hk jN=>?_,bn.bm _ c (p4 c ep)⟩;by_cases dT:k<cs.length <;> simp [dT,ct] at jN;exact av k c dT jN H'
       ·exact Qb t2 c ((mf.aH c).2 ⟨p6,H'⟩) (.inr rfl)
      ·exact Qb t c ((fP.aH c).2 ⟨aa,p6⟩) (.inl rfl))
     (λc aa=>by
      rcases aa with ⟨s,h⟩ | ⟨k,hk,h⟩
      ·exact .inl ⟨s,(lv s c h).1⟩
      ·by_cases dT:k<cs.length <;> simp [dT,ct] at h;exact .inl ⟨_,p4 c (eT k c dT h)⟩)
     hH.tail (R.vi hH) fZ fQ (λyC hg h5 kD=>by
      refine .own fP.np (by rw [t1.length]; simp [aj,mf.aj,fP.aj]) (λk u hu=>?_) hg h5 (λk c hk aa h=>kD k c hk aa h) λc=>Iff.rfl;rw [List.append_assoc] at hu;by_cases dT:k<iL.length
      ·rw [List.getElem?_append_left dT] at hu; exact mH k u hu
      ·rw [List.getElem?_append_right (by omega)] at hu;by_cases Iz:k - iL.length<JQ.length
       ·rw [List.getElem?_append_left Iz] at hu; exact mf.h1 _ u hu
       ·rw [List.getElem?_append_right (by omega)] at hu; exact fP.h1 _ u hu)
    exact ⟨b2,jw,aB,a2,λc aa=>lj.head (a3 c aa)⟩
 | @obj g g1 g' p cs cs' xs xs' au t1 _ fZ fQ =>
  intro Fs vs dm bn hH;cases vs with
  | nil=>have:=hH.len; simp at this
  | cons v vs =>
   obtain ⟨qw,cn,gC,hy,di,kO⟩:=bn.part au (by simp);obtain ⟨u,ad,h1,af,rfl⟩:=(hH.rel 0 _ v rfl rfl).nx;rw [h1] at gC;cases gC;obtain ⟨fF,iW,h9,hN⟩:=kO .dead ct (.dead λ_ h=>h) (λ_ h=>h.elim) (λ_ h=>h.elim) (λ_ _ _ h=>h.elim) (λ_ h=>by cases h);have lv:∀ t c,fF t c->Fs t c/\¬ cn c:=by
    intro t c aa;by_cases aq:t=p.root
    ·subst aq;rcases (h9 c).1 aa with h | h
     ·exact h
     ·exact h.elim
    ·rw [hN t aq] at aa;exact ⟨aa,λep=>aq (bn.eu _ _ _ aa (di c ep))⟩
   cases hy with
   | ref j=>simp [ab.isRef] at j
   | @obj _ b e arr bW _ aU aj mH ah aP av aH ay =>
    simp only [addrOf,Option.some.injEq] at af;subst af;have eT:∀ k c,k<cs.length->bW k c->cn c:=λk c hk aa=>(aH c).2 (.inr ⟨k,hk,aa⟩);have ix:Hand w I (fH w T) fF cs arr.toList bW :=
     ⟨by simp [aj],λk x u j hu=>ah k x u j (by simpa using hu),aP,λk t c hk aa aS=>(lv t c aS).2 (eT k c hk aa),λk c hk aa=>bn.bm _ c (di c (eT k c hk aa))⟩
    obtain ⟨b2,jw,aB,a2,a3⟩:=Take.node (g1:=cj g p .dead) (Fs:=Fs) (B:=λc=>c=b) (H0:=dm 0) (X:=.obj cs') (v0:=.pointer (some ⟨b,0,none⟩)) iW ix
     (λc aa=>by
      subst aa;have ep:cn c:=(aH c).2 (.inl rfl);exact ⟨⟨_,di c ep⟩,λt aS=>(lv t c aS).2 ep,λk hk jN=>av k hk jN,bn.bm _ c (di c ep)⟩)
     (λc aa=>by
      rcases aa with ⟨t,h⟩ | ⟨k,hk,h⟩
      ·exact .inl ⟨t,(lv t c h).1⟩
      ·exact .inl ⟨_,di c (eT k c hk h)⟩)
     hH.tail (R.vi hH) fZ fQ (λyC hg h5 kD=>by
      refine .obj aU (by rw [t1.length,aj]) mH (λk x u j hu=>hg k x u j (by simpa using hu)) h5 (λk hk h=>kD k b hk h rfl) (λc=>Iff.rfl) λk J u hk=>ay k J u (t1.self k J hk))
    exact ⟨b2,jw,aB,a2,λc aa=>lj.head (a3 c aa)⟩
 | @mp g g1 g' p q xs xs' au t1 _ fZ fQ =>
  intro Fs vs dm bn hH;cases vs with
  | nil=>have:=hH.len; simp at this
  | cons v vs =>
   obtain ⟨qw,cn,gC,hy,di,kO⟩:=bn.part au (by simp);have hm:=hH.rel 0 _ v rfl rfl;cases hm with
   | ref _ hm _ =>
   obtain ⟨GO,h1,rfl⟩:=hm;rw [h1] at gC;cases gC;obtain ⟨fF,iW,h9,hN⟩:=kO .dead ct (.dead λ_ h=>h) (λ_ h=>h.elim) (λ_ h=>h.elim) (λ_ _ _ h=>h.elim) (λ_ h=>by cases h);have lv:∀ t c,fF t c->Fs t c/\¬ cn c:=by
    intro t c aa;by_cases aq:t=p.root
    ·subst aq;rcases (h9 c).1 aa with h | h
     ·exact h
     ·exact h.elim
    ·rw [hN t aq] at aa;exact ⟨aa,λep=>aq (bn.eu _ _ _ aa (di c ep))⟩
   cases hy with
   | ref j=>simp [ab.isRef] at j
   | @mp _ b es clock _ aU a7 aH =>
    have ix:Hand w I (fH w T) fF [] [] (λ_=>ct) :=
     ⟨rfl,λk x u j=>by simp at j,λ_ _ _ _ _ h=>h.elim,λ_ _ _ _ h=>h.elim,λ_ _ _ h=>h.elim⟩
    obtain ⟨b2,jw,aB,a2,a3⟩:=Take.node (g1:=cj g p .dead) (Fs:=Fs) (B:=λc=>c=b) (H0:=dm 0) (X:=.mp q) (v0:=.map (some b)) iW ix
     (λc aa=>by
      subst aa;have ep:cn c:=(aH c).2 rfl;exact ⟨⟨_,di c ep⟩,λt aS=>(lv t c aS).2 ep,λk hk _=>by simp at hk,bn.bm _ c (di c ep)⟩)
     (λc aa=>by
      rcases aa with ⟨t,h⟩ | ⟨k,hk,h⟩
      ·exact .inl ⟨t,(lv t c h).1⟩
      ·exact h.elim)
     hH.tail (R.vi hH) fZ fQ (λyC hg h5 kD=>by
      refine .mp aU a7 λc=>⟨λh=>h.elim id λ⟨_,hk,_⟩=>by simp at hk,.inl⟩)
    exact ⟨b2,jw,aB,a2,λc aa=>lj.head (a3 c aa)⟩
 | @agg g g1 g' cs cs' xs xs' t1 _ fZ fQ =>
  intro Fs vs dm bn hH;cases vs with
  | nil=>have:=hH.len; simp at this
  | cons v vs =>
   have j:=hH.rel 0 _ v rfl rfl;have aO:=R.vi hH;cases j with
   | ref j=>simp [ab.isRef] at j
   | @agg _ us bW _ aj mH ah aP aH =>
    have eT:∀ k c,k<cs.length->bW k c->dm 0 c:=λk c hk aa=>(aH c).2 ⟨k,hk,aa⟩;obtain ⟨b2,jw,aB,a2,a3⟩:=Take.node (g1:=g) (Fs:=Fs) (B:=ct) (H0:=dm 0) (X:=.agg cs') (v0:=.agg us) bn
     (⟨by simp [aj],λk x u j hu=>ah k x u j (by simpa using hu),aP,λk t c hk aa=>(aO c (eT k c hk aa)).1 t,λk c hk aa=>hH.bm 0 c (by simp) (eT k c hk aa)⟩:Hand w I (fH w T) Fs cs us.toList bW)
     (λc aa=>aa.elim)
     (λc aa=>by
      rcases aa with h | ⟨k,hk,h⟩
      ·exact .inl h
      ·exact .inr (eT k c hk h))
     hH.tail aO fZ fQ (λyC hg h5 kD=>by
      refine .agg (by rw [t1.length,aj]) mH (λk x u j hu=>hg k x u j (by simpa using hu)) h5 λc=>⟨λh=>h.elim (λh=>h.elim) id,.inr⟩)
    exact ⟨b2,jw,aB,a2,λc aa=>lj.head (a3 c aa)⟩
 | @bQ g g1 g' cs cs' xs xs' t1 _ fZ fQ =>
  intro Fs vs dm bn hH;cases vs with
  | nil=>have:=hH.len; simp at this
  | cons v vs =>
   have j:=hH.rel 0 _ v rfl rfl;have aO:=R.vi hH;cases j with
   | ref j=>simp [ab.isRef] at j
   | @bQ _ us bW _ aj ah aP aH =>
    have eT:∀ k c,k<cs.length->bW k c->dm 0 c:=λk c hk aa=>(aH c).2 ⟨k,hk,aa⟩;obtain ⟨b2,jw,aB,a2,a3⟩:=Take.node (g1:=g) (Fs:=Fs) (B:=ct) (H0:=dm 0) (X:=.bQ cs') (v0:=.tuple us) bn
     (⟨by simp [aj],λk x u j hu=>ah k x u j (by simpa using hu),aP,λk t c hk aa=>(aO c (eT k c hk aa)).1 t,λk c hk aa=>hH.bm 0 c (by simp) (eT k c hk aa)⟩:Hand w I (fH w T) Fs cs us.toList bW)
     (λc aa=>aa.elim)
     (λc aa=>by
      rcases aa with h | ⟨k,hk,h⟩
      ·exact .inl h
      ·exact .inr (eT k c hk h))
     hH.tail aO fZ fQ (λyC hg h5 kD=>by
      refine .bQ (by rw [t1.length,aj]) (λk x u j hu=>hg k x u j (by simpa using hu)) h5 λc=>⟨λh=>h.elim (λh=>h.elim) id,.inr⟩)
    exact ⟨b2,jw,aB,a2,λc aa=>lj.head (a3 c aa)⟩
end
end Go.Own
namespace Go.Own
open Go
set_option linter.unusedSectionVars false
variable [cI]
inductive ki (mA:ab->Prop):ab->Prop
 | bl {x:ab}(h:cE x):ki mA x
 | ref {x:ab}(j:x.isRef=true) (h:mA x):ki mA x
 | own {z n:Nat}{cs:List ab}(h:∀ x∈cs,ki mA x):ki mA (.own z n cs)
 | obj {cs:List ab}(h:∀ x∈cs,ki mA x):ki mA (.obj cs)
 | agg {cs:List ab}(h:∀ x∈cs,ki mA x):ki mA (.agg cs)
 | bQ {cs:List ab}(h:∀ x∈cs,ki mA x):ki mA (.bQ cs)
 | dj {fn:Fn}{a b:List ab}(h1:∀ x∈a,ki mA x) (af:∀ x∈b,ki mA x):ki mA (.dj fn a b)
def z':ab->Option Place
 | .ptr p _=>some p
 | .bg _ p _=>some p
 | .sub _ p _ _=>some p
 | .bB _ p _ _ _=>some p
 | .hr p=>some p
 | _=>none
def Clear (p:Place) (k m:Nat) (r:ab):Prop:=∀ q,z' r=some q->q.root=p.root->∀ J ck,q.path=p.path++J::ck->J<k\/k+m<=J
def eK {α:Type}(l:List α) (k:Nat) (c:List α):List α:=l.take k++c++l.drop (k+c.length)
theorem rj {α:Type}{l:List α}{k:Nat}{c:List α}(h:k+c.length<=l.length):(eK l k c).length=l.length:=by
 simp [eK]; omega
theorem ri {α:Type}{l:List α}{k:Nat}{c:List α}(h:k+c.length<=l.length) (J:Nat):(eK l k c)[J]?=if k<=J/\J<k+c.length then c[J - k]? else l[J]?:=by
 unfold eK;rw [List.append_assoc];by_cases h1:J<k
 ·rw [List.getElem?_append_left (by simp; omega),List.getElem?_take,if_pos h1,if_neg (by omega)]
 ·rw [List.getElem?_append_right (by simp; omega)];have:(l.take k).length=k:=by simp; omega
  rw [this];by_cases af:J<k+c.length
  ·rw [List.getElem?_append_left (by omega),if_pos ⟨by omega,af⟩]
  ·rw [List.getElem?_append_right (by omega),List.getElem?_drop,if_neg (by omega)];congr 1; omega
theorem Zv {α:Type}{l:List α}{k:Nat}{c:List α}{m:Nat}(h:k+c.length<=m) (hm:m<=l.length):(eK l k c).take m=eK (l.take m) k c:=by
 have h1:k+c.length<=(l.take m).length:=by rw [List.length_take]; omega
 apply List.ext_getElem?;intro J;rw [List.getElem?_take,ri h1,ri (l:=l) (by omega),List.getElem?_take];by_cases ai:J<m
 ·rw [if_pos ai,if_pos ai]
 ·rw [if_neg ai,if_neg ai,if_neg (by omega)]
def ab.eK (x:ab) (k:Nat) (c:List ab):ab :=
 match x with
 | .own z n cs=>.own z n (Own.eK cs k c)
 | .obj cs=>.obj (Own.eK cs k c)
 | x=>x
section
variable {w:World}{I:a8}{T:Array Value}{g:aK}{Fs:Nat->a8}
theorem R.C8 {ρ:ab->Value->Prop}{mA:ab->Prop}{x:ab}{v:Value}{F:a8}(h:R w I ρ x v F):ki mA x->R w I (λr u=>ρ r u/\mA r) x v F:=by
 induction h with
 | lit h aH=>exact λ_=>.lit h aH
 | aQ aH=>exact λ_=>.aQ aH
 | dead aH=>exact λ_=>.dead aH
 | l3 aH=>exact λ_=>.l3 aH
 | @ref x _ _ j h aH =>
  intro hk;refine .ref j ⟨h,?_⟩ aH;cases hk with
  | ref _ h=>exact h
  | bl h=>cases h <;> simp [ab.isRef] at j
  | _=>simp [ab.isRef] at j
 | hz aH=>exact λ_=>.hz aH
 | mp aU au aH=>exact λ_=>.mp aU au aH
 | eR aU h1 aH=>exact λ_=>.eR aU h1 aH
 | imp aH bb aU au=>exact λ_=>.imp aH bb aU au
 | bm aH k2 bb ay aj h1 aa ah aM =>
  intro hk;cases hk with
  | ref j=>simp [ab.isRef] at j
  | bl h=>cases h with | bm h=>exact .bm aH k2 bb ay aj h1 aa λk x j=>aM k x j (.bl (h x (List.mem_of_getElem? j)))
 | cO aH bb ay h1 aa ah aM =>
  intro hk;cases hk with
  | ref j=>simp [ab.isRef] at j
  | bl h=>cases h with | cO h=>exact .cO aH bb ay h1 aa λk x j=>aM k x j (.bl (h x (List.mem_of_getElem? j)))
 | own aU aj h1 ah aP av aH aM =>
  intro hk;refine .own aU aj h1 (λk x u j hu=>aM k x u j hu ?_) aP av aH;cases hk with
  | ref j=>simp [ab.isRef] at j
  | bl h=>cases h with | own h=>exact .bl (h x (List.mem_of_getElem? j))
  | own h=>exact h x (List.mem_of_getElem? j)
 | obj aU aj h1 ah aP av aH ay aM =>
  intro hk;refine .obj aU aj h1 (λk x u j hu=>aM k x u j hu ?_) aP av aH ay;cases hk with
  | ref j=>simp [ab.isRef] at j
  | bl h=>cases h with | obj h=>exact .bl (h x (List.mem_of_getElem? j))
  | obj h=>exact h x (List.mem_of_getElem? j)
 | agg aj h1 ah aP aH aM =>
  intro hk;refine .agg aj h1 (λk x u j hu=>aM k x u j hu ?_) aP aH;cases hk with
  | ref j=>simp [ab.isRef] at j
  | bl h=>cases h with | agg h=>exact .bl (h x (List.mem_of_getElem? j))
  | agg h=>exact h x (List.mem_of_getElem? j)
 | bQ aj ah aP aH aM =>
  intro hk;refine .bQ aj (λk x u j hu=>aM k x u j hu ?_) aP aH;cases hk with
  | ref j=>simp [ab.isRef] at j
  | bl h=>cases h with | bQ h=>exact .bl (h x (List.mem_of_getElem? j))
  | bQ h=>exact h x (List.mem_of_getElem? j)
 | @dj fn first caps v1 v2 F aH h1 af h9 hN fZ fQ =>
  intro hk;have:(∀ x∈first,ki mA x)/\∀ x∈caps,ki mA x:=by
   cases hk with
   | ref j=>simp [ab.isRef] at j
   | bl h=>cases h with | dj h1 af=>exact ⟨λx j=>.bl (h1 x j),λx j=>.bl (af x j)⟩
   | dj h1 af=>exact ⟨h1,af⟩
  exact .dj aH h1 af (λk x u j hu=>fZ k x u j hu (this.1 x (List.mem_of_getElem? j))) (λk x u j hu=>fQ k x u j hu (this.2 x (List.mem_of_getElem? j)))
theorem jy.store (bn:jy w I T g Fs) {p:Place}{nd:ab}{z n:Nat}{cs:List ab}(au:bu g p=some nd) (fj:nd=.own z n cs\/nd=.obj cs) {k:Nat}{cs':List ab}(hk:k+cs'.length<=cs.length)
  {iL:List Value}{dm:Nat->a8}(hH:Hand w I (fH w T) Fs cs' iL dm) (mK:∀ x∈cs',cE x) (lS:nd=.obj cs->qH cs') (gv:∀ (J:Nat) (u:Value),iL[J]?=some u->u.oneCell'=true)
  {g2:aK}(Eu:∀ t x,g2 t=some x->cj g p (nd.eK k cs') t=some x)
  (sJ:∀ t x,g2 t=some x->∀ y,g t=some y->ki (λr=>gZ g r/\Clear p k cs'.length r/\gZ g2 r) y) (ml:∀ t z q n m new,g2 t≠some (.bB z q n m new)) (mN:g2 p.root≠none) {b:Nat}{v:Value}
  (hv:dU w T p=some v) (av:addrOf v=some ⟨b,0,none⟩) {e:TypeId}{arr:Array Value}(lx:w.heap[b]?=some (.cells arr e (0,0))) :
  ∃ b2,cF (w.setRow b (eK arr.toList k iL).toArray) I T g2 b2/\∀ t c,b2 t c->Fs t c\/∃ J,J<cs'.length/\dm J c:=by
 have k_:∀ z q n m new,nd≠.bB z q n m new:=by rcases fj with rfl | rfl <;> simp
 have hlen:=hH.len;have sh:∀ c,c≠b->(w.setRow b (eK arr.toList k iL).toArray).heap[c]?=w.heap[c]?:=λc aa=>setRow_other w b c _ aa;have KJ:(w.setRow b (eK arr.toList k iL).toArray).heap[b]?=some (.cells (eK arr.toList k iL).toArray e (0,0)):=setRow_heap w b arr _ e (0,0) lx;have adF:(w.setRow b (eK arr.toList k iL).toArray).heap.size=w.heap.size:=by simp
 generalize xh:w.setRow b (eK arr.toList k iL).toArray=w' at *
 -- the slot of the node
 obtain ⟨eC,jF⟩:∃ eC,g p.root=some eC:=by
  unfold bu at au;cases j:g p.root with
  | none=>rw [j] at au; cases au
  | some x=>exact ⟨x,rfl⟩
 have rK:eC.at p.path=some nd:=by simpa [bu,jF] using au
 obtain ⟨v0,jo,fP⟩:=bn.rel _ _ jF;have HQ:=fP.hd (by rintro z q n m new rfl; exact k_ _ _ _ _ _ (ab.tE rK).2);have mj:ki (λr=>gZ g r/\Clear p k cs'.length r/\gZ g2 r) eC:=by
  cases af:g2 p.root with
  | none=>exact absurd af mN
  | some y=>exact sJ _ _ af _ jF
 let K2:ab->Value->Prop:=λr u=>fH w T r u/\gZ g r/\Clear p k cs'.length r/\gZ g2 r;have Bk:R w I K2 eC v0 (Fs p.root):=HQ.C8 mj;obtain ⟨ik,cn,hw,dB,di,eB,kO⟩:=R.focus p.path Bk rK;have WH:ik=v:=by simp only [dU,jo,hw,Option.some.injEq] at hv; exact hv
 subst WH;have oE:cn b:=dB.Fl (z:=z) (n:=n) fj av;have same:∀ t c,Fs t c->c≠b->w'.heap[c]?=w.heap[c]?:=λ_ c _ aa=>sh c aa;have y_:∀ c,I c->w'.heap[c]?=w.heap[c]?:=λc aa=>sh c λe=>bn.bm _ b (di b oE) (e ▸ aa);have NQ:∀ t,t≠p.root->¬ Fs t b:=λt aq h=>aq (bn.eu _ _ _ h (di b oE))
 -- ways that are clear of the cells
 obtain ⟨Z',aaa⟩:=eB w' λc aa aA=>sh c λe=>aA (e ▸ oE);have Ou:∀ (ρ':ab->Value->Prop),(∀ x v,K2 x v->ρ' x v)->(∃ cY,R w' I ρ' (nd.eK k cs') ik cY/\∀ c,cY c->cn c\/∃ J,J<cs'.length/\dm J c)/\∀ J ck y,(J<k\/k+cs'.length<=J)->nd.at (J::ck)=some y->walk w' ik (J::ck)=walk w ik (J::ck):=by
  intro ρ' lA;have new:∀ (J:Nat) (x:ab) (u:Value),cs'[J]?=some x->iL[J]?=some u->R w' I ρ' x u (dm J):=by
   intro J x u j hu;have ai:J<cs'.length:=(List.getElem?_eq_some_iff.1 j).1;have:=(hH.rel J x u j hu).bl (ρ':=ρ') (mK x (List.mem_of_getElem? j));exact this.frame y_ (λ_ h=>h) (λ_ _ h=>h) λc aa=>sh c λe=>hH.off J p.root b ai (e ▸ aa) (di b oE)
  rcases fj with rfl | rfl
  ·cases dB with
   | ref j=>simp [ab.isRef] at j
   | @own _ _ _ _ b_ us bW _ aU aj h1 ah aP jm aH =>
    obtain ⟨k7,bG⟩:=aU;rcases bG with ⟨rfl,_⟩ | ⟨dX,cap,cur,rfl,q9,jt,x3,v_,z_,x4⟩
    ·simp [addrOf] at av
    ·simp only [addrOf,Option.some.injEq,Addr.mk.injEq,and_true] at av;subst av;rw [lx] at jt;cases jt;have Nq:n * z<=arr.toList.length:=by
      rw [<- k7,<- x4,List.length_take] ; simp; omega
     have ade:us.length=cs.length:=aj.symm;have mL:w'.ownsRow 0 e z (.slice (some ⟨dX,0,none⟩) n cap) n (eK us k iL):=by
      refine ⟨by rw [rj (by omega),k7],.inr ⟨dX,cap,_,rfl,q9,KJ,x3,v_,?_,?_⟩⟩
      ·rw [List.size_toArray,rj (by omega),Array.length_toList,z_]
      ·show (eK arr.toList k iL).take (n * z)=_;rw [Zv (by omega) Nq,x4]
     have M5:∀ J,J<cs.length->¬ bW J dX:=λJ ai h=>jm J dX ai h rfl;have eT:∀ J c,J<cs.length->bW J c->Fs p.root c:=λJ c ai aa=>di c ((aH c).2 (.inr ⟨J,ai,aa⟩));refine ⟨⟨_,.own (Fs:=λJ=>if k<=J/\J<k+cs'.length then dm (J - k) else bW J) mL (by rw [rj hk,rj (by omega),aj]) (λJ u hu=>?_) (λJ x u j hu=>?_) (λi J c hi ai aa e5=>?_) (λJ c ai aa vz=>?_) (λc=>Iff.rfl),λc aa=>?_⟩,λJ ck y ai al=>?_⟩
     ·rw [ri (by omega)] at hu
      split at hu
      ·exact gv _ u hu
      ·exact h1 J u hu
     ·rw [ri hk] at j;rw [ri (by omega),<- hlen] at hu;by_cases fA:k<=J/\J<k+cs'.length
      ·rw [if_pos fA] at j hu;simpa [fA] using new (J - k) x u j hu
      ·rw [if_neg fA] at j hu;have eU:J<cs.length:=(List.getElem?_eq_some_iff.1 j).1;rw [if_neg fA];exact (ah J x u j hu).frame y_ (λ_ h=>h) lA λc aa=>sh c λe=>M5 J eU (e ▸ aa)
     ·rw [rj hk] at hi ai;by_cases h1:k<=i/\i<k+cs'.length <;> by_cases af:k<=J/\J<k+cs'.length <;> simp only [h1,af,if_false] at aa e5
      ·have:=hH.eu (i - k) (J - k) c (by omega) (by omega) (by simpa using aa) (by simpa using e5);omega
      ·exact absurd (eT J c ai e5) (hH.off (i - k) _ c (by omega) (by simpa using aa))
      ·exact absurd (eT i c hi aa) (hH.off (J - k) _ c (by omega) (by simpa using e5))
      ·exact aP i J c hi ai aa e5
     ·rw [rj hk] at ai;by_cases h1:k<=J/\J<k+cs'.length
      ·rw [if_pos h1] at aa;simp only [Value.ownBlock,Option.some.injEq] at vz;subst vz;exact hH.off (J - k) p.root dX (by omega) aa (di dX oE)
      ·rw [if_neg h1] at aa; exact jm J c ai aa vz
     ·rcases aa with aa | ⟨J,ai,aa⟩
      ·exact .inl ((aH c).2 (.inl aa))
      ·rw [rj hk] at ai;by_cases h1:k<=J/\J<k+cs'.length
       ·rw [if_pos h1] at aa; exact .inr ⟨J - k,by omega,aa⟩
       ·rw [if_neg h1] at aa; exact .inl ((aH c).2 (.inr ⟨J,ai,aa⟩))
     ·obtain ⟨c,oG,aa⟩:=ab.u9 al;simp only [ab.kids] at oG;have eU:J<cs.length:=(List.getElem?_eq_some_iff.1 oG).1;have hu:us[J]?=some us[J]:=List.getElem?_eq_getElem (by omega);have nk:child w (.slice (some ⟨dX,0,none⟩) n cap) J=some us[J]:=by
       refine oU (e:=e) (z:=z) (n:=n) (us:=us) ⟨k7,.inr ⟨dX,cap,arr,rfl,q9,lx,x3,v_,z_,x4⟩⟩ hu
      have Bx:child w' (.slice (some ⟨dX,0,none⟩) n cap) J=some us[J]:=by
       refine oU mL ?_;rw [ri (by omega),if_neg (by omega)]; exact hu
      have:=R.pN (w':=w') ck (ah J c _ oG hu) aa λc aa=>sh c λe=>M5 J eU (e ▸ aa);simp [walk,nk,Bx,this]
  ·cases dB with
   | ref j=>simp [ab.isRef] at j
   | @obj _ dX b_ je bW _ aU aj h1 ah aP jm aH ay =>
    simp only [addrOf,Option.some.injEq,Addr.mk.injEq,and_true] at av;subst av;rw [lx] at aU;cases aU;have tU:cs.length=arr.toList.length:=by simp [aj]
    have eT:∀ J c,J<cs.length->bW J c->Fs p.root c:=λJ c ai aa=>di c ((aH c).2 (.inr ⟨J,ai,aa⟩));refine ⟨⟨_,.obj (Fs:=λJ=>if k<=J/\J<k+cs'.length then dm (J - k) else bW J) KJ (by rw [rj hk,List.size_toArray,rj (by omega),tU]) (λJ u hu=>?_) (λJ x u j hu=>?_) (λi J c hi ai aa e5=>?_) (λJ ai aa=>?_) (λc=>Iff.rfl) (λi J u hi hu=>?_),λc aa=>?_⟩,λJ ck y ai al=>?_⟩
    ·rw [List.getElem?_toArray,ri (by omega)] at hu
     split at hu
     ·exact gv _ u hu
     ·exact h1 J u (by simpa using hu)
    ·rw [ri hk] at j;rw [List.getElem?_toArray,ri (by omega),<- hlen] at hu;by_cases fA:k<=J/\J<k+cs'.length
     ·rw [if_pos fA] at j hu;simpa [fA] using new (J - k) x u j hu
     ·rw [if_neg fA] at j hu;have eU:J<cs.length:=(List.getElem?_eq_some_iff.1 j).1;rw [if_neg fA];exact (ah J x u j (by simpa using hu)).frame y_ (λ_ h=>h) lA λc aa=>sh c λe=>jm J eU (e ▸ aa)
    ·rw [rj hk] at hi ai;by_cases h1:k<=i/\i<k+cs'.length <;> by_cases af:k<=J/\J<k+cs'.length <;> simp only [h1,af,if_false] at aa e5
     ·have:=hH.eu (i - k) (J - k) c (by omega) (by omega) (by simpa using aa) (by simpa using e5);omega
     ·exact absurd (eT J c ai e5) (hH.off (i - k) _ c (by omega) (by simpa using aa))
     ·exact absurd (eT i c hi aa) (hH.off (J - k) _ c (by omega) (by simpa using e5))
     ·exact aP i J c hi ai aa e5
    ·rw [rj hk] at ai;by_cases h1:k<=J/\J<k+cs'.length
     ·rw [if_pos h1] at aa;exact hH.off (J - k) p.root dX (by omega) aa (di dX oE)
     ·rw [if_neg h1] at aa; exact jm J ai aa
    ·rw [ri hk] at hi;rw [List.getElem?_toArray,ri (by omega),<- hlen] at hu;by_cases Ev:k<=i/\i<k+cs'.length
     ·rw [if_pos Ev] at hi; exact absurd hi (lS rfl _ _)
     ·rw [if_neg Ev] at hi hu; exact ay i J u hi (by simpa using hu)
    ·rcases aa with aa | ⟨J,ai,aa⟩
     ·exact .inl ((aH c).2 (.inl aa))
     ·rw [rj hk] at ai;by_cases h1:k<=J/\J<k+cs'.length
      ·rw [if_pos h1] at aa; exact .inr ⟨J - k,by omega,aa⟩
      ·rw [if_neg h1] at aa; exact .inl ((aH c).2 (.inr ⟨J,ai,aa⟩))
    ·obtain ⟨c,oG,aa⟩:=ab.u9 al;simp only [ab.kids] at oG;have eU:J<cs.length:=(List.getElem?_eq_some_iff.1 oG).1;have hu:arr[J]?=some arr[J]:=Array.getElem?_eq_getElem (by omega);have nk:child w (.pointer (some ⟨dX,0,none⟩)) J=some arr[J]:=by simp [child,World.cell?,lx,hu]
     have Bx:child w' (.pointer (some ⟨dX,0,none⟩)) J=some arr[J]:=by
      have aJ:(eK arr.toList k iL)[J]?=some arr[J]:=by
       rw [ri (by omega),if_neg (by omega)]; simp
      simp [child,World.cell?,KJ,aJ]
     have:=R.pN (w':=w') ck (ah J c _ oG hu) aa λc aa=>sh c λe=>jm J eU (e ▸ aa);simp [walk,nk,Bx,this]
 have val:∀ q y,bu g q=some y->(q.root=p.root->∀ J ck,q.path=p.path++J::ck->J<k\/k+cs'.length<=J)->dU w' T q=dU w T q:=by
  intro q y a7 hF;by_cases ah:q.root=p.root
  ·have fz:eC.at q.path=some y:=by simpa [bu,ah,jF] using a7
   rcases aaa q.path y fz with ⟨ck,dM⟩ | h
   ·have xh:walk w' v0 q.path=walk w v0 q.path:=by
     rw [dM,Dm,Dm,Z',hw];simp only [Option.bind_some];cases ck with
     | nil=>rfl
     | cons J ck =>
      rw [dM,ab.GM,rK] at fz;exact (Ou (λ_ _=>True) (λ_ _ _=>trivial)).2 J ck y (hF ah J ck dM) fz
    simp [dU,ah,jo,xh]
   ·simp [dU,ah,jo,h]
  ·unfold bu at a7;cases j:g q.root with
   | none=>rw [j] at a7; cases a7
   | some x =>
    rw [j] at a7;obtain ⟨u,hu,aY⟩:=bn.rel _ _ j;cases aY with
    | tree aY =>
     have:=R.pN (w':=w') q.path aY a7 λc aa=>sh c λe=>NQ _ ah (e ▸ aa);simp [dU,hu,this]
    | bB aY=>simp [dU,hu,(ab.tE a7).1,walk]
 have slot:∀ {q:Place}{x:ab},q.path=[]->g q.root=some x->dU w' T q=dU w T q:=by
  intro q x a7 j;obtain ⟨u,hu,_⟩:=bn.rel _ _ j;simp [dU,a7,walk]
 have refs:∀ r u,K2 r u->dR w' T g2 r u:=by
  rintro r u ⟨h1,af,aJ,bx⟩;refine ⟨?_,bx⟩;cases r <;> simp only [fH,gZ] at h1 af ⊢
  case ptr q J=>obtain ⟨y,al,_⟩:=af; rw [val q y al (aJ q rfl)]; exact h1
  case bg bs q ch =>
   rcases af with ⟨_,_,af,_⟩ | ⟨aO,_,_,_,_,af,_⟩
   ·rw [val q _ af (aJ q rfl)]; exact h1
   ·rw [slot aO af]; exact h1
  case sub bs q lo ch=>obtain ⟨_,_,af,_⟩:=af; rw [val q _ af (aJ q rfl)]; exact h1
  case hr q=>obtain ⟨_,af⟩:=af; rw [val q _ af (aJ q rfl)]; exact h1
  case bB bs q ch bh cQ =>
   rcases af with ⟨_,af⟩ | ⟨aO,_,_,_,_,_,af,_⟩
   ·rw [val q _ af (aJ q rfl)]; exact h1
   ·rw [slot aO af]; exact h1
 obtain ⟨⟨Fn,UE,M6⟩,_⟩:=Ou (dR w' T g2) refs;obtain ⟨cY,HR,pn⟩:=kO w' I (dR w' T g2) _ Fn ⟨y_,λc aa aA=>sh c λe=>aA (e ▸ oE),λ_ h=>h,refs⟩ UE (λc aa e5=>by
  rcases M6 c aa with h | ⟨J,ai,h⟩
  ·exact h
  ·exact absurd e5 (hH.off J _ c ai h)) (λJ h=>by rcases fj with rfl | rfl <;> simp [ab.eK] at h)
 have HH:∀ c,cY c->Fs p.root c\/∃ J,J<cs'.length/\dm J c:=by
  intro c aa;rcases (pn c).1 aa with h | h
  ·exact .inl h.1
  ·rcases M6 c h with h | h
   ·exact .inl (di c h)
   ·exact .inr h
 let b2:Nat->a8:=λt c=>if t=p.root then cY c else g2 t≠none/\Fs t c
 have tQ:∀ t c,b2 t c->Fs t c\/∃ J,J<cs'.length/\dm J c:=by
  intro t c aa;by_cases aq:t=p.root
  ·simp only [b2,if_pos aq] at aa; rw [aq]; exact HH c aa
  ·simp only [b2,if_neg aq] at aa; exact .inl aa.2
 refine ⟨b2,⟨λt x j=>?_,λt aq c aa=>?_,λt t' c aa e5=>?_,λt c aa hi=>?_,λc aa=>by have:=bn.lt c aa; omega,λt t' z q n m new bs ch bh cQ h1=>absurd h1 (ml _ _ _ _ _ _),cI.keep bn.hV y_ λ_ h=>h⟩,tQ⟩
 ·have fL:=Eu t x j;by_cases aq:t=p.root
  ·subst aq;have I7:eC.setAt p.path (nd.eK k cs')=x:=by simpa [cj,jF] using fL
   refine ⟨v0,jo,.tree ?_⟩;have HK:b2 p.root=cY:=by funext c; simp [b2]
   rw [<- I7,HK]; exact HR
  ·rw [ya aq] at fL;obtain ⟨u,hu,aY⟩:=bn.rel t x fL;replace aY:=aY.hd (by rintro z q n m new rfl; exact ml _ _ _ _ _ _ j);have HK:b2 t=Fs t:=by
    funext c;exact propext ⟨λh=>by simp only [b2,if_neg aq] at h; exact h.2,λh=>by simp only [b2,if_neg aq]; exact ⟨by rw [j]; simp,h⟩⟩
   refine ⟨u,hu,.tree ?_⟩;rw [HK];exact (aY.C8 (sJ t x j x fL)).frame y_ (λ_ h=>h) refs λc aa=>sh c λe=>NQ t aq (e ▸ aa)
 ·by_cases ie:t=p.root
  ·exact mN (ie ▸ aq)
  ·simp only [b2,if_neg ie] at aa; exact aa.1 aq
 ·by_cases h1:t=p.root <;> by_cases af:t'=p.root
  ·rw [h1,af]
  ·simp only [b2,if_pos h1] at aa; simp only [b2,if_neg af] at e5;rcases HH c aa with h | ⟨J,ai,h⟩
   ·exact absurd (bn.eu _ _ _ h e5.2) (Ne.symm af)
   ·exact absurd e5.2 (hH.off J _ c ai h)
  ·simp only [b2,if_neg h1] at aa; simp only [b2,if_pos af] at e5;rcases HH c e5 with h | ⟨J,ai,h⟩
   ·exact absurd (bn.eu _ _ _ aa.2 h) h1
   ·exact absurd aa.2 (hH.off J _ c ai h)
  ·simp only [b2,if_neg h1] at aa; simp only [b2,if_neg af] at e5;exact bn.eu _ _ _ aa.2 e5.2
 ·rcases tQ t c aa with h | ⟨J,ai,h⟩
  ·exact bn.bm _ c h hi
  ·exact hH.bm J c ai h hi
end
end Go.Own
namespace Go.Own
open Go
set_option linter.unusedSectionVars false
variable [cI]
section
variable {P:Program}{w:World}{I:a8}{T:Array Value}{g:aK}{Fs:Nat->a8}
theorem View.Qd (h:jy w I T g Fs) {x x':ab}(hv:View g x x'):∀ {v:Value}{F:a8},R w I (fH w T) x v F->(∀ c,F c->∃ t,Fs t c)->∀ ρ',R w (λc=>I c\/∃ t,Fs t c) ρ' x' v ct:=by
 induction hv with
 | qh =>
  intro v F aY aH ρ';have:=aY.r5;subst this;exact .hz λ_ h=>h
 | mp =>
  intro v F aY aH ρ';cases aY with
  | ref j=>simp [ab.isRef] at j
  | mp aU au av=>exact .imp (λ_ h=>h) (.inr (aH _ ((av _).2 rfl))) aU au
 | hr au =>
  intro v F aY aH ρ';cases aY with
  | ref _ ah _ =>
   obtain ⟨b,av,rfl⟩:=ah;obtain ⟨ef,cn,iY,dB,di,_⟩:=h.part au (by simp);rw [av] at iY;cases iY;cases dB with
   | ref j=>simp [ab.isRef] at j
   | mp aU au av=>exact .imp (λ_ h=>h) (.inr ⟨_,di _ ((av _).2 rfl)⟩) aU au
 | self aA h1 af aJ bx cu =>
  intro v F aY aH ρ';refine ((aY.bl aA).nD λc aa=>.inl aa).empty ?_;cases aY with
  | mp=>exact absurd rfl (cu.1 _)
  | eR=>exact absurd rfl (cu.2 _ _)
  | lit _ aH | aQ aH | dead aH | l3 aH | ref _ _ aH | hz aH | bm aH | cO aH | dj aH | imp aH=>exact aH
  | own=>exact absurd rfl (h1 _ _ _)
  | obj=>exact absurd rfl (af _)
  | agg=>exact absurd rfl (aJ _)
  | bQ=>exact absurd rfl (bx _)
 | @agg cs cs' aj _ aM =>
  intro v F aY aH ρ';cases aY with
  | ref j=>simp [ab.isRef] at j
  | @agg _ vs bW _ hM h1 ah aP lP =>
   refine .agg (Fs:=λ_=>ct) (by rw [aj,hM]) h1 (λk y u al hu=>?_) (λ_ _ _ _ _ h=>h.elim) (λc=>⟨λh=>h.elim,λ⟨_,_,h⟩=>h⟩);have hk:k<cs.length:=by rw [<- aj]; exact (List.getElem?_eq_some_iff.1 al).1
   have j:=List.getElem?_eq_getElem hk;exact aM k _ y j al (ah k _ u j hu) (λc aa=>aH c ((lP c).2 ⟨k,hk,aa⟩)) ρ'
 | @dj fn cs cs' aj _ aM =>
  intro v F aY aH ρ';cases aY with
  | ref j=>simp [ab.isRef] at j
  | @dj _ _ _ v1 v2 _ tO h1 af h9 hN =>
   refine .dj (λ_ h=>h) h1 (by rw [aj,af]) (λk x u j=>by simp at j) (λk y u al hu=>?_);have hk:k<cs.length:=by rw [<- aj]; exact (List.getElem?_eq_some_iff.1 al).1
   have j:=List.getElem?_eq_getElem hk;exact aM k _ y j al (hN k _ u j hu) (λc aa=>aa.elim) ρ'
 | @own z n cs cs' aj _ aM =>
  intro v F aY aH ρ';obtain ⟨a,cap,us,bW,rfl,aA,hlen,aR,aa⟩:=aY.zI;cases a with
  | none =>
   have gR:cs=[]:=by
    cases cs with
    | nil=>rfl
    | cons c cs=>obtain ⟨b,av,_⟩:=aa 0 c rfl; cases av
   subst gR;have k3:cs'=[]:=List.eq_nil_of_length_eq_zero (by simpa using aj);subst k3;have k6:n=0:=by
    cases aY with
    | ref j=>simp [ab.isRef] at j
    | own aU =>
     obtain ⟨_,bG⟩:=aU;rcases bG with ⟨bG,aO⟩ | ⟨b,c2,cur,bG,_⟩
     ·exact aO
     ·cases bG
   subst k6;exact .hz λ_ h=>h
  | some ad =>
   obtain ⟨b,rfl,lQ⟩:=aR ad rfl;refine .bm (us:=us) (λ_ h=>h) aA (.inr (aH b lQ)) rfl (by rw [aj,hlen]) (λk y al=>?_) (λk y al=>?_) λk y al=>?_
   all_goals
    have hk:k<cs.length:=by rw [<- aj]; exact (List.getElem?_eq_some_iff.1 al).1
    have j:=List.getElem?_eq_getElem hk;obtain ⟨dX,hD,h1,af,aJ,bx⟩:=aa k _ j;cases hD
   ·exact af
   ·simpa using h1
   ·exact aM k _ y j al aJ (λc aa=>aH c (bx c aa)) ρ'
 | @obj cs cs' aj _ aM =>
  intro v F aY aH ρ';cases aY with
  | ref j=>simp [ab.isRef] at j
  | @obj _ b e arr bW _ aU hM h1 ah aP av lP =>
   refine .cO (us:=λk=>arr.getD k undef) (λ_ h=>h) (.inr (aH b ((lP b).2 (.inl rfl)))) rfl (λk y al=>?_) (λk y al=>?_) λk y al=>?_
   all_goals
    have hk:k<cs.length:=by rw [<- aj]; exact (List.getElem?_eq_some_iff.1 al).1
    have j:=List.getElem?_eq_getElem hk;have hu:arr[k]?=some arr[k]:=Array.getElem?_eq_getElem (hM ▸ hk)
   ·simpa [hu] using h1 k _ hu
   ·simp [World.cell?,aU,hu]
   ·simpa [hu] using aM k _ y j al (ah k _ _ j hu) (λc aa=>aH c ((lP c).2 (.inr ⟨k,hk,aa⟩))) ρ'
 | @bg z n N p cs cs' au aA aj _ aM =>
  intro v F aY aH ρ';obtain ⟨a,iR,cap,h1,rfl,aJ⟩:=aY.mO;obtain ⟨qw,qC,gC,hy,me,_⟩:=h.part au (by simp);rw [h1] at gC;cases gC;obtain ⟨a2,rE,us,bW,kb,k2,hlen,aR,aa⟩:=hy.zI;cases kb;have hle:n * z<=N * z:=Nat.mul_le_mul_right _ aA;have cell:∀ k,k<cs'.length->∃ x b,(cs.take (n * z))[k]?=some x/\a=some ⟨b,0,none⟩/\w.cell? ⟨b,k,none⟩=some (us k)/\(us k).oneCell'=true/\R w I (fH w T) x (us k) (bW k)/\∀ c,bW k c->qC c:=by
   intro k hk;rw [aj,List.length_take] at hk;have j:cs[k]?=some cs[k]:=List.getElem?_eq_getElem (by omega);obtain ⟨b,r⟩:=aa k _ j;exact ⟨_,b,by rw [List.getElem?_take,if_pos (by omega)]; exact j,r⟩
  cases a with
  | none =>
   have k3:cs'=[]:=by
    cases cs' with
    | nil=>rfl
    | cons c l=>obtain ⟨_,b,_,av,_⟩:=cell 0 (by simp); cases av
   subst k3;obtain ⟨_,_,kb,_,_,_,um⟩:=hy.mR;cases kb;have k6:n=0:=by
    rcases Nat.eq_zero_or_pos n with aO | aO
    ·exact aO
    ·have:=um (by omega); simp at this
   subst k6;exact .hz λ_ h=>h
  | some ad =>
   obtain ⟨b,rfl,lQ⟩:=aR ad rfl;refine .bm (us:=us) (λ_ h=>h) (by omega) (.inr ⟨_,me b lQ⟩) rfl (by rw [aj,List.length_take,hlen]; omega) (λk y al=>?_) (λk y al=>?_) λk y al=>?_
   all_goals
    obtain ⟨x,dX,j,hD,bx,cu,dL,k1⟩:=cell k (List.getElem?_eq_some_iff.1 al).1;cases hD
   ·exact cu
   ·simpa using bx
   ·exact aM k x y j al dL (λc aa=>⟨_,me c (k1 c aa)⟩) ρ'
 | @sub z lo n N p cs cs' au aA aj _ aM =>
  intro v F aY aH ρ';obtain ⟨a,iR,cap,bZ,mF,h1,rfl,IH,aJ,cu⟩:=aY.xp;obtain ⟨qw,qC,gC,hy,me,_⟩:=h.part au (by simp);rw [h1] at gC;cases gC;obtain ⟨a2,rE,us,bW,kb,k2,hlen,aR,aa⟩:=hy.zI;cases kb;have hle:lo * z+n * z<=N * z:=by rw [<- Nat.add_mul]; exact Nat.mul_le_mul_right _ aA
  have hM:cs'.length=n * z:=by rw [aj,List.length_take,List.length_drop,hlen]; omega
  have cell:∀ k,k<cs'.length->∃ x b,((cs.drop (lo * z)).take (n * z))[k]?=some x/\a=some ⟨b,0,none⟩/\w.cell? ⟨b,lo * z+k,none⟩=some (us (lo * z+k))/\(us (lo * z+k)).oneCell'=true/\R w I (fH w T) x (us (lo * z+k)) (bW (lo * z+k))/\∀ c,bW (lo * z+k) c->qC c:=by
   intro k hk;have j:cs[lo * z+k]?=some cs[lo * z+k]:=List.getElem?_eq_getElem (by omega);obtain ⟨b,r⟩:=aa _ _ j;exact ⟨_,b,by rw [List.getElem?_take,if_pos (by omega),List.getElem?_drop]; exact j,r⟩
  by_cases k6:n=0
  ·subst k6;have k3:cs'=[]:=List.eq_nil_of_length_eq_zero (by simpa using hM);subst k3;exact .hz λ_ h=>h
  ·obtain ⟨ad,rfl,rfl⟩:=cu (by omega);obtain ⟨b,rfl,lQ⟩:=aR ad rfl;refine .bm (us:=λk=>us (lo * z+k)) (λ_ h=>h) IH (.inr ⟨_,me b lQ⟩) rfl hM (λk y al=>?_) (λk y al=>?_) λk y al=>?_
   all_goals
    obtain ⟨x,dX,j,hD,bx,HG,dL,k1⟩:=cell k (List.getElem?_eq_some_iff.1 al).1;cases hD
   ·exact HG
   ·simpa using bx
   ·exact aM k x y j al dL (λc aa=>⟨_,me c (k1 c aa)⟩) ρ'
 | @rows z n p cs cs' au aj _ aM =>
  intro v F aY aH ρ';obtain ⟨a,iR,cap,h1,rfl,aJ⟩:=aY.mO;obtain ⟨v0,e,us,jo,aU,hlen,mH,av,ah⟩:=Rows.sound (w:=w) (I:=I) (T:=T) (Fs:=Fs) (λt z q n m new aq=>h.rel t _ aq) (λp z n cs au=>by obtain ⟨v,cn,h1,af,aJ,_⟩:=h.part au (by simp); exact ⟨v,cn,h1,af,aJ⟩) (λz p n v hv=>by obtain ⟨a,cap,h1,rfl⟩:=hv; exact h1) au;rw [h1] at jo;cases jo;refine Py aU hlen mH av aj λk x y u j al hu=>?_;obtain ⟨bW,j',eT⟩:=ah k x u j hu;exact aM k x y j al j' eT ρ'
 | @ptr p k z n y cs cs' au al hk aj _ aM =>
  intro v F aY aH ρ';obtain ⟨u,ad,h1,af,rfl⟩:=aY.nx;obtain ⟨qw,qC,gC,hy,me,_⟩:=h.part au (by rcases al with rfl | rfl <;> simp);rw [h1] at gC;cases gC;have cell:∀ J,J<cs'.length->∃ gF kQ wx,w.cell? ⟨ad.block,k+J,none⟩=some gF/\gF.oneCell'=true/\(cs.drop k)[J]?=some kQ/\R w I (fH w T) kQ gF wx/\(∀ c,wx c->∃ t,Fs t c):=by
   intro J ai;rw [aj,List.length_drop] at ai;have fL:cs[k+J]?=some cs[k+J]:=List.getElem?_eq_getElem (by omega);obtain ⟨b,gF,ft,mh,nk,gv,_⟩:=hy.node al fL;rw [af] at ft;cases ft;have fz:bu g (p.push (k+J))=some cs[k+J]:=by rw [tD,au]; rcases al with rfl | rfl <;> simp [ab.kids]
   by_cases gw:∃ bs gy ch bh cQ,cs[k+J]=.bB bs gy ch bh cQ
   ·obtain ⟨bs,gy,ch,bh,cQ,gw⟩:=gw;obtain ⟨b,Z6,_,_,Bx,_,bW,j'⟩:=hy.node al fL;rw [gw] at j';exact j'.k_.elim
   ·obtain ⟨pM,Gu,rV,HS,lP,_⟩:=h.part fz (λbs gy ch bh cQ e=>gw ⟨_,_,_,_,_,e⟩);rw [yi,h1] at rV;simp only [Option.bind_some] at rV;rw [nk] at rV;cases rV;exact ⟨gF,_,Gu,mh,gv,by rw [List.getElem?_drop]; exact fL,HS,λc aa=>⟨_,lP c aa⟩⟩
  obtain ⟨b,gF,ft,_⟩:=hy.node al (List.getElem?_eq_getElem hk);rw [af] at ft;cases ft;have hblk:∃ t,Fs t b:=⟨_,me b (hy.Fl al af)⟩;refine .cO (us:=λJ=>(w.cell? ⟨b,k+J,none⟩).getD undef) (λ_ h=>h) (.inr hblk) rfl (λJ iM sP=>?_) (λJ iM sP=>?_) λJ iM sP=>?_
  all_goals
   obtain ⟨gF,kQ,wx,c1,c2,j8,c4,nb⟩:=cell J (List.getElem?_eq_some_iff.1 sP).1
  ·simpa [c1] using c2
  ·simp [c1]
  ·simpa [c1] using aM J kQ iM j8 sP c4 nb ρ'
end
end Go.Own
namespace Go.Own
open Go
set_option linter.unusedSectionVars false
variable [cI]
def qp (g:aK):List (Place × ab)->aK
 | []=>g
 | (p,x)::l=>qp (cj g p x) l
structure Rb (g g2:aK) (all:List ab) (outs:List (Option ab)) (k:Nat) (p:Place) (x:ab):Prop where
 out:outs[k]?=some (some x)
 LI:bu g2 p=some .dead
 arg:(∃ z n cs,all[k]?=some (.bg z p n)/\bu g p=some (.own z n cs))\/(∃ cs,all[k]?=some (.ptr p 0)/\bu g p=some (.obj cs))
 iJ:∀ i,x≠.self i
section
variable {P:Program}{w:World}{I:a8}{T:Array Value}{g:aK}{Fs:Nat->a8}
theorem RO (h:cF w I T g Fs) {z n:Nat}{p:Place}{cs:List ab}{v:Value}{F:a8}(aY:R w I (dR w T g) (.bg z p n) v F) (au:bu g p=some (.own z n cs)):dU w T p=some v:=by
 obtain ⟨⟨a,iR,cap,h1,rfl,aJ⟩,_⟩:=aY.mO;obtain ⟨qw,qC,gC,hy,me⟩:=h.part au (by simp);rw [h1] at gC;cases gC;obtain ⟨a2,rE,kb,_⟩:=hy.mR;cases kb;exact h1
theorem RN (h:cF w I T g Fs) {p:Place}{cs:List ab}{v:Value}{F:a8}(aY:R w I (dR w T g) (.ptr p 0) v F) (au:bu g p=some (.obj cs)):dU w T p=some v:=by
 obtain ⟨⟨u,ad,h1,af,rfl⟩,_⟩:=aY.nx;obtain ⟨qw,qC,gC,hy,me⟩:=h.part au (by simp);rw [h1] at gC;cases gC;cases hy with
 | ref j=>simp [ab.isRef] at j
 | obj=>simp only [addrOf,Option.some.injEq] at af; subst af; exact h1
theorem Zj {g:aK}{p q:Place}{y:ab}(a7:bu g q=some .dead) (au:bu g p=some .dead) (cA:p≠q):bu (cj g p y) q=some .dead:=by
 by_cases ah:q.root=p.root
 ·obtain ⟨r,pp⟩:=p;obtain ⟨ck,s7⟩:=q;simp only at ah;subst ah;have EF:pp≠s7:=λe=>cA (by rw [e]);simp only [bu,cj,if_true] at *;cases j:g ck with
  | none=>rw [j] at au; cases au
  | some x =>
   rw [j] at au a7;simp only [Option.map_some];have:∀ (pp s7:List Nat) (x:ab),pp≠s7->x.at pp=some .dead->x.at s7=some .dead->(x.setAt pp y).at s7=some .dead:=by
    intro pp
    induction pp with
    | nil =>
     intro s7 x cA h1 af;simp only [ab.at,Option.some.injEq] at h1;subst h1;cases s7 with
     | nil=>exact absurd rfl cA
     | cons k q=>simp [ab.at,ab.kids] at af
    | cons k pp aM =>
     intro s7 x cA h1 af;cases s7 with
     | nil =>
      simp only [ab.at,Option.some.injEq] at af;subst af;simp [ab.at,ab.kids] at h1
     | cons J q =>
      simp only [ab.at] at h1 af;cases hk:x.kids[k]? with
      | none=>rw [hk] at h1; cases h1
      | some c =>
       rw [hk] at h1;simp only at h1;have zq:x.setAt (k::pp) y=x.uM k (c.setAt pp y):=by simp only [ab.setAt,hk]
       rw [zq];have dT:k<x.kids.length:=(List.getElem?_eq_some_iff.1 hk).1;have Iy:(x.uM k (c.setAt pp y)).kids=x.kids.set k (c.setAt pp y):=by
        cases x <;> simp [ab.uM,ab.kids] at dT ⊢
       simp only [ab.at,Iy];by_cases fA:J=k
       ·subst fA;rw [List.getElem?_set_self dT];rw [hk] at af;exact aM q c (λe=>cA (by rw [e])) h1 af
       ·rw [List.getElem?_set_ne (Ne.symm fA)];exact af
   exact this pp s7 x EF au a7
 ·rw [FM ah]; exact a7
theorem jy.qp:∀ (l:List (Place × ab)) (dm:Nat->a8) (vs:Nat->Value) {g:aK}{Fs:Nat->a8},jy w I T g Fs->(l.map (·.1)).Nodup->(∀ (J:Nat) (p:Place) (x:ab),l[J]?=some (p,x)->bu g p=some .dead/\dU w T p=some (vs J)/\R w I (fH w T) x (vs J) (dm J)/\∀ i,x≠.self i) ->
  (∀ (J t c:Nat),J<l.length->dm J c->¬ Fs t c)->(∀ (J c:Nat),J<l.length->dm J c->¬ I c)->(∀ (i J c:Nat),i<l.length->J<l.length->dm i c->dm J c->i=J) ->
  ∃ b2,jy w I T (qp g l) b2/\∀ t c,b2 t c->Fs t c\/∃ J,J<l.length/\dm J c
 | [],_,_,g,Fs,bn,_,_,_,_,_=>⟨Fs,bn,λ_ _ h=>.inl h⟩
 | (p,x)::l,dm,vs,g,Fs,bn,fj,aj,qS,ND,mJ=>by
  obtain ⟨h1,af,aJ,bx⟩:=aj 0 p x rfl;obtain ⟨v,cn,hv,dB,di,put⟩:=bn.part h1 (by simp);rw [af] at hv;cases hv;obtain ⟨fF,iW,Be,Bf⟩:=put x (dm 0) aJ (λc aa aS=>absurd aS (qS 0 _ c (by simp) aa)) (λc aa=>ND 0 c (by simp) aa) (λt c _ aa=>qS 0 t c (by simp) aa) (λi e=>absurd e (bx i));have gx:∀ t c,fF t c->Fs t c\/dm 0 c:=by
   intro t c aa;by_cases aq:t=p.root
   ·subst aq;rcases (Be c).1 aa with ⟨h,_⟩ | h
    ·exact .inl h
    ·exact .inr h
   ·rw [Bf t aq] at aa; exact .inl aa
  simp only [List.map_cons,List.nodup_cons] at fj;obtain ⟨iQ,h7,El⟩:=jy.qp l (λJ=>dm (J+1)) (λJ=>vs (J+1)) iW fj.2 (λJ q y ai=>by
    obtain ⟨aB,a2,a3⟩:=aj (J+1) q y (by simpa using ai);refine ⟨Zj aB h1 ?_,a2,a3⟩;rintro rfl;exact fj.1 (List.mem_map.2 ⟨(p,y),List.mem_of_getElem? ai,rfl⟩))
   (λJ t c ai aa aS=>by
    rcases gx t c aS with h | h
    ·exact qS (J+1) t c (by simpa using ai) aa h
    ·have:=mJ (J+1) 0 c (by simpa using ai) (by simp) aa h; omega)
   (λJ c ai aa=>ND (J+1) c (by simpa using ai) aa)
   (λi J c hi ai h1 af=>by have:=mJ (i+1) (J+1) c (by simpa using hi) (by simpa using ai) h1 af; omega)
  refine ⟨iQ,h7,λt c aa=>?_⟩;rcases El t c aa with h | ⟨J,ai,h⟩
  ·rcases gx t c h with h | h
   ·exact .inl h
   ·exact .inr ⟨0,by simp,h⟩
  ·exact .inr ⟨J+1,by simpa using ai,h⟩
end
end Go.Own
namespace Go.Own
open Go
set_option linter.unusedSectionVars false
variable [cI]
inductive gY:ab->ab->Prop
 | refl {x:ab}:gY x x
 | Cp {z:Nat}:gY .aQ (.own z 0 [])
 | oP {x y:ab}(aA:cE x) (h:View (λ_=>none) x y):gY x y
 | own {z n:Nat}{cs cs':List ab}(aj:cs'.length=cs.length) (h:∀ (k:Nat) (x y:ab),cs[k]?=some x->cs'[k]?=some y->gY x y):gY (.own z n cs) (.own z n cs')
 | obj {cs cs':List ab}(aj:cs'.length=cs.length) (h:∀ (k:Nat) (x y:ab),cs[k]?=some x->cs'[k]?=some y->gY x y):gY (.obj cs) (.obj cs')
 | agg {cs cs':List ab}(aj:cs'.length=cs.length) (h:∀ (k:Nat) (x y:ab),cs[k]?=some x->cs'[k]?=some y->gY x y):gY (.agg cs) (.agg cs')
theorem View.up {g g':aK}(h:∀ t x,g t=some x->g' t=some x) {x y:ab}(hv:View g x y):View g' x y:=by
 induction hv with
 | qh=>exact .qh
 | self h1 af aJ bx cu dL=>exact .self h1 af aJ bx cu dL
 | mp=>exact .mp
 | hr au=>exact .hr (kC h au)
 | agg aj _ aM=>exact .agg aj aM
 | own aj _ aM=>exact .own aj aM
 | obj aj _ aM=>exact .obj aj aM
 | dj aj _ aM=>exact .dj aj aM
 | bg au aA aj _ aM=>exact .bg (kC h au) aA aj aM
 | sub au aA aj _ aM=>exact .sub (kC h au) aA aj aM
 | ptr au al hk aj _ aM=>exact .ptr (kC h au) al hk aj aM
 | rows au aj _ aM=>exact .rows (au.mono (λau=>kC h au) h) aj aM
theorem View.iJ {g:aK}{x y:ab}{J:Nat × Nat}(h:View g x y) (e:y=.self J):x=.self J:=by
 cases h <;> first | exact e | cases e
theorem gY.iJ {x y:ab}{J:Nat × Nat}(h:gY x y) (e:y=.self J):x=.self J:=by
 cases h <;> first | exact e | exact View.iJ ‹_› e | cases e
theorem Fo {F:ab->ab->Prop}{cs cs':List ab}(aj:cs'.length=cs.length) (h:∀ (k:Nat) (x y:ab),cs[k]?=some x->cs'[k]?=some y->F x y) (aH:∀ x y J,F x y->y=.self J->x=.self J) (k:Nat) (J:Nat × Nat) (hk:cs'[k]?=some (.self J)):cs[k]?=some (.self J):=by
 have aT:k<cs.length:=aj ▸ (List.getElem?_eq_some_iff.1 hk).1;rw [List.getElem?_eq_getElem aT];exact congrArg some (aH _ _ J (h k _ _ (List.getElem?_eq_getElem aT) hk) rfl)
theorem xH {cs cs':List ab}(aj:cs'.length=cs.length) (aA:∀ x∈cs,cE x) (aM:∀ (k:Nat) (x y:ab),cs[k]?=some x->cs'[k]?=some y->cE x->cE y):∀ y∈cs',cE y:=by
 intro y al;obtain ⟨k,hk⟩:=List.getElem?_of_mem al;have dT:=(List.getElem?_eq_some_iff.1 hk).1;have j:=List.getElem?_eq_getElem (aj ▸ dT:k<cs.length)
 grind
section
variable {w:World}{I:a8}
theorem R.oP {ρ:ab->Value->Prop}{x y:ab}{v:Value}{F:a8}(aY:R w I ρ x v F) (aA:cE x) (h:View (λ_=>none) x y) (bb:∀ c,F c->¬ I c) (aT:∀ c,I c->c<w.heap.size) (iI:cI.q w I):R w (λc=>I c\/F c) ρ y v ct:=by
 have bn:jy w I #[v] (λt=>if t=0 then some x else none) (λt c=>t=0/\F c):=by
  refine ⟨λt z aW=>?_,λt aq c aa=>?_,λt t' c aa e5=>aa.1.trans e5.1.symm,λt c aa=>bb c aa.2,aT,iI⟩
  ·by_cases aO:t=0
   ·subst aO;rw [if_pos rfl] at aW;cases aW;exact ⟨v,rfl,.tree ((aY.bl aA).y5 λc=>⟨λh=>⟨rfl,h⟩,λh=>h.2⟩)⟩
   ·rw [if_neg aO] at aW; cases aW
  ·rw [if_pos aa.1] at aq; cases aq
 have:=View.Qd bn (h.up λ_ _ h=>by cases h) (aY.bl aA) (λc aa=>⟨0,rfl,aa⟩) ρ;exact this.nD λc aa=>by
  rcases aa with h | ⟨t,_,h⟩
  ·exact .inl h
  ·exact .inr h
theorem gY.bl {x y:ab}(h:gY x y):cE x->cE y:=by
 induction h with
 | refl=>exact id
 | Cp=>exact λ_=>.own (by simp)
 | oP aA h =>
  intro _;have key:∀ {x y:ab},View (λ_=>none) x y->cE x->cE y:=by
   intro x y h
   induction h with
   | qh=>exact λ_=>.bm (by simp)
   | self h=>exact λ_=>h
   | mp=>exact λ_=>.imp
   | hr au=>simp [bu] at au
   | agg aj _ aM=>intro aA; cases aA with | agg aA=>exact .agg (xH aj aA aM)
   | own aj _ aM=>intro aA; cases aA with | own aA=>exact .bm (xH aj aA aM)
   | obj aj _ aM=>intro aA; cases aA with | obj aA=>exact .cO (xH aj aA aM)
   | dj aj _ aM=>intro aA; cases aA with | dj h1 af=>exact .dj h1 (xH aj af aM)
   | bg au=>simp [bu] at au
   | sub au=>simp [bu] at au
   | ptr au=>simp [bu] at au
   | rows au =>
    cases au with
    | own au=>simp [bu] at au
    | bB aq=>cases aq
  grind
 | own aj _ aM=>intro aA; cases aA with | own aA=>exact .own (xH aj aA aM)
 | obj aj _ aM=>intro aA; cases aA with | obj aA=>exact .obj (xH aj aA aM)
 | agg aj _ aM=>intro aA; cases aA with | agg aA=>exact .agg (xH aj aA aM)
theorem Hy {ρ:ab->Value->Prop}{cs cs':List ab}{get:Nat->Option Value}{Fs:Nat->a8}{F B:a8}(aj:cs'.length=cs.length)
  (aN:∀ k,k<cs.length->∃ u,get k=some u)
  (aP:∀ (J k c:Nat),J<cs.length->k<cs.length->Fs J c->Fs k c->J=k) (av:∀ k c,k<cs.length->Fs k c->¬ B c) (aH:∀ c,F c↔B c\/∃ k,k<cs.length/\Fs k c)
  (aM:∀ (k:Nat) (x y:ab),cs[k]?=some x->cs'[k]?=some y->∀ u,get k=some u->∃ cY,(∀ c,cY c->Fs k c)/\R w (λc=>I c\/(Fs k c/\¬ cY c)) ρ y u cY) :
  ∃ qD:Nat->a8,(∀ k c,k<cs'.length->qD k c->Fs k c)/\(∀ (k:Nat) (y:ab) (u:Value),cs'[k]?=some y->get k=some u->R w (λc=>I c\/(F c/\¬ (B c\/∃ J,J<cs'.length/\qD J c))) ρ y u (qD k)):=by
 have:∀ k,∃ G:a8,k<cs.length->(∀ c,G c->Fs k c)/\∀ (y:ab) (u:Value),cs'[k]?=some y->get k=some u->R w (λc=>I c\/(Fs k c/\¬ G c)) ρ y u G:=by
  intro k;by_cases hk:k<cs.length
  ·have j:=List.getElem?_eq_getElem hk;have al:=List.getElem?_eq_getElem (aj ▸ hk:k<cs'.length);obtain ⟨u,hu⟩:=aN k hk
   simp_all
  ·exact ⟨ct,λh=>absurd h hk⟩
 obtain ⟨qD,M7⟩:=Classical.axiomOfChoice this;refine ⟨qD,λk c hk=>(M7 k (aj ▸ hk)).1 c,λk y u al hu=>?_⟩;have hk:k<cs'.length:=(List.getElem?_eq_some_iff.1 al).1;have jN:k<cs.length:=aj ▸ hk;refine ((M7 k jN).2 y u al hu).nD λc aa=>?_
 grind
theorem R.dS {ρ:ab->Value->Prop}{x y:ab}(h:gY x y):∀ {v:Value}{F:a8},R w I ρ x v F->cE x->(∀ c,F c->¬ I c)->(∀ c,I c->c<w.heap.size)->cI.q w I->∃ cY,(∀ c,cY c->F c)/\R w (λc=>I c\/(F c/\¬ cY c)) ρ y v cY:=by
 induction h with
 | refl=>exact λaY _ _ _ _=>⟨_,λ_ h=>h,aY.nD λ_ h=>.inl h⟩
 | Cp =>
  intro v F aY _ _ _ _;have:=aY.r5;subst this;refine ⟨ct,λ_ h=>h.elim,.own (e:=0) (us:=[]) (Fs:=λ_=>ct) ⟨by simp,.inl ⟨rfl,rfl⟩⟩ rfl (by simp) (by simp) (λ_ _ _ _ _ h=>h.elim) (λ_ _ _ h=>h.elim) λc=>⟨λh=>h.elim,λh=>?_⟩⟩;rcases h with h | ⟨_,_,h⟩
  ·cases h
  ·exact h
 | oP aA h=>exact λaY _ bb aT iI=>⟨ct,λ_ h=>h.elim,(aY.oP aA h bb aT iI).nD λc aa=>aa.elim .inl λh=>.inr ⟨h,λh=>h⟩⟩
 | @own z n cs cs' aj _ aM =>
  intro v F aY aA bb aT iI;cases aY with
  | ref j=>simp [ab.isRef] at j
  | @own _ _ _ _ e us Fs _ aU hM h1 ah aP av aH =>
   cases aA with
   | own aA =>
    obtain ⟨qD,p5,Bg⟩:=Hy (get:=λk=>us[k]?) (B:=λc=>v.ownBlock=some c) aj (λk hk=>⟨_,List.getElem?_eq_getElem (hM ▸ hk)⟩) aP (λk c hk aa e=>av k c hk aa e) aH (λk x y j al u hu=>aM k x y j al (ah k x u j hu) (aA x (List.mem_of_getElem? j)) (λc aa=>bb c ((aH c).2 (.inr ⟨k,(List.getElem?_eq_some_iff.1 j).1,aa⟩))) aT iI);exact ⟨_,λc aa=>(aH c).2 (aa.imp id λ⟨k,hk,h⟩=>⟨k,aj ▸ hk,p5 k c hk h⟩),
     .own aU (by rw [aj,hM]) h1 (λk y u al hu=>Bg k y u al hu) (λJ k c ai hk af aJ=>aP J k c (aj ▸ ai) (aj ▸ hk) (p5 J c ai af) (p5 k c hk aJ)) (λk c hk aa=>av k c (aj ▸ hk) (p5 k c hk aa)) (λc=>Iff.rfl)⟩
 | @obj cs cs' aj nV aM =>
  intro v F aY aA bb aT iI;cases aY with
  | ref j=>simp [ab.isRef] at j
  | @obj _ b e arr Fs _ aU hM h1 ah aP av aH ay =>
   cases aA with
   | obj aA =>
    obtain ⟨qD,p5,Bg⟩:=Hy (get:=λk=>arr[k]?) (B:=λc=>c=b) aj (λk hk=>⟨_,Array.getElem?_eq_getElem (hM ▸ hk)⟩) aP (λk c hk aa e=>av k hk (e ▸ aa)) aH (λk x y j al u hu=>aM k x y j al (ah k x u j hu) (aA x (List.mem_of_getElem? j)) (λc aa=>bb c ((aH c).2 (.inr ⟨k,(List.getElem?_eq_some_iff.1 j).1,aa⟩))) aT iI);exact ⟨_,λc aa=>(aH c).2 (aa.imp id λ⟨k,hk,h⟩=>⟨k,aj ▸ hk,p5 k c hk h⟩),
     .obj aU (by rw [aj,hM]) h1 (λk y u al hu=>Bg k y u al hu) (λJ k c ai hk af aJ=>aP J k c (aj ▸ ai) (aj ▸ hk) (p5 J c ai af) (p5 k c hk aJ)) (λk hk aa=>av k (aj ▸ hk) (p5 k b hk aa)) (λc=>Iff.rfl) (λk J u hk=>ay k J u (Fo aj nV (λ_ _ _=>gY.iJ) k J hk))⟩
 | @agg cs cs' aj _ aM =>
  intro v F aY aA bb aT iI;cases aY with
  | ref j=>simp [ab.isRef] at j
  | @agg _ vs Fs _ hM h1 ah aP aH =>
   cases aA with
   | agg aA =>
    obtain ⟨qD,p5,Bg⟩:=Hy (get:=λk=>vs[k]?) (B:=λ_=>False) aj (λk hk=>⟨_,Array.getElem?_eq_getElem (hM ▸ hk)⟩) aP (λk c hk aa e=>e) (λc=>(aH c).trans ⟨.inr,λh=>h.elim (λh=>h.elim) id⟩) (λk x y j al u hu=>aM k x y j al (ah k x u j hu) (aA x (List.mem_of_getElem? j)) (λc aa=>bb c ((aH c).2 ⟨k,(List.getElem?_eq_some_iff.1 j).1,aa⟩)) aT iI);refine ⟨λc=>∃ k,k<cs'.length/\qD k c,λc ⟨k,hk,h⟩=>(aH c).2 ⟨k,aj ▸ hk,p5 k c hk h⟩,
     .agg (Fs:=qD) (by rw [aj,hM]) h1 (λk y u al hu=>(Bg k y u al hu).nD λc aa=>aa.imp id λ⟨h1,af⟩=>⟨h1,λh=>af (.inr h)⟩) (λJ k c ai hk af aJ=>aP J k c (aj ▸ ai) (aj ▸ hk) (p5 J c ai af) (p5 k c hk aJ)) (λc=>Iff.rfl)⟩
end
end Go.Own
