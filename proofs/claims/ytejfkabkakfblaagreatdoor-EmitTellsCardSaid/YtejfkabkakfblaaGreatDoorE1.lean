/- Parts of the proof that the last text states. -/
import Derived.Orders
import Derived.WalkKit
namespace Go.Own
open Go
structure Place where
 root:Nat
 path:List Nat
 deriving DecidableEq,Repr
def Place.push (p:Place) (k:Nat):Place:=⟨p.root,p.path++[k]⟩
inductive ab where
 | lit (v:Value)
 | aT
 | bk (z n:Nat) (cs:List ab)
 | own (z n:Nat) (cs:List ab)
 | obj (cs:List ab)
 | agg (cs:List ab)
 | bQ (cs:List ab)
 | cK (cs:List ab)
 | ptr (p:Place) (k:Nat)
 | bf (z:Nat) (p:Place) (n:Nat)
 | sub (z:Nat) (p:Place) (lo n:Nat)
 | bC (z:Nat) (p:Place) (n m:Nat) (new:List ab)
 | ds (fn:Fn) (first caps:List ab)
 | mp (p:Array MapEntry->Nat->Prop)
 | hq (p:Place)
 | imp (p:Array MapEntry->Nat->Prop)
 | dead
 | self (k:Nat × Nat)
 | eV (t:Nat) (us:List Value)
 deriving Inhabited
def qF (cs:List ab):Prop:=∀ (k:Nat) (J:Nat × Nat),cs[k]?≠some (.self J)
def sk (x:ab):Prop:=∀ cs,x=.agg cs->qF cs
abbrev a8:=Nat->Prop
def ab.isRef:ab->Bool
 | .ptr .. | .bf .. | .sub .. | .hq ..=>true
 | _=>false
inductive R (w:World) (I:a8) (ρ:ab->Value->Prop):ab->Value->a8->Prop
 | lit {v:Value}{F:a8}(hv:v.oneCell'=true) (aI:∀ c,¬ F c):R w I ρ (.lit v) v F
 | aT {F:a8}(aI:∀ c,¬ F c):R w I ρ .aT (.slice none 0 0) F
 | dead {v:Value}{F:a8}(aI:∀ c,¬ F c):R w I ρ .dead v F
 | eV {t:Nat}{us:List Value}{v:Value}{F:a8}(aV:w.ownsRow 0 t 1 v us.length us) (h1:v.oneCell'=true) (aI:∀ c,F c↔v.ownBlock=some c):R w I ρ (.eV t us) v F
 | l6 {k:Nat × Nat}{v:Value}{F:a8}(aI:∀ c,¬ F c):R w I ρ (.self k) v F
 | ref {x:ab}{v:Value}{F:a8}(j:x.isRef=true) (h:ρ x v) (aI:∀ c,¬ F c):R w I ρ x v F
 | hB {z cap:Nat}{a:Option Addr}{F:a8}(aI:∀ c,¬ F c):R w I ρ (.bk z 0 []) (.slice a 0 cap) F
 | bk {z n cap:Nat}{cs:List ab}{ad:Addr}{us:Nat->Value}{F:a8}(aI:∀ c,¬ F c) (k6:n<=cap) (bb:I ad.block) (az:ad.spot=none) (ai:cs.length=n * z) (h1:∀ (k:Nat) (x:ab),cs[k]?=some x->(us k).oneCell'=true)
   (aa:∀ (k:Nat) (x:ab),cs[k]?=some x->w.cell? ⟨ad.block,ad.off+k,none⟩=some (us k)) (ah:∀ (k:Nat) (x:ab),cs[k]?=some x->R w I ρ x (us k) (λ_=>False)) :
   R w I ρ (.bk z n cs) (.slice (some ad) n cap) F
 | cK {cs:List ab}{ad:Addr}{us:Nat->Value}{F:a8}(aI:∀ c,¬ F c) (bb:I ad.block) (az:ad.spot=none) (h1:∀ (k:Nat) (x:ab),cs[k]?=some x->(us k).oneCell'=true)
   (aa:∀ (k:Nat) (x:ab),cs[k]?=some x->w.cell? ⟨ad.block,ad.off+k,none⟩=some (us k)) (ah:∀ (k:Nat) (x:ab),cs[k]?=some x->R w I ρ x (us k) (λ_=>False)) :
   R w I ρ (.cK cs) (.pointer (some ad)) F
 | own {z n:Nat}{cs:List ab}{v:Value}{e:TypeId}{us:List Value}{Fs:Nat->a8}{F:a8}
   (aV:w.ownsRow 0 e z v n us) (ai:cs.length=us.length) (h1:∀ (k:Nat) (u:Value),us[k]?=some u->u.oneCell'=true)
   (ah:∀ (k:Nat) (x:ab) (u:Value),cs[k]?=some x->us[k]?=some u->R w I ρ x u (Fs k))
   (aP:∀ (J k c:Nat),J<cs.length->k<cs.length->Fs J c->Fs k c->J=k) (av:∀ (k c:Nat),k<cs.length->Fs k c->v.ownBlock≠some c)
   (aI:∀ c,F c↔v.ownBlock=some c\/∃ k,k<cs.length/\Fs k c):R w I ρ (.own z n cs) v F
 | obj {cs:List ab}{b:Nat}{e:TypeId}{arr:Array Value}{Fs:Nat->a8}{F:a8}
   (aV:w.heap[b]?=some (.cells arr e (0,0))) (ai:cs.length=arr.size) (h1:∀ (k:Nat) (u:Value),arr[k]?=some u->u.oneCell'=true)
   (ah:∀ (k:Nat) (x:ab) (u:Value),cs[k]?=some x->arr[k]?=some u->R w I ρ x u (Fs k))
   (aP:∀ (J k c:Nat),J<cs.length->k<cs.length->Fs J c->Fs k c->J=k) (av:∀ (k:Nat),k<cs.length->¬ Fs k b)
   (aI:∀ c,F c↔c=b\/∃ k,k<cs.length/\Fs k c) (az:∀ (k:Nat) (J:Nat × Nat) (u:Value),cs[k]?=some (.self J)->arr[k]?=some u->(u=.pointer none/\e=J.2)\/u=.pointer (some ⟨b,J.1,none⟩)):R w I ρ (.obj cs) (.pointer (some ⟨b,0,none⟩)) F
 | agg {cs:List ab}{vs:Array Value}{Fs:Nat->a8}{F:a8}(ai:cs.length=vs.size) (h1:∀ (k:Nat) (u:Value),vs[k]?=some u->u.oneCell'=true)
   (ah:∀ (k:Nat) (x:ab) (u:Value),cs[k]?=some x->vs[k]?=some u->R w I ρ x u (Fs k))
   (aP:∀ (J k c:Nat),J<cs.length->k<cs.length->Fs J c->Fs k c->J=k)
   (aI:∀ c,F c↔∃ k,k<cs.length/\Fs k c):R w I ρ (.agg cs) (.agg vs) F
 | bQ {cs:List ab}{vs:Array Value}{Fs:Nat->a8}{F:a8}(ai:cs.length=vs.size)
   (ah:∀ (k:Nat) (x:ab) (u:Value),cs[k]?=some x->vs[k]?=some u->R w I ρ x u (Fs k))
   (aP:∀ (J k c:Nat),J<cs.length->k<cs.length->Fs J c->Fs k c->J=k)
   (aI:∀ c,F c↔∃ k,k<cs.length/\Fs k c):R w I ρ (.bQ cs) (.tuple vs) F
 | ds {fn:Fn}{first caps:List ab}{v1 v2:Array Value}{F:a8}(aI:∀ c,¬ F c) (h1:first.length=v1.size) (af:caps.length=v2.size)
   (iA:∀ (k:Nat) (x:ab) (u:Value),first[k]?=some x->v1[k]?=some u->R w I ρ x u (λ_=>False))
   (ie:∀ (k:Nat) (x:ab) (u:Value),caps[k]?=some x->v2[k]?=some u->R w I ρ x u (λ_=>False)):R w I ρ (.ds fn first caps) (.func fn v1 v2) F
 | mp {p:Array MapEntry->Nat->Prop}{b:Nat}{es:Array MapEntry}{clock:Nat}{F:a8}(aV:w.heap[b]?=some (.map es clock)) (au:p es clock) (aI:∀ c,F c↔c=b):R w I ρ (.mp p) (.map (some b)) F
 | imp {p:Array MapEntry->Nat->Prop}{b:Nat}{es:Array MapEntry}{clock:Nat}{F:a8}(aI:∀ c,¬ F c) (bb:I b) (aV:w.heap[b]?=some (.map es clock)) (au:p es clock):R w I ρ (.imp p) (.map (some b)) F
theorem R.yY {w:World}{I:a8}{ρ:ab->Value->Prop}{x:ab}{v:Value}{F cY:a8}(h:R w I ρ x v F) (aI:∀ c,F c↔cY c):R w I ρ x v cY:=by
 have:F=cY:=funext λc=>propext (aI c)
 grind
theorem R.lt {w:World}{I:a8}{ρ:ab->Value->Prop}{x:ab}{v:Value}{F:a8}(h:R w I ρ x v F):∀ c,F c->c<w.heap.size:=by
 induction h with
 | lit _ aI | aT aI | dead aI | l6 aI | ref _ _ aI | hB aI | bk aI | cK aI | ds aI | imp aI=>exact λc aa=>absurd aa (aI c)
 | eV aV _ aI=>exact λc aa=>(aV.lt c ((aI c).1 aa)).2
 | mp aV _ aI=>exact λc aa=>by rw [(aI c).1 aa]; exact (Array.getElem?_eq_some_iff.1 aV).1
 | own aV ai h1 ah aP av aI aM =>
  intro c aa;rcases (aI c).1 aa with h | ⟨k,hk,h⟩
  ·exact (aV.lt c h).2
  ·exact aM k _ _ (List.getElem?_eq_getElem hk) (List.getElem?_eq_getElem (ai ▸ hk)) c h
 | obj aV ai h1 ah aP av aI az aM =>
  intro c aa;rcases (aI c).1 aa with rfl | ⟨k,hk,h⟩
  ·exact (Array.getElem?_eq_some_iff.1 aV).1
  ·exact aM k _ _ (List.getElem?_eq_getElem hk) (Array.getElem?_eq_getElem (ai ▸ hk)) c h
 | agg ai h1 ah aP aI aM =>
  intro c aa;obtain ⟨k,hk,h⟩:=(aI c).1 aa;exact aM k _ _ (List.getElem?_eq_getElem hk) (Array.getElem?_eq_getElem (ai ▸ hk)) c h
 | bQ ai ah aP aI aM =>
  intro c aa;obtain ⟨k,hk,h⟩:=(aI c).1 aa;exact aM k _ _ (List.getElem?_eq_getElem hk) (Array.getElem?_eq_getElem (ai ▸ hk)) c h
theorem r_ {w w':World}{e:TypeId}{z n:Nat}{v:Value}{us:List Value}(h:w.ownsRow 0 e z v n us) (av:∀ c,v.ownBlock=some c->w'.heap[c]?=w.heap[c]?):w'.ownsRow 0 e z v n us:=by
 obtain ⟨h1,af⟩:=h;refine ⟨h1,?_⟩;rcases af with af | ⟨g,cap,cur,rfl,aN,bH,rest⟩
 ·grind
 ·exact .inr ⟨g,cap,cur,rfl,aN,by rw [av g rfl]; exact bH,rest⟩
theorem R.frame {w w':World}{I I':a8}{ρ ρ':ab->Value->Prop}{x:ab}{v:Value}{F:a8}(h:R w I ρ x v F)
  (bb:∀ c,I c->w'.heap[c]?=w.heap[c]?) (n0:∀ c,I c->I' c) (lG:∀ x v,ρ x v->ρ' x v) :
  (∀ c,F c->w'.heap[c]?=w.heap[c]?)->R w' I' ρ' x v F:=by
 induction h with
 | lit hv aI=>exact λ_=>.lit hv aI
 | aT aI=>exact λ_=>.aT aI
 | dead aI=>exact λ_=>.dead aI
 | l6 aI=>exact λ_=>.l6 aI
 | ref j h aI=>exact λ_=>.ref j (lG _ _ h) aI
 | hB aI=>exact λ_=>.hB aI
 | bk aI k6 hi az ai h1 aa ah aM =>
  exact λ_=>.bk aI k6 (n0 _ hi) az ai h1 (λk x hk=>(World.cell?_of_block (a:=⟨_,_,none⟩) (bb _ hi)).trans (aa k x hk)) λk x hk=>aM k x hk (λc aa=>aa.elim)
 | cK aI hi az h1 aa ah aM =>
  exact λ_=>.cK aI (n0 _ hi) az h1 (λk x hk=>(World.cell?_of_block (a:=⟨_,_,none⟩) (bb _ hi)).trans (aa k x hk)) λk x hk=>aM k x hk (λc aa=>aa.elim)
 | own aV ai h1 ah aP av aI aM =>
  intro aS;refine .own (r_ aV λc aa=>aS c ((aI c).2 (.inl aa))) ai h1 (λk x u j hu=>aM k x u j hu λc aa=>aS c ((aI c).2 (.inr ⟨k,?_,aa⟩))) aP av aI;exact (List.getElem?_eq_some_iff.1 j).1
 | obj aV ai h1 ah aP av aI az aM =>
  intro aS;refine .obj ((aS _ ((aI _).2 (.inl rfl))).trans aV) ai h1 (λk x u j hu=>aM k x u j hu λc aa=>aS c ((aI c).2 (.inr ⟨k,?_,aa⟩))) aP av aI az;exact (List.getElem?_eq_some_iff.1 j).1
 | agg ai h1 ah aP aI aM =>
  intro aS;refine .agg ai h1 (λk x u j hu=>aM k x u j hu λc aa=>aS c ((aI c).2 ⟨k,?_,aa⟩)) aP aI;exact (List.getElem?_eq_some_iff.1 j).1
 | bQ ai ah aP aI aM =>
  intro aS;refine .bQ ai (λk x u j hu=>aM k x u j hu λc aa=>aS c ((aI c).2 ⟨k,?_,aa⟩)) aP aI;exact (List.getElem?_eq_some_iff.1 j).1
 | imp aI hi aV au=>exact λ_=>.imp aI (n0 _ hi) ((bb _ hi).trans aV) au
 | eV aV h1 aI=>exact λaS=>.eV (r_ aV λc aa=>aS c ((aI c).2 aa)) h1 aI
 | mp aV au aI=>exact λaS=>.mp ((aS _ ((aI _).2 rfl)).trans aV) au aI
 | ds aI h1 af iA ie gj fX=>exact λ_=>.ds aI h1 af (λk x u j hu=>gj k x u j hu λc aa=>aa.elim) (λk x u j hu=>fX k x u j hu λc aa=>aa.elim)
def ab.kids:ab->List ab
 | .own _ _ cs=>cs
 | .obj cs=>cs
 | .agg cs=>cs
 | .bQ cs=>cs
 | _=>[]
def ab.uN (x:ab) (k:Nat) (y:ab):ab :=
 match x with
 | .own z n cs=>.own z n (cs.set k y)
 | .obj cs=>.obj (cs.set k y)
 | .agg cs=>.agg (cs.set k y)
 | .bQ cs=>.bQ (cs.set k y)
 | x=>x
def ab.at:ab->List Nat->Option ab
 | x,[]=>some x
 | x,k::p =>
  match x.kids[k]? with
  | some c=>c.at p
  | none=>none
def ab.setAt:ab->List Nat->ab->ab
 | _,[],y=>y
 | x,k::p,y =>
  match x.kids[k]? with
  | some c=>x.uN k (c.setAt p y)
  | none=>x
theorem ab.Y' {x y z:ab}{k:Nat}{J:Nat × Nat}{p:List Nat}(h:x.at (k::p)=some y):x.setAt (k::p) z≠.self J:=by
 intro e;simp only [ab.at,ab.setAt] at h e;cases hk:x.kids[k]? with
 | none=>rw [hk] at h; cases h
 | some c =>
  rw [hk] at e;cases x <;> simp [ab.uN,ab.kids] at e hk
def child (w:World) (v:Value) (k:Nat):Option Value :=
 match v with
 | .agg cs=>cs[k]?
 | .tuple cs=>cs[k]?
 | .slice (some a) _ _=>w.cell? ⟨a.block,a.off+k,none⟩
 | .pointer (some a)=>w.cell? ⟨a.block,a.off+k,none⟩
 | _=>none
def walk (w:World):Value->List Nat->Option Value
 | v,[]=>some v
 | v,k::p =>
  match child w v k with
  | some u=>walk w u p
  | none=>none
theorem oV {w:World}{e:TypeId}{z n:Nat}{v:Value}{us:List Value}(h:w.ownsRow 0 e z v n us) {k:Nat}{u:Value}(hu:us[k]?=some u):child w v k=some u:=by
 obtain ⟨h1,af⟩:=h;rcases af with ⟨rfl,rfl⟩ | ⟨g,cap,cur,rfl,aN,bH,aA,aa,az,ar⟩
 ·grind
 ·rw [<- ar] at hu;rw [List.getElem?_take] at hu
  split at hu
  ·simpa [child,World.cell?,bH] using hu
  grind
theorem PX {α:Type}{l:List α}{k J:Nat}{y x:α}(h:(l.set k y)[J]?=some x):(J=k/\x=y/\k<l.length)\/(J≠k/\l[J]?=some x):=by
 grind
structure Out (w w':World) (I I':a8) (ρ ρ':ab->Value->Prop) (F cq:a8):Prop where
 bk:∀ c,I c->w'.heap[c]?=w.heap[c]?
 rest:∀ c,F c->¬ cq c->w'.heap[c]?=w.heap[c]?
 more:∀ c,I c->I' c
 ref:∀ x v,ρ x v->ρ' x v
theorem Out.mono {w w':World}{I I':a8}{ρ ρ':ab->Value->Prop}{F cq cY je:a8}(h:Out w w' I I' ρ ρ' F cq) (h1:∀ c,cY c->F c) (af:∀ c,cY c->¬ je c->¬ cq c):Out w w' I I' ρ ρ' cY je :=
 ⟨h.bk,λc aa aA=>h.rest c (h1 c aa) (af c aa aA),h.more,h.ref⟩
theorem R.outside {w w':World}{I I':a8}{ρ ρ':ab->Value->Prop}{F cq:a8}(o:Out w w' I I' ρ ρ' F cq) {x:ab}{v:Value}{G:a8}(h:R w I ρ x v G) (c':∀ c,G c->F c/\¬ cq c):R w' I' ρ' x v G :=
 h.frame o.bk o.more o.ref λc aa=>o.rest c (c' c aa).1 (c' c aa).2
theorem ES {w w':World}{I I':a8}{ρ ρ':ab->Value->Prop}{cs:List ab}{get:Nat->Option Value}{Fs:Nat->a8}{F cq:a8}
  (ah:∀ (k:Nat) (x:ab) (u:Value),cs[k]?=some x->get k=some u->R w I ρ x u (Fs k))
  (aP:∀ (J k c:Nat),J<cs.length->k<cs.length->Fs J c->Fs k c->J=k)
  (aI:∀ k c,k<cs.length->Fs k c->F c) {k:Nat}(hk:k<cs.length) (al:∀ c,cq c->Fs k c) (o:Out w w' I I' ρ ρ' F cq)
  {y:ab}{u:Value}{bV:a8}(hu:get k=some u) (a1:R w' I' ρ' y u bV) (eX:∀ c,bV c↔(Fs k c/\¬ cq c)\/(bV c/\¬ (F c/\¬ cq c))) :
  (∀ (J:Nat) (x:ab) (u:Value),(cs.set k y)[J]?=some x->get J=some u->R w' I' ρ' x u (if J=k then bV else Fs J)) /\
  (∀ (i J c:Nat),i<(cs.set k y).length->J<(cs.set k y).length->(if i=k then bV else Fs i) c->(if J=k then bV else Fs J) c->i=J):=by
 constructor
 ·intro J x wa j hT;rcases PX j with ⟨rfl,rfl,aQ⟩ | ⟨cz,j⟩
  ·grind
  ·rw [if_neg cz];have aj:J<cs.length:=(List.getElem?_eq_some_iff.1 j).1;exact (ah J x wa j hT).outside o λc aa=>⟨aI J c aj aa,λer=>cz (aP J k c aj hk aa (al c er))⟩
 grind
theorem ET {m:Nat}{Fs:Nat->a8}{bV cq je:a8}{k:Nat}(hk:k<m)
  (aP:∀ (J k c:Nat),J<m->k<m->Fs J c->Fs k c->J=k) (al:∀ c,cq c->Fs k c) (eX:∀ c,bV c↔(Fs k c/\¬ cq c)\/je c) (c:Nat) :
  (∃ J,J<m/\(if J=k then bV else Fs J) c)↔((∃ J,J<m/\Fs J c)/\¬ cq c)\/je c:=by
 grind
theorem R.pN {w w':World}{I:a8}{ρ:ab->Value->Prop}:∀ (r:List Nat) {x:ab}{v:Value}{F:a8}{y:ab},R w I ρ x v F->x.at r=some y ->
  (∀ c,F c->w'.heap[c]?=w.heap[c]?)->walk w' v r=walk w v r
 | [],_,_,_,_,_,_,_=>rfl
 | k::p,x,v,F,y,h,fG,aS=>by
  simp only [ab.at] at fG;cases ha:x.kids[k]? with
  | none=>rw [ha] at fG; cases fG
  | some ss =>
   rw [ha] at fG;simp only at fG;cases h with
   | @own z n cs _ e us Fs _ aV ai h1 ah aP av aI =>
    simp only [ab.kids] at ha;have hk:k<cs.length:=(List.getElem?_eq_some_iff.1 ha).1;have hu:us[k]?=some us[k]:=List.getElem?_eq_getElem (ai ▸ hk);have mT:=r_ (w':=w') aV λc aa=>aS c ((aI c).2 (.inl aa));have:=R.pN (w':=w') p (ah k ss _ ha hu) fG λc aa=>aS c ((aI c).2 (.inr ⟨k,hk,aa⟩));simp [walk,oV aV hu,oV mT hu,this]
   | @obj cs b e arr Fs _ aV ai h1 ah aP av aI az =>
    simp only [ab.kids] at ha;have hk:k<cs.length:=(List.getElem?_eq_some_iff.1 ha).1;have hu:arr[k]?=some arr[k]:=Array.getElem?_eq_getElem (ai ▸ hk);have mT:=(aS b ((aI b).2 (.inl rfl))).trans aV;have:=R.pN (w':=w') p (ah k ss _ ha hu) fG λc aa=>aS c ((aI c).2 (.inr ⟨k,hk,aa⟩));simp [walk,child,World.cell?,aV,mT,hu,this]
   | @agg cs vs Fs _ ai h1 ah aP aI =>
    simp only [ab.kids] at ha;have hk:k<cs.length:=(List.getElem?_eq_some_iff.1 ha).1;have hu:vs[k]?=some vs[k]:=Array.getElem?_eq_getElem (ai ▸ hk);have:=R.pN (w':=w') p (ah k ss _ ha hu) fG λc aa=>aS c ((aI c).2 ⟨k,hk,aa⟩);simp [walk,child,hu,this]
   | @bQ cs vs Fs _ ai ah aP aI =>
    simp only [ab.kids] at ha;have hk:k<cs.length:=(List.getElem?_eq_some_iff.1 ha).1;have hu:vs[k]?=some vs[k]:=Array.getElem?_eq_getElem (ai ▸ hk);have:=R.pN (w':=w') p (ah k ss _ ha hu) fG λc aa=>aS c ((aI c).2 ⟨k,hk,aa⟩);simp [walk,child,hu,this]
   | ref j _ _=>cases x <;> simp [ab.isRef,ab.kids] at j ha
   | _=>simp [ab.kids] at ha
theorem R.focus {w:World}{I:a8}{ρ:ab->Value->Prop}:∀ (q:List Nat) {x:ab}{v:Value}{F:a8}{y:ab},R w I ρ x v F->x.at q=some y ->
  ∃ ik cq,walk w v q=some ik/\R w I ρ y ik cq/\(∀ c,cq c->F c) /\
   (∀ (w':World),(∀ c,F c->¬ cq c->w'.heap[c]?=w.heap[c]?)->walk w' v q=some ik/\∀ r uT,x.at r=some uT->(∃ cW,r=q++cW)\/walk w' v r=walk w v r) /\
   ∀ (w':World) (I':a8) (ρ':ab->Value->Prop) (y':ab) (je:a8),Out w w' I I' ρ ρ' F cq->R w' I' ρ' y' ik je->(∀ c,je c->F c->cq c)->(∀ J,y'=.self J->y=.self J) ->
    ∃ cY,R w' I' ρ' (x.setAt q y') v cY/\∀ c,cY c↔(F c/\¬ cq c)\/je c
 | [],x,v,F,y,h,fG=>by
  simp only [ab.at,Option.some.injEq] at fG;subst fG;exact ⟨v,F,rfl,h,λ_ h=>h,λ_ _=>⟨rfl,λr _ _=>.inl ⟨r,rfl⟩⟩,λw' I' ρ' y' je _ a1 _ _=>⟨je,a1,λc=>by simp⟩⟩
 | k::p,x,v,F,y,h,fG=>by
  simp only [ab.at] at fG;cases ha:x.kids[k]? with
  | none=>rw [ha] at fG; cases fG
  | some ss =>
   rw [ha] at fG;simp only at fG;have zp:∀ y',x.setAt (k::p) y'=x.uN k (ss.setAt p y'):=λy'=>by simp [ab.setAt,ha]
   cases h with
   | @own z n cs _ e us Fs _ aV ai h1 ah aP av aI =>
    simp only [ab.kids] at ha;have hk:k<cs.length:=(List.getElem?_eq_some_iff.1 ha).1;have hu:us[k]?=some us[k]:=List.getElem?_eq_getElem (ai ▸ hk);obtain ⟨ik,cq,hw,dE,dq,eH,kO⟩:=R.focus p (ah k ss _ ha hu) fG;refine ⟨ik,cq,by simp [walk,oV aV hu,hw],dE,λc aa=>(aI c).2 (.inr ⟨k,hk,dq c aa⟩),?_,?_⟩
    ·intro w' az;have px:∀ J c,J<cs.length->Fs J c->¬ cq c->w'.heap[c]?=w.heap[c]?:=λJ c aj aa aA=>az c ((aI c).2 (.inr ⟨J,aj,aa⟩)) aA;obtain ⟨gL,fw⟩:=eH w' λc aa aA=>px k c hk aa aA;have mT:=r_ (w':=w') aV λc aa=>az c ((aI c).2 (.inl aa)) λer=>av k c hk (dq c er) aa;refine ⟨by simp [walk,oV mT hu,gL],?_⟩;intro r uT dP;cases r with
     | nil=>exact .inr rfl
     | cons J r =>
      simp only [ab.at,ab.kids] at dP;cases aj:cs[J]? with
      | none=>rw [aj] at dP; cases dP
      | some wH =>
       rw [aj] at dP;simp only at dP;have eY:J<cs.length:=(List.getElem?_eq_some_iff.1 aj).1;have qS:us[J]?=some us[J]:=List.getElem?_eq_getElem (ai ▸ eY);by_cases fI:J=k
       ·subst fI;rw [ha] at aj;cases aj;rcases fw r uT dP with ⟨cW,rfl⟩ | h
        ·exact .inl ⟨cW,rfl⟩
        ·exact .inr (by simp [walk,oV aV hu,oV mT hu,h])
       ·have h:=R.pN (w':=w') r (ah J wH _ aj qS) dP λc aa=>px J c eY aa λer=>fI (aP J k c eY hk aa (dq c er));exact .inr (by simp [walk,oV aV qS,oV mT qS,h])
    intro w' I' ρ' y' je o jm mR lU;have jl:∀ J c,J<cs.length->Fs J c->F c:=λJ c aj aa=>(aI c).2 (.inr ⟨J,aj,aa⟩);obtain ⟨bV,kc,eX⟩:=kO w' I' ρ' y' je (o.mono (λc aa=>jl k c hk aa) λc _ h=>h) jm (λc aa oI=>mR c aa (jl k c hk oI)) lU;obtain ⟨dP,mr⟩:=ES (get:=λJ=>us[J]?) ah aP jl hk dq o hu kc λc=>by
     constructor
     ·intro h;rcases (eX c).1 h with h1 | h1
      ·exact .inl h1
      ·exact .inr ⟨h,λ⟨af,aK⟩=>aK (mR c h1 af)⟩
     ·rintro (h1 | ⟨h1,_⟩)
      ·exact (eX c).2 (.inl h1)
      ·exact h1
    rw [zp];refine ⟨_,.own (Fs:=λJ=>if J=k then bV else Fs J) (r_ aV λc aa=>o.rest c ((aI c).2 (.inl aa)) λer=>av k c hk (dq c er) aa) (by simpa using ai) h1 dP mr ?_ (λc=>Iff.rfl),λc=>?_⟩
    ·intro J c aj aa vv;rw [List.length_set] at aj;by_cases fI:J=k
     ·rw [if_pos fI] at aa;rcases (eX c).1 aa with ⟨h1,_⟩ | h1
      ·exact av k c hk h1 vv
      ·exact av k c hk (dq c (mR c h1 ((aI c).2 (.inl vv)))) vv
     ·rw [if_neg fI] at aa; exact av J c aj aa vv
    ·have hu:=ET hk aP dq eX c;simp only [List.length_set];rw [hu,aI c];have e':v.ownBlock=some c->¬ cq c:=λh1 af=>av k c hk (dq c af) h1;constructor
     ·rintro (h1 | ⟨h1,af⟩ | h1)
      ·exact .inl ⟨.inl h1,e' h1⟩
      ·exact .inl ⟨.inr h1,af⟩
      ·exact .inr h1
     ·rintro (⟨h1 | h1,af⟩ | h1)
      ·exact .inl h1
      ·exact .inr (.inl ⟨h1,af⟩)
      ·exact .inr (.inr h1)
   | @obj cs b e arr Fs _ aV ai h1 ah aP av aI az =>
    simp only [ab.kids] at ha;have hk:k<cs.length:=(List.getElem?_eq_some_iff.1 ha).1;have hu:arr[k]?=some arr[k]:=Array.getElem?_eq_getElem (ai ▸ hk);obtain ⟨ik,cq,hw,dE,dq,eH,kO⟩:=R.focus p (ah k ss _ ha hu) fG;refine ⟨ik,cq,by simp [walk,child,World.cell?,aV,hu,hw],dE,λc aa=>(aI c).2 (.inr ⟨k,hk,dq c aa⟩),?_,?_⟩
    ·intro w' az;have px:∀ J c,J<cs.length->Fs J c->¬ cq c->w'.heap[c]?=w.heap[c]?:=λJ c aj aa aA=>az c ((aI c).2 (.inr ⟨J,aj,aa⟩)) aA;obtain ⟨gL,fw⟩:=eH w' λc aa aA=>px k c hk aa aA;have mT:=(az b ((aI b).2 (.inl rfl)) λer=>av k hk (dq b er)).trans aV;refine ⟨by simp [walk,child,World.cell?,mT,hu,gL],?_⟩;intro r uT dP;cases r with
     | nil=>exact .inr rfl
     | cons J r =>
      simp only [ab.at,ab.kids] at dP;cases aj:cs[J]? with
      | none=>rw [aj] at dP; cases dP
      | some wH =>
       rw [aj] at dP;simp only at dP;have eY:J<cs.length:=(List.getElem?_eq_some_iff.1 aj).1;have qS:arr[J]?=some arr[J]:=Array.getElem?_eq_getElem (ai ▸ eY);by_cases fI:J=k
       ·subst fI;rw [ha] at aj;cases aj;rcases fw r uT dP with ⟨cW,rfl⟩ | h
        ·exact .inl ⟨cW,rfl⟩
        ·exact .inr (by simp [walk,child,World.cell?,aV,mT,hu,h])
       ·have h:=R.pN (w':=w') r (ah J wH _ aj qS) dP λc aa=>px J c eY aa λer=>fI (aP J k c eY hk aa (dq c er));exact .inr (by simp [walk,child,World.cell?,aV,mT,qS,h])
    intro w' I' ρ' y' je o jm mR lU;have jl:∀ J c,J<cs.length->Fs J c->F c:=λJ c aj aa=>(aI c).2 (.inr ⟨J,aj,aa⟩);obtain ⟨bV,kc,eX⟩:=kO w' I' ρ' y' je (o.mono (λc aa=>jl k c hk aa) λc _ h=>h) jm (λc aa oI=>mR c aa (jl k c hk oI)) lU;obtain ⟨dP,mr⟩:=ES (get:=λJ=>arr[J]?) ah aP jl hk dq o hu kc λc=>by
     constructor
     ·intro h;rcases (eX c).1 h with h1 | h1
      ·exact .inl h1
      ·exact .inr ⟨h,λ⟨af,aK⟩=>aK (mR c h1 af)⟩
     ·rintro (h1 | ⟨h1,_⟩)
      ·exact (eX c).2 (.inl h1)
      ·exact h1
    rw [zp];have oG:F b:=(aI b).2 (.inl rfl);have H_:¬ cq b:=λh=>av k hk (dq b h);refine ⟨_,.obj (Fs:=λJ=>if J=k then bV else Fs J) ((o.rest b oG H_).trans aV) (by simpa using ai) h1 dP mr ?_ (λc=>Iff.rfl) (λi J u hi hT=>?_),λc=>?_⟩
    ·intro J aj aa;rw [List.length_set] at aj;by_cases fI:J=k
     ·rw [if_pos fI] at aa;rcases (eX b).1 aa with ⟨h1,_⟩ | h1
      ·exact av k hk h1
      ·exact H_ (mR b h1 oG)
     ·rw [if_neg fI] at aa; exact av J aj aa
    ·rcases PX hi with ⟨rfl,he,_⟩ | ⟨_,hi⟩
     ·refine az _ J u ?_ hT;rw [ha];cases p with
      | nil =>
       simp only [ab.at,Option.some.injEq] at fG;rw [fG];exact congrArg some (lU J he.symm)
      | cons kL O7=>exact absurd he.symm (ab.Y' fG)
     ·exact az i J u hi hT
    ·have hu:=ET hk aP dq eX c;simp only [List.length_set];rw [hu,aI c];constructor
     ·rintro (rfl | ⟨h1,af⟩ | h1)
      ·exact .inl ⟨.inl rfl,H_⟩
      ·exact .inl ⟨.inr h1,af⟩
      ·exact .inr h1
     ·rintro (⟨h1 | h1,af⟩ | h1)
      ·exact .inl h1
      ·exact .inr (.inl ⟨h1,af⟩)
      ·exact .inr (.inr h1)
   | @agg cs vs Fs _ ai h1 ah aP aI =>
    simp only [ab.kids] at ha;have hk:k<cs.length:=(List.getElem?_eq_some_iff.1 ha).1;have hu:vs[k]?=some vs[k]:=Array.getElem?_eq_getElem (ai ▸ hk);obtain ⟨ik,cq,hw,dE,dq,eH,kO⟩:=R.focus p (ah k ss _ ha hu) fG;refine ⟨ik,cq,by simp [walk,child,hu,hw],dE,λc aa=>(aI c).2 ⟨k,hk,dq c aa⟩,?_,?_⟩
    ·intro w' az;have px:∀ J c,J<cs.length->Fs J c->¬ cq c->w'.heap[c]?=w.heap[c]?:=λJ c aj aa aA=>az c ((aI c).2 ⟨J,aj,aa⟩) aA;obtain ⟨gL,fw⟩:=eH w' λc aa aA=>px k c hk aa aA
     
     refine ⟨by simp [walk,child,hu,gL],?_⟩;intro r uT dP;cases r with
     | nil=>exact .inr rfl
     | cons J r =>
      simp only [ab.at,ab.kids] at dP;cases aj:cs[J]? with
      | none=>rw [aj] at dP; cases dP
      | some wH =>
       rw [aj] at dP;simp only at dP;have eY:J<cs.length:=(List.getElem?_eq_some_iff.1 aj).1;have qS:vs[J]?=some vs[J]:=Array.getElem?_eq_getElem (ai ▸ eY);by_cases fI:J=k
       ·subst fI;rw [ha] at aj;cases aj;rcases fw r uT dP with ⟨cW,rfl⟩ | h
        ·exact .inl ⟨cW,rfl⟩
        ·exact .inr (by simp [walk,child,hu,h])
       ·have h:=R.pN (w':=w') r (ah J wH _ aj qS) dP λc aa=>px J c eY aa λer=>fI (aP J k c eY hk aa (dq c er));exact .inr (by simp [walk,child,qS,h])
    intro w' I' ρ' y' je o jm mR lU;have jl:∀ J c,J<cs.length->Fs J c->F c:=λJ c aj aa=>(aI c).2 ⟨J,aj,aa⟩;obtain ⟨bV,kc,eX⟩:=kO w' I' ρ' y' je (o.mono (λc aa=>jl k c hk aa) λc _ h=>h) jm (λc aa oI=>mR c aa (jl k c hk oI)) lU;obtain ⟨dP,mr⟩:=ES (get:=λJ=>vs[J]?) ah aP jl hk dq o hu kc λc=>by
     constructor
     ·intro h;rcases (eX c).1 h with h1 | h1
      ·exact .inl h1
      ·exact .inr ⟨h,λ⟨af,aK⟩=>aK (mR c h1 af)⟩
     ·rintro (h1 | ⟨h1,_⟩)
      ·exact (eX c).2 (.inl h1)
      ·exact h1
    rw [zp];refine ⟨_,.agg (Fs:=λJ=>if J=k then bV else Fs J) (by simpa using ai) h1 dP mr (λc=>Iff.rfl),λc=>?_⟩;have hu:=ET hk aP dq eX c;simp only [List.length_set];rw [hu,aI c]
   | @bQ cs vs Fs _ ai ah aP aI =>
    simp only [ab.kids] at ha;have hk:k<cs.length:=(List.getElem?_eq_some_iff.1 ha).1;have hu:vs[k]?=some vs[k]:=Array.getElem?_eq_getElem (ai ▸ hk);obtain ⟨ik,cq,hw,dE,dq,eH,kO⟩:=R.focus p (ah k ss _ ha hu) fG;refine ⟨ik,cq,by simp [walk,child,hu,hw],dE,λc aa=>(aI c).2 ⟨k,hk,dq c aa⟩,?_,?_⟩
    ·intro w' az;have px:∀ J c,J<cs.length->Fs J c->¬ cq c->w'.heap[c]?=w.heap[c]?:=λJ c aj aa aA=>az c ((aI c).2 ⟨J,aj,aa⟩) aA;obtain ⟨gL,fw⟩:=eH w' λc aa aA=>px k c hk aa aA
     
     refine ⟨by simp [walk,child,hu,gL],?_⟩;intro r uT dP;cases r with
     | nil=>exact .inr rfl
     | cons J r =>
      simp only [ab.at,ab.kids] at dP;cases aj:cs[J]? with
      | none=>rw [aj] at dP; cases dP
      | some wH =>
       rw [aj] at dP;simp only at dP;have eY:J<cs.length:=(List.getElem?_eq_some_iff.1 aj).1;have qS:vs[J]?=some vs[J]:=Array.getElem?_eq_getElem (ai ▸ eY);by_cases fI:J=k
       ·subst fI;rw [ha] at aj;cases aj;rcases fw r uT dP with ⟨cW,rfl⟩ | h
        ·exact .inl ⟨cW,rfl⟩
        ·exact .inr (by simp [walk,child,hu,h])
       ·have h:=R.pN (w':=w') r (ah J wH _ aj qS) dP λc aa=>px J c eY aa λer=>fI (aP J k c eY hk aa (dq c er));exact .inr (by simp [walk,child,qS,h])
    intro w' I' ρ' y' je o jm mR lU;have jl:∀ J c,J<cs.length->Fs J c->F c:=λJ c aj aa=>(aI c).2 ⟨J,aj,aa⟩;obtain ⟨bV,kc,eX⟩:=kO w' I' ρ' y' je (o.mono (λc aa=>jl k c hk aa) λc _ h=>h) jm (λc aa oI=>mR c aa (jl k c hk oI)) lU;obtain ⟨dP,mr⟩:=ES (get:=λJ=>vs[J]?) ah aP jl hk dq o hu kc λc=>by
     constructor
     ·intro h;rcases (eX c).1 h with h1 | h1
      ·exact .inl h1
      ·exact .inr ⟨h,λ⟨af,aK⟩=>aK (mR c h1 af)⟩
     ·rintro (h1 | ⟨h1,_⟩)
      ·exact (eX c).2 (.inl h1)
      ·exact h1
    rw [zp];refine ⟨_,.bQ (Fs:=λJ=>if J=k then bV else Fs J) (by simpa using ai) dP mr (λc=>Iff.rfl),λc=>?_⟩;have hu:=ET hk aP dq eX c;simp only [List.length_set];rw [hu,aI c]
   | ref j _ _=>cases x <;> simp [ab.isRef,ab.kids] at j ha
   | _=>simp [ab.kids] at ha
end Go.Own
namespace Go.Own
open Go
abbrev aL:=Nat->Option ab
def bt (g:aL) (p:Place):Option ab :=
 match g p.root with
 | some x=>x.at p.path
 | none=>none
def dW (w:World) (T:Array Value) (p:Place):Option Value :=
 match T[p.root]? with
 | some v=>walk w v p.path
 | none=>none
def addrOf:Value->Option Addr
 | .slice (some a) _ _=>some a
 | .pointer (some a)=>some a
 | _=>none
def fP (w:World) (T:Array Value):ab->Value->Prop
 | .ptr p k,v=>∃ u a,dW w T p=some u/\addrOf u=some a/\v=.pointer (some ⟨a.block,a.off+k,none⟩)
 | .bf _ p n,v=>∃ a N cap,dW w T p=some (.slice a N cap)/\v=.slice a n cap/\n<=N
 | .sub z p lo n,v=>∃ a N cap b1 mM,dW w T p=some (.slice a N cap)/\v=.slice b1 n mM/\n<=mM/\lo+n<=N/\(0<n->∃ ad,a=some ad/\b1=some ⟨ad.block,ad.off+lo * z,none⟩)
 | .bC _ p n _ _,v=>∃ a cap,dW w T p=some (.slice a n cap)/\v=.slice a n cap
 | .hq p,v=>∃ b,dW w T p=some (.map b)/\v=.map b
 | _,_=>False
def gZ (g:aL):ab->Prop
 | .ptr p k=>∃ y,bt g p=some y/\(∃ z n cs,(y=.own z n cs\/y=.obj cs)/\k<cs.length)
 | .bf z p n=>(∃ N cs,bt g p=some (.own z N cs)/\n<=N)\/(p.path=[]/\∃ q gU m new,g p.root=some (.bC z q gU m new)/\n=gU+m)
 | .sub z p lo n=>∃ N cs,bt g p=some (.own z N cs)/\lo+n<=N
 | .bC z p n _ _=>(∃ cs,bt g p=some (.own z n cs))\/(p.path=[]/\∃ q gU m new cs,g p.root=some (.bC z q gU m new)/\n=gU+m/\bt g q=some (.own z gU cs))
 | .hq p=>∃ q,bt g p=some (.mp q)
 | _=>False
def dU (w:World) (T:Array Value) (g:aL) (r:ab) (v:Value):Prop:=fP w T r v/\gZ g r
structure Gq (w:World) (I:a8) (ρ:ab->Value->Prop) (z:Nat) (p:Place) (n m:Nat) (new:List ab) (v:Value) (F:a8) (bv:Value) (e cd:TypeId) (us news:List Value):Prop where
 ko:ρ (.bC z p n 0 []) bv
 iZ:w.ownsRow 0 e z bv n us
 nu:w.ownsRow 0 cd z v (n+m) (us++news)
 ai:new.length=news.length
 h1:∀ (k:Nat) (u:Value),news[k]?=some u->u.oneCell'=true
 ah:∀ (k:Nat) (x:ab) (u:Value),new[k]?=some x->news[k]?=some u->R w I ρ x u (λ_=>False)
 aI:∀ c,F c↔v.ownBlock=some c/\bv.ownBlock≠some c
inductive jy (w:World) (I:a8) (ρ:ab->Value->Prop):ab->Value->a8->Prop
 | tree {x:ab}{v:Value}{F:a8}(h:R w I ρ x v F):jy w I ρ x v F
 | bC {z n m:Nat}{p:Place}{new:List ab}{v bv:Value}{e cd:TypeId}{us news:List Value}{F:a8}(h:Gq w I ρ z p n m new v F bv e cd us news):jy w I ρ (.bC z p n m new) v F
theorem R.lb {w:World}{I:a8}{ρ:ab->Value->Prop}{z n m:Nat}{p:Place}{new:List ab}{v:Value}{F:a8}(h:R w I ρ (.bC z p n m new) v F):False:=by
 cases h with
 | ref j=>simp [ab.isRef] at j
theorem jy.hb {w:World}{I:a8}{ρ:ab->Value->Prop}{x:ab}{v:Value}{F:a8}(h:jy w I ρ x v F) (j:∀ z p n m new,x≠.bC z p n m new):R w I ρ x v F:=by
 cases h with
 | tree h=>exact h
 | bC=>exact absurd rfl (j _ _ _ _ _)
theorem jy.vD {w:World}{I:a8}{ρ:ab->Value->Prop}{z n m:Nat}{p:Place}{new:List ab}{v:Value}{F:a8}(h:jy w I ρ (.bC z p n m new) v F):∃ bv e cd us news,Gq w I ρ z p n m new v F bv e cd us news:=by
 cases h with
 | tree h=>exact h.lb.elim
 | bC h=>exact ⟨_,_,_,_,_,h⟩
theorem jy.lt {w:World}{I:a8}{ρ:ab->Value->Prop}{x:ab}{v:Value}{F:a8}(h:jy w I ρ x v F):∀ c,F c->c<w.heap.size:=by
 cases h with
 | tree h=>exact h.lt
 | bC h=>exact λc aa=>(h.nu.lt c ((h.aI c).1 aa).1).2
theorem jy.frame {w w':World}{I I':a8}{ρ ρ':ab->Value->Prop}{x:ab}{v:Value}{F:a8}(h:jy w I ρ x v F)
  (bb:∀ c,I c->w'.heap[c]?=w.heap[c]?) (n0:∀ c,I c->I' c) (lG:∀ x v,ρ x v->ρ' x v)
  (cg:∀ z p n bv,ρ (.bC z p n 0 []) bv->∀ c,bv.ownBlock=some c->w'.heap[c]?=w.heap[c]?)
  (aS:∀ c,F c->w'.heap[c]?=w.heap[c]?):jy w' I' ρ' x v F:=by
 cases h with
 | tree h=>exact .tree (h.frame bb n0 lG aS)
 | @bC z n m p new v bv e cd us news F h =>
  have av:=cg _ _ _ _ h.ko;refine .bC ⟨lG _ _ h.ko,r_ h.iZ av,r_ h.nu λc aa=>?_,h.ai,h.h1,λk x u j hu=>(h.ah k x u j hu).frame bb n0 lG λc aa=>aa.elim,h.aI⟩;by_cases p_:bv.ownBlock=some c
  ·exact av c p_
  ·exact aS c ((h.aI c).2 ⟨aa,p_⟩)
theorem ab.tE {z n m:Nat}{p:Place}{new:List ab}{q:List Nat}{y:ab}(h:(ab.bC z p n m new).at q=some y):q=[]/\y=.bC z p n m new:=by
 cases q with
 | nil=>simp [ab.at] at h; exact ⟨rfl,h.symm⟩
 | cons k q=>simp [ab.at,ab.kids] at h
class cH where
 q:World->a8->Prop
 keep:∀ {w w':World}{I I':a8},q w I->(∀ c,I c->w'.heap[c]?=w.heap[c]?)->(∀ c,I c->I' c)->q w' I'
set_option linter.unusedSectionVars false
variable [cH]
structure cG (w:World) (I:a8) (T:Array Value) (g:aL) (Fs:Nat->a8):Prop where
 rel:∀ t x,g t=some x->∃ v,T[t]?=some v/\jy w I (dU w T g) x v (Fs t)
 kM:∀ t,g t=none->∀ c,¬ Fs t c
 eC:∀ t t' c,Fs t c->Fs t' c->t=t'
 bk:∀ t c,Fs t c->¬ I c
 lt:∀ c,I c->c<w.heap.size
 q8:∀ t t' z p n m new br cm bh cO,g t=some (.bC z p n m new)->g t'=some (.bC br p cm bh cO)->t=t'
 hN:cH.q w I
section
variable {w:World}{I:a8}{T:Array Value}{g:aL}{Fs:Nat->a8}
theorem cG.part (h:cG w I T g Fs) {p:Place}{y:ab}(au:bt g p=some y) (al:∀ z q n m new,y≠.bC z q n m new):∃ v cq,dW w T p=some v/\R w I (dU w T g) y v cq/\(∀ c,cq c->Fs p.root c):=by
 unfold bt at au;cases j:g p.root with
 | none=>rw [j] at au; cases au
 | some x =>
  rw [j] at au;obtain ⟨v,hv,a1⟩:=h.rel _ _ j;replace a1:=a1.hb (by
   rintro z q n m new rfl;exact al _ _ _ _ _ (ab.tE au).2)
  obtain ⟨ik,cq,hw,dE,dq,_⟩:=R.focus p.path a1 au;exact ⟨ik,cq,by simp [dW,hv,hw],dE,dq⟩
theorem R.qn {ρ:ab->Value->Prop}{z n:Nat}{cs:List ab}{v:Value}{F:a8}(h:R w I ρ (.own z n cs) v F):∀ c,v.ownBlock=some c->F c:=by
 cases h with
 | own aV ai h1 ah aP av aI=>exact λc aa=>(aI c).2 (.inl aa)
 | ref j=>simp [ab.isRef] at j
theorem R.mZ {ρ:ab->Value->Prop}{z n:Nat}{cs:List ab}{v:Value}{F:a8}(h:R w I ρ (.own z n cs) v F) :
  ∃ a cap,v=.slice a n cap/\n<=cap/\cs.length=n * z/\(∀ ad,a=some ad->ad.off=0/\ad.spot=none)/\(0<n->a.isSome=true):=by
 cases h with
 | own aV ai h1 ah aP av aI =>
  obtain ⟨h1,af⟩:=aV;rcases af with ⟨rfl,rfl⟩ | ⟨b,cap,cur,rfl,_,_,aA,_⟩
  ·exact ⟨none,0,rfl,Nat.le_refl _,by simp [ai,h1],by simp,by simp⟩
  ·exact ⟨_,cap,rfl,aA,by simp [ai,h1],by rintro ad ⟨⟩; exact ⟨rfl,rfl⟩,by simp⟩
 | ref j=>simp [ab.isRef] at j
theorem cG.yc (h:cG w I T g Fs) {w':World}{T':Array Value}(dt:∀ t,g t≠none->T'[t]?=T[t]?) (aI:∀ t c,Fs t c->w'.heap[c]?=w.heap[c]?) {p:Place}{y:ab}(au:bt g p=some y) :
  dW w' T' p=dW w T p:=by
 unfold bt at au;cases j:g p.root with
 | none=>rw [j] at au; cases au
 | some x =>
  rw [j] at au;obtain ⟨v,hv,a1⟩:=h.rel _ _ j;have i_:T'[p.root]?=some v:=by rw [dt _ (by rw [j]; simp),hv]
  cases a1 with
  | tree a1 =>
   have:=R.pN (w':=w') p.path a1 au λc aa=>aI _ c aa;simp [dW,hv,i_,this]
  | bC a1=>simp [dW,hv,i_,(ab.tE au).1,walk]
theorem kC {g g':aL}(aN:∀ t x,g t=some x->g' t=some x) {p:Place}{y:ab}(au:bt g p=some y):bt g' p=some y:=by
 unfold bt at *;cases j:g p.root with
 | none=>rw [j] at au; cases au
 | some x=>rw [j] at au; rw [aN _ _ j]; exact au
theorem gZ.mono {g g':aL}(aN:∀ t x,g t=some x->g' t=some x) {r:ab}(h:gZ g r):gZ g' r:=by
 cases r <;> simp only [gZ] at h ⊢
 case ptr p k=>obtain ⟨y,al,h⟩:=h; exact ⟨y,kC aN al,h⟩
 case bf z p n =>
  rcases h with ⟨N,cs,h1,af⟩ | ⟨aO,q,gU,m,new,h1,af⟩
  ·exact .inl ⟨N,cs,kC aN h1,af⟩
  ·exact .inr ⟨aO,q,gU,m,new,aN _ _ h1,af⟩
 case sub z p lo n=>obtain ⟨N,cs,h1,af⟩:=h; exact ⟨N,cs,kC aN h1,af⟩
 case bC z p n m new =>
  rcases h with ⟨cs,h1⟩ | ⟨aO,q,gU,bh,cO,cs,h1,af,aK⟩
  ·exact .inl ⟨cs,kC aN h1⟩
  ·exact .inr ⟨aO,q,gU,bh,cO,cs,aN _ _ h1,af,kC aN aK⟩
 case hq p=>obtain ⟨q,h⟩:=h; exact ⟨q,kC aN h⟩
theorem cG.Fv (h:cG w I T g Fs) {w':World}{T':Array Value}{g':aL}(dt:∀ t,g t≠none->T'[t]?=T[t]?) (aI:∀ t c,Fs t c->w'.heap[c]?=w.heap[c]?)
  (aN:∀ t x,g t=some x->g' t=some x) {r:ab}{v:Value}(ah:dU w T g r v):dU w' T' g' r v:=by
 obtain ⟨h1,af⟩:=ah;refine ⟨?_,af.mono aN⟩;have slot:∀ {p:Place}{x:ab},p.path=[]->g p.root=some x->dW w' T' p=dW w T p:=by
  intro p x au j;obtain ⟨v,hv,_⟩:=h.rel _ _ j;simp [dW,au,walk,dt p.root (by rw [j]; simp)]
 cases r <;> simp only [fP,gZ] at h1 af ⊢
 case ptr p k =>
  obtain ⟨y,al,_⟩:=af;rw [h.yc dt aI al]; exact h1
 case bf z p n =>
  rcases af with ⟨N,cs,af,_⟩ | ⟨aO,q,gU,m,new,af,_⟩
  ·rw [h.yc dt aI af]; exact h1
  ·rw [slot aO af]; exact h1
 case sub z p lo n =>
  obtain ⟨N,cs,af,_⟩:=af;rw [h.yc dt aI af]; exact h1
 case bC z p n m new =>
  rcases af with ⟨cs,af⟩ | ⟨aO,q,gU,bh,cO,cs,af,_⟩
  ·rw [h.yc dt aI af]; exact h1
  ·rw [slot aO af]; exact h1
 case hq p =>
  obtain ⟨q,af⟩:=af;rw [h.yc dt aI af]; exact h1
theorem cG.DP (h:cG w I T g Fs) {z n:Nat}{p:Place}{bv:Value}(ah:dU w T g (.bC z p n 0 []) bv):∀ c,bv.ownBlock=some c->∃ t,Fs t c:=by
 obtain ⟨⟨a,cap,h1,rfl⟩,af⟩:=ah;intro c aa;have own:∀ {q:Place}{gU:Nat}{cs:List ab}{v:Value},bt g q=some (.own z gU cs)->dW w T q=some v->v.ownBlock=some c->∃ t,Fs t c:=by
  intro q gU cs v a7 hv aa;obtain ⟨eh,cq,i_,a1,dq⟩:=h.part a7 (by simp);rw [hv] at i_;cases i_;exact ⟨_,dq c (a1.qn c aa)⟩
 rcases af with ⟨cs,af⟩ | ⟨aO,q,gU,m,new,cs,af,rfl,aK⟩
 ·exact own af h1 aa
 ·obtain ⟨v,hv,a1⟩:=h.rel _ _ af;have rX:v=.slice a (gU+m) cap:=by
   simp only [dW,hv,aO,walk,Option.some.injEq] at h1;exact h1
  obtain ⟨LX,e,cd,us,news,a1⟩:=a1.vD;by_cases fH:LX.ownBlock=some c
  ·obtain ⟨⟨a2,rH,bu,rfl⟩,_⟩:=a1.ko;exact own aK bu fH
  ·exact ⟨_,(a1.aI c).2 ⟨by rw [rX]; exact aa,fH⟩⟩
theorem cG.frame (h:cG w I T g Fs) {w':World}{I':a8}{T':Array Value}{g':aL}(dt:∀ t,g t≠none->T'[t]?=T[t]?) (aI:∀ t c,Fs t c->w'.heap[c]?=w.heap[c]?)
  (bb:∀ c,I c->w'.heap[c]?=w.heap[c]?) (n0:∀ c,I c->I' c) (aN:∀ t x,g t=some x->g' t=some x) {x:ab}{v:Value}{F:a8}(a1:R w I (dU w T g) x v F)
  (lS:∀ c,F c->w'.heap[c]?=w.heap[c]?):R w' I' (dU w' T' g') x v F :=
 a1.frame bb n0 (λ_ _ ah=>h.Fv dt aI aN ah) lS
theorem cG.wP (h:cG w I T g Fs) {w':World}{I':a8}{T':Array Value}{g':aL}(dt:∀ t,g t≠none->T'[t]?=T[t]?) (aI:∀ t c,Fs t c->w'.heap[c]?=w.heap[c]?)
  (bb:∀ c,I c->w'.heap[c]?=w.heap[c]?) (n0:∀ c,I c->I' c) (aN:∀ t x,g t=some x->g' t=some x) {x:ab}{v:Value}{F:a8}(a1:jy w I (dU w T g) x v F)
  (lS:∀ c,F c->w'.heap[c]?=w.heap[c]?):jy w' I' (dU w' T' g') x v F :=
 a1.frame bb n0 (λ_ _ ah=>h.Fv dt aI aN ah) (λ_ _ _ _ ah c aa=>by obtain ⟨t,ar⟩:=h.DP ah c aa; exact aI t c ar) lS
def cJ (g:aL) (d:Nat) (x:ab):aL:=λt=>if t=d then some x else g t
def uR (Fs:Nat->a8) (d:Nat) (F:a8):Nat->a8:=λt=>if t=d then F else Fs t
theorem Qt {d:Nat}{x:ab}(aP:g d=none):∀ t y,g t=some y->cJ g d x t=some y:=by
 intro t y al;unfold cJ;split
 ·rename_i h; subst h; rw [aP] at al; cases al
 ·exact al
end
end Go.Own
namespace Go.Own
open Go
set_option linter.unusedSectionVars false
variable [cH]
theorem Qx (w:World):∀ (p:List Nat) (v:Value) (k:Nat),walk w v (p++[k])=(walk w v p).bind λu=>child w u k
 | [],v,k=>by simp [walk]; cases child w v k <;> rfl
 | J::p,v,k=>by
  simp only [List.cons_append,walk];cases child w v J with
  | none=>rfl
  | some u=>exact Qx w p u k
theorem LP:∀ (p:List Nat) (x:ab) (k:Nat),x.at (p++[k])=(x.at p).bind λy=>y.kids[k]?
 | [],x,k=>by simp [ab.at]; cases x.kids[k]? <;> rfl
 | J::p,x,k=>by
  simp only [List.cons_append,ab.at];cases x.kids[J]? with
  | none=>rfl
  | some u=>exact LP p u k
theorem tD (g:aL) (p:Place) (k:Nat):bt g (p.push k)=(bt g p).bind λy=>y.kids[k]?:=by
 unfold bt Place.push;cases g p.root with
 | none=>rfl
 | some x=>simp [LP]
theorem yb (w:World) (T:Array Value) (p:Place) (k:Nat):dW w T (p.push k)=(dW w T p).bind λu=>child w u k:=by
 unfold dW Place.push;cases T[p.root]? with
 | none=>rfl
 | some x=>simp [Qx]
def fL:Nat->Place->ab->ab
 | _,p,.own z n _=>.bf z p n
 | _,p,.obj (_::_)=>.ptr p 0
 | _,_,.obj []=>.dead
 | _,_,.bC ..=>.dead
 | _,_,.self _=>.dead
 | _,_,.eV ..=>.dead
 | _,p,.mp _=>.hq p
 | d+1,p,.agg cs=>.agg (cs.mapIdx λi x=>fL d (p.push i) x)
 | d+1,p,.bQ cs=>.bQ (cs.mapIdx λi x=>fL d (p.push i) x)
 | 0,_,.agg _=>.dead
 | 0,_,.bQ _=>.dead
 | _,_,x=>x
def oc (t:Nat):ab->ab
 | .bC z _ n m _=>.bf z ⟨t,[]⟩ (n+m)
 | x=>fL 2 ⟨t,[]⟩ x
def kg:Value->ab
 | .slice none 0 0=>.aT
 | .agg _=>.dead
 | .tuple _=>.dead
 | v=>.lit v
def ofConst:Value->ab
 | .agg vs=>if vs.all Value.oneCell' then .agg (vs.toList.map kg) else .dead
 | .tuple _=>.dead
 | v=>kg v
def bn (g:aL):Operand->Option ab
 | .tmp t=>(g t).map (oc t)
 | .const v=>some (ofConst v)
 | .func f=>some (.ds (.func f) [] [])
 | .global _=>none
theorem Pq {d:Nat}{p:Place}{x:ab}{J:Nat × Nat}:fL d p x≠.self J:=by
 cases x with
 | obj cs=>cases d <;> cases cs <;> simp [fL]
 | _=>cases d <;> simp [fL]
theorem YI {t:Nat}{x:ab}:sk (oc t x):=by
 intro cs h k J hk;cases x with
 | obj cs=>cases cs <;> simp [oc,fL] at h
 | agg l =>
  simp only [oc,fL,ab.agg.injEq] at h;subst h;rw [List.getElem?_mapIdx] at hk;cases j:l[k]? with
  | none=>rw [j] at hk; cases hk
  | some x=>rw [j] at hk; simp only [Option.map_some,Option.some.injEq] at hk; exact Pq hk
 | _=>simp [oc,fL] at h
theorem OQ (v:Value) (J:Nat × Nat):kg v≠.self J:=by
 unfold kg; split <;> simp
theorem OR (vs:List Value):qF (vs.map kg):=λk J=>by
 rw [List.getElem?_map];cases vs[k]? with
 | none=>simp
 | some v=>simp [OQ]
theorem O1 {g:aL}{o:Operand}{x:ab}(h:bn g o=some x):sk x:=by
 cases o with
 | tmp t =>
  simp only [bn] at h;cases ar:g t with
  | none=>rw [ar] at h; cases h
  | some y=>rw [ar] at h; simp only [Option.map_some,Option.some.injEq] at h; exact h ▸ YI
 | const v =>
  simp only [bn,Option.some.injEq] at h;subst h;intro cs h;unfold ofConst at h
  split at h
  ·split at h
   ·cases h; exact OR _
   ·cases h
  ·cases h
  ·unfold kg at h; split at h <;> cases h
 | func f=>simp only [bn,Option.some.injEq] at h; subst h; intro cs h; cases h
 | global n=>cases h
theorem X7 {g:aL}{o:Operand}{x:ab}(h:bn g o=some x) (J:Nat × Nat):x≠.self J:=by
 cases o with
 | tmp t =>
  simp only [bn] at h;cases ar:g t with
  | none=>rw [ar] at h; cases h
  | some y =>
   rw [ar] at h;simp only [Option.map_some,Option.some.injEq] at h;subst h;cases y with
   | bC=>simp [oc]
   | _=>exact Pq
 | const v =>
  simp only [bn,Option.some.injEq] at h;subst h;unfold ofConst;split
  ·split <;> simp
  ·simp
  ·exact OQ _ _
 | func f=>simp only [bn,Option.some.injEq] at h; subst h; simp
 | global n=>cases h
abbrev ct:a8:=λ_=>False
section
variable {w:World}{I:a8}{T:Array Value}{g:aL}{Fs:Nat->a8}
theorem R.empty {ρ:ab->Value->Prop}{x:ab}{v:Value}{F:a8}(h:R w I ρ x v F) (aI:∀ c,¬ F c):R w I ρ x v ct:=h.yY λc=>⟨λaa=>aI c aa,λaa=>aa.elim⟩
theorem Fu:∀ (d:Nat) {p:Place}{x:ab}{v:Value}{F:a8},bt g p=some x->dW w T p=some v->R w I (dU w T g) x v F->R w I (dU w T g) (fL d p x) v ct:=by
 intro d
 induction d with
 | zero =>
  intro p x v F au hv a1;cases a1 with
  | lit ai aI=>exact .lit ai λ_ h=>h
  | aT aI=>exact .aT λ_ h=>h
  | dead aI=>exact .dead λ_ h=>h
  | l6 aI=>exact .dead λ_ h=>h
  | eV=>exact .dead λ_ h=>h
  | ref j ah aI=>cases x <;> simp [ab.isRef] at j <;> exact .ref rfl ah λ_ h=>h
  | mp=>exact .ref rfl ⟨⟨_,hv,rfl⟩,⟨_,au⟩⟩ λ_ h=>h
  | imp aI bb aV a7=>exact .imp (λ_ h=>h) bb aV a7
  | hB aI=>exact .hB λ_ h=>h
  | bk aI k6 bb az ai h1 aa ah=>exact .bk (λ_ h=>h) k6 bb az ai h1 aa ah
  | cK aI bb az h1 aa ah=>exact .cK (λ_ h=>h) bb az h1 aa ah
  | own aV ai h1 ah aP av aI =>
   have nv:=R.own (I:=I) (ρ:=dU w T g) aV ai h1 ah aP av aI;obtain ⟨a,cap,rfl,aA,_⟩:=nv.mZ;exact .ref rfl ⟨⟨a,_,cap,hv,rfl,Nat.le_refl _⟩,.inl ⟨_,_,au,Nat.le_refl _⟩⟩ λ_ h=>h
  | @obj cs b e arr b3 _ aV ai h1 ah aP av aI =>
   cases cs with
   | nil=>exact .dead λ_ h=>h
   | cons c cs=>exact .ref rfl ⟨⟨_,_,hv,rfl,rfl⟩,⟨_,au,0,0,_,.inr rfl,by simp⟩⟩ λ_ h=>h
  | agg=>exact .dead λ_ h=>h
  | bQ=>exact .dead λ_ h=>h
  | ds aI h1 af iA ie=>exact .ds (λ_ h=>h) h1 af iA ie
 | succ d aM =>
  intro p x v F au hv a1;cases a1 with
  | lit ai aI=>exact .lit ai λ_ h=>h
  | aT aI=>exact .aT λ_ h=>h
  | dead aI=>exact .dead λ_ h=>h
  | l6 aI=>exact .dead λ_ h=>h
  | eV=>exact .dead λ_ h=>h
  | ref j ah aI=>cases x <;> simp [ab.isRef] at j <;> exact .ref rfl ah λ_ h=>h
  | mp=>exact .ref rfl ⟨⟨_,hv,rfl⟩,⟨_,au⟩⟩ λ_ h=>h
  | imp aI bb aV a7=>exact .imp (λ_ h=>h) bb aV a7
  | hB aI=>exact .hB λ_ h=>h
  | bk aI k6 bb az ai h1 aa ah=>exact .bk (λ_ h=>h) k6 bb az ai h1 aa ah
  | cK aI bb az h1 aa ah=>exact .cK (λ_ h=>h) bb az h1 aa ah
  | own aV ai h1 ah aP av aI =>
   have nv:=R.own (I:=I) (ρ:=dU w T g) aV ai h1 ah aP av aI;obtain ⟨a,cap,rfl,aA,_⟩:=nv.mZ;exact .ref rfl ⟨⟨a,_,cap,hv,rfl,Nat.le_refl _⟩,.inl ⟨_,_,au,Nat.le_refl _⟩⟩ λ_ h=>h
  | @obj cs b e arr b3 _ aV ai h1 ah aP av aI =>
   cases cs with
   | nil=>exact .dead λ_ h=>h
   | cons c cs=>exact .ref rfl ⟨⟨_,_,hv,rfl,rfl⟩,⟨_,au,0,0,_,.inr rfl,by simp⟩⟩ λ_ h=>h
  | @agg cs vs b3 _ ai h1 ah aP aI =>
   refine .agg (Fs:=λ_=>ct) (by simpa using ai) h1 ?_ (λ_ _ _ _ _ h=>h.elim) (λc=>⟨λh=>h.elim,λ⟨_,_,h⟩=>h⟩);intro k y u al hu;rw [List.getElem?_mapIdx] at al;cases hk:cs[k]? with
   | none=>rw [hk] at al; cases al
   | some z =>
    rw [hk] at al;cases al;exact aM (by rw [tD,au]; exact hk) (by rw [yb,hv]; exact hu) (ah k z u hk hu)
  | @bQ cs vs b3 _ ai ah aP aI =>
   refine .bQ (Fs:=λ_=>ct) (by simpa using ai) ?_ (λ_ _ _ _ _ h=>h.elim) (λc=>⟨λh=>h.elim,λ⟨_,_,h⟩=>h⟩);intro k y u al hu;rw [List.getElem?_mapIdx] at al;cases hk:cs[k]? with
   | none=>rw [hk] at al; cases al
   | some z =>
    rw [hk] at al;cases al;exact aM (by rw [tD,au]; exact hk) (by rw [yb,hv]; exact hu) (ah k z u hk hu)
  | ds aI h1 af iA ie=>exact .ds (λ_ h=>h) h1 af iA ie
theorem Cr {ρ:ab->Value->Prop}(v:Value):R w I ρ (kg v) v ct:=by
 unfold kg;split
 ·exact .aT λ_ h=>h
 ·exact .dead λ_ h=>h
 ·exact .dead λ_ h=>h
 ·rename_i h1 af aK;refine .lit ?_ λ_ h=>h;cases v <;> first | rfl | (exact absurd rfl (af _)) | (exact absurd rfl (aK _))
theorem XZ {ρ:ab->Value->Prop}(v:Value):R w I ρ (ofConst v) v ct:=by
 unfold ofConst;split
 ·rename_i vs;split
  ·rename_i hh;refine .agg (Fs:=λ_=>ct) (by simp) (λk u hu=>?_) ?_ (λ_ _ _ _ _ h=>h.elim) (λc=>⟨λh=>h.elim,λ⟨_,_,h⟩=>h⟩)
   ·exact Array.all_eq_true_iff_forall_mem.1 hh u (Array.mem_of_getElem? hu)
   ·intro k x u j hu;simp only [List.getElem?_map,Array.getElem?_toList,hu,Option.map_some,Option.some.injEq] at j;subst j;exact Cr u
  ·exact .dead λ_ h=>h
 ·exact .dead λ_ h=>h
 ·exact Cr v
theorem lh (h:cG w I T g Fs) {x:Operand}{y:ab}(al:bn g x=some y) {a:Act}(aR:a.tmps=T):R w I (dU w T g) y (a.eval x) ct:=by
 cases x with
 | tmp t =>
  simp only [bn] at al;cases j:g t with
  | none=>rw [j] at al; cases al
  | some z =>
   rw [j] at al;simp only [Option.map_some,Option.some.injEq] at al;obtain ⟨v,hv,a1⟩:=h.rel t z j;have rP:a.eval (.tmp t)=v:=by simp [Act.eval,aR,hv]
   rw [rP];have au:bt g ⟨t,[]⟩=some z:=by simp [bt,j,ab.at]
   have zt:dW w T ⟨t,[]⟩=some v:=by simp [dW,hv,walk]
   subst al;cases a1 with
   | tree a1 =>
    cases z with
    | bC=>exact a1.lb.elim
    | _=>exact Fu 2 au zt a1
   | @bC jJ n m p new v bv e cd us news _ a1 =>
    simp only [oc];have:∃ a cap,v=.slice a (n+m) cap:=by
     obtain ⟨_,af⟩:=a1.nu;rcases af with ⟨af,aK⟩ | ⟨b,cap,cur,af,_⟩
     ·exact ⟨none,0,by rw [af]; congr 1; omega⟩
     ·exact ⟨_,cap,af⟩
    obtain ⟨b1,cap,rfl⟩:=this;exact .ref rfl ⟨⟨b1,_,cap,zt,rfl,Nat.le_refl _⟩,.inr ⟨rfl,p,n,m,new,j,rfl⟩⟩ λ_ h=>h
 | const v=>simp only [bn,Option.some.injEq] at al; subst al; exact XZ v
 | global n=>simp [bn] at al
 | func f =>
  simp only [bn,Option.some.injEq] at al;subst al;exact .ds (λ_ h=>h) rfl rfl (by simp) (by simp)
end
end Go.Own
namespace Go.Own
open Go
set_option linter.unusedSectionVars false
variable [cH]
def j' (P:Program) (t:TypeId):Bool :=
 match P.underlying t,P.info? t with
 | some (.struct _),_=>false
 | some (.array ..),_=>false
 | some _,some i=>i.size == 1
 | _,_=>false
def iH (P:Program) (t:TypeId) (k:Nat):Bool :=
 match P.underlying t,P.info? t with
 | some (.struct _),some i=>i.size == k
 | some (.array ..),some i=>i.size == k
 | _,_=>false
def fe (P:Program) (t e:TypeId) (z:Nat):Bool :=
 match P.underlying t,P.info? e with
 | some (.slice b_),some i=>b_ == e&&i.size == z
 | _,_=>false
def DO (P:Program) (t e:TypeId) (n z:Nat):Bool :=
 match P.underlying t,P.info? e with
 | some (.array cm b_),some i=>cm == n&&b_ == e&&i.size == z
 | _,_=>false
def oZ (P:Program) (t:TypeId):Bool :=
 match P.underlying t with
 | some .string=>true
 | _=>false
def wF (P:Program) (s d:TypeId):Bool :=
 match P.underlying s,P.underlying d with
 | some (.slice e),some .string=>match P.underlying e with
  | some (.int .u8)=>true
  | _=>false
 | _,_=>false
def iX (P:Program) (s:TypeId) (f off:Nat) (t:TypeId):Bool :=
 match P.underlying s with
 | some (.struct fs) =>
  match fs[f]? with
  | some fd=>fd.offset == off&&fd.type == t&&(match P.info? t with | some i=>i.size != 0 | none=>false)
  | none=>false
 | _=>false
section
variable {P:Program}{w:World}
theorem G6 {t:TypeId}(h:j' P t=true):(isAgg t).run P w=.ok false w/\(sizeOf t).run P w=.ok 1 w:=by
 unfold j' at h;cases hu:P.underlying t with
 | none=>simp [hu] at h
 | some d =>
  cases hi:P.info? t with
  | none=>cases d <;> simp [hu,hi] at h
  | some i=>cases d <;> simp [hu,hi] at h <;> simp [isAgg,run_underlying hu,sizeOf,typeInfo,hi,h]
theorem DK {t:TypeId}{k:Nat}(h:iH P t k=true):(isAgg t).run P w=.ok true w/\(sizeOf t).run P w=.ok k w:=by
 unfold iH at h;cases hu:P.underlying t with
 | none=>simp [hu] at h
 | some d =>
  cases hi:P.info? t with
  | none=>cases d <;> simp [hu,hi] at h
  | some i=>cases d <;> simp [hu,hi] at h <;> simp [isAgg,run_underlying hu,sizeOf,typeInfo,hi,h]
theorem qw {t e:TypeId}{z:Nat}(h:fe P t e z=true):P.underlying t=some (.slice e)/\P.elem t=e/\(sizeOf e).run P w=.ok z w:=by
 unfold fe at h;cases hu:P.underlying t with
 | none=>simp [hu] at h
 | some d =>
  cases hi:P.info? e with
  | none=>cases d <;> simp [hu,hi] at h
  | some i =>
   cases d <;> simp [hu,hi] at h;obtain ⟨rfl,h⟩:=h;exact ⟨rfl,by simp [Program.elem,hu],by simp [sizeOf,typeInfo,hi,h]⟩
theorem LK {t e:TypeId}{n z:Nat}(h:DO P t e n z=true):P.underlying t=some (.array n e)/\(sizeOf e).run P w=.ok z w:=by
 unfold DO at h;cases hu:P.underlying t with
 | none=>simp [hu] at h
 | some d =>
  cases hi:P.info? e with
  | none=>cases d <;> simp [hu,hi] at h
  | some i =>
   cases d <;> simp [hu,hi] at h;obtain ⟨⟨rfl,rfl⟩,h⟩:=h;exact ⟨rfl,by simp [sizeOf,typeInfo,hi,h]⟩
theorem LY {s d:TypeId}(h:wF P s d=true):∃ e,P.underlying s=some (.slice e)/\P.underlying e=some (.int .u8)/\P.underlying d=some .string:=by
 unfold wF at h
 split at h
 ·rename_i e h1 af
  split at h
  ·rename_i aK;exact ⟨e,h1,aK,af⟩
  ·cases h
 ·cases h
theorem KD {t:TypeId}(h:oZ P t=true):P.underlying t=some .string:=by
 unfold oZ at h;cases hu:P.underlying t with
 | none=>simp [hu] at h
 | some d=>cases d <;> simp [hu] at h; rfl
theorem Hp {s:TypeId}{f off:Nat}{t:TypeId}(h:iX P s f off t=true):∃ fs fd,P.underlying s=some (.struct fs)/\fs[f]?=some fd/\fd.offset=off/\fd.type=t/\∃ i,P.info? t=some i/\i.size≠0:=by
 unfold iX at h;cases hu:P.underlying s with
 | none=>simp [hu] at h
 | some d =>
  cases d <;> simp [hu] at h;rename_i fs;cases aS:fs[f]? with
  | none=>simp [aS] at h
  | some fd =>
   simp [aS] at h;obtain ⟨⟨h1,af⟩,aK⟩:=h;cases hi:P.info? t with
   | none=>simp [hi] at aK
   | some i=>simp [hi] at aK; exact ⟨fs,fd,rfl,aS,h1,af,i,rfl,aK⟩
theorem add_eq (b o k:Nat):(⟨b,o,none⟩:Addr).add k=⟨b,o+k,none⟩:=by
 unfold Addr.add;split
 ·rename_i h; subst h; rfl
 ·rfl
theorem PB {s:TypeId}{f off:Nat}{t:TypeId}(h:iX P s f off t=true) (b o:Nat):(Instr.fieldAt s (.pointer (some ⟨b,o,none⟩)) f).run P w=.ok (.pointer (some ⟨b,o+off,none⟩)) w:=by
 obtain ⟨fs,fd,hu,aS,rfl,rfl,i,hi,aO⟩:=Hp h;simp [Instr.fieldAt,run_underlying hu,aS,Instr.sureAddr,fieldPlace,sizeOf,typeInfo,hi,aO,add_eq]
theorem PD {t:TypeId}(h:j' P t=true) {a:Addr}{v:Value}(aa:w.cell? a=some v):(Instr.loadAt t (.pointer (some a))).run P w=.ok v w:=by
 obtain ⟨h1,af⟩:=G6 (w:=w) h;simp [Instr.loadAt,Instr.sureAddr,loadVar,h1,aa]
theorem PC {t:TypeId}{k:Nat}(h:iH P t k=true) {b o:Nat}{vs:List Value}(ai:vs.length=k) (aa:∀ J v,vs[J]?=some v->w.cell? ⟨b,o+J,none⟩=some v) :
  (Instr.loadAt t (.pointer (some ⟨b,o,none⟩))).run P w=.ok (.agg vs.toArray) w:=by
 obtain ⟨h1,af⟩:=DK (w:=w) h;have:=run_loadCells_list (P:=P) w ⟨b,o,none⟩ vs (λJ v aj=>by rw [add_eq]; exact aa J v aj);rw [ai] at this;simp [Instr.loadAt,Instr.sureAddr,loadVar,h1,af,this]
end
end Go.Own
namespace Go.Own
open Go
set_option linter.unusedSectionVars false
variable [cH]
section
variable {w:World}{I:a8}{ρ:ab->Value->Prop}{v:Value}{F:a8}
theorem R.h_ {a:Value}(h:R w I ρ (.lit a) v F):v=a/\a.oneCell'=true:=by
 cases h with
 | lit hv=>exact ⟨rfl,hv⟩
 | ref j=>simp [ab.isRef] at j
theorem R.r4 (h:R w I ρ .aT v F):v=.slice none 0 0:=by
 cases h with
 | aT=>rfl
 | ref j=>simp [ab.isRef] at j
theorem R.nB {p:Place}{k:Nat}(h:R w I ρ (.ptr p k) v F):ρ (.ptr p k) v:=by
 cases h with
 | ref j h=>exact h
theorem R.mX {z:Nat}{p:Place}{n:Nat}(h:R w I ρ (.bf z p n) v F):ρ (.bf z p n) v:=by
 cases h with
 | ref j h=>exact h
theorem R.xi {z:Nat}{p:Place}{lo n:Nat}(h:R w I ρ (.sub z p lo n) v F):ρ (.sub z p lo n) v:=by
 cases h with
 | ref j h=>exact h
theorem R.zw {z n:Nat}{cs:List ab}(h:R w I ρ (.bk z n cs) v F):∃ a cap,v=.slice a n cap/\n<=cap/\cs.length=n * z /\
  (cs≠[]\/0<n->∃ (ad:Addr) (us:Nat->Value),a=some ad/\I ad.block/\ad.spot=none/\(∀ (k:Nat) (x:ab),cs[k]?=some x->(us k).oneCell'=true)/\(∀ (k:Nat) (x:ab),cs[k]?=some x->w.cell? ⟨ad.block,ad.off+k,none⟩=some (us k))/\∀ (k:Nat) (x:ab),cs[k]?=some x->R w I ρ x (us k) ct):=by
 cases h with
 | @hB _ cap a=>exact ⟨a,cap,rfl,Nat.zero_le _,by simp,λh=>by simp at h⟩
 | @bk _ _ cap _ ad us _ aI k6 bb az ai h1 aa ah=>exact ⟨_,cap,rfl,k6,ai,λ_=>⟨ad,us,rfl,bb,az,h1,aa,ah⟩⟩
 | ref j=>simp [ab.isRef] at j
theorem R.xh {cs:List ab}(h:R w I ρ (.cK cs) v F):∃ (ad:Addr) (us:Nat->Value),v=.pointer (some ad)/\I ad.block/\ad.spot=none/\(∀ (k:Nat) (x:ab),cs[k]?=some x->(us k).oneCell'=true)/\(∀ (k:Nat) (x:ab),cs[k]?=some x->w.cell? ⟨ad.block,ad.off+k,none⟩=some (us k))/\∀ (k:Nat) (x:ab),cs[k]?=some x->R w I ρ x (us k) ct:=by
 cases h with
 | @cK _ ad us _ aI bb az h1 aa ah=>exact ⟨ad,us,rfl,bb,az,h1,aa,ah⟩
 | ref j=>simp [ab.isRef] at j
theorem R.B3 {cs:List ab}(h:R w I ρ (.agg cs) v F) (aI:∀ c,¬ F c):∃ vs:Array Value,v=.agg vs/\cs.length=vs.size/\(∀ (k:Nat) (u:Value),vs[k]?=some u->u.oneCell'=true)/\∀ (k:Nat) (x:ab) (u:Value),cs[k]?=some x->vs[k]?=some u->R w I ρ x u ct:=by
 cases h with
 | @agg _ vs Fs _ ai h1 ah aP pq=>exact ⟨vs,rfl,ai,h1,λk x u j hu=>(ah k x u j hu).empty λc aa=>aI c ((pq c).2 ⟨k,(List.getElem?_eq_some_iff.1 j).1,aa⟩)⟩
 | ref j=>simp [ab.isRef] at j
theorem R.Xt {cs:List ab}(h:R w I ρ (.bQ cs) v F) (aI:∀ c,¬ F c):∃ vs:Array Value,v=.tuple vs/\cs.length=vs.size/\∀ (k:Nat) (x:ab) (u:Value),cs[k]?=some x->vs[k]?=some u->R w I ρ x u ct:=by
 cases h with
 | @bQ _ vs Fs _ ai ah aP pq=>exact ⟨vs,rfl,ai,λk x u j hu=>(ah k x u j hu).empty λc aa=>aI c ((pq c).2 ⟨k,(List.getElem?_eq_some_iff.1 j).1,aa⟩)⟩
 | ref j=>simp [ab.isRef] at j
theorem R.node {y:ab}{z n:Nat}{cs:List ab}(h:R w I ρ y v F) (al:y=.own z n cs\/y=.obj cs) {k:Nat}{x:ab}(hk:cs[k]?=some x) :
  ∃ b u,addrOf v=some ⟨b,0,none⟩/\w.cell? ⟨b,k,none⟩=some u/\child w v k=some u/\u.oneCell'=true/\∃ bV,R w I ρ x u bV:=by
 rcases al with rfl | rfl
 ·cases h with
  | @own _ _ _ _ e us Fs _ aV ai h1 ah aP av aI =>
   have aQ:k<cs.length:=(List.getElem?_eq_some_iff.1 hk).1;have hu:us[k]?=some us[k]:=List.getElem?_eq_getElem (ai ▸ aQ);have nr:=oV aV hu;obtain ⟨k_,af⟩:=aV;rcases af with ⟨rfl,rfl⟩ | ⟨b,cap,cur,rfl,aN,bH,rest⟩
   ·grind
   ·exact ⟨b,_,rfl,by simpa [child] using nr,nr,h1 k _ hu,Fs k,ah k x _ hk hu⟩
  | ref j=>simp [ab.isRef] at j
 ·cases h with
  | @obj _ b e arr Fs _ aV ai h1 ah aP av aI =>
   have aQ:k<cs.length:=(List.getElem?_eq_some_iff.1 hk).1;have hu:arr[k]?=some arr[k]:=Array.getElem?_eq_getElem (ai ▸ aQ);exact ⟨b,_,rfl,by simp [World.cell?,aV,hu],by simp [child,World.cell?,aV,hu],h1 k _ hu,Fs k,ah k x _ hk hu⟩
  | ref j=>simp [ab.isRef] at j
end
def pS (g:aL) (d:Nat):Option Operand->Nat->Prop
 | none,J=>J=d
 | some o,J=>∃ k,bn g o=some (.lit (.int k (J:Int)))
inductive cU (P:Program) (g:aL):Op->TypeId->ab->Prop
 | move {x:Operand}{ty:TypeId}{y:ab}(j:bn g x=some y):cU P g (.move x) ty y
 | assign {x:Operand}{ty:TypeId}{y:ab}(j:bn g x=some y):cU P g (.assign x) ty y
 | pick {c a b:Operand}{ty:TypeId}{t:Bool}{r:ab}(aa:bn g c=some (.lit (.bool t))) (ah:bn g (if t then a else b)=some r):cU P g (.pick c a b) ty r
 | E9 {x:Operand}{ty:TypeId}{p:Place}{k:Nat}(j:bn g x=some (.ptr p k)):cU P g (.nilCheck x) ty (.ptr p k)
 | qm {x:Operand}{ty:TypeId}{cs:List ab}(j:bn g x=some (.cK cs)):cU P g (.nilCheck x) ty (.cK cs)
 | A5 {x:Operand}{ty s t:TypeId}{f off:Nat}{p:Place}{k:Nat}(j:bn g x=some (.ptr p k)) (aS:iX P s f off t=true) (da:gZ g (.ptr p (k+off))):cU P g (.fieldAddr s x f) ty (.ptr p (k+off))
 | D6 {x:Operand}{ty s t:TypeId}{f off:Nat}{cs:List ab}(j:bn g x=some (.cK cs)) (aS:iX P s f off t=true):cU P g (.fieldAddr s x f) ty (.cK (cs.drop off))
 | D5 {x:Operand}{ty s t:TypeId}{f off:Nat}{cs:List ab}{y:ab}(j:bn g x=some (.agg cs)) (aS:iX P s f off t=true) (ar:j' P t=true) (al:cs[off]?=some y):cU P g (.field s x f) ty y
 | Ho {x:Operand}{ty s t:TypeId}{f off k:Nat}{cs:List ab}(j:bn g x=some (.agg cs)) (aS:iX P s f off t=true) (ar:iH P t k=true) (hk:off+k<=cs.length):cU P g (.field s x f) ty (.agg ((cs.drop off).take k))
 | EM {x i:Operand}{ty t e:TypeId}{z n:Nat}{cs:List ab}{nE:IntKind}{J:Nat}(j:bn g x=some (.bk z n cs)) (hi:bn g i=some (.lit (.int nE (J:Int)))) (ar:fe P t e z=true) (aj:J<n):cU P g (.indexAddr t x i) ty (.cK (cs.drop (J * z)))
 | EL {x i:Operand}{ty t e:TypeId}{z n:Nat}{p:Place}{nE:IntKind}{J:Nat}(j:bn g x=some (.bf z p n)) (hi:bn g i=some (.lit (.int nE (J:Int)))) (ar:fe P t e z=true) (aj:J<n) (da:gZ g (.ptr p (J * z))):cU P g (.indexAddr t x i) ty (.ptr p (J * z))
 | Jl {x i:Operand}{ty t e:TypeId}{z lo n:Nat}{p:Place}{nE:IntKind}{J:Nat}(j:bn g x=some (.sub z p lo n)) (hi:bn g i=some (.lit (.int nE (J:Int)))) (ar:fe P t e z=true) (aj:J<n) (da:gZ g (.ptr p ((lo+J) * z))):cU P g (.indexAddr t x i) ty (.ptr p ((lo+J) * z))
 | Jk {x i:Operand}{ty t e:TypeId}{n z k:Nat}{p:Place}{nE:IntKind}{J:Nat}(j:bn g x=some (.ptr p k)) (hi:bn g i=some (.lit (.int nE (J:Int)))) (ar:DO P t e n z=true) (aj:J<n) (da:gZ g (.ptr p (k+J * z))):cU P g (.indexAddr t x i) ty (.ptr p (k+J * z))
 | Jj {x i:Operand}{ty t e:TypeId}{n z:Nat}{cs:List ab}{nE:IntKind}{J:Nat}(j:bn g x=some (.cK cs)) (hi:bn g i=some (.lit (.int nE (J:Int)))) (ar:DO P t e n z=true) (aj:J<n):cU P g (.indexAddr t x i) ty (.cK (cs.drop (J * z)))
 | E0 {x:Operand}{ty t:TypeId}{c:ab}{cs:List ab}(j:bn g x=some (.cK (c::cs))) (ar:j' P t=true):cU P g (.load t x) ty c
 | E1 {x:Operand}{ty t:TypeId}{k:Nat}{cs:List ab}(j:bn g x=some (.cK cs)) (ar:iH P t k=true) (hk:k<=cs.length):cU P g (.load t x) ty (.agg (cs.take k))
 | Cf {x:Operand}{ty t:TypeId}{p:Place}{k:Nat}{y:ab}(j:bn g x=some (.ptr p k)) (ar:j' P t=true) (al:bt g (p.push k)=some y):cU P g (.load t x) ty (fL 0 (p.push k) y)
 | xr {x:Operand}{ty t:TypeId}{p:Place}{k m z n:Nat}{y:ab}{cs:List ab}(j:bn g x=some (.ptr p k)) (ar:iH P t m=true) (al:bt g p=some y) (aa:y=.own z n cs\/y=.obj cs) (hm:k+m<=cs.length):cU P g (.load t x) ty (.agg (((cs.drop k).take m).mapIdx λi x=>fL 0 (p.push (k+i)) x))
 | EN {x i:Operand}{ty t:TypeId}{s:ByteArray}{nE:IntKind}{J:Nat}{b:UInt8}(j:bn g x=some (.lit (.string s))) (hi:bn g i=some (.lit (.int nE (J:Int)))) (ar:oZ P t=true) (av:s[J]?=some b):cU P g (.index t x i) ty (.lit (.int .u8 b.toNat))
 | bin {op:BinOp}{x y:Operand}{ty t t2:TypeId}{a b v:Value}(j:bn g x=some (.lit a)) (al:bn g y=some (.lit b)) (hv:v.oneCell'=true) (ah:∀ w,(do eqGuard op t x y a b; binOp op t a b:Sem Value).run P w=.ok v w):cU P g (.binOp op t x y t2) ty (.lit v)
 | AN {op:BinOp}{x y:Operand}{ty t t2:TypeId}{dI dr:List Value}{v:Value}(j:bn g x=some (.agg (dI.map .lit))) (al:bn g y=some (.agg (dr.map .lit))) (hv:v.oneCell'=true) (ah:∀ w,(do eqGuard op t x y (.agg dI.toArray) (.agg dr.toArray); binOp op t (.agg dI.toArray) (.agg dr.toArray):Sem Value).run P w=.ok v w):cU P g (.binOp op t x y t2) ty (.lit v)
 | un {op:UnOp}{x:Operand}{ty t:TypeId}{a v:Value}(j:bn g x=some (.lit a)) (hv:v.oneCell'=true) (ah:∀ w,(Op.unary op a).run P w=.ok v w):cU P g (.unOp op t x) ty (.lit v)
 | conv {x:Operand}{ty s d:TypeId}{a v:Value}(j:bn g x=some (.lit a)) (hv:v.oneCell'=true) (ah:∀ w,(convert s d a).run P w=.ok v w):cU P g (.convert s d x) ty (.lit v)
 | DW {x:Operand}{ty s d:TypeId}{n N:Nat}{p:Place}{cs:List ab}{xs:List Int}(j:bn g x=some (.bf 1 p n)) (au:bt g p=some (.own 1 N cs)) (aA:n<=N) (gS:cs.take n=xs.map λb=>.lit (.int .u8 b)) (ar:wF P s d=true):cU P g (.convert s d x) ty (.lit (.string (strOfNums xs)))
 | DX {x:Operand}{ty s d:TypeId}{n:Nat}{xs:List Int}(j:bn g x=some (.bk 1 n (xs.map λb=>.lit (.int .u8 b)))) (ar:wF P s d=true):cU P g (.convert s d x) ty (.lit (.string (strOfNums xs)))
 | Hl {xs:Array Operand}{gl:Array TypeId}{ty:TypeId}{f:FuncId}{vs:List Value}{v:Value}(j:xs.toList.map (bn g)=vs.map λv=>some (.lit v)) (hv:v.oneCell'=true)
   (ah:∀ w,(callFunc f vs.toArray).run P w=.ok (.value v) w):cU P g (.call { callee:=.value (.func f),args:=xs,argTypes:=gl }) ty (.lit v)
 | D2 {x:Operand}{ty:TypeId}{i:Nat}{cs:List ab}{y:ab}(j:bn g x=some (.bQ cs)) (al:cs[i]?=some y):cU P g (.extract x i) ty y
 | Ag {x:Operand}{lo hi:Option Operand}{ty t e:TypeId}{z n l h:Nat}{cs:List ab}(j:bn g x=some (.bk z n cs)) (ai:pS g 0 lo l) (bH:pS g n hi h) (ar:fe P t e z=true) (sC:l<=h) (aA:h<=n):cU P g (.slice t x lo hi none) ty (.bk z (h - l) ((cs.drop (l * z)).take ((h - l) * z)))
 | KB {x:Operand}{lo hi:Option Operand}{ty t e:TypeId}{z n h:Nat}{p:Place}(j:bn g x=some (.bf z p n)) (ai:pS g 0 lo 0) (bH:pS g n hi h) (ar:fe P t e z=true) (aA:h<=n) (da:gZ g (.bf z p h)):cU P g (.slice t x lo hi none) ty (.bf z p h)
 | FI {x:Operand}{lo hi:Option Operand}{ty t e:TypeId}{z n l h:Nat}{p:Place}(j:bn g x=some (.bf z p n)) (ai:pS g 0 lo l) (bH:pS g n hi h) (ar:fe P t e z=true) (sC:l<=h) (aA:h<=n) (da:gZ g (.sub z p l (h - l))):cU P g (.slice t x lo hi none) ty (.sub z p l (h - l))
 | Ah {x:Operand}{lo hi:Option Operand}{ty t:TypeId}{l h:Nat}{s:ByteArray}(j:bn g x=some (.lit (.string s))) (ai:pS g 0 lo l) (bH:pS g s.size hi h) (ar:oZ P t=true) (sC:l<=h) (aA:h<=s.size):cU P g (.slice t x lo hi none) ty (.lit (.string (s.extract l h)))
 | Cb {x:Operand}{ty t e:TypeId}{z br n:Nat}{cs:List ab}(j:bn g x=some (.bk z n cs)) (ar:fe P t e br=true):cU P g (.call { callee:=.builtin .len,args:=#[x],argTypes:=#[t] }) ty (.lit (.int .i64 n))
 | Ca {x:Operand}{ty t e:TypeId}{z br n:Nat}{p:Place}(j:bn g x=some (.bf z p n)) (ar:fe P t e br=true):cU P g (.call { callee:=.builtin .len,args:=#[x],argTypes:=#[t] }) ty (.lit (.int .i64 n))
 | JE {x:Operand}{ty t e:TypeId}{z br lo n:Nat}{p:Place}(j:bn g x=some (.sub z p lo n)) (ar:fe P t e br=true):cU P g (.call { callee:=.builtin .len,args:=#[x],argTypes:=#[t] }) ty (.lit (.int .i64 n))
 | JD {x:Operand}{ty t e:TypeId}{br:Nat}(j:bn g x=some .aT) (ar:fe P t e br=true):cU P g (.call { callee:=.builtin .len,args:=#[x],argTypes:=#[t] }) ty (.lit (.int .i64 0))
 | lits {b:Builtin}{xs:Array Operand}{gl:Array TypeId}{ty:TypeId}{vs:List Value}{v:Value}(j:xs.toList.map (bn g)=vs.map λv=>some (.lit v)) (hv:v.oneCell'=true)
   (ah:∀ w (cs:Array Bool),(builtin b gl ty cs vs.toArray).run P w=.ok (.value v) w):cU P g (.call { callee:=.builtin b,args:=xs,argTypes:=gl }) ty (.lit v)
 | JH {x y:Operand}{ty t:TypeId}{p:Place}{q:Array MapEntry->Nat->Prop}{ok:Bool}{Y X:ab}{qY V:Value}(j:bn g x=some (.hq p)) (au:bt g p=some (.mp q)) (al:bn g y=some Y)
   (c7:∀ (w:World) (I:a8) (ρ:ab->Value->Prop) (v:Value),R w I ρ Y v ct->v=qY) (a1:∀ (w:World) (I:a8) (ρ:ab->Value->Prop),R w I ρ X V ct)
   (ah:∀ (w:World) (b:Nat) (es:Array MapEntry) (clock:Nat),w.heap[b]?=some (.map es clock)->q es clock->(Instr.lookup t (.map (some b)) qY ok).run P w=.ok V w):cU P g (.lookup t x y ok) ty X
 | Ce {x y:Operand}{ty t:TypeId}{q:Array MapEntry->Nat->Prop}{ok:Bool}{Y X:ab}{qY V:Value}(j:bn g x=some (.imp q)) (al:bn g y=some Y)
   (c7:∀ (w:World) (I:a8) (ρ:ab->Value->Prop) (v:Value),R w I ρ Y v ct->v=qY) (a1:∀ (w:World) (I:a8) (ρ:ab->Value->Prop),R w I ρ X V ct)
   (ah:∀ (w:World) (b:Nat) (es:Array MapEntry) (clock:Nat),w.heap[b]?=some (.map es clock)->q es clock->(Instr.lookup t (.map (some b)) qY ok).run P w=.ok V w):cU P g (.lookup t x y ok) ty X
theorem R.Xs {w:World}{I:a8}{ρ:ab->Value->Prop}{p:Place}{v:Value}{F:a8}(h:R w I ρ (.hq p) v F):ρ (.hq p) v:=by
 cases h with
 | ref _ h _=>exact h
theorem R.Xr {w:World}{I:a8}{ρ:ab->Value->Prop}{q:Array MapEntry->Nat->Prop}{v:Value}{F:a8}(h:R w I ρ (.mp q) v F):∃ b es clock,v=.map (some b)/\w.heap[b]?=some (.map es clock)/\q es clock/\∀ c,F c↔c=b:=by
 cases h with
 | ref j=>simp [ab.isRef] at j
 | mp aV a7 aI=>exact ⟨_,_,_,rfl,aV,a7,aI⟩
theorem R.Xq {w:World}{I:a8}{ρ:ab->Value->Prop}{q:Array MapEntry->Nat->Prop}{v:Value}{F:a8}(h:R w I ρ (.imp q) v F):∃ b es clock,v=.map (some b)/\w.heap[b]?=some (.map es clock)/\q es clock:=by
 cases h with
 | ref j=>simp [ab.isRef] at j
 | imp _ _ aV a7=>exact ⟨_,_,_,rfl,aV,a7⟩
end Go.Own
namespace Go.Own
open Go
set_option linter.unusedSectionVars false
variable [cH]
section
variable {P:Program}{w:World}{I:a8}{T:Array Value}{g:aL}{Fs:Nat->a8}
theorem pS.sound (h:cG w I T g Fs) {d:Nat}{x:Option Operand}{J:Nat}(av:pS g d x J) {a:Act}(aR:a.tmps=T):(x.map a.eval=none/\J=d)\/∃ k,x.map a.eval=some (.int k (J:Int)):=by
 cases x with
 | none=>exact .inl ⟨rfl,av⟩
 | some o =>
  obtain ⟨k,hk⟩:=av;exact .inr ⟨k,by rw [Option.map_some,(lh h hk aR).h_.1]⟩
theorem Fy {len cap l h:Nat}{lo hi:Option Value}(ai:(lo=none/\l=0)\/∃ k,lo=some (.int k (l:Int))) (bH:(hi=none/\h=len)\/∃ k,hi=some (.int k (h:Int))) (b:Bool) (sC:l<=h) (aa:h<=cap) :
  (Instr.sliceBounds b len cap lo hi none).run P w=.ok (l,h,cap) w:=by
 rcases ai with ⟨rfl,rfl⟩ | ⟨k,rfl⟩ <;> rcases bH with ⟨rfl,rfl⟩ | ⟨kL,rfl⟩ <;> simp [Instr.sliceBounds,Instr.sliceBound,asIntOf,sC,aa]
theorem Ot (h:cG w I T g Fs) {a:Act}(aR:a.tmps=T):∀ (xs:List Operand) (vs:List Value),xs.map (bn g)=vs.map (λv=>some (.lit v))->xs.map a.eval=vs
 | [],[],_=>rfl
 | [],_::_,h=>by simp at h
 | _::_,[],h=>by simp at h
 | x::xs,v::vs,j=>by
  simp only [List.map_cons,List.cons.injEq] at j;rw [List.map_cons,(lh h j.1 aR).h_.1,Ot h aR xs vs j.2]
theorem LB {w:World}{I:a8}{ρ:ab->Value->Prop}{v:Value}{dI:List Value}
  (h:∃ vs:Array Value,v=.agg vs/\(dI.map ab.lit).length=vs.size/\(∀ (k:Nat) (u:Value),vs[k]?=some u->u.oneCell'=true)/\∀ (k:Nat) (x:ab) (u:Value),(dI.map ab.lit)[k]?=some x->vs[k]?=some u->R w I ρ x u ct):v=.agg dI.toArray:=by
 obtain ⟨vs,rfl,ai,-,ah⟩:=h;congr 1;apply Array.ext (by simpa using ai.symm);intro i h1 af;have aK:i<dI.length:=by simpa using af
 have:=(ah i (.lit dI[i]) vs[i] (by simp [aK]) (Array.getElem?_eq_getElem h1)).h_.1
 grind
theorem cU.sound (h:cG w I T g Fs) {a:Act}(aR:a.tmps=T) {o:Oper}{kz:ab}(au:cU P g o.op o.type kz) :
  ∃ v,(execOp a.eval o).run P w=.ok (.value v) w/\R w I (dU w T g) kz v ct:=by
 obtain ⟨dst,op,ty,pos,after,guard⟩:=o;simp only at au;have fR:∀ {x:Operand}{y:ab},bn g x=some y->R w I (dU w T g) y (a.eval x) ct:=λal=>lh h al aR;have no:∀ c,¬ ct c:=λ_ h=>h;cases au with
 | move j=>exact ⟨_,by simp [execOp],fR j⟩
 | assign j=>exact ⟨_,by simp [execOp],fR j⟩
 | @pick c x y _ t r aa ah =>
  have vf:=(fR aa).h_.1;refine ⟨_,?_,fR ah⟩;simp [execOp,vf,asBool]
  grind
 | @E9 x _ p k j =>
  have ah:=fR j;obtain ⟨⟨u,ad,h1,af,aK⟩,bu⟩:=ah.nB
  simp_all [execOp]
 | @qm x _ cs j =>
  have ah:=fR j;obtain ⟨ad,us,aK,_⟩:=ah.xh
  simp_all [execOp]
 | @A5 x _ s t f off p k j aS da =>
  obtain ⟨⟨u,ad,h1,af,aK⟩,bu⟩:=(fR j).nB;refine ⟨.pointer (some ⟨ad.block,ad.off+k+off,none⟩),by simp [execOp,aK,PB aS],.ref rfl ⟨⟨u,ad,h1,af,by rw [Nat.add_assoc]⟩,da⟩ no⟩
 | @D6 x _ s t f off cs j aS =>
  obtain ⟨ad,us,aK,bb,az,gy,aa,ah⟩:=(fR j).xh;obtain ⟨b,o,sp⟩:=ad;simp only at az;subst az;refine ⟨.pointer (some ⟨b,o+off,none⟩),by simp [execOp,aK,PB aS],.cK (us:=λk=>us (off+k)) no bb rfl (λk x hk=>gy _ x (by rwa [List.getElem?_drop] at hk)) (λk x hk=>?_) λk x hk=>?_⟩
  ·grind
  grind
 | @D5 x _ s t f off cs y j aS ar al =>
  obtain ⟨vs,aK,ai,gy,ah⟩:=(fR j).B3 no;obtain ⟨fs,fd,hu,Il,rfl,rfl,i,hi,aO⟩:=Hp aS;have hk:fd.offset<cs.length:=(List.getElem?_eq_some_iff.1 al).1;have hv:vs[fd.offset]?=some vs[fd.offset]:=Array.getElem?_eq_getElem (ai ▸ hk);refine ⟨_,?_,ah _ kz _ al hv⟩;simp [execOp,aK,Instr.field,run_underlying hu,Il,asAgg,part,(G6 (w:=w) ar).1,hv]
 | @Ho x _ s t f off k cs j aS ar hk =>
  obtain ⟨vs,aK,ai,gy,ah⟩:=(fR j).B3 no;obtain ⟨fs,fd,hu,Il,rfl,rfl,i,hi,aO⟩:=Hp aS;refine ⟨.agg (vs.extract fd.offset (fd.offset+k)),?_,.agg (Fs:=λ_=>ct) (by simp [ai]; omega) (λJ u hT=>by
   rw [Array.getElem?_extract] at hT
   grind) (λJ y u al hT=>?_) (λ_ _ _ _ _ h=>h.elim) (λc=>⟨λh=>h.elim,λ⟨_,_,h⟩=>h⟩)⟩
  ·simp [execOp,aK,Instr.field,run_underlying hu,Il,asAgg,part,(DK (w:=w) ar).1,(DK (w:=w) ar).2]
  grind
 | @EM x i _ t e z n cs nE J j hi ar aj =>
  obtain ⟨hu,he,aW⟩:=qw (w:=w) ar;obtain ⟨lx,cap,aK,_,ai,hm⟩:=(fR j).zw;obtain ⟨ad,us,rfl,bb,az,gy,aa,ah⟩:=hm (.inr (by omega));obtain ⟨b,o,sp⟩:=ad;simp only at az;subst az;have sB:=(fR hi).h_.1;refine ⟨.pointer (some ⟨b,o+J * z,none⟩),?_,.cK (us:=λk=>us (J * z+k)) no bb rfl (λk x hk=>gy _ x (by rwa [List.getElem?_drop] at hk)) (λk x hk=>?_) λk x hk=>?_⟩
  ·simp [execOp,aK,sB,Instr.indexAt,run_underlying hu,asIntOf,aj,aW,add_eq]
  ·grind
  grind
 | @EL x i _ t e z n p nE J j hi ar aj da =>
  obtain ⟨hu,he,aW⟩:=qw (w:=w) ar;obtain ⟨⟨lx,N,cap,h1,af,aK⟩,bu⟩:=(fR j).mX;have sB:=(fR hi).h_.1;obtain ⟨y,al,jJ,dk,cs,er,aQ⟩:=da;obtain ⟨v,cq,hv,dE,_⟩:=h.part al (by rcases er with rfl | rfl <;> simp);rw [h1] at hv;cases hv;obtain ⟨b,u,fy,mq,_,_⟩:=dE.node er (List.getElem?_eq_getElem aQ);cases lx with
  | none=>simp [addrOf] at fy
  | some ad =>
   simp only [addrOf,Option.some.injEq] at fy;subst fy;refine ⟨.pointer (some ⟨b,J * z,none⟩),?_,.ref rfl ⟨⟨_,_,h1,rfl,by simp⟩,y,al,jJ,dk,cs,er,aQ⟩ no⟩;simp [execOp,af,sB,Instr.indexAt,run_underlying hu,asIntOf,aj,aW,add_eq]
 | @Jl x i _ t e z lo n p nE J j hi ar aj da =>
  obtain ⟨hu,he,aW⟩:=qw (w:=w) ar;obtain ⟨⟨lx,N,cap,b1,mM,h1,af,_,aK,cu⟩,bu⟩:=(fR j).xi;obtain ⟨ad,rfl,rfl⟩:=cu (by omega);have sB:=(fR hi).h_.1;obtain ⟨y,al,jJ,dk,cs,er,aQ⟩:=da;obtain ⟨v,cq,hv,dE,_⟩:=h.part al (by rcases er with rfl | rfl <;> simp);rw [h1] at hv;cases hv;obtain ⟨b,u,fy,mq,_,_⟩:=dE.node er (List.getElem?_eq_getElem aQ);simp only [addrOf,Option.some.injEq] at fy;subst fy;refine ⟨.pointer (some ⟨b,(lo+J) * z,none⟩),?_,.ref rfl ⟨⟨_,_,h1,rfl,by simp⟩,y,al,jJ,dk,cs,er,aQ⟩ no⟩;simp [execOp,af,sB,Instr.indexAt,run_underlying hu,asIntOf,aj,aW,add_eq,Nat.add_mul]
 | @Jk x i _ t e n z k p nE J j hi ar aj da =>
  obtain ⟨hu,aW⟩:=LK (w:=w) ar;obtain ⟨⟨u,ad,h1,af,aK⟩,bu⟩:=(fR j).nB;have sB:=(fR hi).h_.1;refine ⟨.pointer (some ⟨ad.block,ad.off+k+J * z,none⟩),?_,.ref rfl ⟨⟨u,ad,h1,af,by rw [Nat.add_assoc]⟩,da⟩ no⟩;simp [execOp,aK,sB,Instr.indexAt,run_underlying hu,Instr.sureAddr,asIntOf,aj,aW,add_eq]
 | @Jj x i _ t e n z cs nE J j hi ar aj =>
  obtain ⟨hu,aW⟩:=LK (w:=w) ar;obtain ⟨ad,us,aK,bb,az,gy,aa,ah⟩:=(fR j).xh;obtain ⟨b,o,sp⟩:=ad;simp only at az;subst az;have sB:=(fR hi).h_.1;refine ⟨.pointer (some ⟨b,o+J * z,none⟩),?_,.cK (us:=λk=>us (J * z+k)) no bb rfl (λk x hk=>gy _ x (by rwa [List.getElem?_drop] at hk)) (λk x hk=>?_) λk x hk=>?_⟩
  ·simp [execOp,aK,sB,Instr.indexAt,run_underlying hu,Instr.sureAddr,asIntOf,aj,aW,add_eq]
  ·grind
  grind
 | @E0 x _ t c cs j ar =>
  obtain ⟨ad,us,aK,bb,az,gy,aa,ah⟩:=(fR j).xh;obtain ⟨b,o,sp⟩:=ad;simp only at az;subst az;have aO:w.cell? ⟨b,o,none⟩=some (us 0):=by simpa using aa 0 kz rfl
  simp_all [execOp,PD]
 | @E1 x _ t k cs j ar hk =>
  obtain ⟨ad,us,aK,bb,az,gy,aa,ah⟩:=(fR j).xh;obtain ⟨b,o,sp⟩:=ad;simp only at az;subst az;have V5:∀ J v,((List.range k).map us)[J]?=some v->w.cell? ⟨b,o+J,none⟩=some v:=by
   grind
  refine ⟨.agg ((List.range k).map us).toArray,by simp [execOp,aK,PC ar (by simp) V5],.agg (Fs:=λ_=>ct) (by simp; omega) (λJ u hT=>by
   grind) (λJ y u al hT=>?_) (λ_ _ _ _ _ h=>h.elim) (λc=>⟨λh=>h.elim,λ⟨_,_,h⟩=>h⟩)⟩
  grind
 | @Cf x _ t p k y j ar al =>
  obtain ⟨⟨u,ad,h1,af,aK⟩,bu⟩:=(fR j).nB;rw [tD] at al;cases aA:bt g p with
  | none=>rw [aA] at al; cases al
  | some nd =>
   rw [aA] at al;simp only [Option.bind_some] at al;obtain ⟨y',oR,jJ,dk,cs,er,aQ⟩:=bu;rw [aA] at oR;cases oR;obtain ⟨v,cq,hv,dE,dq⟩:=h.part aA (by rcases er with rfl | rfl <;> simp);rw [h1] at hv;cases hv;have jN:cs[k]?=some y:=by rcases er with rfl | rfl <;> simpa [ab.kids] using al
   obtain ⟨b,gK,fy,mq,nr,gy,bV,kc⟩:=dE.node er jN;rw [fy] at af;cases af;refine ⟨gK,by simp only [execOp,aK]; simp [PD ar mq],Fu 0 (by rw [tD,aA]; exact al) (by rw [yb,h1]; exact nr) kc⟩
 | @xr x _ t p k m z n y cs j ar al er hm =>
  obtain ⟨⟨u,ad,h1,af,aK⟩,bu⟩:=(fR j).nB;obtain ⟨v,cq,hv,dE,dq⟩:=h.part al (by rcases er with rfl | rfl <;> simp);rw [h1] at hv;cases hv;have pw:∃ b,ad=⟨b,0,none⟩:=by
   obtain ⟨y',oR,jJ,dk,cs',N6,aQ⟩:=bu;rw [al] at oR;cases oR;have:cs'=cs:=by rcases er with rfl | rfl <;> rcases N6 with bH | bH <;> cases bH <;> rfl
   subst this;obtain ⟨b,gK,fy,_⟩:=dE.node N6 (List.getElem?_eq_getElem aQ)
   grind
  obtain ⟨b,rfl⟩:=pw;have Iw:y.kids=cs:=by rcases er with rfl | rfl <;> rfl
  have cell:∀ J,J<m->∃ gK,w.cell? ⟨b,k+J,none⟩=some gK/\gK.oneCell'=true/\∃ kR,cs[k+J]?=some kR/\R w I (dU w T g) (fL 0 (p.push (k+J)) kR) gK ct:=by
   intro J aj;have fT:cs[k+J]?=some cs[k+J]:=List.getElem?_eq_getElem (by omega);obtain ⟨dz,gK,fy,mq,nr,gy,bV,kc⟩:=dE.node er fT;rw [af] at fy;cases fy;exact ⟨gK,mq,gy,_,fT,Fu 0 (by rw [tD,al]; simp [Iw]) (by rw [yb,h1]; exact nr) kc⟩
  have hex:∃ us:List Value,us.length=m/\∀ J v,us[J]?=some v->w.cell? ⟨b,k+J,none⟩=some v:=by
   refine ⟨(List.range m).map λJ=>(w.cell? ⟨b,k+J,none⟩).getD undef,by simp,?_⟩
   grind
  obtain ⟨us,n9,WD⟩:=hex;refine ⟨.agg us.toArray,by simp only [execOp,aK]; simp [PC ar n9 (b:=b) (o:=k) WD],.agg (Fs:=λ_=>ct) (by simp; omega) (λJ u hT=>by
   grind) (λJ iQ u sM hT=>?_) (λ_ _ _ _ _ h=>h.elim) (λc=>⟨λh=>h.elim,λ⟨_,_,h⟩=>h⟩)⟩
  grind
 | @DW x _ s d n N p cs xs j au aA gS ar =>
  obtain ⟨e,az,he,aP⟩:=LY ar;obtain ⟨⟨lx,iU,cap,h1,af,aK⟩,_⟩:=(fR j).mX;obtain ⟨v,cq,hv,dE,dq⟩:=h.part au (by simp);rw [h1] at hv;cases hv;have hJ:(cs.take n).length=n:=by
   obtain ⟨_,_,_,ai⟩:=dE.mZ
   grind
  have hlen:xs.length=n:=by rw [<- hJ,gS,List.length_map]
  refine ⟨_,?_,.lit rfl no⟩;obtain ⟨_,_,ke,_,_,qQ,uh⟩:=dE.mZ;cases ke;cases lx with
  | none =>
   have aO:n=0:=by
    grind
   have:xs=[]:=List.eq_nil_of_length_eq_zero (hlen.trans aO);subst this;have ah:=run_convert_bytes_nil (P:=P) (w:=w) s e az he n cap d aP;simp [execOp,af,ah];rfl
  | some ad =>
   obtain ⟨b,o,sp⟩:=ad;obtain ⟨rfl,rfl⟩:=qQ _ rfl;have ah:=run_convert_bytes_arg (P:=P) w s e az he b 0 n cap xs hlen (λi hi=>by
    have Ic:(cs.take n)[i]?=some (.lit (.int .u8 (xs.getD i 0))):=by
     grind
    have Vu:cs[i]?=some (.lit (.int .u8 (xs.getD i 0))):=by
     grind
    obtain ⟨dz,u,fy,mq,_,_,bV,kc⟩:=dE.node (.inl rfl) Vu;simp only [addrOf,Option.some.injEq,Addr.mk.injEq,and_true] at fy;subst fy;rw [Nat.zero_add,mq,kc.h_.1]) d aP
   simp_all [execOp]
 | @DX x _ s d n xs j ar =>
  obtain ⟨e,az,he,aP⟩:=LY ar;have a1:=fR j;generalize rP:a.eval x=v at a1;refine ⟨_,?_,.lit rfl no⟩;generalize gS:(xs.map λb=>ab.lit (.int .u8 b))=cs at a1;cases a1 with
  | ref j=>simp [ab.isRef] at j
  | @hB _ cap lx _ aI =>
   have:xs=[]:=by simpa using gS
   subst this;cases lx with
   | none =>
    have ah:=run_convert_bytes_nil (P:=P) (w:=w) s e az he 0 cap d aP;simp [execOp,rP,ah];rfl
   | some ad =>
    have ai:(loadCells ad 0).run P w=.ok (([]:List Int).map (Value.int .u8)).toArray w:=by
     have:=run_loadCells_list (P:=P) w ad [] (λJ v aj=>by simp at aj)
     grind
    have ah:=run_bytesToString w ad 0 cap [] ai;have aa:=run_convert_bytes_string (P:=P) w s d e (some ad) 0 cap az he aP;rw [ah] at aa;simp [execOp,rP,aa];rfl
  | @bk _ _ cap _ ad us _ aI k6 bb lX ai h1 aa ah =>
   obtain ⟨b,o,sp⟩:=ad;simp only at lX;subst lX;have hlen:xs.length=n:=by rw [<- List.length_map (f:=λb=>ab.lit (.int .u8 b)),gS,ai,Nat.mul_one]
   have dP:=run_convert_bytes_arg (P:=P) w s e az he b o n cap xs hlen (λi hi=>by
    have Ic:cs[i]?=some (.lit (.int .u8 (xs.getD i 0))):=by
     grind
    have:=aa i _ Ic;simp only at this;rw [this,(ah i _ Ic).h_.1]) d aP
   simp_all [execOp]
 | @Hl xs gl _ f vs v j hv ah =>
  refine ⟨v,?_,.lit hv no⟩;have I0:xs.map a.eval=vs.toArray:=by
   apply Array.toList_inj.1;apply List.ext_getElem?;intro k;have:=congrArg (·[k]?) j;simp only [List.getElem?_map] at this;rw [Array.toList_map,List.getElem?_map];cases hk:xs.toList[k]? with
   | none =>
    grind
   | some o =>
    rw [hk] at this;cases hv:vs[k]? with
    | none=>rw [hv] at this; cases this
    | some v =>
     rw [hv] at this;simp only [Option.map_some,Option.some.injEq] at this ⊢;rw [(fR this).h_.1]
  have aS:a.eval (.func f)=.func (.func f) #[] #[]:=rfl
  simp_all [execOp,resolve,Deferred.ofValue,invoke]
 | @EN x i _ t s nE J b j hi ar av =>
  have vt:=(fR j).h_.1;have sB:=(fR hi).h_.1;refine ⟨.int .u8 b.toNat,?_,.lit rfl no⟩
  simp_all [execOp,Instr.index,run_underlying,KD,asIntOf]
 | @bin op x y _ t t2 b1 b v j al hv ah =>
  have h1:=(fR j).h_.1;have af:=(fR al).h_.1;refine ⟨v,?_,.lit hv no⟩
  grind [execOp,Sem.run_bind,Result.andThen_ok,Sem.run_pure]
 | @AN op x y _ t t2 dI dr v j al hv ah =>
  have h1:=LB ((fR j).B3 no);have af:=LB ((fR al).B3 no);refine ⟨v,?_,.lit hv no⟩
  grind [execOp,Sem.run_bind,Result.andThen_ok,Sem.run_pure]
 | @un op x _ t b1 v j hv ah =>
  have h1:=(fR j).h_.1;exact ⟨v,by simp [execOp,h1,ah],.lit hv no⟩
 | @conv x _ s d b1 v j hv ah =>
  have h1:=(fR j).h_.1;exact ⟨v,by simp [execOp,h1,ah],.lit hv no⟩
 | @D2 x _ i cs y j al =>
  obtain ⟨vs,aK,ai,ah⟩:=(fR j).Xt no;have hk:i<cs.length:=(List.getElem?_eq_some_iff.1 al).1;have hv:vs[i]?=some vs[i]:=Array.getElem?_eq_getElem (ai ▸ hk);exact ⟨_,by simp [execOp,aK,Instr.extract,hv],ah _ kz _ al hv⟩
 | @Ag x lo hi _ t e z n l bH cs j ai vh ar sC aA =>
  obtain ⟨hu,he,aW⟩:=qw (w:=w) ar;obtain ⟨lx,cap,aK,k6,hlen,hm⟩:=(fR j).zw;have av:=Fy (P:=P) (w:=w) (len:=n) (cap:=cap) (ai.sound h aR) (vh.sound h aR) true sC (by omega);have h9:(execOp a.eval { dst:=dst,op:=.slice t x lo hi none,type:=ty,pos:=pos,after:=after,guard:=guard }).run P w=.ok (.value (sliced lx l bH cap z)) w:=by
   simp_all [execOp,Instr.sliceAt,run_underlying,Instr.slice,sliced]
  refine ⟨_,h9,?_⟩;by_cases aO:bH - l=0
  ·rw [aO];simp only [Nat.zero_mul,List.take_zero,sliced,aO];exact .hB no
  ·obtain ⟨ad,us,rfl,bb,az,gy,aa,ah⟩:=hm (.inr (by omega));obtain ⟨b,o,sp⟩:=ad;simp only at az;subst az;have hJ:cap≠l:=by omega
   simp only [sliced,hJ,if_false,Option.map_some,add_eq];have Bx:((cs.drop (l * z)).take ((bH - l) * z)).length=(bH - l) * z:=by
    rw [List.length_take,List.length_drop,hlen];have:(bH - l) * z+l * z<=n * z:=by rw [<- Nat.add_mul]; exact Nat.mul_le_mul_right _ (by omega)
    omega
   refine .bk (us:=λk=>us (l * z+k)) no (by omega) bb rfl Bx (λk x hk=>gy (l * z+k) x (by
    grind)) (λk x hk=>?_) λk x hk=>?_
   ·grind
   grind
 | @KB x lo hi _ t e z n bH p j ai vh ar aA da =>
  obtain ⟨hu,he,aW⟩:=qw (w:=w) ar;obtain ⟨⟨lx,N,cap,h1,af,aK⟩,bu⟩:=(fR j).mX;have k6:N<=cap:=by
   rcases bu with ⟨iU,cs,cu,dM⟩ | ⟨aO,q,gU,m,new,cu,dM⟩
   ·obtain ⟨v,cq,hv,dE,_⟩:=h.part cu (by simp);rw [h1] at hv;obtain ⟨_,rH,Nu,hle,_⟩:=dE.mZ
    grind
   ·obtain ⟨v,hv,dE⟩:=h.rel _ _ cu;simp only [dW,hv,aO,walk,Option.some.injEq] at h1;subst h1;obtain ⟨bv,b_,cd,us,news,dE⟩:=dE.vD;obtain ⟨_,nu⟩:=dE.nu
    grind
  have av:=Fy (P:=P) (w:=w) (len:=n) (cap:=cap) (ai.sound h aR) (vh.sound h aR) true (Nat.zero_le _) (by omega);refine ⟨.slice lx bH cap,?_,.ref rfl ⟨⟨lx,N,cap,h1,rfl,by omega⟩,da⟩ no⟩
  simp_all [execOp,Instr.sliceAt,run_underlying,Instr.slice,Addr.add]
 | @FI x lo hi _ t e z n l bH p j ai vh ar sC aA da =>
  obtain ⟨hu,he,aW⟩:=qw (w:=w) ar;obtain ⟨⟨lx,N,cap,h1,af,aK⟩,bu⟩:=(fR j).mX;obtain ⟨iU,cs,cu,dM⟩:=da;obtain ⟨v,cq,hv,dE,_⟩:=h.part cu (by simp);rw [h1] at hv;obtain ⟨a2,rH,Nu,hle,hlen,qQ,uh⟩:=dE.mZ;rw [Nu] at hv;cases hv;have av:=Fy (P:=P) (w:=w) (len:=n) (cap:=cap) (ai.sound h aR) (vh.sound h aR) true sC (by omega);refine ⟨sliced lx l bH cap z,?_,.ref rfl ⟨⟨lx,_,cap,_,_,h1,rfl,by omega,by omega,λsE=>?_⟩,_,cs,cu,dM⟩ no⟩
  ·simp_all [execOp,Instr.sliceAt,run_underlying,Instr.slice,sliced]
  ·have az:=uh (by omega);cases lx with
   | none=>simp at az
   | some ad =>
    obtain ⟨aO,mw⟩:=qQ ad rfl;obtain ⟨b,o,sp⟩:=ad
    grind [add_eq]
 | @Ah x lo hi _ t l bH s j ai vh ar sC aA =>
  have vt:=(fR j).h_.1;have av:=Fy (P:=P) (w:=w) (len:=s.size) (cap:=s.size) (ai.sound h aR) (vh.sound h aR) false sC aA;exact ⟨.string (s.extract l bH),by simp [execOp,vt,Instr.sliceAt,run_underlying (KD ar),Instr.slice,av],.lit rfl no⟩
 | @Cb x _ t e z br n cs j ar =>
  obtain ⟨hu,he,aW⟩:=qw (w:=w) ar;obtain ⟨lx,cap,aK,_⟩:=(fR j).zw;exact ⟨_,by simp [execOp,resolve,invoke,builtin,aK,Builtin.len_,run_underlying hu,goInt],.lit rfl no⟩
 | @Ca x _ t e z br n p j ar =>
  obtain ⟨hu,he,aW⟩:=qw (w:=w) ar;obtain ⟨⟨lx,N,cap,h1,af,aK⟩,bu⟩:=(fR j).mX;exact ⟨_,by simp [execOp,resolve,invoke,builtin,af,Builtin.len_,run_underlying hu,goInt],.lit rfl no⟩
 | @JE x _ t e z br lo n p j ar =>
  obtain ⟨hu,he,aW⟩:=qw (w:=w) ar;obtain ⟨⟨lx,N,cap,b1,mM,h1,af,_,aK,cu⟩,bu⟩:=(fR j).xi;exact ⟨_,by simp [execOp,resolve,invoke,builtin,af,Builtin.len_,run_underlying hu,goInt],.lit rfl no⟩
 | @JD x _ t e br j ar =>
  obtain ⟨hu,he,aW⟩:=qw (w:=w) ar;have af:=(fR j).r4;exact ⟨_,by simp [execOp,resolve,invoke,builtin,af,Builtin.len_,run_underlying hu,goInt],.lit rfl no⟩
 | @lits b xs gl _ vs v j hv ah =>
  have oD:xs.map a.eval=vs.toArray:=by
   grind [Array.toList_map,Ot]
  refine ⟨v,?_,.lit hv no⟩
  grind [execOp,resolve,invoke]
 | @JH x y _ t p q ok Y _ qY V j au al c7 a1 ah =>
  obtain ⟨⟨b,av,hv⟩,_⟩:=(fR j).Xs;obtain ⟨eh,cq,i_,dE,_⟩:=h.part au (by simp);rw [av] at i_;cases i_;obtain ⟨dz,es,clock,e,aV,a7,_⟩:=dE.Xr;cases e;refine ⟨V,?_,a1 _ _ _⟩;simp [execOp,hv,c7 _ _ _ _ (fR al),ah w _ _ _ aV a7]
 | @Ce x y _ t q ok Y _ qY V j al c7 a1 ah =>
  obtain ⟨b,es,clock,hv,aV,a7⟩:=(fR j).Xq;refine ⟨V,?_,a1 _ _ _⟩;simp [execOp,hv,c7 _ _ _ _ (fR al),ah w _ _ _ aV a7]
end
end Go.Own
namespace Go.Own
open Go
set_option linter.unusedSectionVars false
variable [cH]
structure Fr (w w':World) (U:a8):Prop where
 os:w'.os=w.os
 tape:w'.tape=w.tape
 output:w'.output=w.output
 size:w.heap.size<=w'.heap.size
 block:∀ b,b<w.heap.size->¬ U b->w'.heap[b]?=w.heap[b]?
 dG:∀ a,a.block<w.heap.size->¬ U a.block->w'.frozen? a=w.frozen? a
 wL:w.drawn<=w'.drawn
theorem Fr.refl (w:World) (U:a8):Fr w w U:=⟨rfl,rfl,rfl,Nat.le_refl _,λ_ _ _=>rfl,λ_ _ _=>rfl,Nat.le_refl _⟩
theorem Fr.mono {w w':World}{U U':a8}(h:Fr w w' U) (fF:∀ b,b<w.heap.size->U b->U' b):Fr w w' U':=⟨h.os,h.tape,h.output,h.size,λb av aA=>h.block b av λhu=>aA (fF b av hu),λa aR aA=>h.dG a aR λhu=>aA (fF _ aR hu),h.wL⟩
theorem Fr.trans {w gL fw:World}{U yH:a8}(h:Fr w gL U) (h1:Fr gL fw yH) (fF:∀ b,b<w.heap.size->yH b->U b):Fr w fw U :=
 ⟨h1.os.trans h.os,h1.tape.trans h.tape,h1.output.trans h.output,Nat.le_trans h.size h1.size,λb av aA=>(h1.block b (Nat.lt_of_lt_of_le av h.size) λhu=>aA (fF b av hu)).trans (h.block b av aA),λa aR aA=>(h1.dG a (Nat.lt_of_lt_of_le aR h.size) λhu=>aA (fF _ aR hu)).trans (h.dG a aR aA),Nat.le_trans h.wL h1.wL⟩
theorem alloc_old (w:World) (o:Obj) (k:Nat) (h:k<w.heap.size):(w.alloc o).heap[k]?=w.heap[k]?:=by
 show (w.heap.push o)[k]?=_;rw [Array.getElem?_push,if_neg (by omega)]
theorem rC (w:World) (o:Obj):(w.alloc o).heap[w.heap.size]?=some o:=by
 show (w.heap.push o)[w.heap.size]?=_;simp
theorem A8 (w:World) (arr:Array Value) (t:TypeId) (a:Addr):(w.alloc (.cells arr t (0,0))).frozen? a=w.frozen? a:=by
 unfold World.frozen?;by_cases h:a.block=w.heap.size
 ·rw [h,rC];have:w.heap[w.heap.size]?=none:=by simp
  rw [this];simp
 ·by_cases af:a.block<w.heap.size
  ·rw [alloc_old w _ _ af]
  ·have aK:(w.alloc (.cells arr t (0,0))).heap[a.block]?=none:=by
    show (w.heap.push _)[a.block]?=_;rw [Array.getElem?_eq_none];simp; omega
   have bu:w.heap[a.block]?=none:=Array.getElem?_eq_none (by omega);rw [aK,bu]
theorem D7 (w:World) (g:Nat) (cs:Array Value) (a:Addr):(w.setRow g cs).frozen? a=w.frozen? a:=by
 unfold World.frozen? World.setRow;simp only [Array.getElem?_modify];by_cases h:g=a.block
 ·subst h;rw [if_pos rfl];cases bH:w.heap[a.block]? with
  | none=>rfl
  | some o=>cases o <;> rfl
 ·rw [if_neg h]
theorem TY (w:World) (es:Array MapEntry) (n:Nat) (a:Addr):(w.alloc (.map es n)).frozen? a=w.frozen? a:=by
 unfold World.frozen?;by_cases h:a.block=w.heap.size
 ·rw [h,rC];have:w.heap[w.heap.size]?=none:=by simp
  rw [this]
 ·by_cases af:a.block<w.heap.size
  ·rw [alloc_old w _ _ af]
  ·have aK:(w.alloc (.map es n)).heap[a.block]?=none:=by
    show (w.heap.push _)[a.block]?=_;rw [Array.getElem?_eq_none];simp; omega
   have bu:w.heap[a.block]?=none:=Array.getElem?_eq_none (by omega);rw [aK,bu]
def Pe (o:Obj):Prop:=(∃ arr e,o=.cells arr e (0,0))\/∃ es n,o=.map es n
theorem Fr.alloc (w:World) (o:Obj) (U:a8) (aV:Pe o):Fr w (w.alloc o) U:=by
 refine ⟨rfl,rfl,rfl,by simp,λb av _=>alloc_old w o b av,λa _ _=>?_,Nat.le_refl _⟩;rcases aV with ⟨arr,e,rfl⟩ | ⟨es,n,rfl⟩
 ·exact A8 w arr e a
 ·exact TY w es n a
theorem R.Yt {w:World}{I:a8}{ρ:ab->Value->Prop}{x:ab}{v:Value}{F:a8}(h:R w I ρ x v F):∀ c,F c->∃ o,w.heap[c]?=some o/\Pe o:=by
 induction h with
 | eV aV _ aI =>
  intro c aa;have aa:=(aI c).1 aa;obtain ⟨_,bH⟩:=aV;rcases bH with ⟨rfl,_⟩ | ⟨b,cap,cur,rfl,_,jY,_⟩
  ·simp [Value.ownBlock] at aa
  ·simp only [Value.ownBlock,Option.some.injEq] at aa;subst aa;exact ⟨_,jY,.inl ⟨_,_,rfl⟩⟩
 | mp aV _ aI =>
  intro c aa;cases (aI c).1 aa;exact ⟨_,aV,.inr ⟨_,_,rfl⟩⟩
 | lit _ aI | aT aI | dead aI | l6 aI | ref _ _ aI | hB aI | bk aI | cK aI | ds aI | imp aI=>exact λc aa=>absurd aa (aI c)
 | own aV ai h1 ah aP av aI aM =>
  intro c aa;rcases (aI c).1 aa with h | ⟨k,hk,h⟩
  ·obtain ⟨_,bH⟩:=aV;rcases bH with ⟨rfl,_⟩ | ⟨b,cap,cur,rfl,_,jY,_⟩
   ·simp [Value.ownBlock] at h
   ·simp only [Value.ownBlock,Option.some.injEq] at h;subst h;exact ⟨_,jY,.inl ⟨_,_,rfl⟩⟩
  ·exact aM k _ _ (List.getElem?_eq_getElem hk) (List.getElem?_eq_getElem (ai ▸ hk)) c h
 | obj aV ai h1 ah aP av aI az aM =>
  intro c aa;rcases (aI c).1 aa with rfl | ⟨k,hk,h⟩
  ·exact ⟨_,aV,.inl ⟨_,_,rfl⟩⟩
  ·exact aM k _ _ (List.getElem?_eq_getElem hk) (Array.getElem?_eq_getElem (ai ▸ hk)) c h
 | agg ai h1 ah aP aI aM =>
  intro c aa;obtain ⟨k,hk,h⟩:=(aI c).1 aa;exact aM k _ _ (List.getElem?_eq_getElem hk) (Array.getElem?_eq_getElem (ai ▸ hk)) c h
 | bQ ai ah aP aI aM =>
  intro c aa;obtain ⟨k,hk,h⟩:=(aI c).1 aa;exact aM k _ _ (List.getElem?_eq_getElem hk) (Array.getElem?_eq_getElem (ai ▸ hk)) c h
theorem Fr.drew {w w':World}{U:a8}(h:Fr w w' U):Fr w w'.drew U:=⟨h.os,h.tape,h.output,h.size,h.block,h.dG,Nat.le_succ_of_le h.wL⟩
section
variable {w:World}{I:a8}{T:Array Value}{g:aL}{Fs:Nat->a8}
theorem cG.jU (h:cG w I T g Fs):∀ t c,Fs t c->c<w.heap.size:=by
 intro t c aa;cases j:g t with
 | none=>exact absurd aa (h.kM t j c)
 | some y=>obtain ⟨u,_,dE⟩:=h.rel t y j; exact dE.lt c aa
theorem cG.world (h:cG w I T g Fs) {w':World}(aI:∀ t c,Fs t c->w'.heap[c]?=w.heap[c]?) (bb:∀ c,I c->w'.heap[c]?=w.heap[c]?) (eR:w.heap.size<=w'.heap.size):cG w' I T g Fs :=
  ⟨λt x j=>by
    obtain ⟨v,hv,a1⟩:=h.rel t x j;exact ⟨v,hv,h.wP (λ_ _=>rfl) aI bb (λ_ h=>h) (λ_ _ h=>h) a1 λc aa=>aI t c aa⟩,
   h.kM,h.eC,h.bk,λc aa=>Nat.lt_of_lt_of_le (h.lt c aa) eR,h.q8,cH.keep h.hN bb λ_ h=>h⟩
theorem cG.alloc (h:cG w I T g Fs) (o:Obj):cG (w.alloc o) I T g Fs :=
 h.world (λt c aa=>alloc_old w o c (h.jU t c aa)) (λc aa=>alloc_old w o c (h.lt c aa)) (by simp)
theorem cG.uI (h:cG w I T g Fs) {d:Nat}{x:ab}{v:Value}{F:a8}(aP:g d=none) (VB:d<T.size)
  (a1:jy w I (dU w T g) x v F) (rS:∀ t c,F c->¬ Fs t c) (V8:∀ c,F c->¬ I c)
  (au:∀ z p n m new,x=.bC z p n m new->∀ t br cm bh cO,g t≠some (.bC br p cm bh cO)) :
  cG w I (T.setIfInBounds d v) (cJ g d x) (uR Fs d F):=by
 have dt:∀ t,g t≠none->(T.setIfInBounds d v)[t]?=T[t]?:=by
  intro t ar;rw [Array.getElem?_setIfInBounds_ne];rintro rfl; exact ar aP
 refine ⟨?_,?_,?_,?_,h.lt,?_,h.hN⟩
 ·intro t y al;unfold cJ at al
  split at al
  ·rename_i vu;subst vu;cases al;exact ⟨v,by simp [VB],by simpa [uR] using h.wP dt (λ_ _ _=>rfl) (λ_ _=>rfl) (λ_ h=>h) (Qt aP) a1 λ_ _=>rfl⟩
  ·rename_i vu;obtain ⟨u,hu,dE⟩:=h.rel t y al;exact ⟨u,by rw [dt t (by rw [al]; simp)]; exact hu,by simpa [uR,vu] using h.wP dt (λ_ _ _=>rfl) (λ_ _=>rfl) (λ_ h=>h) (Qt aP) dE λ_ _=>rfl⟩
 ·intro t ar c;unfold cJ at ar
  split at ar
  ·cases ar
  ·rename_i vu; simpa [uR,vu] using h.kM t ar c
 ·intro t t' c aa e_;by_cases h1:t=d <;> by_cases af:t'=d <;> simp [uR,h1,af] at aa e_
  ·rw [h1,af]
  ·exact absurd e_ (rS t' c aa)
  ·exact absurd aa (rS t c e_)
  ·exact h.eC t t' c aa e_
 ·intro t c aa hi;by_cases h1:t=d <;> simp [uR,h1] at aa
  ·exact V8 c aa hi
  ·exact h.bk t c aa hi
 ·intro t t' z p n m new br cm bh cO h1 af;unfold cJ at h1 af
  split at h1 <;> split at af
  ·rename_i a b; rw [a,b]
  ·cases h1; exact absurd af (au z p n m new rfl t' br cm bh cO)
  ·cases af; exact absurd h1 (au br p cm bh cO rfl t z n m new)
  ·exact h.q8 _ _ _ _ _ _ _ _ _ _ _ h1 af
end
def ji:ab->Option (List ab)
 | .agg cs=>some cs
 | .lit v=>some [.lit v]
 | .aT=>some [.aT]
 | .bk z n cs=>some [.bk z n cs]
 | .cK cs=>some [.cK cs]
 | .ptr p k=>some [.ptr p k]
 | .bf z p n=>some [.bf z p n]
 | .sub z p l n=>some [.sub z p l n]
 | .ds f a b=>some [.ds f a b]
 | _=>none
theorem Sk {y:ab}{cs:List ab}(h:sk y) (aa:ji y=some cs):qF cs:=by
 have one:∀ {x:ab},(∀ J,x≠.self J)->qF [x]:=λj k J e=>by
  cases k with
  | zero=>simp only [List.getElem?_cons_zero,Option.some.injEq] at e; exact j J e
  | succ k=>simp at e
 cases y <;> simp only [Go.Own.ji,Option.some.injEq,reduceCtorEq] at aa <;> subst aa
 all_goals first | exact h _ rfl | exact one (by simp)
theorem R.ji {w:World}{I:a8}{ρ:ab->Value->Prop}{y:ab}{v:Value}{F:a8}(h:R w I ρ y v F) (aI:∀ c,¬ F c) (lG:∀ x v,x.isRef=true->ρ x v->v.oneCell'=true) {cs:List ab}(aa:ji y=some cs) :
  cs.length=v.cells.size/\(∀ (k:Nat) (u:Value),v.cells[k]?=some u->u.oneCell'=true)/\(∀ (k:Nat) (x:ab) (u:Value),cs[k]?=some x->v.cells[k]?=some u->R w I ρ x u ct):=by
 have one:∀ {y:ab},R w I ρ y v F->v.oneCell'=true->[y].length=v.cells.size/\(∀ (k:Nat) (u:Value),v.cells[k]?=some u->u.oneCell'=true)/\(∀ (k:Nat) (x:ab) (u:Value),[y][k]?=some x->v.cells[k]?=some u->R w I ρ x u ct):=by
  intro y h h1;have Ej:v.cells=#[v]:=by cases v <;> first | rfl | (simp [Value.oneCell'] at h1)
  refine ⟨by simp [Ej],λk u hu=>?_,λk x u j hu=>?_⟩
  ·rw [Ej] at hu;cases k with
   | zero=>simp at hu; subst hu; exact h1
   | succ k=>simp at hu
  rw [Ej] at hu;cases k with
  | zero=>simp at j hu; subst j hu; exact h.empty aI
  | succ k=>simp at j
 cases y <;> simp only [Go.Own.ji,Option.some.injEq,reduceCtorEq] at aa
 case agg l =>
  subst aa;obtain ⟨vs,rfl,ai,h1,ah⟩:=h.B3 aI;exact ⟨ai,h1,ah⟩
 case lit a=>subst aa; exact one h (by obtain ⟨rfl,h1⟩:=h.h_; exact h1)
 case aT=>subst aa; exact one h (by rw [h.r4]; rfl)
 case bk z n l=>subst aa; exact one h (by obtain ⟨a,cap,rfl,_⟩:=h.zw; rfl)
 case cK l=>subst aa; exact one h (by obtain ⟨ad,us,rfl,_⟩:=h.xh; rfl)
 case ptr p k=>subst aa; exact one h (lG _ _ rfl h.nB)
 case bf z p n=>subst aa; exact one h (lG _ _ rfl h.mX)
 case sub z p l n=>subst aa; exact one h (lG _ _ rfl h.xi)
 case ds f a b =>
  subst aa;refine one h ?_;cases h with
  | ds=>rfl
  | ref j=>simp [ab.isRef] at j
theorem dU.Fc {w:World}{T:Array Value}{g:aL}{x:ab}{v:Value}(j:x.isRef=true) (h:dU w T g x v):v.oneCell'=true:=by
 obtain ⟨h,_⟩:=h;cases x <;> simp [ab.isRef] at j
 case ptr p k=>obtain ⟨_,_,_,_,rfl⟩:=h; rfl
 case bf z p n=>obtain ⟨_,_,_,_,rfl,_⟩:=h; rfl
 case sub z p lo n=>obtain ⟨_,_,_,_,_,_,rfl,_⟩:=h; rfl
 case hq p=>obtain ⟨_,_,rfl⟩:=h; rfl
def mg:List ab->Option (List ab)
 | []=>some []
 | y::ys =>
  match ji y,mg ys with
  | some a,some b=>some (a++b)
  | _,_=>none
def fK (g:aL):List Operand->Option (List ab)
 | []=>some []
 | x::xs =>
  match bn g x,fK g xs with
  | some y,some ys=>some (y::ys)
  | _,_=>none
theorem O2 {g:aL}:∀ {l:List Operand}{xs:List ab},fK g l=some xs->qF xs
 | [],xs,h,k,J=>by simp only [fK,Option.some.injEq] at h; subst h; simp
 | o::l,xs,h,k,J=>by
  simp only [fK] at h
  split at h
  ·rename_i y ys h1 af;cases h;cases k with
   | zero=>intro e; simp only [List.getElem?_cons_zero,Option.some.injEq] at e; exact X7 h1 J e
   | succ k=>exact O2 af k J
  ·cases h
def u' (place:Nat->Option (Nat × Nat)) (cells:List ab):List (Nat × List ab)->Option (List ab)
 | []=>some cells
 | (i,c)::rest =>
  match place i with
  | none=>none
  | some (off,size)=>if c.length=size/\off+c.length<=cells.length then u' place (cells.take off++c++cells.drop (off+c.length)) rest else none
def q5 (g:aL):List (Nat × Operand)->Option (List (Nat × List ab))
 | []=>some []
 | (i,x)::xs =>
  match bn g x,q5 g xs with
  | some y,some ys=>(ji y).map λc=>(i,c)::ys
  | _,_=>none
def kr (P:Program) (t:TypeId) (pl:List (Nat × Nat)):Bool :=
 match P.underlying t with
 | some (.struct fs)=>fs.toList.map (λf=>(f.offset,(P.info? f.type).map (·.size))) == pl.map λ(a,b)=>(a,some b)
 | _=>false
inductive pa (P:Program) (g:aL):Op->TypeId->ab->Prop
 | box {e ty:TypeId}{x:Operand}{y:ab}{cs:List ab}(j:bn g x=some y) (aa:ji y=some cs):pa P g (.box e x) ty (.obj cs)
 | DL {e ty:TypeId}{t:Nat}{z:Value}(aW:(P.info? e).bind (·.zero)=some z) (aa:z.cells=#[.pointer none,.slice none 0 0]):pa P g (.alloc e) ty (.obj [.self (0,e),.eV t []])
 | alloc {e ty:TypeId}{z:Value}(aW:(P.info? e).bind (·.zero)=some z) (h1:z.cells.all Value.oneCell'=true):pa P g (.alloc e) ty (.obj (z.cells.toList.map kg))
 | buildSlice {t e ty:TypeId}{z:Nat}{parts:Array (Nat × Operand)}{xs:List Operand}{ys:List ab}{cs:List ab}(ar:fe P t e z=true)
   (au:parts.toList=xs.mapIdx (λi x=>(i,x))) (j:fK g xs=some ys) (aW:∀ y∈ys,∃ c,ji y=some c/\c.length=z) (aa:mg ys=some cs) (av:xs.length * z<=16777216) (aA:xs.length<=16777216) (hzero:xs.length * z=0\/∃ v,(P.info? e).bind (·.zero)=some v/\v.cells.size=z) :
   pa P g (.buildSlice t xs.length parts) ty (.own z xs.length cs)
 | makeSlice {t e ty:TypeId}{x y:Operand}{z n b:Nat}{vH qk:IntKind}{dn:Value}(ar:fe P t e z=true) (j:bn g x=some (.lit (.int vH (n:Int)))) (al:bn g y=some (.lit (.int qk (n:Int))))
   (hzero:(P.info? e).bind (·.zero)=some dn) (h1:dn.cells.all Value.oneCell'=true) (oS:dn.cells.size=z) (av:(P.info? e).map (·.bytes)=some b) (aA:n * b<=140737488355328) (oK:n<=4611686018427387904) {yg:List ab}(ur:yg.length=dn.cells.size)
   (EK:∀ (k:Nat) (u:Value) (x:ab),dn.cells[k]?=some u->yg[k]?=some x->x=kg u\/(kg u=.aT/\∃ br,x=.bk br 0 [])) :
   pa P g (.makeSlice t x y) ty (.own z n (List.replicate n yg).flatten)
 | makeMap {t ty:TypeId}{q:Array MapEntry->Nat->Prop}(a7:q #[] 0):pa P g (.makeMap t none) ty (.mp q)
inductive u0 (P:Program) (g:aL):Op->TypeId->ab->Prop
 | build {t ty:TypeId}{parts:Array (Nat × Operand)}{pl:List (Nat × Nat)}{dn:Value}{ps:List (Nat × List ab)}{cs:List ab}(ar:kr P t pl=true) (aW:(P.info? t).bind (·.zero)=some dn) (h1:dn.cells.all Value.oneCell'=true)
   (au:q5 g parts.toList=some ps) (aa:u' (λi=>pl[i]?) (dn.cells.toList.map kg) ps=some cs):u0 P g (.build t parts) ty (.agg cs)
 | makeFunc {fn:Fn}{first caps:Array Operand}{ty:TypeId}{a b:List ab}(aR:fK g first.toList=some a) (av:fK g caps.toList=some b):u0 P g (.makeFunc fn first caps) ty (.ds fn a b)
section
variable {P:Program}{w:World}{I:a8}{T:Array Value}{g:aL}{Fs:Nat->a8}
theorem zE (h:cG w I T g Fs) {a:Act}(aR:a.tmps=T):∀ {xs:List Operand}{ys:List ab},fK g xs=some ys->ys.length=xs.length/\∀ (k:Nat) (y:ab) (x:Operand),ys[k]?=some y->xs[k]?=some x->R w I (dU w T g) y (a.eval x) ct
 | [],ys,al=>by simp only [fK,Option.some.injEq] at al; subst al; simp
 | x::xs,ys,al=>by
  simp only [fK] at al;cases j:bn g x with
  | none=>simp [j] at al
  | some y =>
   cases r2:fK g xs with
   | none=>simp [j,r2] at al
   | some Dn =>
    simp only [j,r2,Option.some.injEq] at al;subst al;obtain ⟨h1,af⟩:=zE h aR r2;refine ⟨by simp [h1],λk y' x' oR fT=>?_⟩;cases k with
    | zero=>simp at oR fT; subst oR fT; exact lh h j aR
    | succ k=>simp at oR fT; exact af k y' x' oR fT
theorem R.alloc (h:cG w I T g Fs) (o:Obj) {x:ab}{v:Value}{F:a8}(a1:R w I (dU w T g) x v F) (aI:∀ c,F c->c<w.heap.size):R (w.alloc o) I (dU (w.alloc o) T g) x v F :=
 h.frame (λ_ _=>rfl) (λt c aa=>alloc_old w o c (h.jU t c aa)) (λc aa=>alloc_old w o c (h.lt c aa)) (λ_ h=>h) (λ_ _ h=>h) a1 λc aa=>alloc_old w o c (aI c aa)
theorem OS {ρ:ab->Value->Prop}{vs:List Value}:∀ (k:Nat) (x:ab) (u:Value),(vs.map kg)[k]?=some x->vs[k]?=some u->R w I ρ x u ct:=by
 intro k x u j hu;rw [List.getElem?_map,hu] at j;simp only [Option.map_some,Option.some.injEq] at j;subst j;exact Cr u
theorem R.OP {ρ:ab->Value->Prop}{cs:List ab}{b:Nat}{e:TypeId}{arr:Array Value}(aV:w.heap[b]?=some (.cells arr e (0,0))) (ai:cs.length=arr.size) (h1:∀ (k:Nat) (u:Value),arr[k]?=some u->u.oneCell'=true)
  (ah:∀ (k:Nat) (x:ab) (u:Value),cs[k]?=some x->arr[k]?=some u->R w I ρ x u ct) (lU:qF cs):R w I ρ (.obj cs) (.pointer (some ⟨b,0,none⟩)) (λc=>c=b) :=
 .obj (Fs:=λ_=>ct) aV ai h1 ah (λ_ _ _ _ _ h=>h.elim) (λ_ _ h=>h) (λ_=>⟨λh=>.inl h,λh=>h.elim id λ⟨_,_,h⟩=>h.elim⟩) λk J _ h=>absurd h (lU k J)
theorem R.O6 {ρ:ab->Value->Prop}{z n:Nat}{cs:List ab}{b cap:Nat}{e:TypeId}{arr:Array Value}(aV:w.heap[b]?=some (.cells arr e (0,0))) (aA:n<=cap) (aa:cap<=maxLen) (az:arr.size=cap * z) (ai:cs.length=n * z) (h1:∀ (k:Nat) (u:Value),arr[k]?=some u->u.oneCell'=true)
  (ah:∀ (k:Nat) (x:ab) (u:Value),cs[k]?=some x->arr[k]?=some u->R w I ρ x u ct):R w I ρ (.own z n cs) (.slice (some ⟨b,0,none⟩) n cap) (λc=>c=b):=by
 have hle:n * z<=arr.size:=by rw [az]; exact Nat.mul_le_mul_right _ aA
 refine .own (e:=e) (us:=arr.toList.take (n * z)) (Fs:=λ_=>ct) ⟨by simp; omega,.inr ⟨b,cap,arr,rfl,Nat.zero_le _,aV,aA,aa,az,rfl⟩⟩ (by simp; omega) (λk u hu=>?_) ?_ (λ_ _ _ _ _ h=>h.elim) (λ_ _ _ h=>h.elim) (λc=>?_)
 ·rw [List.getElem?_take] at hu
  split at hu
  ·exact h1 k u (by simpa using hu)
  ·cases hu
 ·intro k x u j hu;rw [List.getElem?_take] at hu
  split at hu
  ·exact ah k x u j (by simpa using hu)
  ·cases hu
 ·simp only [Value.ownBlock,Option.some.injEq];exact ⟨λh=>.inl h.symm,λh=>h.elim Eq.symm λ⟨_,_,h⟩=>h.elim⟩
theorem LW {ρ:ab->Value->Prop}(lG:∀ x v,x.isRef=true->ρ x v->v.oneCell'=true):∀ {ys:List ab}{vs:List Value}{cs:List ab},ys.length=vs.length->(∀ (k:Nat) (y:ab) (v:Value),ys[k]?=some y->vs[k]?=some v->R w I ρ y v ct)->mg ys=some cs ->
  cs.length=(vs.flatMap λv=>v.cells.toList).length/\(∀ (k:Nat) (u:Value),(vs.flatMap λv=>v.cells.toList)[k]?=some u->u.oneCell'=true)/\∀ (k:Nat) (x:ab) (u:Value),cs[k]?=some x->(vs.flatMap λv=>v.cells.toList)[k]?=some u->R w I ρ x u ct
 | [],vs,cs,ai,ah,aa=>by
  cases vs with
  | nil=>simp only [mg,Option.some.injEq] at aa; subst aa; simp
  | cons=>simp at ai
 | y::ys,vs,cs,ai,ah,aa=>by
  cases vs with
  | nil=>simp at ai
  | cons v vs =>
   simp only [mg] at aa;cases aR:ji y with
   | none=>simp [aR] at aa
   | some a =>
    cases av:mg ys with
    | none=>simp [aR,av] at aa
    | some b =>
     simp only [aR,av,Option.some.injEq] at aa;subst aa;obtain ⟨h1,Hx,af⟩:=(ah 0 y v rfl rfl).ji (λ_ h=>h) lG aR;obtain ⟨aK,T6,bu⟩:=LW lG (by simpa using ai) (λk y' eh al hv=>ah (k+1) y' eh al hv) av;refine ⟨by simp [h1,aK],λk u hu=>?_,λk x u j hu=>?_⟩
     ·simp only [List.flatMap_cons] at hu;by_cases hk:k<v.cells.toList.length
      ·rw [List.getElem?_append_left hk] at hu;exact Hx k u (by simpa using hu)
      ·rw [List.getElem?_append_right (by omega)] at hu;exact T6 _ u hu
     simp only [List.flatMap_cons] at hu;by_cases hk:k<a.length
     ·rw [List.getElem?_append_left hk] at j;rw [List.getElem?_append_left (by simp; omega)] at hu;exact af k x u j (by simpa using hu)
     ·rw [List.getElem?_append_right (by omega)] at j;rw [List.getElem?_append_right (by simp; omega)] at hu;refine bu (k - a.length) x u j ?_;rw [<- hu]; simp [h1]
end
end Go.Own
namespace Go.Own
open Go
set_option linter.unusedSectionVars false
variable [cH]
theorem ML (off:Nat):∀ (l:List Value) (s:Nat) (arr:Array Value),off+s+l.length<=arr.size ->
  ((l.zipIdx s).foldl (λcs (x:Value × Nat)=>cs.setIfInBounds (off+x.2) x.1) arr).toList=arr.toList.take (off+s)++l++arr.toList.drop (off+s+l.length)
 | [],s,arr,h=>by simp
 | v::l,s,arr,h=>by
  simp only [List.length_cons] at h;rw [List.zipIdx_cons,List.foldl_cons,ML off l (s+1) _ (by simp; omega)];simp only [Array.toList_setIfInBounds,List.length_cons];have h1:(arr.toList.set (off+s) v).take (off+(s+1))=arr.toList.take (off+s)++[v]:=by
   rw [show off+(s+1)=off+s+1 by omega,List.take_succ_eq_append_getElem (by simp; omega)];rw [List.take_set_of_le (Nat.le_refl _)];simp
  have af:(arr.toList.set (off+s) v).drop (off+(s+1)+l.length)=arr.toList.drop (off+s+(l.length+1)):=by
   rw [List.drop_set_of_lt (by omega)];congr 1; omega
  rw [h1,af];simp
theorem MJ {place:Nat->Option (Nat × Nat)}{i off size:Nat}(au:place i=some (off,size)) {arr:Array Value}{v:Value}(h1:v.cells.size=size) (af:off+v.cells.size<=arr.size) (rest:List (Nat × Value)) :
  ∃ jh:Array Value,Instr.fill place arr ((i,v)::rest)=Instr.fill place jh rest/\jh.toList=arr.toList.take off++v.cells.toList++arr.toList.drop (off+v.cells.size):=by
 refine ⟨_,by simp only [Instr.fill,au]; rw [if_neg (by simp; omega)],?_⟩;have:=ML off v.cells.toList 0 arr (by simpa using af)
 grind [Array.toList_zipIdx]
theorem MI (z:Nat):∀ (vs:List Value) (k:Nat) (arr:Array Value) (done rest:List Value),(∀ v∈vs,v.cells.size=z)->arr.toList=done++rest->done.length=k * z->rest.length=vs.length * z ->
  ∃ jh:Array Value,Instr.fill (λi=>some (i * z,z)) arr (vs.mapIdx λi v=>(k+i,v))=some jh/\jh.toList=done++vs.flatMap λv=>v.cells.toList
 | [],k,arr,done,rest,_,h1,af,aK=>by
  have:rest=[]:=List.eq_nil_of_length_eq_zero (by simpa using aK);subst this;exact ⟨arr,rfl,by simpa using h1⟩
 | v::vs,k,arr,done,rest,aW,h1,af,aK=>by
  have hv:=aW v (by simp);have hlen:arr.size=done.length+rest.length:=by rw [<- Array.length_toList,h1,List.length_append]
  simp only [List.length_cons,Nat.add_mul,Nat.one_mul] at aK;rw [List.mapIdx_cons];obtain ⟨DN,cw,cd⟩:=MJ (place:=λi=>some (i * z,z)) (i:=k+0) (off:=k * z) (size:=z) (by simp) (arr:=arr) (v:=v) hv (by omega) ((vs.mapIdx λi v=>(k+(i+1),v)));have tL:DN.toList=(done++v.cells.toList)++rest.drop z:=by
   rw [cd,h1,<- af,List.take_left,hv,List.drop_append];simp
  obtain ⟨jh,fC,pk⟩:=MI z vs (k+1) DN (done++v.cells.toList) (rest.drop z) (λu hu=>aW u (by simp [hu])) tL (by simp [af,hv,Nat.add_mul]) (by simp; omega);refine ⟨jh,?_,by rw [pk]; simp⟩;rw [cw,<- fC];congr 1;congr 1;funext i u;congr 1; omega
theorem Gv {vs:Array Value}(h:vs.all Value.oneCell'=true):∀ (k:Nat) (u:Value),vs[k]?=some u->u.oneCell'=true:=by grind
theorem GH {P:Program}{e:TypeId}{z:Value}(h:(P.info? e).bind (·.zero)=some z) (w:World):(zeroValue e).run P w=.ok z w:=by
 cases hi:P.info? e with
 | none=>simp [hi] at h
 | some i=>simp [hi] at h; simp [zeroValue,typeInfo,hi,h]
theorem MP {α:Type}(l:List α):∀ (n k:Nat),k<n * l.length->(List.replicate n l).flatten[k]?=l[k % l.length]?
 | 0,k,h=>by simp at h
 | n+1,k,h=>by
  rw [List.replicate_succ,List.flatten_cons];by_cases hk:k<l.length
  ·rw [List.getElem?_append_left hk,Nat.mod_eq_of_lt hk]
  ·rw [List.getElem?_append_right (by omega),MP l n (k - l.length) (by rw [Nat.add_mul] at h; omega)];rw [<- Nat.mod_eq_sub_mod (by omega)]
section
variable {P:Program}{w:World}{I:a8}{T:Array Value}{g:aL}{Fs:Nat->a8}
theorem Sj {ys cs:List ab}{z:Nat}(aW:∀ y∈ys,∃ c,ji y=some c/\c.length=z) (aa:mg ys=some cs):cs.length=ys.length * z:=by
 induction ys generalizing cs with
 | nil=>simp [mg] at aa; subst aa; simp
 | cons y ys aM =>
  obtain ⟨c,h1,af⟩:=aW y (by simp);simp only [mg,h1] at aa
  grind
theorem pa.sound (h:cG w I T g Fs) {a:Act}(aR:a.tmps=T) {o:Oper}{kz:ab}(au:pa P g o.op o.type kz) :
  ∃ v r9,(execOp a.eval o).run P w=.ok (.value v) (w.alloc r9)/\R (w.alloc r9) I (dU (w.alloc r9) T g) kz v (λc=>c=w.heap.size):=by
 obtain ⟨dst,op,ty,pos,after,guard⟩:=o;simp only at au;have jH:∀ (r9:Obj) {x:ab}{v:Value},R w I (dU w T g) x v ct->R (w.alloc r9) I (dU (w.alloc r9) T g) x v ct:=λr9 _ _ a1=>R.alloc h r9 a1 λ_ h=>h.elim;cases au with
 | @box e _ x y cs j aa =>
  have al:=lh h j aR;obtain ⟨h1,Hx,af⟩:=al.ji (λ_ h=>h) (λ_ _ j ah=>ah.Fc j) aa;refine ⟨_,.cells (a.eval x).cells e,by simp [execOp,Instr.box,newVar,newRow],R.OP (e:=e) (rC w _) h1 Hx (λk x u j hu=>jH _ (af k x u j hu)) (Sk (O1 j) aa)⟩
 | @DL e _ t z aW aa =>
  refine ⟨.pointer (some ⟨w.heap.size,0,none⟩),.cells z.cells e,by simp [execOp,Instr.alloc,newVar,newRow,GH aW],?_⟩;rw [aa];refine .obj (Fs:=λ_=>ct) (e:=e) (rC w _) rfl (λk u hu=>?_) (λk y u al hu=>?_) (λ_ _ _ _ _ h=>h.elim) (λ_ _ h=>h) (λc=>⟨.inl,λh=>h.elim id λ⟨_,_,h⟩=>h.elim⟩) λk J u al hu=>?_
  ·match k,hu with
   | 0,hu=>cases hu; rfl
   | 1,hu=>cases hu; rfl
   | k+2,hu=>simp at hu
  ·match k,al,hu with
   | 0,al,hu=>cases al; exact .l6 λ_ h=>h
   | 1,al,hu=>cases al; cases hu; exact .eV (World.ownsRow_nil _ _ _ _) rfl λc=>⟨λh=>h.elim,λh=>by simp [Value.ownBlock] at h⟩
   | k+2,al,hu=>cases al
  ·match k,al,hu with
   | 0,al,hu=>cases al; cases hu; exact .inl ⟨rfl,rfl⟩
   | 1,al,hu=>cases al
   | k+2,al,hu=>cases al
 | @alloc e _ z aW gy =>
  refine ⟨_,.cells z.cells e,by simp [execOp,Instr.alloc,newVar,newRow,GH aW],R.OP (e:=e) (rC w _) (by simp) (Gv gy) (λk x u j hu=>jH _ (OS k x u j (by simpa using hu))) (OR _)⟩
 | @makeMap t _ q a7 =>
  have IF:(Instr.makeMap t none).run P w=.ok (.map (some w.heap.size)) (w.alloc (.map #[] 0)):=rfl;exact ⟨.map (some w.heap.size),.map #[] 0,by simp [execOp,IF],.mp (rC w _) a7 λc=>Iff.rfl⟩
 | @buildSlice t e _ z parts xs ys cs ar au j aW aa av kG hzero =>
  obtain ⟨hu,he,eR⟩:=qw (w:=w) ar;obtain ⟨ai,ah⟩:=zE h aR j;have hJ:=Sj aW aa;have WL:∀ v∈xs.map a.eval,v.cells.size=z:=by
   intro v hv;obtain ⟨x,vA,rfl⟩:=List.mem_map.1 hv;obtain ⟨k,hk,rfl⟩:=List.mem_iff_getElem.1 vA;have oR:ys[k]?=some (ys[k]'(by omega)):=List.getElem?_eq_getElem (by omega);obtain ⟨c,h1,af⟩:=aW _ (List.getElem_mem (l:=ys) (n:=k) (by omega));obtain ⟨aK,_,_⟩:=(ah k _ _ oR (List.getElem?_eq_getElem hk)).ji (λ_ h=>h) (λ_ _ j ah=>ah.Fc j) h1;rw [<- aK,af]
  obtain ⟨dn,Xg⟩:∃ dn:Array Value,(xs.length * z=0/\dn=#[])\/(xs.length * z≠0/\∃ v,dn=v.cells/\(zeroValue e).run P w=.ok v w):=by
   by_cases aO:xs.length * z=0
   ·exact ⟨#[],.inl ⟨aO,rfl⟩⟩
   ·rcases hzero with h1 | ⟨v,h1,af⟩
    ·exact absurd h1 aO
    ·exact ⟨v.cells,.inr ⟨aO,v,rfl,GH h1 w⟩⟩
  obtain ⟨arr,cw,cd⟩:=MI z (xs.map a.eval) 0 ((Array.range (xs.length * z)).map (dn[· % dn.size]!)) [] ((Array.range (xs.length * z)).map (dn[· % dn.size]!)).toList WL (by simp) (by simp) (by simp);have NI:(parts.map λ(p:Nat × Operand)=>(p.1,a.eval p.2)).toList=(xs.map a.eval).mapIdx λi v=>(0+i,v):=by
   rw [Array.toList_map,au];apply List.ext_getElem?;intro k;simp only [List.getElem?_map,List.getElem?_mapIdx];cases xs[k]? <;> simp
  obtain ⟨gS,iL,Vz⟩:=LW (ρ:=dU w T g) (λ_ _ j ah=>ah.Fc j) (ys:=ys) (vs:=xs.map a.eval) (by simp [ai]) (λk y v al hv=>by
   rw [List.getElem?_map] at hv;cases qh:xs[k]? with
   | none=>simp [qh] at hv
   | some x=>simp [qh] at hv; subst hv; exact ah k y x al qh) aa
  have tT:arr.toList=(xs.map a.eval).flatMap λv=>v.cells.toList:=by simpa using cd
  have vq:arr.size=xs.length * z:=by rw [<- Array.length_toList,tT,<- gS,hJ,ai]
  have h9:(execOp a.eval { dst:=dst,op:=.buildSlice t xs.length parts,type:=ty,pos:=pos,after:=after,guard:=guard }).run P w=.ok (.value (.slice (some ⟨w.heap.size,0,none⟩) xs.length xs.length)) (w.alloc (.cells arr e)):=by
   have hle:¬ (16777216<xs.length * z):=by omega
   rcases Xg with ⟨aO,rfl⟩ | ⟨aO,v,rfl,Xf⟩
   ·simp only [aO] at cw;rw [<- NI] at cw;simp at cw;simp [execOp,Instr.buildSlice,run_underlying hu,eR,aO,cw,newRow]
   ·rw [<- NI] at cw;simp at cw;simp [execOp,Instr.buildSlice,run_underlying hu,eR,aO,hle,Xf,cw,newRow]
  refine ⟨_,_,h9,R.O6 (e:=e) (arr:=arr) (rC w _) (Nat.le_refl _) ?_ vq (by rw [hJ,ai]) (λk u hu=>iL k u (by rw [<- tT]; simpa using hu)) λk x u j hu=>jH _ (Vz k x u j ?_)⟩
  ·unfold maxLen; omega
  ·rw [<- tT]; simpa using hu
 | @makeSlice t e _ x y z n b vH qk dn ar j al hzero gy oS av aA oK yg ur EK =>
  obtain ⟨hu,he,eR⟩:=qw (w:=w) ar;have h1:=(lh h j aR).h_.1;have af:=(lh h al aR).h_.1;cases hi:P.info? e with
  | none=>simp [hi] at av
  | some i =>
   simp [hi] at av hzero;have Iq:i.size=z:=by
    unfold fe at ar;rw [hu] at ar;simp [hi] at ar;exact ar
   have w0:(i.bytes:Int) * (n:Int)<=281474976710656:=by
    have:((b * n:Nat):Int)<=281474976710656:=by have:=Nat.mul_comm n b; omega
    rw [av,<- Int.natCast_mul]; exact this
   have ah:=run_make (P:=P) w t e i dn hu hi hzero vH qk n n (by omega) (Int.le_refl _) w0 (by omega);simp only [Int.toNat_natCast] at ah;refine ⟨_,.cells (madeCells dn.cells (n * i.size)) e,by simp [execOp,h1,af,ah],R.O6 (e:=e) (rC w _) (Nat.le_refl _) (by unfold maxLen; omega) (by rw [size_madeCells,Iq]) (by simp [oS,ur]) (λk u hu=>?_) λk x u j hu=>?_⟩
   ·rw [madeCells,Array.getElem?_map,Array.getElem?_range] at hu
    split at hu
    ·rename_i hk;have aO:0<dn.cells.size:=by
      rcases Nat.eq_zero_or_pos dn.cells.size with h | h
      ·rw [Iq,<- oS,h] at hk; simp at hk
      ·exact h
     have hm:k % dn.cells.size<dn.cells.size:=Nat.mod_lt _ aO;simp only [Option.map_some,Option.some.injEq] at hu;rw [<- hu,show dn.cells[k % dn.cells.size]! = dn.cells[k % dn.cells.size] by simp [hm]];exact Gv gy _ _ (Array.getElem?_eq_getElem hm)
    ·cases hu
   have hk:k<n * dn.cells.size:=by
    have:=(List.getElem?_eq_some_iff.1 j).1;simpa [Nat.mul_comm,ur] using this
   have aO:0<dn.cells.size:=by
    rcases Nat.eq_zero_or_pos dn.cells.size with h | h
    ·rw [h] at hk; simp at hk
    ·exact h
   have hm:k % dn.cells.size<dn.cells.size:=Nat.mod_lt _ aO;rw [MP _ n k (by simpa [ur] using hk),ur] at j;rw [madeCells,Array.getElem?_map,Array.getElem?_range,if_pos (by rw [Iq,<- oS]; exact hk)] at hu;simp only [Option.map_some,Option.some.injEq] at hu;have hT:dn.cells[k % dn.cells.size]! = dn.cells[k % dn.cells.size]:=by simp [hm]
   rw [hT] at hu;subst hu;rcases EK _ _ x (Array.getElem?_eq_getElem hm) j with rfl | ⟨h1,br,rfl⟩
   ·exact jH _ (Cr _)
   ·have a1:=Cr (w:=w) (I:=I) (ρ:=dU w T g) dn.cells[k % dn.cells.size];rw [h1] at a1;rw [a1.r4];exact .hB λ_ h=>h
def Cells (w:World) (I:a8) (ρ:ab->Value->Prop) (cs:List ab) (vs:List Value):Prop :=
 cs.length=vs.length/\(∀ (k:Nat) (u:Value),vs[k]?=some u->u.oneCell'=true)/\∀ (k:Nat) (x:ab) (u:Value),cs[k]?=some x->vs[k]?=some u->R w I ρ x u ct
theorem Cells.append {ρ:ab->Value->Prop}{a b:List ab}{u v:List Value}(h:Cells w I ρ a u) (aJ:Cells w I ρ b v):Cells w I ρ (a++b) (u++v):=by
 refine ⟨by simp [h.1,aJ.1],λk y al=>?_,λk x y j al=>?_⟩
 ·by_cases hk:k<u.length
  ·rw [List.getElem?_append_left hk] at al; exact h.2.1 k y al
  ·rw [List.getElem?_append_right (by omega)] at al; exact aJ.2.1 _ y al
 ·by_cases hk:k<a.length
  ·rw [List.getElem?_append_left hk] at j;rw [List.getElem?_append_left (by rw [<- h.1]; exact hk)] at al;exact h.2.2 k x y j al
  ·rw [List.getElem?_append_right (by omega)] at j;rw [List.getElem?_append_right (by rw [<- h.1]; omega)] at al;exact aJ.2.2 _ x y j (by rw [h.1]; exact al)
theorem Cells.take {ρ:ab->Value->Prop}{a:List ab}{u:List Value}(h:Cells w I ρ a u) (n:Nat):Cells w I ρ (a.take n) (u.take n):=by
 refine ⟨by simp [h.1],λk y al=>?_,λk x y j al=>?_⟩
 ·rw [List.getElem?_take] at al
  split at al
  ·exact h.2.1 k y al
  grind
 ·rw [List.getElem?_take] at j al
  split at j
  ·rename_i hk;rw [if_pos hk] at al;exact h.2.2 k x y j al
  grind
theorem Cells.drop {ρ:ab->Value->Prop}{a:List ab}{u:List Value}(h:Cells w I ρ a u) (n:Nat):Cells w I ρ (a.drop n) (u.drop n):=by
 refine ⟨by simp [h.1],λk y al=>?_,λk x y j al=>?_⟩
 ·rw [List.getElem?_drop] at al; exact h.2.1 _ y al
 ·rw [List.getElem?_drop] at j al;exact h.2.2 _ x y j al
theorem MH {ρ:ab->Value->Prop}{place:Nat->Option (Nat × Nat)}:∀ (ps:List (Nat × List ab)) (td:List (Nat × Value)) {cells cs:List ab}{arr:Array Value},Cells w I ρ cells arr.toList ->
  ps.map (·.1)=td.map (·.1)->(∀ (k:Nat) (p:Nat × List ab) (q:Nat × Value),ps[k]?=some p->td[k]?=some q->Cells w I ρ p.2 q.2.cells.toList)->u' place cells ps=some cs ->
  ∃ jh:Array Value,Instr.fill place arr td=some jh/\Cells w I ρ cs jh.toList
 | [],td,cells,cs,arr,aa,hk,_,aS=>by
  cases td with
  | nil=>simp only [u',Option.some.injEq] at aS; subst aS; exact ⟨arr,rfl,aa⟩
  | cons=>simp at hk
 | (i,c)::ps,td,cells,cs,arr,aa,hk,ah,aS=>by
  cases td with
  | nil=>simp at hk
  | cons q td =>
   obtain ⟨J,v⟩:=q;simp only [List.map_cons,List.cons.injEq] at hk;obtain ⟨rfl,hk⟩:=hk;have aO:=ah 0 _ _ rfl rfl;simp only [u'] at aS;cases au:place i with
   | none=>simp [au] at aS
   | some os =>
    obtain ⟨off,size⟩:=os;simp only [au] at aS
    split at aS
    ·rename_i acI;have hlen:v.cells.size=c.length:=by rw [<- Array.length_toList]; exact aO.1.symm
     have ac3:arr.size=cells.length:=by rw [<- Array.length_toList]; exact aa.1.symm
     obtain ⟨DN,cw,cd⟩:=MJ (arr:=arr) (v:=v) au (by omega) (by omega) td;have iL:Cells w I ρ (cells.take off++c++cells.drop (off+c.length)) DN.toList:=by
      rw [cd,hlen];exact ((aa.take off).append aO).append (aa.drop _)
     obtain ⟨jh,fC,pk⟩:=MH ps td iL hk (λk p q au a7=>ah (k+1) p q au a7) aS;exact ⟨jh,by rw [cw,fC],pk⟩
    ·cases aS
theorem Pb (h:cG w I T g Fs) {a:Act}(aR:a.tmps=T):∀ {l:List (Nat × Operand)}{ps:List (Nat × List ab)},q5 g l=some ps ->
  ps.map (·.1)=(l.map λp=>(p.1,a.eval p.2)).map (·.1)/\∀ (k:Nat) (p:Nat × List ab) (q:Nat × Value),ps[k]?=some p->(l.map λp=>(p.1,a.eval p.2))[k]?=some q->Cells w I (dU w T g) p.2 q.2.cells.toList
 | [],ps,au=>by simp only [q5,Option.some.injEq] at au; subst au; simp
 | (i,x)::l,ps,au=>by
  simp only [q5] at au;cases j:bn g x with
  | none=>simp [j] at au
  | some y =>
   cases ai:q5 g l with
   | none=>simp [j,ai] at au
   | some adt =>
    simp only [j,ai,Option.map_eq_some_iff] at au;obtain ⟨c,aa,rfl⟩:=au;obtain ⟨h1,af⟩:=Pb h aR ai;refine ⟨by simp [h1],λk p q au a7=>?_⟩;cases k with
    | zero =>
     simp at au a7;subst au a7;obtain ⟨aK,T4,bu⟩:=(lh h j aR).ji (λ_ h=>h) (λ_ _ j ah=>ah.Fc j) aa;exact ⟨by simpa using aK,λk u hu=>T4 k u (by simpa using hu),λk x u j hu=>bu k x u j (by simpa using hu)⟩
    | succ k=>simp at au a7; exact af k p q au (by simpa using a7)
theorem Zq {t:TypeId}{pl:List (Nat × Nat)}(h:kr P t pl=true):∃ fs,P.underlying t=some (.struct fs)/\fs.toList.mapM (λf=>(P.info? f.type).map λi=>(f.offset,i.size))=some pl:=by
 unfold kr at h;cases hu:P.underlying t with
 | none=>simp [hu] at h
 | some d =>
  cases d <;> simp only [hu,Bool.false_eq_true] at h;rename_i fs;refine ⟨fs,rfl,?_⟩;replace h:=LawfulBEq.eq_of_beq h;generalize fs.toList=l at h
  induction l generalizing pl with
  | nil=>cases pl with
   | nil=>rfl
   | cons=>simp at h
  | cons f l aM =>
   cases pl with
   | nil=>simp at h
   | cons p pl =>
    obtain ⟨o,s⟩:=p;simp only [List.map_cons,List.cons.injEq,Prod.mk.injEq] at h;obtain ⟨⟨rfl,h1⟩,af⟩:=h;have:=aM af;rw [List.mapM_cons,this];cases hi:P.info? f.type with
    | none=>simp [hi] at h1
    | some i=>simp [hi] at h1; subst h1; rfl
theorem u0.sound (h:cG w I T g Fs) {a:Act}(aR:a.tmps=T) {o:Oper}{kz:ab}(au:u0 P g o.op o.type kz) :
  ∃ v,(execOp a.eval o).run P w=.ok (.value v) w/\R w I (dU w T g) kz v ct:=by
 obtain ⟨dst,op,ty,pos,after,guard⟩:=o;simp only at au;cases au with
 | @build t _ parts pl dn ps cs ar aW gy au aa =>
  obtain ⟨fs,hu,zl⟩:=Zq ar;obtain ⟨h1,af⟩:=Pb h aR au;obtain ⟨jh,cw,cd⟩:=MH (w:=w) (I:=I) (ρ:=dU w T g) (place:=λi=>pl[i]?) ps _ (arr:=dn.cells) ⟨by simp,λk u hu=>Gv gy k u (by simpa using hu),λk x u j hu=>OS k x u j hu⟩ h1 af aa;refine ⟨.agg jh,?_,.agg (Fs:=λ_=>ct) (by simpa using cd.1) (λk u hu=>cd.2.1 k u (by simpa using hu)) (λk x u j hu=>cd.2.2 k x u j (by simpa using hu)) (λ_ _ _ _ _ h=>h.elim) (λc=>⟨λh=>h.elim,λ⟨_,_,h⟩=>h⟩)⟩;have ade:=run_places (P:=P) w fs.toList pl zl;have av:P.built t ((parts.map λ(p:Nat × Operand)=>(p.1,a.eval p.2))).toList=some jh:=by
   rw [Array.toList_map];cases hi:P.info? t with
   | none=>simp [hi] at aW
   | some it =>
    simp_all [Program.built]
  simp_all [run_build,execOp]
 | @makeFunc fn first caps _ hL gb h1 af =>
  obtain ⟨aB,a2⟩:=zE h aR h1;obtain ⟨hg,h6⟩:=zE h aR af;refine ⟨.func fn (first.map a.eval) (caps.map a.eval),by simp [execOp,Instr.makeFunc],.ds (λ_ h=>h) (by simpa using aB) (by simpa using hg) (λk x u j hu=>?_) (λk x u j hu=>?_)⟩
  ·grind
  grind
end
end Go.Own
namespace Go.Own
open Go
set_option linter.unusedSectionVars false
variable [cH]
structure yh (w w':World) (bv eh:Value) (e cd:TypeId) (z n m:Nat) (us news:List Value):Prop where
 jH:w'.ownsRow 0 e z bv n us
 new:w'.ownsRow 0 cd z eh (n+m) (us++news)
 ep:Fr w w' (λc=>bv.ownBlock=some c)
 yR:∀ c,eh.ownBlock=some c->bv.ownBlock=some c\/w.heap.size<=c
 sp:∀ c,bv.ownBlock=some c->∃ arr jh:Array Value,w.heap[c]?=some (.cells arr e (0,0))/\w'.heap[c]?=some (.cells jh e (0,0))/\jh.size=arr.size/\jh.toList.take (n * z)=arr.toList.take (n * z)
section
variable {P:Program}{w:World}
theorem yh.same {bv eh:Value}{e cd:TypeId}{z n m:Nat}{us news:List Value}{w':World}(iZ:w.ownsRow 0 e z bv n us) (av:∀ c,c<w.heap.size->w'.heap[c]?=w.heap[c]?) (az:w.heap.size<=w'.heap.size)
  (h1:w'.os=w.os) (af:w'.tape=w.tape) (aK:w'.output=w.output) (rS:w'.ownsRow 0 cd z eh (n+m) (us++news)) (hblk:∀ c,eh.ownBlock=some c->bv.ownBlock=some c\/w.heap.size<=c) (n1:∀ a,w'.frozen? a=w.frozen? a) (zd:w.drawn<=w'.drawn:=by first | exact Nat.le_refl _ | exact Nat.le_succ _):yh w w' bv eh e cd z n m us news:=by
 have aQ:=iZ.lt;refine ⟨r_ iZ λc aa=>av c (aQ c aa).2,rS,⟨h1,af,aK,az,λb gG _=>av b gG,λa _ _=>n1 a,zd⟩,hblk,λc aa=>?_⟩;obtain ⟨_,bH⟩:=iZ;rcases bH with ⟨rfl,_⟩ | ⟨b,cap,cur,rfl,_,aN,_⟩
 ·simp [Value.ownBlock] at aa
 ·simp only [Value.ownBlock,Option.some.injEq] at aa;subst aa;exact ⟨cur,cur,aN,(av _ (aQ b rfl).2).trans aN,rfl,rfl⟩
theorem YX (t ty e b_:TypeId) (i:TypeInfo) (ar:P.underlying t=some (.slice e)) (hi:P.info? e=some i)
  (b x4 Ks:Nat) (cur:Array Value) (aN:w.heap[b]?=some (.cells cur b_ (0,0)))
  (a:Addr) (m c:Nat) (news:List Value) (ai:news.length=m * i.size) (uf:∀ J u,news[J]?=some u->w.cell? (a.add J)=some u) (h1:∀ u∈news,u.oneCell'=true)
  (vp:x4+m<=Ks) (w4:x4 * i.size+news.length<=cur.size) :
  (Builtin.append_ #[t,t] ty #[.slice (some ⟨b,0,none⟩) x4 Ks,.slice (some a) m c]).run P w =
   .ok (.slice (some ⟨b,0,none⟩) (x4+m) Ks) (w.setRow b (cur.toList.take (x4 * i.size)++news++cur.toList.drop (x4 * i.size+news.length)).toArray):=by
 have aS:=run_firstCells_some (P:=P) w i.size m a m c news ai uf;have bR:=run_storeCells_at P b (x4 * i.size) b_ news 0 cur w aN (by simpa using w4) h1;simp only [Nat.add_zero] at bR;simp [Builtin.append_,run_underlying ar,sizeOf,typeInfo,hi,Builtin.lenOf,vp,aS,Addr.add_lit,bR]
theorem PA (t ty e b_:TypeId) (i:TypeInfo) (dn:Value) (ar:P.underlying t=some (.slice e)) (hi:P.info? e=some i) (aW:i.zero=some dn) (oS:dn.cells.size=i.size) (_h0:0<i.size)
  {bv:Value}{n m c:Nat}{us news:List Value}(iZ:w.ownsRow 0 b_ i.size bv n us) {a:Option Addr}(aR:0<m->a.isSome=true)
  (ai:news.length=m * i.size) (uf:∀ ad,a=some ad->∀ (J:Nat) (u:Value),news[J]?=some u->w.cell? (ad.add J)=some u) (h1:∀ u∈news,u.oneCell'=true)
  (nn:n+m<=maxLen) (w0:(n+m) * i.bytes<=140737488355328) :
  ∃ eh w' cd,(Builtin.append_ #[t,t] ty #[bv,.slice a m c]).run P w=.ok eh w'/\yh w w' bv eh b_ cd i.size n m us news:=by
 have k_:=iZ.1;by_cases hm:m=0
 ·subst hm;have aA:news=[]:=List.eq_nil_of_length_eq_zero (by simpa using ai);subst aA;refine ⟨bv,w,b_,?_,.same iZ (λ_ _=>rfl) (Nat.le_refl _) rfl rfl rfl (by simpa using iZ) (λc aa=>.inl aa) λ_=>rfl⟩;obtain ⟨_,bH⟩:=iZ;rcases bH with ⟨rfl,rfl⟩ | ⟨b,cap,cur,rfl,_,aN,hle,_⟩
  ·cases a <;> simp [Builtin.append_,run_underlying ar,sizeOf,typeInfo,hi,Builtin.lenOf,Builtin.firstCells,loadCells,loadCellsFrom]
  ·cases a <;> simp [Builtin.append_,run_underlying ar,sizeOf,typeInfo,hi,Builtin.lenOf,Builtin.firstCells,loadCells,loadCellsFrom,hle,storeCells]
 ·cases a with
  | none=>simp at aR; omega
  | some ad =>
   replace uf:=uf ad rfl;have Ww:n+m<=9223372036854775807:=by simp only [maxLen] at nn; omega
   have grown:∀ (jH:Nat),jH<n+m ->
     (w.drew.alloc (.cells (us.toArray++news.toArray++Builtin.zeroCells dn.cells (grownCap w (n+m) jH e - (n+m))) e)).ownsRow 0 e i.size (.slice (some ⟨w.heap.size,0,none⟩) (n+m) (grownCap w (n+m) jH e)) (n+m) (us++news):=by
    intro jH aV;have dw:=grownCap_ge w (n+m) jH e;have hlen:(us++news).length=(n+m) * i.size:=by rw [List.length_append,k_,ai,Nat.add_mul]
    refine ⟨hlen,.inr ⟨w.heap.size,_,_,rfl,Nat.zero_le _,rC w.drew _,dw,grownCap_le_maxLen w (n+m) jH e nn,?_,?_⟩⟩
    ·simp only [Array.size_append,List.size_toArray,size_zeroCells,oS,k_,ai,<- Nat.add_mul];congr 1;omega
    ·simp only [Array.toList_append,List.append_assoc];rw [<- List.append_assoc,<- hlen];exact List.take_left
   have w7:=iZ;obtain ⟨_,bH⟩:=iZ;rcases bH with ⟨rfl,rfl⟩ | ⟨b,cap,cur,rfl,_,aN,hle,p',gS,zq⟩
   ·have j:us=[]:=List.eq_nil_of_length_eq_zero (by simpa using k_);subst j;have ah:=run_append_nil (P:=P) w t ty e i dn ar hi aW ad m c news ai uf (by omega) (by omega) (by simp only [Nat.zero_add] at w0; omega);have n3:=grown 0 (by omega);simp only [Nat.zero_add,List.nil_append,Array.empty_append] at n3;exact ⟨_,_,e,ah,.same w7 (λc aa=>alloc_old w.drew _ c aa) (by simp) rfl rfl rfl (by simpa using n3) (λc aa=>.inr (by simp [Value.ownBlock] at aa; omega)) (λa=>A8 w.drew _ _ a)⟩
   ·by_cases vp:n+m<=cap
    ·have w4:n * i.size+news.length<=cur.size:=by rw [ai,gS,<- Nat.add_mul]; exact Nat.mul_le_mul_right _ vp
     have ah:=YX (P:=P) (w:=w) t ty e b_ i ar hi b n cap cur aN ad m c news ai uf h1 vp w4;have hlen:(us++news).length=(n+m) * i.size:=by rw [List.length_append,k_,ai,Nat.add_mul]
     have eR:(cur.toList.take (n * i.size)++news++cur.toList.drop (n * i.size+news.length)).toArray.size=cur.size:=by
      simp only [List.size_toArray,List.length_append,List.length_take,List.length_drop,Array.length_toList];omega
     have e4:(cur.toList.take (n * i.size)++news++cur.toList.drop (n * i.size+news.length)).take (n * i.size)=cur.toList.take (n * i.size):=by
      rw [List.append_assoc];exact List.take_left' (by simp; omega)
     refine ⟨_,_,b_,ah,⟨⟨k_,.inr ⟨b,cap,_,rfl,Nat.zero_le _,setRow_heap w b cur _ b_ _ aN,hle,p',eR.trans gS,?_⟩⟩,⟨hlen,.inr ⟨b,cap,_,rfl,Nat.zero_le _,setRow_heap w b cur _ b_ _ aN,vp,p',eR.trans gS,?_⟩⟩,
      ⟨rfl,rfl,rfl,by simp,λk _ hk=>setRow_other w b k _ (λe=>hk (by simp [Value.ownBlock,e])),λa _ _=>D7 w b _ a,Nat.le_refl _⟩,λc aa=>.inl aa,λc aa=>?_⟩⟩
     ·rw [<- zq]; exact e4
     ·rw [zq,<- hlen];exact List.take_left
     ·simp only [Value.ownBlock,Option.some.injEq] at aa;subst aa;exact ⟨cur,_,aN,setRow_heap w b cur _ b_ _ aN,eR,e4⟩
    ·have holds:∀ (J:Nat) (u:Value),us[J]?=some u->w.cell? ((⟨b,0,none⟩:Addr).add J)=some u:=w7.cells (g:=b) rfl;have ah:=run_append_grow (P:=P) w t ty e i dn ar hi aW ⟨b,0,none⟩ n cap us k_ holds ad m c news ai uf (by omega) (by omega) (growslice_fits (by omega) w0);have n3:=grown cap (by omega);exact ⟨_,_,e,ah,.same w7 (λc aa=>alloc_old w.drew _ c aa) (by simp) rfl rfl rfl n3 (λc aa=>.inr (by simp [Value.ownBlock] at aa; omega)) (λa=>A8 w.drew _ _ a)⟩
end
end Go.Own
namespace Go.Own
open Go
set_option linter.unusedSectionVars false
variable [cH]
section
variable {w w':World}{I:a8}{ρ ρ':ab->Value->Prop}
theorem R.kids {x:ab}{v:Value}{F:a8}(h:R w I ρ x v F) (j:x.kids≠[]):∃ Fs:Nat->a8,
  (∀ k y,x.kids[k]?=some y->∃ u,child w v k=some u/\R w I ρ y u (Fs k))/\(∀ (J k c:Nat),J<x.kids.length->k<x.kids.length->Fs J c->Fs k c->J=k) /\
  (∀ k c,k<x.kids.length->Fs k c->F c)/\(∀ z n cs,x=.own z n cs->∀ c,v.ownBlock=some c->∀ k,k<x.kids.length->¬ Fs k c):=by
 cases h with
 | @own z n cs _ e us Fs _ aV ai h1 ah aP av aI =>
  refine ⟨Fs,λk y hk=>?_,aP,λk c hk aa=>(aI c).2 (.inr ⟨k,hk,aa⟩),λ_ _ _ _ c aa k hk h=>av k c hk h aa⟩;simp only [ab.kids] at hk;have aQ:k<cs.length:=(List.getElem?_eq_some_iff.1 hk).1;have hu:us[k]?=some us[k]:=List.getElem?_eq_getElem (ai ▸ aQ)
  grind [oV]
 | @obj cs b e arr Fs _ aV ai h1 ah aP av aI =>
  refine ⟨Fs,λk y hk=>?_,aP,λk c hk aa=>(aI c).2 (.inr ⟨k,hk,aa⟩),λ_ _ _ h=>by simp at h⟩;simp only [ab.kids] at hk;have aQ:k<cs.length:=(List.getElem?_eq_some_iff.1 hk).1;have hu:arr[k]?=some arr[k]:=Array.getElem?_eq_getElem (ai ▸ aQ);exact ⟨_,by simp [child,World.cell?,aV,hu],ah k y _ hk hu⟩
 | @agg cs vs Fs _ ai h1 ah aP aI =>
  refine ⟨Fs,λk y hk=>?_,aP,λk c hk aa=>(aI c).2 ⟨k,hk,aa⟩,λ_ _ _ h=>by simp at h⟩;simp only [ab.kids] at hk;have aQ:k<cs.length:=(List.getElem?_eq_some_iff.1 hk).1
  simp_all [child]
 | @bQ cs vs Fs _ ai ah aP aI =>
  refine ⟨Fs,λk y hk=>?_,aP,λk c hk aa=>(aI c).2 ⟨k,hk,aa⟩,λ_ _ _ h=>by simp at h⟩;simp only [ab.kids] at hk;have aQ:k<cs.length:=(List.getElem?_eq_some_iff.1 hk).1
  simp_all [child]
 | ref fT=>cases x <;> simp [ab.isRef,ab.kids] at fT j
 | _=>simp [ab.kids] at j
theorem ab.u9 {x y:ab}{k:Nat}{p:List Nat}(h:x.at (k::p)=some y):∃ c,x.kids[k]?=some c/\c.at p=some y:=by
 grind [ab.at]
theorem R.JW {b:Nat}:∀ (q r:List Nat) {x:ab}{v:Value}{F:a8}{z n br cm:Nat}{cs cs':List ab}{mF Dg:Value},R w I ρ x v F->x.at q=some (.own z n cs)->x.at r=some (.own br cm cs') ->
  walk w v q=some mF->walk w v r=some Dg->mF.ownBlock=some b->Dg.ownBlock=some b->q=r
 | [],[],_,_,_,_,_,_,_,_,_,_,_,_,_,_,_,_,_,_=>rfl
 | [],k::r,x,v,F,z,n,br,cm,cs,cs',mF,Dg,h,a7,ah,og,wr,yS,yT=>by
  obtain ⟨c,hk,aa⟩:=ab.u9 ah;simp only [ab.at,Option.some.injEq] at a7;simp only [walk,Option.some.injEq] at og;subst a7 og;have aQ:k<(ab.own z n cs).kids.length:=(List.getElem?_eq_some_iff.1 hk).1;obtain ⟨Fs,h1,af,aK,bu⟩:=h.kids (by intro e; rw [e] at aQ; simp at aQ);obtain ⟨u,hu,mQ⟩:=h1 k c hk;simp only [walk,hu] at wr;obtain ⟨ik,cq,hw,dE,dq,_⟩:=R.focus r mQ aa;rw [hw] at wr;cases wr;exact absurd (dq b (dE.qn b yT)) (bu z n cs rfl b yS k aQ)
 | J::q,[],x,v,F,z,n,br,cm,cs,cs',mF,Dg,h,a7,ah,og,wr,yS,yT=>by
  obtain ⟨c,hk,aa⟩:=ab.u9 a7;simp only [ab.at,Option.some.injEq] at ah;simp only [walk,Option.some.injEq] at wr;subst ah wr;have aQ:J<(ab.own br cm cs').kids.length:=(List.getElem?_eq_some_iff.1 hk).1;obtain ⟨Fs,h1,af,aK,bu⟩:=h.kids (by intro e; rw [e] at aQ; simp at aQ);obtain ⟨u,hu,mQ⟩:=h1 J c hk;simp only [walk,hu] at og;obtain ⟨ik,cq,hw,dE,dq,_⟩:=R.focus q mQ aa;rw [hw] at og;cases og;exact absurd (dq b (dE.qn b yS)) (bu br cm cs' rfl b yT J aQ)
 | J::q,k::r,x,v,F,z,n,br,cm,cs,cs',mF,Dg,h,a7,ah,og,wr,yS,yT=>by
  obtain ⟨c,aj,aa⟩:=ab.u9 a7;obtain ⟨d,hk,aP⟩:=ab.u9 ah;have eY:J<x.kids.length:=(List.getElem?_eq_some_iff.1 aj).1;have dV:k<x.kids.length:=(List.getElem?_eq_some_iff.1 hk).1;obtain ⟨Fs,h1,af,aK,bu⟩:=h.kids (by intro e; rw [e] at eY; simp at eY);obtain ⟨u,hu,mQ⟩:=h1 J c aj;obtain ⟨wa,hT,HQ⟩:=h1 k d hk;simp only [walk,hu] at og;simp only [walk,hT] at wr;by_cases fI:J=k
  ·subst fI;rw [aj] at hk; cases hk;rw [hu] at hT; cases hT;rw [R.JW q r mQ aa aP og wr yS yT]
  ·exfalso;obtain ⟨ik,cq,hw,dE,dq,_⟩:=R.focus q mQ aa;obtain ⟨Z5,je,xa,Bh,Uw,_⟩:=R.focus r HQ aP;rw [hw] at og; cases og;rw [xa] at wr; cases wr;exact fI (af J k b eY dV (dq b (dE.qn b yS)) (Uw b (Bh.qn b yT)))
theorem ab.PV:∀ (q:List Nat) {x y:ab},x.at q=some y->x.setAt q y=x
 | [],x,y,h=>by simp [ab.at] at h; simp [ab.setAt,h]
 | k::q,x,y,h=>by
  obtain ⟨c,hk,aa⟩:=ab.u9 h;simp only [ab.setAt,hk,ab.PV q aa];have:∀ (l:List ab),l[k]?=some c->l.set k c=l:=by
   intro l ai;apply List.ext_getElem?;intro J;by_cases fI:k=J
   ·subst fI;have aQ:k<l.length:=(List.getElem?_eq_some_iff.1 ai).1;rw [List.getElem?_set_self aQ,ai]
   ·rw [List.getElem?_set_ne fI]
  cases x <;> simp [ab.kids] at hk <;> simp [ab.uN,this _ hk]
theorem Di (w:World):∀ (p:List Nat) (v:Value) (r:List Nat),walk w v (p++r)=(walk w v p).bind λu=>walk w u r
 | [],v,r=>rfl
 | k::p,v,r=>by
  simp only [List.cons_append,walk];cases child w v k with
  | none=>rfl
  | some u=>exact Di w p u r
theorem ab.GC:∀ (p:List Nat) (x:ab) (r:List Nat),x.at (p++r)=(x.at p).bind λy=>y.at r
 | [],x,r=>rfl
 | k::p,x,r=>by
  simp only [List.cons_append,ab.at];cases x.kids[k]? with
  | none=>rfl
  | some u=>exact ab.GC p u r
structure DH (w w':World) (b M:Nat):Prop where
 other:∀ c,c<w.heap.size->c≠b->w'.heap[c]?=w.heap[c]?
 here:∃ (arr jh:Array Value) (e:TypeId),w.heap[b]?=some (.cells arr e (0,0))/\w'.heap[b]?=some (.cells jh e (0,0))/\jh.size=arr.size/\jh.toList.take M=arr.toList.take M
theorem DH.row {b M:Nat}(s:DH w w' b M) {e:TypeId}{z n:Nat}{v:Value}{us:List Value}(h:w.ownsRow 0 e z v n us) (aA:v.ownBlock=some b->n * z<=M):w'.ownsRow 0 e z v n us:=by
 by_cases av:v.ownBlock=some b
 ·obtain ⟨arr,jh,cw,h1,af,aK,bu⟩:=s.here;obtain ⟨hu,bH⟩:=h;rcases bH with ⟨rfl,rfl⟩ | ⟨g,cap,cur,rfl,aN,aa,q9,jY,xW,vX⟩
  ·grind [Value.ownBlock]
  ·simp only [Value.ownBlock,Option.some.injEq] at av;subst av;rw [h1] at aa;cases aa;refine ⟨hu,.inr ⟨g,cap,jh,rfl,aN,af,q9,jY,by omega,?_⟩⟩;rw [<- vX];have:=congrArg (List.take (n * z)) bu
   rwa [List.take_take,List.take_take,Nat.min_eq_left (aA rfl)] at this
 ·exact r_ h λc aa=>s.other c (h.lt c aa).2 λe=>av (e ▸ aa)
theorem R.spare {b M:Nat}(s:DH w w' b M) (bb:∀ c,I c->c<w.heap.size/\c≠b) (lG:∀ x v,ρ x v->ρ' x v) {x:ab}{v:Value}{F:a8}(h:R w I ρ x v F) {q:List Nat}{z n:Nat}{cs:List ab}{ik:Value}
  (fG:x.at q=some (.own z n cs)) (hw:walk w v q=some ik) (av:ik.ownBlock=some b) (aA:n * z<=M) :
  R w' I ρ' x v F/\∀ r y,x.at r=some y->walk w' v r=walk w v r:=by
 obtain ⟨Z5,cq,xa,dE,dq,eH,kO⟩:=R.focus q h fG;rw [hw] at xa;cases xa;have oG:cq b:=dE.qn b av;have aQ:=h.lt;have same:∀ c,F c->c≠b->w'.heap[c]?=w.heap[c]?:=λc aa cz=>s.other c (aQ c aa) cz;have acB:=dE;cases dE with
 | ref j=>simp [ab.isRef] at j
 | @own _ _ _ _ e us Fs _ aV ai h1 ah aP jn aI =>
  have mT:=s.row aV λ_=>aA;have cz:∀ k c,k<cs.length->Fs k c->c≠b:=λk c hk aa e=>jn k c hk aa (e ▸ av);have jl:∀ k c,k<cs.length->Fs k c->F c:=λk c hk aa=>dq c ((aI c).2 (.inr ⟨k,hk,aa⟩));have rS:R w' I ρ' (.own z n cs) ik cq:=by
   refine .own mT ai h1 (λk x u j hu=>?_) aP jn aI;have hk:k<cs.length:=(List.getElem?_eq_some_iff.1 j).1;exact (ah k x u j hu).frame (λc aa=>s.other c (bb c aa).1 (bb c aa).2) (λ_ h=>h) lG λc aa=>same c (jl k c hk aa) (cz k c hk aa)
  constructor
  ·obtain ⟨cY,jm,pq⟩:=kO w' I ρ' _ cq ⟨λc aa=>s.other c (bb c aa).1 (bb c aa).2,λc aa aA=>same c aa λe=>aA (e ▸ oG),λ_ h=>h,lG⟩ rS (λc aa _=>aa) λ_ h=>by cases h
   rw [ab.PV q fG] at jm;refine jm.yY λc=>?_;rw [pq c];constructor
   ·rintro (⟨h,_⟩ | h)
    ·exact h
    ·exact dq c h
   ·intro h;by_cases aa:cq c
    ·exact .inr aa
    ·exact .inl ⟨h,aa⟩
  ·obtain ⟨gL,fw⟩:=eH w' λc aa aA=>same c aa λe=>aA (e ▸ oG);intro r y dP;rcases fw r y dP with ⟨cW,rfl⟩ | h
   ·rw [Di,Di,gL,hw];simp only [Option.bind_some];cases cW with
    | nil=>rfl
    | cons k cW =>
     rw [ab.GC,fG] at dP;obtain ⟨c,hk,aa⟩:=ab.u9 (x:=.own z n cs) dP;simp only [ab.kids] at hk;have dV:k<cs.length:=(List.getElem?_eq_some_iff.1 hk).1;have hu:us[k]?=some us[k]:=List.getElem?_eq_getElem (ai ▸ dV);have:=R.pN (w':=w') cW (ah k c _ hk hu) aa λc aa=>same c (jl k c dV aa) (cz k c dV aa);simp [walk,oV aV hu,oV mT hu,this]
   ·exact h
end
end Go.Own
namespace Go.Own
open Go
set_option linter.unusedSectionVars false
variable [cH]
section
variable {w w':World}{I:a8}{T:Array Value}{g:aL}{Fs:Nat->a8}
theorem cG.KC (h:cG w I T g Fs) {t:Nat}{x:ab}(j:g t=some x):∃ v,T[t]?=some v/\dW w T ⟨t,[]⟩=some v/\jy w I (dU w T g) x v (Fs t):=by
 obtain ⟨v,hv,a1⟩:=h.rel t x j;exact ⟨v,hv,by simp [dW,hv,walk],a1⟩
theorem cG.app (h:cG w I T g Fs) {z n m:Nat}{p:Place}{bv eh:Value}{e cd:TypeId}{us news:List Value}(ko:dU w T g (.bC z p n 0 []) bv)
  (e':∀ t br cm bh cO,g t≠some (.bC br p cm bh cO)) (A:yh w w' bv eh e cd z n m us news):cG w' I T g Fs/\∀ r v,dU w T g r v->dU w' T g r v:=by
 cases jn:bv.ownBlock with
 | none =>
  have same:∀ c,c<w.heap.size->w'.heap[c]?=w.heap[c]?:=λc aa=>A.ep.block c aa (by rw [jn]; simp);exact ⟨h.world (λt c aa=>same c (h.jU t c aa)) (λc aa=>same c (h.lt c aa)) A.ep.size,λr v ah=>h.Fv (λ_ _=>rfl) (λt c aa=>same c (h.jU t c aa)) (λ_ _ h=>h) ah⟩
 | some b =>
  have s:DH w w' b (n * z):=by
   refine ⟨λc aa cz=>A.ep.block c aa (by rw [jn]; simpa using Ne.symm cz),?_⟩;obtain ⟨arr,jh,h1,af,aK,bu⟩:=A.sp b jn;exact ⟨arr,jh,e,h1,af,aK,bu⟩
  obtain ⟨t0,sH⟩:=h.DP ko b jn;have bb:∀ c,I c->c<w.heap.size/\c≠b:=λc aa=>⟨h.lt c aa,λe=>h.bk t0 b sH (e ▸ aa)⟩;obtain ⟨⟨wA,wC,H',rfl⟩,da⟩:=ko
  -- the home of the block
  have home:∃ N:Place->Prop,(∀ q br cm cs' mF,bt g q=some (.own br cm cs')->dW w T q=some mF->mF.ownBlock=some b->N q) /\
    (∀ q,N q->∀ t br cm bh cO,g t=some (.bC br q cm bh cO)->t=p.root/\p.path=[]) /\
    (∀ t br gB cm bh cO,Fs t b->g t=some (.bC br gB cm bh cO)->t=p.root/\p.path=[]) /\
    (∀ br gB cm bh cO,p.path=[]->g p.root=some (.bC br gB cm bh cO)->br=z/\n=cm+bh) /\
    (∀ t x v,Fs t b->g t=some x->T[t]?=some v->R w I (dU w T g) x v (Fs t)->∃ q br cm cs' ik,x.at q=some (.own br cm cs')/\walk w v q=some ik/\ik.ownBlock=some b/\cm * br<=n * z):=by
   rcases da with ⟨cs,au⟩ | ⟨fJ,kN,mY,m1,adm,cs,au,aA,BK⟩
   ·-- the base is a row of a tree
    obtain ⟨qx,qA,gH,hA,ml⟩:=h.part au (by simp);rw [H'] at gH;cases gH;have mV:t0=p.root:=h.eC _ _ _ sH (ml b (hA.qn b jn));obtain ⟨eI,jF⟩:∃ eI,g p.root=some eI:=by
     unfold bt at au;cases j:g p.root with
     | none=>rw [j] at au; cases au
     | some x=>exact ⟨x,rfl⟩
    have rO:eI.at p.path=some (.own z n cs):=by simpa [bt,jF] using au
    have lb:∀ br gB cm bh cO,g p.root≠some (.bC br gB cm bh cO):=by
     intro br gB cm bh cO bH;rw [jF] at bH;cases bH;have:=(ab.tE rO).2;simp at this
    obtain ⟨v0,jq,fW⟩:=h.rel _ _ jF;have HK:=fW.hb (λbr gB cm bh cO e=>lb br gB cm bh cO (by rw [jF,e]));have BV:walk w v0 p.path=some (.slice wA n wC):=by simpa [dW,jq] using H'
    refine ⟨λq=>q=p,?_,?_,?_,?_,?_⟩
    ·intro q br cm cs' mF a7 sK wY;obtain ⟨Qv,Gl,vx,HO,HF⟩:=h.part a7 (by simp);rw [sK] at vx;cases vx;have ah:q.root=p.root:=(h.eC _ _ _ (HF b (HO.qn b wY)) sH).trans mV;have Bl:eI.at q.path=some (.own br cm cs'):=by simpa [bt,ah,jF] using a7
     have I1:walk w v0 q.path=some mF:=by simpa [dW,ah,jq] using sK
     have:=R.JW q.path p.path HK Bl rO I1 BV wY jn;cases q; cases p; simp_all
    ·rintro q rfl t br cm bh cO bH; exact absurd bH (e' t br cm bh cO)
    ·intro t br gB cm bh cO iM bH;have:t=p.root:=(h.eC _ _ _ iM sH).trans mV;rw [this] at bH;exact absurd bH (lb _ _ _ _ _)
    ·intro br gB cm bh cO _ bH; exact absurd bH (lb _ _ _ _ _)
    ·intro t x v iM j hv a1;have:t=p.root:=(h.eC _ _ _ iM sH).trans mV;subst this;rw [jF] at j; cases j;rw [jq] at hv; cases hv;exact ⟨_,_,_,_,_,rO,BV,jn,Nat.le_refl _⟩
   ·-- the base is behind an append itself
    obtain ⟨v0,jq,BT,fW⟩:=h.KC au;have WG:v0=.slice wA n wC:=by
     have:(⟨p.root,[]⟩:Place)=p:=by cases p; simp_all
     rw [this,H'] at BT;exact (Option.some.inj BT).symm
    subst WG;obtain ⟨Sm,cw,ab8,Z0,ado,fW⟩:=fW.vD;by_cases oE:Sm.ownBlock=some b
    ·obtain ⟨⟨aB,L9,NW,rfl⟩,_⟩:=fW.ko;obtain ⟨mF,Gl,sK,HO,HF⟩:=h.part BK (by simp);rw [NW] at sK;cases sK;have mV:t0=kN.root:=h.eC _ _ _ sH (HF b (HO.qn b oE));obtain ⟨eI,jF⟩:∃ eI,g kN.root=some eI:=by
      unfold bt at BK;cases j:g kN.root with
      | none=>rw [j] at BK; cases BK
      | some x=>exact ⟨x,rfl⟩
     have rO:eI.at kN.path=some (.own z mY cs):=by simpa [bt,jF] using BK
     have lb:∀ br gB cm bh cO,g kN.root≠some (.bC br gB cm bh cO):=by
      intro br gB cm bh cO bH;rw [jF] at bH;cases bH;have:=(ab.tE rO).2;simp at this
     obtain ⟨v1,rW,Bf⟩:=h.rel _ _ jF;have UM:=Bf.hb (λbr gB cm bh cO e=>lb br gB cm bh cO (by rw [jF,e]));have BV:walk w v1 kN.path=some (.slice aB mY L9):=by simpa [dW,rW] using NW
     refine ⟨λq=>q=kN,?_,?_,?_,?_,?_⟩
     ·intro q br cm cs' mF a7 sK wY;obtain ⟨Qv,Q4,vx,HP,HG⟩:=h.part a7 (by simp);rw [sK] at vx;cases vx;have ah:q.root=kN.root:=(h.eC _ _ _ (HG b (HP.qn b wY)) sH).trans mV;have Bl:eI.at q.path=some (.own br cm cs'):=by simpa [bt,ah,jF] using a7
      have I1:walk w v1 q.path=some mF:=by simpa [dW,ah,rW] using sK
      have:=R.JW q.path kN.path UM Bl rO I1 BV wY oE;cases q; cases kN; simp_all
     ·rintro q rfl t br cm bh cO bH; exact ⟨h.q8 _ _ _ _ _ _ _ _ _ _ _ bH au,fJ⟩
     ·intro t br gB cm bh cO iM bH;have:t=kN.root:=(h.eC _ _ _ iM sH).trans mV;rw [this] at bH;exact absurd bH (lb _ _ _ _ _)
     ·intro br gB cm bh cO _ bH;rw [au] at bH; cases bH; exact ⟨rfl,aA⟩
     ·intro t x v iM j hv a1;have:t=kN.root:=(h.eC _ _ _ iM sH).trans mV;subst this;rw [jF] at j; cases j;rw [rW] at hv; cases hv;exact ⟨_,_,_,_,_,rO,BV,oE,Nat.mul_le_mul_right _ (by omega)⟩
    ·have tP:Fs p.root b:=(fW.aI b).2 ⟨jn,oE⟩;have mV:t0=p.root:=h.eC _ _ _ sH tP;refine ⟨λ_=>False,?_,λ_ h=>h.elim,?_,?_,?_⟩
     ·intro q br cm cs' mF a7 sK wY;obtain ⟨Qv,Q4,vx,HP,HG⟩:=h.part a7 (by simp);rw [sK] at vx;cases vx;have ah:q.root=p.root:=h.eC _ _ _ (HG b (HP.qn b wY)) tP;unfold bt at a7;rw [ah,au] at a7;have:=(ab.tE a7).2;simp at this
     ·intro t br gB cm bh cO iM _; exact ⟨h.eC _ _ _ iM tP,fJ⟩
     ·intro br gB cm bh cO _ bH;rw [au] at bH; cases bH; exact ⟨rfl,aA⟩
     ·intro t x v iM j hv a1;have:t=p.root:=h.eC _ _ _ iM tP;subst this;rw [au] at j; cases j;exact a1.lb.elim
  obtain ⟨N,M4,M5,M6,UH,UI⟩:=home
  -- rows of pends
  have pends:∀ t br gB cm bh cO v yU b_ tL iP E5,g t=some (.bC br gB cm bh cO)->T[t]?=some v->Gq w I (dU w T g) br gB cm bh cO v (Fs t) yU b_ tL iP E5 ->
    (v.ownBlock=some b->(cm+bh) * br<=n * z)/\(yU.ownBlock=some b->cm * br<=n * z):=by
   intro t br gB cm bh cO v yU b_ tL iP E5 aN hv a1;by_cases ar:t=p.root/\p.path=[]
   ·obtain ⟨rfl,fJ⟩:=ar;obtain ⟨rfl,rfl⟩:=UH _ _ _ _ _ fJ aN;exact ⟨λ_=>Nat.le_refl _,λ_=>Nat.mul_le_mul_right _ (by omega)⟩
   ·have pw:yU.ownBlock≠some b:=by
     intro gG;obtain ⟨⟨a2,rH,NX,rfl⟩,Wb⟩:=a1.ko;rcases Wb with ⟨cs2,af⟩ | ⟨aO,C2,XN,m3,adn,ab4,af,aK,bu⟩
     ·exact ar (M5 gB (M4 gB _ _ _ _ af NX gG) t _ _ _ _ aN)
     ·obtain ⟨v2,zs,NU,mm⟩:=h.KC af;have Ey:(⟨gB.root,[]⟩:Place)=gB:=by cases gB; simp_all
      rw [Ey,NX] at NU;cases NU;have NN:gB.root=p.root/\p.path=[]->False:=by
       rintro ⟨ah,fJ⟩;have:gB=p:=by cases gB; cases p; simp_all
       exact e' t br cm bh cO (this ▸ aN)
      obtain ⟨Sn,fC,ab_,adB,adp,mm⟩:=mm.vD;by_cases pt:Sn.ownBlock=some b
      ·obtain ⟨⟨a4,aat,WI,rfl⟩,_⟩:=mm.ko;exact NN (M5 C2 (M4 C2 _ _ _ _ bu WI pt) _ _ _ _ _ af)
      ·exact NN (M6 _ _ _ _ _ _ ((mm.aI b).2 ⟨gG,pt⟩) af)
    refine ⟨λBU=>?_,λgG=>absurd gG pw⟩;exact absurd (M6 _ _ _ _ _ _ ((a1.aI b).2 ⟨BU,pw⟩) aN) ar
  -- trees
  have aQ:=h.jU;have trees:∀ t x v (ρ':ab->Value->Prop),(∀ x v,dU w T g x v->ρ' x v)->g t=some x->T[t]?=some v->R w I (dU w T g) x v (Fs t)->R w' I ρ' x v (Fs t)/\∀ r y,x.at r=some y->walk w' v r=walk w v r:=by
   intro t x v ρ' lG j hv a1;by_cases iM:Fs t b
   ·obtain ⟨q,br,cm,cs',ik,h1,af,aK,bu⟩:=UI t x v iM j hv a1;exact a1.spare s bb lG h1 af aK bu
   ·have same:∀ c,Fs t c->w'.heap[c]?=w.heap[c]?:=λc aa=>s.other c (aQ t c aa) λe=>iM (e ▸ aa);exact ⟨a1.frame (λc aa=>s.other c (bb c aa).1 (bb c aa).2) (λ_ h=>h) lG same,λr y ah=>R.pN r a1 ah same⟩
  have val:∀ q y,bt g q=some y->dW w' T q=dW w T q:=by
   intro q y a7;unfold bt at a7;cases j:g q.root with
   | none=>rw [j] at a7; cases a7
   | some x =>
    rw [j] at a7;obtain ⟨v,hv,a1⟩:=h.rel _ _ j;cases a1 with
    | tree a1=>have:=(trees _ x v _ (λ_ _ h=>h) j hv a1).2 q.path y a7; simp [dW,hv,this]
    | bC a1=>simp [dW,hv,(ab.tE a7).1,walk]
  have slot:∀ {q:Place}{x:ab},q.path=[]->g q.root=some x->dW w' T q=dW w T q:=by
   intro q x a7 j;obtain ⟨v,hv,_⟩:=h.rel _ _ j;simp [dW,a7,walk]
  have refs:∀ r v,dU w T g r v->dU w' T g r v:=by
   rintro r v ⟨h1,af⟩;refine ⟨?_,af⟩;cases r <;> simp only [fP,gZ] at h1 af ⊢
   case ptr q k=>obtain ⟨y,al,_⟩:=af; rw [val q y al]; exact h1
   case bf br q cm =>
    rcases af with ⟨_,_,af,_⟩ | ⟨aO,_,_,_,_,af,_⟩
    ·rw [val q _ af]; exact h1
    ·rw [slot aO af]; exact h1
   case sub br q lo cm=>obtain ⟨_,_,af,_⟩:=af; rw [val q _ af]; exact h1
   case hq q=>obtain ⟨_,af⟩:=af; rw [val q _ af]; exact h1
   case bC br q cm bh cO =>
    rcases af with ⟨_,af⟩ | ⟨aO,_,_,_,_,_,af,_⟩
    ·rw [val q _ af]; exact h1
    ·rw [slot aO af]; exact h1
  refine ⟨⟨λt x j=>?_,h.kM,h.eC,h.bk,λc aa=>Nat.lt_of_lt_of_le (h.lt c aa) A.ep.size,h.q8,cH.keep h.hN (λc aa=>s.other c (bb c aa).1 (bb c aa).2) λ_ h=>h⟩,refs⟩;obtain ⟨v,hv,a1⟩:=h.rel t x j;refine ⟨v,hv,?_⟩;cases a1 with
  | tree a1=>exact .tree (trees t x v _ refs j hv a1).1
  | @bC br cm bh gB cO _ yU b_ tL iP E5 _ a1 =>
   obtain ⟨eK,q4⟩:=pends t _ _ _ _ _ v yU b_ tL iP E5 j hv a1;refine .bC ⟨refs _ _ a1.ko,s.row a1.iZ q4,s.row a1.nu eK,a1.ai,a1.h1,λk x u j hu=>?_,a1.aI⟩;exact (a1.ah k x u j hu).frame (λc aa=>s.other c (bb c aa).1 (bb c aa).2) (λ_ h=>h) refs λc aa=>aa.elim
end
end Go.Own
namespace Go.Own
open Go
set_option linter.unusedSectionVars false
variable [cH]
def uY (w:World) (I:a8) (T:Array Value) (g:aL) (Fs:Nat->a8) (x:ab) (v:Value) (w':World):Prop :=
 ∃ F I',cG w' I' T g Fs/\jy w' I' (dU w' T g) x v F/\(∀ t c,F c->¬ Fs t c)/\(∀ c,F c->w.heap.size<=c/\¬ I' c)/\(∀ c,I c->I' c)/\(∀ c,I' c->I c\/w.heap.size<=c)/\Fr w w' (λc=>∃ t,Fs t c)/\(∀ z p n m new,x=.bC z p n m new->∀ t br cm bh cO,g t≠some (.bC br p cm bh cO))
inductive Src (g:aL):ab->Nat->Nat->List ab->Prop
 | bk {z m:Nat}{cs:List ab}:Src g (.bk z m cs) z m cs
 | aT {z:Nat}:Src g .aT z 0 []
 | bf {z m N:Nat}{q:Place}{cs:List ab}(a7:bt g q=some (.own z N cs)) (hm:m<=N):Src g (.bf z q m) z m ((cs.take (m * z)).mapIdx λi x=>fL 0 (q.push i) x)
 | sub {z lo m N:Nat}{q:Place}{cs:List ab}(a7:bt g q=some (.own z N cs)) (hm:lo+m<=N):Src g (.sub z q lo m) z m (((cs.drop (lo * z)).take (m * z)).mapIdx λi x=>fL 0 (q.push (lo * z+i)) x)
def jL (P:Program) (t e:TypeId) (z b:Nat):Bool :=
 match P.underlying t,P.info? e with
 | some (.slice b_),some i=>b_ == e&&i.size == z&&i.bytes == b&&z != 0&&(match i.zero with | some v=>v.cells.size == z | none=>false)
 | _,_=>false
section
variable {P:Program}{w:World}{I:a8}{T:Array Value}{g:aL}{Fs:Nat->a8}
theorem LJ {t e:TypeId}{z b:Nat}(h:jL P t e z b=true):∃ i dn,P.underlying t=some (.slice e)/\P.info? e=some i/\i.size=z/\i.bytes=b/\0<z/\i.zero=some dn/\dn.cells.size=z:=by
 unfold jL at h;cases hu:P.underlying t with
 | none=>simp [hu] at h
 | some d =>
  cases hi:P.info? e with
  | none=>cases d <;> simp [hu,hi] at h
  | some i =>
   cases d <;> simp [hu,hi] at h;obtain ⟨⟨⟨⟨rfl,h1⟩,af⟩,aK⟩,bu⟩:=h;cases aW:i.zero with
   | none=>simp [aW] at bu
   | some dn=>simp [aW] at bu; exact ⟨i,dn,rfl,rfl,h1,af,by omega,aW,bu⟩
theorem Src.sound (h:cG w I T g Fs) {y:ab}{v:Value}{z m:Nat}{cells:List ab}(az:Src g y z m cells) (a1:R w I (dU w T g) y v ct) :
  ∃ (a:Option Addr) (c:Nat) (news:List Value),v=.slice a m c/\news.length=m * z/\(0<m->0<z->a.isSome=true)/\(∀ ad,a=some ad->∀ (J:Nat) (u:Value),news[J]?=some u->w.cell? (ad.add J)=some u)/\Cells w I (dU w T g) cells news:=by
 have OT:∀ {q:Place}{N:Nat}{cs:List ab}(lo:Nat) {a:Option Addr}{cap:Nat},bt g q=some (.own z N cs)->dW w T q=some (.slice a N cap)->lo+m<=N ->
   ∃ news:List Value,news.length=m * z/\(∀ ad,a=some ad->∀ (J:Nat) (u:Value),news[J]?=some u->w.cell? ⟨ad.block,lo * z+J,none⟩=some u)/\Cells w I (dU w T g) (((cs.drop (lo * z)).take (m * z)).mapIdx λi x=>fL 0 (q.push (lo * z+i)) x) news/\(0<m->0<z->∃ b,a=some ⟨b,0,none⟩):=by
  intro q N cs lo a cap a7 hv hm;obtain ⟨eh,cq,i_,dE,_⟩:=h.part a7 (by simp);rw [hv] at i_;cases i_;obtain ⟨b1,mM,ke,_,hlen,qQ,_⟩:=dE.mZ;cases ke;have acG:lo * z+m * z<=cs.length:=by rw [hlen,<- Nat.add_mul]; exact Nat.mul_le_mul_right _ hm
  have cell:∀ J,J<m * z->∃ b gK kR,a=some ⟨b,0,none⟩/\w.cell? ⟨b,lo * z+J,none⟩=some gK/\gK.oneCell'=true/\cs[lo * z+J]?=some kR/\R w I (dU w T g) (fL 0 (q.push (lo * z+J)) kR) gK ct:=by
   intro J aj;have fT:cs[lo * z+J]?=some cs[lo * z+J]:=List.getElem?_eq_getElem (by omega);obtain ⟨b,gK,fy,mq,nr,gy,bV,kc⟩:=dE.node (.inl rfl) fT;refine ⟨b,gK,_,?_,mq,gy,fT,Fu 0 (by rw [tD,a7]; simp [ab.kids]) (by rw [yb,hv]; exact nr) kc⟩;cases a with
   | none=>simp [addrOf] at fy
   | some ad=>simp only [addrOf] at fy; rw [Option.some.inj fy]
  have uf:∃ news:List Value,news.length=m * z/\∀ J,J<m * z->∃ b gK kR,news[J]?=some gK/\a=some ⟨b,0,none⟩/\w.cell? ⟨b,lo * z+J,none⟩=some gK/\gK.oneCell'=true/\cs[lo * z+J]?=some kR/\R w I (dU w T g) (fL 0 (q.push (lo * z+J)) kR) gK ct:=by
   refine ⟨(List.range (m * z)).map λJ=>(w.cell? ⟨(a.map (·.block)).getD 0,lo * z+J,none⟩).getD undef,by simp,λJ aj=>?_⟩;obtain ⟨b,gK,kR,h1,af,aK,bu,cu⟩:=cell J aj;refine ⟨b,gK,kR,?_,h1,af,aK,bu,cu⟩;rw [List.getElem?_map,List.getElem?_range aj,h1];simp [af]
  obtain ⟨news,ai,aA⟩:=uf;refine ⟨news,ai,λad fy J u aj=>?_,⟨?_,λJ u aj=>?_,λJ x u j aj=>?_⟩,λBz B1=>?_⟩
  ·obtain ⟨b,gK,kR,h1,af,aK,_⟩:=aA J (by rw [<- ai]; exact (List.getElem?_eq_some_iff.1 aj).1);rw [h1] at aj; cases aj;rw [fy] at af; cases af;exact aK
  ·simp; omega
  ·obtain ⟨b,gK,kR,h1,af,aK,bu,_⟩:=aA J (by rw [<- ai]; exact (List.getElem?_eq_some_iff.1 aj).1);rw [h1] at aj; cases aj; exact bu
  ·obtain ⟨b,gK,kR,h1,af,aK,bu,cu,dM⟩:=aA J (by rw [<- ai]; exact (List.getElem?_eq_some_iff.1 aj).1);rw [h1] at aj; cases aj;rw [List.getElem?_mapIdx,List.getElem?_take] at j
   split at j
   ·rw [List.getElem?_drop,cu] at j;simp only [Option.map_some,Option.some.injEq] at j;rw [<- j]; exact dM
   ·cases j
  ·obtain ⟨b,_,_,h1,_⟩:=cell 0 (Nat.mul_pos Bz B1);exact ⟨b,h1⟩
 cases az with
 | bk =>
  obtain ⟨a,cap,rfl,_,hlen,hm⟩:=a1.zw;by_cases aO:cells≠[]\/0<m
  ·obtain ⟨ad,us,rfl,bb,mw,gy,aa,ah⟩:=hm aO;refine ⟨_,cap,(List.range cells.length).map us,rfl,by simp [hlen],by simp,λRz fy J u aj=>?_,⟨by simp,λJ u aj=>?_,λJ x u j aj=>?_⟩⟩
   ·cases fy;rw [List.getElem?_map] at aj;by_cases eY:J<cells.length
    ·rw [List.getElem?_range eY] at aj;simp only [Option.map_some,Option.some.injEq] at aj;obtain ⟨b,o,sp⟩:=ad;simp only at mw;subst mw;rw [add_eq,<- aj];exact aa J _ (List.getElem?_eq_getElem eY)
    ·rw [List.getElem?_eq_none (by simp; omega)] at aj; cases aj
   ·rw [List.getElem?_map] at aj;by_cases eY:J<cells.length
    ·rw [List.getElem?_range eY] at aj;simp only [Option.map_some,Option.some.injEq] at aj;rw [<- aj];exact gy J _ (List.getElem?_eq_getElem eY)
    ·rw [List.getElem?_eq_none (by simp; omega)] at aj; cases aj
   ·rw [List.getElem?_map] at aj;have eY:J<cells.length:=(List.getElem?_eq_some_iff.1 j).1;rw [List.getElem?_range eY] at aj;simp only [Option.map_some,Option.some.injEq] at aj;rw [<- aj];exact ah J x j
  ·have Bz:m=0:=by omega
   have Ia:cells=[]:=Classical.byContradiction λe=>aO (.inl e);subst Bz Ia;exact ⟨a,cap,[],rfl,by simp,by simp,by simp,by simp [Cells]⟩
 | aT =>
  rw [a1.r4];exact ⟨none,0,[],rfl,by simp,by simp,by simp,by simp [Cells]⟩
 | @bf _ _ N q cs a7 hm =>
  obtain ⟨⟨a,iU,cap,h1,rfl,aK⟩,bu⟩:=a1.mX;obtain ⟨eh,cq,i_,dE,_⟩:=h.part a7 (by simp);obtain ⟨b1,mM,ke,_⟩:=dE.mZ;rw [h1] at i_;cases i_;cases ke;obtain ⟨news,ai,aa,gS,aR⟩:=OT 0 a7 h1 (by omega);simp only [Nat.zero_mul,List.drop_zero,Nat.zero_add] at gS aa;refine ⟨a,cap,news,rfl,ai,λaO D_=>by obtain ⟨b,rfl⟩:=aR aO D_; rfl,λad fy J u aj=>?_,gS⟩;have vi:=aa ad fy J u aj;by_cases aO:0<m/\0<z
  ·obtain ⟨b,av⟩:=aR aO.1 aO.2;rw [fy] at av; cases av;rw [add_eq]; simpa using vi
  ·have:m * z=0:=by
    rcases Nat.eq_zero_or_pos m with h | h
    ·simp [h]
    ·rcases Nat.eq_zero_or_pos z with aJ | aJ
     ·simp [aJ]
     ·exact absurd ⟨h,aJ⟩ aO
   have:=(List.getElem?_eq_some_iff.1 aj).1;omega
 | @sub _ lo _ N q cs a7 hm =>
  obtain ⟨⟨a,iU,cap,b1,mM,h1,rfl,_,aK,cu⟩,bu⟩:=a1.xi;obtain ⟨eh,cq,i_,dE,_⟩:=h.part a7 (by simp);obtain ⟨a2,rH,ke,_⟩:=dE.mZ;rw [h1] at i_;cases i_;cases ke;obtain ⟨news,ai,aa,gS,aR⟩:=OT lo a7 h1 hm;refine ⟨b1,mM,news,rfl,ai,λaO _=>by obtain ⟨ad,_,rfl⟩:=cu aO; rfl,λad fy J u aj=>?_,gS⟩;have aQ:=(List.getElem?_eq_some_iff.1 aj).1;have aO:0<m:=(Nat.eq_zero_or_pos m).elim (λh=>by rw [h] at ai; omega) id

  have aW:0<z:=(Nat.eq_zero_or_pos z).elim (λh=>by rw [h] at ai; omega) id

  obtain ⟨Rz,dM,k4⟩:=cu aO;obtain ⟨b,av⟩:=aR aO aW;rw [dM] at av; cases av;rw [fy] at k4; cases k4;have vi:=aa _ dM J u aj;rw [add_eq]; simpa using vi
end
end Go.Own
namespace Go.Own
open Go
set_option linter.unusedSectionVars false
variable [cH]
inductive AE (P:Program) (g:aL):Op->TypeId->ab->Prop
 | grow {s x:Operand}{t e ty:TypeId}{z b n m:Nat}{p:Place}{y:ab}{cells:List ab}(az:bn g s=some (.bf z p n)) (da:gZ g (.bC z p n 0 [])) (e':∀ t br cm bh cO,g t≠some (.bC br p cm bh cO))
   (j:bn g x=some y) (rV:Src g y z m cells) (ar:jL P t e z b=true) (nn:n+m<=4611686018427387904) (av:(n+m) * b<=140737488355328) :
   AE P g (.call { callee:=.builtin .append,args:=#[s,x],argTypes:=#[t,t] }) ty (.bC z p n m cells)
 | nil {s x:Operand}{t e ty:TypeId}{z b m:Nat}{y:ab}{cells:List ab}(az:bn g s=some .aT)
   (j:bn g x=some y) (rV:Src g y z m cells) (ar:jL P t e z b=true) (nn:m<=4611686018427387904) (av:m * b<=140737488355328) :
   AE P g (.call { callee:=.builtin .append,args:=#[s,x],argTypes:=#[t,t] }) ty (.own z m cells)
inductive b8 (P:Program) (g:aL):Op->TypeId->ab->Prop
 | eK {op:Op}{ty:TypeId}{x:ab}(h:cU P g op ty x):b8 P g op ty x
 | q4 {op:Op}{ty:TypeId}{x:ab}(h:pa P g op ty x):b8 P g op ty x
 | Cv {op:Op}{ty:TypeId}{x:ab}(h:u0 P g op ty x):b8 P g op ty x
 | lJ {op:Op}{ty:TypeId}{x:ab}(h:AE P g op ty x):b8 P g op ty x
section
variable {P:Program}{w:World}{I:a8}{T:Array Value}{g:aL}{Fs:Nat->a8}
theorem Cells.frame {w':World}{cells:List ab}{news:List Value}(aa:Cells w I (dU w T g) cells news) (bb:∀ c,I c->w'.heap[c]?=w.heap[c]?) (ah:∀ r v,dU w T g r v->dU w' T g r v):Cells w' I (dU w' T g) cells news :=
 ⟨aa.1,aa.2.1,λk x u j hu=>(aa.2.2 k x u j hu).frame bb (λ_ h=>h) ah λ_ h=>h.elim⟩
theorem AE.sound (h:cG w I T g Fs) {a:Act}(aR:a.tmps=T) {o:Oper}{kz:ab}(au:AE P g o.op o.type kz) :
  ∃ v w',(execOp a.eval o).run P w=.ok (.value v) w'/\uY w I T g Fs kz v w':=by
 obtain ⟨dst,op,ty,pos,after,guard⟩:=o;simp only at au;cases au with
 | @grow s x t e _ z b n m p y cells az da e' j rV ar nn av =>
  obtain ⟨i,dn,hu,hi,rfl,rfl,aO,aW,oS⟩:=LJ ar;obtain ⟨⟨wA,N,wC,h1,af,aK⟩,bu⟩:=(lh h az aR).mX;obtain ⟨C8,Ku,news,vt,ai,BN,IQ,gS⟩:=rV.sound h (lh h j aR)
  -- the row of the base
  have lV:N=n/\∃ b_ us,w.ownsRow 0 b_ i.size (.slice wA n wC) n us:=by
   rcases da with ⟨cs,au⟩ | ⟨fJ,q,gU,m0,new,cs,au,rfl,_⟩
   ·obtain ⟨eh,cq,i_,dE,_⟩:=h.part au (by simp);rw [h1] at i_;cases i_;obtain ⟨b1,mM,ke,_⟩:=dE.mZ;cases ke;cases dE with
    | own aV=>exact ⟨rfl,_,_,aV⟩
    | ref j=>simp [ab.isRef] at j
   ·obtain ⟨v0,jq,BT,fW⟩:=h.KC au;have a7:(⟨p.root,[]⟩:Place)=p:=by cases p; simp_all
    rw [a7,h1] at BT;cases BT;obtain ⟨bv,cw,cd,us,adq,fW⟩:=fW.vD;have a_:N=gU+m0:=by
     obtain ⟨_,bH⟩:=fW.nu;rcases bH with ⟨bH,aA⟩ | ⟨g,cap,cur,bH,_⟩
     ·cases bH; omega
     ·cases bH; rfl
    subst a_;exact ⟨rfl,_,_,fW.nu⟩
  obtain ⟨rfl,b_,us,iZ⟩:=lV;have ko:dU w T g (.bC i.size p N 0 []) (.slice wA N wC):=⟨⟨wA,wC,h1,rfl⟩,da⟩;obtain ⟨eh,w',cd,h9,A⟩:=PA (P:=P) (w:=w) t ty e b_ i dn hu hi aW oS aO iZ (a:=C8) (c:=Ku) (m:=m) (news:=news) (λhm=>BN hm aO) ai IQ (λu hu=>by
   obtain ⟨k,hk,rfl⟩:=List.mem_iff_getElem.1 hu;exact gS.2.1 k _ (List.getElem?_eq_getElem hk)) (by unfold maxLen; omega) av
  obtain ⟨bm,hrefs⟩:=h.app ko e' A;refine ⟨eh,w',by simp [execOp,resolve,invoke,builtin,af,vt,h9],(λc=>eh.ownBlock=some c/\(Value.slice wA N wC).ownBlock≠some c),I,bm,?_,?_,?_,λ_ h=>h,λ_ h=>.inl h,?_,?_⟩
  ·have bb:∀ c,I c->w'.heap[c]?=w.heap[c]?:=by
    intro c aa;refine A.ep.block c (h.lt c aa) λav=>?_;obtain ⟨t,ar⟩:=h.DP ko c av;exact h.bk t c ar aa
   have k7:=gS.frame bb hrefs;exact .bC ⟨hrefs _ _ ko,A.jH,A.new,k7.1,k7.2.1,k7.2.2,λc=>Iff.rfl⟩
  ·rintro t c ⟨iL,w1⟩ aS;rcases A.yR c iL with h | aJ
   ·exact w1 h
   ·have:=h.jU t c aS; omega
  ·rintro c ⟨iL,w1⟩;rcases A.yR c iL with aJ | aJ
   ·exact absurd aJ w1
   ·exact ⟨aJ,λhi=>by have:=h.lt c hi; omega⟩
  ·exact A.ep.mono λc _ aa=>h.DP ko c aa
  ·intro br O7 cm bh cO he;cases he;exact e'
 | @nil s x t e _ z b m y cells az j rV ar nn av =>
  obtain ⟨i,dn,hu,hi,rfl,rfl,aO,aW,oS⟩:=LJ ar;have af:=(lh h az aR).r4;obtain ⟨C8,Ku,news,vt,ai,BN,IQ,gS⟩:=rV.sound h (lh h j aR);obtain ⟨eh,w',cd,h9,A⟩:=PA (P:=P) (w:=w) t ty e e i dn hu hi aW oS aO (World.ownsRow_nil w 0 e i.size) (a:=C8) (c:=Ku) (m:=m) (news:=news) (λhm=>BN hm aO) ai IQ (λu hu=>by
   obtain ⟨k,hk,rfl⟩:=List.mem_iff_getElem.1 hu;exact gS.2.1 k _ (List.getElem?_eq_getElem hk)) (by unfold maxLen; omega) (by simpa using av)
  have same:∀ c,c<w.heap.size->w'.heap[c]?=w.heap[c]?:=λc aa=>A.ep.block c aa (by simp [Value.ownBlock]);have rS:=A.new;simp only [Nat.zero_add,List.nil_append] at rS;have k7:=gS.frame (λc aa=>same c (h.lt c aa)) λr v ah=>h.Fv (λ_ _=>rfl) (λt c aa=>same c (h.jU t c aa)) (λ_ _ h=>h) ah;have hblk:∀ c,eh.ownBlock=some c->w.heap.size<=c:=λc aa=>(A.yR c aa).elim (λh=>by simp [Value.ownBlock] at h) id;refine ⟨eh,w',by simp [execOp,resolve,invoke,builtin,af,vt,h9],(λc=>eh.ownBlock=some c),I,h.world (λt c aa=>same c (h.jU t c aa)) (λc aa=>same c (h.lt c aa)) A.ep.size,?_,?_,λc aa=>⟨hblk c aa,λhi=>by have:=h.lt c hi; have:=hblk c aa; omega⟩,λ_ h=>h,λ_ h=>.inl h,?_,?_⟩
  ·exact .tree (.own (Fs:=λ_=>ct) rS k7.1 k7.2.1 k7.2.2 (λ_ _ _ _ _ h=>h.elim) (λ_ _ _ h=>h.elim) λc=>⟨.inl,λh=>h.elim id λ⟨_,_,h⟩=>h.elim⟩)
  ·intro t c aa aS; have:=hblk c aa; have:=h.jU t c aS; omega
  ·exact A.ep.mono λc _ aa=>by simp [Value.ownBlock] at aa
  ·intro br O7 cm bh cO he; cases he
theorem b8.sound (h:cG w I T g Fs) {a:Act}(aR:a.tmps=T) {o:Oper}{kz:ab}(au:b8 P g o.op o.type kz) :
  ∃ v w',(execOp a.eval o).run P w=.ok (.value v) w'/\uY w I T g Fs kz v w':=by
 have Cn:∀ {v:Value}{F:a8},R w I (dU w T g) kz v F->∀ z p n m new,kz=.bC z p n m new->∀ t br cm bh cO,g t≠some (.bC br p cm bh cO):=by
  rintro v F a1 z p n m new rfl;exact a1.lb.elim
 cases au with
 | eK au =>
  obtain ⟨v,ah,a1⟩:=au.sound h aR;exact ⟨v,w,ah,ct,I,h,.tree a1,λ_ _ h=>h.elim,λ_ h=>h.elim,λ_ h=>h,λ_ h=>.inl h,Fr.refl _ _,Cn a1⟩
 | Cv au =>
  obtain ⟨v,ah,a1⟩:=au.sound h aR;exact ⟨v,w,ah,ct,I,h,.tree a1,λ_ _ h=>h.elim,λ_ h=>h.elim,λ_ h=>h,λ_ h=>.inl h,Fr.refl _ _,Cn a1⟩
 | q4 au =>
  obtain ⟨v,r9,ah,a1⟩:=au.sound h aR;refine ⟨v,_,ah,_,I,h.alloc r9,.tree a1,λt c aa aS=>?_,λc aa=>⟨by rw [aa]; exact Nat.le_refl _,λhi=>by have:=h.lt c hi; omega⟩,λ_ h=>h,λ_ h=>.inl h,Fr.alloc w r9 _ (by
   obtain ⟨o,h1,af⟩:=a1.Yt w.heap.size rfl;rw [rC] at h1;cases h1;exact af),?_⟩
  ·have:=h.jU t c aS; omega
  ·rintro z p n m new rfl; exact a1.lb.elim
 | lJ au=>exact au.sound h aR
end
end Go.Own
namespace Go.Own
open Go
set_option linter.unusedSectionVars false
variable [cH]
inductive cF:ab->Prop
 | lit {v:Value}:cF (.lit v)
 | aT:cF .aT
 | dead:cF .dead
 | self {k:Nat × Nat}:cF (.self k)
 | bk {z n:Nat}{cs:List ab}(h:∀ x∈cs,cF x):cF (.bk z n cs)
 | own {z n:Nat}{cs:List ab}(h:∀ x∈cs,cF x):cF (.own z n cs)
 | obj {cs:List ab}(h:∀ x∈cs,cF x):cF (.obj cs)
 | agg {cs:List ab}(h:∀ x∈cs,cF x):cF (.agg cs)
 | bQ {cs:List ab}(h:∀ x∈cs,cF x):cF (.bQ cs)
 | cK {cs:List ab}(h:∀ x∈cs,cF x):cF (.cK cs)
 | ds {fn:Fn}{a b:List ab}(h1:∀ x∈a,cF x) (af:∀ x∈b,cF x):cF (.ds fn a b)
 | mp {p:Array MapEntry->Nat->Prop}:cF (.mp p)
 | eV {t:Nat}{us:List Value}:cF (.eV t us)
 | imp {p:Array MapEntry->Nat->Prop}:cF (.imp p)
inductive j2:ab->Prop
 | lit {v:Value}:j2 (.lit v)
 | aT:j2 .aT
 | dead:j2 .dead
 | self {k:Nat × Nat}:j2 (.self k)
 | own {z n:Nat}{cs:List ab}(h:∀ x∈cs,j2 x):j2 (.own z n cs)
 | obj {cs:List ab}(h:∀ x∈cs,j2 x):j2 (.obj cs)
 | agg {cs:List ab}(h:∀ x∈cs,j2 x):j2 (.agg cs)
 | bQ {cs:List ab}(h:∀ x∈cs,j2 x):j2 (.bQ cs)
 | mp {p:Array MapEntry->Nat->Prop}:j2 (.mp p)
 | eV {t:Nat}{us:List Value}:j2 (.eV t us)
theorem j2.bj {x:ab}(h:j2 x):cF x:=by
 induction h with
 | lit=>exact .lit
 | aT=>exact .aT
 | dead=>exact .dead
 | self=>exact .self
 | own _ aM=>exact .own aM
 | obj _ aM=>exact .obj aM
 | agg _ aM=>exact .agg aM
 | bQ _ aM=>exact .bQ aM
 | mp=>exact .mp
 | eV=>exact .eV
inductive Rows (g:aL):Place->Nat->Nat->List ab->Prop
 | own {p:Place}{z n:Nat}{cs:List ab}(au:bt g p=some (.own z n cs)):Rows g p z n cs
 | bC {t z n m:Nat}{q:Place}{new cs:List ab}(ar:g t=some (.bC z q n m new)) (a7:Rows g q z n cs):Rows g ⟨t,[]⟩ z (n+m) (cs++new)
theorem Rows.mono {g g':aL}(h:∀ {p:Place}{y:ab},bt g p=some y->bt g' p=some y) {p:Place}{z n:Nat}{cs:List ab}(ah:Rows g p z n cs) (af:∀ t x,g t=some x->g' t=some x):Rows g' p z n cs:=by
 induction ah with
 | own au=>exact .own (h au)
 | bC ar _ aM=>exact .bC (af _ _ ar) aM
inductive View (g:aL):ab->ab->Prop
 | self {x:ab}(h:cF x) (j:∀ z n cs,x≠.own z n cs) (aV:∀ cs,x≠.obj cs) (aR:∀ cs,x≠.agg cs) (ar:∀ cs,x≠.bQ cs) (hm:(∀ p,x≠.mp p)/\∀ t us,x≠.eV t us):View g x x
 | mp {p:Array MapEntry->Nat->Prop}:View g (.mp p) (.imp p)
 | hq {p:Place}{q:Array MapEntry->Nat->Prop}(au:bt g p=some (.mp q)):View g (.hq p) (.imp q)
 | qm {z:Nat}:View g .aT (.bk z 0 [])
 | agg {cs cs':List ab}(ai:cs'.length=cs.length) (h:∀ (k:Nat) (x y:ab),cs[k]?=some x->cs'[k]?=some y->View g x y):View g (.agg cs) (.agg cs')
 | own {z n:Nat}{cs cs':List ab}(ai:cs'.length=cs.length) (h:∀ (k:Nat) (x y:ab),cs[k]?=some x->cs'[k]?=some y->View g x y):View g (.own z n cs) (.bk z n cs')
 | obj {cs cs':List ab}(ai:cs'.length=cs.length) (h:∀ (k:Nat) (x y:ab),cs[k]?=some x->cs'[k]?=some y->View g x y):View g (.obj cs) (.cK cs')
 | bf {z n N:Nat}{p:Place}{cs cs':List ab}(au:bt g p=some (.own z N cs)) (aA:n<=N) (ai:cs'.length=(cs.take (n * z)).length) (h:∀ (k:Nat) (x y:ab),(cs.take (n * z))[k]?=some x->cs'[k]?=some y->View g x y):View g (.bf z p n) (.bk z n cs')
 | sub {z lo n N:Nat}{p:Place}{cs cs':List ab}(au:bt g p=some (.own z N cs)) (aA:lo+n<=N) (ai:cs'.length=((cs.drop (lo * z)).take (n * z)).length) (h:∀ (k:Nat) (x y:ab),((cs.drop (lo * z)).take (n * z))[k]?=some x->cs'[k]?=some y->View g x y):View g (.sub z p lo n) (.bk z n cs')
 | ptr {p:Place}{k z n:Nat}{y:ab}{cs cs':List ab}(au:bt g p=some y) (al:y=.own z n cs\/y=.obj cs) (hk:k<cs.length) (ai:cs'.length=(cs.drop k).length) (h:∀ (J:Nat) (x y:ab),(cs.drop k)[J]?=some x->cs'[J]?=some y->View g x y):View g (.ptr p k) (.cK cs')
 | ds {fn:Fn}{cs cs':List ab}(ai:cs'.length=cs.length) (h:∀ (k:Nat) (x y:ab),cs[k]?=some x->cs'[k]?=some y->View g x y):View g (.ds fn [] cs) (.ds fn [] cs')
 | rows {z n:Nat}{p:Place}{cs cs':List ab}(au:Rows g p z n cs) (ai:cs'.length=cs.length) (h:∀ (k:Nat) (x y:ab),cs[k]?=some x->cs'[k]?=some y->View g x y):View g (.bf z p n) (.bk z n cs')
section
variable {P:Program}{w:World}{I:a8}{T:Array Value}{g:aL}{Fs:Nat->a8}
theorem R.bj {ρ ρ':ab->Value->Prop}{x:ab}{v:Value}{F:a8}(h:R w I ρ x v F):cF x->R w I ρ' x v F:=by
 induction h with
 | lit h aI=>exact λ_=>.lit h aI
 | aT aI=>exact λ_=>.aT aI
 | dead aI=>exact λ_=>.dead aI
 | l6 aI=>exact λ_=>.l6 aI
 | @ref x _ _ j h aI=>intro aA; cases aA <;> simp [ab.isRef] at j
 | hB aI=>exact λ_=>.hB aI
 | bk aI k6 bb az ai h1 aa ah aM=>exact λaA=>.bk aI k6 bb az ai h1 aa λk x j=>aM k x j (by cases aA with | bk h=>exact h x (List.mem_of_getElem? j))
 | cK aI bb az h1 aa ah aM=>exact λaA=>.cK aI bb az h1 aa λk x j=>aM k x j (by cases aA with | cK h=>exact h x (List.mem_of_getElem? j))
 | own aV ai h1 ah aP av aI aM=>exact λaA=>.own aV ai h1 (λk x u j hu=>aM k x u j hu (by cases aA with | own h=>exact h x (List.mem_of_getElem? j))) aP av aI
 | obj aV ai h1 ah aP av aI az aM=>exact λaA=>.obj aV ai h1 (λk x u j hu=>aM k x u j hu (by cases aA with | obj h=>exact h x (List.mem_of_getElem? j))) aP av aI az
 | agg ai h1 ah aP aI aM=>exact λaA=>.agg ai h1 (λk x u j hu=>aM k x u j hu (by cases aA with | agg h=>exact h x (List.mem_of_getElem? j))) aP aI
 | bQ ai ah aP aI aM=>exact λaA=>.bQ ai (λk x u j hu=>aM k x u j hu (by cases aA with | bQ h=>exact h x (List.mem_of_getElem? j))) aP aI
 | mp aV au aI=>exact λ_=>.mp aV au aI
 | eV aV h1 aI=>exact λ_=>.eV aV h1 aI
 | imp aI bb aV au=>exact λ_=>.imp aI bb aV au
 | ds aI h1 af iA ie gj fX=>exact λaA=>.ds aI h1 af (λk x u j hu=>gj k x u j hu (by cases aA with | ds h _=>exact h x (List.mem_of_getElem? j))) (λk x u j hu=>fX k x u j hu (by cases aA with | ds _ h=>exact h x (List.mem_of_getElem? j)))
theorem R.nI {ρ:ab->Value->Prop}{I':a8}{x:ab}{v:Value}{F:a8}(h:R w I ρ x v F) (bb:∀ c,I c->I' c):R w I' ρ x v F :=
 h.frame (λ_ _=>rfl) bb (λ_ _ h=>h) λ_ _=>rfl
theorem R.lg {ρ ρ':ab->Value->Prop}{I':a8}{x:ab}{v:Value}{F:a8}(h:R w I ρ x v F):j2 x->R w I' ρ' x v F:=by
 induction h with
 | lit h aI=>exact λ_=>.lit h aI
 | aT aI=>exact λ_=>.aT aI
 | dead aI=>exact λ_=>.dead aI
 | l6 aI=>exact λ_=>.l6 aI
 | @ref x _ _ j h aI=>intro aA; cases aA <;> simp [ab.isRef] at j
 | hB=>intro aA; cases aA
 | bk=>intro aA; cases aA
 | cK=>intro aA; cases aA
 | own aV ai h1 ah aP av aI aM=>exact λaA=>.own aV ai h1 (λk x u j hu=>aM k x u j hu (by cases aA with | own h=>exact h x (List.mem_of_getElem? j))) aP av aI
 | obj aV ai h1 ah aP av aI az aM=>exact λaA=>.obj aV ai h1 (λk x u j hu=>aM k x u j hu (by cases aA with | obj h=>exact h x (List.mem_of_getElem? j))) aP av aI az
 | agg ai h1 ah aP aI aM=>exact λaA=>.agg ai h1 (λk x u j hu=>aM k x u j hu (by cases aA with | agg h=>exact h x (List.mem_of_getElem? j))) aP aI
 | bQ ai ah aP aI aM=>exact λaA=>.bQ ai (λk x u j hu=>aM k x u j hu (by cases aA with | bQ h=>exact h x (List.mem_of_getElem? j))) aP aI
 | ds=>intro aA; cases aA
 | mp aV au aI=>exact λ_=>.mp aV au aI
 | eV aV h1 aI=>exact λ_=>.eV aV h1 aI
 | imp=>intro aA; cases aA
theorem R.zF {ρ:ab->Value->Prop}{z n:Nat}{cs:List ab}{v:Value}{F:a8}(h:R w I ρ (.own z n cs) v F):∃ (a:Option Addr) (cap:Nat) (us:Nat->Value) (bV:Nat->a8),v=.slice a n cap/\n<=cap/\cs.length=n * z /\
  (∀ ad,a=some ad->∃ b,ad=⟨b,0,none⟩/\F b)/\(∀ (k:Nat) (x:ab),cs[k]?=some x->∃ b,a=some ⟨b,0,none⟩/\w.cell? ⟨b,k,none⟩=some (us k)/\(us k).oneCell'=true/\R w I ρ x (us k) (bV k)/\∀ c,bV k c->F c):=by
 have aO:=h;cases h with
 | ref j=>simp [ab.isRef] at j
 | @own _ _ _ _ e us Fs _ aV ai h1 ah aP av aI =>
  obtain ⟨a,cap,rfl,aA,hlen,qQ,uh⟩:=aO.mZ;refine ⟨a,cap,λk=>us.getD k undef,Fs,rfl,aA,hlen,λad fy=>?_,λk x hk=>?_⟩
  ·obtain ⟨BE,BF⟩:=qQ ad fy;obtain ⟨b,o,sp⟩:=ad;simp only at BE BF;subst BE BF;exact ⟨b,rfl,(aI b).2 (.inl (by rw [fy]; rfl))⟩
  ·have aQ:k<cs.length:=(List.getElem?_eq_some_iff.1 hk).1;have hu:us[k]?=some us[k]:=List.getElem?_eq_getElem (ai ▸ aQ);obtain ⟨b,u,fy,mq,nr,gy,_⟩:=aO.node (.inl rfl) hk;have:a=some ⟨b,0,none⟩:=by
    cases a with
    | none=>simp [addrOf] at fy
    | some ad=>simp only [addrOf] at fy; rw [Option.some.inj fy]
   grind [oV]
theorem R.E_ {ρ:ab->Value->Prop}{y:ab}{v:Value}{F:a8}{z n:Nat}{cs:List ab}(h:R w I ρ y v F) (al:y=.own z n cs\/y=.obj cs) {ad:Addr}(aR:addrOf v=some ad):F ad.block:=by
 rcases al with rfl | rfl
 ·obtain ⟨a,cap,rfl,_⟩:=h.mZ;refine h.qn _ ?_;cases a with
  | none=>simp [addrOf] at aR
  | some a=>simp only [addrOf,Option.some.injEq] at aR; subst aR; rfl
 ·cases h with
  | ref j=>simp [ab.isRef] at j
  | obj aV ai h1 ah aP av aI=>simp only [addrOf,Option.some.injEq] at aR; subst aR; exact (aI _).2 (.inl rfl)
theorem X_ {w:World}{e b_:TypeId}{z n:Nat}{v:Value}{us iP:List Value}(h:w.ownsRow 0 e z v n us) (aJ:w.ownsRow 0 b_ z v n iP):us=iP:=by
 obtain ⟨h1,af⟩:=h;obtain ⟨aK,bu⟩:=aJ;rcases af with ⟨rfl,rfl⟩ | ⟨b,cap,cur,rfl,_,bH,_,_,_,ar⟩
 ·grind
 grind
theorem Rows.sound {ρ:ab->Value->Prop}(H1:∀ t z q n m new,g t=some (.bC z q n m new)->∃ v,T[t]?=some v/\jy w I ρ (.bC z q n m new) v (Fs t))
  (Q7:∀ p z n cs,bt g p=some (.own z n cs)->∃ v cq,dW w T p=some v/\R w I ρ (.own z n cs) v cq/\∀ c,cq c->Fs p.root c) (AA:∀ z p n v,ρ (.bC z p n 0 []) v->dW w T p=some v) {p:Place}{z n:Nat}{cs:List ab}(h:Rows g p z n cs) :
  ∃ v e us,dW w T p=some v/\w.ownsRow 0 e z v n us/\us.length=cs.length/\(∀ (k:Nat) (u:Value),us[k]?=some u->u.oneCell'=true)/\(∀ c,v.ownBlock=some c->∃ t,Fs t c) /\
   (∀ (k:Nat) (x:ab) (u:Value),cs[k]?=some x->us[k]?=some u->∃ bV,R w I ρ x u bV/\∀ c,bV c->∃ t,Fs t c):=by
 induction h with
 | @own p z n cs au =>
  obtain ⟨v,cq,hv,a1,aI⟩:=Q7 p z n cs au;cases a1 with
  | ref j=>simp [ab.isRef] at j
  | @own _ _ _ _ e us bV _ aV ai h1 ah aP av lS =>
   grind
 | @bC t z n m q new cs ar _ aM =>
  obtain ⟨v,hv,a1⟩:=H1 t z q n m new ar;obtain ⟨v0,e,us,jq,aV,ai,h1,av,ah⟩:=aM;cases a1 with
  | tree a1=>exact a1.lb.elim
  | @bC _ _ _ _ _ _ bv cw cd Z0 news _ a1 =>
   have hp:=AA _ _ _ _ a1.ko;rw [jq] at hp;cases hp;have:=X_ aV a1.iZ;subst this;refine ⟨v,cd,us++news,by simp [dW,hv,walk],a1.nu,by rw [List.length_append,List.length_append,ai,a1.ai],λk u hu=>?_,λc aa=>?_,λk x u j hu=>?_⟩
   ·by_cases hk:k<us.length
    ·grind
    ·rw [List.getElem?_append_right (by omega)] at hu; exact a1.h1 _ u hu
   ·by_cases p_:v0.ownBlock=some c
    ·grind
    ·exact ⟨t,(a1.aI c).2 ⟨aa,p_⟩⟩
   ·by_cases hk:k<us.length
    ·grind
    ·rw [List.getElem?_append_right (by omega)] at j;rw [List.getElem?_append_right (by omega),ai] at hu;exact ⟨_,a1.ah _ x u j hu,λc aa=>aa.elim⟩
theorem Ps {ρ':ab->Value->Prop}{e:TypeId}{z n N cap:Nat}{a:Option Addr}{us:List Value}{cs cs':List ab}(aV:w.ownsRow 0 e z (.slice a N cap) n us) (hlen:us.length=cs.length) (h1:∀ (k:Nat) (u:Value),us[k]?=some u->u.oneCell'=true) (av:∀ c,(Value.slice a N cap).ownBlock=some c->∃ t,Fs t c) (ai:cs'.length=cs.length)
  (ah:∀ (k:Nat) (x y:ab) (u:Value),cs[k]?=some x->cs'[k]?=some y->us[k]?=some u->R w (λc=>I c\/∃ t,Fs t c) ρ' y u ct):R w (λc=>I c\/∃ t,Fs t c) ρ' (.bk z n cs') (.slice a n cap) ct:=by
 obtain ⟨NB,aV⟩:=aV;rcases aV with ⟨hp,aO⟩ | ⟨b,rH,cur,cw,_,bH,Eu,aa,az,ar⟩
 ·cases hp;subst aO;have k7:cs'=[]:=List.eq_nil_of_length_eq_zero (by rw [ai,<- hlen,NB]; simp);subst k7;exact .hB λ_ h=>h
 ·cases cw;refine .bk (us:=λk=>us.getD k undef) (λ_ h=>h) Eu (.inr (av b rfl)) rfl (by rw [ai,<- hlen,NB]) (λk y al=>?_) (λk y al=>?_) λk y al=>?_
  all_goals
   have hk:k<us.length:=by rw [hlen,<- ai]; exact (List.getElem?_eq_some_iff.1 al).1
   have hu:us[k]?=some us[k]:=List.getElem?_eq_getElem hk;have aN:us.getD k undef=us[k]:=by simp [List.getD,hu]
  ·grind
  ·rw [aN];have zr:∀ u,us[k]?=some u->w.cell? ⟨b,k,none⟩=some u:=λu zr=>by
    rw [<- ar,List.getElem?_take] at zr
    split at zr
    ·simpa [World.cell?,bH] using zr
    grind
   grind
  grind
theorem View.sound (h:cG w I T g Fs) {x x':ab}(hv:View g x x'):∀ {v:Value}{F:a8},R w I (dU w T g) x v F->(∀ c,F c->∃ t,Fs t c)->∀ ρ',R w (λc=>I c\/∃ t,Fs t c) ρ' x' v ct:=by
 induction hv with
 | qm =>
  intro v F a1 aI ρ';have:=a1.r4;subst this;exact .hB λ_ h=>h
 | mp =>
  intro v F a1 aI ρ';cases a1 with
  | ref j=>simp [ab.isRef] at j
  | mp aV au av=>exact .imp (λ_ h=>h) (.inr (aI _ ((av _).2 rfl))) aV au
 | hq au =>
  intro v F a1 aI ρ';cases a1 with
  | ref _ ah _ =>
   obtain ⟨⟨b,av,rfl⟩,_⟩:=ah;obtain ⟨eh,cq,i_,dE,dq⟩:=h.part au (by simp);rw [av] at i_;cases i_;cases dE with
   | ref j=>simp [ab.isRef] at j
   | mp aV au av=>exact .imp (λ_ h=>h) (.inr ⟨_,dq _ ((av _).2 rfl)⟩) aV au
 | self aA h1 af aK bu cu =>
  intro v F a1 aI ρ';refine ((a1.bj aA).nI λc aa=>.inl aa).empty ?_;cases a1 with
  | mp=>exact absurd rfl (cu.1 _)
  | eV=>exact absurd rfl (cu.2 _ _)
  | lit _ aI | aT aI | dead aI | l6 aI | ref _ _ aI | hB aI | bk aI | cK aI | ds aI | imp aI=>exact aI
  | own=>exact absurd rfl (h1 _ _ _)
  | obj=>exact absurd rfl (af _)
  | agg=>exact absurd rfl (aK _)
  | bQ=>exact absurd rfl (bu _)
 | @agg cs cs' ai _ aM =>
  intro v F a1 aI ρ';cases a1 with
  | ref j=>simp [ab.isRef] at j
  | @agg _ vs bV _ hS h1 ah aP lS =>
   refine .agg (Fs:=λ_=>ct) (by rw [ai,hS]) h1 (λk y u al hu=>?_) (λ_ _ _ _ _ h=>h.elim) (λc=>⟨λh=>h.elim,λ⟨_,_,h⟩=>h⟩);have hk:k<cs.length:=by rw [<- ai]; exact (List.getElem?_eq_some_iff.1 al).1
   have j:=List.getElem?_eq_getElem hk;exact aM k _ y j al (ah k _ u j hu) (λc aa=>aI c ((lS c).2 ⟨k,hk,aa⟩)) ρ'
 | @ds fn cs cs' ai _ aM =>
  intro v F a1 aI ρ';cases a1 with
  | ref j=>simp [ab.isRef] at j
  | @ds _ _ _ v1 v2 _ tP h1 af iA ie =>
   refine .ds (λ_ h=>h) h1 (by rw [ai,af]) (λk x u j=>by simp at j) (λk y u al hu=>?_);have hk:k<cs.length:=by rw [<- ai]; exact (List.getElem?_eq_some_iff.1 al).1
   have j:=List.getElem?_eq_getElem hk;exact aM k _ y j al (ie k _ u j hu) (λc aa=>aa.elim) ρ'
 | @own z n cs cs' ai _ aM =>
  intro v F a1 aI ρ';obtain ⟨a,cap,us,bV,rfl,aA,hlen,aR,aa⟩:=a1.zF;cases a with
  | none =>
   have gS:cs=[]:=by
    cases cs with
    | nil=>rfl
    | cons c cs=>obtain ⟨b,av,_⟩:=aa 0 c rfl; cases av
   subst gS;have k7:cs'=[]:=List.eq_nil_of_length_eq_zero (by simpa using ai);subst k7;have k9:n=0:=by
    cases a1 with
    | ref j=>simp [ab.isRef] at j
    | own aV =>
     obtain ⟨_,bH⟩:=aV;rcases bH with ⟨bH,aO⟩ | ⟨b,c2,cur,bH,_⟩
     ·exact aO
     ·cases bH
   subst k9;exact .hB λ_ h=>h
  | some ad =>
   obtain ⟨b,rfl,lT⟩:=aR ad rfl;refine .bk (us:=us) (λ_ h=>h) aA (.inr (aI b lT)) rfl (by rw [ai,hlen]) (λk y al=>?_) (λk y al=>?_) λk y al=>?_
   all_goals
    have hk:k<cs.length:=by rw [<- ai]; exact (List.getElem?_eq_some_iff.1 al).1
    have j:=List.getElem?_eq_getElem hk;obtain ⟨dz,gG,h1,af,aK,bu⟩:=aa k _ j;cases gG
   ·exact af
   ·simpa using h1
   ·exact aM k _ y j al aK (λc aa=>aI c (bu c aa)) ρ'
 | @obj cs cs' ai _ aM =>
  intro v F a1 aI ρ';cases a1 with
  | ref j=>simp [ab.isRef] at j
  | @obj _ b e arr bV _ aV hS h1 ah aP av lS =>
   refine .cK (us:=λk=>arr.getD k undef) (λ_ h=>h) (.inr (aI b ((lS b).2 (.inl rfl)))) rfl (λk y al=>?_) (λk y al=>?_) λk y al=>?_
   all_goals
    have hk:k<cs.length:=by rw [<- ai]; exact (List.getElem?_eq_some_iff.1 al).1
    have j:=List.getElem?_eq_getElem hk;have hu:arr[k]?=some arr[k]:=Array.getElem?_eq_getElem (hS ▸ hk)
   ·simpa [hu] using h1 k _ hu
   ·simp [World.cell?,aV,hu]
   ·simpa [hu] using aM k _ y j al (ah k _ _ j hu) (λc aa=>aI c ((lS c).2 (.inr ⟨k,hk,aa⟩))) ρ'
 | @bf z n N p cs cs' au aA ai _ aM =>
  intro v F a1 aI ρ';obtain ⟨⟨a,iU,cap,h1,rfl,aK⟩,_⟩:=a1.mX;obtain ⟨qx,qA,gH,hA,ml⟩:=h.part au (by simp);rw [h1] at gH;cases gH;obtain ⟨a2,rH,us,bV,ke,k6,hlen,aR,aa⟩:=hA.zF;cases ke;have hle:n * z<=N * z:=Nat.mul_le_mul_right _ aA;have cell:∀ k,k<cs'.length->∃ x b,(cs.take (n * z))[k]?=some x/\a=some ⟨b,0,none⟩/\w.cell? ⟨b,k,none⟩=some (us k)/\(us k).oneCell'=true/\R w I (dU w T g) x (us k) (bV k)/\∀ c,bV k c->qA c:=by
   intro k hk;rw [ai,List.length_take] at hk;have j:cs[k]?=some cs[k]:=List.getElem?_eq_getElem (by omega);obtain ⟨b,r⟩:=aa k _ j;exact ⟨_,b,by rw [List.getElem?_take,if_pos (by omega)]; exact j,r⟩
  cases a with
  | none =>
   have k7:cs'=[]:=by
    cases cs' with
    | nil=>rfl
    | cons c l=>obtain ⟨_,b,_,av,_⟩:=cell 0 (by simp); cases av
   subst k7;obtain ⟨_,_,ke,_,_,_,uh⟩:=hA.mZ;cases ke;have k9:n=0:=by
    rcases Nat.eq_zero_or_pos n with aO | aO
    ·exact aO
    ·have:=uh (by omega); simp at this
   subst k9;exact .hB λ_ h=>h
  | some ad =>
   obtain ⟨b,rfl,lT⟩:=aR ad rfl;refine .bk (us:=us) (λ_ h=>h) (by omega) (.inr ⟨_,ml b lT⟩) rfl (by rw [ai,List.length_take,hlen]; omega) (λk y al=>?_) (λk y al=>?_) λk y al=>?_
   all_goals
    obtain ⟨x,dz,j,gG,bu,cu,dM,k4⟩:=cell k (List.getElem?_eq_some_iff.1 al).1;cases gG
   ·exact cu
   ·simpa using bu
   ·exact aM k x y j al dM (λc aa=>⟨_,ml c (k4 c aa)⟩) ρ'
 | @sub z lo n N p cs cs' au aA ai _ aM =>
  intro v F a1 aI ρ';obtain ⟨⟨a,iU,cap,b1,mM,h1,rfl,IG,aK,cu⟩,_⟩:=a1.xi;obtain ⟨qx,qA,gH,hA,ml⟩:=h.part au (by simp);rw [h1] at gH;cases gH;obtain ⟨a2,rH,us,bV,ke,k6,hlen,aR,aa⟩:=hA.zF;cases ke;have hle:lo * z+n * z<=N * z:=by rw [<- Nat.add_mul]; exact Nat.mul_le_mul_right _ aA
  have hS:cs'.length=n * z:=by rw [ai,List.length_take,List.length_drop,hlen]; omega
  have cell:∀ k,k<cs'.length->∃ x b,((cs.drop (lo * z)).take (n * z))[k]?=some x/\a=some ⟨b,0,none⟩/\w.cell? ⟨b,lo * z+k,none⟩=some (us (lo * z+k))/\(us (lo * z+k)).oneCell'=true/\R w I (dU w T g) x (us (lo * z+k)) (bV (lo * z+k))/\∀ c,bV (lo * z+k) c->qA c:=by
   intro k hk;have j:cs[lo * z+k]?=some cs[lo * z+k]:=List.getElem?_eq_getElem (by omega);obtain ⟨b,r⟩:=aa _ _ j;exact ⟨_,b,by rw [List.getElem?_take,if_pos (by omega),List.getElem?_drop]; exact j,r⟩
  by_cases k9:n=0
  ·subst k9;have k7:cs'=[]:=List.eq_nil_of_length_eq_zero (by simpa using hS);subst k7;exact .hB λ_ h=>h
  ·obtain ⟨ad,rfl,rfl⟩:=cu (by omega);obtain ⟨b,rfl,lT⟩:=aR ad rfl;refine .bk (us:=λk=>us (lo * z+k)) (λ_ h=>h) IG (.inr ⟨_,ml b lT⟩) rfl hS (λk y al=>?_) (λk y al=>?_) λk y al=>?_
   all_goals
    obtain ⟨x,dz,j,gG,bu,Hz,dM,k4⟩:=cell k (List.getElem?_eq_some_iff.1 al).1;cases gG
   ·exact Hz
   ·simpa using bu
   ·exact aM k x y j al dM (λc aa=>⟨_,ml c (k4 c aa)⟩) ρ'
 | @ptr p k z n y cs cs' au al hk ai _ aM =>
  intro v F a1 aI ρ';obtain ⟨⟨u,ad,h1,af,rfl⟩,_⟩:=a1.nB;obtain ⟨qx,qA,gH,hA,ml⟩:=h.part au (by rcases al with rfl | rfl <;> simp);rw [h1] at gH;cases gH;have cell:∀ J,J<cs'.length->∃ gK kR wm,w.cell? ⟨ad.block,k+J,none⟩=some gK/\gK.oneCell'=true/\(cs.drop k)[J]?=some kR/\R w I (dU w T g) kR gK wm/\(∀ c,wm c->∃ t,Fs t c):=by
   intro J aj;rw [ai,List.length_drop] at aj;have fT:cs[k+J]?=some cs[k+J]:=List.getElem?_eq_getElem (by omega);obtain ⟨b,gK,fy,mq,nr,gy,_⟩:=hA.node al fT;rw [af] at fy;cases fy;have fG:bt g (p.push (k+J))=some cs[k+J]:=by rw [tD,au]; rcases al with rfl | rfl <;> simp [ab.kids]
   by_cases gz:∃ br gB cm bh cO,cs[k+J]=.bC br gB cm bh cO
   ·obtain ⟨br,gB,cm,bh,cO,gz⟩:=gz;obtain ⟨b,Z2,_,_,Bt,_,bV,kc⟩:=hA.node al fT;rw [gz] at kc;exact kc.lb.elim
   ·obtain ⟨pM,Gk,rX,HM,lS⟩:=h.part fG (λbr gB cm bh cO e=>gz ⟨_,_,_,_,_,e⟩);rw [yb,h1] at rX;simp only [Option.bind_some] at rX;rw [nr] at rX;cases rX;exact ⟨gK,_,Gk,mq,gy,by rw [List.getElem?_drop]; exact fT,HM,λc aa=>⟨_,lS c aa⟩⟩
  obtain ⟨b,gK,fy,_⟩:=hA.node al (List.getElem?_eq_getElem hk);rw [af] at fy;cases fy;have hblk:∃ t,Fs t b:=⟨_,ml b (hA.E_ al af)⟩;refine .cK (us:=λJ=>(w.cell? ⟨b,k+J,none⟩).getD undef) (λ_ h=>h) (.inr hblk) rfl (λJ iQ sM=>?_) (λJ iQ sM=>?_) λJ iQ sM=>?_
  all_goals
   obtain ⟨gK,kR,wm,c1,c2,j_,c4,nj⟩:=cell J (List.getElem?_eq_some_iff.1 sM).1
  ·simpa [c1] using c2
  ·simp [c1]
  ·simpa [c1] using aM J kR iQ j_ sM c4 nj ρ'
 | @rows z n p cs cs' au ai _ aM =>
  intro v F a1 aI ρ';obtain ⟨a,iU,cap,h1,rfl,aK⟩:=a1.mX.1;obtain ⟨v0,e,us,jq,aV,hlen,mO,av,ah⟩:=Rows.sound (w:=w) (I:=I) (T:=T) (Fs:=Fs) (λt z q n m new ar=>h.rel t _ ar) (λp z n cs au=>h.part au (by simp)) (λz p n v hv=>by obtain ⟨⟨a,cap,h1,rfl⟩,_⟩:=hv; exact h1) au;rw [h1] at jq;cases jq;refine Ps aV hlen mO av ai λk x y u j al hu=>?_;obtain ⟨bV,kc,eX⟩:=ah k x u j hu;exact aM k x y j al kc eX ρ'
end
end Go.Own
namespace Go.Own
open Go
set_option linter.unusedSectionVars false
variable [cH]
def pg (args:List ab):aL:=λt=>args[t]?
def l2 (outs:List (Option ab)) (res:ab):aL:=λt=>if t=outs.length then some res else (outs[t]?).join
structure k1 (w:World) (I U:a8) (w':World) (I' U':a8):Prop where
 ep:Fr w w' U
 more:∀ c,I c->I' c
 new:∀ c,I' c->I c\/U c\/w.heap.size<=c
 own:∀ c,U' c->U c\/w.heap.size<=c
def bY (P:Program) (f:FuncId) (args:List ab) (outs:List (Option ab)) (res:ab):Prop :=
 outs.length=args.length/\∀ (w:World) (I:a8) (vs:List Value) (Fs:Nat->a8),vs.length=args.length->cG w I vs.toArray (pg args) Fs ->
  Calls P f vs.toArray w λe w'=>∃ v I' b3,e=.returned v/\cG w' I' (vs++[v]).toArray (l2 outs res) b3/\k1 w I (λc=>∃ t,Fs t c) w' I' (λc=>∃ t,b3 t c)
def iI (P:Program) (f:FuncId):Bool :=
 match P.funcs[f]? with
 | some fn => fn.name != "runtime.NumGoroutine" && fn.body.isSome
 | none=>false
inductive cZ (P:Program) (g:aL):Op->ab->Prop
 | plain {c:Operand}{xs:Array Operand}{gl:Array TypeId}{f:FuncId}{first caps ys:List ab}{res:ab}(aa:bn g c=some (.ds (.func f) first caps)) (j:fK g xs.toList=some ys) (aS:iI P f=true)
   (aA:∀ y∈first++ys++caps,cF y) (g_:bY P f (first++ys++caps) ((first++ys++caps).map λ_=>none) res) (ah:cF res):cZ P g (.call { callee:=.value c,args:=xs,argTypes:=gl }) res
 | EW {c:Operand}{xs:Array Operand}{gl:Array TypeId}{f:FuncId}{first caps ys args:List ab}{res:ab}(aa:bn g c=some (.ds (.func f) first caps)) (j:fK g xs.toList=some ys) (aS:iI P f=true)
   (ai:args.length=(first++ys++caps).length) (hv:∀ (k:Nat) (x y:ab),(first++ys++caps)[k]?=some x->args[k]?=some y->View g x y) (g_:bY P f args (args.map λ_=>none) res) (ah:j2 res) :
   cZ P g (.call { callee:=.value c,args:=xs,argTypes:=gl }) res
section
variable {P:Program}{w:World}{I:a8}{T:Array Value}{g:aL}{Fs:Nat->a8}
theorem G0 {f:FuncId}(h:iI P f=true) (args:Array Value):(callFunc f args).run P w=.ok (.enter f args) w:=by
 unfold iI at h;cases aS:P.funcs[f]? with
 | none=>simp [aS] at h
 | some fn =>
  simp [aS] at h;obtain ⟨h1,af⟩:=h;cases av:fn.body with
  | none=>simp [av] at af
  | some c=>simp [callFunc,aS,h1,av]
theorem GZ (h:cG w I T g Fs) {a:Act}(aR:a.tmps=T) {c:Operand}{xs:Array Operand}{f:FuncId}{first caps ys:List ab}(aa:bn g c=some (.ds (.func f) first caps)) (j:fK g xs.toList=some ys) :
  ∃ v1 v2:Array Value,a.eval c=.func (.func f) v1 v2/\(first++ys++caps).length=(v1++xs.map a.eval++v2).toList.length /\
   ∀ (k:Nat) (x:ab) (u:Value),(first++ys++caps)[k]?=some x->(v1++xs.map a.eval++v2).toList[k]?=some u->R w I (dU w T g) x u ct:=by
 have M9:=lh h aa aR;obtain ⟨ai,ah⟩:=zE h aR j;generalize vf:a.eval c=adC at M9;cases M9 with
 | ref j=>simp [ab.isRef] at j
 | @ds _ _ _ v1 v2 _ _ h1 af iA ie =>
  have hlen:xs.size=ys.length:=by rw [<- Array.length_toList,ai]
  refine ⟨v1,v2,rfl,by simp [h1,af,hlen],λk x u qh py=>?_⟩;simp only [Array.toList_append,Array.toList_map] at py;by_cases gn:k<first.length
  ·rw [List.append_assoc,List.getElem?_append_left gn] at qh;rw [List.append_assoc,List.getElem?_append_left (by simp; omega)] at py;exact iA k x u qh (by simpa using py)
  ·rw [List.append_assoc,List.getElem?_append_right (by omega)] at qh;rw [List.append_assoc,List.getElem?_append_right (by simp; omega)] at py;simp only [Array.length_toList,<- h1] at py;by_cases fS:k - first.length<ys.length
   ·rw [List.getElem?_append_left fS] at qh;rw [List.getElem?_append_left (by simp; omega),List.getElem?_map] at py;cases Jf:xs.toList[k - first.length]? with
    | none=>rw [Jf] at py; cases py
    | some o=>rw [Jf] at py; cases py; exact ah _ x o qh Jf
   ·rw [List.getElem?_append_right (by omega)] at qh;rw [List.getElem?_append_right (by simp; omega)] at py;simp only [List.length_map,Array.length_toList] at py;rw [hlen] at py;exact ie _ x u qh (by simpa using py)
theorem cG.args {I':a8}(h:cG w I T g Fs) (n0:∀ c,I c->I' c) (bb:∀ c,I' c->I c\/∃ t,Fs t c) {args:List ab}{vs:List Value}(ai:args.length=vs.length)
  (ah:∀ (ρ':ab->Value->Prop) (k:Nat) (x:ab) (u:Value),args[k]?=some x->vs[k]?=some u->R w I' ρ' x u ct):cG w I' vs.toArray (pg args) (λ_=>ct):=by
 refine ⟨λt x j=>?_,λ_ _ _ h=>h,λ_ _ _ h=>h.elim,λ_ _ h=>h.elim,λc aa=>?_,λt t' z p n m new br cm bh cO h1 af=>?_,cH.keep h.hN (λ_ _=>rfl) n0⟩
 ·have ar:t<args.length:=(List.getElem?_eq_some_iff.1 j).1;have hu:vs[t]?=some vs[t]:=List.getElem?_eq_getElem (ai ▸ ar);exact ⟨vs[t],by rw [List.getElem?_toArray]; exact hu,.tree (ah _ t x _ j hu)⟩
 ·rcases bb c aa with aJ | ⟨t,aJ⟩
  ·exact h.lt c aJ
  ·exact h.jU t c aJ
 ·have ar:t<args.length:=(List.getElem?_eq_some_iff.1 h1).1;exact (ah (λ_ _=>False) t _ _ h1 (List.getElem?_eq_getElem (ai ▸ ar))).lb.elim
theorem cZ.sound (h:cG w I T g Fs) {a:Act}(aR:a.tmps=T) {o:Oper}{kz:ab}(au:cZ P g o.op kz) {K:Act->World->Prop}{Q:Exit->Act->World->Prop}
  (c7:∀ v w',uY w I T g Fs kz v w'->K (a.put o.dst v) w'):o.wp P a w K Q:=by
 obtain ⟨dst,op,ty,pos,after,guard⟩:=o;simp only at au c7;have Cn:cF kz->∀ z p n m new,kz=.bC z p n m new->∀ t br cm bh cO,g t≠some (.bC br p cm bh cO):=by
  rintro aA z p n m new rfl;cases aA
 have last:∀ {args:List ab}{res:ab}{v:Value}{vs:List Value}{w':World}{I':a8}{b3:Nat->a8},vs.length=args.length->cG w' I' (vs++[v]).toArray (l2 (args.map λ_=>none) res) b3->jy w' I' (dU w' (vs++[v]).toArray (l2 (args.map λ_=>none) res)) res v (b3 args.length)/\∀ t,t≠args.length->∀ c,¬ b3 t c:=by
  intro args res v vs w' I' b3 ai bm;constructor
  ·obtain ⟨u,hu,a1⟩:=bm.rel args.length res (by simp [l2]);have:u=v:=by
    rw [<- ai] at hu;simpa using hu.symm
   subst this; exact a1
  ·intro t ar c aa;refine bm.kM t ?_ c aa;have sG:t≠(args.map λ_=>(none:Option ab)).length:=by simpa using ar
   simp only [l2,if_neg sG,List.getElem?_map];cases args[t]? <;> rfl
 cases au with
 | @plain c xs gl f first caps ys _ aa j aS aA g_ ah =>
  obtain ⟨v1,v2,vf,ai,oD⟩:=GZ h aR aa j;have h9:(execOp a.eval { dst:=dst,op:=.call { callee:=.value c,args:=xs,argTypes:=gl },type:=ty,pos:=pos,after:=after,guard:=guard }).run P w=.ok (.enter f (v1++xs.map a.eval++v2)) w:=by
   simp [execOp,resolve,Deferred.ofValue,vf,invoke,G0 aS]
  have bm:=h.args (I':=I) (λ_ h=>h) (λc aa=>.inl aa) ai λρ' k x u j hu=>(oD k x u j hu).bj (aA x (List.mem_of_getElem? j));have ve:=g_.2 w I (v1++xs.map a.eval++v2).toList _ ai.symm bm;unfold Oper.wp Oper.upon;simp only [h9];rw [Array.toArray_toList] at ve;refine Calls.mono ve ?_;rintro e w' ⟨v,I',b3,rfl,d_,bR⟩;obtain ⟨zo,e'⟩:=last ai.symm d_;have k8:Fr w w' (λ_=>False):=bR.ep.mono λb _ ⟨_,av⟩=>av;refine c7 v w' ⟨b3 (first++ys++caps).length,I',?_,?_,?_,?_,bR.more,?_,k8.mono λ_ _ h=>h.elim,Cn ah⟩
  ·have:=h.world (w':=w') (λt c aa=>k8.block c (h.jU t c aa) (λh=>h)) (λc aa=>k8.block c (h.lt c aa) λh=>h) k8.size;refine ⟨λt x j=>?_,this.kM,this.eC,λt c aa hi=>?_,d_.lt,this.q8,d_.hN⟩
   ·obtain ⟨v,hv,a1⟩:=this.rel t x j;exact ⟨v,hv,a1.frame (λ_ _=>rfl) bR.more (λ_ _ h=>h) (λ_ _ _ _ _ _ _=>rfl) λ_ _=>rfl⟩
   ·rcases bR.new c hi with aJ | ⟨_,aJ⟩ | aJ
    ·exact h.bk t c aa aJ
    ·exact aJ
    ·have:=h.jU t c aa; omega
  ·exact .tree ((zo.hb (by rintro z p n m new rfl; cases ah)).bj ah)
  ·intro t c aa qP;rcases bR.own c ⟨_,aa⟩ with ⟨_,aJ⟩ | aJ
   ·exact aJ
   ·have:=h.jU t c qP; omega
  ·intro c aa;rcases bR.own c ⟨_,aa⟩ with ⟨_,aJ⟩ | aJ
   ·exact aJ.elim
   ·exact ⟨aJ,d_.bk _ c aa⟩
  ·intro c aa;rcases bR.new c aa with aJ | ⟨_,aJ⟩ | aJ
   ·exact .inl aJ
   ·exact aJ.elim
   ·exact .inr aJ
 | @EW c xs gl f first caps ys args _ aa j aS zj hv g_ ah =>
  obtain ⟨v1,v2,vf,ai,oD⟩:=GZ h aR aa j;have h9:(execOp a.eval { dst:=dst,op:=.call { callee:=.value c,args:=xs,argTypes:=gl },type:=ty,pos:=pos,after:=after,guard:=guard }).run P w=.ok (.enter f (v1++xs.map a.eval++v2)) w:=by
   simp [execOp,resolve,Deferred.ofValue,vf,invoke,G0 aS]
  have hS:args.length=(v1++xs.map a.eval++v2).toList.length:=by rw [zj,ai]
  have bm:=h.args (I':=λc=>I c\/∃ t,Fs t c) (λ_ h=>.inl h) (λc aa=>aa) hS λρ' k x u j hu=>by
   have hk:k<(first++ys++caps).length:=by rw [<- zj]; exact (List.getElem?_eq_some_iff.1 j).1
   have jF:=List.getElem?_eq_getElem hk;exact (hv k _ x jF j).sound h (oD k _ u jF hu) (λ_ h=>h.elim) ρ'
  have ve:=g_.2 w _ (v1++xs.map a.eval++v2).toList _ hS.symm bm;unfold Oper.wp Oper.upon;simp only [h9];rw [Array.toArray_toList] at ve;refine Calls.mono ve ?_;rintro e w' ⟨v,I',b3,rfl,d_,bR⟩;obtain ⟨zo,e'⟩:=last hS.symm d_;have k8:Fr w w' (λ_=>False):=bR.ep.mono λb _ ⟨_,av⟩=>av;refine c7 v w' ⟨b3 args.length,I,?_,?_,?_,?_,λ_ h=>h,λ_ h=>.inl h,k8.mono λ_ _ h=>h.elim,Cn ah.bj⟩
  ·exact h.world (w':=w') (λt c aa=>k8.block c (h.jU t c aa) (λh=>h)) (λc aa=>k8.block c (h.lt c aa) λh=>h) k8.size
  ·exact .tree ((zo.hb (by rintro z p n m new rfl; cases ah)).lg ah)
  ·intro t c aa qP;rcases bR.own c ⟨_,aa⟩ with ⟨_,aJ⟩ | aJ
   ·exact aJ
   ·have:=h.jU t c qP; omega
  ·intro c aa;rcases bR.own c ⟨_,aa⟩ with ⟨_,aJ⟩ | aJ
   ·exact aJ.elim
   ·exact ⟨aJ,λhi=>by have:=h.lt c hi; omega⟩
end
end Go.Own
namespace Go.Own
open Go
set_option linter.unusedSectionVars false
variable [cH]
structure jz (w:World) (I:a8) (T:Array Value) (g:aL) (Fs:Nat->a8):Prop where
 rel:∀ t x,g t=some x->∃ v,T[t]?=some v/\jy w I (fP w T) x v (Fs t)
 kM:∀ t,g t=none->∀ c,¬ Fs t c
 eC:∀ t t' c,Fs t c->Fs t' c->t=t'
 bk:∀ t c,Fs t c->¬ I c
 lt:∀ c,I c->c<w.heap.size
 hN:cH.q w I
def cp (g:aL) (p:Place) (y:ab):aL:=λt=>if t=p.root then (g t).map λx=>x.setAt p.path y else g t
inductive eo (g:aL):ab->Prop
 | bj {x:ab}(h:cF x):eo g x
 | ref {x:ab}(j:x.isRef=true) (h:gZ g x):eo g x
 | own {z n:Nat}{cs:List ab}(h:∀ x∈cs,eo g x):eo g (.own z n cs)
 | obj {cs:List ab}(h:∀ x∈cs,eo g x):eo g (.obj cs)
 | agg {cs:List ab}(h:∀ x∈cs,eo g x):eo g (.agg cs)
 | bQ {cs:List ab}(h:∀ x∈cs,eo g x):eo g (.bQ cs)
 | ds {fn:Fn}{a b:List ab}(h1:∀ x∈a,eo g x) (af:∀ x∈b,eo g x):eo g (.ds fn a b)
 | bC {z n m:Nat}{p:Place}{new:List ab}(au:gZ g (.bC z p n 0 [])) (h:∀ x∈new,eo g x):eo g (.bC z p n m new)
section
variable {w:World}{I:a8}{T:Array Value}{g:aL}{Fs:Nat->a8}
theorem R.b6 {x:ab}{v:Value}{F:a8}(h:R w I (fP w T) x v F):eo g x->R w I (dU w T g) x v F:=by
 induction h with
 | lit h aI=>exact λ_=>.lit h aI
 | aT aI=>exact λ_=>.aT aI
 | dead aI=>exact λ_=>.dead aI
 | l6 aI=>exact λ_=>.l6 aI
 | @ref x _ _ j h aI =>
  intro hk;refine .ref j ⟨h,?_⟩ aI;cases hk with
  | ref _ h=>exact h
  | bj h=>cases h <;> simp [ab.isRef] at j
  | _=>simp [ab.isRef] at j
 | hB aI=>exact λ_=>.hB aI
 | mp aV au aI=>exact λ_=>.mp aV au aI
 | eV aV h1 aI=>exact λ_=>.eV aV h1 aI
 | imp aI bb aV au=>exact λ_=>.imp aI bb aV au
 | bk aI k6 bb az ai h1 aa ah aM =>
  intro hk;cases hk with
  | ref j=>simp [ab.isRef] at j
  | bj h=>cases h with | bk h=>exact .bk aI k6 bb az ai h1 aa λk x j=>aM k x j (.bj (h x (List.mem_of_getElem? j)))
 | cK aI bb az h1 aa ah aM =>
  intro hk;cases hk with
  | ref j=>simp [ab.isRef] at j
  | bj h=>cases h with | cK h=>exact .cK aI bb az h1 aa λk x j=>aM k x j (.bj (h x (List.mem_of_getElem? j)))
 | own aV ai h1 ah aP av aI aM =>
  intro hk;refine .own aV ai h1 (λk x u j hu=>aM k x u j hu ?_) aP av aI;cases hk with
  | ref j=>simp [ab.isRef] at j
  | bj h=>cases h with | own h=>exact .bj (h x (List.mem_of_getElem? j))
  | own h=>exact h x (List.mem_of_getElem? j)
 | obj aV ai h1 ah aP av aI az aM =>
  intro hk;refine .obj aV ai h1 (λk x u j hu=>aM k x u j hu ?_) aP av aI az;cases hk with
  | ref j=>simp [ab.isRef] at j
  | bj h=>cases h with | obj h=>exact .bj (h x (List.mem_of_getElem? j))
  | obj h=>exact h x (List.mem_of_getElem? j)
 | agg ai h1 ah aP aI aM =>
  intro hk;refine .agg ai h1 (λk x u j hu=>aM k x u j hu ?_) aP aI;cases hk with
  | ref j=>simp [ab.isRef] at j
  | bj h=>cases h with | agg h=>exact .bj (h x (List.mem_of_getElem? j))
  | agg h=>exact h x (List.mem_of_getElem? j)
 | bQ ai ah aP aI aM =>
  intro hk;refine .bQ ai (λk x u j hu=>aM k x u j hu ?_) aP aI;cases hk with
  | ref j=>simp [ab.isRef] at j
  | bj h=>cases h with | bQ h=>exact .bj (h x (List.mem_of_getElem? j))
  | bQ h=>exact h x (List.mem_of_getElem? j)
 | @ds fn first caps v1 v2 F aI h1 af iA ie gj fX =>
  intro hk;have:(∀ x∈first,eo g x)/\∀ x∈caps,eo g x:=by
   cases hk with
   | ref j=>simp [ab.isRef] at j
   | bj h=>cases h with | ds h1 af=>exact ⟨λx j=>.bj (h1 x j),λx j=>.bj (af x j)⟩
   | ds h1 af=>exact ⟨h1,af⟩
  exact .ds aI h1 af (λk x u j hu=>gj k x u j hu (this.1 x (List.mem_of_getElem? j))) (λk x u j hu=>fX k x u j hu (this.2 x (List.mem_of_getElem? j)))
theorem jy.b6 {x:ab}{v:Value}{F:a8}(h:jy w I (fP w T) x v F) (hk:eo g x):jy w I (dU w T g) x v F:=by
 cases h with
 | tree h=>exact .tree (h.b6 hk)
 | bC h =>
  cases hk with
  | bj h=>cases h
  | ref j=>simp [ab.isRef] at j
  | bC au aA=>exact .bC ⟨⟨h.ko,au⟩,h.iZ,h.nu,h.ai,h.h1,λk x u j hu=>(h.ah k x u j hu).b6 (aA x (List.mem_of_getElem? j)),h.aI⟩
theorem cG.mD (h:cG w I T g Fs):jz w I T g Fs :=
  ⟨λt x j=>by
    obtain ⟨v,hv,a1⟩:=h.rel t x j;refine ⟨v,hv,?_⟩;cases a1 with
    | tree a1=>exact .tree (a1.frame (λ_ _=>rfl) (λ_ h=>h) (λ_ _ h=>h.1) λ_ _=>rfl)
    | bC a1=>exact .bC ⟨a1.ko.1,a1.iZ,a1.nu,a1.ai,a1.h1,λk x u j hu=>(a1.ah k x u j hu).frame (λ_ _=>rfl) (λ_ h=>h) (λ_ _ h=>h.1) λ_ _=>rfl,a1.aI⟩,
   h.kM,h.eC,h.bk,h.lt,h.hN⟩
theorem jz.ZP (h:jz w I T g Fs) {g':aL}(aN:∀ t x,g' t=some x->g t=some x) (hk:∀ t x,g' t=some x->eo g' x)
  (au:∀ t t' z p n m new br cm bh cO,g' t=some (.bC z p n m new)->g' t'=some (.bC br p cm bh cO)->t=t'):cG w I T g' (λt c=>g' t≠none/\Fs t c):=by
 refine ⟨λt x j=>?_,λt ar c aa=>aa.1 ar,λt t' c aa e_=>h.eC t t' c aa.2 e_.2,λt c aa=>h.bk t c aa.2,h.lt,au,h.hN⟩;obtain ⟨v,hv,a1⟩:=h.rel t x (aN t x j);have:Fs t=λc=>g' t≠none/\Fs t c:=by
  funext c;exact propext ⟨λaa=>⟨by rw [j]; simp,aa⟩,λaa=>aa.2⟩
 refine ⟨v,hv,?_⟩;rw [<- this];exact a1.b6 (hk t x j)
theorem jz.part (h:jz w I T g Fs) {p:Place}{y:ab}(au:bt g p=some y) (al:∀ z q n m new,y≠.bC z q n m new):∃ v cq,dW w T p=some v/\R w I (fP w T) y v cq/\(∀ c,cq c->Fs p.root c) /\
  ∀ (y':ab) (je:a8),R w I (fP w T) y' v je->(∀ c,je c->Fs p.root c->cq c)->(∀ c,je c->¬ I c)->(∀ t c,t≠p.root->je c->¬ Fs t c)->(∀ J,y'=.self J->y=.self J) ->
   ∃ b3,jz w I T (cp g p y') b3/\(∀ c,b3 p.root c↔(Fs p.root c/\¬ cq c)\/je c)/\∀ t,t≠p.root->b3 t=Fs t:=by
 unfold bt at au;cases j:g p.root with
 | none=>rw [j] at au; cases au
 | some x =>
  rw [j] at au;obtain ⟨v,hv,a1⟩:=h.rel _ _ j;replace a1:=a1.hb (by
   rintro z q n m new rfl;exact al _ _ _ _ _ (ab.tE au).2)
  obtain ⟨ik,cq,hw,dE,dq,eH,kO⟩:=R.focus p.path a1 au;refine ⟨ik,cq,by simp [dW,hv,hw],dE,dq,λy' je jm mR bb NG lU=>?_⟩;obtain ⟨cY,HL,pq⟩:=kO w I (fP w T) y' je ⟨λ_ _=>rfl,λ_ _ _=>rfl,λ_ h=>h,λ_ _ h=>h⟩ jm mR lU;refine ⟨λt=>if t=p.root then cY else Fs t,⟨λt x' fT=>?_,λt ar c=>?_,λt t' c aa e_=>?_,λt c aa=>?_,h.lt,h.hN⟩,λc=>by simp [pq c],λt ar=>by simp [ar]⟩
  ·by_cases ig:t=p.root
   ·subst ig;have WS:x.setAt p.path y'=x':=by simpa [cp,j] using fT
    subst WS;exact ⟨v,hv,.tree (by simpa using HL)⟩
   ·simp only [cp,if_neg ig] at fT;simpa [ig] using h.rel t x' fT
  ·by_cases ig:t=p.root
   ·subst ig; simp [cp,j] at ar
   ·simp only [cp,if_neg ig] at ar; simpa [ig] using h.kM t ar c
  ·by_cases h1:t=p.root <;> by_cases af:t'=p.root <;> simp only [h1,af,if_true,if_false] at aa e_
   ·rw [h1,af]
   ·rcases (pq c).1 aa with ⟨aK,_⟩ | aK
    ·rw [h1]; exact h.eC _ _ _ aK e_
    ·exact absurd e_ (NG t' c af aK)
   ·rcases (pq c).1 e_ with ⟨aK,_⟩ | aK
    ·rw [af]; exact h.eC _ _ _ aa aK
    ·exact absurd aa (NG t c h1 aK)
   ·exact h.eC _ _ _ aa e_
  ·by_cases h1:t=p.root <;> simp only [h1,if_true,if_false] at aa
   ·rcases (pq c).1 aa with ⟨aK,_⟩ | aK
    ·exact h.bk _ c aK
    ·exact bb c aK
   ·exact h.bk t c aa
end
end Go.Own
namespace Go.Own
open Go
set_option linter.unusedSectionVars false
variable [cH]
inductive Take:aL->List ab->List ab->aL->Prop
 | bj {g:aL}{xs:List ab}(h:∀ x∈xs,cF x):Take g xs xs g
 | cons {g g':aL}{x:ab}{xs xs':List ab}(h:cF x) (ar:Take g xs xs' g'):Take g (x::xs) (x::xs') g'
 | bf {g g1 g':aL}{z n N:Nat}{p:Place}{cs cs' xs xs':List ab}(au:bt g p=some (.own z N cs)) (aA:n<=N) (h1:Take (cp g p .dead) (cs.take (n * z)) cs' g1) (af:Take g1 xs xs' g') :
   Take g (.bf z p n::xs) (.own z n cs'::xs') g'
 | bC {g g1 g':aL}{z n m t:Nat}{q:Place}{cs new cs' xs xs':List ab}(ar:g t=some (.bC z q n m new)) (au:bt g q=some (.own z n cs)) (a7:q.root≠t) (h1:Take (cp (cp g ⟨t,[]⟩ .dead) q .dead) (cs++new) cs' g1) (af:Take g1 xs xs' g') :
   Take g (.bf z ⟨t,[]⟩ (n+m)::xs) (.own z (n+m) cs'::xs') g'
 | zG {g g1 g':aL}{z n m t q2 m2 t2:Nat}{q:Place}{cs new zC cs' xs xs':List ab}(ar:g t=some (.bC z ⟨t2,[]⟩ n m new)) (NS:g t2=some (.bC z q q2 m2 zC)) (aA:n=q2+m2) (au:bt g q=some (.own z q2 cs)) (a7:q.root≠t) (qR:q.root≠t2) (WB:t≠t2)
   (h1:Take (cp (cp (cp g ⟨t,[]⟩ .dead) ⟨t2,[]⟩ .dead) q .dead) (cs++zC++new) cs' g1) (af:Take g1 xs xs' g') :
   Take g (.bf z ⟨t,[]⟩ (n+m)::xs) (.own z (n+m) cs'::xs') g'
 | obj {g g1 g':aL}{p:Place}{cs cs' xs xs':List ab}(au:bt g p=some (.obj cs)) (h1:Take (cp g p .dead) cs cs' g1) (af:Take g1 xs xs' g'):Take g (.ptr p 0::xs) (.obj cs'::xs') g'
 | mp {g g1 g':aL}{p:Place}{q:Array MapEntry->Nat->Prop}{xs xs':List ab}(au:bt g p=some (.mp q)) (h1:Take (cp g p .dead) [] [] g1) (af:Take g1 xs xs' g'):Take g (.hq p::xs) (.mp q::xs') g'
 | agg {g g1 g':aL}{cs cs' xs xs':List ab}(h1:Take g cs cs' g1) (af:Take g1 xs xs' g'):Take g (.agg cs::xs) (.agg cs'::xs') g'
 | bQ {g g1 g':aL}{cs cs' xs xs':List ab}(h1:Take g cs cs' g1) (af:Take g1 xs xs' g'):Take g (.bQ cs::xs) (.bQ cs'::xs') g'
structure Hand (w:World) (I:a8) (ρ:ab->Value->Prop) (Fs:Nat->a8) (xs:List ab) (vs:List Value) (du:Nat->a8):Prop where
 len:xs.length=vs.length
 rel:∀ (k:Nat) (x:ab) (u:Value),xs[k]?=some x->vs[k]?=some u->R w I ρ x u (du k)
 eC:∀ (J k c:Nat),J<xs.length->k<xs.length->du J c->du k c->J=k
 off:∀ (k t c:Nat),k<xs.length->du k c->¬ Fs t c
 bk:∀ (k c:Nat),k<xs.length->du k c->¬ I c
def ln (Fs:Nat->a8) (n:Nat) (du:Nat->a8):a8:=λc=>(∃ t,Fs t c)\/∃ k,k<n/\du k c
section
variable {w:World}{I:a8}{T:Array Value}
theorem Take.length {g g':aL}{xs xs':List ab}(h:Take g xs xs' g'):xs'.length=xs.length:=by
 induction h with
 | bj=>rfl
 | cons _ _ aM=>simp [aM]
 | bf _ _ _ _ _ aM=>simp [aM]
 | bC _ _ _ _ _ _ aM=>simp [aM]
 | zG _ _ _ _ _ _ _ _ _ _ aM=>simp [aM]
 | obj _ _ _ _ aM=>simp [aM]
 | mp _ _ _ _ aM=>simp [aM]
 | agg _ _ _ aM=>simp [aM]
 | bQ _ _ _ aM=>simp [aM]
theorem qF.cons {x:ab}{l:List ab}(h:qF (x::l)):(∀ J,x≠.self J)/\qF l:=⟨λJ e=>h 0 J (by rw [e]; rfl),λk J e=>h (k+1) J e⟩
theorem Take.self {g g':aL}{xs xs':List ab}(h:Take g xs xs' g'):∀ (k:Nat) (J:Nat × Nat),xs'[k]?=some (.self J)->xs[k]?=some (.self J):=by
 have step:∀ {x x':ab}{xs xs':List ab},(∀ J,x'=.self J->x=.self J)->(∀ (k:Nat) (J:Nat × Nat),xs'[k]?=some (.self J)->xs[k]?=some (.self J))->∀ (k:Nat) (J:Nat × Nat),(x'::xs')[k]?=some (.self J)->(x::xs)[k]?=some (.self J):=by
  intro x x' xs xs' h1 af k J h;cases k with
  | zero=>simp only [List.getElem?_cons_zero,Option.some.injEq] at h ⊢; exact h1 J h
  | succ k=>exact af k J h
 induction h with
 | bj=>exact λ_ _ h=>h
 | cons _ _ aM=>exact step (λ_ h=>h) aM
 | bf _ _ _ _ _ aM=>exact step (λ_ h=>by cases h) aM
 | bC _ _ _ _ _ _ aM=>exact step (λ_ h=>by cases h) aM
 | zG _ _ _ _ _ _ _ _ _ _ aM=>exact step (λ_ h=>by cases h) aM
 | obj _ _ _ _ aM=>exact step (λ_ h=>by cases h) aM
 | mp _ _ _ _ aM=>exact step (λ_ h=>by cases h) aM
 | agg _ _ _ aM=>exact step (λ_ h=>by cases h) aM
 | bQ _ _ _ aM=>exact step (λ_ h=>by cases h) aM
theorem Take.xC {g g':aL}{xs xs':List ab}(h:Take g xs xs' g') (aV:∀ x∈xs,sk x):∀ x∈xs',sk x:=by
 induction h with
 | bj=>exact aV
 | cons _ _ aM =>
  intro x j;rcases List.mem_cons.1 j with rfl | j
  ·exact aV _ (by simp)
  ·exact aM (λx h=>aV x (by simp [h])) x j
 | bf _ _ _ _ _ aM | bC _ _ _ _ _ _ aM | zG _ _ _ _ _ _ _ _ _ _ aM | obj _ _ _ _ aM | mp _ _ _ _ aM | bQ _ _ _ aM =>
  intro x j;rcases List.mem_cons.1 j with rfl | j
  ·intro cs e; cases e
  ·exact aM (λx h=>aV x (by simp [h])) x j
 | agg h1 _ _ aM =>
  intro x j;rcases List.mem_cons.1 j with rfl | j
  ·intro cs e;cases e;exact λk J hk=>aV _ (List.mem_cons_self ..) _ rfl k J (h1.self k J hk)
  ·exact aM (λx h=>aV x (by simp [h])) x j
theorem Hand.cons {ρ:ab->Value->Prop}{Fs:Nat->a8}{x:ab}{v:Value}{F:a8}{xs:List ab}{vs:List Value}{du:Nat->a8}(h:Hand w I ρ Fs xs vs du) (j:R w I ρ x v F)
  (aP:∀ k c,k<xs.length->F c->¬ du k c) (aV:∀ t c,F c->¬ Fs t c) (hi:∀ c,F c->¬ I c):Hand w I ρ Fs (x::xs) (v::vs) (λk=>match k with | 0=>F | k+1=>du k):=by
 refine ⟨by simp [h.len],λk y u al hu=>?_,λJ k c aj hk h1 af=>?_,λk t c hk aa=>?_,λk c hk aa=>?_⟩
 ·cases k with
  | zero=>simp at al hu; subst al hu; exact j
  | succ k=>simp at al hu; exact h.rel k y u al hu
 ·cases J <;> cases k
  ·rfl
  ·exact absurd af (aP _ c (by simpa using hk) h1)
  ·exact absurd h1 (aP _ c (by simpa using aj) af)
  ·rw [h.eC _ _ c (by simpa using aj) (by simpa using hk) h1 af]
 ·cases k with
  | zero=>exact aV t c aa
  | succ k=>exact h.off k t c (by simpa using hk) aa
 ·cases k with
  | zero=>exact hi c aa
  | succ k=>exact h.bk k c (by simpa using hk) aa
theorem Hand.tail {ρ:ab->Value->Prop}{Fs:Nat->a8}{x:ab}{v:Value}{xs:List ab}{vs:List Value}{du:Nat->a8}(h:Hand w I ρ Fs (x::xs) (v::vs) du):Hand w I ρ Fs xs vs (λk=>du (k+1)) :=
  ⟨by simpa using h.len,λk y u al hu=>h.rel (k+1) y u al hu,λJ k c aj hk h1 af=>by have:=h.eC (J+1) (k+1) c (by simpa using aj) (by simpa using hk) h1 af; omega,
   λk t c hk aa=>h.off (k+1) t c (by simpa using hk) aa,λk c hk aa=>h.bk (k+1) c (by simpa using hk) aa⟩
theorem pD {x:ab}{xs:List ab}(h:cF x) (aM:∀ y∈xs,cF y):∀ y∈x::xs,cF y:=by
 intro y al;rcases List.mem_cons.1 al with rfl | al
 ·exact h
 ·exact aM y al
theorem Take.Cp {g g':aL}{xs xs':List ab}(h:Take g xs xs' g'):∀ x∈xs',cF x:=by
 induction h with
 | bj h=>exact h
 | cons h _ aM=>exact pD h aM
 | bf _ _ _ _ gj fX=>exact pD (.own gj) fX
 | bC _ _ _ _ _ gj fX=>exact pD (.own gj) fX
 | zG _ _ _ _ _ _ _ _ _ gj fX=>exact pD (.own gj) fX
 | obj _ _ _ gj fX=>exact pD (.obj gj) fX
 | mp _ _ _ _ fX=>exact pD .mp fX
 | agg _ _ gj fX=>exact pD (.agg gj) fX
 | bQ _ _ gj fX=>exact pD (.bQ gj) fX
def Gr (w:World) (I:a8) (T:Array Value) (g:aL) (xs xs':List ab) (g':aL):Prop :=
 ∀ {Fs:Nat->a8}{vs:List Value}{du:Nat->a8},jz w I T g Fs->Hand w I (fP w T) Fs xs vs du ->
  ∃ b3 jx,jz w I T g' b3/\Hand w I (fP w T) b3 xs' vs jx/\∀ c,ln b3 xs'.length jx c->ln Fs xs.length du c
theorem J6 {w:World}{e b_:TypeId}{z n:Nat}{v:Value}{us iP:List Value}(h:w.ownsRow 0 e z v n us) (aJ:w.ownsRow 0 b_ z v n iP):us=iP:=by
 obtain ⟨h1,af⟩:=h;obtain ⟨mO,Hy⟩:=aJ;rcases af with ⟨rfl,rfl⟩ | ⟨b,cap,cur,rfl,_,aN,_,_,_,ar⟩
 ·simp at h1 mO; rw [h1,mO]
 ·rcases Hy with ⟨bH,_⟩ | ⟨dz,mM,ab5,bH,_,Em,_,_,_,sG⟩
  ·cases bH
  ·cases bH;rw [aN] at Em;cases Em;rw [<- ar,<- sG]
theorem Take.node {g1 g2 g':aL}{Fs fO:Nat->a8}{B H0:a8}{cs cs' xs xs':List ab}{us vs:List Value}{bV du:Nat->a8}{X:ab}{v0:Value}
  (bm:jz w I T g1 fO) (hH:Hand w I (fP w T) fO cs us bV) (fh:∀ c,B c->(∃ t,Fs t c)/\(∀ t,¬ fO t c)/\(∀ k,k<cs.length->¬ bV k c)/\¬ I c)
  (gA:∀ c,ln fO cs.length bV c->(∃ t,Fs t c)\/H0 c) (dt:Hand w I (fP w T) Fs xs vs du) (vc:∀ c,H0 c->(∀ t,¬ Fs t c)/\∀ k,k<xs.length->¬ du k c)
  (gj:Gr w I T g1 cs cs' g2) (fX:Gr w I T g2 xs xs' g')
  (build:∀ jx:Nat->a8,(∀ (k:Nat) (x:ab) (u:Value),cs'[k]?=some x->us[k]?=some u->R w I (fP w T) x u (jx k))->(∀ (J k c:Nat),J<cs'.length->k<cs'.length->jx J c->jx k c->J=k) ->
   (∀ k c,k<cs'.length->jx k c->¬ B c)->R w I (fP w T) X v0 (λc=>B c\/∃ k,k<cs'.length/\jx k c)) :
  ∃ b3 jx,jz w I T g' b3/\Hand w I (fP w T) b3 (X::xs') (v0::vs) jx/\∀ c,ln b3 (X::xs').length jx c->(∃ t,Fs t c)\/H0 c\/∃ k,k<xs.length/\du k c:=by
 obtain ⟨iT,H1,h7,Eg,Bj⟩:=gj bm hH;have X2:∀ k t c,k<xs.length->du k c->¬ iT t c:=by
  intro k t c hk aa aS;rcases gA c (Bj c (.inl ⟨t,aS⟩)) with ⟨t',h⟩ | h
  ·exact dt.off k t' c hk aa h
  ·exact (vc c h).2 k hk aa
 obtain ⟨yr,AA,HS,UA,M'⟩:=fX h7 (⟨dt.len,dt.rel,dt.eC,X2,dt.bk⟩:Hand w I (fP w T) iT xs vs du);have Uo:∀ k c,k<cs'.length->H1 k c->¬ B c:=by
  intro k c hk aa av;obtain ⟨_,h1,af,_⟩:=fh c av;rcases Bj c (.inr ⟨k,hk,aa⟩) with ⟨t,h⟩ | ⟨J,aj,h⟩
  ·exact h1 t h
  ·exact af J aj h
 have wU:=build H1 Eg.rel Eg.eC Uo
 -- the node's blocks: apart from all else
 have key:∀ c,(B c\/∃ k,k<cs'.length/\H1 k c)->(∀ t,¬ iT t c)/\(∀ k,k<xs.length->¬ du k c)/\¬ I c/\((∃ t,Fs t c)\/H0 c):=by
  rintro c (av | ⟨k,hk,aa⟩)
  ·obtain ⟨⟨t0,aO⟩,h1,af,aK⟩:=fh c av;refine ⟨λt aS=>?_,λk hk aa=>dt.off k t0 c hk aa aO,aK,.inl ⟨t0,aO⟩⟩;rcases Bj c (.inl ⟨t,aS⟩) with ⟨t',h⟩ | ⟨J,aj,h⟩
   ·exact h1 t' h
   ·exact af J aj h
  ·have az:=gA c (Bj c (.inr ⟨k,hk,aa⟩));refine ⟨λt aS=>Eg.off k t c hk aa aS,λJ aj w2=>?_,Eg.bk k c hk aa,az⟩;rcases az with ⟨t,h⟩ | h
   ·exact dt.off J t c aj w2 h
   ·exact (vc c h).2 J aj w2
 have fin:∀ c,(B c\/∃ k,k<cs'.length/\H1 k c)->(∀ t,¬ yr t c)/\∀ k,k<xs'.length->¬ AA k c:=by
  intro c aa;obtain ⟨h1,af,_,_⟩:=key c aa;have none:¬ ln yr xs'.length AA c:=by
   intro h;rcases M' c h with ⟨t,h⟩ | ⟨k,hk,h⟩
   ·exact h1 t h
   ·exact af k hk h
  exact ⟨λt h=>none (.inl ⟨t,h⟩),λk hk h=>none (.inr ⟨k,hk,h⟩)⟩
 refine ⟨yr,_,HS,UA.cons wU (λk c hk aa=>(fin c aa).2 k hk) (λt c aa=>(fin c aa).1 t) (λc aa=>(key c aa).2.2.1),?_⟩;have back:∀ c,ln yr xs'.length AA c->(∃ t,Fs t c)\/H0 c\/∃ k,k<xs.length/\du k c:=by
  intro c h;rcases M' c h with ⟨t,h⟩ | h
  ·rcases gA c (Bj c (.inl ⟨t,h⟩)) with h | h
   ·exact .inl h
   ·exact .inr (.inl h)
  ·exact .inr (.inr h)
 rintro c (h | ⟨k,hk,aa⟩)
 ·exact back c (.inl h)
 ·cases k with
  | zero =>
   rcases (key c aa).2.2.2 with h | h
   ·exact .inl h
   ·exact .inr (.inl h)
  | succ k=>exact back c (.inr ⟨k,by simpa using hk,aa⟩)
end
end Go.Own
namespace Go.Own
open Go
set_option linter.unusedSectionVars false
variable [cH]
section
variable {w:World}{I:a8}{T:Array Value}
theorem jz.kill {g:aL}{Fs:Nat->a8}(h:jz w I T g Fs) (t:Nat):∃ b3,jz w I T (cp g ⟨t,[]⟩ .dead) b3/\(∀ c,¬ b3 t c)/\∀ s,s≠t->b3 s=Fs s:=by
 refine ⟨λs=>if s=t then ct else Fs s,⟨λs x j=>?_,λs az c=>?_,λs cn c aa e_=>?_,λs c aa=>?_,h.lt,h.hN⟩,λc=>by simp,λs az=>by simp [az]⟩
 ·by_cases bR:s=t
  ·subst bR;simp only [cp,if_pos] at j;cases aN:g s with
   | none=>rw [aN] at j; cases j
   | some y =>
    rw [aN] at j;have:x=.dead:=by simpa [ab.setAt] using j.symm
    subst this;obtain ⟨v,hv,_⟩:=h.rel s y aN;exact ⟨v,hv,.tree (.dead (by simp))⟩
  ·simp only [cp,if_neg bR] at j; simpa [bR] using h.rel s x j
 ·by_cases bR:s=t
  ·simp [bR]
  ·simp only [cp,if_neg bR] at az; simpa [bR] using h.kM s az c
 ·by_cases h1:s=t <;> by_cases af:cn=t <;> simp [h1,af,ct] at aa e_;exact h.eC _ _ _ aa e_
 ·by_cases h1:s=t <;> simp [h1,ct] at aa;exact h.bk _ _ aa
theorem R.vg {ρ:ab->Value->Prop}{Fs:Nat->a8}{x:ab}{v:Value}{xs:List ab}{vs:List Value}{du:Nat->a8}(h:Hand w I ρ Fs (x::xs) (v::vs) du):∀ c,du 0 c->(∀ t,¬ Fs t c)/\∀ k,k<xs.length->¬ du (k+1) c:=by
 intro c aa;refine ⟨λt=>h.off 0 t c (by simp) aa,λk hk jN=>?_⟩;have:=h.eC 0 (k+1) c (by simp) (by simpa using hk) aa jN;omega
theorem ln.head {Fs:Nat->a8}{x:ab}{xs:List ab}{du:Nat->a8}{c:Nat}(h:(∃ t,Fs t c)\/du 0 c\/∃ k,k<xs.length/\du (k+1) c):ln Fs (x::xs).length du c:=by
 rcases h with h | h | ⟨k,hk,h⟩
 ·exact .inl h
 ·exact .inr ⟨0,by simp,h⟩
 ·exact .inr ⟨k+1,by simpa using hk,h⟩
theorem FB {g:aL}{p:Place}{y:ab}{q:Place}(h:q.root≠p.root):bt (cp g p y) q=bt g q:=by
 grind [bt,cp]
theorem x5 {g:aL}{p:Place}{y:ab}{t:Nat}(h:t≠p.root):cp g p y t=g t:=by
 grind [cp]
theorem O5 {a:Option Addr}{n cap cm mM:Nat}:(Value.slice a n cap).ownBlock=(Value.slice a cm mM).ownBlock:=by cases a <;> rfl
theorem X' {e:TypeId}{z n N:Nat}{a:Option Addr}{cap:Nat}{us:List Value}(h:w.ownsRow 0 e z (.slice a N cap) N us) (aA:n<=N):w.ownsRow 0 e z (.slice a n cap) n (us.take (n * z)):=by
 have hle:n * z<=N * z:=Nat.mul_le_mul_right _ aA;obtain ⟨hu,bH⟩:=h;refine ⟨by rw [List.length_take,hu]; omega,?_⟩
 grind
theorem Take.sound {g g':aL}{xs xs':List ab}(h:Take g xs xs' g'):Gr w I T g xs xs' g':=by
 induction h with
 | bj h=>exact λ{Fs vs du} bm hH=>⟨Fs,du,bm,hH,λ_ h=>h⟩
 | @cons g g' x xs xs' j _ aM =>
  intro Fs vs du bm hH;cases vs with
  | nil=>have:=hH.len; simp at this
  | cons v vs =>
   obtain ⟨b3,jx,d_,Uz,hh⟩:=aM bm hH.tail;have aO:=R.vg hH;have off:∀ c,du 0 c->¬ ln b3 xs'.length jx c:=by
    intro c aa av;rcases hh c av with ⟨t,h⟩ | ⟨k,hk,h⟩
    ·exact (aO c aa).1 t h
    ·exact (aO c aa).2 k hk h
   refine ⟨b3,_,d_,Uz.cons (hH.rel 0 x v rfl rfl) (λk c hk aa h=>off c aa (.inr ⟨k,hk,h⟩)) (λt c aa h=>off c aa (.inl ⟨t,h⟩)) (λc aa=>hH.bk 0 c (by simp) aa),?_⟩;rintro c (h | ⟨k,hk,h⟩)
   ·rcases hh c (.inl h) with h | ⟨J,aj,h⟩
    ·exact .inl h
    ·exact .inr ⟨J+1,by simpa using aj,h⟩
   ·cases k with
    | zero=>exact .inr ⟨0,by simp,h⟩
    | succ k =>
     rcases hh c (.inr ⟨k,by simpa using hk,h⟩) with h | ⟨J,aj,h⟩
     ·exact .inl h
     ·exact .inr ⟨J+1,by simpa using aj,h⟩
 | @bf g g1 g' z n N p cs cs' xs xs' au aA t1 _ gj fX =>
  intro Fs vs du bm hH;cases vs with
  | nil=>have:=hH.len; simp at this
  | cons v vs =>
   obtain ⟨qx,cq,gH,hA,dq,kO⟩:=bm.part au (by simp);obtain ⟨a,iU,cap,h1,rfl,aK⟩:=(hH.rel 0 _ v rfl rfl).mX;rw [h1] at gH;cases gH;obtain ⟨a2,rH,ke,_⟩:=hA.mZ;cases ke;obtain ⟨fO,iY,iA,ie⟩:=kO .dead ct (.dead λ_ h=>h) (λ_ h=>h.elim) (λ_ h=>h.elim) (λ_ _ _ h=>h.elim) (λ_ h=>by cases h);have lC:∀ t c,fO t c->Fs t c/\¬ cq c:=by
    intro t c aa;by_cases ar:t=p.root
    ·subst ar;rcases (iA c).1 aa with h | h
     ·exact h
     ·exact h.elim
    ·rw [ie t ar] at aa;exact ⟨aa,λer=>ar (bm.eC _ _ _ aa (dq c er))⟩
   cases hA with
   | ref j=>simp [ab.isRef] at j
   | @own _ _ _ _ e us bV _ aV ai mO ah aP av aI =>
    have EC:∀ k,k<(cs.take (n * z)).length->k<cs.length:=λk hk=>by rw [List.length_take] at hk; omega
    have eX:∀ k c,k<(cs.take (n * z)).length->bV k c->cq c:=λk c hk aa=>(aI c).2 (.inr ⟨k,EC k hk,aa⟩);have iw:Hand w I (fP w T) fO (cs.take (n * z)) (us.take (n * z)) bV:=by
     refine ⟨by simp [ai],λk x u j hu=>?_,λJ k c aj hk=>aP J k c (EC J aj) (EC k hk),λk t c hk aa aS=>(lC t c aS).2 (eX k c hk aa),λk c hk aa=>bm.bk _ c (dq c (eX k c hk aa))⟩;rw [List.getElem?_take] at j hu
     split at j
     ·rename_i dV; rw [if_pos dV] at hu; exact ah k x u j hu
     ·cases j
    have lV:=X' aV aA;obtain ⟨b3,jx,aB,a2,a3⟩:=Take.node (g1:=cp g p .dead) (Fs:=Fs) (B:=λc=>(Value.slice a n cap).ownBlock=some c) (H0:=du 0) (X:=.own z n cs') (v0:=.slice a n cap) iY iw
     (λc aa=>by
      have er:cq c:=(aI c).2 (.inl (by rw [<- aa]; exact O5));exact ⟨⟨_,dq c er⟩,λt aS=>(lC t c aS).2 er,λk hk jN=>av k c (EC k hk) jN (by rw [<- aa]; exact O5),bm.bk _ c (dq c er)⟩)
     (λc aa=>by
      rcases aa with ⟨t,h⟩ | ⟨k,hk,h⟩
      ·exact .inl ⟨t,(lC t c h).1⟩
      ·exact .inl ⟨_,dq c (eX k c hk h)⟩)
     hH.tail (R.vg hH) gj fX (λyu hg h6 kD=>by
      refine .own lV (by rw [t1.length]; simp [ai]) (λk u hu=>?_) hg h6 (λk c hk aa h=>kD k c hk aa h) λc=>Iff.rfl;rw [List.getElem?_take] at hu
      split at hu
      ·exact mO k u hu
      ·cases hu)
    exact ⟨b3,jx,aB,a2,λc aa=>ln.head (a3 c aa)⟩
 | @bC g g1 g' z n m t q cs new cs' xs xs' ar au a7 t1 _ gj fX =>
  intro Fs vs du bm hH;cases vs with
  | nil=>have:=hH.len; simp at this
  | cons v vs =>
   obtain ⟨a,iU,cap,h1,rfl,aK⟩:=(hH.rel 0 _ v rfl rfl).mX;obtain ⟨v0,jq,fW⟩:=bm.rel t _ ar;simp only [dW,jq,walk,Option.some.injEq] at h1;subst h1;obtain ⟨bv,e,cd,us,news,fW⟩:=fW.vD;have a_:iU=n+m:=by
    obtain ⟨_,bH⟩:=fW.nu;rcases bH with ⟨bH,aO⟩ | ⟨_,_,_,bH,_⟩
    ·cases bH; omega
    ·cases bH; rfl
   subst a_;obtain ⟨Q5,HU,gn,fS⟩:=bm.kill t;have IK:bt (cp g ⟨t,[]⟩ .dead) q=some (.own z n cs):=by rw [FB (by simpa using a7)]; exact au
   obtain ⟨qx,cq,gH,hA,dq,kO⟩:=HU.part IK (by simp);obtain ⟨b1,mM,bu,rfl⟩:=fW.ko;rw [bu] at gH;cases gH;obtain ⟨fO,iY,iA,ie⟩:=kO .dead ct (.dead λ_ h=>h) (λ_ h=>h.elim) (λ_ h=>h.elim) (λ_ _ _ h=>h.elim) (λ_ h=>by cases h);have p7:∀ c,cq c->Fs q.root c:=λc aa=>by have:=dq c aa; rwa [fS _ a7] at this
   have lC:∀ s c,fO s c->Fs s c/\¬ cq c/\s≠t:=by
    intro s c aa;have bR:s≠t:=by
     rintro rfl;by_cases vr:s=q.root
     ·exact a7 vr.symm
     ·rw [ie s vr] at aa; exact gn c aa
    by_cases az:s=q.root
    ·subst az;rcases (iA c).1 aa with h | h
     ·exact ⟨by have:=h.1; rwa [fS _ a7] at this,h.2,bR⟩
     ·exact h.elim
    ·rw [ie s az,fS s bR] at aa;exact ⟨aa,λer=>az (bm.eC _ _ _ aa (p7 c er)),bR⟩
   cases hA with
   | ref j=>simp [ab.isRef] at j
   | @own _ _ _ _ b_ iP bV _ aV ai mO ah aP av aI =>
    have:=J6 aV fW.iZ;subst this;have eX:∀ k c,k<cs.length->bV k c->cq c:=λk c hk aa=>(aI c).2 (.inr ⟨k,hk,aa⟩);have iw:Hand w I (fP w T) fO (cs++new) (iP++news) (λk=>if k<cs.length then bV k else ct):=by
     refine ⟨by simp [ai,fW.ai],λk x u j hu=>?_,λJ k c aj hk aa e_=>?_,λk s c hk aa aS=>?_,λk c hk aa=>?_⟩
     ·by_cases dV:k<cs.length
      ·rw [List.getElem?_append_left dV] at j;rw [List.getElem?_append_left (by omega)] at hu;simpa [dV] using ah k x u j hu
      ·rw [List.getElem?_append_right (by omega)] at j;rw [List.getElem?_append_right (by omega),<- ai] at hu;simpa [dV] using fW.ah _ x u j hu
     ·by_cases eY:J<cs.length <;> by_cases dV:k<cs.length <;> simp [eY,dV,ct] at aa e_;exact aP J k c eY dV aa e_
     ·by_cases dV:k<cs.length <;> simp [dV,ct] at aa;exact (lC s c aS).2.1 (eX k c dV aa)
     ·by_cases dV:k<cs.length <;> simp [dV,ct] at aa;exact bm.bk _ c (p7 c (eX k c dV aa))
    obtain ⟨b3,jx,aB,a2,a3⟩:=Take.node (g1:=cp (cp g ⟨t,[]⟩ .dead) q .dead) (Fs:=Fs) (B:=λc=>(Value.slice a (n+m) cap).ownBlock=some c) (H0:=du 0) (X:=.own z (n+m) cs') (v0:=.slice a (n+m) cap) iY iw
     (λc aa=>by
      by_cases p_:(Value.slice b1 n mM).ownBlock=some c
      ·have er:cq c:=(aI c).2 (.inl p_);refine ⟨⟨_,p7 c er⟩,λs aS=>(lC s c aS).2.1 er,λk hk jN=>?_,bm.bk _ c (p7 c er)⟩;by_cases dV:k<cs.length <;> simp [dV,ct] at jN;exact av k c dV jN p_
      ·have ED:Fs t c:=(fW.aI c).2 ⟨aa,p_⟩;refine ⟨⟨_,ED⟩,λs aS=>(lC s c aS).2.2 (bm.eC _ _ _ (lC s c aS).1 ED),λk hk jN=>?_,bm.bk _ c ED⟩;by_cases dV:k<cs.length <;> simp [dV,ct] at jN;exact a7 (bm.eC _ _ _ (p7 c (eX k c dV jN)) ED))
     (λc aa=>by
      rcases aa with ⟨s,h⟩ | ⟨k,hk,h⟩
      ·exact .inl ⟨s,(lC s c h).1⟩
      ·by_cases dV:k<cs.length <;> simp [dV,ct] at h;exact .inl ⟨_,p7 c (eX k c dV h)⟩)
     hH.tail (R.vg hH) gj fX (λyu hg h6 kD=>by
      refine .own fW.nu (by rw [t1.length]; simp [ai,fW.ai]) (λk u hu=>?_) hg h6 (λk c hk aa h=>kD k c hk aa h) λc=>Iff.rfl;by_cases dV:k<iP.length
      ·rw [List.getElem?_append_left dV] at hu; exact mO k u hu
      ·rw [List.getElem?_append_right (by omega)] at hu; exact fW.h1 _ u hu)
    exact ⟨b3,jx,aB,a2,λc aa=>ln.head (a3 c aa)⟩
 | @zG g g1 g' z n m t q2 m2 t2 q cs new zC cs' xs xs' ar NS aA au a7 qR WB t1 _ gj fX =>
  subst aA;intro Fs vs du bm hH;cases vs with
  | nil=>have:=hH.len; simp at this
  | cons v vs =>
   obtain ⟨a,iU,cap,h1,rfl,aK⟩:=(hH.rel 0 _ v rfl rfl).mX;obtain ⟨v0,jq,fW⟩:=bm.rel t _ ar;simp only [dW,jq,walk,Option.some.injEq] at h1;subst h1;obtain ⟨bv,e,cd,us,news,fW⟩:=fW.vD;have a_:iU=q2+m2+m:=by
    obtain ⟨_,bH⟩:=fW.nu;rcases bH with ⟨bH,aO⟩ | ⟨_,_,_,bH,_⟩
    ·cases bH; omega
    ·cases bH; rfl
   subst a_;obtain ⟨v2,zs,mm⟩:=bm.rel t2 _ NS;obtain ⟨LX,b_,tL,Z1,JT,mm⟩:=mm.vD;have ko:bv=v2:=by
    obtain ⟨aB,L9,cu,rfl⟩:=fW.ko;simp only [dW,zs,walk,Option.some.injEq] at cu;exact cu.symm
   subst ko;have k_:us=Z1++JT:=J6 fW.iZ mm.nu;subst k_;obtain ⟨aam,US,VX,Is⟩:=bm.kill t;obtain ⟨Q5,HU,gn,fS⟩:=US.kill t2;have IK:bt (cp (cp g ⟨t,[]⟩ .dead) ⟨t2,[]⟩ .dead) q=some (.own z q2 cs):=by rw [FB (by simpa using qR),FB (by simpa using a7)]; exact au
   obtain ⟨qx,cq,gH,hA,dq,kO⟩:=HU.part IK (by simp);obtain ⟨b1,mM,bu,rfl⟩:=mm.ko;rw [bu] at gH;cases gH;obtain ⟨fO,iY,iA,ie⟩:=kO .dead ct (.dead λ_ h=>h) (λ_ h=>h.elim) (λ_ h=>h.elim) (λ_ _ _ h=>h.elim) (λ_ h=>by cases h);have p7:∀ c,cq c->Fs q.root c:=λc aa=>by have:=dq c aa; rwa [fS _ qR,Is _ a7] at this
   have lC:∀ s c,fO s c->Fs s c/\¬ cq c/\s≠t/\s≠t2:=by
    intro s c aa;have oM:s≠t2:=by
     rintro rfl;by_cases vr:s=q.root
     ·exact qR vr.symm
     ·rw [ie s vr] at aa; exact gn c aa
    have bR:s≠t:=by
     rintro rfl;by_cases vr:s=q.root
     ·exact a7 vr.symm
     ·rw [ie s vr,fS s oM] at aa; exact VX c aa
    by_cases az:s=q.root
    ·subst az;rcases (iA c).1 aa with h | h
     ·exact ⟨by have:=h.1; rwa [fS _ qR,Is _ a7] at this,h.2,bR,oM⟩
     ·exact h.elim
    ·rw [ie s az,fS s oM,Is s bR] at aa;exact ⟨aa,λer=>az (bm.eC _ _ _ aa (p7 c er)),bR,oM⟩
   cases hA with
   | ref j=>simp [ab.isRef] at j
   | @own _ _ _ _ fC iP bV _ aV ai mO ah aP av aI =>
    have:=J6 aV mm.iZ;subst this;have eX:∀ k c,k<cs.length->bV k c->cq c:=λk c hk aa=>(aI c).2 (.inr ⟨k,hk,aa⟩);have iw:Hand w I (fP w T) fO (cs++zC++new) (iP++JT++news) (λk=>if k<cs.length then bV k else ct):=by
     have gb:=mm.ai;have B_:=fW.ai;refine ⟨by simp [ai,gb,B_],λk x u j hu=>?_,λJ k c aj hk aa e_=>?_,λk s c hk aa aS=>?_,λk c hk aa=>?_⟩
     ·rw [List.append_assoc] at j hu;by_cases dV:k<cs.length
      ·rw [List.getElem?_append_left dV] at j;rw [List.getElem?_append_left (by omega)] at hu;simpa [dV] using ah k x u j hu
      ·rw [List.getElem?_append_right (by omega)] at j;rw [List.getElem?_append_right (by omega),<- ai] at hu;simp only [dV,if_false];by_cases Ix:k - cs.length<zC.length
       ·rw [List.getElem?_append_left Ix] at j;rw [List.getElem?_append_left (by omega)] at hu;exact mm.ah _ x u j hu
       ·rw [List.getElem?_append_right (by omega)] at j;rw [List.getElem?_append_right (by omega),<- gb] at hu;exact fW.ah _ x u j hu
     ·by_cases eY:J<cs.length <;> by_cases dV:k<cs.length <;> simp [eY,dV,ct] at aa e_;exact aP J k c eY dV aa e_
     ·by_cases dV:k<cs.length <;> simp [dV,ct] at aa;exact (lC s c aS).2.1 (eX k c dV aa)
     ·by_cases dV:k<cs.length <;> simp [dV,ct] at aa;exact bm.bk _ c (p7 c (eX k c dV aa))
    have P8:∀ s c,Fs s c->s=t\/s=t2->(∃ s,Fs s c)/\(∀ s,¬ fO s c)/\(∀ k,k<(cs++zC++new).length->¬ (if k<cs.length then bV k else ct) c)/\¬ I c:=by
     intro s c aa az;refine ⟨⟨_,aa⟩,λcn aS=>?_,λk hk jN=>?_,bm.bk _ c aa⟩
     ·obtain ⟨f1,_,f2,f3⟩:=lC cn c aS;have:=bm.eC _ _ _ f1 aa;rcases az with rfl | rfl
      ·exact f2 this
      ·exact f3 this
     ·by_cases dV:k<cs.length <;> simp [dV,ct] at jN;have:=bm.eC _ _ _ (p7 c (eX k c dV jN)) aa;rcases az with rfl | rfl
      ·exact a7 this
      ·exact qR this
    obtain ⟨b3,jx,aB,a2,a3⟩:=Take.node (g1:=cp (cp (cp g ⟨t,[]⟩ .dead) ⟨t2,[]⟩ .dead) q .dead) (Fs:=Fs) (B:=λc=>(Value.slice a (q2+m2+m) cap).ownBlock=some c) (H0:=du 0) (X:=.own z (q2+m2+m) cs') (v0:=.slice a (q2+m2+m) cap) iY iw
     (λc aa=>by
      by_cases p_:bv.ownBlock=some c
      ·by_cases H7:(Value.slice b1 q2 mM).ownBlock=some c
       ·have er:cq c:=(aI c).2 (.inl H7);refine ⟨⟨_,p7 c er⟩,λs aS=>(lC s c aS).2.1 er,λk hk jN=>?_,bm.bk _ c (p7 c er)⟩;by_cases dV:k<cs.length <;> simp [dV,ct] at jN;exact av k c dV jN H7
       ·exact P8 t2 c ((mm.aI c).2 ⟨p_,H7⟩) (.inr rfl)
      ·exact P8 t c ((fW.aI c).2 ⟨aa,p_⟩) (.inl rfl))
     (λc aa=>by
      rcases aa with ⟨s,h⟩ | ⟨k,hk,h⟩
      ·exact .inl ⟨s,(lC s c h).1⟩
      ·by_cases dV:k<cs.length <;> simp [dV,ct] at h;exact .inl ⟨_,p7 c (eX k c dV h)⟩)
     hH.tail (R.vg hH) gj fX (λyu hg h6 kD=>by
      refine .own fW.nu (by rw [t1.length]; simp [ai,mm.ai,fW.ai]) (λk u hu=>?_) hg h6 (λk c hk aa h=>kD k c hk aa h) λc=>Iff.rfl;rw [List.append_assoc] at hu;by_cases dV:k<iP.length
      ·rw [List.getElem?_append_left dV] at hu; exact mO k u hu
      ·rw [List.getElem?_append_right (by omega)] at hu;by_cases Ix:k - iP.length<JT.length
       ·rw [List.getElem?_append_left Ix] at hu; exact mm.h1 _ u hu
       ·rw [List.getElem?_append_right (by omega)] at hu; exact fW.h1 _ u hu)
    exact ⟨b3,jx,aB,a2,λc aa=>ln.head (a3 c aa)⟩
 | @obj g g1 g' p cs cs' xs xs' au t1 _ gj fX =>
  intro Fs vs du bm hH;cases vs with
  | nil=>have:=hH.len; simp at this
  | cons v vs =>
   obtain ⟨qx,cq,gH,hA,dq,kO⟩:=bm.part au (by simp);obtain ⟨u,ad,h1,af,rfl⟩:=(hH.rel 0 _ v rfl rfl).nB;rw [h1] at gH;cases gH;obtain ⟨fO,iY,iA,ie⟩:=kO .dead ct (.dead λ_ h=>h) (λ_ h=>h.elim) (λ_ h=>h.elim) (λ_ _ _ h=>h.elim) (λ_ h=>by cases h);have lC:∀ t c,fO t c->Fs t c/\¬ cq c:=by
    intro t c aa;by_cases ar:t=p.root
    ·subst ar;rcases (iA c).1 aa with h | h
     ·exact h
     ·exact h.elim
    ·rw [ie t ar] at aa;exact ⟨aa,λer=>ar (bm.eC _ _ _ aa (dq c er))⟩
   cases hA with
   | ref j=>simp [ab.isRef] at j
   | @obj _ b e arr bV _ aV ai mO ah aP av aI az =>
    simp only [addrOf,Option.some.injEq] at af;subst af;have eX:∀ k c,k<cs.length->bV k c->cq c:=λk c hk aa=>(aI c).2 (.inr ⟨k,hk,aa⟩);have iw:Hand w I (fP w T) fO cs arr.toList bV :=
     ⟨by simp [ai],λk x u j hu=>ah k x u j (by simpa using hu),aP,λk t c hk aa aS=>(lC t c aS).2 (eX k c hk aa),λk c hk aa=>bm.bk _ c (dq c (eX k c hk aa))⟩
    obtain ⟨b3,jx,aB,a2,a3⟩:=Take.node (g1:=cp g p .dead) (Fs:=Fs) (B:=λc=>c=b) (H0:=du 0) (X:=.obj cs') (v0:=.pointer (some ⟨b,0,none⟩)) iY iw
     (λc aa=>by
      subst aa;have er:cq c:=(aI c).2 (.inl rfl);exact ⟨⟨_,dq c er⟩,λt aS=>(lC t c aS).2 er,λk hk jN=>av k hk jN,bm.bk _ c (dq c er)⟩)
     (λc aa=>by
      rcases aa with ⟨t,h⟩ | ⟨k,hk,h⟩
      ·exact .inl ⟨t,(lC t c h).1⟩
      ·exact .inl ⟨_,dq c (eX k c hk h)⟩)
     hH.tail (R.vg hH) gj fX (λyu hg h6 kD=>by
      refine .obj aV (by rw [t1.length,ai]) mO (λk x u j hu=>hg k x u j (by simpa using hu)) h6 (λk hk h=>kD k b hk h rfl) (λc=>Iff.rfl) λk J u hk=>az k J u (t1.self k J hk))
    exact ⟨b3,jx,aB,a2,λc aa=>ln.head (a3 c aa)⟩
 | @mp g g1 g' p q xs xs' au t1 _ gj fX =>
  intro Fs vs du bm hH;cases vs with
  | nil=>have:=hH.len; simp at this
  | cons v vs =>
   obtain ⟨qx,cq,gH,hA,dq,kO⟩:=bm.part au (by simp);have hm:=hH.rel 0 _ v rfl rfl;cases hm with
   | ref _ hm _ =>
   obtain ⟨GF,h1,rfl⟩:=hm;rw [h1] at gH;cases gH;obtain ⟨fO,iY,iA,ie⟩:=kO .dead ct (.dead λ_ h=>h) (λ_ h=>h.elim) (λ_ h=>h.elim) (λ_ _ _ h=>h.elim) (λ_ h=>by cases h);have lC:∀ t c,fO t c->Fs t c/\¬ cq c:=by
    intro t c aa;by_cases ar:t=p.root
    ·subst ar;rcases (iA c).1 aa with h | h
     ·exact h
     ·exact h.elim
    ·rw [ie t ar] at aa;exact ⟨aa,λer=>ar (bm.eC _ _ _ aa (dq c er))⟩
   cases hA with
   | ref j=>simp [ab.isRef] at j
   | @mp _ b es clock _ aV a7 aI =>
    have iw:Hand w I (fP w T) fO [] [] (λ_=>ct) :=
     ⟨rfl,λk x u j=>by simp at j,λ_ _ _ _ _ h=>h.elim,λ_ _ _ _ h=>h.elim,λ_ _ _ h=>h.elim⟩
    obtain ⟨b3,jx,aB,a2,a3⟩:=Take.node (g1:=cp g p .dead) (Fs:=Fs) (B:=λc=>c=b) (H0:=du 0) (X:=.mp q) (v0:=.map (some b)) iY iw
     (λc aa=>by
      subst aa;have er:cq c:=(aI c).2 rfl;exact ⟨⟨_,dq c er⟩,λt aS=>(lC t c aS).2 er,λk hk _=>by simp at hk,bm.bk _ c (dq c er)⟩)
     (λc aa=>by
      rcases aa with ⟨t,h⟩ | ⟨k,hk,h⟩
      ·exact .inl ⟨t,(lC t c h).1⟩
      ·exact h.elim)
     hH.tail (R.vg hH) gj fX (λyu hg h6 kD=>by
      refine .mp aV a7 λc=>⟨λh=>h.elim id λ⟨_,hk,_⟩=>by simp at hk,.inl⟩)
    exact ⟨b3,jx,aB,a2,λc aa=>ln.head (a3 c aa)⟩
 | @agg g g1 g' cs cs' xs xs' t1 _ gj fX =>
  intro Fs vs du bm hH;cases vs with
  | nil=>have:=hH.len; simp at this
  | cons v vs =>
   have j:=hH.rel 0 _ v rfl rfl;have aO:=R.vg hH;cases j with
   | ref j=>simp [ab.isRef] at j
   | @agg _ us bV _ ai mO ah aP aI =>
    have eX:∀ k c,k<cs.length->bV k c->du 0 c:=λk c hk aa=>(aI c).2 ⟨k,hk,aa⟩;obtain ⟨b3,jx,aB,a2,a3⟩:=Take.node (g1:=g) (Fs:=Fs) (B:=ct) (H0:=du 0) (X:=.agg cs') (v0:=.agg us) bm
     (⟨by simp [ai],λk x u j hu=>ah k x u j (by simpa using hu),aP,λk t c hk aa=>(aO c (eX k c hk aa)).1 t,λk c hk aa=>hH.bk 0 c (by simp) (eX k c hk aa)⟩:Hand w I (fP w T) Fs cs us.toList bV)
     (λc aa=>aa.elim)
     (λc aa=>by
      rcases aa with h | ⟨k,hk,h⟩
      ·exact .inl h
      ·exact .inr (eX k c hk h))
     hH.tail aO gj fX (λyu hg h6 kD=>by
      refine .agg (by rw [t1.length,ai]) mO (λk x u j hu=>hg k x u j (by simpa using hu)) h6 λc=>⟨λh=>h.elim (λh=>h.elim) id,.inr⟩)
    exact ⟨b3,jx,aB,a2,λc aa=>ln.head (a3 c aa)⟩
 | @bQ g g1 g' cs cs' xs xs' t1 _ gj fX =>
  intro Fs vs du bm hH;cases vs with
  | nil=>have:=hH.len; simp at this
  | cons v vs =>
   have j:=hH.rel 0 _ v rfl rfl;have aO:=R.vg hH;cases j with
   | ref j=>simp [ab.isRef] at j
   | @bQ _ us bV _ ai ah aP aI =>
    have eX:∀ k c,k<cs.length->bV k c->du 0 c:=λk c hk aa=>(aI c).2 ⟨k,hk,aa⟩;obtain ⟨b3,jx,aB,a2,a3⟩:=Take.node (g1:=g) (Fs:=Fs) (B:=ct) (H0:=du 0) (X:=.bQ cs') (v0:=.tuple us) bm
     (⟨by simp [ai],λk x u j hu=>ah k x u j (by simpa using hu),aP,λk t c hk aa=>(aO c (eX k c hk aa)).1 t,λk c hk aa=>hH.bk 0 c (by simp) (eX k c hk aa)⟩:Hand w I (fP w T) Fs cs us.toList bV)
     (λc aa=>aa.elim)
     (λc aa=>by
      rcases aa with h | ⟨k,hk,h⟩
      ·exact .inl h
      ·exact .inr (eX k c hk h))
     hH.tail aO gj fX (λyu hg h6 kD=>by
      refine .bQ (by rw [t1.length,ai]) (λk x u j hu=>hg k x u j (by simpa using hu)) h6 λc=>⟨λh=>h.elim (λh=>h.elim) id,.inr⟩)
    exact ⟨b3,jx,aB,a2,λc aa=>ln.head (a3 c aa)⟩
end
end Go.Own
namespace Go.Own
open Go
set_option linter.unusedSectionVars false
variable [cH]
inductive kl (mG:ab->Prop):ab->Prop
 | bj {x:ab}(h:cF x):kl mG x
 | ref {x:ab}(j:x.isRef=true) (h:mG x):kl mG x
 | own {z n:Nat}{cs:List ab}(h:∀ x∈cs,kl mG x):kl mG (.own z n cs)
 | obj {cs:List ab}(h:∀ x∈cs,kl mG x):kl mG (.obj cs)
 | agg {cs:List ab}(h:∀ x∈cs,kl mG x):kl mG (.agg cs)
 | bQ {cs:List ab}(h:∀ x∈cs,kl mG x):kl mG (.bQ cs)
 | ds {fn:Fn}{a b:List ab}(h1:∀ x∈a,kl mG x) (af:∀ x∈b,kl mG x):kl mG (.ds fn a b)
def Ab:ab->Option Place
 | .ptr p _=>some p
 | .bf _ p _=>some p
 | .sub _ p _ _=>some p
 | .bC _ p _ _ _=>some p
 | .hq p=>some p
 | _=>none
def Clear (p:Place) (k m:Nat) (r:ab):Prop:=∀ q,Ab r=some q->q.root=p.root->∀ J cW,q.path=p.path++J::cW->J<k\/k+m<=J
def eP {α:Type}(l:List α) (k:Nat) (c:List α):List α:=l.take k++c++l.drop (k+c.length)
theorem rj {α:Type}{l:List α}{k:Nat}{c:List α}(h:k+c.length<=l.length):(eP l k c).length=l.length:=by
 simp [eP]; omega
theorem ri {α:Type}{l:List α}{k:Nat}{c:List α}(h:k+c.length<=l.length) (J:Nat):(eP l k c)[J]?=if k<=J/\J<k+c.length then c[J - k]? else l[J]?:=by
 unfold eP;rw [List.append_assoc];by_cases h1:J<k
 ·rw [List.getElem?_append_left (by simp; omega),List.getElem?_take,if_pos h1,if_neg (by omega)]
 ·rw [List.getElem?_append_right (by simp; omega)];have:(l.take k).length=k:=by simp; omega
  rw [this];by_cases af:J<k+c.length
  ·rw [List.getElem?_append_left (by omega),if_pos ⟨by omega,af⟩]
  ·rw [List.getElem?_append_right (by omega),List.getElem?_drop,if_neg (by omega)];congr 1; omega
theorem Zn {α:Type}{l:List α}{k:Nat}{c:List α}{m:Nat}(h:k+c.length<=m) (hm:m<=l.length):(eP l k c).take m=eP (l.take m) k c:=by
 have h1:k+c.length<=(l.take m).length:=by rw [List.length_take]; omega
 apply List.ext_getElem?;intro J;rw [List.getElem?_take,ri h1,ri (l:=l) (by omega),List.getElem?_take];by_cases aj:J<m
 ·rw [if_pos aj,if_pos aj]
 ·rw [if_neg aj,if_neg aj,if_neg (by omega)]
def ab.eP (x:ab) (k:Nat) (c:List ab):ab :=
 match x with
 | .own z n cs=>.own z n (Own.eP cs k c)
 | .obj cs=>.obj (Own.eP cs k c)
 | x=>x
section
variable {w:World}{I:a8}{T:Array Value}{g:aL}{Fs:Nat->a8}
theorem R.C6 {ρ:ab->Value->Prop}{mG:ab->Prop}{x:ab}{v:Value}{F:a8}(h:R w I ρ x v F):kl mG x->R w I (λr u=>ρ r u/\mG r) x v F:=by
 induction h with
 | lit h aI=>exact λ_=>.lit h aI
 | aT aI=>exact λ_=>.aT aI
 | dead aI=>exact λ_=>.dead aI
 | l6 aI=>exact λ_=>.l6 aI
 | @ref x _ _ j h aI =>
  intro hk;refine .ref j ⟨h,?_⟩ aI;cases hk with
  | ref _ h=>exact h
  | bj h=>cases h <;> simp [ab.isRef] at j
  | _=>simp [ab.isRef] at j
 | hB aI=>exact λ_=>.hB aI
 | mp aV au aI=>exact λ_=>.mp aV au aI
 | eV aV h1 aI=>exact λ_=>.eV aV h1 aI
 | imp aI bb aV au=>exact λ_=>.imp aI bb aV au
 | bk aI k6 bb az ai h1 aa ah aM =>
  intro hk;cases hk with
  | ref j=>simp [ab.isRef] at j
  | bj h=>cases h with | bk h=>exact .bk aI k6 bb az ai h1 aa λk x j=>aM k x j (.bj (h x (List.mem_of_getElem? j)))
 | cK aI bb az h1 aa ah aM =>
  intro hk;cases hk with
  | ref j=>simp [ab.isRef] at j
  | bj h=>cases h with | cK h=>exact .cK aI bb az h1 aa λk x j=>aM k x j (.bj (h x (List.mem_of_getElem? j)))
 | own aV ai h1 ah aP av aI aM =>
  intro hk;refine .own aV ai h1 (λk x u j hu=>aM k x u j hu ?_) aP av aI;cases hk with
  | ref j=>simp [ab.isRef] at j
  | bj h=>cases h with | own h=>exact .bj (h x (List.mem_of_getElem? j))
  | own h=>exact h x (List.mem_of_getElem? j)
 | obj aV ai h1 ah aP av aI az aM =>
  intro hk;refine .obj aV ai h1 (λk x u j hu=>aM k x u j hu ?_) aP av aI az;cases hk with
  | ref j=>simp [ab.isRef] at j
  | bj h=>cases h with | obj h=>exact .bj (h x (List.mem_of_getElem? j))
  | obj h=>exact h x (List.mem_of_getElem? j)
 | agg ai h1 ah aP aI aM =>
  intro hk;refine .agg ai h1 (λk x u j hu=>aM k x u j hu ?_) aP aI;cases hk with
  | ref j=>simp [ab.isRef] at j
  | bj h=>cases h with | agg h=>exact .bj (h x (List.mem_of_getElem? j))
  | agg h=>exact h x (List.mem_of_getElem? j)
 | bQ ai ah aP aI aM =>
  intro hk;refine .bQ ai (λk x u j hu=>aM k x u j hu ?_) aP aI;cases hk with
  | ref j=>simp [ab.isRef] at j
  | bj h=>cases h with | bQ h=>exact .bj (h x (List.mem_of_getElem? j))
  | bQ h=>exact h x (List.mem_of_getElem? j)
 | @ds fn first caps v1 v2 F aI h1 af iA ie gj fX =>
  intro hk;have:(∀ x∈first,kl mG x)/\∀ x∈caps,kl mG x:=by
   cases hk with
   | ref j=>simp [ab.isRef] at j
   | bj h=>cases h with | ds h1 af=>exact ⟨λx j=>.bj (h1 x j),λx j=>.bj (af x j)⟩
   | ds h1 af=>exact ⟨h1,af⟩
  exact .ds aI h1 af (λk x u j hu=>gj k x u j hu (this.1 x (List.mem_of_getElem? j))) (λk x u j hu=>fX k x u j hu (this.2 x (List.mem_of_getElem? j)))
theorem jz.store (bm:jz w I T g Fs) {p:Place}{nd:ab}{z n:Nat}{cs:List ab}(au:bt g p=some nd) (fq:nd=.own z n cs\/nd=.obj cs) {k:Nat}{cs':List ab}(hk:k+cs'.length<=cs.length)
  {iP:List Value}{du:Nat->a8}(hH:Hand w I (fP w T) Fs cs' iP du) (mS:∀ x∈cs',cF x) (lU:nd=.obj cs->qF cs') (gy:∀ (J:Nat) (u:Value),iP[J]?=some u->u.oneCell'=true)
  {g2:aL}(En:∀ t x,g2 t=some x->cp g p (nd.eP k cs') t=some x)
  (sF:∀ t x,g2 t=some x->∀ y,g t=some y->kl (λr=>gZ g r/\Clear p k cs'.length r/\gZ g2 r) y) (mv:∀ t z q n m new,g2 t≠some (.bC z q n m new)) (mV:g2 p.root≠none) {b:Nat}{v:Value}
  (hv:dW w T p=some v) (av:addrOf v=some ⟨b,0,none⟩) {e:TypeId}{arr:Array Value}(lD:w.heap[b]?=some (.cells arr e (0,0))) :
  ∃ b3,cG (w.setRow b (eP arr.toList k iP).toArray) I T g2 b3/\∀ t c,b3 t c->Fs t c\/∃ J,J<cs'.length/\du J c:=by
 have lb:∀ z q n m new,nd≠.bC z q n m new:=by rcases fq with rfl | rfl <;> simp
 have hlen:=hH.len;have sf:∀ c,c≠b->(w.setRow b (eP arr.toList k iP).toArray).heap[c]?=w.heap[c]?:=λc aa=>setRow_other w b c _ aa;have KP:(w.setRow b (eP arr.toList k iP).toArray).heap[b]?=some (.cells (eP arr.toList k iP).toArray e (0,0)):=setRow_heap w b arr _ e (0,0) lD;have adF:(w.setRow b (eP arr.toList k iP).toArray).heap.size=w.heap.size:=by simp
 generalize xa:w.setRow b (eP arr.toList k iP).toArray=w' at *
 -- the slot of the node
 obtain ⟨eI,jF⟩:∃ eI,g p.root=some eI:=by
  unfold bt at au;cases j:g p.root with
  | none=>rw [j] at au; cases au
  | some x=>exact ⟨x,rfl⟩
 have rO:eI.at p.path=some nd:=by simpa [bt,jF] using au
 obtain ⟨v0,jq,fW⟩:=bm.rel _ _ jF;have HK:=fW.hb (by rintro z q n m new rfl; exact lb _ _ _ _ _ (ab.tE rO).2);have mu:kl (λr=>gZ g r/\Clear p k cs'.length r/\gZ g2 r) eI:=by
  cases af:g2 p.root with
  | none=>exact absurd af mV
  | some y=>exact sF _ _ af _ jF
 let K6:ab->Value->Prop:=λr u=>fP w T r u/\gZ g r/\Clear p k cs'.length r/\gZ g2 r;have Bf:R w I K6 eI v0 (Fs p.root):=HK.C6 mu;obtain ⟨ik,cq,hw,dE,dq,eH,kO⟩:=R.focus p.path Bf rO;have WK:ik=v:=by simp only [dW,jq,hw,Option.some.injEq] at hv; exact hv
 subst WK;have oG:cq b:=dE.E_ (z:=z) (n:=n) fq av;have same:∀ t c,Fs t c->c≠b->w'.heap[c]?=w.heap[c]?:=λ_ c _ aa=>sf c aa;have y8:∀ c,I c->w'.heap[c]?=w.heap[c]?:=λc aa=>sf c λe=>bm.bk _ b (dq b oG) (e ▸ aa);have NH:∀ t,t≠p.root->¬ Fs t b:=λt ar h=>ar (bm.eC _ _ _ h (dq b oG))
 -- ways that are clear of the cells
 obtain ⟨Z7,Z8⟩:=eH w' λc aa aA=>sf c λe=>aA (e ▸ oG);have Oi:∀ (ρ':ab->Value->Prop),(∀ x v,K6 x v->ρ' x v)->(∃ cY,R w' I ρ' (nd.eP k cs') ik cY/\∀ c,cY c->cq c\/∃ J,J<cs'.length/\du J c)/\∀ J cW y,(J<k\/k+cs'.length<=J)->nd.at (J::cW)=some y->walk w' ik (J::cW)=walk w ik (J::cW):=by
  intro ρ' lG;have new:∀ (J:Nat) (x:ab) (u:Value),cs'[J]?=some x->iP[J]?=some u->R w' I ρ' x u (du J):=by
   intro J x u j hu;have aj:J<cs'.length:=(List.getElem?_eq_some_iff.1 j).1;have:=(hH.rel J x u j hu).bj (ρ':=ρ') (mS x (List.mem_of_getElem? j));exact this.frame y8 (λ_ h=>h) (λ_ _ h=>h) λc aa=>sf c λe=>hH.off J p.root b aj (e ▸ aa) (dq b oG)
  rcases fq with rfl | rfl
  ·cases dE with
   | ref j=>simp [ab.isRef] at j
   | @own _ _ _ _ b_ us bV _ aV ai h1 ah aP jn aI =>
    obtain ⟨k_,bH⟩:=aV;rcases bH with ⟨rfl,_⟩ | ⟨dz,cap,cur,rfl,q9,jY,xW,vX,Aa,xX⟩
    ·simp [addrOf] at av
    ·simp only [addrOf,Option.some.injEq,Addr.mk.injEq,and_true] at av;subst av;rw [lD] at jY;cases jY;have Nj:n * z<=arr.toList.length:=by
      rw [<- k_,<- xX,List.length_take] ; simp; omega
     have adg:us.length=cs.length:=ai.symm;have mT:w'.ownsRow 0 e z (.slice (some ⟨dz,0,none⟩) n cap) n (eP us k iP):=by
      refine ⟨by rw [rj (by omega),k_],.inr ⟨dz,cap,_,rfl,q9,KP,xW,vX,?_,?_⟩⟩
      ·rw [List.size_toArray,rj (by omega),Array.length_toList,Aa]
      ·show (eP arr.toList k iP).take (n * z)=_;rw [Zn (by omega) Nj,xX]
     have MY:∀ J,J<cs.length->¬ bV J dz:=λJ aj h=>jn J dz aj h rfl;have eX:∀ J c,J<cs.length->bV J c->Fs p.root c:=λJ c aj aa=>dq c ((aI c).2 (.inr ⟨J,aj,aa⟩));refine ⟨⟨_,.own (Fs:=λJ=>if k<=J/\J<k+cs'.length then du (J - k) else bV J) mT (by rw [rj hk,rj (by omega),ai]) (λJ u hu=>?_) (λJ x u j hu=>?_) (λi J c hi aj aa e_=>?_) (λJ c aj aa vv=>?_) (λc=>Iff.rfl),λc aa=>?_⟩,λJ cW y aj al=>?_⟩
     ·rw [ri (by omega)] at hu
      split at hu
      ·exact gy _ u hu
      ·exact h1 J u hu
     ·rw [ri hk] at j;rw [ri (by omega),<- hlen] at hu;by_cases fI:k<=J/\J<k+cs'.length
      ·rw [if_pos fI] at j hu;simpa [fI] using new (J - k) x u j hu
      ·rw [if_neg fI] at j hu;have eY:J<cs.length:=(List.getElem?_eq_some_iff.1 j).1;rw [if_neg fI];exact (ah J x u j hu).frame y8 (λ_ h=>h) lG λc aa=>sf c λe=>MY J eY (e ▸ aa)
     ·rw [rj hk] at hi aj;by_cases h1:k<=i/\i<k+cs'.length <;> by_cases af:k<=J/\J<k+cs'.length <;> simp only [h1,af,if_false] at aa e_
      ·have:=hH.eC (i - k) (J - k) c (by omega) (by omega) (by simpa using aa) (by simpa using e_);omega
      ·exact absurd (eX J c aj e_) (hH.off (i - k) _ c (by omega) (by simpa using aa))
      ·exact absurd (eX i c hi aa) (hH.off (J - k) _ c (by omega) (by simpa using e_))
      ·exact aP i J c hi aj aa e_
     ·rw [rj hk] at aj;by_cases h1:k<=J/\J<k+cs'.length
      ·rw [if_pos h1] at aa;simp only [Value.ownBlock,Option.some.injEq] at vv;subst vv;exact hH.off (J - k) p.root dz (by omega) aa (dq dz oG)
      ·rw [if_neg h1] at aa; exact jn J c aj aa vv
     ·rcases aa with aa | ⟨J,aj,aa⟩
      ·exact .inl ((aI c).2 (.inl aa))
      ·rw [rj hk] at aj;by_cases h1:k<=J/\J<k+cs'.length
       ·rw [if_pos h1] at aa; exact .inr ⟨J - k,by omega,aa⟩
       ·rw [if_neg h1] at aa; exact .inl ((aI c).2 (.inr ⟨J,aj,aa⟩))
     ·obtain ⟨c,oI,aa⟩:=ab.u9 al;simp only [ab.kids] at oI;have eY:J<cs.length:=(List.getElem?_eq_some_iff.1 oI).1;have hu:us[J]?=some us[J]:=List.getElem?_eq_getElem (by omega);have nr:child w (.slice (some ⟨dz,0,none⟩) n cap) J=some us[J]:=by
       refine oV (e:=e) (z:=z) (n:=n) (us:=us) ⟨k_,.inr ⟨dz,cap,arr,rfl,q9,lD,xW,vX,Aa,xX⟩⟩ hu
      have Bt:child w' (.slice (some ⟨dz,0,none⟩) n cap) J=some us[J]:=by
       refine oV mT ?_;rw [ri (by omega),if_neg (by omega)]; exact hu
      have:=R.pN (w':=w') cW (ah J c _ oI hu) aa λc aa=>sf c λe=>MY J eY (e ▸ aa);simp [walk,nr,Bt,this]
  ·cases dE with
   | ref j=>simp [ab.isRef] at j
   | @obj _ dz b_ jh bV _ aV ai h1 ah aP jn aI az =>
    simp only [addrOf,Option.some.injEq,Addr.mk.injEq,and_true] at av;subst av;rw [lD] at aV;cases aV;have tT:cs.length=arr.toList.length:=by simp [ai]
    have eX:∀ J c,J<cs.length->bV J c->Fs p.root c:=λJ c aj aa=>dq c ((aI c).2 (.inr ⟨J,aj,aa⟩));refine ⟨⟨_,.obj (Fs:=λJ=>if k<=J/\J<k+cs'.length then du (J - k) else bV J) KP (by rw [rj hk,List.size_toArray,rj (by omega),tT]) (λJ u hu=>?_) (λJ x u j hu=>?_) (λi J c hi aj aa e_=>?_) (λJ aj aa=>?_) (λc=>Iff.rfl) (λi J u hi hu=>?_),λc aa=>?_⟩,λJ cW y aj al=>?_⟩
    ·rw [List.getElem?_toArray,ri (by omega)] at hu
     split at hu
     ·exact gy _ u hu
     ·exact h1 J u (by simpa using hu)
    ·rw [ri hk] at j;rw [List.getElem?_toArray,ri (by omega),<- hlen] at hu;by_cases fI:k<=J/\J<k+cs'.length
     ·rw [if_pos fI] at j hu;simpa [fI] using new (J - k) x u j hu
     ·rw [if_neg fI] at j hu;have eY:J<cs.length:=(List.getElem?_eq_some_iff.1 j).1;rw [if_neg fI];exact (ah J x u j (by simpa using hu)).frame y8 (λ_ h=>h) lG λc aa=>sf c λe=>jn J eY (e ▸ aa)
    ·rw [rj hk] at hi aj;by_cases h1:k<=i/\i<k+cs'.length <;> by_cases af:k<=J/\J<k+cs'.length <;> simp only [h1,af,if_false] at aa e_
     ·have:=hH.eC (i - k) (J - k) c (by omega) (by omega) (by simpa using aa) (by simpa using e_);omega
     ·exact absurd (eX J c aj e_) (hH.off (i - k) _ c (by omega) (by simpa using aa))
     ·exact absurd (eX i c hi aa) (hH.off (J - k) _ c (by omega) (by simpa using e_))
     ·exact aP i J c hi aj aa e_
    ·rw [rj hk] at aj;by_cases h1:k<=J/\J<k+cs'.length
     ·rw [if_pos h1] at aa;exact hH.off (J - k) p.root dz (by omega) aa (dq dz oG)
     ·rw [if_neg h1] at aa; exact jn J aj aa
    ·rw [ri hk] at hi;rw [List.getElem?_toArray,ri (by omega),<- hlen] at hu;by_cases Eo:k<=i/\i<k+cs'.length
     ·rw [if_pos Eo] at hi; exact absurd hi (lU rfl _ _)
     ·rw [if_neg Eo] at hi hu; exact az i J u hi (by simpa using hu)
    ·rcases aa with aa | ⟨J,aj,aa⟩
     ·exact .inl ((aI c).2 (.inl aa))
     ·rw [rj hk] at aj;by_cases h1:k<=J/\J<k+cs'.length
      ·rw [if_pos h1] at aa; exact .inr ⟨J - k,by omega,aa⟩
      ·rw [if_neg h1] at aa; exact .inl ((aI c).2 (.inr ⟨J,aj,aa⟩))
    ·obtain ⟨c,oI,aa⟩:=ab.u9 al;simp only [ab.kids] at oI;have eY:J<cs.length:=(List.getElem?_eq_some_iff.1 oI).1;have hu:arr[J]?=some arr[J]:=Array.getElem?_eq_getElem (by omega);have nr:child w (.pointer (some ⟨dz,0,none⟩)) J=some arr[J]:=by simp [child,World.cell?,lD,hu]
     have Bt:child w' (.pointer (some ⟨dz,0,none⟩)) J=some arr[J]:=by
      have aK:(eP arr.toList k iP)[J]?=some arr[J]:=by
       rw [ri (by omega),if_neg (by omega)]; simp
      simp [child,World.cell?,KP,aK]
     have:=R.pN (w':=w') cW (ah J c _ oI hu) aa λc aa=>sf c λe=>jn J eY (e ▸ aa);simp [walk,nr,Bt,this]
 have val:∀ q y,bt g q=some y->(q.root=p.root->∀ J cW,q.path=p.path++J::cW->J<k\/k+cs'.length<=J)->dW w' T q=dW w T q:=by
  intro q y a7 hJ;by_cases ah:q.root=p.root
  ·have fG:eI.at q.path=some y:=by simpa [bt,ah,jF] using a7
   rcases Z8 q.path y fG with ⟨cW,dP⟩ | h
   ·have xa:walk w' v0 q.path=walk w v0 q.path:=by
     rw [dP,Di,Di,Z7,hw];simp only [Option.bind_some];cases cW with
     | nil=>rfl
     | cons J cW =>
      rw [dP,ab.GC,rO] at fG;exact (Oi (λ_ _=>True) (λ_ _ _=>trivial)).2 J cW y (hJ ah J cW dP) fG
    simp [dW,ah,jq,xa]
   ·simp [dW,ah,jq,h]
  ·unfold bt at a7;cases j:g q.root with
   | none=>rw [j] at a7; cases a7
   | some x =>
    rw [j] at a7;obtain ⟨u,hu,a1⟩:=bm.rel _ _ j;cases a1 with
    | tree a1 =>
     have:=R.pN (w':=w') q.path a1 a7 λc aa=>sf c λe=>NH _ ah (e ▸ aa);simp [dW,hu,this]
    | bC a1=>simp [dW,hu,(ab.tE a7).1,walk]
 have slot:∀ {q:Place}{x:ab},q.path=[]->g q.root=some x->dW w' T q=dW w T q:=by
  intro q x a7 j;obtain ⟨u,hu,_⟩:=bm.rel _ _ j;simp [dW,a7,walk]
 have refs:∀ r u,K6 r u->dU w' T g2 r u:=by
  rintro r u ⟨h1,af,aK,bu⟩;refine ⟨?_,bu⟩;cases r <;> simp only [fP,gZ] at h1 af ⊢
  case ptr q J=>obtain ⟨y,al,_⟩:=af; rw [val q y al (aK q rfl)]; exact h1
  case bf br q cm =>
   rcases af with ⟨_,_,af,_⟩ | ⟨aO,_,_,_,_,af,_⟩
   ·rw [val q _ af (aK q rfl)]; exact h1
   ·rw [slot aO af]; exact h1
  case sub br q lo cm=>obtain ⟨_,_,af,_⟩:=af; rw [val q _ af (aK q rfl)]; exact h1
  case hq q=>obtain ⟨_,af⟩:=af; rw [val q _ af (aK q rfl)]; exact h1
  case bC br q cm bh cO =>
   rcases af with ⟨_,af⟩ | ⟨aO,_,_,_,_,_,af,_⟩
   ·rw [val q _ af (aK q rfl)]; exact h1
   ·rw [slot aO af]; exact h1
 obtain ⟨⟨Fn,UN,MZ⟩,_⟩:=Oi (dU w' T g2) refs;obtain ⟨cY,HL,pq⟩:=kO w' I (dU w' T g2) _ Fn ⟨y8,λc aa aA=>sf c λe=>aA (e ▸ oG),λ_ h=>h,refs⟩ UN (λc aa e_=>by
  rcases MZ c aa with h | ⟨J,aj,h⟩
  ·exact h
  ·exact absurd e_ (hH.off J _ c aj h)) (λJ h=>by rcases fq with rfl | rfl <;> simp [ab.eP] at h)
 have HB:∀ c,cY c->Fs p.root c\/∃ J,J<cs'.length/\du J c:=by
  intro c aa;rcases (pq c).1 aa with h | h
  ·exact .inl h.1
  ·rcases MZ c h with h | h
   ·exact .inl (dq c h)
   ·exact .inr h
 let b3:Nat->a8:=λt c=>if t=p.root then cY c else g2 t≠none/\Fs t c
 have tR:∀ t c,b3 t c->Fs t c\/∃ J,J<cs'.length/\du J c:=by
  intro t c aa;by_cases ar:t=p.root
  ·simp only [b3,if_pos ar] at aa; rw [ar]; exact HB c aa
  ·simp only [b3,if_neg ar] at aa; exact .inl aa.2
 refine ⟨b3,⟨λt x j=>?_,λt ar c aa=>?_,λt t' c aa e_=>?_,λt c aa hi=>?_,λc aa=>by have:=bm.lt c aa; omega,λt t' z q n m new br cm bh cO h1=>absurd h1 (mv _ _ _ _ _ _),cH.keep bm.hN y8 λ_ h=>h⟩,tR⟩
 ·have fT:=En t x j;by_cases ar:t=p.root
  ·subst ar;have Jd:eI.setAt p.path (nd.eP k cs')=x:=by simpa [cp,jF] using fT
   refine ⟨v0,jq,.tree ?_⟩;have HE:b3 p.root=cY:=by funext c; simp [b3]
   rw [<- Jd,HE]; exact HL
  ·rw [x5 ar] at fT;obtain ⟨u,hu,a1⟩:=bm.rel t x fT;replace a1:=a1.hb (by rintro z q n m new rfl; exact mv _ _ _ _ _ _ j);have HE:b3 t=Fs t:=by
    funext c;exact propext ⟨λh=>by simp only [b3,if_neg ar] at h; exact h.2,λh=>by simp only [b3,if_neg ar]; exact ⟨by rw [j]; simp,h⟩⟩
   refine ⟨u,hu,.tree ?_⟩;rw [HE];exact (a1.C6 (sF t x j x fT)).frame y8 (λ_ h=>h) refs λc aa=>sf c λe=>NH t ar (e ▸ aa)
 ·by_cases ig:t=p.root
  ·exact mV (ig ▸ ar)
  ·simp only [b3,if_neg ig] at aa; exact aa.1 ar
 ·by_cases h1:t=p.root <;> by_cases af:t'=p.root
  ·rw [h1,af]
  ·simp only [b3,if_pos h1] at aa; simp only [b3,if_neg af] at e_;rcases HB c aa with h | ⟨J,aj,h⟩
   ·exact absurd (bm.eC _ _ _ h e_.2) (Ne.symm af)
   ·exact absurd e_.2 (hH.off J _ c aj h)
  ·simp only [b3,if_neg h1] at aa; simp only [b3,if_pos af] at e_;rcases HB c e_ with h | ⟨J,aj,h⟩
   ·exact absurd (bm.eC _ _ _ aa.2 h) h1
   ·exact absurd aa.2 (hH.off J _ c aj h)
  ·simp only [b3,if_neg h1] at aa; simp only [b3,if_neg af] at e_;exact bm.eC _ _ _ aa.2 e_.2
 ·rcases tR t c aa with h | ⟨J,aj,h⟩
  ·exact bm.bk _ c h hi
  ·exact hH.bk J c aj h hi
end
end Go.Own
namespace Go.Own
open Go
set_option linter.unusedSectionVars false
variable [cH]
section
variable {P:Program}{w:World}{I:a8}{T:Array Value}{g:aL}{Fs:Nat->a8}
theorem View.P_ (h:jz w I T g Fs) {x x':ab}(hv:View g x x'):∀ {v:Value}{F:a8},R w I (fP w T) x v F->(∀ c,F c->∃ t,Fs t c)->∀ ρ',R w (λc=>I c\/∃ t,Fs t c) ρ' x' v ct:=by
 induction hv with
 | qm =>
  intro v F a1 aI ρ';have:=a1.r4;subst this;exact .hB λ_ h=>h
 | mp =>
  intro v F a1 aI ρ';cases a1 with
  | ref j=>simp [ab.isRef] at j
  | mp aV au av=>exact .imp (λ_ h=>h) (.inr (aI _ ((av _).2 rfl))) aV au
 | hq au =>
  intro v F a1 aI ρ';cases a1 with
  | ref _ ah _ =>
   obtain ⟨b,av,rfl⟩:=ah;obtain ⟨eh,cq,i_,dE,dq,_⟩:=h.part au (by simp);rw [av] at i_;cases i_;cases dE with
   | ref j=>simp [ab.isRef] at j
   | mp aV au av=>exact .imp (λ_ h=>h) (.inr ⟨_,dq _ ((av _).2 rfl)⟩) aV au
 | self aA h1 af aK bu cu =>
  intro v F a1 aI ρ';refine ((a1.bj aA).nI λc aa=>.inl aa).empty ?_;cases a1 with
  | mp=>exact absurd rfl (cu.1 _)
  | eV=>exact absurd rfl (cu.2 _ _)
  | lit _ aI | aT aI | dead aI | l6 aI | ref _ _ aI | hB aI | bk aI | cK aI | ds aI | imp aI=>exact aI
  | own=>exact absurd rfl (h1 _ _ _)
  | obj=>exact absurd rfl (af _)
  | agg=>exact absurd rfl (aK _)
  | bQ=>exact absurd rfl (bu _)
 | @agg cs cs' ai _ aM =>
  intro v F a1 aI ρ';cases a1 with
  | ref j=>simp [ab.isRef] at j
  | @agg _ vs bV _ hS h1 ah aP lS =>
   refine .agg (Fs:=λ_=>ct) (by rw [ai,hS]) h1 (λk y u al hu=>?_) (λ_ _ _ _ _ h=>h.elim) (λc=>⟨λh=>h.elim,λ⟨_,_,h⟩=>h⟩);have hk:k<cs.length:=by rw [<- ai]; exact (List.getElem?_eq_some_iff.1 al).1
   have j:=List.getElem?_eq_getElem hk;exact aM k _ y j al (ah k _ u j hu) (λc aa=>aI c ((lS c).2 ⟨k,hk,aa⟩)) ρ'
 | @ds fn cs cs' ai _ aM =>
  intro v F a1 aI ρ';cases a1 with
  | ref j=>simp [ab.isRef] at j
  | @ds _ _ _ v1 v2 _ tP h1 af iA ie =>
   refine .ds (λ_ h=>h) h1 (by rw [ai,af]) (λk x u j=>by simp at j) (λk y u al hu=>?_);have hk:k<cs.length:=by rw [<- ai]; exact (List.getElem?_eq_some_iff.1 al).1
   have j:=List.getElem?_eq_getElem hk;exact aM k _ y j al (ie k _ u j hu) (λc aa=>aa.elim) ρ'
 | @own z n cs cs' ai _ aM =>
  intro v F a1 aI ρ';obtain ⟨a,cap,us,bV,rfl,aA,hlen,aR,aa⟩:=a1.zF;cases a with
  | none =>
   have gS:cs=[]:=by
    cases cs with
    | nil=>rfl
    | cons c cs=>obtain ⟨b,av,_⟩:=aa 0 c rfl; cases av
   subst gS;have k7:cs'=[]:=List.eq_nil_of_length_eq_zero (by simpa using ai);subst k7;have k9:n=0:=by
    cases a1 with
    | ref j=>simp [ab.isRef] at j
    | own aV =>
     obtain ⟨_,bH⟩:=aV;rcases bH with ⟨bH,aO⟩ | ⟨b,c2,cur,bH,_⟩
     ·exact aO
     ·cases bH
   subst k9;exact .hB λ_ h=>h
  | some ad =>
   obtain ⟨b,rfl,lT⟩:=aR ad rfl;refine .bk (us:=us) (λ_ h=>h) aA (.inr (aI b lT)) rfl (by rw [ai,hlen]) (λk y al=>?_) (λk y al=>?_) λk y al=>?_
   all_goals
    have hk:k<cs.length:=by rw [<- ai]; exact (List.getElem?_eq_some_iff.1 al).1
    have j:=List.getElem?_eq_getElem hk;obtain ⟨dz,gG,h1,af,aK,bu⟩:=aa k _ j;cases gG
   ·exact af
   ·simpa using h1
   ·exact aM k _ y j al aK (λc aa=>aI c (bu c aa)) ρ'
 | @obj cs cs' ai _ aM =>
  intro v F a1 aI ρ';cases a1 with
  | ref j=>simp [ab.isRef] at j
  | @obj _ b e arr bV _ aV hS h1 ah aP av lS =>
   refine .cK (us:=λk=>arr.getD k undef) (λ_ h=>h) (.inr (aI b ((lS b).2 (.inl rfl)))) rfl (λk y al=>?_) (λk y al=>?_) λk y al=>?_
   all_goals
    have hk:k<cs.length:=by rw [<- ai]; exact (List.getElem?_eq_some_iff.1 al).1
    have j:=List.getElem?_eq_getElem hk;have hu:arr[k]?=some arr[k]:=Array.getElem?_eq_getElem (hS ▸ hk)
   ·simpa [hu] using h1 k _ hu
   ·simp [World.cell?,aV,hu]
   ·simpa [hu] using aM k _ y j al (ah k _ _ j hu) (λc aa=>aI c ((lS c).2 (.inr ⟨k,hk,aa⟩))) ρ'
 | @bf z n N p cs cs' au aA ai _ aM =>
  intro v F a1 aI ρ';obtain ⟨a,iU,cap,h1,rfl,aK⟩:=a1.mX;obtain ⟨qx,qA,gH,hA,ml,_⟩:=h.part au (by simp);rw [h1] at gH;cases gH;obtain ⟨a2,rH,us,bV,ke,k6,hlen,aR,aa⟩:=hA.zF;cases ke;have hle:n * z<=N * z:=Nat.mul_le_mul_right _ aA;have cell:∀ k,k<cs'.length->∃ x b,(cs.take (n * z))[k]?=some x/\a=some ⟨b,0,none⟩/\w.cell? ⟨b,k,none⟩=some (us k)/\(us k).oneCell'=true/\R w I (fP w T) x (us k) (bV k)/\∀ c,bV k c->qA c:=by
   intro k hk;rw [ai,List.length_take] at hk;have j:cs[k]?=some cs[k]:=List.getElem?_eq_getElem (by omega);obtain ⟨b,r⟩:=aa k _ j;exact ⟨_,b,by rw [List.getElem?_take,if_pos (by omega)]; exact j,r⟩
  cases a with
  | none =>
   have k7:cs'=[]:=by
    cases cs' with
    | nil=>rfl
    | cons c l=>obtain ⟨_,b,_,av,_⟩:=cell 0 (by simp); cases av
   subst k7;obtain ⟨_,_,ke,_,_,_,uh⟩:=hA.mZ;cases ke;have k9:n=0:=by
    rcases Nat.eq_zero_or_pos n with aO | aO
    ·exact aO
    ·have:=uh (by omega); simp at this
   subst k9;exact .hB λ_ h=>h
  | some ad =>
   obtain ⟨b,rfl,lT⟩:=aR ad rfl;refine .bk (us:=us) (λ_ h=>h) (by omega) (.inr ⟨_,ml b lT⟩) rfl (by rw [ai,List.length_take,hlen]; omega) (λk y al=>?_) (λk y al=>?_) λk y al=>?_
   all_goals
    obtain ⟨x,dz,j,gG,bu,cu,dM,k4⟩:=cell k (List.getElem?_eq_some_iff.1 al).1;cases gG
   ·exact cu
   ·simpa using bu
   ·exact aM k x y j al dM (λc aa=>⟨_,ml c (k4 c aa)⟩) ρ'
 | @sub z lo n N p cs cs' au aA ai _ aM =>
  intro v F a1 aI ρ';obtain ⟨a,iU,cap,b1,mM,h1,rfl,IG,aK,cu⟩:=a1.xi;obtain ⟨qx,qA,gH,hA,ml,_⟩:=h.part au (by simp);rw [h1] at gH;cases gH;obtain ⟨a2,rH,us,bV,ke,k6,hlen,aR,aa⟩:=hA.zF;cases ke;have hle:lo * z+n * z<=N * z:=by rw [<- Nat.add_mul]; exact Nat.mul_le_mul_right _ aA
  have hS:cs'.length=n * z:=by rw [ai,List.length_take,List.length_drop,hlen]; omega
  have cell:∀ k,k<cs'.length->∃ x b,((cs.drop (lo * z)).take (n * z))[k]?=some x/\a=some ⟨b,0,none⟩/\w.cell? ⟨b,lo * z+k,none⟩=some (us (lo * z+k))/\(us (lo * z+k)).oneCell'=true/\R w I (fP w T) x (us (lo * z+k)) (bV (lo * z+k))/\∀ c,bV (lo * z+k) c->qA c:=by
   intro k hk;have j:cs[lo * z+k]?=some cs[lo * z+k]:=List.getElem?_eq_getElem (by omega);obtain ⟨b,r⟩:=aa _ _ j;exact ⟨_,b,by rw [List.getElem?_take,if_pos (by omega),List.getElem?_drop]; exact j,r⟩
  by_cases k9:n=0
  ·subst k9;have k7:cs'=[]:=List.eq_nil_of_length_eq_zero (by simpa using hS);subst k7;exact .hB λ_ h=>h
  ·obtain ⟨ad,rfl,rfl⟩:=cu (by omega);obtain ⟨b,rfl,lT⟩:=aR ad rfl;refine .bk (us:=λk=>us (lo * z+k)) (λ_ h=>h) IG (.inr ⟨_,ml b lT⟩) rfl hS (λk y al=>?_) (λk y al=>?_) λk y al=>?_
   all_goals
    obtain ⟨x,dz,j,gG,bu,Hz,dM,k4⟩:=cell k (List.getElem?_eq_some_iff.1 al).1;cases gG
   ·exact Hz
   ·simpa using bu
   ·exact aM k x y j al dM (λc aa=>⟨_,ml c (k4 c aa)⟩) ρ'
 | @rows z n p cs cs' au ai _ aM =>
  intro v F a1 aI ρ';obtain ⟨a,iU,cap,h1,rfl,aK⟩:=a1.mX;obtain ⟨v0,e,us,jq,aV,hlen,mO,av,ah⟩:=Rows.sound (w:=w) (I:=I) (T:=T) (Fs:=Fs) (λt z q n m new ar=>h.rel t _ ar) (λp z n cs au=>by obtain ⟨v,cq,h1,af,aK,_⟩:=h.part au (by simp); exact ⟨v,cq,h1,af,aK⟩) (λz p n v hv=>by obtain ⟨a,cap,h1,rfl⟩:=hv; exact h1) au;rw [h1] at jq;cases jq;refine Ps aV hlen mO av ai λk x y u j al hu=>?_;obtain ⟨bV,kc,eX⟩:=ah k x u j hu;exact aM k x y j al kc eX ρ'
 | @ptr p k z n y cs cs' au al hk ai _ aM =>
  intro v F a1 aI ρ';obtain ⟨u,ad,h1,af,rfl⟩:=a1.nB;obtain ⟨qx,qA,gH,hA,ml,_⟩:=h.part au (by rcases al with rfl | rfl <;> simp);rw [h1] at gH;cases gH;have cell:∀ J,J<cs'.length->∃ gK kR wm,w.cell? ⟨ad.block,k+J,none⟩=some gK/\gK.oneCell'=true/\(cs.drop k)[J]?=some kR/\R w I (fP w T) kR gK wm/\(∀ c,wm c->∃ t,Fs t c):=by
   intro J aj;rw [ai,List.length_drop] at aj;have fT:cs[k+J]?=some cs[k+J]:=List.getElem?_eq_getElem (by omega);obtain ⟨b,gK,fy,mq,nr,gy,_⟩:=hA.node al fT;rw [af] at fy;cases fy;have fG:bt g (p.push (k+J))=some cs[k+J]:=by rw [tD,au]; rcases al with rfl | rfl <;> simp [ab.kids]
   by_cases gz:∃ br gB cm bh cO,cs[k+J]=.bC br gB cm bh cO
   ·obtain ⟨br,gB,cm,bh,cO,gz⟩:=gz;obtain ⟨b,Z2,_,_,Bt,_,bV,kc⟩:=hA.node al fT;rw [gz] at kc;exact kc.lb.elim
   ·obtain ⟨pM,Gk,rX,HM,lS,_⟩:=h.part fG (λbr gB cm bh cO e=>gz ⟨_,_,_,_,_,e⟩);rw [yb,h1] at rX;simp only [Option.bind_some] at rX;rw [nr] at rX;cases rX;exact ⟨gK,_,Gk,mq,gy,by rw [List.getElem?_drop]; exact fT,HM,λc aa=>⟨_,lS c aa⟩⟩
  obtain ⟨b,gK,fy,_⟩:=hA.node al (List.getElem?_eq_getElem hk);rw [af] at fy;cases fy;have hblk:∃ t,Fs t b:=⟨_,ml b (hA.E_ al af)⟩;refine .cK (us:=λJ=>(w.cell? ⟨b,k+J,none⟩).getD undef) (λ_ h=>h) (.inr hblk) rfl (λJ iQ sM=>?_) (λJ iQ sM=>?_) λJ iQ sM=>?_
  all_goals
   obtain ⟨gK,kR,wm,c1,c2,j_,c4,nj⟩:=cell J (List.getElem?_eq_some_iff.1 sM).1
  ·simpa [c1] using c2
  ·simp [c1]
  ·simpa [c1] using aM J kR iQ j_ sM c4 nj ρ'
end
end Go.Own
namespace Go.Own
open Go
set_option linter.unusedSectionVars false
variable [cH]
def qq (g:aL):List (Place × ab)->aL
 | []=>g
 | (p,x)::l=>qq (cp g p x) l
structure Q8 (g g2:aL) (all:List ab) (outs:List (Option ab)) (k:Nat) (p:Place) (x:ab):Prop where
 out:outs[k]?=some (some x)
 LL:bt g2 p=some .dead
 arg:(∃ z n cs,all[k]?=some (.bf z p n)/\bt g p=some (.own z n cs))\/(∃ cs,all[k]?=some (.ptr p 0)/\bt g p=some (.obj cs))
 ij:∀ i,x≠.self i
section
variable {P:Program}{w:World}{I:a8}{T:Array Value}{g:aL}{Fs:Nat->a8}
theorem RS (h:cG w I T g Fs) {z n:Nat}{p:Place}{cs:List ab}{v:Value}{F:a8}(a1:R w I (dU w T g) (.bf z p n) v F) (au:bt g p=some (.own z n cs)):dW w T p=some v:=by
 obtain ⟨⟨a,iU,cap,h1,rfl,aK⟩,_⟩:=a1.mX;obtain ⟨qx,qA,gH,hA,ml⟩:=h.part au (by simp);rw [h1] at gH;cases gH;obtain ⟨a2,rH,ke,_⟩:=hA.mZ;cases ke;exact h1
theorem RR (h:cG w I T g Fs) {p:Place}{cs:List ab}{v:Value}{F:a8}(a1:R w I (dU w T g) (.ptr p 0) v F) (au:bt g p=some (.obj cs)):dW w T p=some v:=by
 obtain ⟨⟨u,ad,h1,af,rfl⟩,_⟩:=a1.nB;obtain ⟨qx,qA,gH,hA,ml⟩:=h.part au (by simp);rw [h1] at gH;cases gH;cases hA with
 | ref j=>simp [ab.isRef] at j
 | obj=>simp only [addrOf,Option.some.injEq] at af; subst af; exact h1
theorem Zb {g:aL}{p q:Place}{y:ab}(a7:bt g q=some .dead) (au:bt g p=some .dead) (cz:p≠q):bt (cp g p y) q=some .dead:=by
 by_cases ah:q.root=p.root
 ·obtain ⟨r,pp⟩:=p;obtain ⟨cW,s6⟩:=q;simp only at ah;subst ah;have Ex:pp≠s6:=λe=>cz (by rw [e]);simp only [bt,cp,if_true] at *;cases j:g cW with
  | none=>rw [j] at au; cases au
  | some x =>
   rw [j] at au a7;simp only [Option.map_some];have:∀ (pp s6:List Nat) (x:ab),pp≠s6->x.at pp=some .dead->x.at s6=some .dead->(x.setAt pp y).at s6=some .dead:=by
    intro pp
    induction pp with
    | nil =>
     intro s6 x cz h1 af;simp only [ab.at,Option.some.injEq] at h1;subst h1;cases s6 with
     | nil=>exact absurd rfl cz
     | cons k q=>simp [ab.at,ab.kids] at af
    | cons k pp aM =>
     intro s6 x cz h1 af;cases s6 with
     | nil =>
      simp only [ab.at,Option.some.injEq] at af;subst af;simp [ab.at,ab.kids] at h1
     | cons J q =>
      simp only [ab.at] at h1 af;cases hk:x.kids[k]? with
      | none=>rw [hk] at h1; cases h1
      | some c =>
       rw [hk] at h1;simp only at h1;have zp:x.setAt (k::pp) y=x.uN k (c.setAt pp y):=by simp only [ab.setAt,hk]
       rw [zp];have dV:k<x.kids.length:=(List.getElem?_eq_some_iff.1 hk).1;have Iw:(x.uN k (c.setAt pp y)).kids=x.kids.set k (c.setAt pp y):=by
        cases x <;> simp [ab.uN,ab.kids] at dV ⊢
       simp only [ab.at,Iw];by_cases fI:J=k
       ·subst fI;rw [List.getElem?_set_self dV];rw [hk] at af;exact aM q c (λe=>cz (by rw [e])) h1 af
       ·rw [List.getElem?_set_ne (Ne.symm fI)];exact af
   exact this pp s6 x Ex au a7
 ·rw [FB ah]; exact a7
theorem jz.qq:∀ (l:List (Place × ab)) (du:Nat->a8) (vs:Nat->Value) {g:aL}{Fs:Nat->a8},jz w I T g Fs->(l.map (·.1)).Nodup->(∀ (J:Nat) (p:Place) (x:ab),l[J]?=some (p,x)->bt g p=some .dead/\dW w T p=some (vs J)/\R w I (fP w T) x (vs J) (du J)/\∀ i,x≠.self i) ->
  (∀ (J t c:Nat),J<l.length->du J c->¬ Fs t c)->(∀ (J c:Nat),J<l.length->du J c->¬ I c)->(∀ (i J c:Nat),i<l.length->J<l.length->du i c->du J c->i=J) ->
  ∃ b3,jz w I T (qq g l) b3/\∀ t c,b3 t c->Fs t c\/∃ J,J<l.length/\du J c
 | [],_,_,g,Fs,bm,_,_,_,_,_=>⟨Fs,bm,λ_ _ h=>.inl h⟩
 | (p,x)::l,du,vs,g,Fs,bm,fq,ai,qQ,Nw,mR=>by
  obtain ⟨h1,af,aK,bu⟩:=ai 0 p x rfl;obtain ⟨v,cq,hv,dE,dq,put⟩:=bm.part h1 (by simp);rw [af] at hv;cases hv;obtain ⟨fO,iY,A',Ba⟩:=put x (du 0) aK (λc aa aS=>absurd aS (qQ 0 _ c (by simp) aa)) (λc aa=>Nw 0 c (by simp) aa) (λt c _ aa=>qQ 0 t c (by simp) aa) (λi e=>absurd e (bu i));have gA:∀ t c,fO t c->Fs t c\/du 0 c:=by
   intro t c aa;by_cases ar:t=p.root
   ·subst ar;rcases (A' c).1 aa with ⟨h,_⟩ | h
    ·exact .inl h
    ·exact .inr h
   ·rw [Ba t ar] at aa; exact .inl aa
  simp only [List.map_cons,List.nodup_cons] at fq;obtain ⟨iT,h7,Ef⟩:=jz.qq l (λJ=>du (J+1)) (λJ=>vs (J+1)) iY fq.2 (λJ q y aj=>by
    obtain ⟨aB,a2,a3⟩:=ai (J+1) q y (by simpa using aj);refine ⟨Zb aB h1 ?_,a2,a3⟩;rintro rfl;exact fq.1 (List.mem_map.2 ⟨(p,y),List.mem_of_getElem? aj,rfl⟩))
   (λJ t c aj aa aS=>by
    rcases gA t c aS with h | h
    ·exact qQ (J+1) t c (by simpa using aj) aa h
    ·have:=mR (J+1) 0 c (by simpa using aj) (by simp) aa h; omega)
   (λJ c aj aa=>Nw (J+1) c (by simpa using aj) aa)
   (λi J c hi aj h1 af=>by have:=mR (i+1) (J+1) c (by simpa using hi) (by simpa using aj) h1 af; omega)
  refine ⟨iT,h7,λt c aa=>?_⟩;rcases Ef t c aa with h | ⟨J,aj,h⟩
  ·rcases gA t c h with h | h
   ·exact .inl h
   ·exact .inr ⟨0,by simp,h⟩
  ·exact .inr ⟨J+1,by simpa using aj,h⟩
end
end Go.Own
namespace Go.Own
open Go
set_option linter.unusedSectionVars false
variable [cH]
inductive gY:ab->ab->Prop
 | refl {x:ab}:gY x x
 | Cm {z:Nat}:gY .aT (.own z 0 [])
 | oT {x y:ab}(aA:cF x) (h:View (λ_=>none) x y):gY x y
 | own {z n:Nat}{cs cs':List ab}(ai:cs'.length=cs.length) (h:∀ (k:Nat) (x y:ab),cs[k]?=some x->cs'[k]?=some y->gY x y):gY (.own z n cs) (.own z n cs')
 | obj {cs cs':List ab}(ai:cs'.length=cs.length) (h:∀ (k:Nat) (x y:ab),cs[k]?=some x->cs'[k]?=some y->gY x y):gY (.obj cs) (.obj cs')
 | agg {cs cs':List ab}(ai:cs'.length=cs.length) (h:∀ (k:Nat) (x y:ab),cs[k]?=some x->cs'[k]?=some y->gY x y):gY (.agg cs) (.agg cs')
theorem View.up {g g':aL}(h:∀ t x,g t=some x->g' t=some x) {x y:ab}(hv:View g x y):View g' x y:=by
 induction hv with
 | qm=>exact .qm
 | self h1 af aK bu cu dM=>exact .self h1 af aK bu cu dM
 | mp=>exact .mp
 | hq au=>exact .hq (kC h au)
 | agg ai _ aM=>exact .agg ai aM
 | own ai _ aM=>exact .own ai aM
 | obj ai _ aM=>exact .obj ai aM
 | ds ai _ aM=>exact .ds ai aM
 | bf au aA ai _ aM=>exact .bf (kC h au) aA ai aM
 | sub au aA ai _ aM=>exact .sub (kC h au) aA ai aM
 | ptr au al hk ai _ aM=>exact .ptr (kC h au) al hk ai aM
 | rows au ai _ aM=>exact .rows (au.mono (λau=>kC h au) h) ai aM
theorem View.ij {g:aL}{x y:ab}{J:Nat × Nat}(h:View g x y) (e:y=.self J):x=.self J:=by
 cases h <;> first | exact e | cases e
theorem gY.ij {x y:ab}{J:Nat × Nat}(h:gY x y) (e:y=.self J):x=.self J:=by
 cases h <;> first | exact e | exact View.ij ‹_› e | cases e
theorem Fa {F:ab->ab->Prop}{cs cs':List ab}(ai:cs'.length=cs.length) (h:∀ (k:Nat) (x y:ab),cs[k]?=some x->cs'[k]?=some y->F x y) (aI:∀ x y J,F x y->y=.self J->x=.self J) (k:Nat) (J:Nat × Nat) (hk:cs'[k]?=some (.self J)):cs[k]?=some (.self J):=by
 have aQ:k<cs.length:=ai ▸ (List.getElem?_eq_some_iff.1 hk).1;rw [List.getElem?_eq_getElem aQ];exact congrArg some (aI _ _ J (h k _ _ (List.getElem?_eq_getElem aQ) hk) rfl)
theorem xz {cs cs':List ab}(ai:cs'.length=cs.length) (aA:∀ x∈cs,cF x) (aM:∀ (k:Nat) (x y:ab),cs[k]?=some x->cs'[k]?=some y->cF x->cF y):∀ y∈cs',cF y:=by
 intro y al;obtain ⟨k,hk⟩:=List.getElem?_of_mem al;have dV:=(List.getElem?_eq_some_iff.1 hk).1;have j:=List.getElem?_eq_getElem (ai ▸ dV:k<cs.length)
 grind
section
variable {w:World}{I:a8}
theorem R.oT {ρ:ab->Value->Prop}{x y:ab}{v:Value}{F:a8}(a1:R w I ρ x v F) (aA:cF x) (h:View (λ_=>none) x y) (bb:∀ c,F c->¬ I c) (aQ:∀ c,I c->c<w.heap.size) (iM:cH.q w I):R w (λc=>I c\/F c) ρ y v ct:=by
 have bm:jz w I #[v] (λt=>if t=0 then some x else none) (λt c=>t=0/\F c):=by
  refine ⟨λt z aW=>?_,λt ar c aa=>?_,λt t' c aa e_=>aa.1.trans e_.1.symm,λt c aa=>bb c aa.2,aQ,iM⟩
  ·by_cases aO:t=0
   ·subst aO;rw [if_pos rfl] at aW;cases aW;exact ⟨v,rfl,.tree ((a1.bj aA).yY λc=>⟨λh=>⟨rfl,h⟩,λh=>h.2⟩)⟩
   ·rw [if_neg aO] at aW; cases aW
  ·rw [if_pos aa.1] at ar; cases ar
 have:=View.P_ bm (h.up λ_ _ h=>by cases h) (a1.bj aA) (λc aa=>⟨0,rfl,aa⟩) ρ;exact this.nI λc aa=>by
  rcases aa with h | ⟨t,_,h⟩
  ·exact .inl h
  ·exact .inr h
theorem gY.bj {x y:ab}(h:gY x y):cF x->cF y:=by
 induction h with
 | refl=>exact id
 | Cm=>exact λ_=>.own (by simp)
 | oT aA h =>
  intro _;have key:∀ {x y:ab},View (λ_=>none) x y->cF x->cF y:=by
   intro x y h
   induction h with
   | qm=>exact λ_=>.bk (by simp)
   | self h=>exact λ_=>h
   | mp=>exact λ_=>.imp
   | hq au=>simp [bt] at au
   | agg ai _ aM=>intro aA; cases aA with | agg aA=>exact .agg (xz ai aA aM)
   | own ai _ aM=>intro aA; cases aA with | own aA=>exact .bk (xz ai aA aM)
   | obj ai _ aM=>intro aA; cases aA with | obj aA=>exact .cK (xz ai aA aM)
   | ds ai _ aM=>intro aA; cases aA with | ds h1 af=>exact .ds h1 (xz ai af aM)
   | bf au=>simp [bt] at au
   | sub au=>simp [bt] at au
   | ptr au=>simp [bt] at au
   | rows au =>
    cases au with
    | own au=>simp [bt] at au
    | bC ar=>cases ar
  grind
 | own ai _ aM=>intro aA; cases aA with | own aA=>exact .own (xz ai aA aM)
 | obj ai _ aM=>intro aA; cases aA with | obj aA=>exact .obj (xz ai aA aM)
 | agg ai _ aM=>intro aA; cases aA with | agg aA=>exact .agg (xz ai aA aM)
theorem Hq {ρ:ab->Value->Prop}{cs cs':List ab}{get:Nat->Option Value}{Fs:Nat->a8}{F B:a8}(ai:cs'.length=cs.length)
  (aN:∀ k,k<cs.length->∃ u,get k=some u)
  (aP:∀ (J k c:Nat),J<cs.length->k<cs.length->Fs J c->Fs k c->J=k) (av:∀ k c,k<cs.length->Fs k c->¬ B c) (aI:∀ c,F c↔B c\/∃ k,k<cs.length/\Fs k c)
  (aM:∀ (k:Nat) (x y:ab),cs[k]?=some x->cs'[k]?=some y->∀ u,get k=some u->∃ cY,(∀ c,cY c->Fs k c)/\R w (λc=>I c\/(Fs k c/\¬ cY c)) ρ y u cY) :
  ∃ qB:Nat->a8,(∀ k c,k<cs'.length->qB k c->Fs k c)/\(∀ (k:Nat) (y:ab) (u:Value),cs'[k]?=some y->get k=some u->R w (λc=>I c\/(F c/\¬ (B c\/∃ J,J<cs'.length/\qB J c))) ρ y u (qB k)):=by
 have:∀ k,∃ G:a8,k<cs.length->(∀ c,G c->Fs k c)/\∀ (y:ab) (u:Value),cs'[k]?=some y->get k=some u->R w (λc=>I c\/(Fs k c/\¬ G c)) ρ y u G:=by
  intro k;by_cases hk:k<cs.length
  ·have j:=List.getElem?_eq_getElem hk;have al:=List.getElem?_eq_getElem (ai ▸ hk:k<cs'.length);obtain ⟨u,hu⟩:=aN k hk
   simp_all
  ·exact ⟨ct,λh=>absurd h hk⟩
 obtain ⟨qB,M0⟩:=Classical.axiomOfChoice this;refine ⟨qB,λk c hk=>(M0 k (ai ▸ hk)).1 c,λk y u al hu=>?_⟩;have hk:k<cs'.length:=(List.getElem?_eq_some_iff.1 al).1;have jN:k<cs.length:=ai ▸ hk;refine ((M0 k jN).2 y u al hu).nI λc aa=>?_
 grind
theorem R.dG {ρ:ab->Value->Prop}{x y:ab}(h:gY x y):∀ {v:Value}{F:a8},R w I ρ x v F->cF x->(∀ c,F c->¬ I c)->(∀ c,I c->c<w.heap.size)->cH.q w I->∃ cY,(∀ c,cY c->F c)/\R w (λc=>I c\/(F c/\¬ cY c)) ρ y v cY:=by
 induction h with
 | refl=>exact λa1 _ _ _ _=>⟨_,λ_ h=>h,a1.nI λ_ h=>.inl h⟩
 | Cm =>
  intro v F a1 _ _ _ _;have:=a1.r4;subst this;refine ⟨ct,λ_ h=>h.elim,.own (e:=0) (us:=[]) (Fs:=λ_=>ct) ⟨by simp,.inl ⟨rfl,rfl⟩⟩ rfl (by simp) (by simp) (λ_ _ _ _ _ h=>h.elim) (λ_ _ _ h=>h.elim) λc=>⟨λh=>h.elim,λh=>?_⟩⟩;rcases h with h | ⟨_,_,h⟩
  ·cases h
  ·exact h
 | oT aA h=>exact λa1 _ bb aQ iM=>⟨ct,λ_ h=>h.elim,(a1.oT aA h bb aQ iM).nI λc aa=>aa.elim .inl λh=>.inr ⟨h,λh=>h⟩⟩
 | @own z n cs cs' ai _ aM =>
  intro v F a1 aA bb aQ iM;cases a1 with
  | ref j=>simp [ab.isRef] at j
  | @own _ _ _ _ e us Fs _ aV hS h1 ah aP av aI =>
   cases aA with
   | own aA =>
    obtain ⟨qB,p8,Bb⟩:=Hq (get:=λk=>us[k]?) (B:=λc=>v.ownBlock=some c) ai (λk hk=>⟨_,List.getElem?_eq_getElem (hS ▸ hk)⟩) aP (λk c hk aa e=>av k c hk aa e) aI (λk x y j al u hu=>aM k x y j al (ah k x u j hu) (aA x (List.mem_of_getElem? j)) (λc aa=>bb c ((aI c).2 (.inr ⟨k,(List.getElem?_eq_some_iff.1 j).1,aa⟩))) aQ iM);exact ⟨_,λc aa=>(aI c).2 (aa.imp id λ⟨k,hk,h⟩=>⟨k,ai ▸ hk,p8 k c hk h⟩),
     .own aV (by rw [ai,hS]) h1 (λk y u al hu=>Bb k y u al hu) (λJ k c aj hk af aK=>aP J k c (ai ▸ aj) (ai ▸ hk) (p8 J c aj af) (p8 k c hk aK)) (λk c hk aa=>av k c (ai ▸ hk) (p8 k c hk aa)) (λc=>Iff.rfl)⟩
 | @obj cs cs' ai n1 aM =>
  intro v F a1 aA bb aQ iM;cases a1 with
  | ref j=>simp [ab.isRef] at j
  | @obj _ b e arr Fs _ aV hS h1 ah aP av aI az =>
   cases aA with
   | obj aA =>
    obtain ⟨qB,p8,Bb⟩:=Hq (get:=λk=>arr[k]?) (B:=λc=>c=b) ai (λk hk=>⟨_,Array.getElem?_eq_getElem (hS ▸ hk)⟩) aP (λk c hk aa e=>av k hk (e ▸ aa)) aI (λk x y j al u hu=>aM k x y j al (ah k x u j hu) (aA x (List.mem_of_getElem? j)) (λc aa=>bb c ((aI c).2 (.inr ⟨k,(List.getElem?_eq_some_iff.1 j).1,aa⟩))) aQ iM);exact ⟨_,λc aa=>(aI c).2 (aa.imp id λ⟨k,hk,h⟩=>⟨k,ai ▸ hk,p8 k c hk h⟩),
     .obj aV (by rw [ai,hS]) h1 (λk y u al hu=>Bb k y u al hu) (λJ k c aj hk af aK=>aP J k c (ai ▸ aj) (ai ▸ hk) (p8 J c aj af) (p8 k c hk aK)) (λk hk aa=>av k (ai ▸ hk) (p8 k b hk aa)) (λc=>Iff.rfl) (λk J u hk=>az k J u (Fa ai n1 (λ_ _ _=>gY.ij) k J hk))⟩
 | @agg cs cs' ai _ aM =>
  intro v F a1 aA bb aQ iM;cases a1 with
  | ref j=>simp [ab.isRef] at j
  | @agg _ vs Fs _ hS h1 ah aP aI =>
   cases aA with
   | agg aA =>
    obtain ⟨qB,p8,Bb⟩:=Hq (get:=λk=>vs[k]?) (B:=λ_=>False) ai (λk hk=>⟨_,Array.getElem?_eq_getElem (hS ▸ hk)⟩) aP (λk c hk aa e=>e) (λc=>(aI c).trans ⟨.inr,λh=>h.elim (λh=>h.elim) id⟩) (λk x y j al u hu=>aM k x y j al (ah k x u j hu) (aA x (List.mem_of_getElem? j)) (λc aa=>bb c ((aI c).2 ⟨k,(List.getElem?_eq_some_iff.1 j).1,aa⟩)) aQ iM);refine ⟨λc=>∃ k,k<cs'.length/\qB k c,λc ⟨k,hk,h⟩=>(aI c).2 ⟨k,ai ▸ hk,p8 k c hk h⟩,
     .agg (Fs:=qB) (by rw [ai,hS]) h1 (λk y u al hu=>(Bb k y u al hu).nI λc aa=>aa.imp id λ⟨h1,af⟩=>⟨h1,λh=>af (.inr h)⟩) (λJ k c aj hk af aK=>aP J k c (ai ▸ aj) (ai ▸ hk) (p8 J c aj af) (p8 k c hk aK)) (λc=>Iff.rfl)⟩
end
end Go.Own
