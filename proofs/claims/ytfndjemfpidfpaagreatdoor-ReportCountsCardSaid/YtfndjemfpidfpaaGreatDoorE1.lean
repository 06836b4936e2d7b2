/- Parts of the proof that the last text states. -/
import Derived.Orders
import Derived.WalkKit
namespace Go.Own
open Go
structure Place where
 root:Nat
 path:List Nat
 deriving DecidableEq,Repr
def Place.push (p:Place) (k:Nat):Place:=⟨p.root,p.path++[k]⟩
inductive ab where
 | lit (v:Value)
 | bb
 | bf (z n:Nat) (cs:List ab)
 | own (z n:Nat) (cs:List ab)
 | obj (cs:List ab)
 | agg (cs:List ab)
 | bI (cs:List ab)
 | cL (cs:List ab)
 | ptr (p:Place) (k:Nat)
 | bo (z:Nat) (p:Place) (n:Nat)
 | sub (z:Nat) (p:Place) (lo n:Nat)
 | bD (z:Nat) (p:Place) (n m:Nat) (new:List ab)
 | dc (fn:Fn) (first caps:List ab)
 | mp (p:Array MapEntry->Nat->Prop)
 | gY (p:Place)
 | imp (p:Array MapEntry->Nat->Prop)
 | dead
 | self (k:Nat × Nat)
 | dt (t:Nat) (us:List Value)
 deriving Inhabited
def uz (cs:List ab):Prop:=∀ (k:Nat) (j:Nat × Nat),cs[k]?≠some (.self j)
def r8 (x:ab):Prop:=∀ cs,x=.agg cs->uz cs
abbrev a7:=Nat->Prop
def ab.isRef:ab->Bool
 | .ptr .. | .bo .. | .sub .. | .gY ..=>true
 | _=>false
inductive R (w:World) (I:a7) (ρ:ab->Value->Prop):ab->Value->a7->Prop
 | lit {v:Value}{F:a7}(hv:v.oneCell'=true) (aE:∀ c,¬ F c):R w I ρ (.lit v) v F
 | bb {F:a7}(aE:∀ c,¬ F c):R w I ρ .bb (.slice none 0 0) F
 | dead {v:Value}{F:a7}(aE:∀ c,¬ F c):R w I ρ .dead v F
 | dt {t:Nat}{us:List Value}{v:Value}{F:a7}(aM:w.ownsRow 0 t 1 v us.length us) (h1:v.oneCell'=true) (aE:∀ c,F c↔v.ownBlock=some c):R w I ρ (.dt t us) v F
 | j0 {k:Nat × Nat}{v:Value}{F:a7}(aE:∀ c,¬ F c):R w I ρ (.self k) v F
 | ref {x:ab}{v:Value}{F:a7}(J:x.isRef=true) (h:ρ x v) (aE:∀ c,¬ F c):R w I ρ x v F
 | hd {z cap:Nat}{a:Option Addr}{F:a7}(aE:∀ c,¬ F c):R w I ρ (.bf z 0 []) (.slice a 0 cap) F
 | bf {z n cap:Nat}{cs:List ab}{ad:Addr}{us:Nat->Value}{F:a7}(aE:∀ c,¬ F c) (kx:n<=cap) (a':I ad.block) (av:ad.spot=none) (ah:cs.length=n * z) (h1:∀ (k:Nat) (x:ab),cs[k]?=some x->(us k).oneCell'=true)
   (aa:∀ (k:Nat) (x:ab),cs[k]?=some x->w.cell? ⟨ad.block,ad.off+k,none⟩=some (us k)) (ak:∀ (k:Nat) (x:ab),cs[k]?=some x->R w I ρ x (us k) (λ_=>False)) :
   R w I ρ (.bf z n cs) (.slice (some ad) n cap) F
 | cL {cs:List ab}{ad:Addr}{us:Nat->Value}{F:a7}(aE:∀ c,¬ F c) (a':I ad.block) (av:ad.spot=none) (h1:∀ (k:Nat) (x:ab),cs[k]?=some x->(us k).oneCell'=true)
   (aa:∀ (k:Nat) (x:ab),cs[k]?=some x->w.cell? ⟨ad.block,ad.off+k,none⟩=some (us k)) (ak:∀ (k:Nat) (x:ab),cs[k]?=some x->R w I ρ x (us k) (λ_=>False)) :
   R w I ρ (.cL cs) (.pointer (some ad)) F
 | own {z n:Nat}{cs:List ab}{v:Value}{e:TypeId}{us:List Value}{Fs:Nat->a7}{F:a7}
   (aM:w.ownsRow 0 e z v n us) (ah:cs.length=us.length) (h1:∀ (k:Nat) (u:Value),us[k]?=some u->u.oneCell'=true)
   (ak:∀ (k:Nat) (x:ab) (u:Value),cs[k]?=some x->us[k]?=some u->R w I ρ x u (Fs k))
   (aP:∀ (j k c:Nat),j<cs.length->k<cs.length->Fs j c->Fs k c->j=k) (ao:∀ (k c:Nat),k<cs.length->Fs k c->v.ownBlock≠some c)
   (aE:∀ c,F c↔v.ownBlock=some c\/∃ k,k<cs.length/\Fs k c):R w I ρ (.own z n cs) v F
 | obj {cs:List ab}{b:Nat}{e:TypeId}{arr:Array Value}{Fs:Nat->a7}{F:a7}
   (aM:w.heap[b]?=some (.cells arr e (0,0))) (ah:cs.length=arr.size) (h1:∀ (k:Nat) (u:Value),arr[k]?=some u->u.oneCell'=true)
   (ak:∀ (k:Nat) (x:ab) (u:Value),cs[k]?=some x->arr[k]?=some u->R w I ρ x u (Fs k))
   (aP:∀ (j k c:Nat),j<cs.length->k<cs.length->Fs j c->Fs k c->j=k) (ao:∀ (k:Nat),k<cs.length->¬ Fs k b)
   (aE:∀ c,F c↔c=b\/∃ k,k<cs.length/\Fs k c) (av:∀ (k:Nat) (j:Nat × Nat) (u:Value),cs[k]?=some (.self j)->arr[k]?=some u->(u=.pointer none/\e=j.2)\/u=.pointer (some ⟨b,j.1,none⟩)):R w I ρ (.obj cs) (.pointer (some ⟨b,0,none⟩)) F
 | agg {cs:List ab}{vs:Array Value}{Fs:Nat->a7}{F:a7}(ah:cs.length=vs.size) (h1:∀ (k:Nat) (u:Value),vs[k]?=some u->u.oneCell'=true)
   (ak:∀ (k:Nat) (x:ab) (u:Value),cs[k]?=some x->vs[k]?=some u->R w I ρ x u (Fs k))
   (aP:∀ (j k c:Nat),j<cs.length->k<cs.length->Fs j c->Fs k c->j=k)
   (aE:∀ c,F c↔∃ k,k<cs.length/\Fs k c):R w I ρ (.agg cs) (.agg vs) F
 | bI {cs:List ab}{vs:Array Value}{Fs:Nat->a7}{F:a7}(ah:cs.length=vs.size)
   (ak:∀ (k:Nat) (x:ab) (u:Value),cs[k]?=some x->vs[k]?=some u->R w I ρ x u (Fs k))
   (aP:∀ (j k c:Nat),j<cs.length->k<cs.length->Fs j c->Fs k c->j=k)
   (aE:∀ c,F c↔∃ k,k<cs.length/\Fs k c):R w I ρ (.bI cs) (.tuple vs) F
 | dc {fn:Fn}{first caps:List ab}{v1 v2:Array Value}{F:a7}(aE:∀ c,¬ F c) (h1:first.length=v1.size) (af:caps.length=v2.size)
   (iR:∀ (k:Nat) (x:ab) (u:Value),first[k]?=some x->v1[k]?=some u->R w I ρ x u (λ_=>False))
   (hr:∀ (k:Nat) (x:ab) (u:Value),caps[k]?=some x->v2[k]?=some u->R w I ρ x u (λ_=>False)):R w I ρ (.dc fn first caps) (.func fn v1 v2) F
 | mp {p:Array MapEntry->Nat->Prop}{b:Nat}{es:Array MapEntry}{clock:Nat}{F:a7}(aM:w.heap[b]?=some (.map es clock)) (aw:p es clock) (aE:∀ c,F c↔c=b):R w I ρ (.mp p) (.map (some b)) F
 | imp {p:Array MapEntry->Nat->Prop}{b:Nat}{es:Array MapEntry}{clock:Nat}{F:a7}(aE:∀ c,¬ F c) (a':I b) (aM:w.heap[b]?=some (.map es clock)) (aw:p es clock):R w I ρ (.imp p) (.map (some b)) F
theorem R.tg {w:World}{I:a7}{ρ:ab->Value->Prop}{x:ab}{v:Value}{F cW:a7}(h:R w I ρ x v F) (aE:∀ c,F c↔cW c):R w I ρ x v cW:=by
 have:F=cW:=funext λc=>propext (aE c)
 grind
theorem R.lt {w:World}{I:a7}{ρ:ab->Value->Prop}{x:ab}{v:Value}{F:a7}(h:R w I ρ x v F):∀ c,F c->c<w.heap.size:=by
 induction h with
 | lit _ aE | bb aE | dead aE | j0 aE | ref _ _ aE | hd aE | bf aE | cL aE | dc aE | imp aE=>exact λc aa=>absurd aa (aE c)
 | dt aM _ aE=>exact λc aa=>(aM.lt c ((aE c).1 aa)).2
 | mp aM _ aE=>exact λc aa=>by rw [(aE c).1 aa]; exact (Array.getElem?_eq_some_iff.1 aM).1
 | own aM ah h1 ak aP ao aE aJ =>
  intro c aa;rcases (aE c).1 aa with h | ⟨k,hk,h⟩
  ·exact (aM.lt c h).2
  ·exact aJ k _ _ (List.getElem?_eq_getElem hk) (List.getElem?_eq_getElem (ah ▸ hk)) c h
 | obj aM ah h1 ak aP ao aE av aJ =>
  intro c aa;rcases (aE c).1 aa with rfl | ⟨k,hk,h⟩
  ·exact (Array.getElem?_eq_some_iff.1 aM).1
  ·exact aJ k _ _ (List.getElem?_eq_getElem hk) (Array.getElem?_eq_getElem (ah ▸ hk)) c h
 | agg ah h1 ak aP aE aJ =>
  intro c aa;obtain ⟨k,hk,h⟩:=(aE c).1 aa;exact aJ k _ _ (List.getElem?_eq_getElem hk) (Array.getElem?_eq_getElem (ah ▸ hk)) c h
 | bI ah ak aP aE aJ =>
  intro c aa;obtain ⟨k,hk,h⟩:=(aE c).1 aa;exact aJ k _ _ (List.getElem?_eq_getElem hk) (Array.getElem?_eq_getElem (ah ▸ hk)) c h
theorem rV {w w':World}{e:TypeId}{z n:Nat}{v:Value}{us:List Value}(h:w.ownsRow 0 e z v n us) (ao:∀ c,v.ownBlock=some c->w'.heap[c]?=w.heap[c]?):w'.ownsRow 0 e z v n us:=by
 obtain ⟨h1,af⟩:=h;refine ⟨h1,?_⟩;rcases af with af | ⟨g,cap,cur,rfl,aL,br,rest⟩
 ·grind
 ·exact .inr ⟨g,cap,cur,rfl,aL,by rw [ao g rfl]; exact br,rest⟩
theorem R.frame {w w':World}{I I':a7}{ρ ρ':ab->Value->Prop}{x:ab}{v:Value}{F:a7}(h:R w I ρ x v F)
  (a':∀ c,I c->w'.heap[c]?=w.heap[c]?) (nF:∀ c,I c->I' c) (lg:∀ x v,ρ x v->ρ' x v) :
  (∀ c,F c->w'.heap[c]?=w.heap[c]?)->R w' I' ρ' x v F:=by
 induction h with
 | lit hv aE=>exact λ_=>.lit hv aE
 | bb aE=>exact λ_=>.bb aE
 | dead aE=>exact λ_=>.dead aE
 | j0 aE=>exact λ_=>.j0 aE
 | ref J h aE=>exact λ_=>.ref J (lg _ _ h) aE
 | hd aE=>exact λ_=>.hd aE
 | bf aE kx hi av ah h1 aa ak aJ =>
  exact λ_=>.bf aE kx (nF _ hi) av ah h1 (λk x hk=>(World.cell?_of_block (a:=⟨_,_,none⟩) (a' _ hi)).trans (aa k x hk)) λk x hk=>aJ k x hk (λc aa=>aa.elim)
 | cL aE hi av h1 aa ak aJ =>
  exact λ_=>.cL aE (nF _ hi) av h1 (λk x hk=>(World.cell?_of_block (a:=⟨_,_,none⟩) (a' _ hi)).trans (aa k x hk)) λk x hk=>aJ k x hk (λc aa=>aa.elim)
 | own aM ah h1 ak aP ao aE aJ =>
  intro aV;refine .own (rV aM λc aa=>aV c ((aE c).2 (.inl aa))) ah h1 (λk x u J hu=>aJ k x u J hu λc aa=>aV c ((aE c).2 (.inr ⟨k,?_,aa⟩))) aP ao aE;exact (List.getElem?_eq_some_iff.1 J).1
 | obj aM ah h1 ak aP ao aE av aJ =>
  intro aV;refine .obj ((aV _ ((aE _).2 (.inl rfl))).trans aM) ah h1 (λk x u J hu=>aJ k x u J hu λc aa=>aV c ((aE c).2 (.inr ⟨k,?_,aa⟩))) aP ao aE av;exact (List.getElem?_eq_some_iff.1 J).1
 | agg ah h1 ak aP aE aJ =>
  intro aV;refine .agg ah h1 (λk x u J hu=>aJ k x u J hu λc aa=>aV c ((aE c).2 ⟨k,?_,aa⟩)) aP aE;exact (List.getElem?_eq_some_iff.1 J).1
 | bI ah ak aP aE aJ =>
  intro aV;refine .bI ah (λk x u J hu=>aJ k x u J hu λc aa=>aV c ((aE c).2 ⟨k,?_,aa⟩)) aP aE;exact (List.getElem?_eq_some_iff.1 J).1
 | imp aE hi aM aw=>exact λ_=>.imp aE (nF _ hi) ((a' _ hi).trans aM) aw
 | dt aM h1 aE=>exact λaV=>.dt (rV aM λc aa=>aV c ((aE c).2 aa)) h1 aE
 | mp aM aw aE=>exact λaV=>.mp ((aV _ ((aE _).2 rfl)).trans aM) aw aE
 | dc aE h1 af iR hr f' fL=>exact λ_=>.dc aE h1 af (λk x u J hu=>f' k x u J hu λc aa=>aa.elim) (λk x u J hu=>fL k x u J hu λc aa=>aa.elim)
def ab.kids:ab->List ab
 | .own _ _ cs=>cs
 | .obj cs=>cs
 | .agg cs=>cs
 | .bI cs=>cs
 | _=>[]
def ab.ud (x:ab) (k:Nat) (y:ab):ab :=
 match x with
 | .own z n cs=>.own z n (cs.set k y)
 | .obj cs=>.obj (cs.set k y)
 | .agg cs=>.agg (cs.set k y)
 | .bI cs=>.bI (cs.set k y)
 | x=>x
def ab.at:ab->List Nat->Option ab
 | x,[]=>some x
 | x,k::p =>
  match x.kids[k]? with
  | some c=>c.at p
  | none=>none
def ab.setAt:ab->List Nat->ab->ab
 | _,[],y=>y
 | x,k::p,y =>
  match x.kids[k]? with
  | some c=>x.ud k (c.setAt p y)
  | none=>x
theorem ab.ZJ {x y z:ab}{k:Nat}{j:Nat × Nat}{p:List Nat}(h:x.at (k::p)=some y):x.setAt (k::p) z≠.self j:=by
 intro e;simp only [ab.at,ab.setAt] at h e;cases hk:x.kids[k]? with
 | none=>rw [hk] at h; cases h
 | some c =>
  rw [hk] at e;cases x <;> simp [ab.ud,ab.kids] at e hk
def child (w:World) (v:Value) (k:Nat):Option Value :=
 match v with
 | .agg cs=>cs[k]?
 | .tuple cs=>cs[k]?
 | .slice (some a) _ _=>w.cell? ⟨a.block,a.off+k,none⟩
 | .pointer (some a)=>w.cell? ⟨a.block,a.off+k,none⟩
 | _=>none
def walk (w:World):Value->List Nat->Option Value
 | v,[]=>some v
 | v,k::p =>
  match child w v k with
  | some u=>walk w u p
  | none=>none
theorem ow {w:World}{e:TypeId}{z n:Nat}{v:Value}{us:List Value}(h:w.ownsRow 0 e z v n us) {k:Nat}{u:Value}(hu:us[k]?=some u):child w v k=some u:=by
 obtain ⟨h1,af⟩:=h;rcases af with ⟨rfl,rfl⟩ | ⟨g,cap,cur,rfl,aL,br,aA,aa,av,au⟩
 ·grind
 ·rw [<- au] at hu;rw [List.getElem?_take] at hu
  split at hu
  ·simpa [child,World.cell?,br] using hu
  grind
theorem Ql {α:Type}{l:List α}{k j:Nat}{y x:α}(h:(l.set k y)[j]?=some x):(j=k/\x=y/\k<l.length)\/(j≠k/\l[j]?=some x):=by
 grind
structure Out (w w':World) (I I':a7) (ρ ρ':ab->Value->Prop) (F cD:a7):Prop where
 bf:∀ c,I c->w'.heap[c]?=w.heap[c]?
 rest:∀ c,F c->¬ cD c->w'.heap[c]?=w.heap[c]?
 more:∀ c,I c->I' c
 ref:∀ x v,ρ x v->ρ' x v
theorem Out.mono {w w':World}{I I':a7}{ρ ρ':ab->Value->Prop}{F cD cW iH:a7}(h:Out w w' I I' ρ ρ' F cD) (h1:∀ c,cW c->F c) (af:∀ c,cW c->¬ iH c->¬ cD c):Out w w' I I' ρ ρ' cW iH :=
 ⟨h.bf,λc aa aA=>h.rest c (h1 c aa) (af c aa aA),h.more,h.ref⟩
theorem R.outside {w w':World}{I I':a7}{ρ ρ':ab->Value->Prop}{F cD:a7}(o:Out w w' I I' ρ ρ' F cD) {x:ab}{v:Value}{G:a7}(h:R w I ρ x v G) (c':∀ c,G c->F c/\¬ cD c):R w' I' ρ' x v G :=
 h.frame o.bf o.more o.ref λc aa=>o.rest c (c' c aa).1 (c' c aa).2
theorem Fb {w w':World}{I I':a7}{ρ ρ':ab->Value->Prop}{cs:List ab}{get:Nat->Option Value}{Fs:Nat->a7}{F cD:a7}
  (ak:∀ (k:Nat) (x:ab) (u:Value),cs[k]?=some x->get k=some u->R w I ρ x u (Fs k))
  (aP:∀ (j k c:Nat),j<cs.length->k<cs.length->Fs j c->Fs k c->j=k)
  (aE:∀ k c,k<cs.length->Fs k c->F c) {k:Nat}(hk:k<cs.length) (ai:∀ c,cD c->Fs k c) (o:Out w w' I I' ρ ρ' F cD)
  {y:ab}{u:Value}{bH:a7}(hu:get k=some u) (aU:R w' I' ρ' y u bH) (eD:∀ c,bH c↔(Fs k c/\¬ cD c)\/(bH c/\¬ (F c/\¬ cD c))) :
  (∀ (j:Nat) (x:ab) (u:Value),(cs.set k y)[j]?=some x->get j=some u->R w' I' ρ' x u (if j=k then bH else Fs j)) /\
  (∀ (i j c:Nat),i<(cs.set k y).length->j<(cs.set k y).length->(if i=k then bH else Fs i) c->(if j=k then bH else Fs j) c->i=j):=by
 constructor
 ·intro j x x7 J ht;rcases Ql J with ⟨rfl,rfl,aK⟩ | ⟨cN,J⟩
  ·grind
  ·rw [if_neg cN];have ag:j<cs.length:=(List.getElem?_eq_some_iff.1 J).1;exact (ak j x x7 J ht).outside o λc aa=>⟨aE j c ag aa,λei=>cN (aP j k c ag hk aa (ai c ei))⟩
 grind
theorem Fc {m:Nat}{Fs:Nat->a7}{bH cD iH:a7}{k:Nat}(hk:k<m)
  (aP:∀ (j k c:Nat),j<m->k<m->Fs j c->Fs k c->j=k) (ai:∀ c,cD c->Fs k c) (eD:∀ c,bH c↔(Fs k c/\¬ cD c)\/iH c) (c:Nat) :
  (∃ j,j<m/\(if j=k then bH else Fs j) c)↔((∃ j,j<m/\Fs j c)/\¬ cD c)\/iH c:=by
 grind
theorem R.pa {w w':World}{I:a7}{ρ:ab->Value->Prop}:∀ (r:List Nat) {x:ab}{v:Value}{F:a7}{y:ab},R w I ρ x v F->x.at r=some y ->
  (∀ c,F c->w'.heap[c]?=w.heap[c]?)->walk w' v r=walk w v r
 | [],_,_,_,_,_,_,_=>rfl
 | k::p,x,v,F,y,h,fR,aV=>by
  simp only [ab.at] at fR;cases gI:x.kids[k]? with
  | none=>rw [gI] at fR; cases fR
  | some sd =>
   rw [gI] at fR;simp only at fR;cases h with
   | @own z n cs _ e us Fs _ aM ah h1 ak aP ao aE =>
    simp only [ab.kids] at gI;have hk:k<cs.length:=(List.getElem?_eq_some_iff.1 gI).1;have hu:us[k]?=some us[k]:=List.getElem?_eq_getElem (ah ▸ hk);have mu:=rV (w':=w') aM λc aa=>aV c ((aE c).2 (.inl aa));have:=R.pa (w':=w') p (ak k sd _ gI hu) fR λc aa=>aV c ((aE c).2 (.inr ⟨k,hk,aa⟩));simp [walk,ow aM hu,ow mu hu,this]
   | @obj cs b e arr Fs _ aM ah h1 ak aP ao aE av =>
    simp only [ab.kids] at gI;have hk:k<cs.length:=(List.getElem?_eq_some_iff.1 gI).1;have hu:arr[k]?=some arr[k]:=Array.getElem?_eq_getElem (ah ▸ hk);have mu:=(aV b ((aE b).2 (.inl rfl))).trans aM;have:=R.pa (w':=w') p (ak k sd _ gI hu) fR λc aa=>aV c ((aE c).2 (.inr ⟨k,hk,aa⟩));simp [walk,child,World.cell?,aM,mu,hu,this]
   | @agg cs vs Fs _ ah h1 ak aP aE =>
    simp only [ab.kids] at gI;have hk:k<cs.length:=(List.getElem?_eq_some_iff.1 gI).1;have hu:vs[k]?=some vs[k]:=Array.getElem?_eq_getElem (ah ▸ hk);have:=R.pa (w':=w') p (ak k sd _ gI hu) fR λc aa=>aV c ((aE c).2 ⟨k,hk,aa⟩);simp [walk,child,hu,this]
   | @bI cs vs Fs _ ah ak aP aE =>
    simp only [ab.kids] at gI;have hk:k<cs.length:=(List.getElem?_eq_some_iff.1 gI).1;have hu:vs[k]?=some vs[k]:=Array.getElem?_eq_getElem (ah ▸ hk);have:=R.pa (w':=w') p (ak k sd _ gI hu) fR λc aa=>aV c ((aE c).2 ⟨k,hk,aa⟩);simp [walk,child,hu,this]
   | ref J _ _=>cases x <;> simp [ab.isRef,ab.kids] at J gI
   | _=>simp [ab.kids] at gI
theorem R.focus {w:World}{I:a7}{ρ:ab->Value->Prop}:∀ (q:List Nat) {x:ab}{v:Value}{F:a7}{y:ab},R w I ρ x v F->x.at q=some y ->
  ∃ hV cD,walk w v q=some hV/\R w I ρ y hV cD/\(∀ c,cD c->F c) /\
   (∀ (w':World),(∀ c,F c->¬ cD c->w'.heap[c]?=w.heap[c]?)->walk w' v q=some hV/\∀ r uo,x.at r=some uo->(∃ dr,r=q++dr)\/walk w' v r=walk w v r) /\
   ∀ (w':World) (I':a7) (ρ':ab->Value->Prop) (y':ab) (iH:a7),Out w w' I I' ρ ρ' F cD->R w' I' ρ' y' hV iH->(∀ c,iH c->F c->cD c)->(∀ j,y'=.self j->y=.self j) ->
    ∃ cW,R w' I' ρ' (x.setAt q y') v cW/\∀ c,cW c↔(F c/\¬ cD c)\/iH c
 | [],x,v,F,y,h,fR=>by
  simp only [ab.at,Option.some.injEq] at fR;subst fR;exact ⟨v,F,rfl,h,λ_ h=>h,λ_ _=>⟨rfl,λr _ _=>.inl ⟨r,rfl⟩⟩,λw' I' ρ' y' iH _ aU _ _=>⟨iH,aU,λc=>by simp⟩⟩
 | k::p,x,v,F,y,h,fR=>by
  simp only [ab.at] at fR;cases gI:x.kids[k]? with
  | none=>rw [gI] at fR; cases fR
  | some sd =>
   rw [gI] at fR;simp only at fR;have u6:∀ y',x.setAt (k::p) y'=x.ud k (sd.setAt p y'):=λy'=>by simp [ab.setAt,gI]
   cases h with
   | @own z n cs _ e us Fs _ aM ah h1 ak aP ao aE =>
    simp only [ab.kids] at gI;have hk:k<cs.length:=(List.getElem?_eq_some_iff.1 gI).1;have hu:us[k]?=some us[k]:=List.getElem?_eq_getElem (ah ▸ hk);obtain ⟨hV,cD,hw,dv,dq,eS,kB⟩:=R.focus p (ak k sd _ gI hu) fR;refine ⟨hV,cD,by simp [walk,ow aM hu,hw],dv,λc aa=>(aE c).2 (.inr ⟨k,hk,dq c aa⟩),?_,?_⟩
    ·intro w' av;have oW:∀ j c,j<cs.length->Fs j c->¬ cD c->w'.heap[c]?=w.heap[c]?:=λj c ag aa aA=>av c ((aE c).2 (.inr ⟨j,ag,aa⟩)) aA;obtain ⟨fj,e9⟩:=eS w' λc aa aA=>oW k c hk aa aA;have mu:=rV (w':=w') aM λc aa=>av c ((aE c).2 (.inl aa)) λei=>ao k c hk (dq c ei) aa;refine ⟨by simp [walk,ow mu hu,fj],?_⟩;intro r uo ec;cases r with
     | nil=>exact .inr rfl
     | cons j r =>
      simp only [ab.at,ab.kids] at ec;cases ag:cs[j]? with
      | none=>rw [ag] at ec; cases ec
      | some wC =>
       rw [ag] at ec;simp only at ec;have eV:j<cs.length:=(List.getElem?_eq_some_iff.1 ag).1;have qJ:us[j]?=some us[j]:=List.getElem?_eq_getElem (ah ▸ eV);by_cases fV:j=k
       ·subst fV;rw [gI] at ag;cases ag;rcases e9 r uo ec with ⟨dr,rfl⟩ | h
        ·exact .inl ⟨dr,rfl⟩
        ·exact .inr (by simp [walk,ow aM hu,ow mu hu,h])
       ·have h:=R.pa (w':=w') r (ak j wC _ ag qJ) ec λc aa=>oW j c eV aa λei=>fV (aP j k c eV hk aa (dq c ei));exact .inr (by simp [walk,ow aM qJ,ow mu qJ,h])
    intro w' I' ρ' y' iH o h_ mq lH;have iO:∀ j c,j<cs.length->Fs j c->F c:=λj c ag aa=>(aE c).2 (.inr ⟨j,ag,aa⟩);obtain ⟨bH,jU,eD⟩:=kB w' I' ρ' y' iH (o.mono (λc aa=>iO k c hk aa) λc _ h=>h) h_ (λc aa n_=>mq c aa (iO k c hk n_)) lH;obtain ⟨ec,pM⟩:=Fb (get:=λj=>us[j]?) ak aP iO hk dq o hu jU λc=>by
     constructor
     ·intro h;rcases (eD c).1 h with h1 | h1
      ·exact .inl h1
      ·exact .inr ⟨h,λ⟨af,aF⟩=>aF (mq c h1 af)⟩
     ·rintro (h1 | ⟨h1,_⟩)
      ·exact (eD c).2 (.inl h1)
      ·exact h1
    rw [u6];refine ⟨_,.own (Fs:=λj=>if j=k then bH else Fs j) (rV aM λc aa=>o.rest c ((aE c).2 (.inl aa)) λei=>ao k c hk (dq c ei) aa) (by simpa using ah) h1 ec pM ?_ (λc=>Iff.rfl),λc=>?_⟩
    ·intro j c ag aa va;rw [List.length_set] at ag;by_cases fV:j=k
     ·rw [if_pos fV] at aa;rcases (eD c).1 aa with ⟨h1,_⟩ | h1
      ·exact ao k c hk h1 va
      ·exact ao k c hk (dq c (mq c h1 ((aE c).2 (.inl va)))) va
     ·rw [if_neg fV] at aa; exact ao j c ag aa va
    ·have hu:=Fc hk aP dq eD c;simp only [List.length_set];rw [hu,aE c];have eR:v.ownBlock=some c->¬ cD c:=λh1 af=>ao k c hk (dq c af) h1;constructor
     ·rintro (h1 | ⟨h1,af⟩ | h1)
      ·exact .inl ⟨.inl h1,eR h1⟩
      ·exact .inl ⟨.inr h1,af⟩
      ·exact .inr h1
     ·rintro (⟨h1 | h1,af⟩ | h1)
      ·exact .inl h1
      ·exact .inr (.inl ⟨h1,af⟩)
      ·exact .inr (.inr h1)
   | @obj cs b e arr Fs _ aM ah h1 ak aP ao aE av =>
    simp only [ab.kids] at gI;have hk:k<cs.length:=(List.getElem?_eq_some_iff.1 gI).1;have hu:arr[k]?=some arr[k]:=Array.getElem?_eq_getElem (ah ▸ hk);obtain ⟨hV,cD,hw,dv,dq,eS,kB⟩:=R.focus p (ak k sd _ gI hu) fR;refine ⟨hV,cD,by simp [walk,child,World.cell?,aM,hu,hw],dv,λc aa=>(aE c).2 (.inr ⟨k,hk,dq c aa⟩),?_,?_⟩
    ·intro w' av;have oW:∀ j c,j<cs.length->Fs j c->¬ cD c->w'.heap[c]?=w.heap[c]?:=λj c ag aa aA=>av c ((aE c).2 (.inr ⟨j,ag,aa⟩)) aA;obtain ⟨fj,e9⟩:=eS w' λc aa aA=>oW k c hk aa aA;have mu:=(av b ((aE b).2 (.inl rfl)) λei=>ao k hk (dq b ei)).trans aM;refine ⟨by simp [walk,child,World.cell?,mu,hu,fj],?_⟩;intro r uo ec;cases r with
     | nil=>exact .inr rfl
     | cons j r =>
      simp only [ab.at,ab.kids] at ec;cases ag:cs[j]? with
      | none=>rw [ag] at ec; cases ec
      | some wC =>
       rw [ag] at ec;simp only at ec;have eV:j<cs.length:=(List.getElem?_eq_some_iff.1 ag).1;have qJ:arr[j]?=some arr[j]:=Array.getElem?_eq_getElem (ah ▸ eV);by_cases fV:j=k
       ·subst fV;rw [gI] at ag;cases ag;rcases e9 r uo ec with ⟨dr,rfl⟩ | h
        ·exact .inl ⟨dr,rfl⟩
        ·exact .inr (by simp [walk,child,World.cell?,aM,mu,hu,h])
       ·have h:=R.pa (w':=w') r (ak j wC _ ag qJ) ec λc aa=>oW j c eV aa λei=>fV (aP j k c eV hk aa (dq c ei));exact .inr (by simp [walk,child,World.cell?,aM,mu,qJ,h])
    intro w' I' ρ' y' iH o h_ mq lH;have iO:∀ j c,j<cs.length->Fs j c->F c:=λj c ag aa=>(aE c).2 (.inr ⟨j,ag,aa⟩);obtain ⟨bH,jU,eD⟩:=kB w' I' ρ' y' iH (o.mono (λc aa=>iO k c hk aa) λc _ h=>h) h_ (λc aa n_=>mq c aa (iO k c hk n_)) lH;obtain ⟨ec,pM⟩:=Fb (get:=λj=>arr[j]?) ak aP iO hk dq o hu jU λc=>by
     constructor
     ·intro h;rcases (eD c).1 h with h1 | h1
      ·exact .inl h1
      ·exact .inr ⟨h,λ⟨af,aF⟩=>aF (mq c h1 af)⟩
     ·rintro (h1 | ⟨h1,_⟩)
      ·exact (eD c).2 (.inl h1)
      ·exact h1
    rw [u6];have n5:F b:=(aE b).2 (.inl rfl);have Iz:¬ cD b:=λh=>ao k hk (dq b h);refine ⟨_,.obj (Fs:=λj=>if j=k then bH else Fs j) ((o.rest b n5 Iz).trans aM) (by simpa using ah) h1 ec pM ?_ (λc=>Iff.rfl) (λi j u hi ht=>?_),λc=>?_⟩
    ·intro j ag aa;rw [List.length_set] at ag;by_cases fV:j=k
     ·rw [if_pos fV] at aa;rcases (eD b).1 aa with ⟨h1,_⟩ | h1
      ·exact ao k hk h1
      ·exact Iz (mq b h1 n5)
     ·rw [if_neg fV] at aa; exact ao j ag aa
    ·rcases Ql hi with ⟨rfl,he,_⟩ | ⟨_,hi⟩
     ·refine av _ j u ?_ ht;rw [gI];cases p with
      | nil =>
       simp only [ab.at,Option.some.injEq] at fR;rw [fR];exact congrArg some (lH j he.symm)
      | cons ke PD=>exact absurd he.symm (ab.ZJ fR)
     ·exact av i j u hi ht
    ·have hu:=Fc hk aP dq eD c;simp only [List.length_set];rw [hu,aE c];constructor
     ·rintro (rfl | ⟨h1,af⟩ | h1)
      ·exact .inl ⟨.inl rfl,Iz⟩
      ·exact .inl ⟨.inr h1,af⟩
      ·exact .inr h1
     ·rintro (⟨h1 | h1,af⟩ | h1)
      ·exact .inl h1
      ·exact .inr (.inl ⟨h1,af⟩)
      ·exact .inr (.inr h1)
   | @agg cs vs Fs _ ah h1 ak aP aE =>
    simp only [ab.kids] at gI;have hk:k<cs.length:=(List.getElem?_eq_some_iff.1 gI).1;have hu:vs[k]?=some vs[k]:=Array.getElem?_eq_getElem (ah ▸ hk);obtain ⟨hV,cD,hw,dv,dq,eS,kB⟩:=R.focus p (ak k sd _ gI hu) fR;refine ⟨hV,cD,by simp [walk,child,hu,hw],dv,λc aa=>(aE c).2 ⟨k,hk,dq c aa⟩,?_,?_⟩
    ·intro w' av;have oW:∀ j c,j<cs.length->Fs j c->¬ cD c->w'.heap[c]?=w.heap[c]?:=λj c ag aa aA=>av c ((aE c).2 ⟨j,ag,aa⟩) aA;obtain ⟨fj,e9⟩:=eS w' λc aa aA=>oW k c hk aa aA
     
     refine ⟨by simp [walk,child,hu,fj],?_⟩;intro r uo ec;cases r with
     | nil=>exact .inr rfl
     | cons j r =>
      simp only [ab.at,ab.kids] at ec;cases ag:cs[j]? with
      | none=>rw [ag] at ec; cases ec
      | some wC =>
       rw [ag] at ec;simp only at ec;have eV:j<cs.length:=(List.getElem?_eq_some_iff.1 ag).1;have qJ:vs[j]?=some vs[j]:=Array.getElem?_eq_getElem (ah ▸ eV);by_cases fV:j=k
       ·subst fV;rw [gI] at ag;cases ag;rcases e9 r uo ec with ⟨dr,rfl⟩ | h
        ·exact .inl ⟨dr,rfl⟩
        ·exact .inr (by simp [walk,child,hu,h])
       ·have h:=R.pa (w':=w') r (ak j wC _ ag qJ) ec λc aa=>oW j c eV aa λei=>fV (aP j k c eV hk aa (dq c ei));exact .inr (by simp [walk,child,qJ,h])
    intro w' I' ρ' y' iH o h_ mq lH;have iO:∀ j c,j<cs.length->Fs j c->F c:=λj c ag aa=>(aE c).2 ⟨j,ag,aa⟩;obtain ⟨bH,jU,eD⟩:=kB w' I' ρ' y' iH (o.mono (λc aa=>iO k c hk aa) λc _ h=>h) h_ (λc aa n_=>mq c aa (iO k c hk n_)) lH;obtain ⟨ec,pM⟩:=Fb (get:=λj=>vs[j]?) ak aP iO hk dq o hu jU λc=>by
     constructor
     ·intro h;rcases (eD c).1 h with h1 | h1
      ·exact .inl h1
      ·exact .inr ⟨h,λ⟨af,aF⟩=>aF (mq c h1 af)⟩
     ·rintro (h1 | ⟨h1,_⟩)
      ·exact (eD c).2 (.inl h1)
      ·exact h1
    rw [u6];refine ⟨_,.agg (Fs:=λj=>if j=k then bH else Fs j) (by simpa using ah) h1 ec pM (λc=>Iff.rfl),λc=>?_⟩;have hu:=Fc hk aP dq eD c;simp only [List.length_set];rw [hu,aE c]
   | @bI cs vs Fs _ ah ak aP aE =>
    simp only [ab.kids] at gI;have hk:k<cs.length:=(List.getElem?_eq_some_iff.1 gI).1;have hu:vs[k]?=some vs[k]:=Array.getElem?_eq_getElem (ah ▸ hk);obtain ⟨hV,cD,hw,dv,dq,eS,kB⟩:=R.focus p (ak k sd _ gI hu) fR;refine ⟨hV,cD,by simp [walk,child,hu,hw],dv,λc aa=>(aE c).2 ⟨k,hk,dq c aa⟩,?_,?_⟩
    ·intro w' av;have oW:∀ j c,j<cs.length->Fs j c->¬ cD c->w'.heap[c]?=w.heap[c]?:=λj c ag aa aA=>av c ((aE c).2 ⟨j,ag,aa⟩) aA;obtain ⟨fj,e9⟩:=eS w' λc aa aA=>oW k c hk aa aA
     
     refine ⟨by simp [walk,child,hu,fj],?_⟩;intro r uo ec;cases r with
     | nil=>exact .inr rfl
     | cons j r =>
      simp only [ab.at,ab.kids] at ec;cases ag:cs[j]? with
      | none=>rw [ag] at ec; cases ec
      | some wC =>
       rw [ag] at ec;simp only at ec;have eV:j<cs.length:=(List.getElem?_eq_some_iff.1 ag).1;have qJ:vs[j]?=some vs[j]:=Array.getElem?_eq_getElem (ah ▸ eV);by_cases fV:j=k
       ·subst fV;rw [gI] at ag;cases ag;rcases e9 r uo ec with ⟨dr,rfl⟩ | h
        ·exact .inl ⟨dr,rfl⟩
        ·exact .inr (by simp [walk,child,hu,h])
       ·have h:=R.pa (w':=w') r (ak j wC _ ag qJ) ec λc aa=>oW j c eV aa λei=>fV (aP j k c eV hk aa (dq c ei));exact .inr (by simp [walk,child,qJ,h])
    intro w' I' ρ' y' iH o h_ mq lH;have iO:∀ j c,j<cs.length->Fs j c->F c:=λj c ag aa=>(aE c).2 ⟨j,ag,aa⟩;obtain ⟨bH,jU,eD⟩:=kB w' I' ρ' y' iH (o.mono (λc aa=>iO k c hk aa) λc _ h=>h) h_ (λc aa n_=>mq c aa (iO k c hk n_)) lH;obtain ⟨ec,pM⟩:=Fb (get:=λj=>vs[j]?) ak aP iO hk dq o hu jU λc=>by
     constructor
     ·intro h;rcases (eD c).1 h with h1 | h1
      ·exact .inl h1
      ·exact .inr ⟨h,λ⟨af,aF⟩=>aF (mq c h1 af)⟩
     ·rintro (h1 | ⟨h1,_⟩)
      ·exact (eD c).2 (.inl h1)
      ·exact h1
    rw [u6];refine ⟨_,.bI (Fs:=λj=>if j=k then bH else Fs j) (by simpa using ah) ec pM (λc=>Iff.rfl),λc=>?_⟩;have hu:=Fc hk aP dq eD c;simp only [List.length_set];rw [hu,aE c]
   | ref J _ _=>cases x <;> simp [ab.isRef,ab.kids] at J gI
   | _=>simp [ab.kids] at gI
end Go.Own
namespace Go.Own
open Go
abbrev aH:=Nat->Option ab
def bB (g:aH) (p:Place):Option ab :=
 match g p.root with
 | some x=>x.at p.path
 | none=>none
def dL (w:World) (T:Array Value) (p:Place):Option Value :=
 match T[p.root]? with
 | some v=>walk w v p.path
 | none=>none
def addrOf:Value->Option Addr
 | .slice (some a) _ _=>some a
 | .pointer (some a)=>some a
 | _=>none
def fO (w:World) (T:Array Value):ab->Value->Prop
 | .ptr p k,v=>∃ u a,dL w T p=some u/\addrOf u=some a/\v=.pointer (some ⟨a.block,a.off+k,none⟩)
 | .bo _ p n,v=>∃ a N cap,dL w T p=some (.slice a N cap)/\v=.slice a n cap/\n<=N
 | .sub z p lo n,v=>∃ a N cap cb ml,dL w T p=some (.slice a N cap)/\v=.slice cb n ml/\n<=ml/\lo+n<=N/\(0<n->∃ ad,a=some ad/\cb=some ⟨ad.block,ad.off+lo * z,none⟩)
 | .bD _ p n _ _,v=>∃ a cap,dL w T p=some (.slice a n cap)/\v=.slice a n cap
 | .gY p,v=>∃ b,dL w T p=some (.map b)/\v=.map b
 | _,_=>False
def gF (g:aH):ab->Prop
 | .ptr p k=>∃ y,bB g p=some y/\(∃ z n cs,(y=.own z n cs\/y=.obj cs)/\k<cs.length)
 | .bo z p n=>(∃ N cs,bB g p=some (.own z N cs)/\n<=N)\/(p.path=[]/\∃ q gv m new,g p.root=some (.bD z q gv m new)/\n=gv+m)
 | .sub z p lo n=>∃ N cs,bB g p=some (.own z N cs)/\lo+n<=N
 | .bD z p n _ _=>(∃ cs,bB g p=some (.own z n cs))\/(p.path=[]/\∃ q gv m new cs,g p.root=some (.bD z q gv m new)/\n=gv+m/\bB g q=some (.own z gv cs))
 | .gY p=>∃ q,bB g p=some (.mp q)
 | _=>False
def dG (w:World) (T:Array Value) (g:aH) (r:ab) (v:Value):Prop:=fO w T r v/\gF g r
structure GF (w:World) (I:a7) (ρ:ab->Value->Prop) (z:Nat) (p:Place) (n m:Nat) (new:List ab) (v:Value) (F:a7) (bv:Value) (e cu:TypeId) (us news:List Value):Prop where
 ka:ρ (.bD z p n 0 []) bv
 iq:w.ownsRow 0 e z bv n us
 nb:w.ownsRow 0 cu z v (n+m) (us++news)
 ah:new.length=news.length
 h1:∀ (k:Nat) (u:Value),news[k]?=some u->u.oneCell'=true
 ak:∀ (k:Nat) (x:ab) (u:Value),new[k]?=some x->news[k]?=some u->R w I ρ x u (λ_=>False)
 aE:∀ c,F c↔v.ownBlock=some c/\bv.ownBlock≠some c
inductive ja (w:World) (I:a7) (ρ:ab->Value->Prop):ab->Value->a7->Prop
 | tree {x:ab}{v:Value}{F:a7}(h:R w I ρ x v F):ja w I ρ x v F
 | bD {z n m:Nat}{p:Place}{new:List ab}{v bv:Value}{e cu:TypeId}{us news:List Value}{F:a7}(h:GF w I ρ z p n m new v F bv e cu us news):ja w I ρ (.bD z p n m new) v F
theorem R.kX {w:World}{I:a7}{ρ:ab->Value->Prop}{z n m:Nat}{p:Place}{new:List ab}{v:Value}{F:a7}(h:R w I ρ (.bD z p n m new) v F):False:=by
 cases h with
 | ref J=>simp [ab.isRef] at J
theorem ja.fW {w:World}{I:a7}{ρ:ab->Value->Prop}{x:ab}{v:Value}{F:a7}(h:ja w I ρ x v F) (J:∀ z p n m new,x≠.bD z p n m new):R w I ρ x v F:=by
 cases h with
 | tree h=>exact h
 | bD=>exact absurd rfl (J _ _ _ _ _)
theorem ja.vl {w:World}{I:a7}{ρ:ab->Value->Prop}{z n m:Nat}{p:Place}{new:List ab}{v:Value}{F:a7}(h:ja w I ρ (.bD z p n m new) v F):∃ bv e cu us news,GF w I ρ z p n m new v F bv e cu us news:=by
 cases h with
 | tree h=>exact h.kX.elim
 | bD h=>exact ⟨_,_,_,_,_,h⟩
theorem ja.lt {w:World}{I:a7}{ρ:ab->Value->Prop}{x:ab}{v:Value}{F:a7}(h:ja w I ρ x v F):∀ c,F c->c<w.heap.size:=by
 cases h with
 | tree h=>exact h.lt
 | bD h=>exact λc aa=>(h.nb.lt c ((h.aE c).1 aa).1).2
theorem ja.frame {w w':World}{I I':a7}{ρ ρ':ab->Value->Prop}{x:ab}{v:Value}{F:a7}(h:ja w I ρ x v F)
  (a':∀ c,I c->w'.heap[c]?=w.heap[c]?) (nF:∀ c,I c->I' c) (lg:∀ x v,ρ x v->ρ' x v)
  (cX:∀ z p n bv,ρ (.bD z p n 0 []) bv->∀ c,bv.ownBlock=some c->w'.heap[c]?=w.heap[c]?)
  (aV:∀ c,F c->w'.heap[c]?=w.heap[c]?):ja w' I' ρ' x v F:=by
 cases h with
 | tree h=>exact .tree (h.frame a' nF lg aV)
 | @bD z n m p new v bv e cu us news F h =>
  have ao:=cX _ _ _ _ h.ka;refine .bD ⟨lg _ _ h.ka,rV h.iq ao,rV h.nb λc aa=>?_,h.ah,h.h1,λk x u J hu=>(h.ak k x u J hu).frame a' nF lg λc aa=>aa.elim,h.aE⟩;by_cases ru:bv.ownBlock=some c
  ·exact ao c ru
  ·exact aV c ((h.aE c).2 ⟨aa,ru⟩)
theorem ab.ta {z n m:Nat}{p:Place}{new:List ab}{q:List Nat}{y:ab}(h:(ab.bD z p n m new).at q=some y):q=[]/\y=.bD z p n m new:=by
 cases q with
 | nil=>simp [ab.at] at h; exact ⟨rfl,h.symm⟩
 | cons k q=>simp [ab.at,ab.kids] at h
class cw where
 q:World->a7->Prop
 keep:∀ {w w':World}{I I':a7},q w I->(∀ c,I c->w'.heap[c]?=w.heap[c]?)->(∀ c,I c->I' c)->q w' I'
set_option linter.unusedSectionVars false
variable [cw]
structure cG (w:World) (I:a7) (T:Array Value) (g:aH) (Fs:Nat->a7):Prop where
 rel:∀ t x,g t=some x->∃ v,T[t]?=some v/\ja w I (dG w T g) x v (Fs t)
 kA:∀ t,g t=none->∀ c,¬ Fs t c
 ep:∀ t t' c,Fs t c->Fs t' c->t=t'
 bf:∀ t c,Fs t c->¬ I c
 lt:∀ c,I c->c<w.heap.size
 qV:∀ t t' z p n m new bM ck bn cO,g t=some (.bD z p n m new)->g t'=some (.bD bM p ck bn cO)->t=t'
 g_:cw.q w I
section
variable {w:World}{I:a7}{T:Array Value}{g:aH}{Fs:Nat->a7}
theorem cG.part (h:cG w I T g Fs) {p:Place}{y:ab}(aw:bB g p=some y) (ai:∀ z q n m new,y≠.bD z q n m new):∃ v cD,dL w T p=some v/\R w I (dG w T g) y v cD/\(∀ c,cD c->Fs p.root c):=by
 unfold bB at aw;cases J:g p.root with
 | none=>rw [J] at aw; cases aw
 | some x =>
  rw [J] at aw;obtain ⟨v,hv,aU⟩:=h.rel _ _ J;replace aU:=aU.fW (by
   rintro z q n m new rfl;exact ai _ _ _ _ _ (ab.ta aw).2)
  obtain ⟨hV,cD,hw,dv,dq,_⟩:=R.focus p.path aU aw;exact ⟨hV,cD,by simp [dL,hv,hw],dv,dq⟩
theorem R.p5 {ρ:ab->Value->Prop}{z n:Nat}{cs:List ab}{v:Value}{F:a7}(h:R w I ρ (.own z n cs) v F):∀ c,v.ownBlock=some c->F c:=by
 cases h with
 | own aM ah h1 ak aP ao aE=>exact λc aa=>(aE c).2 (.inl aa)
 | ref J=>simp [ab.isRef] at J
theorem R.mC {ρ:ab->Value->Prop}{z n:Nat}{cs:List ab}{v:Value}{F:a7}(h:R w I ρ (.own z n cs) v F) :
  ∃ a cap,v=.slice a n cap/\n<=cap/\cs.length=n * z/\(∀ ad,a=some ad->ad.off=0/\ad.spot=none)/\(0<n->a.isSome=true):=by
 cases h with
 | own aM ah h1 ak aP ao aE =>
  obtain ⟨h1,af⟩:=aM;rcases af with ⟨rfl,rfl⟩ | ⟨b,cap,cur,rfl,_,_,aA,_⟩
  ·exact ⟨none,0,rfl,Nat.le_refl _,by simp [ah,h1],by simp,by simp⟩
  ·exact ⟨_,cap,rfl,aA,by simp [ah,h1],by rintro ad ⟨⟩; exact ⟨rfl,rfl⟩,by simp⟩
 | ref J=>simp [ab.isRef] at J
theorem cG.x9 (h:cG w I T g Fs) {w':World}{T':Array Value}(c0:∀ t,g t≠none->T'[t]?=T[t]?) (aE:∀ t c,Fs t c->w'.heap[c]?=w.heap[c]?) {p:Place}{y:ab}(aw:bB g p=some y) :
  dL w' T' p=dL w T p:=by
 unfold bB at aw;cases J:g p.root with
 | none=>rw [J] at aw; cases aw
 | some x =>
  rw [J] at aw;obtain ⟨v,hv,aU⟩:=h.rel _ _ J;have iv:T'[p.root]?=some v:=by rw [c0 _ (by rw [J]; simp),hv]
  cases aU with
  | tree aU =>
   have:=R.pa (w':=w') p.path aU aw λc aa=>aE _ c aa;simp [dL,hv,iv,this]
  | bD aU=>simp [dL,hv,iv,(ab.ta aw).1,walk]
theorem kq {g g':aH}(aL:∀ t x,g t=some x->g' t=some x) {p:Place}{y:ab}(aw:bB g p=some y):bB g' p=some y:=by
 unfold bB at *;cases J:g p.root with
 | none=>rw [J] at aw; cases aw
 | some x=>rw [J] at aw; rw [aL _ _ J]; exact aw
theorem gF.mono {g g':aH}(aL:∀ t x,g t=some x->g' t=some x) {r:ab}(h:gF g r):gF g' r:=by
 cases r <;> simp only [gF] at h ⊢
 case ptr p k=>obtain ⟨y,ai,h⟩:=h; exact ⟨y,kq aL ai,h⟩
 case bo z p n =>
  rcases h with ⟨N,cs,h1,af⟩ | ⟨aI,q,gv,m,new,h1,af⟩
  ·exact .inl ⟨N,cs,kq aL h1,af⟩
  ·exact .inr ⟨aI,q,gv,m,new,aL _ _ h1,af⟩
 case sub z p lo n=>obtain ⟨N,cs,h1,af⟩:=h; exact ⟨N,cs,kq aL h1,af⟩
 case bD z p n m new =>
  rcases h with ⟨cs,h1⟩ | ⟨aI,q,gv,bn,cO,cs,h1,af,aF⟩
  ·exact .inl ⟨cs,kq aL h1⟩
  ·exact .inr ⟨aI,q,gv,bn,cO,cs,aL _ _ h1,af,kq aL aF⟩
 case gY p=>obtain ⟨q,h⟩:=h; exact ⟨q,kq aL h⟩
theorem cG.FR (h:cG w I T g Fs) {w':World}{T':Array Value}{g':aH}(c0:∀ t,g t≠none->T'[t]?=T[t]?) (aE:∀ t c,Fs t c->w'.heap[c]?=w.heap[c]?)
  (aL:∀ t x,g t=some x->g' t=some x) {r:ab}{v:Value}(ak:dG w T g r v):dG w' T' g' r v:=by
 obtain ⟨h1,af⟩:=ak;refine ⟨?_,af.mono aL⟩;have slot:∀ {p:Place}{x:ab},p.path=[]->g p.root=some x->dL w' T' p=dL w T p:=by
  intro p x aw J;obtain ⟨v,hv,_⟩:=h.rel _ _ J;simp [dL,aw,walk,c0 p.root (by rw [J]; simp)]
 cases r <;> simp only [fO,gF] at h1 af ⊢
 case ptr p k =>
  obtain ⟨y,ai,_⟩:=af;rw [h.x9 c0 aE ai]; exact h1
 case bo z p n =>
  rcases af with ⟨N,cs,af,_⟩ | ⟨aI,q,gv,m,new,af,_⟩
  ·rw [h.x9 c0 aE af]; exact h1
  ·rw [slot aI af]; exact h1
 case sub z p lo n =>
  obtain ⟨N,cs,af,_⟩:=af;rw [h.x9 c0 aE af]; exact h1
 case bD z p n m new =>
  rcases af with ⟨cs,af⟩ | ⟨aI,q,gv,bn,cO,cs,af,_⟩
  ·rw [h.x9 c0 aE af]; exact h1
  ·rw [slot aI af]; exact h1
 case gY p =>
  obtain ⟨q,af⟩:=af;rw [h.x9 c0 aE af]; exact h1
theorem cG.D2 (h:cG w I T g Fs) {z n:Nat}{p:Place}{bv:Value}(ak:dG w T g (.bD z p n 0 []) bv):∀ c,bv.ownBlock=some c->∃ t,Fs t c:=by
 obtain ⟨⟨a,cap,h1,rfl⟩,af⟩:=ak;intro c aa;have own:∀ {q:Place}{gv:Nat}{cs:List ab}{v:Value},bB g q=some (.own z gv cs)->dL w T q=some v->v.ownBlock=some c->∃ t,Fs t c:=by
  intro q gv cs v ba hv aa;obtain ⟨dB,cD,iv,aU,dq⟩:=h.part ba (by simp);rw [hv] at iv;cases iv;exact ⟨_,dq c (aU.p5 c aa)⟩
 rcases af with ⟨cs,af⟩ | ⟨aI,q,gv,m,new,cs,af,rfl,aF⟩
 ·exact own af h1 aa
 ·obtain ⟨v,hv,aU⟩:=h.rel _ _ af;have rG:v=.slice a (gv+m) cap:=by
   simp only [dL,hv,aI,walk,Option.some.injEq] at h1;exact h1
  obtain ⟨Mr,e,cu,us,news,aU⟩:=aU.vl;by_cases hj:Mr.ownBlock=some c
  ·obtain ⟨⟨a2,rk,bk,rfl⟩,_⟩:=aU.ka;exact own aF bk hj
  ·exact ⟨_,(aU.aE c).2 ⟨by rw [rG]; exact aa,hj⟩⟩
theorem cG.frame (h:cG w I T g Fs) {w':World}{I':a7}{T':Array Value}{g':aH}(c0:∀ t,g t≠none->T'[t]?=T[t]?) (aE:∀ t c,Fs t c->w'.heap[c]?=w.heap[c]?)
  (a':∀ c,I c->w'.heap[c]?=w.heap[c]?) (nF:∀ c,I c->I' c) (aL:∀ t x,g t=some x->g' t=some x) {x:ab}{v:Value}{F:a7}(aU:R w I (dG w T g) x v F)
  (lC:∀ c,F c->w'.heap[c]?=w.heap[c]?):R w' I' (dG w' T' g') x v F :=
 aU.frame a' nF (λ_ _ ak=>h.FR c0 aE aL ak) lC
theorem cG.wG (h:cG w I T g Fs) {w':World}{I':a7}{T':Array Value}{g':aH}(c0:∀ t,g t≠none->T'[t]?=T[t]?) (aE:∀ t c,Fs t c->w'.heap[c]?=w.heap[c]?)
  (a':∀ c,I c->w'.heap[c]?=w.heap[c]?) (nF:∀ c,I c->I' c) (aL:∀ t x,g t=some x->g' t=some x) {x:ab}{v:Value}{F:a7}(aU:ja w I (dG w T g) x v F)
  (lC:∀ c,F c->w'.heap[c]?=w.heap[c]?):ja w' I' (dG w' T' g') x v F :=
 aU.frame a' nF (λ_ _ ak=>h.FR c0 aE aL ak) (λ_ _ _ _ ak c aa=>by obtain ⟨t,au⟩:=h.D2 ak c aa; exact aE t c au) lC
def cR (g:aH) (d:Nat) (x:ab):aH:=λt=>if t=d then some x else g t
def uh (Fs:Nat->a7) (d:Nat) (F:a7):Nat->a7:=λt=>if t=d then F else Fs t
theorem QK {d:Nat}{x:ab}(aP:g d=none):∀ t y,g t=some y->cR g d x t=some y:=by
 intro t y ai;unfold cR;split
 ·rename_i h; subst h; rw [aP] at ai; cases ai
 ·exact ai
end
end Go.Own
namespace Go.Own
open Go
set_option linter.unusedSectionVars false
variable [cw]
theorem QP (w:World):∀ (p:List Nat) (v:Value) (k:Nat),walk w v (p++[k])=(walk w v p).bind λu=>child w u k
 | [],v,k=>by simp [walk]; cases child w v k <;> rfl
 | j::p,v,k=>by
  simp only [List.cons_append,walk];cases child w v j with
  | none=>rfl
  | some u=>exact QP w p u k
theorem Mh:∀ (p:List Nat) (x:ab) (k:Nat),x.at (p++[k])=(x.at p).bind λy=>y.kids[k]?
 | [],x,k=>by simp [ab.at]; cases x.kids[k]? <;> rfl
 | j::p,x,k=>by
  simp only [List.cons_append,ab.at];cases x.kids[j]? with
  | none=>rfl
  | some u=>exact Mh p u k
theorem s' (g:aH) (p:Place) (k:Nat):bB g (p.push k)=(bB g p).bind λy=>y.kids[k]?:=by
 unfold bB Place.push;cases g p.root with
 | none=>rfl
 | some x=>simp [Mh]
theorem x8 (w:World) (T:Array Value) (p:Place) (k:Nat):dL w T (p.push k)=(dL w T p).bind λu=>child w u k:=by
 unfold dL Place.push;cases T[p.root]? with
 | none=>rfl
 | some x=>simp [QP]
def fY:Nat->Place->ab->ab
 | _,p,.own z n _=>.bo z p n
 | _,p,.obj (_::_)=>.ptr p 0
 | _,_,.obj []=>.dead
 | _,_,.bD ..=>.dead
 | _,_,.self _=>.dead
 | _,_,.dt ..=>.dead
 | _,p,.mp _=>.gY p
 | d+1,p,.agg cs=>.agg (cs.mapIdx λi x=>fY d (p.push i) x)
 | d+1,p,.bI cs=>.bI (cs.mapIdx λi x=>fY d (p.push i) x)
 | 0,_,.agg _=>.dead
 | 0,_,.bI _=>.dead
 | _,_,x=>x
def p9 (t:Nat):ab->ab
 | .bD z _ n m _=>.bo z ⟨t,[]⟩ (n+m)
 | x=>fY 2 ⟨t,[]⟩ x
def jZ:Value->ab
 | .slice none 0 0=>.bb
 | .agg _=>.dead
 | .tuple _=>.dead
 | v=>.lit v
def ofConst:Value->ab
 | .agg vs=>if vs.all Value.oneCell' then .agg (vs.toList.map jZ) else .dead
 | .tuple _=>.dead
 | v=>jZ v
def bp (g:aH):Operand->Option ab
 | .tmp t=>(g t).map (p9 t)
 | .const v=>some (ofConst v)
 | .func f=>some (.dc (.func f) [] [])
 | .global _=>none
theorem Zj {d:Nat}{p:Place}{x:ab}{j:Nat × Nat}:fY d p x≠.self j:=by
 cases x with
 | obj cs=>cases d <;> cases cs <;> simp [fY]
 | _=>cases d <;> simp [fY]
theorem Zk {t:Nat}{x:ab}:r8 (p9 t x):=by
 intro cs h k j hk;cases x with
 | obj cs=>cases cs <;> simp [p9,fY] at h
 | agg l =>
  simp only [p9,fY,ab.agg.injEq] at h;subst h;rw [List.getElem?_mapIdx] at hk;cases J:l[k]? with
  | none=>rw [J] at hk; cases hk
  | some x=>rw [J] at hk; simp only [Option.map_some,Option.some.injEq] at hk; exact Zj hk
 | _=>simp [p9,fY] at h
theorem YB (v:Value) (j:Nat × Nat):jZ v≠.self j:=by
 unfold jZ; split <;> simp
theorem Pr (vs:List Value):uz (vs.map jZ):=λk j=>by
 rw [List.getElem?_map];cases vs[k]? with
 | none=>simp
 | some v=>simp [YB]
theorem Ks {g:aH}{o:Operand}{x:ab}(h:bp g o=some x):r8 x:=by
 cases o with
 | tmp t =>
  simp only [bp] at h;cases au:g t with
  | none=>rw [au] at h; cases h
  | some y=>rw [au] at h; simp only [Option.map_some,Option.some.injEq] at h; exact h ▸ Zk
 | const v =>
  simp only [bp,Option.some.injEq] at h;subst h;intro cs h;unfold ofConst at h
  split at h
  ·split at h
   ·cases h; exact Pr _
   ·cases h
  ·cases h
  ·unfold jZ at h; split at h <;> cases h
 | func f=>simp only [bp,Option.some.injEq] at h; subst h; intro cs h; cases h
 | global n=>cases h
abbrev cd:a7:=λ_=>False
section
variable {w:World}{I:a7}{T:Array Value}{g:aH}{Fs:Nat->a7}
theorem R.empty {ρ:ab->Value->Prop}{x:ab}{v:Value}{F:a7}(h:R w I ρ x v F) (aE:∀ c,¬ F c):R w I ρ x v cd:=h.tg λc=>⟨λaa=>aE c aa,λaa=>aa.elim⟩
theorem FQ:∀ (d:Nat) {p:Place}{x:ab}{v:Value}{F:a7},bB g p=some x->dL w T p=some v->R w I (dG w T g) x v F->R w I (dG w T g) (fY d p x) v cd:=by
 intro d
 induction d with
 | zero =>
  intro p x v F aw hv aU;cases aU with
  | lit ah aE=>exact .lit ah λ_ h=>h
  | bb aE=>exact .bb λ_ h=>h
  | dead aE=>exact .dead λ_ h=>h
  | j0 aE=>exact .dead λ_ h=>h
  | dt=>exact .dead λ_ h=>h
  | ref J ak aE=>cases x <;> simp [ab.isRef] at J <;> exact .ref rfl ak λ_ h=>h
  | mp=>exact .ref rfl ⟨⟨_,hv,rfl⟩,⟨_,aw⟩⟩ λ_ h=>h
  | imp aE a' aM ba=>exact .imp (λ_ h=>h) a' aM ba
  | hd aE=>exact .hd λ_ h=>h
  | bf aE kx a' av ah h1 aa ak=>exact .bf (λ_ h=>h) kx a' av ah h1 aa ak
  | cL aE a' av h1 aa ak=>exact .cL (λ_ h=>h) a' av h1 aa ak
  | own aM ah h1 ak aP ao aE =>
   have iQ:=R.own (I:=I) (ρ:=dG w T g) aM ah h1 ak aP ao aE;obtain ⟨a,cap,rfl,aA,_⟩:=iQ.mC;exact .ref rfl ⟨⟨a,_,cap,hv,rfl,Nat.le_refl _⟩,.inl ⟨_,_,aw,Nat.le_refl _⟩⟩ λ_ h=>h
  | @obj cs b e arr b5 _ aM ah h1 ak aP ao aE =>
   cases cs with
   | nil=>exact .dead λ_ h=>h
   | cons c cs=>exact .ref rfl ⟨⟨_,_,hv,rfl,rfl⟩,⟨_,aw,0,0,_,.inr rfl,by simp⟩⟩ λ_ h=>h
  | agg=>exact .dead λ_ h=>h
  | bI=>exact .dead λ_ h=>h
  | dc aE h1 af iR hr=>exact .dc (λ_ h=>h) h1 af iR hr
 | succ d aJ =>
  intro p x v F aw hv aU;cases aU with
  | lit ah aE=>exact .lit ah λ_ h=>h
  | bb aE=>exact .bb λ_ h=>h
  | dead aE=>exact .dead λ_ h=>h
  | j0 aE=>exact .dead λ_ h=>h
  | dt=>exact .dead λ_ h=>h
  | ref J ak aE=>cases x <;> simp [ab.isRef] at J <;> exact .ref rfl ak λ_ h=>h
  | mp=>exact .ref rfl ⟨⟨_,hv,rfl⟩,⟨_,aw⟩⟩ λ_ h=>h
  | imp aE a' aM ba=>exact .imp (λ_ h=>h) a' aM ba
  | hd aE=>exact .hd λ_ h=>h
  | bf aE kx a' av ah h1 aa ak=>exact .bf (λ_ h=>h) kx a' av ah h1 aa ak
  | cL aE a' av h1 aa ak=>exact .cL (λ_ h=>h) a' av h1 aa ak
  | own aM ah h1 ak aP ao aE =>
   have iQ:=R.own (I:=I) (ρ:=dG w T g) aM ah h1 ak aP ao aE;obtain ⟨a,cap,rfl,aA,_⟩:=iQ.mC;exact .ref rfl ⟨⟨a,_,cap,hv,rfl,Nat.le_refl _⟩,.inl ⟨_,_,aw,Nat.le_refl _⟩⟩ λ_ h=>h
  | @obj cs b e arr b5 _ aM ah h1 ak aP ao aE =>
   cases cs with
   | nil=>exact .dead λ_ h=>h
   | cons c cs=>exact .ref rfl ⟨⟨_,_,hv,rfl,rfl⟩,⟨_,aw,0,0,_,.inr rfl,by simp⟩⟩ λ_ h=>h
  | @agg cs vs b5 _ ah h1 ak aP aE =>
   refine .agg (Fs:=λ_=>cd) (by simpa using ah) h1 ?_ (λ_ _ _ _ _ h=>h.elim) (λc=>⟨λh=>h.elim,λ⟨_,_,h⟩=>h⟩);intro k y u ai hu;rw [List.getElem?_mapIdx] at ai;cases hk:cs[k]? with
   | none=>rw [hk] at ai; cases ai
   | some z =>
    rw [hk] at ai;cases ai;exact aJ (by rw [s',aw]; exact hk) (by rw [x8,hv]; exact hu) (ak k z u hk hu)
  | @bI cs vs b5 _ ah ak aP aE =>
   refine .bI (Fs:=λ_=>cd) (by simpa using ah) ?_ (λ_ _ _ _ _ h=>h.elim) (λc=>⟨λh=>h.elim,λ⟨_,_,h⟩=>h⟩);intro k y u ai hu;rw [List.getElem?_mapIdx] at ai;cases hk:cs[k]? with
   | none=>rw [hk] at ai; cases ai
   | some z =>
    rw [hk] at ai;cases ai;exact aJ (by rw [s',aw]; exact hk) (by rw [x8,hv]; exact hu) (ak k z u hk hu)
  | dc aE h1 af iR hr=>exact .dc (λ_ h=>h) h1 af iR hr
theorem Cu {ρ:ab->Value->Prop}(v:Value):R w I ρ (jZ v) v cd:=by
 unfold jZ;split
 ·exact .bb λ_ h=>h
 ·exact .dead λ_ h=>h
 ·exact .dead λ_ h=>h
 ·rename_i h1 af aF;refine .lit ?_ λ_ h=>h;cases v <;> first | rfl | (exact absurd rfl (af _)) | (exact absurd rfl (aF _))
theorem YD {ρ:ab->Value->Prop}(v:Value):R w I ρ (ofConst v) v cd:=by
 unfold ofConst;split
 ·rename_i vs;split
  ·rename_i fv;refine .agg (Fs:=λ_=>cd) (by simp) (λk u hu=>?_) ?_ (λ_ _ _ _ _ h=>h.elim) (λc=>⟨λh=>h.elim,λ⟨_,_,h⟩=>h⟩)
   ·exact Array.all_eq_true_iff_forall_mem.1 fv u (Array.mem_of_getElem? hu)
   ·intro k x u J hu;simp only [List.getElem?_map,Array.getElem?_toList,hu,Option.map_some,Option.some.injEq] at J;subst J;exact Cu u
  ·exact .dead λ_ h=>h
 ·exact .dead λ_ h=>h
 ·exact Cu v
theorem kZ (h:cG w I T g Fs) {x:Operand}{y:ab}(ai:bp g x=some y) {a:Act}(aQ:a.tmps=T):R w I (dG w T g) y (a.eval x) cd:=by
 cases x with
 | tmp t =>
  simp only [bp] at ai;cases J:g t with
  | none=>rw [J] at ai; cases ai
  | some z =>
   rw [J] at ai;simp only [Option.map_some,Option.some.injEq] at ai;obtain ⟨v,hv,aU⟩:=h.rel t z J;have tE:a.eval (.tmp t)=v:=by simp [Act.eval,aQ,hv]
   rw [tE];have aw:bB g ⟨t,[]⟩=some z:=by simp [bB,J,ab.at]
   have zk:dL w T ⟨t,[]⟩=some v:=by simp [dL,hv,walk]
   subst ai;cases aU with
   | tree aU =>
    cases z with
    | bD=>exact aU.kX.elim
    | _=>exact FQ 2 aw zk aU
   | @bD pc n m p new v bv e cu us news _ aU =>
    simp only [p9];have:∃ a cap,v=.slice a (n+m) cap:=by
     obtain ⟨_,af⟩:=aU.nb;rcases af with ⟨af,aF⟩ | ⟨b,cap,cur,af,_⟩
     ·exact ⟨none,0,by rw [af]; congr 1; omega⟩
     ·exact ⟨_,cap,af⟩
    obtain ⟨cb,cap,rfl⟩:=this;exact .ref rfl ⟨⟨cb,_,cap,zk,rfl,Nat.le_refl _⟩,.inr ⟨rfl,p,n,m,new,J,rfl⟩⟩ λ_ h=>h
 | const v=>simp only [bp,Option.some.injEq] at ai; subst ai; exact YD v
 | global n=>simp [bp] at ai
 | func f =>
  simp only [bp,Option.some.injEq] at ai;subst ai;exact .dc (λ_ h=>h) rfl rfl (by simp) (by simp)
end
end Go.Own
namespace Go.Own
open Go
set_option linter.unusedSectionVars false
variable [cw]
def jQ (P:Program) (t:TypeId):Bool :=
 match P.underlying t,P.info? t with
 | some (.struct _),_=>false
 | some (.array ..),_=>false
 | some _,some i=>i.size == 1
 | _,_=>false
def hX (P:Program) (t:TypeId) (k:Nat):Bool :=
 match P.underlying t,P.info? t with
 | some (.struct _),some i=>i.size == k
 | some (.array ..),some i=>i.size == k
 | _,_=>false
def fh (P:Program) (t e:TypeId) (z:Nat):Bool :=
 match P.underlying t,P.info? e with
 | some (.slice b0),some i=>b0 == e&&i.size == z
 | _,_=>false
def DZ (P:Program) (t e:TypeId) (n z:Nat):Bool :=
 match P.underlying t,P.info? e with
 | some (.array ck b0),some i=>ck == n&&b0 == e&&i.size == z
 | _,_=>false
def o' (P:Program) (t:TypeId):Bool :=
 match P.underlying t with
 | some .string=>true
 | _=>false
def yK (P:Program) (s d:TypeId):Bool :=
 match P.underlying s,P.underlying d with
 | some (.slice e),some .string=>match P.underlying e with
  | some (.int .u8)=>true
  | _=>false
 | _,_=>false
def iN (P:Program) (s:TypeId) (f off:Nat) (t:TypeId):Bool :=
 match P.underlying s with
 | some (.struct fs) =>
  match fs[f]? with
  | some fd=>fd.offset == off&&fd.type == t&&(match P.info? t with | some i=>i.size != 0 | none=>false)
  | none=>false
 | _=>false
section
variable {P:Program}{w:World}
theorem Hq {t:TypeId}(h:jQ P t=true):(isAgg t).run P w=.ok false w/\(sizeOf t).run P w=.ok 1 w:=by
 unfold jQ at h;cases hu:P.underlying t with
 | none=>simp [hu] at h
 | some d =>
  cases hi:P.info? t with
  | none=>cases d <;> simp [hu,hi] at h
  | some i=>cases d <;> simp [hu,hi] at h <;> simp [isAgg,run_underlying hu,sizeOf,typeInfo,hi,h]
theorem DU {t:TypeId}{k:Nat}(h:hX P t k=true):(isAgg t).run P w=.ok true w/\(sizeOf t).run P w=.ok k w:=by
 unfold hX at h;cases hu:P.underlying t with
 | none=>simp [hu] at h
 | some d =>
  cases hi:P.info? t with
  | none=>cases d <;> simp [hu,hi] at h
  | some i=>cases d <;> simp [hu,hi] at h <;> simp [isAgg,run_underlying hu,sizeOf,typeInfo,hi,h]
theorem qc {t e:TypeId}{z:Nat}(h:fh P t e z=true):P.underlying t=some (.slice e)/\P.elem t=e/\(sizeOf e).run P w=.ok z w:=by
 unfold fh at h;cases hu:P.underlying t with
 | none=>simp [hu] at h
 | some d =>
  cases hi:P.info? e with
  | none=>cases d <;> simp [hu,hi] at h
  | some i =>
   cases d <;> simp [hu,hi] at h;obtain ⟨rfl,h⟩:=h;exact ⟨rfl,by simp [Program.elem,hu],by simp [sizeOf,typeInfo,hi,h]⟩
theorem Ma {t e:TypeId}{n z:Nat}(h:DZ P t e n z=true):P.underlying t=some (.array n e)/\(sizeOf e).run P w=.ok z w:=by
 unfold DZ at h;cases hu:P.underlying t with
 | none=>simp [hu] at h
 | some d =>
  cases hi:P.info? e with
  | none=>cases d <;> simp [hu,hi] at h
  | some i =>
   cases d <;> simp [hu,hi] at h;obtain ⟨⟨rfl,rfl⟩,h⟩:=h;exact ⟨rfl,by simp [sizeOf,typeInfo,hi,h]⟩
theorem Mt {s d:TypeId}(h:yK P s d=true):∃ e,P.underlying s=some (.slice e)/\P.underlying e=some (.int .u8)/\P.underlying d=some .string:=by
 unfold yK at h
 split at h
 ·rename_i e h1 af
  split at h
  ·rename_i aF;exact ⟨e,h1,aF,af⟩
  ·cases h
 ·cases h
theorem KZ {t:TypeId}(h:o' P t=true):P.underlying t=some .string:=by
 unfold o' at h;cases hu:P.underlying t with
 | none=>simp [hu] at h
 | some d=>cases d <;> simp [hu] at h; rfl
theorem HM {s:TypeId}{f off:Nat}{t:TypeId}(h:iN P s f off t=true):∃ fs fd,P.underlying s=some (.struct fs)/\fs[f]?=some fd/\fd.offset=off/\fd.type=t/\∃ i,P.info? t=some i/\i.size≠0:=by
 unfold iN at h;cases hu:P.underlying s with
 | none=>simp [hu] at h
 | some d =>
  cases d <;> simp [hu] at h;rename_i fs;cases aV:fs[f]? with
  | none=>simp [aV] at h
  | some fd =>
   simp [aV] at h;obtain ⟨⟨h1,af⟩,aF⟩:=h;cases hi:P.info? t with
   | none=>simp [hi] at aF
   | some i=>simp [hi] at aF; exact ⟨fs,fd,rfl,aV,h1,af,i,rfl,aF⟩
theorem add_eq (b o k:Nat):(⟨b,o,none⟩:Addr).add k=⟨b,o+k,none⟩:=by
 unfold Addr.add;split
 ·rename_i h; subst h; rfl
 ·rfl
theorem P2 {s:TypeId}{f off:Nat}{t:TypeId}(h:iN P s f off t=true) (b o:Nat):(Instr.fieldAt s (.pointer (some ⟨b,o,none⟩)) f).run P w=.ok (.pointer (some ⟨b,o+off,none⟩)) w:=by
 obtain ⟨fs,fd,hu,aV,rfl,rfl,i,hi,aI⟩:=HM h;simp [Instr.fieldAt,run_underlying hu,aV,Instr.sureAddr,fieldPlace,sizeOf,typeInfo,hi,aI,add_eq]
theorem P4 {t:TypeId}(h:jQ P t=true) {a:Addr}{v:Value}(aa:w.cell? a=some v):(Instr.loadAt t (.pointer (some a))).run P w=.ok v w:=by
 obtain ⟨h1,af⟩:=Hq (w:=w) h;simp [Instr.loadAt,Instr.sureAddr,loadVar,h1,aa]
theorem P3 {t:TypeId}{k:Nat}(h:hX P t k=true) {b o:Nat}{vs:List Value}(ah:vs.length=k) (aa:∀ j v,vs[j]?=some v->w.cell? ⟨b,o+j,none⟩=some v) :
  (Instr.loadAt t (.pointer (some ⟨b,o,none⟩))).run P w=.ok (.agg vs.toArray) w:=by
 obtain ⟨h1,af⟩:=DU (w:=w) h;have:=run_loadCells_list (P:=P) w ⟨b,o,none⟩ vs (λj v ag=>by rw [add_eq]; exact aa j v ag);rw [ah] at this;simp [Instr.loadAt,Instr.sureAddr,loadVar,h1,af,this]
end
end Go.Own
namespace Go.Own
open Go
set_option linter.unusedSectionVars false
variable [cw]
section
variable {w:World}{I:a7}{ρ:ab->Value->Prop}{v:Value}{F:a7}
theorem R.gW {a:Value}(h:R w I ρ (.lit a) v F):v=a/\a.oneCell'=true:=by
 cases h with
 | lit hv=>exact ⟨rfl,hv⟩
 | ref J=>simp [ab.isRef] at J
theorem R.p1 (h:R w I ρ .bb v F):v=.slice none 0 0:=by
 cases h with
 | bb=>rfl
 | ref J=>simp [ab.isRef] at J
theorem R.mz {p:Place}{k:Nat}(h:R w I ρ (.ptr p k) v F):ρ (.ptr p k) v:=by
 cases h with
 | ref J h=>exact h
theorem R.my {z:Nat}{p:Place}{n:Nat}(h:R w I ρ (.bo z p n) v F):ρ (.bo z p n) v:=by
 cases h with
 | ref J h=>exact h
theorem R.xn {z:Nat}{p:Place}{lo n:Nat}(h:R w I ρ (.sub z p lo n) v F):ρ (.sub z p lo n) v:=by
 cases h with
 | ref J h=>exact h
theorem R.zm {z n:Nat}{cs:List ab}(h:R w I ρ (.bf z n cs) v F):∃ a cap,v=.slice a n cap/\n<=cap/\cs.length=n * z /\
  (cs≠[]\/0<n->∃ (ad:Addr) (us:Nat->Value),a=some ad/\I ad.block/\ad.spot=none/\(∀ (k:Nat) (x:ab),cs[k]?=some x->(us k).oneCell'=true)/\(∀ (k:Nat) (x:ab),cs[k]?=some x->w.cell? ⟨ad.block,ad.off+k,none⟩=some (us k))/\∀ (k:Nat) (x:ab),cs[k]?=some x->R w I ρ x (us k) cd):=by
 cases h with
 | @hd _ cap a=>exact ⟨a,cap,rfl,Nat.zero_le _,by simp,λh=>by simp at h⟩
 | @bf _ _ cap _ ad us _ aE kx a' av ah h1 aa ak=>exact ⟨_,cap,rfl,kx,ah,λ_=>⟨ad,us,rfl,a',av,h1,aa,ak⟩⟩
 | ref J=>simp [ab.isRef] at J
theorem R.xm {cs:List ab}(h:R w I ρ (.cL cs) v F):∃ (ad:Addr) (us:Nat->Value),v=.pointer (some ad)/\I ad.block/\ad.spot=none/\(∀ (k:Nat) (x:ab),cs[k]?=some x->(us k).oneCell'=true)/\(∀ (k:Nat) (x:ab),cs[k]?=some x->w.cell? ⟨ad.block,ad.off+k,none⟩=some (us k))/\∀ (k:Nat) (x:ab),cs[k]?=some x->R w I ρ x (us k) cd:=by
 cases h with
 | @cL _ ad us _ aE a' av h1 aa ak=>exact ⟨ad,us,rfl,a',av,h1,aa,ak⟩
 | ref J=>simp [ab.isRef] at J
theorem R.B6 {cs:List ab}(h:R w I ρ (.agg cs) v F) (aE:∀ c,¬ F c):∃ vs:Array Value,v=.agg vs/\cs.length=vs.size/\(∀ (k:Nat) (u:Value),vs[k]?=some u->u.oneCell'=true)/\∀ (k:Nat) (x:ab) (u:Value),cs[k]?=some x->vs[k]?=some u->R w I ρ x u cd:=by
 cases h with
 | @agg _ vs Fs _ ah h1 ak aP oQ=>exact ⟨vs,rfl,ah,h1,λk x u J hu=>(ak k x u J hu).empty λc aa=>aE c ((oQ c).2 ⟨k,(List.getElem?_eq_some_iff.1 J).1,aa⟩)⟩
 | ref J=>simp [ab.isRef] at J
theorem R.X3 {cs:List ab}(h:R w I ρ (.bI cs) v F) (aE:∀ c,¬ F c):∃ vs:Array Value,v=.tuple vs/\cs.length=vs.size/\∀ (k:Nat) (x:ab) (u:Value),cs[k]?=some x->vs[k]?=some u->R w I ρ x u cd:=by
 cases h with
 | @bI _ vs Fs _ ah ak aP oQ=>exact ⟨vs,rfl,ah,λk x u J hu=>(ak k x u J hu).empty λc aa=>aE c ((oQ c).2 ⟨k,(List.getElem?_eq_some_iff.1 J).1,aa⟩)⟩
 | ref J=>simp [ab.isRef] at J
theorem R.node {y:ab}{z n:Nat}{cs:List ab}(h:R w I ρ y v F) (ai:y=.own z n cs\/y=.obj cs) {k:Nat}{x:ab}(hk:cs[k]?=some x) :
  ∃ b u,addrOf v=some ⟨b,0,none⟩/\w.cell? ⟨b,k,none⟩=some u/\child w v k=some u/\u.oneCell'=true/\∃ bH,R w I ρ x u bH:=by
 rcases ai with rfl | rfl
 ·cases h with
  | @own _ _ _ _ e us Fs _ aM ah h1 ak aP ao aE =>
   have aK:k<cs.length:=(List.getElem?_eq_some_iff.1 hk).1;have hu:us[k]?=some us[k]:=List.getElem?_eq_getElem (ah ▸ aK);have m_:=ow aM hu;obtain ⟨iu,af⟩:=aM;rcases af with ⟨rfl,rfl⟩ | ⟨b,cap,cur,rfl,aL,br,rest⟩
   ·grind
   ·exact ⟨b,_,rfl,by simpa [child] using m_,m_,h1 k _ hu,Fs k,ak k x _ hk hu⟩
  | ref J=>simp [ab.isRef] at J
 ·cases h with
  | @obj _ b e arr Fs _ aM ah h1 ak aP ao aE =>
   have aK:k<cs.length:=(List.getElem?_eq_some_iff.1 hk).1;have hu:arr[k]?=some arr[k]:=Array.getElem?_eq_getElem (ah ▸ aK);exact ⟨b,_,rfl,by simp [World.cell?,aM,hu],by simp [child,World.cell?,aM,hu],h1 k _ hu,Fs k,ak k x _ hk hu⟩
  | ref J=>simp [ab.isRef] at J
end
def pd (g:aH) (d:Nat):Option Operand->Nat->Prop
 | none,j=>j=d
 | some o,j=>∃ k,bp g o=some (.lit (.int k (j:Int)))
inductive c9 (P:Program) (g:aH):Op->TypeId->ab->Prop
 | move {x:Operand}{ty:TypeId}{y:ab}(J:bp g x=some y):c9 P g (.move x) ty y
 | assign {x:Operand}{ty:TypeId}{y:ab}(J:bp g x=some y):c9 P g (.assign x) ty y
 | pick {c a b:Operand}{ty:TypeId}{t:Bool}{r:ab}(aa:bp g c=some (.lit (.bool t))) (ak:bp g (if t then a else b)=some r):c9 P g (.pick c a b) ty r
 | Fu {x:Operand}{ty:TypeId}{p:Place}{k:Nat}(J:bp g x=some (.ptr p k)):c9 P g (.nilCheck x) ty (.ptr p k)
 | p3 {x:Operand}{ty:TypeId}{cs:List ab}(J:bp g x=some (.cL cs)):c9 P g (.nilCheck x) ty (.cL cs)
 | A9 {x:Operand}{ty s t:TypeId}{f off:Nat}{p:Place}{k:Nat}(J:bp g x=some (.ptr p k)) (aV:iN P s f off t=true) (dD:gF g (.ptr p (k+off))):c9 P g (.fieldAddr s x f) ty (.ptr p (k+off))
 | El {x:Operand}{ty s t:TypeId}{f off:Nat}{cs:List ab}(J:bp g x=some (.cL cs)) (aV:iN P s f off t=true):c9 P g (.fieldAddr s x f) ty (.cL (cs.drop off))
 | HJ {x:Operand}{ty s t:TypeId}{f off:Nat}{cs:List ab}{y:ab}(J:bp g x=some (.agg cs)) (aV:iN P s f off t=true) (au:jQ P t=true) (ai:cs[off]?=some y):c9 P g (.field s x f) ty y
 | HK {x:Operand}{ty s t:TypeId}{f off k:Nat}{cs:List ab}(J:bp g x=some (.agg cs)) (aV:iN P s f off t=true) (au:hX P t k=true) (hk:off+k<=cs.length):c9 P g (.field s x f) ty (.agg ((cs.drop off).take k))
 | E6 {x i:Operand}{ty t e:TypeId}{z n:Nat}{cs:List ab}{ni:IntKind}{j:Nat}(J:bp g x=some (.bf z n cs)) (hi:bp g i=some (.lit (.int ni (j:Int)))) (au:fh P t e z=true) (ag:j<n):c9 P g (.indexAddr t x i) ty (.cL (cs.drop (j * z)))
 | E5 {x i:Operand}{ty t e:TypeId}{z n:Nat}{p:Place}{ni:IntKind}{j:Nat}(J:bp g x=some (.bo z p n)) (hi:bp g i=some (.lit (.int ni (j:Int)))) (au:fh P t e z=true) (ag:j<n) (dD:gF g (.ptr p (j * z))):c9 P g (.indexAddr t x i) ty (.ptr p (j * z))
 | JJ {x i:Operand}{ty t e:TypeId}{z lo n:Nat}{p:Place}{ni:IntKind}{j:Nat}(J:bp g x=some (.sub z p lo n)) (hi:bp g i=some (.lit (.int ni (j:Int)))) (au:fh P t e z=true) (ag:j<n) (dD:gF g (.ptr p ((lo+j) * z))):c9 P g (.indexAddr t x i) ty (.ptr p ((lo+j) * z))
 | JI {x i:Operand}{ty t e:TypeId}{n z k:Nat}{p:Place}{ni:IntKind}{j:Nat}(J:bp g x=some (.ptr p k)) (hi:bp g i=some (.lit (.int ni (j:Int)))) (au:DZ P t e n z=true) (ag:j<n) (dD:gF g (.ptr p (k+j * z))):c9 P g (.indexAddr t x i) ty (.ptr p (k+j * z))
 | JH {x i:Operand}{ty t e:TypeId}{n z:Nat}{cs:List ab}{ni:IntKind}{j:Nat}(J:bp g x=some (.cL cs)) (hi:bp g i=some (.lit (.int ni (j:Int)))) (au:DZ P t e n z=true) (ag:j<n):c9 P g (.indexAddr t x i) ty (.cL (cs.drop (j * z)))
 | Fh {x:Operand}{ty t:TypeId}{c:ab}{cs:List ab}(J:bp g x=some (.cL (c::cs))) (au:jQ P t=true):c9 P g (.load t x) ty c
 | Fi {x:Operand}{ty t:TypeId}{k:Nat}{cs:List ab}(J:bp g x=some (.cL cs)) (au:hX P t k=true) (hk:k<=cs.length):c9 P g (.load t x) ty (.agg (cs.take k))
 | Cj {x:Operand}{ty t:TypeId}{p:Place}{k:Nat}{y:ab}(J:bp g x=some (.ptr p k)) (au:jQ P t=true) (ai:bB g (p.push k)=some y):c9 P g (.load t x) ty (fY 0 (p.push k) y)
 | zt {x:Operand}{ty t:TypeId}{p:Place}{k m z n:Nat}{y:ab}{cs:List ab}(J:bp g x=some (.ptr p k)) (au:hX P t m=true) (ai:bB g p=some y) (aa:y=.own z n cs\/y=.obj cs) (hm:k+m<=cs.length):c9 P g (.load t x) ty (.agg (((cs.drop k).take m).mapIdx λi x=>fY 0 (p.push (k+i)) x))
 | E7 {x i:Operand}{ty t:TypeId}{s:ByteArray}{ni:IntKind}{j:Nat}{b:UInt8}(J:bp g x=some (.lit (.string s))) (hi:bp g i=some (.lit (.int ni (j:Int)))) (au:o' P t=true) (ao:s[j]?=some b):c9 P g (.index t x i) ty (.lit (.int .u8 b.toNat))
 | bin {op:BinOp}{x y:Operand}{ty t t2:TypeId}{a b v:Value}(J:bp g x=some (.lit a)) (ai:bp g y=some (.lit b)) (hv:v.oneCell'=true) (ak:∀ w,(do eqGuard op t x y a b; binOp op t a b:Sem Value).run P w=.ok v w):c9 P g (.binOp op t x y t2) ty (.lit v)
 | AO {op:BinOp}{x y:Operand}{ty t t2:TypeId}{dA bs:List Value}{v:Value}(J:bp g x=some (.agg (dA.map .lit))) (ai:bp g y=some (.agg (bs.map .lit))) (hv:v.oneCell'=true) (ak:∀ w,(do eqGuard op t x y (.agg dA.toArray) (.agg bs.toArray); binOp op t (.agg dA.toArray) (.agg bs.toArray):Sem Value).run P w=.ok v w):c9 P g (.binOp op t x y t2) ty (.lit v)
 | un {op:UnOp}{x:Operand}{ty t:TypeId}{a v:Value}(J:bp g x=some (.lit a)) (hv:v.oneCell'=true) (ak:∀ w,(Op.unary op a).run P w=.ok v w):c9 P g (.unOp op t x) ty (.lit v)
 | conv {x:Operand}{ty s d:TypeId}{a v:Value}(J:bp g x=some (.lit a)) (hv:v.oneCell'=true) (ak:∀ w,(convert s d a).run P w=.ok v w):c9 P g (.convert s d x) ty (.lit v)
 | Hw {x:Operand}{ty s d:TypeId}{n N:Nat}{p:Place}{cs:List ab}{xs:List Int}(J:bp g x=some (.bo 1 p n)) (aw:bB g p=some (.own 1 N cs)) (aA:n<=N) (gB:cs.take n=xs.map λb=>.lit (.int .u8 b)) (au:yK P s d=true):c9 P g (.convert s d x) ty (.lit (.string (strOfNums xs)))
 | D' {x:Operand}{ty s d:TypeId}{n:Nat}{xs:List Int}(J:bp g x=some (.bf 1 n (xs.map λb=>.lit (.int .u8 b)))) (au:yK P s d=true):c9 P g (.convert s d x) ty (.lit (.string (strOfNums xs)))
 | Eh {xs:Array Operand}{fT:Array TypeId}{ty:TypeId}{f:FuncId}{vs:List Value}{v:Value}(J:xs.toList.map (bp g)=vs.map λv=>some (.lit v)) (hv:v.oneCell'=true)
   (ak:∀ w,(callFunc f vs.toArray).run P w=.ok (.value v) w):c9 P g (.call { callee:=.value (.func f),args:=xs,argTypes:=fT }) ty (.lit v)
 | Ei {x:Operand}{ty:TypeId}{i:Nat}{cs:List ab}{y:ab}(J:bp g x=some (.bI cs)) (ai:cs[i]?=some y):c9 P g (.extract x i) ty y
 | De {x:Operand}{lo hi:Option Operand}{ty t e:TypeId}{z n l h:Nat}{cs:List ab}(J:bp g x=some (.bf z n cs)) (ah:pd g 0 lo l) (br:pd g n hi h) (au:fh P t e z=true) (su:l<=h) (aA:h<=n):c9 P g (.slice t x lo hi none) ty (.bf z (h - l) ((cs.drop (l * z)).take ((h - l) * z)))
 | F4 {x:Operand}{lo hi:Option Operand}{ty t e:TypeId}{z n h:Nat}{p:Place}(J:bp g x=some (.bo z p n)) (ah:pd g 0 lo 0) (br:pd g n hi h) (au:fh P t e z=true) (aA:h<=n) (dD:gF g (.bo z p h)):c9 P g (.slice t x lo hi none) ty (.bo z p h)
 | F3 {x:Operand}{lo hi:Option Operand}{ty t e:TypeId}{z n l h:Nat}{p:Place}(J:bp g x=some (.bo z p n)) (ah:pd g 0 lo l) (br:pd g n hi h) (au:fh P t e z=true) (su:l<=h) (aA:h<=n) (dD:gF g (.sub z p l (h - l))):c9 P g (.slice t x lo hi none) ty (.sub z p l (h - l))
 | Df {x:Operand}{lo hi:Option Operand}{ty t:TypeId}{l h:Nat}{s:ByteArray}(J:bp g x=some (.lit (.string s))) (ah:pd g 0 lo l) (br:pd g s.size hi h) (au:o' P t=true) (su:l<=h) (aA:h<=s.size):c9 P g (.slice t x lo hi none) ty (.lit (.string (s.extract l h)))
 | Ff {x:Operand}{ty t e:TypeId}{z bM n:Nat}{cs:List ab}(J:bp g x=some (.bf z n cs)) (au:fh P t e bM=true):c9 P g (.call { callee:=.builtin .len,args:=#[x],argTypes:=#[t] }) ty (.lit (.int .i64 n))
 | Fe {x:Operand}{ty t e:TypeId}{z bM n:Nat}{p:Place}(J:bp g x=some (.bo z p n)) (au:fh P t e bM=true):c9 P g (.call { callee:=.builtin .len,args:=#[x],argTypes:=#[t] }) ty (.lit (.int .i64 n))
 | J' {x:Operand}{ty t e:TypeId}{z bM lo n:Nat}{p:Place}(J:bp g x=some (.sub z p lo n)) (au:fh P t e bM=true):c9 P g (.call { callee:=.builtin .len,args:=#[x],argTypes:=#[t] }) ty (.lit (.int .i64 n))
 | J_ {x:Operand}{ty t e:TypeId}{bM:Nat}(J:bp g x=some .bb) (au:fh P t e bM=true):c9 P g (.call { callee:=.builtin .len,args:=#[x],argTypes:=#[t] }) ty (.lit (.int .i64 0))
 | lits {b:Builtin}{xs:Array Operand}{fT:Array TypeId}{ty:TypeId}{vs:List Value}{v:Value}(J:xs.toList.map (bp g)=vs.map λv=>some (.lit v)) (hv:v.oneCell'=true)
   (ak:∀ w (cs:Array Bool),(builtin b fT ty cs vs.toArray).run P w=.ok (.value v) w):c9 P g (.call { callee:=.builtin b,args:=xs,argTypes:=fT }) ty (.lit v)
 | Ke {x y:Operand}{ty t:TypeId}{p:Place}{q:Array MapEntry->Nat->Prop}{ok:Bool}{Y X:ab}{sK V:Value}(J:bp g x=some (.gY p)) (aw:bB g p=some (.mp q)) (ai:bp g y=some Y)
   (dk:∀ (w:World) (I:a7) (ρ:ab->Value->Prop) (v:Value),R w I ρ Y v cd->v=sK) (aU:∀ (w:World) (I:a7) (ρ:ab->Value->Prop),R w I ρ X V cd)
   (ak:∀ (w:World) (b:Nat) (es:Array MapEntry) (clock:Nat),w.heap[b]?=some (.map es clock)->q es clock->(Instr.lookup t (.map (some b)) sK ok).run P w=.ok V w):c9 P g (.lookup t x y ok) ty X
 | Kd {x y:Operand}{ty t:TypeId}{q:Array MapEntry->Nat->Prop}{ok:Bool}{Y X:ab}{sK V:Value}(J:bp g x=some (.imp q)) (ai:bp g y=some Y)
   (dk:∀ (w:World) (I:a7) (ρ:ab->Value->Prop) (v:Value),R w I ρ Y v cd->v=sK) (aU:∀ (w:World) (I:a7) (ρ:ab->Value->Prop),R w I ρ X V cd)
   (ak:∀ (w:World) (b:Nat) (es:Array MapEntry) (clock:Nat),w.heap[b]?=some (.map es clock)->q es clock->(Instr.lookup t (.map (some b)) sK ok).run P w=.ok V w):c9 P g (.lookup t x y ok) ty X
theorem R.X2 {w:World}{I:a7}{ρ:ab->Value->Prop}{p:Place}{v:Value}{F:a7}(h:R w I ρ (.gY p) v F):ρ (.gY p) v:=by
 cases h with
 | ref _ h _=>exact h
theorem R.X1 {w:World}{I:a7}{ρ:ab->Value->Prop}{q:Array MapEntry->Nat->Prop}{v:Value}{F:a7}(h:R w I ρ (.mp q) v F):∃ b es clock,v=.map (some b)/\w.heap[b]?=some (.map es clock)/\q es clock/\∀ c,F c↔c=b:=by
 cases h with
 | ref J=>simp [ab.isRef] at J
 | mp aM ba aE=>exact ⟨_,_,_,rfl,aM,ba,aE⟩
theorem R.X0 {w:World}{I:a7}{ρ:ab->Value->Prop}{q:Array MapEntry->Nat->Prop}{v:Value}{F:a7}(h:R w I ρ (.imp q) v F):∃ b es clock,v=.map (some b)/\w.heap[b]?=some (.map es clock)/\q es clock:=by
 cases h with
 | ref J=>simp [ab.isRef] at J
 | imp _ _ aM ba=>exact ⟨_,_,_,rfl,aM,ba⟩
end Go.Own
namespace Go.Own
open Go
set_option linter.unusedSectionVars false
variable [cw]
section
variable {P:Program}{w:World}{I:a7}{T:Array Value}{g:aH}{Fs:Nat->a7}
theorem pd.sound (h:cG w I T g Fs) {d:Nat}{x:Option Operand}{j:Nat}(ao:pd g d x j) {a:Act}(aQ:a.tmps=T):(x.map a.eval=none/\j=d)\/∃ k,x.map a.eval=some (.int k (j:Int)):=by
 cases x with
 | none=>exact .inl ⟨rfl,ao⟩
 | some o =>
  obtain ⟨k,hk⟩:=ao;exact .inr ⟨k,by rw [Option.map_some,(kZ h hk aQ).gW.1]⟩
theorem FV {len cap l h:Nat}{lo hi:Option Value}(ah:(lo=none/\l=0)\/∃ k,lo=some (.int k (l:Int))) (br:(hi=none/\h=len)\/∃ k,hi=some (.int k (h:Int))) (b:Bool) (su:l<=h) (aa:h<=cap) :
  (Instr.sliceBounds b len cap lo hi none).run P w=.ok (l,h,cap) w:=by
 rcases ah with ⟨rfl,rfl⟩ | ⟨k,rfl⟩ <;> rcases br with ⟨rfl,rfl⟩ | ⟨ke,rfl⟩ <;> simp [Instr.sliceBounds,Instr.sliceBound,asIntOf,su,aa]
theorem O6 (h:cG w I T g Fs) {a:Act}(aQ:a.tmps=T):∀ (xs:List Operand) (vs:List Value),xs.map (bp g)=vs.map (λv=>some (.lit v))->xs.map a.eval=vs
 | [],[],_=>rfl
 | [],_::_,h=>by simp at h
 | _::_,[],h=>by simp at h
 | x::xs,v::vs,J=>by
  simp only [List.map_cons,List.cons.injEq] at J;rw [List.map_cons,(kZ h J.1 aQ).gW.1,O6 h aQ xs vs J.2]
theorem L0 {w:World}{I:a7}{ρ:ab->Value->Prop}{v:Value}{dA:List Value}
  (h:∃ vs:Array Value,v=.agg vs/\(dA.map ab.lit).length=vs.size/\(∀ (k:Nat) (u:Value),vs[k]?=some u->u.oneCell'=true)/\∀ (k:Nat) (x:ab) (u:Value),(dA.map ab.lit)[k]?=some x->vs[k]?=some u->R w I ρ x u cd):v=.agg dA.toArray:=by
 obtain ⟨vs,rfl,ah,-,ak⟩:=h;congr 1;apply Array.ext (by simpa using ah.symm);intro i h1 af;have aF:i<dA.length:=by simpa using af
 have:=(ak i (.lit dA[i]) vs[i] (by simp [aF]) (Array.getElem?_eq_getElem h1)).gW.1
 grind
theorem c9.sound (h:cG w I T g Fs) {a:Act}(aQ:a.tmps=T) {o:Oper}{kk:ab}(aw:c9 P g o.op o.type kk) :
  ∃ v,(execOp a.eval o).run P w=.ok (.value v) w/\R w I (dG w T g) kk v cd:=by
 obtain ⟨dst,op,ty,pos,after,guard⟩:=o;simp only at aw;have fA:∀ {x:Operand}{y:ab},bp g x=some y->R w I (dG w T g) y (a.eval x) cd:=λai=>kZ h ai aQ;have no:∀ c,¬ cd c:=λ_ h=>h;cases aw with
 | move J=>exact ⟨_,by simp [execOp],fA J⟩
 | assign J=>exact ⟨_,by simp [execOp],fA J⟩
 | @pick c x y _ t r aa ak =>
  have so:=(fA aa).gW.1;refine ⟨_,?_,fA ak⟩;simp [execOp,so,asBool]
  grind
 | @Fu x _ p k J =>
  have ak:=fA J;obtain ⟨⟨u,ad,h1,af,aF⟩,bk⟩:=ak.mz
  simp_all [execOp]
 | @p3 x _ cs J =>
  have ak:=fA J;obtain ⟨ad,us,aF,_⟩:=ak.xm
  simp_all [execOp]
 | @A9 x _ s t f off p k J aV dD =>
  obtain ⟨⟨u,ad,h1,af,aF⟩,bk⟩:=(fA J).mz;refine ⟨.pointer (some ⟨ad.block,ad.off+k+off,none⟩),by simp [execOp,aF,P2 aV],.ref rfl ⟨⟨u,ad,h1,af,by rw [Nat.add_assoc]⟩,dD⟩ no⟩
 | @El x _ s t f off cs J aV =>
  obtain ⟨ad,us,aF,a',av,fw,aa,ak⟩:=(fA J).xm;obtain ⟨b,o,sp⟩:=ad;simp only at av;subst av;refine ⟨.pointer (some ⟨b,o+off,none⟩),by simp [execOp,aF,P2 aV],.cL (us:=λk=>us (off+k)) no a' rfl (λk x hk=>fw _ x (by rwa [List.getElem?_drop] at hk)) (λk x hk=>?_) λk x hk=>?_⟩
  ·grind
  grind
 | @HJ x _ s t f off cs y J aV au ai =>
  obtain ⟨vs,aF,ah,fw,ak⟩:=(fA J).B6 no;obtain ⟨fs,fd,hu,IJ,rfl,rfl,i,hi,aI⟩:=HM aV;have hk:fd.offset<cs.length:=(List.getElem?_eq_some_iff.1 ai).1;have hv:vs[fd.offset]?=some vs[fd.offset]:=Array.getElem?_eq_getElem (ah ▸ hk);refine ⟨_,?_,ak _ kk _ ai hv⟩;simp [execOp,aF,Instr.field,run_underlying hu,IJ,asAgg,part,(Hq (w:=w) au).1,hv]
 | @HK x _ s t f off k cs J aV au hk =>
  obtain ⟨vs,aF,ah,fw,ak⟩:=(fA J).B6 no;obtain ⟨fs,fd,hu,IJ,rfl,rfl,i,hi,aI⟩:=HM aV;refine ⟨.agg (vs.extract fd.offset (fd.offset+k)),?_,.agg (Fs:=λ_=>cd) (by simp [ah]; omega) (λj u ht=>by
   rw [Array.getElem?_extract] at ht
   grind) (λj y u ai ht=>?_) (λ_ _ _ _ _ h=>h.elim) (λc=>⟨λh=>h.elim,λ⟨_,_,h⟩=>h⟩)⟩
  ·simp [execOp,aF,Instr.field,run_underlying hu,IJ,asAgg,part,(DU (w:=w) au).1,(DU (w:=w) au).2]
  grind
 | @E6 x i _ t e z n cs ni j J hi au ag =>
  obtain ⟨hu,he,aT⟩:=qc (w:=w) au;obtain ⟨k8,cap,aF,_,ah,hm⟩:=(fA J).zm;obtain ⟨ad,us,rfl,a',av,fw,aa,ak⟩:=hm (.inr (by omega));obtain ⟨b,o,sp⟩:=ad;simp only at av;subst av;have sr:=(fA hi).gW.1;refine ⟨.pointer (some ⟨b,o+j * z,none⟩),?_,.cL (us:=λk=>us (j * z+k)) no a' rfl (λk x hk=>fw _ x (by rwa [List.getElem?_drop] at hk)) (λk x hk=>?_) λk x hk=>?_⟩
  ·simp [execOp,aF,sr,Instr.indexAt,run_underlying hu,asIntOf,ag,aT,add_eq]
  ·grind
  grind
 | @E5 x i _ t e z n p ni j J hi au ag dD =>
  obtain ⟨hu,he,aT⟩:=qc (w:=w) au;obtain ⟨⟨k8,N,cap,h1,af,aF⟩,bk⟩:=(fA J).my;have sr:=(fA hi).gW.1;obtain ⟨y,ai,pc,ev,cs,ei,aK⟩:=dD;obtain ⟨v,cD,hv,dv,_⟩:=h.part ai (by rcases ei with rfl | rfl <;> simp);rw [h1] at hv;cases hv;obtain ⟨b,u,ft,jt,_,_⟩:=dv.node ei (List.getElem?_eq_getElem aK);cases k8 with
  | none=>simp [addrOf] at ft
  | some ad =>
   simp only [addrOf,Option.some.injEq] at ft;subst ft;refine ⟨.pointer (some ⟨b,j * z,none⟩),?_,.ref rfl ⟨⟨_,_,h1,rfl,by simp⟩,y,ai,pc,ev,cs,ei,aK⟩ no⟩;simp [execOp,af,sr,Instr.indexAt,run_underlying hu,asIntOf,ag,aT,add_eq]
 | @JJ x i _ t e z lo n p ni j J hi au ag dD =>
  obtain ⟨hu,he,aT⟩:=qc (w:=w) au;obtain ⟨⟨k8,N,cap,cb,ml,h1,af,_,aF,b2⟩,bk⟩:=(fA J).xn;obtain ⟨ad,rfl,rfl⟩:=b2 (by omega);have sr:=(fA hi).gW.1;obtain ⟨y,ai,pc,ev,cs,ei,aK⟩:=dD;obtain ⟨v,cD,hv,dv,_⟩:=h.part ai (by rcases ei with rfl | rfl <;> simp);rw [h1] at hv;cases hv;obtain ⟨b,u,ft,jt,_,_⟩:=dv.node ei (List.getElem?_eq_getElem aK);simp only [addrOf,Option.some.injEq] at ft;subst ft;refine ⟨.pointer (some ⟨b,(lo+j) * z,none⟩),?_,.ref rfl ⟨⟨_,_,h1,rfl,by simp⟩,y,ai,pc,ev,cs,ei,aK⟩ no⟩;simp [execOp,af,sr,Instr.indexAt,run_underlying hu,asIntOf,ag,aT,add_eq,Nat.add_mul]
 | @JI x i _ t e n z k p ni j J hi au ag dD =>
  obtain ⟨hu,aT⟩:=Ma (w:=w) au;obtain ⟨⟨u,ad,h1,af,aF⟩,bk⟩:=(fA J).mz;have sr:=(fA hi).gW.1;refine ⟨.pointer (some ⟨ad.block,ad.off+k+j * z,none⟩),?_,.ref rfl ⟨⟨u,ad,h1,af,by rw [Nat.add_assoc]⟩,dD⟩ no⟩;simp [execOp,aF,sr,Instr.indexAt,run_underlying hu,Instr.sureAddr,asIntOf,ag,aT,add_eq]
 | @JH x i _ t e n z cs ni j J hi au ag =>
  obtain ⟨hu,aT⟩:=Ma (w:=w) au;obtain ⟨ad,us,aF,a',av,fw,aa,ak⟩:=(fA J).xm;obtain ⟨b,o,sp⟩:=ad;simp only at av;subst av;have sr:=(fA hi).gW.1;refine ⟨.pointer (some ⟨b,o+j * z,none⟩),?_,.cL (us:=λk=>us (j * z+k)) no a' rfl (λk x hk=>fw _ x (by rwa [List.getElem?_drop] at hk)) (λk x hk=>?_) λk x hk=>?_⟩
  ·simp [execOp,aF,sr,Instr.indexAt,run_underlying hu,Instr.sureAddr,asIntOf,ag,aT,add_eq]
  ·grind
  grind
 | @Fh x _ t c cs J au =>
  obtain ⟨ad,us,aF,a',av,fw,aa,ak⟩:=(fA J).xm;obtain ⟨b,o,sp⟩:=ad;simp only at av;subst av;have aI:w.cell? ⟨b,o,none⟩=some (us 0):=by simpa using aa 0 kk rfl
  simp_all [execOp,P4]
 | @Fi x _ t k cs J au hk =>
  obtain ⟨ad,us,aF,a',av,fw,aa,ak⟩:=(fA J).xm;obtain ⟨b,o,sp⟩:=ad;simp only at av;subst av;have Ww:∀ j v,((List.range k).map us)[j]?=some v->w.cell? ⟨b,o+j,none⟩=some v:=by
   grind
  refine ⟨.agg ((List.range k).map us).toArray,by simp [execOp,aF,P3 au (by simp) Ww],.agg (Fs:=λ_=>cd) (by simp; omega) (λj u ht=>by
   grind) (λj y u ai ht=>?_) (λ_ _ _ _ _ h=>h.elim) (λc=>⟨λh=>h.elim,λ⟨_,_,h⟩=>h⟩)⟩
  grind
 | @Cj x _ t p k y J au ai =>
  obtain ⟨⟨u,ad,h1,af,aF⟩,bk⟩:=(fA J).mz;rw [s'] at ai;cases aA:bB g p with
  | none=>rw [aA] at ai; cases ai
  | some nd =>
   rw [aA] at ai;simp only [Option.bind_some] at ai;obtain ⟨y',oZ,pc,ev,cs,ei,aK⟩:=bk;rw [aA] at oZ;cases oZ;obtain ⟨v,cD,hv,dv,dq⟩:=h.part aA (by rcases ei with rfl | rfl <;> simp);rw [h1] at hv;cases hv;have hS:cs[k]?=some y:=by rcases ei with rfl | rfl <;> simpa [ab.kids] using ai
   obtain ⟨b,gj,ft,jt,m_,fw,bH,jU⟩:=dv.node ei hS;rw [ft] at af;cases af;refine ⟨gj,by simp only [execOp,aF]; simp [P4 au jt],FQ 0 (by rw [s',aA]; exact ai) (by rw [x8,h1]; exact m_) jU⟩
 | @zt x _ t p k m z n y cs J au ai ei hm =>
  obtain ⟨⟨u,ad,h1,af,aF⟩,bk⟩:=(fA J).mz;obtain ⟨v,cD,hv,dv,dq⟩:=h.part ai (by rcases ei with rfl | rfl <;> simp);rw [h1] at hv;cases hv;have qE:∃ b,ad=⟨b,0,none⟩:=by
   obtain ⟨y',oZ,pc,ev,cs',OB,aK⟩:=bk;rw [ai] at oZ;cases oZ;have:cs'=cs:=by rcases ei with rfl | rfl <;> rcases OB with br | br <;> cases br <;> rfl
   subst this;obtain ⟨b,gj,ft,_⟩:=dv.node OB (List.getElem?_eq_getElem aK)
   grind
  obtain ⟨b,rfl⟩:=qE;have IW:y.kids=cs:=by rcases ei with rfl | rfl <;> rfl
  have cell:∀ j,j<m->∃ gj,w.cell? ⟨b,k+j,none⟩=some gj/\gj.oneCell'=true/\∃ kF,cs[k+j]?=some kF/\R w I (dG w T g) (fY 0 (p.push (k+j)) kF) gj cd:=by
   intro j ag;have fD:cs[k+j]?=some cs[k+j]:=List.getElem?_eq_getElem (by omega);obtain ⟨ig,gj,ft,jt,m_,fw,bH,jU⟩:=dv.node ei fD;rw [af] at ft;cases ft;exact ⟨gj,jt,fw,_,fD,FQ 0 (by rw [s',ai]; simp [IW]) (by rw [x8,h1]; exact m_) jU⟩
  have hex:∃ us:List Value,us.length=m/\∀ j v,us[j]?=some v->w.cell? ⟨b,k+j,none⟩=some v:=by
   refine ⟨(List.range m).map λj=>(w.cell? ⟨b,k+j,none⟩).getD undef,by simp,?_⟩
   grind
  obtain ⟨us,sB,W_⟩:=hex;refine ⟨.agg us.toArray,by simp only [execOp,aF]; simp [P3 au sB (b:=b) (o:=k) W_],.agg (Fs:=λ_=>cd) (by simp; omega) (λj u ht=>by
   grind) (λj hL u sH ht=>?_) (λ_ _ _ _ _ h=>h.elim) (λc=>⟨λh=>h.elim,λ⟨_,_,h⟩=>h⟩)⟩
  grind
 | @Hw x _ s d n N p cs xs J aw aA gB au =>
  obtain ⟨e,av,he,aP⟩:=Mt au;obtain ⟨⟨k8,j5,cap,h1,af,aF⟩,_⟩:=(fA J).my;obtain ⟨v,cD,hv,dv,dq⟩:=h.part aw (by simp);rw [h1] at hv;cases hv;have hZ:(cs.take n).length=n:=by
   obtain ⟨_,_,_,ah⟩:=dv.mC
   grind
  have hlen:xs.length=n:=by rw [<- hZ,gB,List.length_map]
  refine ⟨_,?_,.lit rfl no⟩;obtain ⟨_,_,ir,_,_,qH,rE⟩:=dv.mC;cases ir;cases k8 with
  | none =>
   have aI:n=0:=by
    grind
   have:xs=[]:=List.eq_nil_of_length_eq_zero (hlen.trans aI);subst this;have ak:=run_convert_bytes_nil (P:=P) (w:=w) s e av he n cap d aP;simp [execOp,af,ak];rfl
  | some ad =>
   obtain ⟨b,o,sp⟩:=ad;obtain ⟨rfl,rfl⟩:=qH _ rfl;have ak:=run_convert_bytes_arg (P:=P) w s e av he b 0 n cap xs hlen (λi hi=>by
    have ID:(cs.take n)[i]?=some (.lit (.int .u8 (xs.getD i 0))):=by
     grind
    have V1:cs[i]?=some (.lit (.int .u8 (xs.getD i 0))):=by
     grind
    obtain ⟨ig,u,ft,jt,_,_,bH,jU⟩:=dv.node (.inl rfl) V1;simp only [addrOf,Option.some.injEq,Addr.mk.injEq,and_true] at ft;subst ft;rw [Nat.zero_add,jt,jU.gW.1]) d aP
   simp_all [execOp]
 | @D' x _ s d n xs J au =>
  obtain ⟨e,av,he,aP⟩:=Mt au;have aU:=fA J;generalize tE:a.eval x=v at aU;refine ⟨_,?_,.lit rfl no⟩;generalize gB:(xs.map λb=>ab.lit (.int .u8 b))=cs at aU;cases aU with
  | ref J=>simp [ab.isRef] at J
  | @hd _ cap k8 _ aE =>
   have:xs=[]:=by simpa using gB
   subst this;cases k8 with
   | none =>
    have ak:=run_convert_bytes_nil (P:=P) (w:=w) s e av he 0 cap d aP;simp [execOp,tE,ak];rfl
   | some ad =>
    have ah:(loadCells ad 0).run P w=.ok (([]:List Int).map (Value.int .u8)).toArray w:=by
     have:=run_loadCells_list (P:=P) w ad [] (λj v ag=>by simp at ag)
     grind
    have ak:=run_bytesToString w ad 0 cap [] ah;have aa:=run_convert_bytes_string (P:=P) w s d e (some ad) 0 cap av he aP;rw [ak] at aa;simp [execOp,tE,aa];rfl
  | @bf _ _ cap _ ad us _ aE kx a' kV ah h1 aa ak =>
   obtain ⟨b,o,sp⟩:=ad;simp only at kV;subst kV;have hlen:xs.length=n:=by rw [<- List.length_map (f:=λb=>ab.lit (.int .u8 b)),gB,ah,Nat.mul_one]
   have ec:=run_convert_bytes_arg (P:=P) w s e av he b o n cap xs hlen (λi hi=>by
    have ID:cs[i]?=some (.lit (.int .u8 (xs.getD i 0))):=by
     grind
    have:=aa i _ ID;simp only at this;rw [this,(ak i _ ID).gW.1]) d aP
   simp_all [execOp]
 | @Eh xs fT _ f vs v J hv ak =>
  refine ⟨v,?_,.lit hv no⟩;have vc:xs.map a.eval=vs.toArray:=by
   apply Array.toList_inj.1;apply List.ext_getElem?;intro k;have:=congrArg (·[k]?) J;simp only [List.getElem?_map] at this;rw [Array.toList_map,List.getElem?_map];cases hk:xs.toList[k]? with
   | none =>
    grind
   | some o =>
    rw [hk] at this;cases hv:vs[k]? with
    | none=>rw [hv] at this; cases this
    | some v =>
     rw [hv] at this;simp only [Option.map_some,Option.some.injEq] at this ⊢;rw [(fA this).gW.1]
  have aV:a.eval (.func f)=.func (.func f) #[] #[]:=rfl
  simp_all [execOp,resolve,Deferred.ofValue,invoke]
 | @E7 x i _ t s ni j b J hi au ao =>
  have u_:=(fA J).gW.1;have sr:=(fA hi).gW.1;refine ⟨.int .u8 b.toNat,?_,.lit rfl no⟩
  simp_all [execOp,Instr.index,run_underlying,KZ,asIntOf]
 | @bin op x y _ t t2 cb b v J ai hv ak =>
  have h1:=(fA J).gW.1;have af:=(fA ai).gW.1;refine ⟨v,?_,.lit hv no⟩
  grind [execOp,Sem.run_bind,Result.andThen_ok,Sem.run_pure]
 | @AO op x y _ t t2 dA bs v J ai hv ak =>
  have h1:=L0 ((fA J).B6 no);have af:=L0 ((fA ai).B6 no);refine ⟨v,?_,.lit hv no⟩
  grind [execOp,Sem.run_bind,Result.andThen_ok,Sem.run_pure]
 | @un op x _ t cb v J hv ak =>
  have h1:=(fA J).gW.1;exact ⟨v,by simp [execOp,h1,ak],.lit hv no⟩
 | @conv x _ s d cb v J hv ak =>
  have h1:=(fA J).gW.1;exact ⟨v,by simp [execOp,h1,ak],.lit hv no⟩
 | @Ei x _ i cs y J ai =>
  obtain ⟨vs,aF,ah,ak⟩:=(fA J).X3 no;have hk:i<cs.length:=(List.getElem?_eq_some_iff.1 ai).1;have hv:vs[i]?=some vs[i]:=Array.getElem?_eq_getElem (ah ▸ hk);exact ⟨_,by simp [execOp,aF,Instr.extract,hv],ak _ kk _ ai hv⟩
 | @De x lo hi _ t e z n l br cs J ah u0 au su aA =>
  obtain ⟨hu,he,aT⟩:=qc (w:=w) au;obtain ⟨k8,cap,aF,kx,hlen,hm⟩:=(fA J).zm;have ao:=FV (P:=P) (w:=w) (len:=n) (cap:=cap) (ah.sound h aQ) (u0.sound h aQ) true su (by omega);have h2:(execOp a.eval { dst:=dst,op:=.slice t x lo hi none,type:=ty,pos:=pos,after:=after,guard:=guard }).run P w=.ok (.value (sliced k8 l br cap z)) w:=by
   simp_all [execOp,Instr.sliceAt,run_underlying,Instr.slice,sliced]
  refine ⟨_,h2,?_⟩;by_cases aI:br - l=0
  ·rw [aI];simp only [Nat.zero_mul,List.take_zero,sliced,aI];exact .hd no
  ·obtain ⟨ad,us,rfl,a',av,fw,aa,ak⟩:=hm (.inr (by omega));obtain ⟨b,o,sp⟩:=ad;simp only at av;subst av;have hZ:cap≠l:=by omega
   simp only [sliced,hZ,if_false,Option.map_some,add_eq];have BF:((cs.drop (l * z)).take ((br - l) * z)).length=(br - l) * z:=by
    rw [List.length_take,List.length_drop,hlen];have:(br - l) * z+l * z<=n * z:=by rw [<- Nat.add_mul]; exact Nat.mul_le_mul_right _ (by omega)
    omega
   refine .bf (us:=λk=>us (l * z+k)) no (by omega) a' rfl BF (λk x hk=>fw (l * z+k) x (by
    grind)) (λk x hk=>?_) λk x hk=>?_
   ·grind
   grind
 | @F4 x lo hi _ t e z n br p J ah u0 au aA dD =>
  obtain ⟨hu,he,aT⟩:=qc (w:=w) au;obtain ⟨⟨k8,N,cap,h1,af,aF⟩,bk⟩:=(fA J).my;have kx:N<=cap:=by
   rcases bk with ⟨j5,cs,b2,du⟩ | ⟨aI,q,gv,m,new,b2,du⟩
   ·obtain ⟨v,cD,hv,dv,_⟩:=h.part b2 (by simp);rw [h1] at hv;obtain ⟨_,rk,NY,hle,_⟩:=dv.mC
    grind
   ·obtain ⟨v,hv,dv⟩:=h.rel _ _ b2;simp only [dL,hv,aI,walk,Option.some.injEq] at h1;subst h1;obtain ⟨bv,b0,cu,us,news,dv⟩:=dv.vl;obtain ⟨_,nb⟩:=dv.nb
    grind
  have ao:=FV (P:=P) (w:=w) (len:=n) (cap:=cap) (ah.sound h aQ) (u0.sound h aQ) true (Nat.zero_le _) (by omega);refine ⟨.slice k8 br cap,?_,.ref rfl ⟨⟨k8,N,cap,h1,rfl,by omega⟩,dD⟩ no⟩
  simp_all [execOp,Instr.sliceAt,run_underlying,Instr.slice,Addr.add]
 | @F3 x lo hi _ t e z n l br p J ah u0 au su aA dD =>
  obtain ⟨hu,he,aT⟩:=qc (w:=w) au;obtain ⟨⟨k8,N,cap,h1,af,aF⟩,bk⟩:=(fA J).my;obtain ⟨j5,cs,b2,du⟩:=dD;obtain ⟨v,cD,hv,dv,_⟩:=h.part b2 (by simp);rw [h1] at hv;obtain ⟨a2,rk,NY,hle,hlen,qH,rE⟩:=dv.mC;rw [NY] at hv;cases hv;have ao:=FV (P:=P) (w:=w) (len:=n) (cap:=cap) (ah.sound h aQ) (u0.sound h aQ) true su (by omega);refine ⟨sliced k8 l br cap z,?_,.ref rfl ⟨⟨k8,_,cap,_,_,h1,rfl,by omega,by omega,λoU=>?_⟩,_,cs,b2,du⟩ no⟩
  ·simp_all [execOp,Instr.sliceAt,run_underlying,Instr.slice,sliced]
  ·have av:=rE (by omega);cases k8 with
   | none=>simp at av
   | some ad =>
    obtain ⟨aI,kb⟩:=qH ad rfl;obtain ⟨b,o,sp⟩:=ad
    grind [add_eq]
 | @Df x lo hi _ t l br s J ah u0 au su aA =>
  have u_:=(fA J).gW.1;have ao:=FV (P:=P) (w:=w) (len:=s.size) (cap:=s.size) (ah.sound h aQ) (u0.sound h aQ) false su aA;exact ⟨.string (s.extract l br),by simp [execOp,u_,Instr.sliceAt,run_underlying (KZ au),Instr.slice,ao],.lit rfl no⟩
 | @Ff x _ t e z bM n cs J au =>
  obtain ⟨hu,he,aT⟩:=qc (w:=w) au;obtain ⟨k8,cap,aF,_⟩:=(fA J).zm;exact ⟨_,by simp [execOp,resolve,invoke,builtin,aF,Builtin.len_,run_underlying hu,goInt],.lit rfl no⟩
 | @Fe x _ t e z bM n p J au =>
  obtain ⟨hu,he,aT⟩:=qc (w:=w) au;obtain ⟨⟨k8,N,cap,h1,af,aF⟩,bk⟩:=(fA J).my;exact ⟨_,by simp [execOp,resolve,invoke,builtin,af,Builtin.len_,run_underlying hu,goInt],.lit rfl no⟩
 | @J' x _ t e z bM lo n p J au =>
  obtain ⟨hu,he,aT⟩:=qc (w:=w) au;obtain ⟨⟨k8,N,cap,cb,ml,h1,af,_,aF,b2⟩,bk⟩:=(fA J).xn;exact ⟨_,by simp [execOp,resolve,invoke,builtin,af,Builtin.len_,run_underlying hu,goInt],.lit rfl no⟩
 | @J_ x _ t e bM J au =>
  obtain ⟨hu,he,aT⟩:=qc (w:=w) au;have af:=(fA J).p1;exact ⟨_,by simp [execOp,resolve,invoke,builtin,af,Builtin.len_,run_underlying hu,goInt],.lit rfl no⟩
 | @lits b xs fT _ vs v J hv ak =>
  have mo:xs.map a.eval=vs.toArray:=by
   grind [Array.toList_map,O6]
  refine ⟨v,?_,.lit hv no⟩
  grind [execOp,resolve,invoke]
 | @Ke x y _ t p q ok Y _ sK V J aw ai dk aU ak =>
  obtain ⟨⟨b,ao,hv⟩,_⟩:=(fA J).X2;obtain ⟨dB,cD,iv,dv,_⟩:=h.part aw (by simp);rw [ao] at iv;cases iv;obtain ⟨ig,es,clock,e,aM,ba,_⟩:=dv.X1;cases e;refine ⟨V,?_,aU _ _ _⟩;simp [execOp,hv,dk _ _ _ _ (fA ai),ak w _ _ _ aM ba]
 | @Kd x y _ t q ok Y _ sK V J ai dk aU ak =>
  obtain ⟨b,es,clock,hv,aM,ba⟩:=(fA J).X0;refine ⟨V,?_,aU _ _ _⟩;simp [execOp,hv,dk _ _ _ _ (fA ai),ak w _ _ _ aM ba]
end
end Go.Own
namespace Go.Own
open Go
set_option linter.unusedSectionVars false
variable [cw]
structure Fr (w w':World) (U:a7):Prop where
 os:w'.os=w.os
 tape:w'.tape=w.tape
 output:w'.output=w.output
 size:w.heap.size<=w'.heap.size
 block:∀ b,b<w.heap.size->¬ U b->w'.heap[b]?=w.heap[b]?
 fJ:∀ a,a.block<w.heap.size->¬ U a.block->w'.frozen? a=w.frozen? a
 uK:w.drawn<=w'.drawn
theorem Fr.refl (w:World) (U:a7):Fr w w U:=⟨rfl,rfl,rfl,Nat.le_refl _,λ_ _ _=>rfl,λ_ _ _=>rfl,Nat.le_refl _⟩
theorem Fr.mono {w w':World}{U U':a7}(h:Fr w w' U) (gq:∀ b,b<w.heap.size->U b->U' b):Fr w w' U':=⟨h.os,h.tape,h.output,h.size,λb ao aA=>h.block b ao λhu=>aA (gq b ao hu),λa aQ aA=>h.fJ a aQ λhu=>aA (gq _ aQ hu),h.uK⟩
theorem Fr.trans {w fj e9:World}{U yB:a7}(h:Fr w fj U) (h1:Fr fj e9 yB) (gq:∀ b,b<w.heap.size->yB b->U b):Fr w e9 U :=
 ⟨h1.os.trans h.os,h1.tape.trans h.tape,h1.output.trans h.output,Nat.le_trans h.size h1.size,λb ao aA=>(h1.block b (Nat.lt_of_lt_of_le ao h.size) λhu=>aA (gq b ao hu)).trans (h.block b ao aA),λa aQ aA=>(h1.fJ a (Nat.lt_of_lt_of_le aQ h.size) λhu=>aA (gq _ aQ hu)).trans (h.fJ a aQ aA),Nat.le_trans h.uK h1.uK⟩
theorem alloc_old (w:World) (o:Obj) (k:Nat) (h:k<w.heap.size):(w.alloc o).heap[k]?=w.heap[k]?:=by
 show (w.heap.push o)[k]?=_;rw [Array.getElem?_push,if_neg (by omega)]
theorem pr (w:World) (o:Obj):(w.alloc o).heap[w.heap.size]?=some o:=by
 show (w.heap.push o)[w.heap.size]?=_;simp
theorem A' (w:World) (arr:Array Value) (t:TypeId) (a:Addr):(w.alloc (.cells arr t (0,0))).frozen? a=w.frozen? a:=by
 unfold World.frozen?;by_cases h:a.block=w.heap.size
 ·rw [h,pr];have:w.heap[w.heap.size]?=none:=by simp
  rw [this];simp
 ·by_cases af:a.block<w.heap.size
  ·rw [alloc_old w _ _ af]
  ·have aF:(w.alloc (.cells arr t (0,0))).heap[a.block]?=none:=by
    show (w.heap.push _)[a.block]?=_;rw [Array.getElem?_eq_none];simp; omega
   have bk:w.heap[a.block]?=none:=Array.getElem?_eq_none (by omega);rw [aF,bk]
theorem Eo (w:World) (g:Nat) (cs:Array Value) (a:Addr):(w.setRow g cs).frozen? a=w.frozen? a:=by
 unfold World.frozen? World.setRow;simp only [Array.getElem?_modify];by_cases h:g=a.block
 ·subst h;rw [if_pos rfl];cases br:w.heap[a.block]? with
  | none=>rfl
  | some o=>cases o <;> rfl
 ·rw [if_neg h]
theorem Uj (w:World) (es:Array MapEntry) (n:Nat) (a:Addr):(w.alloc (.map es n)).frozen? a=w.frozen? a:=by
 unfold World.frozen?;by_cases h:a.block=w.heap.size
 ·rw [h,pr];have:w.heap[w.heap.size]?=none:=by simp
  rw [this]
 ·by_cases af:a.block<w.heap.size
  ·rw [alloc_old w _ _ af]
  ·have aF:(w.alloc (.map es n)).heap[a.block]?=none:=by
    show (w.heap.push _)[a.block]?=_;rw [Array.getElem?_eq_none];simp; omega
   have bk:w.heap[a.block]?=none:=Array.getElem?_eq_none (by omega);rw [aF,bk]
def PN (o:Obj):Prop:=(∃ arr e,o=.cells arr e (0,0))\/∃ es n,o=.map es n
theorem Fr.alloc (w:World) (o:Obj) (U:a7) (aM:PN o):Fr w (w.alloc o) U:=by
 refine ⟨rfl,rfl,rfl,by simp,λb ao _=>alloc_old w o b ao,λa _ _=>?_,Nat.le_refl _⟩;rcases aM with ⟨arr,e,rfl⟩ | ⟨es,n,rfl⟩
 ·exact A' w arr e a
 ·exact Uj w es n a
theorem R.Zb {w:World}{I:a7}{ρ:ab->Value->Prop}{x:ab}{v:Value}{F:a7}(h:R w I ρ x v F):∀ c,F c->∃ o,w.heap[c]?=some o/\PN o:=by
 induction h with
 | dt aM _ aE =>
  intro c aa;have aa:=(aE c).1 aa;obtain ⟨_,br⟩:=aM;rcases br with ⟨rfl,_⟩ | ⟨b,cap,cur,rfl,_,iW,_⟩
  ·simp [Value.ownBlock] at aa
  ·simp only [Value.ownBlock,Option.some.injEq] at aa;subst aa;exact ⟨_,iW,.inl ⟨_,_,rfl⟩⟩
 | mp aM _ aE =>
  intro c aa;cases (aE c).1 aa;exact ⟨_,aM,.inr ⟨_,_,rfl⟩⟩
 | lit _ aE | bb aE | dead aE | j0 aE | ref _ _ aE | hd aE | bf aE | cL aE | dc aE | imp aE=>exact λc aa=>absurd aa (aE c)
 | own aM ah h1 ak aP ao aE aJ =>
  intro c aa;rcases (aE c).1 aa with h | ⟨k,hk,h⟩
  ·obtain ⟨_,br⟩:=aM;rcases br with ⟨rfl,_⟩ | ⟨b,cap,cur,rfl,_,iW,_⟩
   ·simp [Value.ownBlock] at h
   ·simp only [Value.ownBlock,Option.some.injEq] at h;subst h;exact ⟨_,iW,.inl ⟨_,_,rfl⟩⟩
  ·exact aJ k _ _ (List.getElem?_eq_getElem hk) (List.getElem?_eq_getElem (ah ▸ hk)) c h
 | obj aM ah h1 ak aP ao aE av aJ =>
  intro c aa;rcases (aE c).1 aa with rfl | ⟨k,hk,h⟩
  ·exact ⟨_,aM,.inl ⟨_,_,rfl⟩⟩
  ·exact aJ k _ _ (List.getElem?_eq_getElem hk) (Array.getElem?_eq_getElem (ah ▸ hk)) c h
 | agg ah h1 ak aP aE aJ =>
  intro c aa;obtain ⟨k,hk,h⟩:=(aE c).1 aa;exact aJ k _ _ (List.getElem?_eq_getElem hk) (Array.getElem?_eq_getElem (ah ▸ hk)) c h
 | bI ah ak aP aE aJ =>
  intro c aa;obtain ⟨k,hk,h⟩:=(aE c).1 aa;exact aJ k _ _ (List.getElem?_eq_getElem hk) (Array.getElem?_eq_getElem (ah ▸ hk)) c h
theorem Fr.drew {w w':World}{U:a7}(h:Fr w w' U):Fr w w'.drew U:=⟨h.os,h.tape,h.output,h.size,h.block,h.fJ,Nat.le_succ_of_le h.uK⟩
section
variable {w:World}{I:a7}{T:Array Value}{g:aH}{Fs:Nat->a7}
theorem cG.jC (h:cG w I T g Fs):∀ t c,Fs t c->c<w.heap.size:=by
 intro t c aa;cases J:g t with
 | none=>exact absurd aa (h.kA t J c)
 | some y=>obtain ⟨u,_,dv⟩:=h.rel t y J; exact dv.lt c aa
theorem cG.world (h:cG w I T g Fs) {w':World}(aE:∀ t c,Fs t c->w'.heap[c]?=w.heap[c]?) (a':∀ c,I c->w'.heap[c]?=w.heap[c]?) (dO:w.heap.size<=w'.heap.size):cG w' I T g Fs :=
  ⟨λt x J=>by
    obtain ⟨v,hv,aU⟩:=h.rel t x J;exact ⟨v,hv,h.wG (λ_ _=>rfl) aE a' (λ_ h=>h) (λ_ _ h=>h) aU λc aa=>aE t c aa⟩,
   h.kA,h.ep,h.bf,λc aa=>Nat.lt_of_lt_of_le (h.lt c aa) dO,h.qV,cw.keep h.g_ a' λ_ h=>h⟩
theorem cG.alloc (h:cG w I T g Fs) (o:Obj):cG (w.alloc o) I T g Fs :=
 h.world (λt c aa=>alloc_old w o c (h.jC t c aa)) (λc aa=>alloc_old w o c (h.lt c aa)) (by simp)
theorem cG.sP (h:cG w I T g Fs) {d:Nat}{x:ab}{v:Value}{F:a7}(aP:g d=none) (V8:d<T.size)
  (aU:ja w I (dG w T g) x v F) (rB:∀ t c,F c->¬ Fs t c) (WE:∀ c,F c->¬ I c)
  (aw:∀ z p n m new,x=.bD z p n m new->∀ t bM ck bn cO,g t≠some (.bD bM p ck bn cO)) :
  cG w I (T.setIfInBounds d v) (cR g d x) (uh Fs d F):=by
 have c0:∀ t,g t≠none->(T.setIfInBounds d v)[t]?=T[t]?:=by
  intro t au;rw [Array.getElem?_setIfInBounds_ne];rintro rfl; exact au aP
 refine ⟨?_,?_,?_,?_,h.lt,?_,h.g_⟩
 ·intro t y ai;unfold cR at ai
  split at ai
  ·rename_i u';subst u';cases ai;exact ⟨v,by simp [V8],by simpa [uh] using h.wG c0 (λ_ _ _=>rfl) (λ_ _=>rfl) (λ_ h=>h) (QK aP) aU λ_ _=>rfl⟩
  ·rename_i u';obtain ⟨u,hu,dv⟩:=h.rel t y ai;exact ⟨u,by rw [c0 t (by rw [ai]; simp)]; exact hu,by simpa [uh,u'] using h.wG c0 (λ_ _ _=>rfl) (λ_ _=>rfl) (λ_ h=>h) (QK aP) dv λ_ _=>rfl⟩
 ·intro t au c;unfold cR at au
  split at au
  ·cases au
  ·rename_i u'; simpa [uh,u'] using h.kA t au c
 ·intro t t' c aa dW;by_cases h1:t=d <;> by_cases af:t'=d <;> simp [uh,h1,af] at aa dW
  ·rw [h1,af]
  ·exact absurd dW (rB t' c aa)
  ·exact absurd aa (rB t c dW)
  ·exact h.ep t t' c aa dW
 ·intro t c aa hi;by_cases h1:t=d <;> simp [uh,h1] at aa
  ·exact WE c aa hi
  ·exact h.bf t c aa hi
 ·intro t t' z p n m new bM ck bn cO h1 af;unfold cR at h1 af
  split at h1 <;> split at af
  ·rename_i a b; rw [a,b]
  ·cases h1; exact absurd af (aw z p n m new rfl t' bM ck bn cO)
  ·cases af; exact absurd h1 (aw bM p ck bn cO rfl t z n m new)
  ·exact h.qV _ _ _ _ _ _ _ _ _ _ _ h1 af
end
def jf:ab->Option (List ab)
 | .agg cs=>some cs
 | .lit v=>some [.lit v]
 | .bb=>some [.bb]
 | .bf z n cs=>some [.bf z n cs]
 | .cL cs=>some [.cL cs]
 | .ptr p k=>some [.ptr p k]
 | .bo z p n=>some [.bo z p n]
 | .sub z p l n=>some [.sub z p l n]
 | .dc f a b=>some [.dc f a b]
 | _=>none
theorem Mp {y:ab}{cs:List ab}(h:r8 y) (aa:jf y=some cs):uz cs:=by
 have one:∀ {x:ab},(∀ j,x≠.self j)->uz [x]:=λJ k j e=>by
  cases k with
  | zero=>simp only [List.getElem?_cons_zero,Option.some.injEq] at e; exact J j e
  | succ k=>simp at e
 cases y <;> simp only [Go.Own.jf,Option.some.injEq,reduceCtorEq] at aa <;> subst aa
 all_goals first | exact h _ rfl | exact one (by simp)
theorem R.jf {w:World}{I:a7}{ρ:ab->Value->Prop}{y:ab}{v:Value}{F:a7}(h:R w I ρ y v F) (aE:∀ c,¬ F c) (lg:∀ x v,x.isRef=true->ρ x v->v.oneCell'=true) {cs:List ab}(aa:jf y=some cs) :
  cs.length=v.cells.size/\(∀ (k:Nat) (u:Value),v.cells[k]?=some u->u.oneCell'=true)/\(∀ (k:Nat) (x:ab) (u:Value),cs[k]?=some x->v.cells[k]?=some u->R w I ρ x u cd):=by
 have one:∀ {y:ab},R w I ρ y v F->v.oneCell'=true->[y].length=v.cells.size/\(∀ (k:Nat) (u:Value),v.cells[k]?=some u->u.oneCell'=true)/\(∀ (k:Nat) (x:ab) (u:Value),[y][k]?=some x->v.cells[k]?=some u->R w I ρ x u cd):=by
  intro y h h1;have ED:v.cells=#[v]:=by cases v <;> first | rfl | (simp [Value.oneCell'] at h1)
  refine ⟨by simp [ED],λk u hu=>?_,λk x u J hu=>?_⟩
  ·rw [ED] at hu;cases k with
   | zero=>simp at hu; subst hu; exact h1
   | succ k=>simp at hu
  rw [ED] at hu;cases k with
  | zero=>simp at J hu; subst J hu; exact h.empty aE
  | succ k=>simp at J
 cases y <;> simp only [Go.Own.jf,Option.some.injEq,reduceCtorEq] at aa
 case agg l =>
  subst aa;obtain ⟨vs,rfl,ah,h1,ak⟩:=h.B6 aE;exact ⟨ah,h1,ak⟩
 case lit a=>subst aa; exact one h (by obtain ⟨rfl,h1⟩:=h.gW; exact h1)
 case bb=>subst aa; exact one h (by rw [h.p1]; rfl)
 case bf z n l=>subst aa; exact one h (by obtain ⟨a,cap,rfl,_⟩:=h.zm; rfl)
 case cL l=>subst aa; exact one h (by obtain ⟨ad,us,rfl,_⟩:=h.xm; rfl)
 case ptr p k=>subst aa; exact one h (lg _ _ rfl h.mz)
 case bo z p n=>subst aa; exact one h (lg _ _ rfl h.my)
 case sub z p l n=>subst aa; exact one h (lg _ _ rfl h.xn)
 case dc f a b =>
  subst aa;refine one h ?_;cases h with
  | dc=>rfl
  | ref J=>simp [ab.isRef] at J
theorem dG.Cw {w:World}{T:Array Value}{g:aH}{x:ab}{v:Value}(J:x.isRef=true) (h:dG w T g x v):v.oneCell'=true:=by
 obtain ⟨h,_⟩:=h;cases x <;> simp [ab.isRef] at J
 case ptr p k=>obtain ⟨_,_,_,_,rfl⟩:=h; rfl
 case bo z p n=>obtain ⟨_,_,_,_,rfl,_⟩:=h; rfl
 case sub z p lo n=>obtain ⟨_,_,_,_,_,_,rfl,_⟩:=h; rfl
 case gY p=>obtain ⟨_,_,rfl⟩:=h; rfl
def n2:List ab->Option (List ab)
 | []=>some []
 | y::ys =>
  match jf y,n2 ys with
  | some a,some b=>some (a++b)
  | _,_=>none
def hz (g:aH):List Operand->Option (List ab)
 | []=>some []
 | x::xs =>
  match bp g x,hz g xs with
  | some y,some ys=>some (y::ys)
  | _,_=>none
def uL (place:Nat->Option (Nat × Nat)) (cells:List ab):List (Nat × List ab)->Option (List ab)
 | []=>some cells
 | (i,c)::rest =>
  match place i with
  | none=>none
  | some (off,size)=>if c.length=size/\off+c.length<=cells.length then uL place (cells.take off++c++cells.drop (off+c.length)) rest else none
def qR (g:aH):List (Nat × Operand)->Option (List (Nat × List ab))
 | []=>some []
 | (i,x)::xs =>
  match bp g x,qR g xs with
  | some y,some ys=>(jf y).map λc=>(i,c)::ys
  | _,_=>none
def k3 (P:Program) (t:TypeId) (pl:List (Nat × Nat)):Bool :=
 match P.underlying t with
 | some (.struct fs)=>fs.toList.map (λf=>(f.offset,(P.info? f.type).map (·.size))) == pl.map λ(a,b)=>(a,some b)
 | _=>false
inductive ny (P:Program) (g:aH):Op->TypeId->ab->Prop
 | box {e ty:TypeId}{x:Operand}{y:ab}{cs:List ab}(J:bp g x=some y) (aa:jf y=some cs):ny P g (.box e x) ty (.obj cs)
 | DV {e ty:TypeId}{z:Value}(aT:(P.info? e).bind (·.zero)=some z) (aa:z.cells=#[.pointer none,.slice none 0 0]):ny P g (.alloc e) ty (.obj [.self (0,e),.bb])
 | D4 {e ty:TypeId}{t k:Nat}{x:Operand}{y:ab}{cs:List ab}(J:bp g x=some y) (aa:jf y=some cs) (aI:cs[k]?=some (.lit (.pointer none))) (h1:cs[k+1]?=some .bb):ny P g (.box e x) ty (.obj ((cs.set k (.self (k,e))).set (k+1) (.dt t [])))
 | GP {e ty:TypeId}{t:Nat}{z:Value}(aT:(P.info? e).bind (·.zero)=some z) (aa:z.cells=#[.pointer none,.slice none 0 0]):ny P g (.alloc e) ty (.obj [.self (0,e),.dt t []])
 | alloc {e ty:TypeId}{z:Value}(aT:(P.info? e).bind (·.zero)=some z) (h1:z.cells.all Value.oneCell'=true):ny P g (.alloc e) ty (.obj (z.cells.toList.map jZ))
 | buildSlice {t e ty:TypeId}{z:Nat}{parts:Array (Nat × Operand)}{xs:List Operand}{ys:List ab}{cs:List ab}(au:fh P t e z=true)
   (aw:parts.toList=xs.mapIdx (λi x=>(i,x))) (J:hz g xs=some ys) (aT:∀ y∈ys,∃ c,jf y=some c/\c.length=z) (aa:n2 ys=some cs) (ao:xs.length * z<=16777216) (aA:xs.length<=16777216) (hzero:xs.length * z=0\/∃ v,(P.info? e).bind (·.zero)=some v/\v.cells.size=z) :
   ny P g (.buildSlice t xs.length parts) ty (.own z xs.length cs)
 | makeSlice {t e ty:TypeId}{x y:Operand}{z n b:Nat}{mA fX:IntKind}{dj:Value}(au:fh P t e z=true) (J:bp g x=some (.lit (.int mA (n:Int)))) (ai:bp g y=some (.lit (.int fX (n:Int))))
   (hzero:(P.info? e).bind (·.zero)=some dj) (h1:dj.cells.all Value.oneCell'=true) (oh:dj.cells.size=z) (ao:(P.info? e).map (·.bytes)=some b) (aA:n * b<=140737488355328) (rA:n<=4611686018427387904) {hM:List ab}(sJ:hM.length=dj.cells.size)
   (E4:∀ (k:Nat) (u:Value) (x:ab),dj.cells[k]?=some u->hM[k]?=some x->x=jZ u\/(jZ u=.bb/\∃ bM,x=.bf bM 0 [])) :
   ny P g (.makeSlice t x y) ty (.own z n (List.replicate n hM).flatten)
 | makeMap {t ty:TypeId}{q:Array MapEntry->Nat->Prop}(ba:q #[] 0):ny P g (.makeMap t none) ty (.mp q)
inductive uA (P:Program) (g:aH):Op->TypeId->ab->Prop
 | build {t ty:TypeId}{parts:Array (Nat × Operand)}{pl:List (Nat × Nat)}{dj:Value}{ps:List (Nat × List ab)}{cs:List ab}(au:k3 P t pl=true) (aT:(P.info? t).bind (·.zero)=some dj) (h1:dj.cells.all Value.oneCell'=true)
   (aw:qR g parts.toList=some ps) (aa:uL (λi=>pl[i]?) (dj.cells.toList.map jZ) ps=some cs):uA P g (.build t parts) ty (.agg cs)
 | makeFunc {fn:Fn}{first caps:Array Operand}{ty:TypeId}{a b:List ab}(aQ:hz g first.toList=some a) (ao:hz g caps.toList=some b):uA P g (.makeFunc fn first caps) ty (.dc fn a b)
section
variable {P:Program}{w:World}{I:a7}{T:Array Value}{g:aH}{Fs:Nat->a7}
theorem Cx (h:cG w I T g Fs) {a:Act}(aQ:a.tmps=T):∀ {xs:List Operand}{ys:List ab},hz g xs=some ys->ys.length=xs.length/\∀ (k:Nat) (y:ab) (x:Operand),ys[k]?=some y->xs[k]?=some x->R w I (dG w T g) y (a.eval x) cd
 | [],ys,ai=>by simp only [hz,Option.some.injEq] at ai; subst ai; simp
 | x::xs,ys,ai=>by
  simp only [hz] at ai;cases J:bp g x with
  | none=>simp [J] at ai
  | some y =>
   cases rO:hz g xs with
   | none=>simp [J,rO] at ai
   | some Dz =>
    simp only [J,rO,Option.some.injEq] at ai;subst ai;obtain ⟨h1,af⟩:=Cx h aQ rO;refine ⟨by simp [h1],λk y' x' oZ fD=>?_⟩;cases k with
    | zero=>simp at oZ fD; subst oZ fD; exact kZ h J aQ
    | succ k=>simp at oZ fD; exact af k y' x' oZ fD
theorem R.alloc (h:cG w I T g Fs) (o:Obj) {x:ab}{v:Value}{F:a7}(aU:R w I (dG w T g) x v F) (aE:∀ c,F c->c<w.heap.size):R (w.alloc o) I (dG (w.alloc o) T g) x v F :=
 h.frame (λ_ _=>rfl) (λt c aa=>alloc_old w o c (h.jC t c aa)) (λc aa=>alloc_old w o c (h.lt c aa)) (λ_ h=>h) (λ_ _ h=>h) aU λc aa=>alloc_old w o c (aE c aa)
theorem Ps {ρ:ab->Value->Prop}{vs:List Value}:∀ (k:Nat) (x:ab) (u:Value),(vs.map jZ)[k]?=some x->vs[k]?=some u->R w I ρ x u cd:=by
 intro k x u J hu;rw [List.getElem?_map,hu] at J;simp only [Option.map_some,Option.some.injEq] at J;subst J;exact Cu u
theorem R.Pq {ρ:ab->Value->Prop}{cs:List ab}{b:Nat}{e:TypeId}{arr:Array Value}(aM:w.heap[b]?=some (.cells arr e (0,0))) (ah:cs.length=arr.size) (h1:∀ (k:Nat) (u:Value),arr[k]?=some u->u.oneCell'=true)
  (ak:∀ (k:Nat) (x:ab) (u:Value),cs[k]?=some x->arr[k]?=some u->R w I ρ x u cd) (lH:uz cs):R w I ρ (.obj cs) (.pointer (some ⟨b,0,none⟩)) (λc=>c=b) :=
 .obj (Fs:=λ_=>cd) aM ah h1 ak (λ_ _ _ _ _ h=>h.elim) (λ_ _ h=>h) (λ_=>⟨λh=>.inl h,λh=>h.elim id λ⟨_,_,h⟩=>h.elim⟩) λk j _ h=>absurd h (lH k j)
theorem R.PC {ρ:ab->Value->Prop}{z n:Nat}{cs:List ab}{b cap:Nat}{e:TypeId}{arr:Array Value}(aM:w.heap[b]?=some (.cells arr e (0,0))) (aA:n<=cap) (aa:cap<=maxLen) (av:arr.size=cap * z) (ah:cs.length=n * z) (h1:∀ (k:Nat) (u:Value),arr[k]?=some u->u.oneCell'=true)
  (ak:∀ (k:Nat) (x:ab) (u:Value),cs[k]?=some x->arr[k]?=some u->R w I ρ x u cd):R w I ρ (.own z n cs) (.slice (some ⟨b,0,none⟩) n cap) (λc=>c=b):=by
 have hle:n * z<=arr.size:=by rw [av]; exact Nat.mul_le_mul_right _ aA
 refine .own (e:=e) (us:=arr.toList.take (n * z)) (Fs:=λ_=>cd) ⟨by simp; omega,.inr ⟨b,cap,arr,rfl,Nat.zero_le _,aM,aA,aa,av,rfl⟩⟩ (by simp; omega) (λk u hu=>?_) ?_ (λ_ _ _ _ _ h=>h.elim) (λ_ _ _ h=>h.elim) (λc=>?_)
 ·rw [List.getElem?_take] at hu
  split at hu
  ·exact h1 k u (by simpa using hu)
  ·cases hu
 ·intro k x u J hu;rw [List.getElem?_take] at hu
  split at hu
  ·exact ak k x u J (by simpa using hu)
  ·cases hu
 ·simp only [Value.ownBlock,Option.some.injEq];exact ⟨λh=>.inl h.symm,λh=>h.elim Eq.symm λ⟨_,_,h⟩=>h.elim⟩
theorem Mo {ρ:ab->Value->Prop}(lg:∀ x v,x.isRef=true->ρ x v->v.oneCell'=true):∀ {ys:List ab}{vs:List Value}{cs:List ab},ys.length=vs.length->(∀ (k:Nat) (y:ab) (v:Value),ys[k]?=some y->vs[k]?=some v->R w I ρ y v cd)->n2 ys=some cs ->
  cs.length=(vs.flatMap λv=>v.cells.toList).length/\(∀ (k:Nat) (u:Value),(vs.flatMap λv=>v.cells.toList)[k]?=some u->u.oneCell'=true)/\∀ (k:Nat) (x:ab) (u:Value),cs[k]?=some x->(vs.flatMap λv=>v.cells.toList)[k]?=some u->R w I ρ x u cd
 | [],vs,cs,ah,ak,aa=>by
  cases vs with
  | nil=>simp only [n2,Option.some.injEq] at aa; subst aa; simp
  | cons=>simp at ah
 | y::ys,vs,cs,ah,ak,aa=>by
  cases vs with
  | nil=>simp at ah
  | cons v vs =>
   simp only [n2] at aa;cases aQ:jf y with
   | none=>simp [aQ] at aa
   | some a =>
    cases ao:n2 ys with
    | none=>simp [aQ,ao] at aa
    | some b =>
     simp only [aQ,ao,Option.some.injEq] at aa;subst aa;obtain ⟨h1,Ba,af⟩:=(ak 0 y v rfl rfl).jf (λ_ h=>h) lg aQ;obtain ⟨aF,Uv,bk⟩:=Mo lg (by simpa using ah) (λk y' dB ai hv=>ak (k+1) y' dB ai hv) ao;refine ⟨by simp [h1,aF],λk u hu=>?_,λk x u J hu=>?_⟩
     ·simp only [List.flatMap_cons] at hu;by_cases hk:k<v.cells.toList.length
      ·rw [List.getElem?_append_left hk] at hu;exact Ba k u (by simpa using hu)
      ·rw [List.getElem?_append_right (by omega)] at hu;exact Uv _ u hu
     simp only [List.flatMap_cons] at hu;by_cases hk:k<a.length
     ·rw [List.getElem?_append_left hk] at J;rw [List.getElem?_append_left (by simp; omega)] at hu;exact af k x u J (by simpa using hu)
     ·rw [List.getElem?_append_right (by omega)] at J;rw [List.getElem?_append_right (by simp; omega)] at hu;refine bk (k - a.length) x u J ?_;rw [<- hu]; simp [h1]
end
end Go.Own
namespace Go.Own
open Go
set_option linter.unusedSectionVars false
variable [cw]
theorem Nd (off:Nat):∀ (l:List Value) (s:Nat) (arr:Array Value),off+s+l.length<=arr.size ->
  ((l.zipIdx s).foldl (λcs (x:Value × Nat)=>cs.setIfInBounds (off+x.2) x.1) arr).toList=arr.toList.take (off+s)++l++arr.toList.drop (off+s+l.length)
 | [],s,arr,h=>by simp
 | v::l,s,arr,h=>by
  simp only [List.length_cons] at h;rw [List.zipIdx_cons,List.foldl_cons,Nd off l (s+1) _ (by simp; omega)];simp only [Array.toList_setIfInBounds,List.length_cons];have h1:(arr.toList.set (off+s) v).take (off+(s+1))=arr.toList.take (off+s)++[v]:=by
   rw [show off+(s+1)=off+s+1 by omega,List.take_succ_eq_append_getElem (by simp; omega)];rw [List.take_set_of_le (Nat.le_refl _)];simp
  have af:(arr.toList.set (off+s) v).drop (off+(s+1)+l.length)=arr.toList.drop (off+s+(l.length+1)):=by
   rw [List.drop_set_of_lt (by omega)];congr 1; omega
  rw [h1,af];simp
theorem M' {place:Nat->Option (Nat × Nat)}{i off size:Nat}(aw:place i=some (off,size)) {arr:Array Value}{v:Value}(h1:v.cells.size=size) (af:off+v.cells.size<=arr.size) (rest:List (Nat × Value)) :
  ∃ iL:Array Value,Instr.fill place arr ((i,v)::rest)=Instr.fill place iL rest/\iL.toList=arr.toList.take off++v.cells.toList++arr.toList.drop (off+v.cells.size):=by
 refine ⟨_,by simp only [Instr.fill,aw]; rw [if_neg (by simp; omega)],?_⟩;have:=Nd off v.cells.toList 0 arr (by simpa using af)
 grind [Array.toList_zipIdx]
theorem M_ (z:Nat):∀ (vs:List Value) (k:Nat) (arr:Array Value) (done rest:List Value),(∀ v∈vs,v.cells.size=z)->arr.toList=done++rest->done.length=k * z->rest.length=vs.length * z ->
  ∃ iL:Array Value,Instr.fill (λi=>some (i * z,z)) arr (vs.mapIdx λi v=>(k+i,v))=some iL/\iL.toList=done++vs.flatMap λv=>v.cells.toList
 | [],k,arr,done,rest,_,h1,af,aF=>by
  have:rest=[]:=List.eq_nil_of_length_eq_zero (by simpa using aF);subst this;exact ⟨arr,rfl,by simpa using h1⟩
 | v::vs,k,arr,done,rest,aT,h1,af,aF=>by
  have hv:=aT v (by simp);have hlen:arr.size=done.length+rest.length:=by rw [<- Array.length_toList,h1,List.length_append]
  simp only [List.length_cons,Nat.add_mul,Nat.one_mul] at aF;rw [List.mapIdx_cons];obtain ⟨DY,bP,cu⟩:=M' (place:=λi=>some (i * z,z)) (i:=k+0) (off:=k * z) (size:=z) (by simp) (arr:=arr) (v:=v) hv (by omega) ((vs.mapIdx λi v=>(k+(i+1),v)));have th:DY.toList=(done++v.cells.toList)++rest.drop z:=by
   rw [cu,h1,<- af,List.take_left,hv,List.drop_append];simp
  obtain ⟨iL,eP,kt⟩:=M_ z vs (k+1) DY (done++v.cells.toList) (rest.drop z) (λu hu=>aT u (by simp [hu])) th (by simp [af,hv,Nat.add_mul]) (by simp; omega);refine ⟨iL,?_,by rw [kt]; simp⟩;rw [bP,<- eP];congr 1;congr 1;funext i u;congr 1; omega
theorem GO {vs:Array Value}(h:vs.all Value.oneCell'=true):∀ (k:Nat) (u:Value),vs[k]?=some u->u.oneCell'=true:=by grind
theorem D3 {P:Program}{e:TypeId}{z:Value}(h:(P.info? e).bind (·.zero)=some z) (w:World):(zeroValue e).run P w=.ok z w:=by
 cases hi:P.info? e with
 | none=>simp [hi] at h
 | some i=>simp [hi] at h; simp [zeroValue,typeInfo,hi,h]
theorem Ng {α:Type}(l:List α):∀ (n k:Nat),k<n * l.length->(List.replicate n l).flatten[k]?=l[k % l.length]?
 | 0,k,h=>by simp at h
 | n+1,k,h=>by
  rw [List.replicate_succ,List.flatten_cons];by_cases hk:k<l.length
  ·rw [List.getElem?_append_left hk,Nat.mod_eq_of_lt hk]
  ·rw [List.getElem?_append_right (by omega),Ng l n (k - l.length) (by rw [Nat.add_mul] at h; omega)];rw [<- Nat.mod_eq_sub_mod (by omega)]
section
variable {P:Program}{w:World}{I:a7}{T:Array Value}{g:aH}{Fs:Nat->a7}
theorem Sw {ys cs:List ab}{z:Nat}(aT:∀ y∈ys,∃ c,jf y=some c/\c.length=z) (aa:n2 ys=some cs):cs.length=ys.length * z:=by
 induction ys generalizing cs with
 | nil=>simp [n2] at aa; subst aa; simp
 | cons y ys aJ =>
  obtain ⟨c,h1,af⟩:=aT y (by simp);simp only [n2,h1] at aa
  grind
theorem ny.sound (h:cG w I T g Fs) {a:Act}(aQ:a.tmps=T) {o:Oper}{kk:ab}(aw:ny P g o.op o.type kk) :
  ∃ v rT,(execOp a.eval o).run P w=.ok (.value v) (w.alloc rT)/\R (w.alloc rT) I (dG (w.alloc rT) T g) kk v (λc=>c=w.heap.size):=by
 obtain ⟨dst,op,ty,pos,after,guard⟩:=o;simp only at aw;have iy:∀ (rT:Obj) {x:ab}{v:Value},R w I (dG w T g) x v cd->R (w.alloc rT) I (dG (w.alloc rT) T g) x v cd:=λrT _ _ aU=>R.alloc h rT aU λ_ h=>h.elim;cases aw with
 | @box e _ x y cs J aa =>
  have ai:=kZ h J aQ;obtain ⟨h1,Ba,af⟩:=ai.jf (λ_ h=>h) (λ_ _ J ak=>ak.Cw J) aa;refine ⟨_,.cells (a.eval x).cells e,by simp [execOp,Instr.box,newVar,newRow],R.Pq (e:=e) (pr w _) h1 Ba (λk x u J hu=>iy _ (af k x u J hu)) (Mp (Ks J) aa)⟩
 | @DV e _ z aT aa =>
  refine ⟨.pointer (some ⟨w.heap.size,0,none⟩),.cells z.cells e,by simp [execOp,Instr.alloc,newVar,newRow,D3 aT],?_⟩;rw [aa];refine .obj (Fs:=λ_=>cd) (e:=e) (pr w _) rfl (λk u hu=>?_) (λk y u ai hu=>?_) (λ_ _ _ _ _ h=>h.elim) (λ_ _ h=>h) (λc=>⟨.inl,λh=>h.elim id λ⟨_,_,h⟩=>h.elim⟩) λk j u ai hu=>?_
  ·match k,hu with
   | 0,hu=>cases hu; rfl
   | 1,hu=>cases hu; rfl
   | k+2,hu=>simp at hu
  ·match k,ai,hu with
   | 0,ai,hu=>cases ai; exact .j0 λ_ h=>h
   | 1,ai,hu=>cases ai; cases hu; exact .bb λ_ h=>h
   | k+2,ai,hu=>cases ai
  ·match k,ai,hu with
   | 0,ai,hu=>cases ai; cases hu; exact .inl ⟨rfl,rfl⟩
   | 1,ai,hu=>cases ai
   | k+2,ai,hu=>cases ai
 | @D4 e _ t k x y cs J aa aI k' =>
  have ai:=kZ h J aQ;obtain ⟨h1,Ba,af⟩:=ai.jf (λ_ h=>h) (λ_ _ J ak=>ak.Cw J) aa;have lH:=Mp (Ks J) aa;have di:k+1<cs.length:=(List.getElem?_eq_some_iff.1 k').1;refine ⟨.pointer (some ⟨w.heap.size,0,none⟩),.cells (a.eval x).cells e,by simp [execOp,Instr.box,newVar,newRow],?_⟩;refine .obj (Fs:=λ_=>cd) (e:=e) (pr w _) (by simpa using h1) Ba (λj z u aT hu=>?_) (λ_ _ _ _ _ h=>h.elim) (λ_ _ h=>h) (λc=>⟨.inl,λh=>h.elim id λ⟨_,_,h⟩=>h.elim⟩) λj i u ag hu=>?_
  ·by_cases bP:k+1=j
   ·subst bP;rw [List.getElem?_set_self (by simpa using di)] at aT;cases aT;rw [(af _ _ u k' hu).p1];exact .dt (World.ownsRow_nil _ _ _ _) rfl λc=>⟨λh=>h.elim,λh=>by simp [Value.ownBlock] at h⟩
   ·rw [List.getElem?_set_ne bP] at aT;by_cases e0:k=j
    ·subst e0;rw [List.getElem?_set_self (by omega)] at aT;cases aT;exact .j0 λ_ h=>h
    ·rw [List.getElem?_set_ne e0] at aT;exact iy _ (af j z u aT hu)
  ·by_cases bP:k+1=j
   ·subst bP;rw [List.getElem?_set_self (by simpa using di)] at ag;cases ag
   ·rw [List.getElem?_set_ne bP] at ag;by_cases e0:k=j
    ·subst e0;rw [List.getElem?_set_self (by omega)] at ag;cases ag;exact .inl ⟨(af k _ u aI hu).gW.1,rfl⟩
    ·rw [List.getElem?_set_ne e0] at ag;exact absurd ag (lH _ _)
 | @GP e _ t z aT aa =>
  refine ⟨.pointer (some ⟨w.heap.size,0,none⟩),.cells z.cells e,by simp [execOp,Instr.alloc,newVar,newRow,D3 aT],?_⟩;rw [aa];refine .obj (Fs:=λ_=>cd) (e:=e) (pr w _) rfl (λk u hu=>?_) (λk y u ai hu=>?_) (λ_ _ _ _ _ h=>h.elim) (λ_ _ h=>h) (λc=>⟨.inl,λh=>h.elim id λ⟨_,_,h⟩=>h.elim⟩) λk j u ai hu=>?_
  ·match k,hu with
   | 0,hu=>cases hu; rfl
   | 1,hu=>cases hu; rfl
   | k+2,hu=>simp at hu
  ·match k,ai,hu with
   | 0,ai,hu=>cases ai; exact .j0 λ_ h=>h
   | 1,ai,hu=>cases ai; cases hu; exact .dt (World.ownsRow_nil _ _ _ _) rfl λc=>⟨λh=>h.elim,λh=>by simp [Value.ownBlock] at h⟩
   | k+2,ai,hu=>cases ai
  ·match k,ai,hu with
   | 0,ai,hu=>cases ai; cases hu; exact .inl ⟨rfl,rfl⟩
   | 1,ai,hu=>cases ai
   | k+2,ai,hu=>cases ai
 | @alloc e _ z aT fw =>
  refine ⟨_,.cells z.cells e,by simp [execOp,Instr.alloc,newVar,newRow,D3 aT],R.Pq (e:=e) (pr w _) (by simp) (GO fw) (λk x u J hu=>iy _ (Ps k x u J (by simpa using hu))) (Pr _)⟩
 | @makeMap t _ q ba =>
  have I2:(Instr.makeMap t none).run P w=.ok (.map (some w.heap.size)) (w.alloc (.map #[] 0)):=rfl;exact ⟨.map (some w.heap.size),.map #[] 0,by simp [execOp,I2],.mp (pr w _) ba λc=>Iff.rfl⟩
 | @buildSlice t e _ z parts xs ys cs au aw J aT aa ao n' hzero =>
  obtain ⟨hu,he,dO⟩:=qc (w:=w) au;obtain ⟨ah,ak⟩:=Cx h aQ J;have hZ:=Sw aT aa;have Xj:∀ v∈xs.map a.eval,v.cells.size=z:=by
   intro v hv;obtain ⟨x,sG,rfl⟩:=List.mem_map.1 hv;obtain ⟨k,hk,rfl⟩:=List.mem_iff_getElem.1 sG;have oZ:ys[k]?=some (ys[k]'(by omega)):=List.getElem?_eq_getElem (by omega);obtain ⟨c,h1,af⟩:=aT _ (List.getElem_mem (l:=ys) (n:=k) (by omega));obtain ⟨aF,_,_⟩:=(ak k _ _ oZ (List.getElem?_eq_getElem hk)).jf (λ_ h=>h) (λ_ _ J ak=>ak.Cw J) h1;rw [<- aF,af]
  obtain ⟨dj,XO⟩:∃ dj:Array Value,(xs.length * z=0/\dj=#[])\/(xs.length * z≠0/\∃ v,dj=v.cells/\(zeroValue e).run P w=.ok v w):=by
   by_cases aI:xs.length * z=0
   ·exact ⟨#[],.inl ⟨aI,rfl⟩⟩
   ·rcases hzero with h1 | ⟨v,h1,af⟩
    ·exact absurd h1 aI
    ·exact ⟨v.cells,.inr ⟨aI,v,rfl,D3 h1 w⟩⟩
  obtain ⟨arr,bP,cu⟩:=M_ z (xs.map a.eval) 0 ((Array.range (xs.length * z)).map (dj[· % dj.size]!)) [] ((Array.range (xs.length * z)).map (dj[· % dj.size]!)).toList Xj (by simp) (by simp) (by simp);have Oa:(parts.map λ(p:Nat × Operand)=>(p.1,a.eval p.2)).toList=(xs.map a.eval).mapIdx λi v=>(0+i,v):=by
   rw [Array.toList_map,aw];apply List.ext_getElem?;intro k;simp only [List.getElem?_map,List.getElem?_mapIdx];cases xs[k]? <;> simp
  obtain ⟨gB,lD,V6⟩:=Mo (ρ:=dG w T g) (λ_ _ J ak=>ak.Cw J) (ys:=ys) (vs:=xs.map a.eval) (by simp [ah]) (λk y v ai hv=>by
   rw [List.getElem?_map] at hv;cases pZ:xs[k]? with
   | none=>simp [pZ] at hv
   | some x=>simp [pZ] at hv; subst hv; exact ak k y x ai pZ) aa
  have wL:arr.toList=(xs.map a.eval).flatMap λv=>v.cells.toList:=by simpa using cu
  have u7:arr.size=xs.length * z:=by rw [<- Array.length_toList,wL,<- gB,hZ,ah]
  have h2:(execOp a.eval { dst:=dst,op:=.buildSlice t xs.length parts,type:=ty,pos:=pos,after:=after,guard:=guard }).run P w=.ok (.value (.slice (some ⟨w.heap.size,0,none⟩) xs.length xs.length)) (w.alloc (.cells arr e)):=by
   have hle:¬ (16777216<xs.length * z):=by omega
   rcases XO with ⟨aI,rfl⟩ | ⟨aI,v,rfl,XN⟩
   ·simp only [aI] at bP;rw [<- Oa] at bP;simp at bP;simp [execOp,Instr.buildSlice,run_underlying hu,dO,aI,bP,newRow]
   ·rw [<- Oa] at bP;simp at bP;simp [execOp,Instr.buildSlice,run_underlying hu,dO,aI,hle,XN,bP,newRow]
  refine ⟨_,_,h2,R.PC (e:=e) (arr:=arr) (pr w _) (Nat.le_refl _) ?_ u7 (by rw [hZ,ah]) (λk u hu=>lD k u (by rw [<- wL]; simpa using hu)) λk x u J hu=>iy _ (V6 k x u J ?_)⟩
  ·unfold maxLen; omega
  ·rw [<- wL]; simpa using hu
 | @makeSlice t e _ x y z n b mA fX dj au J ai hzero fw oh ao aA rA hM sJ E4 =>
  obtain ⟨hu,he,dO⟩:=qc (w:=w) au;have h1:=(kZ h J aQ).gW.1;have af:=(kZ h ai aQ).gW.1;cases hi:P.info? e with
  | none=>simp [hi] at ao
  | some i =>
   simp [hi] at ao hzero;have IS:i.size=z:=by
    unfold fh at au;rw [hu] at au;simp [hi] at au;exact au
   have wT:(i.bytes:Int) * (n:Int)<=281474976710656:=by
    have:((b * n:Nat):Int)<=281474976710656:=by have:=Nat.mul_comm n b; omega
    rw [ao,<- Int.natCast_mul]; exact this
   have ak:=run_make (P:=P) w t e i dj hu hi hzero mA fX n n (by omega) (Int.le_refl _) wT (by omega);simp only [Int.toNat_natCast] at ak;refine ⟨_,.cells (madeCells dj.cells (n * i.size)) e,by simp [execOp,h1,af,ak],R.PC (e:=e) (pr w _) (Nat.le_refl _) (by unfold maxLen; omega) (by rw [size_madeCells,IS]) (by simp [oh,sJ]) (λk u hu=>?_) λk x u J hu=>?_⟩
   ·rw [madeCells,Array.getElem?_map,Array.getElem?_range] at hu
    split at hu
    ·rename_i hk;have aI:0<dj.cells.size:=by
      rcases Nat.eq_zero_or_pos dj.cells.size with h | h
      ·rw [IS,<- oh,h] at hk; simp at hk
      ·exact h
     have hm:k % dj.cells.size<dj.cells.size:=Nat.mod_lt _ aI;simp only [Option.map_some,Option.some.injEq] at hu;rw [<- hu,show dj.cells[k % dj.cells.size]! = dj.cells[k % dj.cells.size] by simp [hm]];exact GO fw _ _ (Array.getElem?_eq_getElem hm)
    ·cases hu
   have hk:k<n * dj.cells.size:=by
    have:=(List.getElem?_eq_some_iff.1 J).1;simpa [Nat.mul_comm,sJ] using this
   have aI:0<dj.cells.size:=by
    rcases Nat.eq_zero_or_pos dj.cells.size with h | h
    ·rw [h] at hk; simp at hk
    ·exact h
   have hm:k % dj.cells.size<dj.cells.size:=Nat.mod_lt _ aI;rw [Ng _ n k (by simpa [sJ] using hk),sJ] at J;rw [madeCells,Array.getElem?_map,Array.getElem?_range,if_pos (by rw [IS,<- oh]; exact hk)] at hu;simp only [Option.map_some,Option.some.injEq] at hu;have ht:dj.cells[k % dj.cells.size]! = dj.cells[k % dj.cells.size]:=by simp [hm]
   rw [ht] at hu;subst hu;rcases E4 _ _ x (Array.getElem?_eq_getElem hm) J with rfl | ⟨h1,bM,rfl⟩
   ·exact iy _ (Cu _)
   ·have aU:=Cu (w:=w) (I:=I) (ρ:=dG w T g) dj.cells[k % dj.cells.size];rw [h1] at aU;rw [aU.p1];exact .hd λ_ h=>h
def Cells (w:World) (I:a7) (ρ:ab->Value->Prop) (cs:List ab) (vs:List Value):Prop :=
 cs.length=vs.length/\(∀ (k:Nat) (u:Value),vs[k]?=some u->u.oneCell'=true)/\∀ (k:Nat) (x:ab) (u:Value),cs[k]?=some x->vs[k]?=some u->R w I ρ x u cd
theorem Cells.append {ρ:ab->Value->Prop}{a b:List ab}{u v:List Value}(h:Cells w I ρ a u) (aR:Cells w I ρ b v):Cells w I ρ (a++b) (u++v):=by
 refine ⟨by simp [h.1,aR.1],λk y ai=>?_,λk x y J ai=>?_⟩
 ·by_cases hk:k<u.length
  ·rw [List.getElem?_append_left hk] at ai; exact h.2.1 k y ai
  ·rw [List.getElem?_append_right (by omega)] at ai; exact aR.2.1 _ y ai
 ·by_cases hk:k<a.length
  ·rw [List.getElem?_append_left hk] at J;rw [List.getElem?_append_left (by rw [<- h.1]; exact hk)] at ai;exact h.2.2 k x y J ai
  ·rw [List.getElem?_append_right (by omega)] at J;rw [List.getElem?_append_right (by rw [<- h.1]; omega)] at ai;exact aR.2.2 _ x y J (by rw [h.1]; exact ai)
theorem Cells.take {ρ:ab->Value->Prop}{a:List ab}{u:List Value}(h:Cells w I ρ a u) (n:Nat):Cells w I ρ (a.take n) (u.take n):=by
 refine ⟨by simp [h.1],λk y ai=>?_,λk x y J ai=>?_⟩
 ·rw [List.getElem?_take] at ai
  split at ai
  ·exact h.2.1 k y ai
  grind
 ·rw [List.getElem?_take] at J ai
  split at J
  ·rename_i hk;rw [if_pos hk] at ai;exact h.2.2 k x y J ai
  grind
theorem Cells.drop {ρ:ab->Value->Prop}{a:List ab}{u:List Value}(h:Cells w I ρ a u) (n:Nat):Cells w I ρ (a.drop n) (u.drop n):=by
 refine ⟨by simp [h.1],λk y ai=>?_,λk x y J ai=>?_⟩
 ·rw [List.getElem?_drop] at ai; exact h.2.1 _ y ai
 ·rw [List.getElem?_drop] at J ai;exact h.2.2 _ x y J ai
theorem M9 {ρ:ab->Value->Prop}{place:Nat->Option (Nat × Nat)}:∀ (ps:List (Nat × List ab)) (sV:List (Nat × Value)) {cells cs:List ab}{arr:Array Value},Cells w I ρ cells arr.toList ->
  ps.map (·.1)=sV.map (·.1)->(∀ (k:Nat) (p:Nat × List ab) (q:Nat × Value),ps[k]?=some p->sV[k]?=some q->Cells w I ρ p.2 q.2.cells.toList)->uL place cells ps=some cs ->
  ∃ iL:Array Value,Instr.fill place arr sV=some iL/\Cells w I ρ cs iL.toList
 | [],sV,cells,cs,arr,aa,hk,_,aV=>by
  cases sV with
  | nil=>simp only [uL,Option.some.injEq] at aV; subst aV; exact ⟨arr,rfl,aa⟩
  | cons=>simp at hk
 | (i,c)::ps,sV,cells,cs,arr,aa,hk,ak,aV=>by
  cases sV with
  | nil=>simp at hk
  | cons q sV =>
   obtain ⟨j,v⟩:=q;simp only [List.map_cons,List.cons.injEq] at hk;obtain ⟨rfl,hk⟩:=hk;have aI:=ak 0 _ _ rfl rfl;simp only [uL] at aV;cases aw:place i with
   | none=>simp [aw] at aV
   | some os =>
    obtain ⟨off,size⟩:=os;simp only [aw] at aV
    split at aV
    ·rename_i adG;have hlen:v.cells.size=c.length:=by rw [<- Array.length_toList]; exact aI.1.symm
     have N4:arr.size=cells.length:=by rw [<- Array.length_toList]; exact aa.1.symm
     obtain ⟨DY,bP,cu⟩:=M' (arr:=arr) (v:=v) aw (by omega) (by omega) sV;have lD:Cells w I ρ (cells.take off++c++cells.drop (off+c.length)) DY.toList:=by
      rw [cu,hlen];exact ((aa.take off).append aI).append (aa.drop _)
     obtain ⟨iL,eP,kt⟩:=M9 ps sV lD hk (λk p q aw ba=>ak (k+1) p q aw ba) aV;exact ⟨iL,by rw [bP,eP],kt⟩
    ·cases aV
theorem PJ (h:cG w I T g Fs) {a:Act}(aQ:a.tmps=T):∀ {l:List (Nat × Operand)}{ps:List (Nat × List ab)},qR g l=some ps ->
  ps.map (·.1)=(l.map λp=>(p.1,a.eval p.2)).map (·.1)/\∀ (k:Nat) (p:Nat × List ab) (q:Nat × Value),ps[k]?=some p->(l.map λp=>(p.1,a.eval p.2))[k]?=some q->Cells w I (dG w T g) p.2 q.2.cells.toList
 | [],ps,aw=>by simp only [qR,Option.some.injEq] at aw; subst aw; simp
 | (i,x)::l,ps,aw=>by
  simp only [qR] at aw;cases J:bp g x with
  | none=>simp [J] at aw
  | some y =>
   cases ah:qR g l with
   | none=>simp [J,ah] at aw
   | some aeq =>
    simp only [J,ah,Option.map_eq_some_iff] at aw;obtain ⟨c,aa,rfl⟩:=aw;obtain ⟨h1,af⟩:=PJ h aQ ah;refine ⟨by simp [h1],λk p q aw ba=>?_⟩;cases k with
    | zero =>
     simp at aw ba;subst aw ba;obtain ⟨aF,Uu,bk⟩:=(kZ h J aQ).jf (λ_ h=>h) (λ_ _ J ak=>ak.Cw J) aa;exact ⟨by simpa using aF,λk u hu=>Uu k u (by simpa using hu),λk x u J hu=>bk k x u J (by simpa using hu)⟩
    | succ k=>simp at aw ba; exact af k p q aw (by simpa using ba)
theorem Z6 {t:TypeId}{pl:List (Nat × Nat)}(h:k3 P t pl=true):∃ fs,P.underlying t=some (.struct fs)/\fs.toList.mapM (λf=>(P.info? f.type).map λi=>(f.offset,i.size))=some pl:=by
 unfold k3 at h;cases hu:P.underlying t with
 | none=>simp [hu] at h
 | some d =>
  cases d <;> simp only [hu,Bool.false_eq_true] at h;rename_i fs;refine ⟨fs,rfl,?_⟩;replace h:=LawfulBEq.eq_of_beq h;generalize fs.toList=l at h
  induction l generalizing pl with
  | nil=>cases pl with
   | nil=>rfl
   | cons=>simp at h
  | cons f l aJ =>
   cases pl with
   | nil=>simp at h
   | cons p pl =>
    obtain ⟨o,s⟩:=p;simp only [List.map_cons,List.cons.injEq,Prod.mk.injEq] at h;obtain ⟨⟨rfl,h1⟩,af⟩:=h;have:=aJ af;rw [List.mapM_cons,this];cases hi:P.info? f.type with
    | none=>simp [hi] at h1
    | some i=>simp [hi] at h1; subst h1; rfl
theorem uA.sound (h:cG w I T g Fs) {a:Act}(aQ:a.tmps=T) {o:Oper}{kk:ab}(aw:uA P g o.op o.type kk) :
  ∃ v,(execOp a.eval o).run P w=.ok (.value v) w/\R w I (dG w T g) kk v cd:=by
 obtain ⟨dst,op,ty,pos,after,guard⟩:=o;simp only at aw;cases aw with
 | @build t _ parts pl dj ps cs au aT fw aw aa =>
  obtain ⟨fs,hu,w4⟩:=Z6 au;obtain ⟨h1,af⟩:=PJ h aQ aw;obtain ⟨iL,bP,cu⟩:=M9 (w:=w) (I:=I) (ρ:=dG w T g) (place:=λi=>pl[i]?) ps _ (arr:=dj.cells) ⟨by simp,λk u hu=>GO fw k u (by simpa using hu),λk x u J hu=>Ps k x u J hu⟩ h1 af aa;refine ⟨.agg iL,?_,.agg (Fs:=λ_=>cd) (by simpa using cu.1) (λk u hu=>cu.2.1 k u (by simpa using hu)) (λk x u J hu=>cu.2.2 k x u J (by simpa using hu)) (λ_ _ _ _ _ h=>h.elim) (λc=>⟨λh=>h.elim,λ⟨_,_,h⟩=>h⟩)⟩;have ad9:=run_places (P:=P) w fs.toList pl w4;have ao:P.built t ((parts.map λ(p:Nat × Operand)=>(p.1,a.eval p.2))).toList=some iL:=by
   rw [Array.toList_map];cases hi:P.info? t with
   | none=>simp [hi] at aT
   | some it =>
    simp_all [Program.built]
  simp_all [run_build,execOp]
 | @makeFunc fn first caps _ gL hx h1 af =>
  obtain ⟨ax,a2⟩:=Cx h aQ h1;obtain ⟨fF,fQ⟩:=Cx h aQ af;refine ⟨.func fn (first.map a.eval) (caps.map a.eval),by simp [execOp,Instr.makeFunc],.dc (λ_ h=>h) (by simpa using ax) (by simpa using fF) (λk x u J hu=>?_) (λk x u J hu=>?_)⟩
  ·grind
  grind
end
end Go.Own
namespace Go.Own
open Go
set_option linter.unusedSectionVars false
variable [cw]
structure yg (w w':World) (bv dB:Value) (e cu:TypeId) (z n m:Nat) (us news:List Value):Prop where
 iy:w'.ownsRow 0 e z bv n us
 new:w'.ownsRow 0 cu z dB (n+m) (us++news)
 eh:Fr w w' (λc=>bv.ownBlock=some c)
 fG:∀ c,dB.ownBlock=some c->bv.ownBlock=some c\/w.heap.size<=c
 sp:∀ c,bv.ownBlock=some c->∃ arr iL:Array Value,w.heap[c]?=some (.cells arr e (0,0))/\w'.heap[c]?=some (.cells iL e (0,0))/\iL.size=arr.size/\iL.toList.take (n * z)=arr.toList.take (n * z)
section
variable {P:Program}{w:World}
theorem yg.same {bv dB:Value}{e cu:TypeId}{z n m:Nat}{us news:List Value}{w':World}(iq:w.ownsRow 0 e z bv n us) (ao:∀ c,c<w.heap.size->w'.heap[c]?=w.heap[c]?) (av:w.heap.size<=w'.heap.size)
  (h1:w'.os=w.os) (af:w'.tape=w.tape) (aF:w'.output=w.output) (rB:w'.ownsRow 0 cu z dB (n+m) (us++news)) (hblk:∀ c,dB.ownBlock=some c->bv.ownBlock=some c\/w.heap.size<=c) (nL:∀ a,w'.frozen? a=w.frozen? a) (Wa:w.drawn<=w'.drawn:=by first | exact Nat.le_refl _ | exact Nat.le_succ _):yg w w' bv dB e cu z n m us news:=by
 have aK:=iq.lt;refine ⟨rV iq λc aa=>ao c (aK c aa).2,rB,⟨h1,af,aF,av,λb kT _=>ao b kT,λa _ _=>nL a,Wa⟩,hblk,λc aa=>?_⟩;obtain ⟨_,br⟩:=iq;rcases br with ⟨rfl,_⟩ | ⟨b,cap,cur,rfl,_,aL,_⟩
 ·simp [Value.ownBlock] at aa
 ·simp only [Value.ownBlock,Option.some.injEq] at aa;subst aa;exact ⟨cur,cur,aL,(ao _ (aK b rfl).2).trans aL,rfl,rfl⟩
theorem Zw (t ty e b0:TypeId) (i:TypeInfo) (au:P.underlying t=some (.slice e)) (hi:P.info? e=some i)
  (b xZ KO:Nat) (cur:Array Value) (aL:w.heap[b]?=some (.cells cur b0 (0,0)))
  (a:Addr) (m c:Nat) (news:List Value) (ah:news.length=m * i.size) (tI:∀ j u,news[j]?=some u->w.cell? (a.add j)=some u) (h1:∀ u∈news,u.oneCell'=true)
  (u5:xZ+m<=KO) (IL:xZ * i.size+news.length<=cur.size) :
  (Builtin.append_ #[t,t] ty #[.slice (some ⟨b,0,none⟩) xZ KO,.slice (some a) m c]).run P w =
   .ok (.slice (some ⟨b,0,none⟩) (xZ+m) KO) (w.setRow b (cur.toList.take (xZ * i.size)++news++cur.toList.drop (xZ * i.size+news.length)).toArray):=by
 have aV:=run_firstCells_some (P:=P) w i.size m a m c news ah tI;have bQ:=run_storeCells_at P b (xZ * i.size) b0 news 0 cur w aL (by simpa using IL) h1;simp only [Nat.add_zero] at bQ;simp [Builtin.append_,run_underlying au,sizeOf,typeInfo,hi,Builtin.lenOf,u5,aV,Addr.add_lit,bQ]
theorem P1 (t ty e b0:TypeId) (i:TypeInfo) (dj:Value) (au:P.underlying t=some (.slice e)) (hi:P.info? e=some i) (aT:i.zero=some dj) (oh:dj.cells.size=i.size) (_h0:0<i.size)
  {bv:Value}{n m c:Nat}{us news:List Value}(iq:w.ownsRow 0 b0 i.size bv n us) {a:Option Addr}(aQ:0<m->a.isSome=true)
  (ah:news.length=m * i.size) (tI:∀ ad,a=some ad->∀ (j:Nat) (u:Value),news[j]?=some u->w.cell? (ad.add j)=some u) (h1:∀ u∈news,u.oneCell'=true)
  (mU:n+m<=maxLen) (wT:(n+m) * i.bytes<=140737488355328) :
  ∃ dB w' cu,(Builtin.append_ #[t,t] ty #[bv,.slice a m c]).run P w=.ok dB w'/\yg w w' bv dB b0 cu i.size n m us news:=by
 have iu:=iq.1;by_cases hm:m=0
 ·subst hm;have aA:news=[]:=List.eq_nil_of_length_eq_zero (by simpa using ah);subst aA;refine ⟨bv,w,b0,?_,.same iq (λ_ _=>rfl) (Nat.le_refl _) rfl rfl rfl (by simpa using iq) (λc aa=>.inl aa) λ_=>rfl⟩;obtain ⟨_,br⟩:=iq;rcases br with ⟨rfl,rfl⟩ | ⟨b,cap,cur,rfl,_,aL,hle,_⟩
  ·cases a <;> simp [Builtin.append_,run_underlying au,sizeOf,typeInfo,hi,Builtin.lenOf,Builtin.firstCells,loadCells,loadCellsFrom]
  ·cases a <;> simp [Builtin.append_,run_underlying au,sizeOf,typeInfo,hi,Builtin.lenOf,Builtin.firstCells,loadCells,loadCellsFrom,hle,storeCells]
 ·cases a with
  | none=>simp at aQ; omega
  | some ad =>
   replace tI:=tI ad rfl;have W0:n+m<=9223372036854775807:=by simp only [maxLen] at mU; omega
   have grown:∀ (iy:Nat),iy<n+m ->
     (w.drew.alloc (.cells (us.toArray++news.toArray++Builtin.zeroCells dj.cells (grownCap w (n+m) iy e - (n+m))) e)).ownsRow 0 e i.size (.slice (some ⟨w.heap.size,0,none⟩) (n+m) (grownCap w (n+m) iy e)) (n+m) (us++news):=by
    intro iy aM;have dx:=grownCap_ge w (n+m) iy e;have hlen:(us++news).length=(n+m) * i.size:=by rw [List.length_append,iu,ah,Nat.add_mul]
    refine ⟨hlen,.inr ⟨w.heap.size,_,_,rfl,Nat.zero_le _,pr w.drew _,dx,grownCap_le_maxLen w (n+m) iy e mU,?_,?_⟩⟩
    ·simp only [Array.size_append,List.size_toArray,size_zeroCells,oh,iu,ah,<- Nat.add_mul];congr 1;omega
    ·simp only [Array.toList_append,List.append_assoc];rw [<- List.append_assoc,<- hlen];exact List.take_left
   have w1:=iq;obtain ⟨_,br⟩:=iq;rcases br with ⟨rfl,rfl⟩ | ⟨b,cap,cur,rfl,_,aL,hle,l3,gB,zi⟩
   ·have J:us=[]:=List.eq_nil_of_length_eq_zero (by simpa using iu);subst J;have ak:=run_append_nil (P:=P) w t ty e i dj au hi aT ad m c news ah tI (by omega) (by omega) (by simp only [Nat.zero_add] at wT; omega);have nM:=grown 0 (by omega);simp only [Nat.zero_add,List.nil_append,Array.empty_append] at nM;exact ⟨_,_,e,ak,.same w1 (λc aa=>alloc_old w.drew _ c aa) (by simp) rfl rfl rfl (by simpa using nM) (λc aa=>.inr (by simp [Value.ownBlock] at aa; omega)) (λa=>A' w.drew _ _ a)⟩
   ·by_cases u5:n+m<=cap
    ·have IL:n * i.size+news.length<=cur.size:=by rw [ah,gB,<- Nat.add_mul]; exact Nat.mul_le_mul_right _ u5
     have ak:=Zw (P:=P) (w:=w) t ty e b0 i au hi b n cap cur aL ad m c news ah tI h1 u5 IL;have hlen:(us++news).length=(n+m) * i.size:=by rw [List.length_append,iu,ah,Nat.add_mul]
     have dO:(cur.toList.take (n * i.size)++news++cur.toList.drop (n * i.size+news.length)).toArray.size=cur.size:=by
      simp only [List.size_toArray,List.length_append,List.length_take,List.length_drop,Array.length_toList];omega
     have hJ:(cur.toList.take (n * i.size)++news++cur.toList.drop (n * i.size+news.length)).take (n * i.size)=cur.toList.take (n * i.size):=by
      rw [List.append_assoc];exact List.take_left' (by simp; omega)
     refine ⟨_,_,b0,ak,⟨⟨iu,.inr ⟨b,cap,_,rfl,Nat.zero_le _,setRow_heap w b cur _ b0 _ aL,hle,l3,dO.trans gB,?_⟩⟩,⟨hlen,.inr ⟨b,cap,_,rfl,Nat.zero_le _,setRow_heap w b cur _ b0 _ aL,u5,l3,dO.trans gB,?_⟩⟩,
      ⟨rfl,rfl,rfl,by simp,λk _ hk=>setRow_other w b k _ (λe=>hk (by simp [Value.ownBlock,e])),λa _ _=>Eo w b _ a,Nat.le_refl _⟩,λc aa=>.inl aa,λc aa=>?_⟩⟩
     ·rw [<- zi]; exact hJ
     ·rw [zi,<- hlen];exact List.take_left
     ·simp only [Value.ownBlock,Option.some.injEq] at aa;subst aa;exact ⟨cur,_,aL,setRow_heap w b cur _ b0 _ aL,dO,hJ⟩
    ·have holds:∀ (j:Nat) (u:Value),us[j]?=some u->w.cell? ((⟨b,0,none⟩:Addr).add j)=some u:=w1.cells (g:=b) rfl;have ak:=run_append_grow (P:=P) w t ty e i dj au hi aT ⟨b,0,none⟩ n cap us iu holds ad m c news ah tI (by omega) (by omega) (growslice_fits (by omega) wT);have nM:=grown cap (by omega);exact ⟨_,_,e,ak,.same w1 (λc aa=>alloc_old w.drew _ c aa) (by simp) rfl rfl rfl nM (λc aa=>.inr (by simp [Value.ownBlock] at aa; omega)) (λa=>A' w.drew _ _ a)⟩
end
end Go.Own
namespace Go.Own
open Go
set_option linter.unusedSectionVars false
variable [cw]
section
variable {w w':World}{I:a7}{ρ ρ':ab->Value->Prop}
theorem R.kids {x:ab}{v:Value}{F:a7}(h:R w I ρ x v F) (J:x.kids≠[]):∃ Fs:Nat->a7,
  (∀ k y,x.kids[k]?=some y->∃ u,child w v k=some u/\R w I ρ y u (Fs k))/\(∀ (j k c:Nat),j<x.kids.length->k<x.kids.length->Fs j c->Fs k c->j=k) /\
  (∀ k c,k<x.kids.length->Fs k c->F c)/\(∀ z n cs,x=.own z n cs->∀ c,v.ownBlock=some c->∀ k,k<x.kids.length->¬ Fs k c):=by
 cases h with
 | @own z n cs _ e us Fs _ aM ah h1 ak aP ao aE =>
  refine ⟨Fs,λk y hk=>?_,aP,λk c hk aa=>(aE c).2 (.inr ⟨k,hk,aa⟩),λ_ _ _ _ c aa k hk h=>ao k c hk h aa⟩;simp only [ab.kids] at hk;have aK:k<cs.length:=(List.getElem?_eq_some_iff.1 hk).1;have hu:us[k]?=some us[k]:=List.getElem?_eq_getElem (ah ▸ aK)
  grind [ow]
 | @obj cs b e arr Fs _ aM ah h1 ak aP ao aE =>
  refine ⟨Fs,λk y hk=>?_,aP,λk c hk aa=>(aE c).2 (.inr ⟨k,hk,aa⟩),λ_ _ _ h=>by simp at h⟩;simp only [ab.kids] at hk;have aK:k<cs.length:=(List.getElem?_eq_some_iff.1 hk).1;have hu:arr[k]?=some arr[k]:=Array.getElem?_eq_getElem (ah ▸ aK);exact ⟨_,by simp [child,World.cell?,aM,hu],ak k y _ hk hu⟩
 | @agg cs vs Fs _ ah h1 ak aP aE =>
  refine ⟨Fs,λk y hk=>?_,aP,λk c hk aa=>(aE c).2 ⟨k,hk,aa⟩,λ_ _ _ h=>by simp at h⟩;simp only [ab.kids] at hk;have aK:k<cs.length:=(List.getElem?_eq_some_iff.1 hk).1
  simp_all [child]
 | @bI cs vs Fs _ ah ak aP aE =>
  refine ⟨Fs,λk y hk=>?_,aP,λk c hk aa=>(aE c).2 ⟨k,hk,aa⟩,λ_ _ _ h=>by simp at h⟩;simp only [ab.kids] at hk;have aK:k<cs.length:=(List.getElem?_eq_some_iff.1 hk).1
  simp_all [child]
 | ref fD=>cases x <;> simp [ab.isRef,ab.kids] at fD J
 | _=>simp [ab.kids] at J
theorem ab.uD {x y:ab}{k:Nat}{p:List Nat}(h:x.at (k::p)=some y):∃ c,x.kids[k]?=some c/\c.at p=some y:=by
 grind [ab.at]
theorem R.Kn {b:Nat}:∀ (q r:List Nat) {x:ab}{v:Value}{F:a7}{z n bM ck:Nat}{cs cs':List ab}{l_ Dv:Value},R w I ρ x v F->x.at q=some (.own z n cs)->x.at r=some (.own bM ck cs') ->
  walk w v q=some l_->walk w v r=some Dv->l_.ownBlock=some b->Dv.ownBlock=some b->q=r
 | [],[],_,_,_,_,_,_,_,_,_,_,_,_,_,_,_,_,_,_=>rfl
 | [],k::r,x,v,F,z,n,bM,ck,cs,cs',l_,Dv,h,ba,ak,nW,wr,yH,yI=>by
  obtain ⟨c,hk,aa⟩:=ab.uD ak;simp only [ab.at,Option.some.injEq] at ba;simp only [walk,Option.some.injEq] at nW;subst ba nW;have aK:k<(ab.own z n cs).kids.length:=(List.getElem?_eq_some_iff.1 hk).1;obtain ⟨Fs,h1,af,aF,bk⟩:=h.kids (by intro e; rw [e] at aK; simp at aK);obtain ⟨u,hu,nG⟩:=h1 k c hk;simp only [walk,hu] at wr;obtain ⟨hV,cD,hw,dv,dq,_⟩:=R.focus r nG aa;rw [hw] at wr;cases wr;exact absurd (dq b (dv.p5 b yI)) (bk z n cs rfl b yH k aK)
 | j::q,[],x,v,F,z,n,bM,ck,cs,cs',l_,Dv,h,ba,ak,nW,wr,yH,yI=>by
  obtain ⟨c,hk,aa⟩:=ab.uD ba;simp only [ab.at,Option.some.injEq] at ak;simp only [walk,Option.some.injEq] at wr;subst ak wr;have aK:j<(ab.own bM ck cs').kids.length:=(List.getElem?_eq_some_iff.1 hk).1;obtain ⟨Fs,h1,af,aF,bk⟩:=h.kids (by intro e; rw [e] at aK; simp at aK);obtain ⟨u,hu,nG⟩:=h1 j c hk;simp only [walk,hu] at nW;obtain ⟨hV,cD,hw,dv,dq,_⟩:=R.focus q nG aa;rw [hw] at nW;cases nW;exact absurd (dq b (dv.p5 b yH)) (bk bM ck cs' rfl b yI j aK)
 | j::q,k::r,x,v,F,z,n,bM,ck,cs,cs',l_,Dv,h,ba,ak,nW,wr,yH,yI=>by
  obtain ⟨c,ag,aa⟩:=ab.uD ba;obtain ⟨d,hk,aP⟩:=ab.uD ak;have eV:j<x.kids.length:=(List.getElem?_eq_some_iff.1 ag).1;have di:k<x.kids.length:=(List.getElem?_eq_some_iff.1 hk).1;obtain ⟨Fs,h1,af,aF,bk⟩:=h.kids (by intro e; rw [e] at eV; simp at eV);obtain ⟨u,hu,nG⟩:=h1 j c ag;obtain ⟨x7,ht,Ii⟩:=h1 k d hk;simp only [walk,hu] at nW;simp only [walk,ht] at wr;by_cases fV:j=k
  ·subst fV;rw [ag] at hk; cases hk;rw [hu] at ht; cases ht;rw [R.Kn q r nG aa aP nW wr yH yI]
  ·exfalso;obtain ⟨hV,cD,hw,dv,dq,_⟩:=R.focus q nG aa;obtain ⟨aaD,iH,xa,Ij,UZ,_⟩:=R.focus r Ii aP;rw [hw] at nW; cases nW;rw [xa] at wr; cases wr;exact fV (af j k b eV di (dq b (dv.p5 b yH)) (UZ b (Ij.p5 b yI)))
theorem ab.Qi:∀ (q:List Nat) {x y:ab},x.at q=some y->x.setAt q y=x
 | [],x,y,h=>by simp [ab.at] at h; simp [ab.setAt,h]
 | k::q,x,y,h=>by
  obtain ⟨c,hk,aa⟩:=ab.uD h;simp only [ab.setAt,hk,ab.Qi q aa];have:∀ (l:List ab),l[k]?=some c->l.set k c=l:=by
   intro l ah;apply List.ext_getElem?;intro j;by_cases fV:k=j
   ·subst fV;have aK:k<l.length:=(List.getElem?_eq_some_iff.1 ah).1;rw [List.getElem?_set_self aK,ah]
   ·rw [List.getElem?_set_ne fV]
  cases x <;> simp [ab.kids] at hk <;> simp [ab.ud,this _ hk]
theorem Dx (w:World):∀ (p:List Nat) (v:Value) (r:List Nat),walk w v (p++r)=(walk w v p).bind λu=>walk w u r
 | [],v,r=>rfl
 | k::p,v,r=>by
  simp only [List.cons_append,walk];cases child w v k with
  | none=>rfl
  | some u=>exact Dx w p u r
theorem ab.GV:∀ (p:List Nat) (x:ab) (r:List Nat),x.at (p++r)=(x.at p).bind λy=>y.at r
 | [],x,r=>rfl
 | k::p,x,r=>by
  simp only [List.cons_append,ab.at];cases x.kids[k]? with
  | none=>rfl
  | some u=>exact ab.GV p u r
structure DR (w w':World) (b M:Nat):Prop where
 other:∀ c,c<w.heap.size->c≠b->w'.heap[c]?=w.heap[c]?
 here:∃ (arr iL:Array Value) (e:TypeId),w.heap[b]?=some (.cells arr e (0,0))/\w'.heap[b]?=some (.cells iL e (0,0))/\iL.size=arr.size/\iL.toList.take M=arr.toList.take M
theorem DR.row {b M:Nat}(s:DR w w' b M) {e:TypeId}{z n:Nat}{v:Value}{us:List Value}(h:w.ownsRow 0 e z v n us) (aA:v.ownBlock=some b->n * z<=M):w'.ownsRow 0 e z v n us:=by
 by_cases ao:v.ownBlock=some b
 ·obtain ⟨arr,iL,bP,h1,af,aF,bk⟩:=s.here;obtain ⟨hu,br⟩:=h;rcases br with ⟨rfl,rfl⟩ | ⟨g,cap,cur,rfl,aL,aa,ox,iW,qW,o6⟩
  ·grind [Value.ownBlock]
  ·simp only [Value.ownBlock,Option.some.injEq] at ao;subst ao;rw [h1] at aa;cases aa;refine ⟨hu,.inr ⟨g,cap,iL,rfl,aL,af,ox,iW,by omega,?_⟩⟩;rw [<- o6];have:=congrArg (List.take (n * z)) bk
   rwa [List.take_take,List.take_take,Nat.min_eq_left (aA rfl)] at this
 ·exact rV h λc aa=>s.other c (h.lt c aa).2 λe=>ao (e ▸ aa)
theorem R.spare {b M:Nat}(s:DR w w' b M) (a':∀ c,I c->c<w.heap.size/\c≠b) (lg:∀ x v,ρ x v->ρ' x v) {x:ab}{v:Value}{F:a7}(h:R w I ρ x v F) {q:List Nat}{z n:Nat}{cs:List ab}{hV:Value}
  (fR:x.at q=some (.own z n cs)) (hw:walk w v q=some hV) (ao:hV.ownBlock=some b) (aA:n * z<=M) :
  R w' I ρ' x v F/\∀ r y,x.at r=some y->walk w' v r=walk w v r:=by
 obtain ⟨aaD,cD,xa,dv,dq,eS,kB⟩:=R.focus q h fR;rw [hw] at xa;cases xa;have n5:cD b:=dv.p5 b ao;have aK:=h.lt;have same:∀ c,F c->c≠b->w'.heap[c]?=w.heap[c]?:=λc aa cN=>s.other c (aK c aa) cN;have adz:=dv;cases dv with
 | ref J=>simp [ab.isRef] at J
 | @own _ _ _ _ e us Fs _ aM ah h1 ak aP hY aE =>
  have mu:=s.row aM λ_=>aA;have cN:∀ k c,k<cs.length->Fs k c->c≠b:=λk c hk aa e=>hY k c hk aa (e ▸ ao);have iO:∀ k c,k<cs.length->Fs k c->F c:=λk c hk aa=>dq c ((aE c).2 (.inr ⟨k,hk,aa⟩));have rB:R w' I ρ' (.own z n cs) hV cD:=by
   refine .own mu ah h1 (λk x u J hu=>?_) aP hY aE;have hk:k<cs.length:=(List.getElem?_eq_some_iff.1 J).1;exact (ak k x u J hu).frame (λc aa=>s.other c (a' c aa).1 (a' c aa).2) (λ_ h=>h) lg λc aa=>same c (iO k c hk aa) (cN k c hk aa)
  constructor
  ·obtain ⟨cW,h_,oQ⟩:=kB w' I ρ' _ cD ⟨λc aa=>s.other c (a' c aa).1 (a' c aa).2,λc aa aA=>same c aa λe=>aA (e ▸ n5),λ_ h=>h,lg⟩ rB (λc aa _=>aa) λ_ h=>by cases h
   rw [ab.Qi q fR] at h_;refine h_.tg λc=>?_;rw [oQ c];constructor
   ·rintro (⟨h,_⟩ | h)
    ·exact h
    ·exact dq c h
   ·intro h;by_cases aa:cD c
    ·exact .inr aa
    ·exact .inl ⟨h,aa⟩
  ·obtain ⟨fj,e9⟩:=eS w' λc aa aA=>same c aa λe=>aA (e ▸ n5);intro r y ec;rcases e9 r y ec with ⟨dr,rfl⟩ | h
   ·rw [Dx,Dx,fj,hw];simp only [Option.bind_some];cases dr with
    | nil=>rfl
    | cons k dr =>
     rw [ab.GV,fR] at ec;obtain ⟨c,hk,aa⟩:=ab.uD (x:=.own z n cs) ec;simp only [ab.kids] at hk;have di:k<cs.length:=(List.getElem?_eq_some_iff.1 hk).1;have hu:us[k]?=some us[k]:=List.getElem?_eq_getElem (ah ▸ di);have:=R.pa (w':=w') dr (ak k c _ hk hu) aa λc aa=>same c (iO k c di aa) (cN k c di aa);simp [walk,ow aM hu,ow mu hu,this]
   ·exact h
end
end Go.Own
