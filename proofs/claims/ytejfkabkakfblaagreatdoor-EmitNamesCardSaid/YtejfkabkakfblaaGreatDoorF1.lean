/- Parts of the proof that the last text states. -/
import Derived.Orders
import Derived.WalkKit
namespace Go.Own
open Go
structure Place where
 root:Nat
 path:List Nat
 deriving DecidableEq,Repr
def Place.push (p:Place) (k:Nat):Place:=⟨p.root,p.path++[k]⟩
inductive ab where
 | lit (v:Value)
 | aU
 | bk (z n:Nat) (cs:List ab)
 | own (z n:Nat) (cs:List ab)
 | obj (cs:List ab)
 | agg (cs:List ab)
 | bJ (cs:List ab)
 | cJ (cs:List ab)
 | ptr (p:Place) (k:Nat)
 | bl (z:Nat) (p:Place) (n:Nat)
 | sub (z:Nat) (p:Place) (lo n:Nat)
 | bC (z:Nat) (p:Place) (n m:Nat) (new:List ab)
 | di (fn:Fn) (first caps:List ab)
 | mp (p:Array MapEntry->Nat->Prop)
 | hf (p:Place)
 | imp (p:Array MapEntry->Nat->Prop)
 | dead
 | self (k:Nat × Nat)
 | eY (t:Nat) (us:List Value)
 deriving Inhabited
def qN (cs:List ab):Prop:=∀ (k:Nat) (J:Nat × Nat),cs[k]?≠some (.self J)
def sw (x:ab):Prop:=∀ cs,x=.agg cs->qN cs
abbrev a_:=Nat->Prop
def ab.isRef:ab->Bool
 | .ptr .. | .bl .. | .sub .. | .hf ..=>true
 | _=>false
inductive R (w:World) (I:a_) (ρ:ab->Value->Prop):ab->Value->a_->Prop
 | lit {v:Value}{F:a_}(hv:v.oneCell'=true) (aG:∀ c,¬ F c):R w I ρ (.lit v) v F
 | aU {F:a_}(aG:∀ c,¬ F c):R w I ρ .aU (.slice none 0 0) F
 | dead {v:Value}{F:a_}(aG:∀ c,¬ F c):R w I ρ .dead v F
 | eY {t:Nat}{us:List Value}{v:Value}{F:a_}(aV:w.ownsRow 0 t 1 v us.length us) (h1:v.oneCell'=true) (aG:∀ c,F c↔v.ownBlock=some c):R w I ρ (.eY t us) v F
 | l1 {k:Nat × Nat}{v:Value}{F:a_}(aG:∀ c,¬ F c):R w I ρ (.self k) v F
 | ref {x:ab}{v:Value}{F:a_}(j:x.isRef=true) (h:ρ x v) (aG:∀ c,¬ F c):R w I ρ x v F
 | hn {z cap:Nat}{a:Option Addr}{F:a_}(aG:∀ c,¬ F c):R w I ρ (.bk z 0 []) (.slice a 0 cap) F
 | bk {z n cap:Nat}{cs:List ab}{ad:Addr}{us:Nat->Value}{F:a_}(aG:∀ c,¬ F c) (kW:n<=cap) (ba:I ad.block) (aw:ad.spot=none) (ai:cs.length=n * z) (h1:∀ (k:Nat) (x:ab),cs[k]?=some x->(us k).oneCell'=true)
   (aa:∀ (k:Nat) (x:ab),cs[k]?=some x->w.cell? ⟨ad.block,ad.off+k,none⟩=some (us k)) (ah:∀ (k:Nat) (x:ab),cs[k]?=some x->R w I ρ x (us k) (λ_=>False)) :
   R w I ρ (.bk z n cs) (.slice (some ad) n cap) F
 | cJ {cs:List ab}{ad:Addr}{us:Nat->Value}{F:a_}(aG:∀ c,¬ F c) (ba:I ad.block) (aw:ad.spot=none) (h1:∀ (k:Nat) (x:ab),cs[k]?=some x->(us k).oneCell'=true)
   (aa:∀ (k:Nat) (x:ab),cs[k]?=some x->w.cell? ⟨ad.block,ad.off+k,none⟩=some (us k)) (ah:∀ (k:Nat) (x:ab),cs[k]?=some x->R w I ρ x (us k) (λ_=>False)) :
   R w I ρ (.cJ cs) (.pointer (some ad)) F
 | own {z n:Nat}{cs:List ab}{v:Value}{e:TypeId}{us:List Value}{Fs:Nat->a_}{F:a_}
   (aV:w.ownsRow 0 e z v n us) (ai:cs.length=us.length) (h1:∀ (k:Nat) (u:Value),us[k]?=some u->u.oneCell'=true)
   (ah:∀ (k:Nat) (x:ab) (u:Value),cs[k]?=some x->us[k]?=some u->R w I ρ x u (Fs k))
   (aP:∀ (J k c:Nat),J<cs.length->k<cs.length->Fs J c->Fs k c->J=k) (av:∀ (k c:Nat),k<cs.length->Fs k c->v.ownBlock≠some c)
   (aG:∀ c,F c↔v.ownBlock=some c\/∃ k,k<cs.length/\Fs k c):R w I ρ (.own z n cs) v F
 | obj {cs:List ab}{b:Nat}{e:TypeId}{arr:Array Value}{Fs:Nat->a_}{F:a_}
   (aV:w.heap[b]?=some (.cells arr e (0,0))) (ai:cs.length=arr.size) (h1:∀ (k:Nat) (u:Value),arr[k]?=some u->u.oneCell'=true)
   (ah:∀ (k:Nat) (x:ab) (u:Value),cs[k]?=some x->arr[k]?=some u->R w I ρ x u (Fs k))
   (aP:∀ (J k c:Nat),J<cs.length->k<cs.length->Fs J c->Fs k c->J=k) (av:∀ (k:Nat),k<cs.length->¬ Fs k b)
   (aG:∀ c,F c↔c=b\/∃ k,k<cs.length/\Fs k c) (aw:∀ (k:Nat) (J:Nat × Nat) (u:Value),cs[k]?=some (.self J)->arr[k]?=some u->(u=.pointer none/\e=J.2)\/u=.pointer (some ⟨b,J.1,none⟩)):R w I ρ (.obj cs) (.pointer (some ⟨b,0,none⟩)) F
 | agg {cs:List ab}{vs:Array Value}{Fs:Nat->a_}{F:a_}(ai:cs.length=vs.size) (h1:∀ (k:Nat) (u:Value),vs[k]?=some u->u.oneCell'=true)
   (ah:∀ (k:Nat) (x:ab) (u:Value),cs[k]?=some x->vs[k]?=some u->R w I ρ x u (Fs k))
   (aP:∀ (J k c:Nat),J<cs.length->k<cs.length->Fs J c->Fs k c->J=k)
   (aG:∀ c,F c↔∃ k,k<cs.length/\Fs k c):R w I ρ (.agg cs) (.agg vs) F
 | bJ {cs:List ab}{vs:Array Value}{Fs:Nat->a_}{F:a_}(ai:cs.length=vs.size)
   (ah:∀ (k:Nat) (x:ab) (u:Value),cs[k]?=some x->vs[k]?=some u->R w I ρ x u (Fs k))
   (aP:∀ (J k c:Nat),J<cs.length->k<cs.length->Fs J c->Fs k c->J=k)
   (aG:∀ c,F c↔∃ k,k<cs.length/\Fs k c):R w I ρ (.bJ cs) (.tuple vs) F
 | di {fn:Fn}{first caps:List ab}{v1 v2:Array Value}{F:a_}(aG:∀ c,¬ F c) (h1:first.length=v1.size) (af:caps.length=v2.size)
   (iR:∀ (k:Nat) (x:ab) (u:Value),first[k]?=some x->v1[k]?=some u->R w I ρ x u (λ_=>False))
   (ij:∀ (k:Nat) (x:ab) (u:Value),caps[k]?=some x->v2[k]?=some u->R w I ρ x u (λ_=>False)):R w I ρ (.di fn first caps) (.func fn v1 v2) F
 | mp {p:Array MapEntry->Nat->Prop}{b:Nat}{es:Array MapEntry}{clock:Nat}{F:a_}(aV:w.heap[b]?=some (.map es clock)) (ar:p es clock) (aG:∀ c,F c↔c=b):R w I ρ (.mp p) (.map (some b)) F
 | imp {p:Array MapEntry->Nat->Prop}{b:Nat}{es:Array MapEntry}{clock:Nat}{F:a_}(aG:∀ c,¬ F c) (ba:I b) (aV:w.heap[b]?=some (.map es clock)) (ar:p es clock):R w I ρ (.imp p) (.map (some b)) F
theorem R.yJ {w:World}{I:a_}{ρ:ab->Value->Prop}{x:ab}{v:Value}{F cV:a_}(h:R w I ρ x v F) (aG:∀ c,F c↔cV c):R w I ρ x v cV:=by
 have:F=cV:=funext λc=>propext (aG c)
 grind
theorem R.lt {w:World}{I:a_}{ρ:ab->Value->Prop}{x:ab}{v:Value}{F:a_}(h:R w I ρ x v F):∀ c,F c->c<w.heap.size:=by
 induction h with
 | lit _ aG | aU aG | dead aG | l1 aG | ref _ _ aG | hn aG | bk aG | cJ aG | di aG | imp aG=>exact λc aa=>absurd aa (aG c)
 | eY aV _ aG=>exact λc aa=>(aV.lt c ((aG c).1 aa)).2
 | mp aV _ aG=>exact λc aa=>by rw [(aG c).1 aa]; exact (Array.getElem?_eq_some_iff.1 aV).1
 | own aV ai h1 ah aP av aG aL =>
  intro c aa;rcases (aG c).1 aa with h | ⟨k,hk,h⟩
  ·exact (aV.lt c h).2
  ·exact aL k _ _ (List.getElem?_eq_getElem hk) (List.getElem?_eq_getElem (ai ▸ hk)) c h
 | obj aV ai h1 ah aP av aG aw aL =>
  intro c aa;rcases (aG c).1 aa with rfl | ⟨k,hk,h⟩
  ·exact (Array.getElem?_eq_some_iff.1 aV).1
  ·exact aL k _ _ (List.getElem?_eq_getElem hk) (Array.getElem?_eq_getElem (ai ▸ hk)) c h
 | agg ai h1 ah aP aG aL =>
  intro c aa;obtain ⟨k,hk,h⟩:=(aG c).1 aa;exact aL k _ _ (List.getElem?_eq_getElem hk) (Array.getElem?_eq_getElem (ai ▸ hk)) c h
 | bJ ai ah aP aG aL =>
  intro c aa;obtain ⟨k,hk,h⟩:=(aG c).1 aa;exact aL k _ _ (List.getElem?_eq_getElem hk) (Array.getElem?_eq_getElem (ai ▸ hk)) c h
theorem r9 {w w':World}{e:TypeId}{z n:Nat}{v:Value}{us:List Value}(h:w.ownsRow 0 e z v n us) (av:∀ c,v.ownBlock=some c->w'.heap[c]?=w.heap[c]?):w'.ownsRow 0 e z v n us:=by
 obtain ⟨h1,af⟩:=h;refine ⟨h1,?_⟩;rcases af with af | ⟨g,cap,cur,rfl,aK,bD,rest⟩
 ·grind
 ·exact .inr ⟨g,cap,cur,rfl,aK,by rw [av g rfl]; exact bD,rest⟩
theorem R.frame {w w':World}{I I':a_}{ρ ρ':ab->Value->Prop}{x:ab}{v:Value}{F:a_}(h:R w I ρ x v F)
  (ba:∀ c,I c->w'.heap[c]?=w.heap[c]?) (nV:∀ c,I c->I' c) (lz:∀ x v,ρ x v->ρ' x v) :
  (∀ c,F c->w'.heap[c]?=w.heap[c]?)->R w' I' ρ' x v F:=by
 induction h with
 | lit hv aG=>exact λ_=>.lit hv aG
 | aU aG=>exact λ_=>.aU aG
 | dead aG=>exact λ_=>.dead aG
 | l1 aG=>exact λ_=>.l1 aG
 | ref j h aG=>exact λ_=>.ref j (lz _ _ h) aG
 | hn aG=>exact λ_=>.hn aG
 | bk aG kW hi aw ai h1 aa ah aL =>
  exact λ_=>.bk aG kW (nV _ hi) aw ai h1 (λk x hk=>(World.cell?_of_block (a:=⟨_,_,none⟩) (ba _ hi)).trans (aa k x hk)) λk x hk=>aL k x hk (λc aa=>aa.elim)
 | cJ aG hi aw h1 aa ah aL =>
  exact λ_=>.cJ aG (nV _ hi) aw h1 (λk x hk=>(World.cell?_of_block (a:=⟨_,_,none⟩) (ba _ hi)).trans (aa k x hk)) λk x hk=>aL k x hk (λc aa=>aa.elim)
 | own aV ai h1 ah aP av aG aL =>
  intro aS;refine .own (r9 aV λc aa=>aS c ((aG c).2 (.inl aa))) ai h1 (λk x u j hu=>aL k x u j hu λc aa=>aS c ((aG c).2 (.inr ⟨k,?_,aa⟩))) aP av aG;exact (List.getElem?_eq_some_iff.1 j).1
 | obj aV ai h1 ah aP av aG aw aL =>
  intro aS;refine .obj ((aS _ ((aG _).2 (.inl rfl))).trans aV) ai h1 (λk x u j hu=>aL k x u j hu λc aa=>aS c ((aG c).2 (.inr ⟨k,?_,aa⟩))) aP av aG aw;exact (List.getElem?_eq_some_iff.1 j).1
 | agg ai h1 ah aP aG aL =>
  intro aS;refine .agg ai h1 (λk x u j hu=>aL k x u j hu λc aa=>aS c ((aG c).2 ⟨k,?_,aa⟩)) aP aG;exact (List.getElem?_eq_some_iff.1 j).1
 | bJ ai ah aP aG aL =>
  intro aS;refine .bJ ai (λk x u j hu=>aL k x u j hu λc aa=>aS c ((aG c).2 ⟨k,?_,aa⟩)) aP aG;exact (List.getElem?_eq_some_iff.1 j).1
 | imp aG hi aV ar=>exact λ_=>.imp aG (nV _ hi) ((ba _ hi).trans aV) ar
 | eY aV h1 aG=>exact λaS=>.eY (r9 aV λc aa=>aS c ((aG c).2 aa)) h1 aG
 | mp aV ar aG=>exact λaS=>.mp ((aS _ ((aG _).2 rfl)).trans aV) ar aG
 | di aG h1 af iR ij gb fR=>exact λ_=>.di aG h1 af (λk x u j hu=>gb k x u j hu λc aa=>aa.elim) (λk x u j hu=>fR k x u j hu λc aa=>aa.elim)
def ab.kids:ab->List ab
 | .own _ _ cs=>cs
 | .obj cs=>cs
 | .agg cs=>cs
 | .bJ cs=>cs
 | _=>[]
def ab.uS (x:ab) (k:Nat) (y:ab):ab :=
 match x with
 | .own z n cs=>.own z n (cs.set k y)
 | .obj cs=>.obj (cs.set k y)
 | .agg cs=>.agg (cs.set k y)
 | .bJ cs=>.bJ (cs.set k y)
 | x=>x
def ab.at:ab->List Nat->Option ab
 | x,[]=>some x
 | x,k::p =>
  match x.kids[k]? with
  | some c=>c.at p
  | none=>none
def ab.setAt:ab->List Nat->ab->ab
 | _,[],y=>y
 | x,k::p,y =>
  match x.kids[k]? with
  | some c=>x.uS k (c.setAt p y)
  | none=>x
theorem ab.Zn {x y z:ab}{k:Nat}{J:Nat × Nat}{p:List Nat}(h:x.at (k::p)=some y):x.setAt (k::p) z≠.self J:=by
 intro e;simp only [ab.at,ab.setAt] at h e;cases hk:x.kids[k]? with
 | none=>rw [hk] at h; cases h
 | some c =>
  rw [hk] at e;cases x <;> simp [ab.uS,ab.kids] at e hk
def child (w:World) (v:Value) (k:Nat):Option Value :=
 match v with
 | .agg cs=>cs[k]?
 | .tuple cs=>cs[k]?
 | .slice (some a) _ _=>w.cell? ⟨a.block,a.off+k,none⟩
 | .pointer (some a)=>w.cell? ⟨a.block,a.off+k,none⟩
 | _=>none
def walk (w:World):Value->List Nat->Option Value
 | v,[]=>some v
 | v,k::p =>
  match child w v k with
  | some u=>walk w u p
  | none=>none
theorem oW {w:World}{e:TypeId}{z n:Nat}{v:Value}{us:List Value}(h:w.ownsRow 0 e z v n us) {k:Nat}{u:Value}(hu:us[k]?=some u):child w v k=some u:=by
 obtain ⟨h1,af⟩:=h;rcases af with ⟨rfl,rfl⟩ | ⟨g,cap,cur,rfl,aK,bD,aA,aa,aw,al⟩
 ·grind
 ·rw [<- al] at hu;rw [List.getElem?_take] at hu
  split at hu
  ·simpa [child,World.cell?,bD] using hu
  grind
theorem Py {α:Type}{l:List α}{k J:Nat}{y x:α}(h:(l.set k y)[J]?=some x):(J=k/\x=y/\k<l.length)\/(J≠k/\l[J]?=some x):=by
 grind
structure Out (w w':World) (I I':a_) (ρ ρ':ab->Value->Prop) (F cj:a_):Prop where
 bk:∀ c,I c->w'.heap[c]?=w.heap[c]?
 rest:∀ c,F c->¬ cj c->w'.heap[c]?=w.heap[c]?
 more:∀ c,I c->I' c
 ref:∀ x v,ρ x v->ρ' x v
theorem Out.mono {w w':World}{I I':a_}{ρ ρ':ab->Value->Prop}{F cj cV i_:a_}(h:Out w w' I I' ρ ρ' F cj) (h1:∀ c,cV c->F c) (af:∀ c,cV c->¬ i_ c->¬ cj c):Out w w' I I' ρ ρ' cV i_ :=
 ⟨h.bk,λc aa aA=>h.rest c (h1 c aa) (af c aa aA),h.more,h.ref⟩
theorem R.outside {w w':World}{I I':a_}{ρ ρ':ab->Value->Prop}{F cj:a_}(o:Out w w' I I' ρ ρ' F cj) {x:ab}{v:Value}{G:a_}(h:R w I ρ x v G) (c9:∀ c,G c->F c/\¬ cj c):R w' I' ρ' x v G :=
 h.frame o.bk o.more o.ref λc aa=>o.rest c (c9 c aa).1 (c9 c aa).2
theorem EK {w w':World}{I I':a_}{ρ ρ':ab->Value->Prop}{cs:List ab}{get:Nat->Option Value}{Fs:Nat->a_}{F cj:a_}
  (ah:∀ (k:Nat) (x:ab) (u:Value),cs[k]?=some x->get k=some u->R w I ρ x u (Fs k))
  (aP:∀ (J k c:Nat),J<cs.length->k<cs.length->Fs J c->Fs k c->J=k)
  (aG:∀ k c,k<cs.length->Fs k c->F c) {k:Nat}(hk:k<cs.length) (ak:∀ c,cj c->Fs k c) (o:Out w w' I I' ρ ρ' F cj)
  {y:ab}{u:Value}{bV:a_}(hu:get k=some u) (aY:R w' I' ρ' y u bV) (e0:∀ c,bV c↔(Fs k c/\¬ cj c)\/(bV c/\¬ (F c/\¬ cj c))) :
  (∀ (J:Nat) (x:ab) (u:Value),(cs.set k y)[J]?=some x->get J=some u->R w' I' ρ' x u (if J=k then bV else Fs J)) /\
  (∀ (i J c:Nat),i<(cs.set k y).length->J<(cs.set k y).length->(if i=k then bV else Fs i) c->(if J=k then bV else Fs J) c->i=J):=by
 constructor
 ·intro J x v_ j hG;rcases Py j with ⟨rfl,rfl,aR⟩ | ⟨cy,j⟩
  ·grind
  ·rw [if_neg cy];have aj:J<cs.length:=(List.getElem?_eq_some_iff.1 j).1;exact (ah J x v_ j hG).outside o λc aa=>⟨aG J c aj aa,λew=>cy (aP J k c aj hk aa (ak c ew))⟩
 grind
theorem EL {m:Nat}{Fs:Nat->a_}{bV cj i_:a_}{k:Nat}(hk:k<m)
  (aP:∀ (J k c:Nat),J<m->k<m->Fs J c->Fs k c->J=k) (ak:∀ c,cj c->Fs k c) (e0:∀ c,bV c↔(Fs k c/\¬ cj c)\/i_ c) (c:Nat) :
  (∃ J,J<m/\(if J=k then bV else Fs J) c)↔((∃ J,J<m/\Fs J c)/\¬ cj c)\/i_ c:=by
 grind
theorem R.pV {w w':World}{I:a_}{ρ:ab->Value->Prop}:∀ (r:List Nat) {x:ab}{v:Value}{F:a_}{y:ab},R w I ρ x v F->x.at r=some y ->
  (∀ c,F c->w'.heap[c]?=w.heap[c]?)->walk w' v r=walk w v r
 | [],_,_,_,_,_,_,_=>rfl
 | k::p,x,v,F,y,h,fx,aS=>by
  simp only [ab.at] at fx;cases gU:x.kids[k]? with
  | none=>rw [gU] at fx; cases fx
  | some sF =>
   rw [gU] at fx;simp only at fx;cases h with
   | @own z n cs _ e us Fs _ aV ai h1 ah aP av aG =>
    simp only [ab.kids] at gU;have hk:k<cs.length:=(List.getElem?_eq_some_iff.1 gU).1;have hu:us[k]?=some us[k]:=List.getElem?_eq_getElem (ai ▸ hk);have mK:=r9 (w':=w') aV λc aa=>aS c ((aG c).2 (.inl aa));have:=R.pV (w':=w') p (ah k sF _ gU hu) fx λc aa=>aS c ((aG c).2 (.inr ⟨k,hk,aa⟩));simp [walk,oW aV hu,oW mK hu,this]
   | @obj cs b e arr Fs _ aV ai h1 ah aP av aG aw =>
    simp only [ab.kids] at gU;have hk:k<cs.length:=(List.getElem?_eq_some_iff.1 gU).1;have hu:arr[k]?=some arr[k]:=Array.getElem?_eq_getElem (ai ▸ hk);have mK:=(aS b ((aG b).2 (.inl rfl))).trans aV;have:=R.pV (w':=w') p (ah k sF _ gU hu) fx λc aa=>aS c ((aG c).2 (.inr ⟨k,hk,aa⟩));simp [walk,child,World.cell?,aV,mK,hu,this]
   | @agg cs vs Fs _ ai h1 ah aP aG =>
    simp only [ab.kids] at gU;have hk:k<cs.length:=(List.getElem?_eq_some_iff.1 gU).1;have hu:vs[k]?=some vs[k]:=Array.getElem?_eq_getElem (ai ▸ hk);have:=R.pV (w':=w') p (ah k sF _ gU hu) fx λc aa=>aS c ((aG c).2 ⟨k,hk,aa⟩);simp [walk,child,hu,this]
   | @bJ cs vs Fs _ ai ah aP aG =>
    simp only [ab.kids] at gU;have hk:k<cs.length:=(List.getElem?_eq_some_iff.1 gU).1;have hu:vs[k]?=some vs[k]:=Array.getElem?_eq_getElem (ai ▸ hk);have:=R.pV (w':=w') p (ah k sF _ gU hu) fx λc aa=>aS c ((aG c).2 ⟨k,hk,aa⟩);simp [walk,child,hu,this]
   | ref j _ _=>cases x <;> simp [ab.isRef,ab.kids] at j gU
   | _=>simp [ab.kids] at gU
theorem R.focus {w:World}{I:a_}{ρ:ab->Value->Prop}:∀ (q:List Nat) {x:ab}{v:Value}{F:a_}{y:ab},R w I ρ x v F->x.at q=some y ->
  ∃ ia cj,walk w v q=some ia/\R w I ρ y ia cj/\(∀ c,cj c->F c) /\
   (∀ (w':World),(∀ c,F c->¬ cj c->w'.heap[c]?=w.heap[c]?)->walk w' v q=some ia/\∀ r uY,x.at r=some uY->(∃ cK,r=q++cK)\/walk w' v r=walk w v r) /\
   ∀ (w':World) (I':a_) (ρ':ab->Value->Prop) (y':ab) (i_:a_),Out w w' I I' ρ ρ' F cj->R w' I' ρ' y' ia i_->(∀ c,i_ c->F c->cj c)->(∀ J,y'=.self J->y=.self J) ->
    ∃ cV,R w' I' ρ' (x.setAt q y') v cV/\∀ c,cV c↔(F c/\¬ cj c)\/i_ c
 | [],x,v,F,y,h,fx=>by
  simp only [ab.at,Option.some.injEq] at fx;subst fx;exact ⟨v,F,rfl,h,λ_ h=>h,λ_ _=>⟨rfl,λr _ _=>.inl ⟨r,rfl⟩⟩,λw' I' ρ' y' i_ _ aY _ _=>⟨i_,aY,λc=>by simp⟩⟩
 | k::p,x,v,F,y,h,fx=>by
  simp only [ab.at] at fx;cases gU:x.kids[k]? with
  | none=>rw [gU] at fx; cases fx
  | some sF =>
   rw [gU] at fx;simp only at fx;have vz:∀ y',x.setAt (k::p) y'=x.uS k (sF.setAt p y'):=λy'=>by simp [ab.setAt,gU]
   cases h with
   | @own z n cs _ e us Fs _ aV ai h1 ah aP av aG =>
    simp only [ab.kids] at gU;have hk:k<cs.length:=(List.getElem?_eq_some_iff.1 gU).1;have hu:us[k]?=some us[k]:=List.getElem?_eq_getElem (ai ▸ hk);obtain ⟨ia,cj,hw,dz,df,eH,kG⟩:=R.focus p (ah k sF _ gU hu) fx;refine ⟨ia,cj,by simp [walk,oW aV hu,hw],dz,λc aa=>(aG c).2 (.inr ⟨k,hk,df c aa⟩),?_,?_⟩
    ·intro w' aw;have pw:∀ J c,J<cs.length->Fs J c->¬ cj c->w'.heap[c]?=w.heap[c]?:=λJ c aj aa aA=>aw c ((aG c).2 (.inr ⟨J,aj,aa⟩)) aA;obtain ⟨gm,fi⟩:=eH w' λc aa aA=>pw k c hk aa aA;have mK:=r9 (w':=w') aV λc aa=>aw c ((aG c).2 (.inl aa)) λew=>av k c hk (df c ew) aa;refine ⟨by simp [walk,oW mK hu,gm],?_⟩;intro r uY dK;cases r with
     | nil=>exact .inr rfl
     | cons J r =>
      simp only [ab.at,ab.kids] at dK;cases aj:cs[J]? with
      | none=>rw [aj] at dK; cases dK
      | some wC =>
       rw [aj] at dK;simp only at dK;have eN:J<cs.length:=(List.getElem?_eq_some_iff.1 aj).1;have q0:us[J]?=some us[J]:=List.getElem?_eq_getElem (ai ▸ eN);by_cases fz:J=k
       ·subst fz;rw [gU] at aj;cases aj;rcases fi r uY dK with ⟨cK,rfl⟩ | h
        ·exact .inl ⟨cK,rfl⟩
        ·exact .inr (by simp [walk,oW aV hu,oW mK hu,h])
       ·have h:=R.pV (w':=w') r (ah J wC _ aj q0) dK λc aa=>pw J c eN aa λew=>fz (aP J k c eN hk aa (df c ew));exact .inr (by simp [walk,oW aV q0,oW mK q0,h])
    intro w' I' ρ' y' i_ o ku mI lP;have jg:∀ J c,J<cs.length->Fs J c->F c:=λJ c aj aa=>(aG c).2 (.inr ⟨J,aj,aa⟩);obtain ⟨bV,jY,e0⟩:=kG w' I' ρ' y' i_ (o.mono (λc aa=>jg k c hk aa) λc _ h=>h) ku (λc aa oL=>mI c aa (jg k c hk oL)) lP;obtain ⟨dK,nj⟩:=EK (get:=λJ=>us[J]?) ah aP jg hk df o hu jY λc=>by
     constructor
     ·intro h;rcases (e0 c).1 h with h1 | h1
      ·exact .inl h1
      ·exact .inr ⟨h,λ⟨af,aF⟩=>aF (mI c h1 af)⟩
     ·rintro (h1 | ⟨h1,_⟩)
      ·exact (e0 c).2 (.inl h1)
      ·exact h1
    rw [vz];refine ⟨_,.own (Fs:=λJ=>if J=k then bV else Fs J) (r9 aV λc aa=>o.rest c ((aG c).2 (.inl aa)) λew=>av k c hk (df c ew) aa) (by simpa using ai) h1 dK nj ?_ (λc=>Iff.rfl),λc=>?_⟩
    ·intro J c aj aa vF;rw [List.length_set] at aj;by_cases fz:J=k
     ·rw [if_pos fz] at aa;rcases (e0 c).1 aa with ⟨h1,_⟩ | h1
      ·exact av k c hk h1 vF
      ·exact av k c hk (df c (mI c h1 ((aG c).2 (.inl vF)))) vF
     ·rw [if_neg fz] at aa; exact av J c aj aa vF
    ·have hu:=EL hk aP df e0 c;simp only [List.length_set];rw [hu,aG c];have e8:v.ownBlock=some c->¬ cj c:=λh1 af=>av k c hk (df c af) h1;constructor
     ·rintro (h1 | ⟨h1,af⟩ | h1)
      ·exact .inl ⟨.inl h1,e8 h1⟩
      ·exact .inl ⟨.inr h1,af⟩
      ·exact .inr h1
     ·rintro (⟨h1 | h1,af⟩ | h1)
      ·exact .inl h1
      ·exact .inr (.inl ⟨h1,af⟩)
      ·exact .inr (.inr h1)
   | @obj cs b e arr Fs _ aV ai h1 ah aP av aG aw =>
    simp only [ab.kids] at gU;have hk:k<cs.length:=(List.getElem?_eq_some_iff.1 gU).1;have hu:arr[k]?=some arr[k]:=Array.getElem?_eq_getElem (ai ▸ hk);obtain ⟨ia,cj,hw,dz,df,eH,kG⟩:=R.focus p (ah k sF _ gU hu) fx;refine ⟨ia,cj,by simp [walk,child,World.cell?,aV,hu,hw],dz,λc aa=>(aG c).2 (.inr ⟨k,hk,df c aa⟩),?_,?_⟩
    ·intro w' aw;have pw:∀ J c,J<cs.length->Fs J c->¬ cj c->w'.heap[c]?=w.heap[c]?:=λJ c aj aa aA=>aw c ((aG c).2 (.inr ⟨J,aj,aa⟩)) aA;obtain ⟨gm,fi⟩:=eH w' λc aa aA=>pw k c hk aa aA;have mK:=(aw b ((aG b).2 (.inl rfl)) λew=>av k hk (df b ew)).trans aV;refine ⟨by simp [walk,child,World.cell?,mK,hu,gm],?_⟩;intro r uY dK;cases r with
     | nil=>exact .inr rfl
     | cons J r =>
      simp only [ab.at,ab.kids] at dK;cases aj:cs[J]? with
      | none=>rw [aj] at dK; cases dK
      | some wC =>
       rw [aj] at dK;simp only at dK;have eN:J<cs.length:=(List.getElem?_eq_some_iff.1 aj).1;have q0:arr[J]?=some arr[J]:=Array.getElem?_eq_getElem (ai ▸ eN);by_cases fz:J=k
       ·subst fz;rw [gU] at aj;cases aj;rcases fi r uY dK with ⟨cK,rfl⟩ | h
        ·exact .inl ⟨cK,rfl⟩
        ·exact .inr (by simp [walk,child,World.cell?,aV,mK,hu,h])
       ·have h:=R.pV (w':=w') r (ah J wC _ aj q0) dK λc aa=>pw J c eN aa λew=>fz (aP J k c eN hk aa (df c ew));exact .inr (by simp [walk,child,World.cell?,aV,mK,q0,h])
    intro w' I' ρ' y' i_ o ku mI lP;have jg:∀ J c,J<cs.length->Fs J c->F c:=λJ c aj aa=>(aG c).2 (.inr ⟨J,aj,aa⟩);obtain ⟨bV,jY,e0⟩:=kG w' I' ρ' y' i_ (o.mono (λc aa=>jg k c hk aa) λc _ h=>h) ku (λc aa oL=>mI c aa (jg k c hk oL)) lP;obtain ⟨dK,nj⟩:=EK (get:=λJ=>arr[J]?) ah aP jg hk df o hu jY λc=>by
     constructor
     ·intro h;rcases (e0 c).1 h with h1 | h1
      ·exact .inl h1
      ·exact .inr ⟨h,λ⟨af,aF⟩=>aF (mI c h1 af)⟩
     ·rintro (h1 | ⟨h1,_⟩)
      ·exact (e0 c).2 (.inl h1)
      ·exact h1
    rw [vz];have oJ:F b:=(aG b).2 (.inl rfl);have H2:¬ cj b:=λh=>av k hk (df b h);refine ⟨_,.obj (Fs:=λJ=>if J=k then bV else Fs J) ((o.rest b oJ H2).trans aV) (by simpa using ai) h1 dK nj ?_ (λc=>Iff.rfl) (λi J u hi hG=>?_),λc=>?_⟩
    ·intro J aj aa;rw [List.length_set] at aj;by_cases fz:J=k
     ·rw [if_pos fz] at aa;rcases (e0 b).1 aa with ⟨h1,_⟩ | h1
      ·exact av k hk h1
      ·exact H2 (mI b h1 oJ)
     ·rw [if_neg fz] at aa; exact av J aj aa
    ·rcases Py hi with ⟨rfl,he,_⟩ | ⟨_,hi⟩
     ·refine aw _ J u ?_ hG;rw [gU];cases p with
      | nil =>
       simp only [ab.at,Option.some.injEq] at fx;rw [fx];exact congrArg some (lP J he.symm)
      | cons kD OI=>exact absurd he.symm (ab.Zn fx)
     ·exact aw i J u hi hG
    ·have hu:=EL hk aP df e0 c;simp only [List.length_set];rw [hu,aG c];constructor
     ·rintro (rfl | ⟨h1,af⟩ | h1)
      ·exact .inl ⟨.inl rfl,H2⟩
      ·exact .inl ⟨.inr h1,af⟩
      ·exact .inr h1
     ·rintro (⟨h1 | h1,af⟩ | h1)
      ·exact .inl h1
      ·exact .inr (.inl ⟨h1,af⟩)
      ·exact .inr (.inr h1)
   | @agg cs vs Fs _ ai h1 ah aP aG =>
    simp only [ab.kids] at gU;have hk:k<cs.length:=(List.getElem?_eq_some_iff.1 gU).1;have hu:vs[k]?=some vs[k]:=Array.getElem?_eq_getElem (ai ▸ hk);obtain ⟨ia,cj,hw,dz,df,eH,kG⟩:=R.focus p (ah k sF _ gU hu) fx;refine ⟨ia,cj,by simp [walk,child,hu,hw],dz,λc aa=>(aG c).2 ⟨k,hk,df c aa⟩,?_,?_⟩
    ·intro w' aw;have pw:∀ J c,J<cs.length->Fs J c->¬ cj c->w'.heap[c]?=w.heap[c]?:=λJ c aj aa aA=>aw c ((aG c).2 ⟨J,aj,aa⟩) aA;obtain ⟨gm,fi⟩:=eH w' λc aa aA=>pw k c hk aa aA
     
     refine ⟨by simp [walk,child,hu,gm],?_⟩;intro r uY dK;cases r with
     | nil=>exact .inr rfl
     | cons J r =>
      simp only [ab.at,ab.kids] at dK;cases aj:cs[J]? with
      | none=>rw [aj] at dK; cases dK
      | some wC =>
       rw [aj] at dK;simp only at dK;have eN:J<cs.length:=(List.getElem?_eq_some_iff.1 aj).1;have q0:vs[J]?=some vs[J]:=Array.getElem?_eq_getElem (ai ▸ eN);by_cases fz:J=k
       ·subst fz;rw [gU] at aj;cases aj;rcases fi r uY dK with ⟨cK,rfl⟩ | h
        ·exact .inl ⟨cK,rfl⟩
        ·exact .inr (by simp [walk,child,hu,h])
       ·have h:=R.pV (w':=w') r (ah J wC _ aj q0) dK λc aa=>pw J c eN aa λew=>fz (aP J k c eN hk aa (df c ew));exact .inr (by simp [walk,child,q0,h])
    intro w' I' ρ' y' i_ o ku mI lP;have jg:∀ J c,J<cs.length->Fs J c->F c:=λJ c aj aa=>(aG c).2 ⟨J,aj,aa⟩;obtain ⟨bV,jY,e0⟩:=kG w' I' ρ' y' i_ (o.mono (λc aa=>jg k c hk aa) λc _ h=>h) ku (λc aa oL=>mI c aa (jg k c hk oL)) lP;obtain ⟨dK,nj⟩:=EK (get:=λJ=>vs[J]?) ah aP jg hk df o hu jY λc=>by
     constructor
     ·intro h;rcases (e0 c).1 h with h1 | h1
      ·exact .inl h1
      ·exact .inr ⟨h,λ⟨af,aF⟩=>aF (mI c h1 af)⟩
     ·rintro (h1 | ⟨h1,_⟩)
      ·exact (e0 c).2 (.inl h1)
      ·exact h1
    rw [vz];refine ⟨_,.agg (Fs:=λJ=>if J=k then bV else Fs J) (by simpa using ai) h1 dK nj (λc=>Iff.rfl),λc=>?_⟩;have hu:=EL hk aP df e0 c;simp only [List.length_set];rw [hu,aG c]
   | @bJ cs vs Fs _ ai ah aP aG =>
    simp only [ab.kids] at gU;have hk:k<cs.length:=(List.getElem?_eq_some_iff.1 gU).1;have hu:vs[k]?=some vs[k]:=Array.getElem?_eq_getElem (ai ▸ hk);obtain ⟨ia,cj,hw,dz,df,eH,kG⟩:=R.focus p (ah k sF _ gU hu) fx;refine ⟨ia,cj,by simp [walk,child,hu,hw],dz,λc aa=>(aG c).2 ⟨k,hk,df c aa⟩,?_,?_⟩
    ·intro w' aw;have pw:∀ J c,J<cs.length->Fs J c->¬ cj c->w'.heap[c]?=w.heap[c]?:=λJ c aj aa aA=>aw c ((aG c).2 ⟨J,aj,aa⟩) aA;obtain ⟨gm,fi⟩:=eH w' λc aa aA=>pw k c hk aa aA
     
     refine ⟨by simp [walk,child,hu,gm],?_⟩;intro r uY dK;cases r with
     | nil=>exact .inr rfl
     | cons J r =>
      simp only [ab.at,ab.kids] at dK;cases aj:cs[J]? with
      | none=>rw [aj] at dK; cases dK
      | some wC =>
       rw [aj] at dK;simp only at dK;have eN:J<cs.length:=(List.getElem?_eq_some_iff.1 aj).1;have q0:vs[J]?=some vs[J]:=Array.getElem?_eq_getElem (ai ▸ eN);by_cases fz:J=k
       ·subst fz;rw [gU] at aj;cases aj;rcases fi r uY dK with ⟨cK,rfl⟩ | h
        ·exact .inl ⟨cK,rfl⟩
        ·exact .inr (by simp [walk,child,hu,h])
       ·have h:=R.pV (w':=w') r (ah J wC _ aj q0) dK λc aa=>pw J c eN aa λew=>fz (aP J k c eN hk aa (df c ew));exact .inr (by simp [walk,child,q0,h])
    intro w' I' ρ' y' i_ o ku mI lP;have jg:∀ J c,J<cs.length->Fs J c->F c:=λJ c aj aa=>(aG c).2 ⟨J,aj,aa⟩;obtain ⟨bV,jY,e0⟩:=kG w' I' ρ' y' i_ (o.mono (λc aa=>jg k c hk aa) λc _ h=>h) ku (λc aa oL=>mI c aa (jg k c hk oL)) lP;obtain ⟨dK,nj⟩:=EK (get:=λJ=>vs[J]?) ah aP jg hk df o hu jY λc=>by
     constructor
     ·intro h;rcases (e0 c).1 h with h1 | h1
      ·exact .inl h1
      ·exact .inr ⟨h,λ⟨af,aF⟩=>aF (mI c h1 af)⟩
     ·rintro (h1 | ⟨h1,_⟩)
      ·exact (e0 c).2 (.inl h1)
      ·exact h1
    rw [vz];refine ⟨_,.bJ (Fs:=λJ=>if J=k then bV else Fs J) (by simpa using ai) dK nj (λc=>Iff.rfl),λc=>?_⟩;have hu:=EL hk aP df e0 c;simp only [List.length_set];rw [hu,aG c]
   | ref j _ _=>cases x <;> simp [ab.isRef,ab.kids] at j gU
   | _=>simp [ab.kids] at gU
end Go.Own
namespace Go.Own
open Go
abbrev aI:=Nat->Option ab
def bx (g:aI) (p:Place):Option ab :=
 match g p.root with
 | some x=>x.at p.path
 | none=>none
def dS (w:World) (T:Array Value) (p:Place):Option Value :=
 match T[p.root]? with
 | some v=>walk w v p.path
 | none=>none
def addrOf:Value->Option Addr
 | .slice (some a) _ _=>some a
 | .pointer (some a)=>some a
 | _=>none
def fI (w:World) (T:Array Value):ab->Value->Prop
 | .ptr p k,v=>∃ u a,dS w T p=some u/\addrOf u=some a/\v=.pointer (some ⟨a.block,a.off+k,none⟩)
 | .bl _ p n,v=>∃ a N cap,dS w T p=some (.slice a N cap)/\v=.slice a n cap/\n<=N
 | .sub z p lo n,v=>∃ a N cap b0 mA,dS w T p=some (.slice a N cap)/\v=.slice b0 n mA/\n<=mA/\lo+n<=N/\(0<n->∃ ad,a=some ad/\b0=some ⟨ad.block,ad.off+lo * z,none⟩)
 | .bC _ p n _ _,v=>∃ a cap,dS w T p=some (.slice a n cap)/\v=.slice a n cap
 | .hf p,v=>∃ b,dS w T p=some (.map b)/\v=.map b
 | _,_=>False
def gP (g:aI):ab->Prop
 | .ptr p k=>∃ y,bx g p=some y/\(∃ z n cs,(y=.own z n cs\/y=.obj cs)/\k<cs.length)
 | .bl z p n=>(∃ N cs,bx g p=some (.own z N cs)/\n<=N)\/(p.path=[]/\∃ q gL m new,g p.root=some (.bC z q gL m new)/\n=gL+m)
 | .sub z p lo n=>∃ N cs,bx g p=some (.own z N cs)/\lo+n<=N
 | .bC z p n _ _=>(∃ cs,bx g p=some (.own z n cs))\/(p.path=[]/\∃ q gL m new cs,g p.root=some (.bC z q gL m new)/\n=gL+m/\bx g q=some (.own z gL cs))
 | .hf p=>∃ q,bx g p=some (.mp q)
 | _=>False
def dP (w:World) (T:Array Value) (g:aI) (r:ab) (v:Value):Prop:=fI w T r v/\gP g r
structure Gh (w:World) (I:a_) (ρ:ab->Value->Prop) (z:Nat) (p:Place) (n m:Nat) (new:List ab) (v:Value) (F:a_) (bv:Value) (e bZ:TypeId) (us news:List Value):Prop where
 kf:ρ (.bC z p n 0 []) bv
 iQ:w.ownsRow 0 e z bv n us
 nq:w.ownsRow 0 bZ z v (n+m) (us++news)
 ai:new.length=news.length
 h1:∀ (k:Nat) (u:Value),news[k]?=some u->u.oneCell'=true
 ah:∀ (k:Nat) (x:ab) (u:Value),new[k]?=some x->news[k]?=some u->R w I ρ x u (λ_=>False)
 aG:∀ c,F c↔v.ownBlock=some c/\bv.ownBlock≠some c
inductive jq (w:World) (I:a_) (ρ:ab->Value->Prop):ab->Value->a_->Prop
 | tree {x:ab}{v:Value}{F:a_}(h:R w I ρ x v F):jq w I ρ x v F
 | bC {z n m:Nat}{p:Place}{new:List ab}{v bv:Value}{e bZ:TypeId}{us news:List Value}{F:a_}(h:Gh w I ρ z p n m new v F bv e bZ us news):jq w I ρ (.bC z p n m new) v F
theorem R.k4 {w:World}{I:a_}{ρ:ab->Value->Prop}{z n m:Nat}{p:Place}{new:List ab}{v:Value}{F:a_}(h:R w I ρ (.bC z p n m new) v F):False:=by
 cases h with
 | ref j=>simp [ab.isRef] at j
theorem jq.gV {w:World}{I:a_}{ρ:ab->Value->Prop}{x:ab}{v:Value}{F:a_}(h:jq w I ρ x v F) (j:∀ z p n m new,x≠.bC z p n m new):R w I ρ x v F:=by
 cases h with
 | tree h=>exact h
 | bC=>exact absurd rfl (j _ _ _ _ _)
theorem jq.vJ {w:World}{I:a_}{ρ:ab->Value->Prop}{z n m:Nat}{p:Place}{new:List ab}{v:Value}{F:a_}(h:jq w I ρ (.bC z p n m new) v F):∃ bv e bZ us news,Gh w I ρ z p n m new v F bv e bZ us news:=by
 cases h with
 | tree h=>exact h.k4.elim
 | bC h=>exact ⟨_,_,_,_,_,h⟩
theorem jq.lt {w:World}{I:a_}{ρ:ab->Value->Prop}{x:ab}{v:Value}{F:a_}(h:jq w I ρ x v F):∀ c,F c->c<w.heap.size:=by
 cases h with
 | tree h=>exact h.lt
 | bC h=>exact λc aa=>(h.nq.lt c ((h.aG c).1 aa).1).2
theorem jq.frame {w w':World}{I I':a_}{ρ ρ':ab->Value->Prop}{x:ab}{v:Value}{F:a_}(h:jq w I ρ x v F)
  (ba:∀ c,I c->w'.heap[c]?=w.heap[c]?) (nV:∀ c,I c->I' c) (lz:∀ x v,ρ x v->ρ' x v)
  (ck:∀ z p n bv,ρ (.bC z p n 0 []) bv->∀ c,bv.ownBlock=some c->w'.heap[c]?=w.heap[c]?)
  (aS:∀ c,F c->w'.heap[c]?=w.heap[c]?):jq w' I' ρ' x v F:=by
 cases h with
 | tree h=>exact .tree (h.frame ba nV lz aS)
 | @bC z n m p new v bv e bZ us news F h =>
  have av:=ck _ _ _ _ h.kf;refine .bC ⟨lz _ _ h.kf,r9 h.iQ av,r9 h.nq λc aa=>?_,h.ai,h.h1,λk x u j hu=>(h.ah k x u j hu).frame ba nV lz λc aa=>aa.elim,h.aG⟩;by_cases qd:bv.ownBlock=some c
  ·exact av c qd
  ·exact aS c ((h.aG c).2 ⟨aa,qd⟩)
theorem ab.tN {z n m:Nat}{p:Place}{new:List ab}{q:List Nat}{y:ab}(h:(ab.bC z p n m new).at q=some y):q=[]/\y=.bC z p n m new:=by
 cases q with
 | nil=>simp [ab.at] at h; exact ⟨rfl,h.symm⟩
 | cons k q=>simp [ab.at,ab.kids] at h
class cE where
 q:World->a_->Prop
 keep:∀ {w w':World}{I I':a_},q w I->(∀ c,I c->w'.heap[c]?=w.heap[c]?)->(∀ c,I c->I' c)->q w' I'
set_option linter.unusedSectionVars false
variable [cE]
structure cB (w:World) (I:a_) (T:Array Value) (g:aI) (Fs:Nat->a_):Prop where
 rel:∀ t x,g t=some x->∃ v,T[t]?=some v/\jq w I (dP w T g) x v (Fs t)
 kE:∀ t,g t=none->∀ c,¬ Fs t c
 eB:∀ t t' c,Fs t c->Fs t' c->t=t'
 bk:∀ t c,Fs t c->¬ I c
 lt:∀ c,I c->c<w.heap.size
 ra:∀ t t' z p n m new br cf bd cO,g t=some (.bC z p n m new)->g t'=some (.bC br p cf bd cO)->t=t'
 gl:cE.q w I
section
variable {w:World}{I:a_}{T:Array Value}{g:aI}{Fs:Nat->a_}
theorem cB.part (h:cB w I T g Fs) {p:Place}{y:ab}(ar:bx g p=some y) (ak:∀ z q n m new,y≠.bC z q n m new):∃ v cj,dS w T p=some v/\R w I (dP w T g) y v cj/\(∀ c,cj c->Fs p.root c):=by
 unfold bx at ar;cases j:g p.root with
 | none=>rw [j] at ar; cases ar
 | some x =>
  rw [j] at ar;obtain ⟨v,hv,aY⟩:=h.rel _ _ j;replace aY:=aY.gV (by
   rintro z q n m new rfl;exact ak _ _ _ _ _ (ab.tN ar).2)
  obtain ⟨ia,cj,hw,dz,df,_⟩:=R.focus p.path aY ar;exact ⟨ia,cj,by simp [dS,hv,hw],dz,df⟩
theorem R.qu {ρ:ab->Value->Prop}{z n:Nat}{cs:List ab}{v:Value}{F:a_}(h:R w I ρ (.own z n cs) v F):∀ c,v.ownBlock=some c->F c:=by
 cases h with
 | own aV ai h1 ah aP av aG=>exact λc aa=>(aG c).2 (.inl aa)
 | ref j=>simp [ab.isRef] at j
theorem R.mO {ρ:ab->Value->Prop}{z n:Nat}{cs:List ab}{v:Value}{F:a_}(h:R w I ρ (.own z n cs) v F) :
  ∃ a cap,v=.slice a n cap/\n<=cap/\cs.length=n * z/\(∀ ad,a=some ad->ad.off=0/\ad.spot=none)/\(0<n->a.isSome=true):=by
 cases h with
 | own aV ai h1 ah aP av aG =>
  obtain ⟨h1,af⟩:=aV;rcases af with ⟨rfl,rfl⟩ | ⟨b,cap,cur,rfl,_,_,aA,_⟩
  ·exact ⟨none,0,rfl,Nat.le_refl _,by simp [ai,h1],by simp,by simp⟩
  ·exact ⟨_,cap,rfl,aA,by simp [ai,h1],by rintro ad ⟨⟩; exact ⟨rfl,rfl⟩,by simp⟩
 | ref j=>simp [ab.isRef] at j
theorem cB.xZ (h:cB w I T g Fs) {w':World}{T':Array Value}(cX:∀ t,g t≠none->T'[t]?=T[t]?) (aG:∀ t c,Fs t c->w'.heap[c]?=w.heap[c]?) {p:Place}{y:ab}(ar:bx g p=some y) :
  dS w' T' p=dS w T p:=by
 unfold bx at ar;cases j:g p.root with
 | none=>rw [j] at ar; cases ar
 | some x =>
  rw [j] at ar;obtain ⟨v,hv,aY⟩:=h.rel _ _ j;have iS:T'[p.root]?=some v:=by rw [cX _ (by rw [j]; simp),hv]
  cases aY with
  | tree aY =>
   have:=R.pV (w':=w') p.path aY ar λc aa=>aG _ c aa;simp [dS,hv,iS,this]
  | bC aY=>simp [dS,hv,iS,(ab.tN ar).1,walk]
theorem kp {g g':aI}(aK:∀ t x,g t=some x->g' t=some x) {p:Place}{y:ab}(ar:bx g p=some y):bx g' p=some y:=by
 unfold bx at *;cases j:g p.root with
 | none=>rw [j] at ar; cases ar
 | some x=>rw [j] at ar; rw [aK _ _ j]; exact ar
theorem gP.mono {g g':aI}(aK:∀ t x,g t=some x->g' t=some x) {r:ab}(h:gP g r):gP g' r:=by
 cases r <;> simp only [gP] at h ⊢
 case ptr p k=>obtain ⟨y,ak,h⟩:=h; exact ⟨y,kp aK ak,h⟩
 case bl z p n =>
  rcases h with ⟨N,cs,h1,af⟩ | ⟨aO,q,gL,m,new,h1,af⟩
  ·exact .inl ⟨N,cs,kp aK h1,af⟩
  ·exact .inr ⟨aO,q,gL,m,new,aK _ _ h1,af⟩
 case sub z p lo n=>obtain ⟨N,cs,h1,af⟩:=h; exact ⟨N,cs,kp aK h1,af⟩
 case bC z p n m new =>
  rcases h with ⟨cs,h1⟩ | ⟨aO,q,gL,bd,cO,cs,h1,af,aF⟩
  ·exact .inl ⟨cs,kp aK h1⟩
  ·exact .inr ⟨aO,q,gL,bd,cO,cs,aK _ _ h1,af,kp aK aF⟩
 case hf p=>obtain ⟨q,h⟩:=h; exact ⟨q,kp aK h⟩
theorem cB.Fm (h:cB w I T g Fs) {w':World}{T':Array Value}{g':aI}(cX:∀ t,g t≠none->T'[t]?=T[t]?) (aG:∀ t c,Fs t c->w'.heap[c]?=w.heap[c]?)
  (aK:∀ t x,g t=some x->g' t=some x) {r:ab}{v:Value}(ah:dP w T g r v):dP w' T' g' r v:=by
 obtain ⟨h1,af⟩:=ah;refine ⟨?_,af.mono aK⟩;have slot:∀ {p:Place}{x:ab},p.path=[]->g p.root=some x->dS w' T' p=dS w T p:=by
  intro p x ar j;obtain ⟨v,hv,_⟩:=h.rel _ _ j;simp [dS,ar,walk,cX p.root (by rw [j]; simp)]
 cases r <;> simp only [fI,gP] at h1 af ⊢
 case ptr p k =>
  obtain ⟨y,ak,_⟩:=af;rw [h.xZ cX aG ak]; exact h1
 case bl z p n =>
  rcases af with ⟨N,cs,af,_⟩ | ⟨aO,q,gL,m,new,af,_⟩
  ·rw [h.xZ cX aG af]; exact h1
  ·rw [slot aO af]; exact h1
 case sub z p lo n =>
  obtain ⟨N,cs,af,_⟩:=af;rw [h.xZ cX aG af]; exact h1
 case bC z p n m new =>
  rcases af with ⟨cs,af⟩ | ⟨aO,q,gL,bd,cO,cs,af,_⟩
  ·rw [h.xZ cX aG af]; exact h1
  ·rw [slot aO af]; exact h1
 case hf p =>
  obtain ⟨q,af⟩:=af;rw [h.xZ cX aG af]; exact h1
theorem cB.DC (h:cB w I T g Fs) {z n:Nat}{p:Place}{bv:Value}(ah:dP w T g (.bC z p n 0 []) bv):∀ c,bv.ownBlock=some c->∃ t,Fs t c:=by
 obtain ⟨⟨a,cap,h1,rfl⟩,af⟩:=ah;intro c aa;have own:∀ {q:Place}{gL:Nat}{cs:List ab}{v:Value},bx g q=some (.own z gL cs)->dS w T q=some v->v.ownBlock=some c->∃ t,Fs t c:=by
  intro q gL cs v a6 hv aa;obtain ⟨eg,cj,iS,aY,df⟩:=h.part a6 (by simp);rw [hv] at iS;cases iS;exact ⟨_,df c (aY.qu c aa)⟩
 rcases af with ⟨cs,af⟩ | ⟨aO,q,gL,m,new,cs,af,rfl,aF⟩
 ·exact own af h1 aa
 ·obtain ⟨v,hv,aY⟩:=h.rel _ _ af;have rW:v=.slice a (gL+m) cap:=by
   simp only [dS,hv,aO,walk,Option.some.injEq] at h1;exact h1
  obtain ⟨Lx,e,bZ,us,news,aY⟩:=aY.vJ;by_cases fy:Lx.ownBlock=some c
  ·obtain ⟨⟨a2,rH,bu,rfl⟩,_⟩:=aY.kf;exact own aF bu fy
  ·exact ⟨_,(aY.aG c).2 ⟨by rw [rW]; exact aa,fy⟩⟩
theorem cB.frame (h:cB w I T g Fs) {w':World}{I':a_}{T':Array Value}{g':aI}(cX:∀ t,g t≠none->T'[t]?=T[t]?) (aG:∀ t c,Fs t c->w'.heap[c]?=w.heap[c]?)
  (ba:∀ c,I c->w'.heap[c]?=w.heap[c]?) (nV:∀ c,I c->I' c) (aK:∀ t x,g t=some x->g' t=some x) {x:ab}{v:Value}{F:a_}(aY:R w I (dP w T g) x v F)
  (lN:∀ c,F c->w'.heap[c]?=w.heap[c]?):R w' I' (dP w' T' g') x v F :=
 aY.frame ba nV (λ_ _ ah=>h.Fm cX aG aK ah) lN
theorem cB.wL (h:cB w I T g Fs) {w':World}{I':a_}{T':Array Value}{g':aI}(cX:∀ t,g t≠none->T'[t]?=T[t]?) (aG:∀ t c,Fs t c->w'.heap[c]?=w.heap[c]?)
  (ba:∀ c,I c->w'.heap[c]?=w.heap[c]?) (nV:∀ c,I c->I' c) (aK:∀ t x,g t=some x->g' t=some x) {x:ab}{v:Value}{F:a_}(aY:jq w I (dP w T g) x v F)
  (lN:∀ c,F c->w'.heap[c]?=w.heap[c]?):jq w' I' (dP w' T' g') x v F :=
 aY.frame ba nV (λ_ _ ah=>h.Fm cX aG aK ah) (λ_ _ _ _ ah c aa=>by obtain ⟨t,al⟩:=h.DC ah c aa; exact aG t c al) lN
def cH (g:aI) (d:Nat) (x:ab):aI:=λt=>if t=d then some x else g t
def uW (Fs:Nat->a_) (d:Nat) (F:a_):Nat->a_:=λt=>if t=d then F else Fs t
theorem Qe {d:Nat}{x:ab}(aP:g d=none):∀ t y,g t=some y->cH g d x t=some y:=by
 intro t y ak;unfold cH;split
 ·rename_i h; subst h; rw [aP] at ak; cases ak
 ·exact ak
end
end Go.Own
namespace Go.Own
open Go
set_option linter.unusedSectionVars false
variable [cE]
theorem Qi (w:World):∀ (p:List Nat) (v:Value) (k:Nat),walk w v (p++[k])=(walk w v p).bind λu=>child w u k
 | [],v,k=>by simp [walk]; cases child w v k <;> rfl
 | J::p,v,k=>by
  simp only [List.cons_append,walk];cases child w v J with
  | none=>rfl
  | some u=>exact Qi w p u k
theorem Lp:∀ (p:List Nat) (x:ab) (k:Nat),x.at (p++[k])=(x.at p).bind λy=>y.kids[k]?
 | [],x,k=>by simp [ab.at]; cases x.kids[k]? <;> rfl
 | J::p,x,k=>by
  simp only [List.cons_append,ab.at];cases x.kids[J]? with
  | none=>rfl
  | some u=>exact Lp p u k
theorem tM (g:aI) (p:Place) (k:Nat):bx g (p.push k)=(bx g p).bind λy=>y.kids[k]?:=by
 unfold bx Place.push;cases g p.root with
 | none=>rfl
 | some x=>simp [Lp]
theorem xY (w:World) (T:Array Value) (p:Place) (k:Nat):dS w T (p.push k)=(dS w T p).bind λu=>child w u k:=by
 unfold dS Place.push;cases T[p.root]? with
 | none=>rfl
 | some x=>simp [Qi]
def fC:Nat->Place->ab->ab
 | _,p,.own z n _=>.bl z p n
 | _,p,.obj (_::_)=>.ptr p 0
 | _,_,.obj []=>.dead
 | _,_,.bC ..=>.dead
 | _,_,.self _=>.dead
 | _,_,.eY ..=>.dead
 | _,p,.mp _=>.hf p
 | d+1,p,.agg cs=>.agg (cs.mapIdx λi x=>fC d (p.push i) x)
 | d+1,p,.bJ cs=>.bJ (cs.mapIdx λi x=>fC d (p.push i) x)
 | 0,_,.agg _=>.dead
 | 0,_,.bJ _=>.dead
 | _,_,x=>x
def od (t:Nat):ab->ab
 | .bC z _ n m _=>.bl z ⟨t,[]⟩ (n+m)
 | x=>fC 2 ⟨t,[]⟩ x
def j1:Value->ab
 | .slice none 0 0=>.aU
 | .agg _=>.dead
 | .tuple _=>.dead
 | v=>.lit v
def ofConst:Value->ab
 | .agg vs=>if vs.all Value.oneCell' then .agg (vs.toList.map j1) else .dead
 | .tuple _=>.dead
 | v=>j1 v
def bm (g:aI):Operand->Option ab
 | .tmp t=>(g t).map (od t)
 | .const v=>some (ofConst v)
 | .func f=>some (.di (.func f) [] [])
 | .global _=>none
theorem O5 {d:Nat}{p:Place}{x:ab}{J:Nat × Nat}:fC d p x≠.self J:=by
 cases x with
 | obj cs=>cases d <;> cases cs <;> simp [fC]
 | _=>cases d <;> simp [fC]
theorem YX {t:Nat}{x:ab}:sw (od t x):=by
 intro cs h k J hk;cases x with
 | obj cs=>cases cs <;> simp [od,fC] at h
 | agg l =>
  simp only [od,fC,ab.agg.injEq] at h;subst h;rw [List.getElem?_mapIdx] at hk;cases j:l[k]? with
  | none=>rw [j] at hk; cases hk
  | some x=>rw [j] at hk; simp only [Option.map_some,Option.some.injEq] at hk; exact O5 hk
 | _=>simp [od,fC] at h
theorem Oo (v:Value) (J:Nat × Nat):j1 v≠.self J:=by
 unfold j1; split <;> simp
theorem Oq (vs:List Value):qN (vs.map j1):=λk J=>by
 rw [List.getElem?_map];cases vs[k]? with
 | none=>simp
 | some v=>simp [Oo]
theorem OC {g:aI}{o:Operand}{x:ab}(h:bm g o=some x):sw x:=by
 cases o with
 | tmp t =>
  simp only [bm] at h;cases al:g t with
  | none=>rw [al] at h; cases h
  | some y=>rw [al] at h; simp only [Option.map_some,Option.some.injEq] at h; exact h ▸ YX
 | const v =>
  simp only [bm,Option.some.injEq] at h;subst h;intro cs h;unfold ofConst at h
  split at h
  ·split at h
   ·cases h; exact Oq _
   ·cases h
  ·cases h
  ·unfold j1 at h; split at h <;> cases h
 | func f=>simp only [bm,Option.some.injEq] at h; subst h; intro cs h; cases h
 | global n=>cases h
theorem X_ {g:aI}{o:Operand}{x:ab}(h:bm g o=some x) (J:Nat × Nat):x≠.self J:=by
 cases o with
 | tmp t =>
  simp only [bm] at h;cases al:g t with
  | none=>rw [al] at h; cases h
  | some y =>
   rw [al] at h;simp only [Option.map_some,Option.some.injEq] at h;subst h;cases y with
   | bC=>simp [od]
   | _=>exact O5
 | const v =>
  simp only [bm,Option.some.injEq] at h;subst h;unfold ofConst;split
  ·split <;> simp
  ·simp
  ·exact Oo _ _
 | func f=>simp only [bm,Option.some.injEq] at h; subst h; simp
 | global n=>cases h
abbrev cr:a_:=λ_=>False
section
variable {w:World}{I:a_}{T:Array Value}{g:aI}{Fs:Nat->a_}
theorem R.empty {ρ:ab->Value->Prop}{x:ab}{v:Value}{F:a_}(h:R w I ρ x v F) (aG:∀ c,¬ F c):R w I ρ x v cr:=h.yJ λc=>⟨λaa=>aG c aa,λaa=>aa.elim⟩
theorem Fl:∀ (d:Nat) {p:Place}{x:ab}{v:Value}{F:a_},bx g p=some x->dS w T p=some v->R w I (dP w T g) x v F->R w I (dP w T g) (fC d p x) v cr:=by
 intro d
 induction d with
 | zero =>
  intro p x v F ar hv aY;cases aY with
  | lit ai aG=>exact .lit ai λ_ h=>h
  | aU aG=>exact .aU λ_ h=>h
  | dead aG=>exact .dead λ_ h=>h
  | l1 aG=>exact .dead λ_ h=>h
  | eY=>exact .dead λ_ h=>h
  | ref j ah aG=>cases x <;> simp [ab.isRef] at j <;> exact .ref rfl ah λ_ h=>h
  | mp=>exact .ref rfl ⟨⟨_,hv,rfl⟩,⟨_,ar⟩⟩ λ_ h=>h
  | imp aG ba aV a6=>exact .imp (λ_ h=>h) ba aV a6
  | hn aG=>exact .hn λ_ h=>h
  | bk aG kW ba aw ai h1 aa ah=>exact .bk (λ_ h=>h) kW ba aw ai h1 aa ah
  | cJ aG ba aw h1 aa ah=>exact .cJ (λ_ h=>h) ba aw h1 aa ah
  | own aV ai h1 ah aP av aG =>
   have nr:=R.own (I:=I) (ρ:=dP w T g) aV ai h1 ah aP av aG;obtain ⟨a,cap,rfl,aA,_⟩:=nr.mO;exact .ref rfl ⟨⟨a,_,cap,hv,rfl,Nat.le_refl _⟩,.inl ⟨_,_,ar,Nat.le_refl _⟩⟩ λ_ h=>h
  | @obj cs b e arr b1 _ aV ai h1 ah aP av aG =>
   cases cs with
   | nil=>exact .dead λ_ h=>h
   | cons c cs=>exact .ref rfl ⟨⟨_,_,hv,rfl,rfl⟩,⟨_,ar,0,0,_,.inr rfl,by simp⟩⟩ λ_ h=>h
  | agg=>exact .dead λ_ h=>h
  | bJ=>exact .dead λ_ h=>h
  | di aG h1 af iR ij=>exact .di (λ_ h=>h) h1 af iR ij
 | succ d aL =>
  intro p x v F ar hv aY;cases aY with
  | lit ai aG=>exact .lit ai λ_ h=>h
  | aU aG=>exact .aU λ_ h=>h
  | dead aG=>exact .dead λ_ h=>h
  | l1 aG=>exact .dead λ_ h=>h
  | eY=>exact .dead λ_ h=>h
  | ref j ah aG=>cases x <;> simp [ab.isRef] at j <;> exact .ref rfl ah λ_ h=>h
  | mp=>exact .ref rfl ⟨⟨_,hv,rfl⟩,⟨_,ar⟩⟩ λ_ h=>h
  | imp aG ba aV a6=>exact .imp (λ_ h=>h) ba aV a6
  | hn aG=>exact .hn λ_ h=>h
  | bk aG kW ba aw ai h1 aa ah=>exact .bk (λ_ h=>h) kW ba aw ai h1 aa ah
  | cJ aG ba aw h1 aa ah=>exact .cJ (λ_ h=>h) ba aw h1 aa ah
  | own aV ai h1 ah aP av aG =>
   have nr:=R.own (I:=I) (ρ:=dP w T g) aV ai h1 ah aP av aG;obtain ⟨a,cap,rfl,aA,_⟩:=nr.mO;exact .ref rfl ⟨⟨a,_,cap,hv,rfl,Nat.le_refl _⟩,.inl ⟨_,_,ar,Nat.le_refl _⟩⟩ λ_ h=>h
  | @obj cs b e arr b1 _ aV ai h1 ah aP av aG =>
   cases cs with
   | nil=>exact .dead λ_ h=>h
   | cons c cs=>exact .ref rfl ⟨⟨_,_,hv,rfl,rfl⟩,⟨_,ar,0,0,_,.inr rfl,by simp⟩⟩ λ_ h=>h
  | @agg cs vs b1 _ ai h1 ah aP aG =>
   refine .agg (Fs:=λ_=>cr) (by simpa using ai) h1 ?_ (λ_ _ _ _ _ h=>h.elim) (λc=>⟨λh=>h.elim,λ⟨_,_,h⟩=>h⟩);intro k y u ak hu;rw [List.getElem?_mapIdx] at ak;cases hk:cs[k]? with
   | none=>rw [hk] at ak; cases ak
   | some z =>
    rw [hk] at ak;cases ak;exact aL (by rw [tM,ar]; exact hk) (by rw [xY,hv]; exact hu) (ah k z u hk hu)
  | @bJ cs vs b1 _ ai ah aP aG =>
   refine .bJ (Fs:=λ_=>cr) (by simpa using ai) ?_ (λ_ _ _ _ _ h=>h.elim) (λc=>⟨λh=>h.elim,λ⟨_,_,h⟩=>h⟩);intro k y u ak hu;rw [List.getElem?_mapIdx] at ak;cases hk:cs[k]? with
   | none=>rw [hk] at ak; cases ak
   | some z =>
    rw [hk] at ak;cases ak;exact aL (by rw [tM,ar]; exact hk) (by rw [xY,hv]; exact hu) (ah k z u hk hu)
  | di aG h1 af iR ij=>exact .di (λ_ h=>h) h1 af iR ij
theorem Cg {ρ:ab->Value->Prop}(v:Value):R w I ρ (j1 v) v cr:=by
 unfold j1;split
 ·exact .aU λ_ h=>h
 ·exact .dead λ_ h=>h
 ·exact .dead λ_ h=>h
 ·rename_i h1 af aF;refine .lit ?_ λ_ h=>h;cases v <;> first | rfl | (exact absurd rfl (af _)) | (exact absurd rfl (aF _))
theorem X3 {ρ:ab->Value->Prop}(v:Value):R w I ρ (ofConst v) v cr:=by
 unfold ofConst;split
 ·rename_i vs;split
  ·rename_i g_;refine .agg (Fs:=λ_=>cr) (by simp) (λk u hu=>?_) ?_ (λ_ _ _ _ _ h=>h.elim) (λc=>⟨λh=>h.elim,λ⟨_,_,h⟩=>h⟩)
   ·exact Array.all_eq_true_iff_forall_mem.1 g_ u (Array.mem_of_getElem? hu)
   ·intro k x u j hu;simp only [List.getElem?_map,Array.getElem?_toList,hu,Option.map_some,Option.some.injEq] at j;subst j;exact Cg u
  ·exact .dead λ_ h=>h
 ·exact .dead λ_ h=>h
 ·exact Cg v
theorem k7 (h:cB w I T g Fs) {x:Operand}{y:ab}(ak:bm g x=some y) {a:Act}(aQ:a.tmps=T):R w I (dP w T g) y (a.eval x) cr:=by
 cases x with
 | tmp t =>
  simp only [bm] at ak;cases j:g t with
  | none=>rw [j] at ak; cases ak
  | some z =>
   rw [j] at ak;simp only [Option.map_some,Option.some.injEq] at ak;obtain ⟨v,hv,aY⟩:=h.rel t z j;have nk:a.eval (.tmp t)=v:=by simp [Act.eval,aQ,hv]
   rw [nk];have ar:bx g ⟨t,[]⟩=some z:=by simp [bx,j,ab.at]
   have zb:dS w T ⟨t,[]⟩=some v:=by simp [dS,hv,walk]
   subst ak;cases aY with
   | tree aY =>
    cases z with
    | bC=>exact aY.k4.elim
    | _=>exact Fl 2 ar zb aY
   | @bC j9 n m p new v bv e bZ us news _ aY =>
    simp only [od];have:∃ a cap,v=.slice a (n+m) cap:=by
     obtain ⟨_,af⟩:=aY.nq;rcases af with ⟨af,aF⟩ | ⟨b,cap,cur,af,_⟩
     ·exact ⟨none,0,by rw [af]; congr 1; omega⟩
     ·exact ⟨_,cap,af⟩
    obtain ⟨b0,cap,rfl⟩:=this;exact .ref rfl ⟨⟨b0,_,cap,zb,rfl,Nat.le_refl _⟩,.inr ⟨rfl,p,n,m,new,j,rfl⟩⟩ λ_ h=>h
 | const v=>simp only [bm,Option.some.injEq] at ak; subst ak; exact X3 v
 | global n=>simp [bm] at ak
 | func f =>
  simp only [bm,Option.some.injEq] at ak;subst ak;exact .di (λ_ h=>h) rfl rfl (by simp) (by simp)
end
end Go.Own
namespace Go.Own
open Go
set_option linter.unusedSectionVars false
variable [cE]
def kt (P:Program) (t:TypeId):Bool :=
 match P.underlying t,P.info? t with
 | some (.struct _),_=>false
 | some (.array ..),_=>false
 | some _,some i=>i.size == 1
 | _,_=>false
def iN (P:Program) (t:TypeId) (k:Nat):Bool :=
 match P.underlying t,P.info? t with
 | some (.struct _),some i=>i.size == k
 | some (.array ..),some i=>i.size == k
 | _,_=>false
def fa (P:Program) (t e:TypeId) (z:Nat):Bool :=
 match P.underlying t,P.info? e with
 | some (.slice b8),some i=>b8 == e&&i.size == z
 | _,_=>false
def DA (P:Program) (t e:TypeId) (n z:Nat):Bool :=
 match P.underlying t,P.info? e with
 | some (.array cf b8),some i=>cf == n&&b8 == e&&i.size == z
 | _,_=>false
def oh (P:Program) (t:TypeId):Bool :=
 match P.underlying t with
 | some .string=>true
 | _=>false
def u' (P:Program) (s d:TypeId):Bool :=
 match P.underlying s,P.underlying d with
 | some (.slice e),some .string=>match P.underlying e with
  | some (.int .u8)=>true
  | _=>false
 | _,_=>false
def jv (P:Program) (s:TypeId) (f off:Nat) (t:TypeId):Bool :=
 match P.underlying s with
 | some (.struct fs) =>
  match fs[f]? with
  | some fd=>fd.offset == off&&fd.type == t&&(match P.info? t with | some i=>i.size != 0 | none=>false)
  | none=>false
 | _=>false
section
variable {P:Program}{w:World}
theorem GP {t:TypeId}(h:kt P t=true):(isAgg t).run P w=.ok false w/\(sizeOf t).run P w=.ok 1 w:=by
 unfold kt at h;cases hu:P.underlying t with
 | none=>simp [hu] at h
 | some d =>
  cases hi:P.info? t with
  | none=>cases d <;> simp [hu,hi] at h
  | some i=>cases d <;> simp [hu,hi] at h <;> simp [isAgg,run_underlying hu,sizeOf,typeInfo,hi,h]
theorem Dw {t:TypeId}{k:Nat}(h:iN P t k=true):(isAgg t).run P w=.ok true w/\(sizeOf t).run P w=.ok k w:=by
 unfold iN at h;cases hu:P.underlying t with
 | none=>simp [hu] at h
 | some d =>
  cases hi:P.info? t with
  | none=>cases d <;> simp [hu,hi] at h
  | some i=>cases d <;> simp [hu,hi] at h <;> simp [isAgg,run_underlying hu,sizeOf,typeInfo,hi,h]
theorem qC {t e:TypeId}{z:Nat}(h:fa P t e z=true):P.underlying t=some (.slice e)/\P.elem t=e/\(sizeOf e).run P w=.ok z w:=by
 unfold fa at h;cases hu:P.underlying t with
 | none=>simp [hu] at h
 | some d =>
  cases hi:P.info? e with
  | none=>cases d <;> simp [hu,hi] at h
  | some i =>
   cases d <;> simp [hu,hi] at h;obtain ⟨rfl,h⟩:=h;exact ⟨rfl,by simp [Program.elem,hu],by simp [sizeOf,typeInfo,hi,h]⟩
theorem Lk {t e:TypeId}{n z:Nat}(h:DA P t e n z=true):P.underlying t=some (.array n e)/\(sizeOf e).run P w=.ok z w:=by
 unfold DA at h;cases hu:P.underlying t with
 | none=>simp [hu] at h
 | some d =>
  cases hi:P.info? e with
  | none=>cases d <;> simp [hu,hi] at h
  | some i =>
   cases d <;> simp [hu,hi] at h;obtain ⟨⟨rfl,rfl⟩,h⟩:=h;exact ⟨rfl,by simp [sizeOf,typeInfo,hi,h]⟩
theorem LA {s d:TypeId}(h:u' P s d=true):∃ e,P.underlying s=some (.slice e)/\P.underlying e=some (.int .u8)/\P.underlying d=some .string:=by
 unfold u' at h
 split at h
 ·rename_i e h1 af
  split at h
  ·rename_i aF;exact ⟨e,h1,aF,af⟩
  ·cases h
 ·cases h
theorem Kg {t:TypeId}(h:oh P t=true):P.underlying t=some .string:=by
 unfold oh at h;cases hu:P.underlying t with
 | none=>simp [hu] at h
 | some d=>cases d <;> simp [hu] at h; rfl
theorem Hf {s:TypeId}{f off:Nat}{t:TypeId}(h:jv P s f off t=true):∃ fs fd,P.underlying s=some (.struct fs)/\fs[f]?=some fd/\fd.offset=off/\fd.type=t/\∃ i,P.info? t=some i/\i.size≠0:=by
 unfold jv at h;cases hu:P.underlying s with
 | none=>simp [hu] at h
 | some d =>
  cases d <;> simp [hu] at h;rename_i fs;cases aS:fs[f]? with
  | none=>simp [aS] at h
  | some fd =>
   simp [aS] at h;obtain ⟨⟨h1,af⟩,aF⟩:=h;cases hi:P.info? t with
   | none=>simp [hi] at aF
   | some i=>simp [hi] at aF; exact ⟨fs,fd,rfl,aS,h1,af,i,rfl,aF⟩
theorem add_eq (b o k:Nat):(⟨b,o,none⟩:Addr).add k=⟨b,o+k,none⟩:=by
 unfold Addr.add;split
 ·rename_i h; subst h; rfl
 ·rfl
theorem Pf {s:TypeId}{f off:Nat}{t:TypeId}(h:jv P s f off t=true) (b o:Nat):(Instr.fieldAt s (.pointer (some ⟨b,o,none⟩)) f).run P w=.ok (.pointer (some ⟨b,o+off,none⟩)) w:=by
 obtain ⟨fs,fd,hu,aS,rfl,rfl,i,hi,aO⟩:=Hf h;simp [Instr.fieldAt,run_underlying hu,aS,Instr.sureAddr,fieldPlace,sizeOf,typeInfo,hi,aO,add_eq]
theorem Ph {t:TypeId}(h:kt P t=true) {a:Addr}{v:Value}(aa:w.cell? a=some v):(Instr.loadAt t (.pointer (some a))).run P w=.ok v w:=by
 obtain ⟨h1,af⟩:=GP (w:=w) h;simp [Instr.loadAt,Instr.sureAddr,loadVar,h1,aa]
theorem Pg {t:TypeId}{k:Nat}(h:iN P t k=true) {b o:Nat}{vs:List Value}(ai:vs.length=k) (aa:∀ J v,vs[J]?=some v->w.cell? ⟨b,o+J,none⟩=some v) :
  (Instr.loadAt t (.pointer (some ⟨b,o,none⟩))).run P w=.ok (.agg vs.toArray) w:=by
 obtain ⟨h1,af⟩:=Dw (w:=w) h;have:=run_loadCells_list (P:=P) w ⟨b,o,none⟩ vs (λJ v aj=>by rw [add_eq]; exact aa J v aj);rw [ai] at this;simp [Instr.loadAt,Instr.sureAddr,loadVar,h1,af,this]
end
end Go.Own
namespace Go.Own
open Go
set_option linter.unusedSectionVars false
variable [cE]
section
variable {w:World}{I:a_}{ρ:ab->Value->Prop}{v:Value}{F:a_}
theorem R.h2 {a:Value}(h:R w I ρ (.lit a) v F):v=a/\a.oneCell'=true:=by
 cases h with
 | lit hv=>exact ⟨rfl,hv⟩
 | ref j=>simp [ab.isRef] at j
theorem R.r2 (h:R w I ρ .aU v F):v=.slice none 0 0:=by
 cases h with
 | aU=>rfl
 | ref j=>simp [ab.isRef] at j
theorem R.ny {p:Place}{k:Nat}(h:R w I ρ (.ptr p k) v F):ρ (.ptr p k) v:=by
 cases h with
 | ref j h=>exact h
theorem R.mN {z:Nat}{p:Place}{n:Nat}(h:R w I ρ (.bl z p n) v F):ρ (.bl z p n) v:=by
 cases h with
 | ref j h=>exact h
theorem R.xa {z:Nat}{p:Place}{lo n:Nat}(h:R w I ρ (.sub z p lo n) v F):ρ (.sub z p lo n) v:=by
 cases h with
 | ref j h=>exact h
theorem R.zc {z n:Nat}{cs:List ab}(h:R w I ρ (.bk z n cs) v F):∃ a cap,v=.slice a n cap/\n<=cap/\cs.length=n * z /\
  (cs≠[]\/0<n->∃ (ad:Addr) (us:Nat->Value),a=some ad/\I ad.block/\ad.spot=none/\(∀ (k:Nat) (x:ab),cs[k]?=some x->(us k).oneCell'=true)/\(∀ (k:Nat) (x:ab),cs[k]?=some x->w.cell? ⟨ad.block,ad.off+k,none⟩=some (us k))/\∀ (k:Nat) (x:ab),cs[k]?=some x->R w I ρ x (us k) cr):=by
 cases h with
 | @hn _ cap a=>exact ⟨a,cap,rfl,Nat.zero_le _,by simp,λh=>by simp at h⟩
 | @bk _ _ cap _ ad us _ aG kW ba aw ai h1 aa ah=>exact ⟨_,cap,rfl,kW,ai,λ_=>⟨ad,us,rfl,ba,aw,h1,aa,ah⟩⟩
 | ref j=>simp [ab.isRef] at j
theorem R.w_ {cs:List ab}(h:R w I ρ (.cJ cs) v F):∃ (ad:Addr) (us:Nat->Value),v=.pointer (some ad)/\I ad.block/\ad.spot=none/\(∀ (k:Nat) (x:ab),cs[k]?=some x->(us k).oneCell'=true)/\(∀ (k:Nat) (x:ab),cs[k]?=some x->w.cell? ⟨ad.block,ad.off+k,none⟩=some (us k))/\∀ (k:Nat) (x:ab),cs[k]?=some x->R w I ρ x (us k) cr:=by
 cases h with
 | @cJ _ ad us _ aG ba aw h1 aa ah=>exact ⟨ad,us,rfl,ba,aw,h1,aa,ah⟩
 | ref j=>simp [ab.isRef] at j
theorem R.BS {cs:List ab}(h:R w I ρ (.agg cs) v F) (aG:∀ c,¬ F c):∃ vs:Array Value,v=.agg vs/\cs.length=vs.size/\(∀ (k:Nat) (u:Value),vs[k]?=some u->u.oneCell'=true)/\∀ (k:Nat) (x:ab) (u:Value),cs[k]?=some x->vs[k]?=some u->R w I ρ x u cr:=by
 cases h with
 | @agg _ vs Fs _ ai h1 ah aP pk=>exact ⟨vs,rfl,ai,h1,λk x u j hu=>(ah k x u j hu).empty λc aa=>aG c ((pk c).2 ⟨k,(List.getElem?_eq_some_iff.1 j).1,aa⟩)⟩
 | ref j=>simp [ab.isRef] at j
theorem R.Xq {cs:List ab}(h:R w I ρ (.bJ cs) v F) (aG:∀ c,¬ F c):∃ vs:Array Value,v=.tuple vs/\cs.length=vs.size/\∀ (k:Nat) (x:ab) (u:Value),cs[k]?=some x->vs[k]?=some u->R w I ρ x u cr:=by
 cases h with
 | @bJ _ vs Fs _ ai ah aP pk=>exact ⟨vs,rfl,ai,λk x u j hu=>(ah k x u j hu).empty λc aa=>aG c ((pk c).2 ⟨k,(List.getElem?_eq_some_iff.1 j).1,aa⟩)⟩
 | ref j=>simp [ab.isRef] at j
theorem R.node {y:ab}{z n:Nat}{cs:List ab}(h:R w I ρ y v F) (ak:y=.own z n cs\/y=.obj cs) {k:Nat}{x:ab}(hk:cs[k]?=some x) :
  ∃ b u,addrOf v=some ⟨b,0,none⟩/\w.cell? ⟨b,k,none⟩=some u/\child w v k=some u/\u.oneCell'=true/\∃ bV,R w I ρ x u bV:=by
 rcases ak with rfl | rfl
 ·cases h with
  | @own _ _ _ _ e us Fs _ aV ai h1 ah aP av aG =>
   have aR:k<cs.length:=(List.getElem?_eq_some_iff.1 hk).1;have hu:us[k]?=some us[k]:=List.getElem?_eq_getElem (ai ▸ aR);have ni:=oW aV hu;obtain ⟨kZ,af⟩:=aV;rcases af with ⟨rfl,rfl⟩ | ⟨b,cap,cur,rfl,aK,bD,rest⟩
   ·grind
   ·exact ⟨b,_,rfl,by simpa [child] using ni,ni,h1 k _ hu,Fs k,ah k x _ hk hu⟩
  | ref j=>simp [ab.isRef] at j
 ·cases h with
  | @obj _ b e arr Fs _ aV ai h1 ah aP av aG =>
   have aR:k<cs.length:=(List.getElem?_eq_some_iff.1 hk).1;have hu:arr[k]?=some arr[k]:=Array.getElem?_eq_getElem (ai ▸ aR);exact ⟨b,_,rfl,by simp [World.cell?,aV,hu],by simp [child,World.cell?,aV,hu],h1 k _ hu,Fs k,ah k x _ hk hu⟩
  | ref j=>simp [ab.isRef] at j
end
def pY (g:aI) (d:Nat):Option Operand->Nat->Prop
 | none,J=>J=d
 | some o,J=>∃ k,bm g o=some (.lit (.int k (J:Int)))
inductive cR (P:Program) (g:aI):Op->TypeId->ab->Prop
 | move {x:Operand}{ty:TypeId}{y:ab}(j:bm g x=some y):cR P g (.move x) ty y
 | assign {x:Operand}{ty:TypeId}{y:ab}(j:bm g x=some y):cR P g (.assign x) ty y
 | pick {c a b:Operand}{ty:TypeId}{t:Bool}{r:ab}(aa:bm g c=some (.lit (.bool t))) (ah:bm g (if t then a else b)=some r):cR P g (.pick c a b) ty r
 | E3 {x:Operand}{ty:TypeId}{p:Place}{k:Nat}(j:bm g x=some (.ptr p k)):cR P g (.nilCheck x) ty (.ptr p k)
 | qt {x:Operand}{ty:TypeId}{cs:List ab}(j:bm g x=some (.cJ cs)):cR P g (.nilCheck x) ty (.cJ cs)
 | AT {x:Operand}{ty s t:TypeId}{f off:Nat}{p:Place}{k:Nat}(j:bm g x=some (.ptr p k)) (aS:jv P s f off t=true) (cY:gP g (.ptr p (k+off))):cR P g (.fieldAddr s x f) ty (.ptr p (k+off))
 | DW {x:Operand}{ty s t:TypeId}{f off:Nat}{cs:List ab}(j:bm g x=some (.cJ cs)) (aS:jv P s f off t=true):cR P g (.fieldAddr s x f) ty (.cJ (cs.drop off))
 | DV {x:Operand}{ty s t:TypeId}{f off:Nat}{cs:List ab}{y:ab}(j:bm g x=some (.agg cs)) (aS:jv P s f off t=true) (al:kt P t=true) (ak:cs[off]?=some y):cR P g (.field s x f) ty y
 | He {x:Operand}{ty s t:TypeId}{f off k:Nat}{cs:List ab}(j:bm g x=some (.agg cs)) (aS:jv P s f off t=true) (al:iN P t k=true) (hk:off+k<=cs.length):cR P g (.field s x f) ty (.agg ((cs.drop off).take k))
 | EF {x i:Operand}{ty t e:TypeId}{z n:Nat}{cs:List ab}{nz:IntKind}{J:Nat}(j:bm g x=some (.bk z n cs)) (hi:bm g i=some (.lit (.int nz (J:Int)))) (al:fa P t e z=true) (aj:J<n):cR P g (.indexAddr t x i) ty (.cJ (cs.drop (J * z)))
 | EE {x i:Operand}{ty t e:TypeId}{z n:Nat}{p:Place}{nz:IntKind}{J:Nat}(j:bm g x=some (.bl z p n)) (hi:bm g i=some (.lit (.int nz (J:Int)))) (al:fa P t e z=true) (aj:J<n) (cY:gP g (.ptr p (J * z))):cR P g (.indexAddr t x i) ty (.ptr p (J * z))
 | I6 {x i:Operand}{ty t e:TypeId}{z lo n:Nat}{p:Place}{nz:IntKind}{J:Nat}(j:bm g x=some (.sub z p lo n)) (hi:bm g i=some (.lit (.int nz (J:Int)))) (al:fa P t e z=true) (aj:J<n) (cY:gP g (.ptr p ((lo+J) * z))):cR P g (.indexAddr t x i) ty (.ptr p ((lo+J) * z))
 | I5 {x i:Operand}{ty t e:TypeId}{n z k:Nat}{p:Place}{nz:IntKind}{J:Nat}(j:bm g x=some (.ptr p k)) (hi:bm g i=some (.lit (.int nz (J:Int)))) (al:DA P t e n z=true) (aj:J<n) (cY:gP g (.ptr p (k+J * z))):cR P g (.indexAddr t x i) ty (.ptr p (k+J * z))
 | I4 {x i:Operand}{ty t e:TypeId}{n z:Nat}{cs:List ab}{nz:IntKind}{J:Nat}(j:bm g x=some (.cJ cs)) (hi:bm g i=some (.lit (.int nz (J:Int)))) (al:DA P t e n z=true) (aj:J<n):cR P g (.indexAddr t x i) ty (.cJ (cs.drop (J * z)))
 | ES {x:Operand}{ty t:TypeId}{c:ab}{cs:List ab}(j:bm g x=some (.cJ (c::cs))) (al:kt P t=true):cR P g (.load t x) ty c
 | ET {x:Operand}{ty t:TypeId}{k:Nat}{cs:List ab}(j:bm g x=some (.cJ cs)) (al:iN P t k=true) (hk:k<=cs.length):cR P g (.load t x) ty (.agg (cs.take k))
 | B5 {x:Operand}{ty t:TypeId}{p:Place}{k:Nat}{y:ab}(j:bm g x=some (.ptr p k)) (al:kt P t=true) (ak:bx g (p.push k)=some y):cR P g (.load t x) ty (fC 0 (p.push k) y)
 | xl {x:Operand}{ty t:TypeId}{p:Place}{k m z n:Nat}{y:ab}{cs:List ab}(j:bm g x=some (.ptr p k)) (al:iN P t m=true) (ak:bx g p=some y) (aa:y=.own z n cs\/y=.obj cs) (hm:k+m<=cs.length):cR P g (.load t x) ty (.agg (((cs.drop k).take m).mapIdx λi x=>fC 0 (p.push (k+i)) x))
 | EG {x i:Operand}{ty t:TypeId}{s:ByteArray}{nz:IntKind}{J:Nat}{b:UInt8}(j:bm g x=some (.lit (.string s))) (hi:bm g i=some (.lit (.int nz (J:Int)))) (al:oh P t=true) (av:s[J]?=some b):cR P g (.index t x i) ty (.lit (.int .u8 b.toNat))
 | bin {op:BinOp}{x y:Operand}{ty t t2:TypeId}{a b v:Value}(j:bm g x=some (.lit a)) (ak:bm g y=some (.lit b)) (hv:v.oneCell'=true) (ah:∀ w,(do eqGuard op t x y a b; binOp op t a b:Sem Value).run P w=.ok v w):cR P g (.binOp op t x y t2) ty (.lit v)
 | Az {op:BinOp}{x y:Operand}{ty t t2:TypeId}{dG bn:List Value}{v:Value}(j:bm g x=some (.agg (dG.map .lit))) (ak:bm g y=some (.agg (bn.map .lit))) (hv:v.oneCell'=true) (ah:∀ w,(do eqGuard op t x y (.agg dG.toArray) (.agg bn.toArray); binOp op t (.agg dG.toArray) (.agg bn.toArray):Sem Value).run P w=.ok v w):cR P g (.binOp op t x y t2) ty (.lit v)
 | un {op:UnOp}{x:Operand}{ty t:TypeId}{a v:Value}(j:bm g x=some (.lit a)) (hv:v.oneCell'=true) (ah:∀ w,(Op.unary op a).run P w=.ok v w):cR P g (.unOp op t x) ty (.lit v)
 | conv {x:Operand}{ty s d:TypeId}{a v:Value}(j:bm g x=some (.lit a)) (hv:v.oneCell'=true) (ah:∀ w,(convert s d a).run P w=.ok v w):cR P g (.convert s d x) ty (.lit v)
 | DJ {x:Operand}{ty s d:TypeId}{n N:Nat}{p:Place}{cs:List ab}{xs:List Int}(j:bm g x=some (.bl 1 p n)) (ar:bx g p=some (.own 1 N cs)) (aA:n<=N) (gT:cs.take n=xs.map λb=>.lit (.int .u8 b)) (al:u' P s d=true):cR P g (.convert s d x) ty (.lit (.string (strOfNums xs)))
 | DK {x:Operand}{ty s d:TypeId}{n:Nat}{xs:List Int}(j:bm g x=some (.bk 1 n (xs.map λb=>.lit (.int .u8 b)))) (al:u' P s d=true):cR P g (.convert s d x) ty (.lit (.string (strOfNums xs)))
 | Hb {xs:Array Operand}{gh:Array TypeId}{ty:TypeId}{f:FuncId}{vs:List Value}{v:Value}(j:xs.toList.map (bm g)=vs.map λv=>some (.lit v)) (hv:v.oneCell'=true)
   (ah:∀ w,(callFunc f vs.toArray).run P w=.ok (.value v) w):cR P g (.call { callee:=.value (.func f),args:=xs,argTypes:=gh }) ty (.lit v)
 | DP {x:Operand}{ty:TypeId}{i:Nat}{cs:List ab}{y:ab}(j:bm g x=some (.bJ cs)) (ak:cs[i]?=some y):cR P g (.extract x i) ty y
 | zR {x:Operand}{lo hi:Option Operand}{ty t e:TypeId}{z n l h:Nat}{cs:List ab}(j:bm g x=some (.bk z n cs)) (ai:pY g 0 lo l) (bD:pY g n hi h) (al:fa P t e z=true) (sR:l<=h) (aA:h<=n):cR P g (.slice t x lo hi none) ty (.bk z (h - l) ((cs.drop (l * z)).take ((h - l) * z)))
 | Kd {x:Operand}{lo hi:Option Operand}{ty t e:TypeId}{z n h:Nat}{p:Place}(j:bm g x=some (.bl z p n)) (ai:pY g 0 lo 0) (bD:pY g n hi h) (al:fa P t e z=true) (aA:h<=n) (cY:gP g (.bl z p h)):cR P g (.slice t x lo hi none) ty (.bl z p h)
 | FB {x:Operand}{lo hi:Option Operand}{ty t e:TypeId}{z n l h:Nat}{p:Place}(j:bm g x=some (.bl z p n)) (ai:pY g 0 lo l) (bD:pY g n hi h) (al:fa P t e z=true) (sR:l<=h) (aA:h<=n) (cY:gP g (.sub z p l (h - l))):cR P g (.slice t x lo hi none) ty (.sub z p l (h - l))
 | zS {x:Operand}{lo hi:Option Operand}{ty t:TypeId}{l h:Nat}{s:ByteArray}(j:bm g x=some (.lit (.string s))) (ai:pY g 0 lo l) (bD:pY g s.size hi h) (al:oh P t=true) (sR:l<=h) (aA:h<=s.size):cR P g (.slice t x lo hi none) ty (.lit (.string (s.extract l h)))
 | B2 {x:Operand}{ty t e:TypeId}{z br n:Nat}{cs:List ab}(j:bm g x=some (.bk z n cs)) (al:fa P t e br=true):cR P g (.call { callee:=.builtin .len,args:=#[x],argTypes:=#[t] }) ty (.lit (.int .i64 n))
 | B1 {x:Operand}{ty t e:TypeId}{z br n:Nat}{p:Place}(j:bm g x=some (.bl z p n)) (al:fa P t e br=true):cR P g (.call { callee:=.builtin .len,args:=#[x],argTypes:=#[t] }) ty (.lit (.int .i64 n))
 | Jl {x:Operand}{ty t e:TypeId}{z br lo n:Nat}{p:Place}(j:bm g x=some (.sub z p lo n)) (al:fa P t e br=true):cR P g (.call { callee:=.builtin .len,args:=#[x],argTypes:=#[t] }) ty (.lit (.int .i64 n))
 | Jk {x:Operand}{ty t e:TypeId}{br:Nat}(j:bm g x=some .aU) (al:fa P t e br=true):cR P g (.call { callee:=.builtin .len,args:=#[x],argTypes:=#[t] }) ty (.lit (.int .i64 0))
 | lits {b:Builtin}{xs:Array Operand}{gh:Array TypeId}{ty:TypeId}{vs:List Value}{v:Value}(j:xs.toList.map (bm g)=vs.map λv=>some (.lit v)) (hv:v.oneCell'=true)
   (ah:∀ w (cs:Array Bool),(builtin b gh ty cs vs.toArray).run P w=.ok (.value v) w):cR P g (.call { callee:=.builtin b,args:=xs,argTypes:=gh }) ty (.lit v)
 | Jn {x y:Operand}{ty t:TypeId}{p:Place}{q:Array MapEntry->Nat->Prop}{ok:Bool}{Y X:ab}{q3 V:Value}(j:bm g x=some (.hf p)) (ar:bx g p=some (.mp q)) (ak:bm g y=some Y)
   (c5:∀ (w:World) (I:a_) (ρ:ab->Value->Prop) (v:Value),R w I ρ Y v cr->v=q3) (aY:∀ (w:World) (I:a_) (ρ:ab->Value->Prop),R w I ρ X V cr)
   (ah:∀ (w:World) (b:Nat) (es:Array MapEntry) (clock:Nat),w.heap[b]?=some (.map es clock)->q es clock->(Instr.lookup t (.map (some b)) q3 ok).run P w=.ok V w):cR P g (.lookup t x y ok) ty X
 | B4 {x y:Operand}{ty t:TypeId}{q:Array MapEntry->Nat->Prop}{ok:Bool}{Y X:ab}{q3 V:Value}(j:bm g x=some (.imp q)) (ak:bm g y=some Y)
   (c5:∀ (w:World) (I:a_) (ρ:ab->Value->Prop) (v:Value),R w I ρ Y v cr->v=q3) (aY:∀ (w:World) (I:a_) (ρ:ab->Value->Prop),R w I ρ X V cr)
   (ah:∀ (w:World) (b:Nat) (es:Array MapEntry) (clock:Nat),w.heap[b]?=some (.map es clock)->q es clock->(Instr.lookup t (.map (some b)) q3 ok).run P w=.ok V w):cR P g (.lookup t x y ok) ty X
theorem R.Xp {w:World}{I:a_}{ρ:ab->Value->Prop}{p:Place}{v:Value}{F:a_}(h:R w I ρ (.hf p) v F):ρ (.hf p) v:=by
 cases h with
 | ref _ h _=>exact h
theorem R.Xo {w:World}{I:a_}{ρ:ab->Value->Prop}{q:Array MapEntry->Nat->Prop}{v:Value}{F:a_}(h:R w I ρ (.mp q) v F):∃ b es clock,v=.map (some b)/\w.heap[b]?=some (.map es clock)/\q es clock/\∀ c,F c↔c=b:=by
 cases h with
 | ref j=>simp [ab.isRef] at j
 | mp aV a6 aG=>exact ⟨_,_,_,rfl,aV,a6,aG⟩
theorem R.Xn {w:World}{I:a_}{ρ:ab->Value->Prop}{q:Array MapEntry->Nat->Prop}{v:Value}{F:a_}(h:R w I ρ (.imp q) v F):∃ b es clock,v=.map (some b)/\w.heap[b]?=some (.map es clock)/\q es clock:=by
 cases h with
 | ref j=>simp [ab.isRef] at j
 | imp _ _ aV a6=>exact ⟨_,_,_,rfl,aV,a6⟩
end Go.Own
namespace Go.Own
open Go
set_option linter.unusedSectionVars false
variable [cE]
section
variable {P:Program}{w:World}{I:a_}{T:Array Value}{g:aI}{Fs:Nat->a_}
theorem pY.sound (h:cB w I T g Fs) {d:Nat}{x:Option Operand}{J:Nat}(av:pY g d x J) {a:Act}(aQ:a.tmps=T):(x.map a.eval=none/\J=d)\/∃ k,x.map a.eval=some (.int k (J:Int)):=by
 cases x with
 | none=>exact .inl ⟨rfl,av⟩
 | some o =>
  obtain ⟨k,hk⟩:=av;exact .inr ⟨k,by rw [Option.map_some,(k7 h hk aQ).h2.1]⟩
theorem Ft {len cap l h:Nat}{lo hi:Option Value}(ai:(lo=none/\l=0)\/∃ k,lo=some (.int k (l:Int))) (bD:(hi=none/\h=len)\/∃ k,hi=some (.int k (h:Int))) (b:Bool) (sR:l<=h) (aa:h<=cap) :
  (Instr.sliceBounds b len cap lo hi none).run P w=.ok (l,h,cap) w:=by
 rcases ai with ⟨rfl,rfl⟩ | ⟨k,rfl⟩ <;> rcases bD with ⟨rfl,rfl⟩ | ⟨kD,rfl⟩ <;> simp [Instr.sliceBounds,Instr.sliceBound,asIntOf,sR,aa]
theorem N7 (h:cB w I T g Fs) {a:Act}(aQ:a.tmps=T):∀ (xs:List Operand) (vs:List Value),xs.map (bm g)=vs.map (λv=>some (.lit v))->xs.map a.eval=vs
 | [],[],_=>rfl
 | [],_::_,h=>by simp at h
 | _::_,[],h=>by simp at h
 | x::xs,v::vs,j=>by
  simp only [List.map_cons,List.cons.injEq] at j;rw [List.map_cons,(k7 h j.1 aQ).h2.1,N7 h aQ xs vs j.2]
theorem Le {w:World}{I:a_}{ρ:ab->Value->Prop}{v:Value}{dG:List Value}
  (h:∃ vs:Array Value,v=.agg vs/\(dG.map ab.lit).length=vs.size/\(∀ (k:Nat) (u:Value),vs[k]?=some u->u.oneCell'=true)/\∀ (k:Nat) (x:ab) (u:Value),(dG.map ab.lit)[k]?=some x->vs[k]?=some u->R w I ρ x u cr):v=.agg dG.toArray:=by
 obtain ⟨vs,rfl,ai,-,ah⟩:=h;congr 1;apply Array.ext (by simpa using ai.symm);intro i h1 af;have aF:i<dG.length:=by simpa using af
 have:=(ah i (.lit dG[i]) vs[i] (by simp [aF]) (Array.getElem?_eq_getElem h1)).h2.1
 grind
theorem cR.sound (h:cB w I T g Fs) {a:Act}(aQ:a.tmps=T) {o:Oper}{kn:ab}(ar:cR P g o.op o.type kn) :
  ∃ v,(execOp a.eval o).run P w=.ok (.value v) w/\R w I (dP w T g) kn v cr:=by
 obtain ⟨dst,op,ty,pos,after,guard⟩:=o;simp only at ar;have fb:∀ {x:Operand}{y:ab},bm g x=some y->R w I (dP w T g) y (a.eval x) cr:=λak=>k7 h ak aQ;have no:∀ c,¬ cr c:=λ_ h=>h;cases ar with
 | move j=>exact ⟨_,by simp [execOp],fb j⟩
 | assign j=>exact ⟨_,by simp [execOp],fb j⟩
 | @pick c x y _ t r aa ah =>
  have vl:=(fb aa).h2.1;refine ⟨_,?_,fb ah⟩;simp [execOp,vl,asBool]
  grind
 | @E3 x _ p k j =>
  have ah:=fb j;obtain ⟨⟨u,ad,h1,af,aF⟩,bu⟩:=ah.ny
  simp_all [execOp]
 | @qt x _ cs j =>
  have ah:=fb j;obtain ⟨ad,us,aF,_⟩:=ah.w_
  simp_all [execOp]
 | @AT x _ s t f off p k j aS cY =>
  obtain ⟨⟨u,ad,h1,af,aF⟩,bu⟩:=(fb j).ny;refine ⟨.pointer (some ⟨ad.block,ad.off+k+off,none⟩),by simp [execOp,aF,Pf aS],.ref rfl ⟨⟨u,ad,h1,af,by rw [Nat.add_assoc]⟩,cY⟩ no⟩
 | @DW x _ s t f off cs j aS =>
  obtain ⟨ad,us,aF,ba,aw,gu,aa,ah⟩:=(fb j).w_;obtain ⟨b,o,sp⟩:=ad;simp only at aw;subst aw;refine ⟨.pointer (some ⟨b,o+off,none⟩),by simp [execOp,aF,Pf aS],.cJ (us:=λk=>us (off+k)) no ba rfl (λk x hk=>gu _ x (by rwa [List.getElem?_drop] at hk)) (λk x hk=>?_) λk x hk=>?_⟩
  ·grind
  grind
 | @DV x _ s t f off cs y j aS al ak =>
  obtain ⟨vs,aF,ai,gu,ah⟩:=(fb j).BS no;obtain ⟨fs,fd,hu,Ib,rfl,rfl,i,hi,aO⟩:=Hf aS;have hk:fd.offset<cs.length:=(List.getElem?_eq_some_iff.1 ak).1;have hv:vs[fd.offset]?=some vs[fd.offset]:=Array.getElem?_eq_getElem (ai ▸ hk);refine ⟨_,?_,ah _ kn _ ak hv⟩;simp [execOp,aF,Instr.field,run_underlying hu,Ib,asAgg,part,(GP (w:=w) al).1,hv]
 | @He x _ s t f off k cs j aS al hk =>
  obtain ⟨vs,aF,ai,gu,ah⟩:=(fb j).BS no;obtain ⟨fs,fd,hu,Ib,rfl,rfl,i,hi,aO⟩:=Hf aS;refine ⟨.agg (vs.extract fd.offset (fd.offset+k)),?_,.agg (Fs:=λ_=>cr) (by simp [ai]; omega) (λJ u hG=>by
   rw [Array.getElem?_extract] at hG
   grind) (λJ y u ak hG=>?_) (λ_ _ _ _ _ h=>h.elim) (λc=>⟨λh=>h.elim,λ⟨_,_,h⟩=>h⟩)⟩
  ·simp [execOp,aF,Instr.field,run_underlying hu,Ib,asAgg,part,(Dw (w:=w) al).1,(Dw (w:=w) al).2]
  grind
 | @EF x i _ t e z n cs nz J j hi al aj =>
  obtain ⟨hu,he,aT⟩:=qC (w:=w) al;obtain ⟨lj,cap,aF,_,ai,hm⟩:=(fb j).zc;obtain ⟨ad,us,rfl,ba,aw,gu,aa,ah⟩:=hm (.inr (by omega));obtain ⟨b,o,sp⟩:=ad;simp only at aw;subst aw;have sQ:=(fb hi).h2.1;refine ⟨.pointer (some ⟨b,o+J * z,none⟩),?_,.cJ (us:=λk=>us (J * z+k)) no ba rfl (λk x hk=>gu _ x (by rwa [List.getElem?_drop] at hk)) (λk x hk=>?_) λk x hk=>?_⟩
  ·simp [execOp,aF,sQ,Instr.indexAt,run_underlying hu,asIntOf,aj,aT,add_eq]
  ·grind
  grind
 | @EE x i _ t e z n p nz J j hi al aj cY =>
  obtain ⟨hu,he,aT⟩:=qC (w:=w) al;obtain ⟨⟨lj,N,cap,h1,af,aF⟩,bu⟩:=(fb j).mN;have sQ:=(fb hi).h2.1;obtain ⟨y,ak,j9,de,cs,ew,aR⟩:=cY;obtain ⟨v,cj,hv,dz,_⟩:=h.part ak (by rcases ew with rfl | rfl <;> simp);rw [h1] at hv;cases hv;obtain ⟨b,u,fo,me,_,_⟩:=dz.node ew (List.getElem?_eq_getElem aR);cases lj with
  | none=>simp [addrOf] at fo
  | some ad =>
   simp only [addrOf,Option.some.injEq] at fo;subst fo;refine ⟨.pointer (some ⟨b,J * z,none⟩),?_,.ref rfl ⟨⟨_,_,h1,rfl,by simp⟩,y,ak,j9,de,cs,ew,aR⟩ no⟩;simp [execOp,af,sQ,Instr.indexAt,run_underlying hu,asIntOf,aj,aT,add_eq]
 | @I6 x i _ t e z lo n p nz J j hi al aj cY =>
  obtain ⟨hu,he,aT⟩:=qC (w:=w) al;obtain ⟨⟨lj,N,cap,b0,mA,h1,af,_,aF,ct⟩,bu⟩:=(fb j).xa;obtain ⟨ad,rfl,rfl⟩:=ct (by omega);have sQ:=(fb hi).h2.1;obtain ⟨y,ak,j9,de,cs,ew,aR⟩:=cY;obtain ⟨v,cj,hv,dz,_⟩:=h.part ak (by rcases ew with rfl | rfl <;> simp);rw [h1] at hv;cases hv;obtain ⟨b,u,fo,me,_,_⟩:=dz.node ew (List.getElem?_eq_getElem aR);simp only [addrOf,Option.some.injEq] at fo;subst fo;refine ⟨.pointer (some ⟨b,(lo+J) * z,none⟩),?_,.ref rfl ⟨⟨_,_,h1,rfl,by simp⟩,y,ak,j9,de,cs,ew,aR⟩ no⟩;simp [execOp,af,sQ,Instr.indexAt,run_underlying hu,asIntOf,aj,aT,add_eq,Nat.add_mul]
 | @I5 x i _ t e n z k p nz J j hi al aj cY =>
  obtain ⟨hu,aT⟩:=Lk (w:=w) al;obtain ⟨⟨u,ad,h1,af,aF⟩,bu⟩:=(fb j).ny;have sQ:=(fb hi).h2.1;refine ⟨.pointer (some ⟨ad.block,ad.off+k+J * z,none⟩),?_,.ref rfl ⟨⟨u,ad,h1,af,by rw [Nat.add_assoc]⟩,cY⟩ no⟩;simp [execOp,aF,sQ,Instr.indexAt,run_underlying hu,Instr.sureAddr,asIntOf,aj,aT,add_eq]
 | @I4 x i _ t e n z cs nz J j hi al aj =>
  obtain ⟨hu,aT⟩:=Lk (w:=w) al;obtain ⟨ad,us,aF,ba,aw,gu,aa,ah⟩:=(fb j).w_;obtain ⟨b,o,sp⟩:=ad;simp only at aw;subst aw;have sQ:=(fb hi).h2.1;refine ⟨.pointer (some ⟨b,o+J * z,none⟩),?_,.cJ (us:=λk=>us (J * z+k)) no ba rfl (λk x hk=>gu _ x (by rwa [List.getElem?_drop] at hk)) (λk x hk=>?_) λk x hk=>?_⟩
  ·simp [execOp,aF,sQ,Instr.indexAt,run_underlying hu,Instr.sureAddr,asIntOf,aj,aT,add_eq]
  ·grind
  grind
 | @ES x _ t c cs j al =>
  obtain ⟨ad,us,aF,ba,aw,gu,aa,ah⟩:=(fb j).w_;obtain ⟨b,o,sp⟩:=ad;simp only at aw;subst aw;have aO:w.cell? ⟨b,o,none⟩=some (us 0):=by simpa using aa 0 kn rfl
  simp_all [execOp,Ph]
 | @ET x _ t k cs j al hk =>
  obtain ⟨ad,us,aF,ba,aw,gu,aa,ah⟩:=(fb j).w_;obtain ⟨b,o,sp⟩:=ad;simp only at aw;subst aw;have VT:∀ J v,((List.range k).map us)[J]?=some v->w.cell? ⟨b,o+J,none⟩=some v:=by
   grind
  refine ⟨.agg ((List.range k).map us).toArray,by simp [execOp,aF,Pg al (by simp) VT],.agg (Fs:=λ_=>cr) (by simp; omega) (λJ u hG=>by
   grind) (λJ y u ak hG=>?_) (λ_ _ _ _ _ h=>h.elim) (λc=>⟨λh=>h.elim,λ⟨_,_,h⟩=>h⟩)⟩
  grind
 | @B5 x _ t p k y j al ak =>
  obtain ⟨⟨u,ad,h1,af,aF⟩,bu⟩:=(fb j).ny;rw [tM] at ak;cases aA:bx g p with
  | none=>rw [aA] at ak; cases ak
  | some nd =>
   rw [aA] at ak;simp only [Option.bind_some] at ak;obtain ⟨y',nw,j9,de,cs,ew,aR⟩:=bu;rw [aA] at nw;cases nw;obtain ⟨v,cj,hv,dz,df⟩:=h.part aA (by rcases ew with rfl | rfl <;> simp);rw [h1] at hv;cases hv;have iA:cs[k]?=some y:=by rcases ew with rfl | rfl <;> simpa [ab.kids] using ak
   obtain ⟨b,gD,fo,me,ni,gu,bV,jY⟩:=dz.node ew iA;rw [fo] at af;cases af;refine ⟨gD,by simp only [execOp,aF]; simp [Ph al me],Fl 0 (by rw [tM,aA]; exact ak) (by rw [xY,h1]; exact ni) jY⟩
 | @xl x _ t p k m z n y cs j al ak ew hm =>
  obtain ⟨⟨u,ad,h1,af,aF⟩,bu⟩:=(fb j).ny;obtain ⟨v,cj,hv,dz,df⟩:=h.part ak (by rcases ew with rfl | rfl <;> simp);rw [h1] at hv;cases hv;have rP:∃ b,ad=⟨b,0,none⟩:=by
   obtain ⟨y',nw,j9,de,cs',NK,aR⟩:=bu;rw [ak] at nw;cases nw;have:cs'=cs:=by rcases ew with rfl | rfl <;> rcases NK with bD | bD <;> cases bD <;> rfl
   subst this;obtain ⟨b,gD,fo,_⟩:=dz.node NK (List.getElem?_eq_getElem aR)
   grind
  obtain ⟨b,rfl⟩:=rP;have Im:y.kids=cs:=by rcases ew with rfl | rfl <;> rfl
  have cell:∀ J,J<m->∃ gD,w.cell? ⟨b,k+J,none⟩=some gD/\gD.oneCell'=true/\∃ kK,cs[k+J]?=some kK/\R w I (dP w T g) (fC 0 (p.push (k+J)) kK) gD cr:=by
   intro J aj;have fM:cs[k+J]?=some cs[k+J]:=List.getElem?_eq_getElem (by omega);obtain ⟨dV,gD,fo,me,ni,gu,bV,jY⟩:=dz.node ew fM;rw [af] at fo;cases fo;exact ⟨gD,me,gu,_,fM,Fl 0 (by rw [tM,ak]; simp [Im]) (by rw [xY,h1]; exact ni) jY⟩
  have hex:∃ us:List Value,us.length=m/\∀ J v,us[J]?=some v->w.cell? ⟨b,k+J,none⟩=some v:=by
   refine ⟨(List.range m).map λJ=>(w.cell? ⟨b,k+J,none⟩).getD undef,by simp,?_⟩
   grind
  obtain ⟨us,n3,Wx⟩:=hex;refine ⟨.agg us.toArray,by simp only [execOp,aF]; simp [Pg al n3 (b:=b) (o:=k) Wx],.agg (Fs:=λ_=>cr) (by simp; omega) (λJ u hG=>by
   grind) (λJ iE u s0 hG=>?_) (λ_ _ _ _ _ h=>h.elim) (λc=>⟨λh=>h.elim,λ⟨_,_,h⟩=>h⟩)⟩
  grind
 | @DJ x _ s d n N p cs xs j ar aA gT al =>
  obtain ⟨e,aw,he,aP⟩:=LA al;obtain ⟨⟨lj,iK,cap,h1,af,aF⟩,_⟩:=(fb j).mN;obtain ⟨v,cj,hv,dz,df⟩:=h.part ar (by simp);rw [h1] at hv;cases hv;have ht:(cs.take n).length=n:=by
   obtain ⟨_,_,_,ai⟩:=dz.mO
   grind
  have hlen:xs.length=n:=by rw [<- ht,gT,List.length_map]
  refine ⟨_,?_,.lit rfl no⟩;obtain ⟨_,_,j0,_,_,qY,uo⟩:=dz.mO;cases j0;cases lj with
  | none =>
   have aO:n=0:=by
    grind
   have:xs=[]:=List.eq_nil_of_length_eq_zero (hlen.trans aO);subst this;have ah:=run_convert_bytes_nil (P:=P) (w:=w) s e aw he n cap d aP;simp [execOp,af,ah];rfl
  | some ad =>
   obtain ⟨b,o,sp⟩:=ad;obtain ⟨rfl,rfl⟩:=qY _ rfl;have ah:=run_convert_bytes_arg (P:=P) w s e aw he b 0 n cap xs hlen (λi hi=>by
    have H6:(cs.take n)[i]?=some (.lit (.int .u8 (xs.getD i 0))):=by
     grind
    have Vi:cs[i]?=some (.lit (.int .u8 (xs.getD i 0))):=by
     grind
    obtain ⟨dV,u,fo,me,_,_,bV,jY⟩:=dz.node (.inl rfl) Vi;simp only [addrOf,Option.some.injEq,Addr.mk.injEq,and_true] at fo;subst fo;rw [Nat.zero_add,me,jY.h2.1]) d aP
   simp_all [execOp]
 | @DK x _ s d n xs j al =>
  obtain ⟨e,aw,he,aP⟩:=LA al;have aY:=fb j;generalize nk:a.eval x=v at aY;refine ⟨_,?_,.lit rfl no⟩;generalize gT:(xs.map λb=>ab.lit (.int .u8 b))=cs at aY;cases aY with
  | ref j=>simp [ab.isRef] at j
  | @hn _ cap lj _ aG =>
   have:xs=[]:=by simpa using gT
   subst this;cases lj with
   | none =>
    have ah:=run_convert_bytes_nil (P:=P) (w:=w) s e aw he 0 cap d aP;simp [execOp,nk,ah];rfl
   | some ad =>
    have ai:(loadCells ad 0).run P w=.ok (([]:List Int).map (Value.int .u8)).toArray w:=by
     have:=run_loadCells_list (P:=P) w ad [] (λJ v aj=>by simp at aj)
     grind
    have ah:=run_bytesToString w ad 0 cap [] ai;have aa:=run_convert_bytes_string (P:=P) w s d e (some ad) 0 cap aw he aP;rw [ah] at aa;simp [execOp,nk,aa];rfl
  | @bk _ _ cap _ ad us _ aG kW ba ky ai h1 aa ah =>
   obtain ⟨b,o,sp⟩:=ad;simp only at ky;subst ky;have hlen:xs.length=n:=by rw [<- List.length_map (f:=λb=>ab.lit (.int .u8 b)),gT,ai,Nat.mul_one]
   have dK:=run_convert_bytes_arg (P:=P) w s e aw he b o n cap xs hlen (λi hi=>by
    have H6:cs[i]?=some (.lit (.int .u8 (xs.getD i 0))):=by
     grind
    have:=aa i _ H6;simp only at this;rw [this,(ah i _ H6).h2.1]) d aP
   simp_all [execOp]
 | @Hb xs gh _ f vs v j hv ah =>
  refine ⟨v,?_,.lit hv no⟩;have IJ:xs.map a.eval=vs.toArray:=by
   apply Array.toList_inj.1;apply List.ext_getElem?;intro k;have:=congrArg (·[k]?) j;simp only [List.getElem?_map] at this;rw [Array.toList_map,List.getElem?_map];cases hk:xs.toList[k]? with
   | none =>
    grind
   | some o =>
    rw [hk] at this;cases hv:vs[k]? with
    | none=>rw [hv] at this; cases this
    | some v =>
     rw [hv] at this;simp only [Option.map_some,Option.some.injEq] at this ⊢;rw [(fb this).h2.1]
  have aS:a.eval (.func f)=.func (.func f) #[] #[]:=rfl
  simp_all [execOp,resolve,Deferred.ofValue,invoke]
 | @EG x i _ t s nz J b j hi al av =>
  have vC:=(fb j).h2.1;have sQ:=(fb hi).h2.1;refine ⟨.int .u8 b.toNat,?_,.lit rfl no⟩
  simp_all [execOp,Instr.index,run_underlying,Kg,asIntOf]
 | @bin op x y _ t t2 b0 b v j ak hv ah =>
  have h1:=(fb j).h2.1;have af:=(fb ak).h2.1;refine ⟨v,?_,.lit hv no⟩
  grind [execOp,Sem.run_bind,Result.andThen_ok,Sem.run_pure]
 | @Az op x y _ t t2 dG bn v j ak hv ah =>
  have h1:=Le ((fb j).BS no);have af:=Le ((fb ak).BS no);refine ⟨v,?_,.lit hv no⟩
  grind [execOp,Sem.run_bind,Result.andThen_ok,Sem.run_pure]
 | @un op x _ t b0 v j hv ah =>
  have h1:=(fb j).h2.1;exact ⟨v,by simp [execOp,h1,ah],.lit hv no⟩
 | @conv x _ s d b0 v j hv ah =>
  have h1:=(fb j).h2.1;exact ⟨v,by simp [execOp,h1,ah],.lit hv no⟩
 | @DP x _ i cs y j ak =>
  obtain ⟨vs,aF,ai,ah⟩:=(fb j).Xq no;have hk:i<cs.length:=(List.getElem?_eq_some_iff.1 ak).1;have hv:vs[i]?=some vs[i]:=Array.getElem?_eq_getElem (ai ▸ hk);exact ⟨_,by simp [execOp,aF,Instr.extract,hv],ah _ kn _ ak hv⟩
 | @zR x lo hi _ t e z n l bD cs j ai vo al sR aA =>
  obtain ⟨hu,he,aT⟩:=qC (w:=w) al;obtain ⟨lj,cap,aF,kW,hlen,hm⟩:=(fb j).zc;have av:=Ft (P:=P) (w:=w) (len:=n) (cap:=cap) (ai.sound h aQ) (vo.sound h aQ) true sR (by omega);have h0:(execOp a.eval { dst:=dst,op:=.slice t x lo hi none,type:=ty,pos:=pos,after:=after,guard:=guard }).run P w=.ok (.value (sliced lj l bD cap z)) w:=by
   simp_all [execOp,Instr.sliceAt,run_underlying,Instr.slice,sliced]
  refine ⟨_,h0,?_⟩;by_cases aO:bD - l=0
  ·rw [aO];simp only [Nat.zero_mul,List.take_zero,sliced,aO];exact .hn no
  ·obtain ⟨ad,us,rfl,ba,aw,gu,aa,ah⟩:=hm (.inr (by omega));obtain ⟨b,o,sp⟩:=ad;simp only at aw;subst aw;have ht:cap≠l:=by omega
   simp only [sliced,ht,if_false,Option.map_some,add_eq];have Bl:((cs.drop (l * z)).take ((bD - l) * z)).length=(bD - l) * z:=by
    rw [List.length_take,List.length_drop,hlen];have:(bD - l) * z+l * z<=n * z:=by rw [<- Nat.add_mul]; exact Nat.mul_le_mul_right _ (by omega)
    omega
   refine .bk (us:=λk=>us (l * z+k)) no (by omega) ba rfl Bl (λk x hk=>gu (l * z+k) x (by
    grind)) (λk x hk=>?_) λk x hk=>?_
   ·grind
   grind
 | @Kd x lo hi _ t e z n bD p j ai vo al aA cY =>
  obtain ⟨hu,he,aT⟩:=qC (w:=w) al;obtain ⟨⟨lj,N,cap,h1,af,aF⟩,bu⟩:=(fb j).mN;have kW:N<=cap:=by
   rcases bu with ⟨iK,cs,ct,dJ⟩ | ⟨aO,q,gL,m,new,ct,dJ⟩
   ·obtain ⟨v,cj,hv,dz,_⟩:=h.part ct (by simp);rw [h1] at hv;obtain ⟨_,rH,M8,hle,_⟩:=dz.mO
    grind
   ·obtain ⟨v,hv,dz⟩:=h.rel _ _ ct;simp only [dS,hv,aO,walk,Option.some.injEq] at h1;subst h1;obtain ⟨bv,b8,bZ,us,news,dz⟩:=dz.vJ;obtain ⟨_,nq⟩:=dz.nq
    grind
  have av:=Ft (P:=P) (w:=w) (len:=n) (cap:=cap) (ai.sound h aQ) (vo.sound h aQ) true (Nat.zero_le _) (by omega);refine ⟨.slice lj bD cap,?_,.ref rfl ⟨⟨lj,N,cap,h1,rfl,by omega⟩,cY⟩ no⟩
  simp_all [execOp,Instr.sliceAt,run_underlying,Instr.slice,Addr.add]
 | @FB x lo hi _ t e z n l bD p j ai vo al sR aA cY =>
  obtain ⟨hu,he,aT⟩:=qC (w:=w) al;obtain ⟨⟨lj,N,cap,h1,af,aF⟩,bu⟩:=(fb j).mN;obtain ⟨iK,cs,ct,dJ⟩:=cY;obtain ⟨v,cj,hv,dz,_⟩:=h.part ct (by simp);rw [h1] at hv;obtain ⟨a2,rH,M8,hle,hlen,qY,uo⟩:=dz.mO;rw [M8] at hv;cases hv;have av:=Ft (P:=P) (w:=w) (len:=n) (cap:=cap) (ai.sound h aQ) (vo.sound h aQ) true sR (by omega);refine ⟨sliced lj l bD cap z,?_,.ref rfl ⟨⟨lj,_,cap,_,_,h1,rfl,by omega,by omega,λuk=>?_⟩,_,cs,ct,dJ⟩ no⟩
  ·simp_all [execOp,Instr.sliceAt,run_underlying,Instr.slice,sliced]
  ·have aw:=uo (by omega);cases lj with
   | none=>simp at aw
   | some ad =>
    obtain ⟨aO,mh⟩:=qY ad rfl;obtain ⟨b,o,sp⟩:=ad
    grind [add_eq]
 | @zS x lo hi _ t l bD s j ai vo al sR aA =>
  have vC:=(fb j).h2.1;have av:=Ft (P:=P) (w:=w) (len:=s.size) (cap:=s.size) (ai.sound h aQ) (vo.sound h aQ) false sR aA;exact ⟨.string (s.extract l bD),by simp [execOp,vC,Instr.sliceAt,run_underlying (Kg al),Instr.slice,av],.lit rfl no⟩
 | @B2 x _ t e z br n cs j al =>
  obtain ⟨hu,he,aT⟩:=qC (w:=w) al;obtain ⟨lj,cap,aF,_⟩:=(fb j).zc;exact ⟨_,by simp [execOp,resolve,invoke,builtin,aF,Builtin.len_,run_underlying hu,goInt],.lit rfl no⟩
 | @B1 x _ t e z br n p j al =>
  obtain ⟨hu,he,aT⟩:=qC (w:=w) al;obtain ⟨⟨lj,N,cap,h1,af,aF⟩,bu⟩:=(fb j).mN;exact ⟨_,by simp [execOp,resolve,invoke,builtin,af,Builtin.len_,run_underlying hu,goInt],.lit rfl no⟩
 | @Jl x _ t e z br lo n p j al =>
  obtain ⟨hu,he,aT⟩:=qC (w:=w) al;obtain ⟨⟨lj,N,cap,b0,mA,h1,af,_,aF,ct⟩,bu⟩:=(fb j).xa;exact ⟨_,by simp [execOp,resolve,invoke,builtin,af,Builtin.len_,run_underlying hu,goInt],.lit rfl no⟩
 | @Jk x _ t e br j al =>
  obtain ⟨hu,he,aT⟩:=qC (w:=w) al;have af:=(fb j).r2;exact ⟨_,by simp [execOp,resolve,invoke,builtin,af,Builtin.len_,run_underlying hu,goInt],.lit rfl no⟩
 | @lits b xs gh _ vs v j hv ah =>
  have oH:xs.map a.eval=vs.toArray:=by
   grind [Array.toList_map,N7]
  refine ⟨v,?_,.lit hv no⟩
  grind [execOp,resolve,invoke]
 | @Jn x y _ t p q ok Y _ q3 V j ar ak c5 aY ah =>
  obtain ⟨⟨b,av,hv⟩,_⟩:=(fb j).Xp;obtain ⟨eg,cj,iS,dz,_⟩:=h.part ar (by simp);rw [av] at iS;cases iS;obtain ⟨dV,es,clock,e,aV,a6,_⟩:=dz.Xo;cases e;refine ⟨V,?_,aY _ _ _⟩;simp [execOp,hv,c5 _ _ _ _ (fb ak),ah w _ _ _ aV a6]
 | @B4 x y _ t q ok Y _ q3 V j ak c5 aY ah =>
  obtain ⟨b,es,clock,hv,aV,a6⟩:=(fb j).Xn;refine ⟨V,?_,aY _ _ _⟩;simp [execOp,hv,c5 _ _ _ _ (fb ak),ah w _ _ _ aV a6]
end
end Go.Own
namespace Go.Own
open Go
set_option linter.unusedSectionVars false
variable [cE]
structure Fr (w w':World) (U:a_):Prop where
 os:w'.os=w.os
 tape:w'.tape=w.tape
 output:w'.output=w.output
 size:w.heap.size<=w'.heap.size
 block:∀ b,b<w.heap.size->¬ U b->w'.heap[b]?=w.heap[b]?
 dN:∀ a,a.block<w.heap.size->¬ U a.block->w'.frozen? a=w.frozen? a
 wG:w.drawn<=w'.drawn
theorem Fr.refl (w:World) (U:a_):Fr w w U:=⟨rfl,rfl,rfl,Nat.le_refl _,λ_ _ _=>rfl,λ_ _ _=>rfl,Nat.le_refl _⟩
theorem Fr.mono {w w':World}{U U':a_}(h:Fr w w' U) (fw:∀ b,b<w.heap.size->U b->U' b):Fr w w' U':=⟨h.os,h.tape,h.output,h.size,λb av aA=>h.block b av λhu=>aA (fw b av hu),λa aQ aA=>h.dN a aQ λhu=>aA (fw _ aQ hu),h.wG⟩
theorem Fr.trans {w gm fi:World}{U yw:a_}(h:Fr w gm U) (h1:Fr gm fi yw) (fw:∀ b,b<w.heap.size->yw b->U b):Fr w fi U :=
 ⟨h1.os.trans h.os,h1.tape.trans h.tape,h1.output.trans h.output,Nat.le_trans h.size h1.size,λb av aA=>(h1.block b (Nat.lt_of_lt_of_le av h.size) λhu=>aA (fw b av hu)).trans (h.block b av aA),λa aQ aA=>(h1.dN a (Nat.lt_of_lt_of_le aQ h.size) λhu=>aA (fw _ aQ hu)).trans (h.dN a aQ aA),Nat.le_trans h.wG h1.wG⟩
theorem alloc_old (w:World) (o:Obj) (k:Nat) (h:k<w.heap.size):(w.alloc o).heap[k]?=w.heap[k]?:=by
 show (w.heap.push o)[k]?=_;rw [Array.getElem?_push,if_neg (by omega)]
theorem rA (w:World) (o:Obj):(w.alloc o).heap[w.heap.size]?=some o:=by
 show (w.heap.push o)[w.heap.size]?=_;simp
theorem AW (w:World) (arr:Array Value) (t:TypeId) (a:Addr):(w.alloc (.cells arr t (0,0))).frozen? a=w.frozen? a:=by
 unfold World.frozen?;by_cases h:a.block=w.heap.size
 ·rw [h,rA];have:w.heap[w.heap.size]?=none:=by simp
  rw [this];simp
 ·by_cases af:a.block<w.heap.size
  ·rw [alloc_old w _ _ af]
  ·have aF:(w.alloc (.cells arr t (0,0))).heap[a.block]?=none:=by
    show (w.heap.push _)[a.block]?=_;rw [Array.getElem?_eq_none];simp; omega
   have bu:w.heap[a.block]?=none:=Array.getElem?_eq_none (by omega);rw [aF,bu]
theorem DX (w:World) (g:Nat) (cs:Array Value) (a:Addr):(w.setRow g cs).frozen? a=w.frozen? a:=by
 unfold World.frozen? World.setRow;simp only [Array.getElem?_modify];by_cases h:g=a.block
 ·subst h;rw [if_pos rfl];cases bD:w.heap[a.block]? with
  | none=>rfl
  | some o=>cases o <;> rfl
 ·rw [if_neg h]
theorem TK (w:World) (es:Array MapEntry) (n:Nat) (a:Addr):(w.alloc (.map es n)).frozen? a=w.frozen? a:=by
 unfold World.frozen?;by_cases h:a.block=w.heap.size
 ·rw [h,rA];have:w.heap[w.heap.size]?=none:=by simp
  rw [this]
 ·by_cases af:a.block<w.heap.size
  ·rw [alloc_old w _ _ af]
  ·have aF:(w.alloc (.map es n)).heap[a.block]?=none:=by
    show (w.heap.push _)[a.block]?=_;rw [Array.getElem?_eq_none];simp; omega
   have bu:w.heap[a.block]?=none:=Array.getElem?_eq_none (by omega);rw [aF,bu]
def OU (o:Obj):Prop:=(∃ arr e,o=.cells arr e (0,0))\/∃ es n,o=.map es n
theorem Fr.alloc (w:World) (o:Obj) (U:a_) (aV:OU o):Fr w (w.alloc o) U:=by
 refine ⟨rfl,rfl,rfl,by simp,λb av _=>alloc_old w o b av,λa _ _=>?_,Nat.le_refl _⟩;rcases aV with ⟨arr,e,rfl⟩ | ⟨es,n,rfl⟩
 ·exact AW w arr e a
 ·exact TK w es n a
theorem R.YH {w:World}{I:a_}{ρ:ab->Value->Prop}{x:ab}{v:Value}{F:a_}(h:R w I ρ x v F):∀ c,F c->∃ o,w.heap[c]?=some o/\OU o:=by
 induction h with
 | eY aV _ aG =>
  intro c aa;have aa:=(aG c).1 aa;obtain ⟨_,bD⟩:=aV;rcases bD with ⟨rfl,_⟩ | ⟨b,cap,cur,rfl,_,j2,_⟩
  ·simp [Value.ownBlock] at aa
  ·simp only [Value.ownBlock,Option.some.injEq] at aa;subst aa;exact ⟨_,j2,.inl ⟨_,_,rfl⟩⟩
 | mp aV _ aG =>
  intro c aa;cases (aG c).1 aa;exact ⟨_,aV,.inr ⟨_,_,rfl⟩⟩
 | lit _ aG | aU aG | dead aG | l1 aG | ref _ _ aG | hn aG | bk aG | cJ aG | di aG | imp aG=>exact λc aa=>absurd aa (aG c)
 | own aV ai h1 ah aP av aG aL =>
  intro c aa;rcases (aG c).1 aa with h | ⟨k,hk,h⟩
  ·obtain ⟨_,bD⟩:=aV;rcases bD with ⟨rfl,_⟩ | ⟨b,cap,cur,rfl,_,j2,_⟩
   ·simp [Value.ownBlock] at h
   ·simp only [Value.ownBlock,Option.some.injEq] at h;subst h;exact ⟨_,j2,.inl ⟨_,_,rfl⟩⟩
  ·exact aL k _ _ (List.getElem?_eq_getElem hk) (List.getElem?_eq_getElem (ai ▸ hk)) c h
 | obj aV ai h1 ah aP av aG aw aL =>
  intro c aa;rcases (aG c).1 aa with rfl | ⟨k,hk,h⟩
  ·exact ⟨_,aV,.inl ⟨_,_,rfl⟩⟩
  ·exact aL k _ _ (List.getElem?_eq_getElem hk) (Array.getElem?_eq_getElem (ai ▸ hk)) c h
 | agg ai h1 ah aP aG aL =>
  intro c aa;obtain ⟨k,hk,h⟩:=(aG c).1 aa;exact aL k _ _ (List.getElem?_eq_getElem hk) (Array.getElem?_eq_getElem (ai ▸ hk)) c h
 | bJ ai ah aP aG aL =>
  intro c aa;obtain ⟨k,hk,h⟩:=(aG c).1 aa;exact aL k _ _ (List.getElem?_eq_getElem hk) (Array.getElem?_eq_getElem (ai ▸ hk)) c h
theorem Fr.drew {w w':World}{U:a_}(h:Fr w w' U):Fr w w'.drew U:=⟨h.os,h.tape,h.output,h.size,h.block,h.dN,Nat.le_succ_of_le h.wG⟩
section
variable {w:World}{I:a_}{T:Array Value}{g:aI}{Fs:Nat->a_}
theorem cB.jJ (h:cB w I T g Fs):∀ t c,Fs t c->c<w.heap.size:=by
 intro t c aa;cases j:g t with
 | none=>exact absurd aa (h.kE t j c)
 | some y=>obtain ⟨u,_,dz⟩:=h.rel t y j; exact dz.lt c aa
theorem cB.world (h:cB w I T g Fs) {w':World}(aG:∀ t c,Fs t c->w'.heap[c]?=w.heap[c]?) (ba:∀ c,I c->w'.heap[c]?=w.heap[c]?) (eF:w.heap.size<=w'.heap.size):cB w' I T g Fs :=
  ⟨λt x j=>by
    obtain ⟨v,hv,aY⟩:=h.rel t x j;exact ⟨v,hv,h.wL (λ_ _=>rfl) aG ba (λ_ h=>h) (λ_ _ h=>h) aY λc aa=>aG t c aa⟩,
   h.kE,h.eB,h.bk,λc aa=>Nat.lt_of_lt_of_le (h.lt c aa) eF,h.ra,cE.keep h.gl ba λ_ h=>h⟩
theorem cB.alloc (h:cB w I T g Fs) (o:Obj):cB (w.alloc o) I T g Fs :=
 h.world (λt c aa=>alloc_old w o c (h.jJ t c aa)) (λc aa=>alloc_old w o c (h.lt c aa)) (by simp)
theorem cB.uO (h:cB w I T g Fs) {d:Nat}{x:ab}{v:Value}{F:a_}(aP:g d=none) (Vp:d<T.size)
  (aY:jq w I (dP w T g) x v F) (rR:∀ t c,F c->¬ Fs t c) (VY:∀ c,F c->¬ I c)
  (ar:∀ z p n m new,x=.bC z p n m new->∀ t br cf bd cO,g t≠some (.bC br p cf bd cO)) :
  cB w I (T.setIfInBounds d v) (cH g d x) (uW Fs d F):=by
 have cX:∀ t,g t≠none->(T.setIfInBounds d v)[t]?=T[t]?:=by
  intro t al;rw [Array.getElem?_setIfInBounds_ne];rintro rfl; exact al aP
 refine ⟨?_,?_,?_,?_,h.lt,?_,h.gl⟩
 ·intro t y ak;unfold cH at ak
  split at ak
  ·rename_i vD;subst vD;cases ak;exact ⟨v,by simp [Vp],by simpa [uW] using h.wL cX (λ_ _ _=>rfl) (λ_ _=>rfl) (λ_ h=>h) (Qe aP) aY λ_ _=>rfl⟩
  ·rename_i vD;obtain ⟨u,hu,dz⟩:=h.rel t y ak;exact ⟨u,by rw [cX t (by rw [ak]; simp)]; exact hu,by simpa [uW,vD] using h.wL cX (λ_ _ _=>rfl) (λ_ _=>rfl) (λ_ h=>h) (Qe aP) dz λ_ _=>rfl⟩
 ·intro t al c;unfold cH at al
  split at al
  ·cases al
  ·rename_i vD; simpa [uW,vD] using h.kE t al c
 ·intro t t' c aa e7;by_cases h1:t=d <;> by_cases af:t'=d <;> simp [uW,h1,af] at aa e7
  ·rw [h1,af]
  ·exact absurd e7 (rR t' c aa)
  ·exact absurd aa (rR t c e7)
  ·exact h.eB t t' c aa e7
 ·intro t c aa hi;by_cases h1:t=d <;> simp [uW,h1] at aa
  ·exact VY c aa hi
  ·exact h.bk t c aa hi
 ·intro t t' z p n m new br cf bd cO h1 af;unfold cH at h1 af
  split at h1 <;> split at af
  ·rename_i a b; rw [a,b]
  ·cases h1; exact absurd af (ar z p n m new rfl t' br cf bd cO)
  ·cases af; exact absurd h1 (ar br p cf bd cO rfl t z n m new)
  ·exact h.ra _ _ _ _ _ _ _ _ _ _ _ h1 af
end
def jc:ab->Option (List ab)
 | .agg cs=>some cs
 | .lit v=>some [.lit v]
 | .aU=>some [.aU]
 | .bk z n cs=>some [.bk z n cs]
 | .cJ cs=>some [.cJ cs]
 | .ptr p k=>some [.ptr p k]
 | .bl z p n=>some [.bl z p n]
 | .sub z p l n=>some [.sub z p l n]
 | .di f a b=>some [.di f a b]
 | _=>none
theorem R2 {y:ab}{cs:List ab}(h:sw y) (aa:jc y=some cs):qN cs:=by
 have one:∀ {x:ab},(∀ J,x≠.self J)->qN [x]:=λj k J e=>by
  cases k with
  | zero=>simp only [List.getElem?_cons_zero,Option.some.injEq] at e; exact j J e
  | succ k=>simp at e
 cases y <;> simp only [Go.Own.jc,Option.some.injEq,reduceCtorEq] at aa <;> subst aa
 all_goals first | exact h _ rfl | exact one (by simp)
theorem R.jc {w:World}{I:a_}{ρ:ab->Value->Prop}{y:ab}{v:Value}{F:a_}(h:R w I ρ y v F) (aG:∀ c,¬ F c) (lz:∀ x v,x.isRef=true->ρ x v->v.oneCell'=true) {cs:List ab}(aa:jc y=some cs) :
  cs.length=v.cells.size/\(∀ (k:Nat) (u:Value),v.cells[k]?=some u->u.oneCell'=true)/\(∀ (k:Nat) (x:ab) (u:Value),cs[k]?=some x->v.cells[k]?=some u->R w I ρ x u cr):=by
 have one:∀ {y:ab},R w I ρ y v F->v.oneCell'=true->[y].length=v.cells.size/\(∀ (k:Nat) (u:Value),v.cells[k]?=some u->u.oneCell'=true)/\(∀ (k:Nat) (x:ab) (u:Value),[y][k]?=some x->v.cells[k]?=some u->R w I ρ x u cr):=by
  intro y h h1;have D7:v.cells=#[v]:=by cases v <;> first | rfl | (simp [Value.oneCell'] at h1)
  refine ⟨by simp [D7],λk u hu=>?_,λk x u j hu=>?_⟩
  ·rw [D7] at hu;cases k with
   | zero=>simp at hu; subst hu; exact h1
   | succ k=>simp at hu
  rw [D7] at hu;cases k with
  | zero=>simp at j hu; subst j hu; exact h.empty aG
  | succ k=>simp at j
 cases y <;> simp only [Go.Own.jc,Option.some.injEq,reduceCtorEq] at aa
 case agg l =>
  subst aa;obtain ⟨vs,rfl,ai,h1,ah⟩:=h.BS aG;exact ⟨ai,h1,ah⟩
 case lit a=>subst aa; exact one h (by obtain ⟨rfl,h1⟩:=h.h2; exact h1)
 case aU=>subst aa; exact one h (by rw [h.r2]; rfl)
 case bk z n l=>subst aa; exact one h (by obtain ⟨a,cap,rfl,_⟩:=h.zc; rfl)
 case cJ l=>subst aa; exact one h (by obtain ⟨ad,us,rfl,_⟩:=h.w_; rfl)
 case ptr p k=>subst aa; exact one h (lz _ _ rfl h.ny)
 case bl z p n=>subst aa; exact one h (lz _ _ rfl h.mN)
 case sub z p l n=>subst aa; exact one h (lz _ _ rfl h.xa)
 case di f a b =>
  subst aa;refine one h ?_;cases h with
  | di=>rfl
  | ref j=>simp [ab.isRef] at j
theorem dP.E9 {w:World}{T:Array Value}{g:aI}{x:ab}{v:Value}(j:x.isRef=true) (h:dP w T g x v):v.oneCell'=true:=by
 obtain ⟨h,_⟩:=h;cases x <;> simp [ab.isRef] at j
 case ptr p k=>obtain ⟨_,_,_,_,rfl⟩:=h; rfl
 case bl z p n=>obtain ⟨_,_,_,_,rfl,_⟩:=h; rfl
 case sub z p lo n=>obtain ⟨_,_,_,_,_,_,rfl,_⟩:=h; rfl
 case hf p=>obtain ⟨_,_,rfl⟩:=h; rfl
def l8:List ab->Option (List ab)
 | []=>some []
 | y::ys =>
  match jc y,l8 ys with
  | some a,some b=>some (a++b)
  | _,_=>none
def fB (g:aI):List Operand->Option (List ab)
 | []=>some []
 | x::xs =>
  match bm g x,fB g xs with
  | some y,some ys=>some (y::ys)
  | _,_=>none
theorem OD {g:aI}:∀ {l:List Operand}{xs:List ab},fB g l=some xs->qN xs
 | [],xs,h,k,J=>by simp only [fB,Option.some.injEq] at h; subst h; simp
 | o::l,xs,h,k,J=>by
  simp only [fB] at h
  split at h
  ·rename_i y ys h1 af;cases h;cases k with
   | zero=>intro e; simp only [List.getElem?_cons_zero,Option.some.injEq] at e; exact X_ h1 J e
   | succ k=>exact OD af k J
  ·cases h
def vc (place:Nat->Option (Nat × Nat)) (cells:List ab):List (Nat × List ab)->Option (List ab)
 | []=>some cells
 | (i,c)::rest =>
  match place i with
  | none=>none
  | some (off,size)=>if c.length=size/\off+c.length<=cells.length then vc place (cells.take off++c++cells.drop (off+c.length)) rest else none
def q7 (g:aI):List (Nat × Operand)->Option (List (Nat × List ab))
 | []=>some []
 | (i,x)::xs =>
  match bm g x,q7 g xs with
  | some y,some ys=>(jc y).map λc=>(i,c)::ys
  | _,_=>none
def kj (P:Program) (t:TypeId) (pl:List (Nat × Nat)):Bool :=
 match P.underlying t with
 | some (.struct fs)=>fs.toList.map (λf=>(f.offset,(P.info? f.type).map (·.size))) == pl.map λ(a,b)=>(a,some b)
 | _=>false
inductive o' (P:Program) (g:aI):Op->TypeId->ab->Prop
 | box {e ty:TypeId}{x:Operand}{y:ab}{cs:List ab}(j:bm g x=some y) (aa:jc y=some cs):o' P g (.box e x) ty (.obj cs)
 | Dx {e ty:TypeId}{t:Nat}{z:Value}(aT:(P.info? e).bind (·.zero)=some z) (aa:z.cells=#[.pointer none,.slice none 0 0]):o' P g (.alloc e) ty (.obj [.self (0,e),.eY t []])
 | alloc {e ty:TypeId}{z:Value}(aT:(P.info? e).bind (·.zero)=some z) (h1:z.cells.all Value.oneCell'=true):o' P g (.alloc e) ty (.obj (z.cells.toList.map j1))
 | buildSlice {t e ty:TypeId}{z:Nat}{parts:Array (Nat × Operand)}{xs:List Operand}{ys:List ab}{cs:List ab}(al:fa P t e z=true)
   (ar:parts.toList=xs.mapIdx (λi x=>(i,x))) (j:fB g xs=some ys) (aT:∀ y∈ys,∃ c,jc y=some c/\c.length=z) (aa:l8 ys=some cs) (av:xs.length * z<=16777216) (aA:xs.length<=16777216) (hzero:xs.length * z=0\/∃ v,(P.info? e).bind (·.zero)=some v/\v.cells.size=z) :
   o' P g (.buildSlice t xs.length parts) ty (.own z xs.length cs)
 | makeSlice {t e ty:TypeId}{x y:Operand}{z n b:Nat}{vM qp:IntKind}{c':Value}(al:fa P t e z=true) (j:bm g x=some (.lit (.int vM (n:Int)))) (ak:bm g y=some (.lit (.int qp (n:Int))))
   (hzero:(P.info? e).bind (·.zero)=some c') (h1:c'.cells.all Value.oneCell'=true) (oR:c'.cells.size=z) (av:(P.info? e).map (·.bytes)=some b) (aA:n * b<=140737488355328) (oN:n<=4611686018427387904) {ss:List ab}(uz:ss.length=c'.cells.size)
   (ED:∀ (k:Nat) (u:Value) (x:ab),c'.cells[k]?=some u->ss[k]?=some x->x=j1 u\/(j1 u=.aU/\∃ br,x=.bk br 0 [])) :
   o' P g (.makeSlice t x y) ty (.own z n (List.replicate n ss).flatten)
 | makeMap {t ty:TypeId}{q:Array MapEntry->Nat->Prop}(a6:q #[] 0):o' P g (.makeMap t none) ty (.mp q)
inductive u4 (P:Program) (g:aI):Op->TypeId->ab->Prop
 | build {t ty:TypeId}{parts:Array (Nat × Operand)}{pl:List (Nat × Nat)}{c':Value}{ps:List (Nat × List ab)}{cs:List ab}(al:kj P t pl=true) (aT:(P.info? t).bind (·.zero)=some c') (h1:c'.cells.all Value.oneCell'=true)
   (ar:q7 g parts.toList=some ps) (aa:vc (λi=>pl[i]?) (c'.cells.toList.map j1) ps=some cs):u4 P g (.build t parts) ty (.agg cs)
 | makeFunc {fn:Fn}{first caps:Array Operand}{ty:TypeId}{a b:List ab}(aQ:fB g first.toList=some a) (av:fB g caps.toList=some b):u4 P g (.makeFunc fn first caps) ty (.di fn a b)
section
variable {P:Program}{w:World}{I:a_}{T:Array Value}{g:aI}{Fs:Nat->a_}
theorem zp (h:cB w I T g Fs) {a:Act}(aQ:a.tmps=T):∀ {xs:List Operand}{ys:List ab},fB g xs=some ys->ys.length=xs.length/\∀ (k:Nat) (y:ab) (x:Operand),ys[k]?=some y->xs[k]?=some x->R w I (dP w T g) y (a.eval x) cr
 | [],ys,ak=>by simp only [fB,Option.some.injEq] at ak; subst ak; simp
 | x::xs,ys,ak=>by
  simp only [fB] at ak;cases j:bm g x with
  | none=>simp [j] at ak
  | some y =>
   cases q1:fB g xs with
   | none=>simp [j,q1] at ak
   | some C' =>
    simp only [j,q1,Option.some.injEq] at ak;subst ak;obtain ⟨h1,af⟩:=zp h aQ q1;refine ⟨by simp [h1],λk y' x' nw fM=>?_⟩;cases k with
    | zero=>simp at nw fM; subst nw fM; exact k7 h j aQ
    | succ k=>simp at nw fM; exact af k y' x' nw fM
theorem R.alloc (h:cB w I T g Fs) (o:Obj) {x:ab}{v:Value}{F:a_}(aY:R w I (dP w T g) x v F) (aG:∀ c,F c->c<w.heap.size):R (w.alloc o) I (dP (w.alloc o) T g) x v F :=
 h.frame (λ_ _=>rfl) (λt c aa=>alloc_old w o c (h.jJ t c aa)) (λc aa=>alloc_old w o c (h.lt c aa)) (λ_ h=>h) (λ_ _ h=>h) aY λc aa=>alloc_old w o c (aG c aa)
theorem Ot {ρ:ab->Value->Prop}{vs:List Value}:∀ (k:Nat) (x:ab) (u:Value),(vs.map j1)[k]?=some x->vs[k]?=some u->R w I ρ x u cr:=by
 intro k x u j hu;rw [List.getElem?_map,hu] at j;simp only [Option.map_some,Option.some.injEq] at j;subst j;exact Cg u
theorem R.On {ρ:ab->Value->Prop}{cs:List ab}{b:Nat}{e:TypeId}{arr:Array Value}(aV:w.heap[b]?=some (.cells arr e (0,0))) (ai:cs.length=arr.size) (h1:∀ (k:Nat) (u:Value),arr[k]?=some u->u.oneCell'=true)
  (ah:∀ (k:Nat) (x:ab) (u:Value),cs[k]?=some x->arr[k]?=some u->R w I ρ x u cr) (lP:qN cs):R w I ρ (.obj cs) (.pointer (some ⟨b,0,none⟩)) (λc=>c=b) :=
 .obj (Fs:=λ_=>cr) aV ai h1 ah (λ_ _ _ _ _ h=>h.elim) (λ_ _ h=>h) (λ_=>⟨λh=>.inl h,λh=>h.elim id λ⟨_,_,h⟩=>h.elim⟩) λk J _ h=>absurd h (lP k J)
theorem R.OH {ρ:ab->Value->Prop}{z n:Nat}{cs:List ab}{b cap:Nat}{e:TypeId}{arr:Array Value}(aV:w.heap[b]?=some (.cells arr e (0,0))) (aA:n<=cap) (aa:cap<=maxLen) (aw:arr.size=cap * z) (ai:cs.length=n * z) (h1:∀ (k:Nat) (u:Value),arr[k]?=some u->u.oneCell'=true)
  (ah:∀ (k:Nat) (x:ab) (u:Value),cs[k]?=some x->arr[k]?=some u->R w I ρ x u cr):R w I ρ (.own z n cs) (.slice (some ⟨b,0,none⟩) n cap) (λc=>c=b):=by
 have hle:n * z<=arr.size:=by rw [aw]; exact Nat.mul_le_mul_right _ aA
 refine .own (e:=e) (us:=arr.toList.take (n * z)) (Fs:=λ_=>cr) ⟨by simp; omega,.inr ⟨b,cap,arr,rfl,Nat.zero_le _,aV,aA,aa,aw,rfl⟩⟩ (by simp; omega) (λk u hu=>?_) ?_ (λ_ _ _ _ _ h=>h.elim) (λ_ _ _ h=>h.elim) (λc=>?_)
 ·rw [List.getElem?_take] at hu
  split at hu
  ·exact h1 k u (by simpa using hu)
  ·cases hu
 ·intro k x u j hu;rw [List.getElem?_take] at hu
  split at hu
  ·exact ah k x u j (by simpa using hu)
  ·cases hu
 ·simp only [Value.ownBlock,Option.some.injEq];exact ⟨λh=>.inl h.symm,λh=>h.elim Eq.symm λ⟨_,_,h⟩=>h.elim⟩
theorem Lw {ρ:ab->Value->Prop}(lz:∀ x v,x.isRef=true->ρ x v->v.oneCell'=true):∀ {ys:List ab}{vs:List Value}{cs:List ab},ys.length=vs.length->(∀ (k:Nat) (y:ab) (v:Value),ys[k]?=some y->vs[k]?=some v->R w I ρ y v cr)->l8 ys=some cs ->
  cs.length=(vs.flatMap λv=>v.cells.toList).length/\(∀ (k:Nat) (u:Value),(vs.flatMap λv=>v.cells.toList)[k]?=some u->u.oneCell'=true)/\∀ (k:Nat) (x:ab) (u:Value),cs[k]?=some x->(vs.flatMap λv=>v.cells.toList)[k]?=some u->R w I ρ x u cr
 | [],vs,cs,ai,ah,aa=>by
  cases vs with
  | nil=>simp only [l8,Option.some.injEq] at aa; subst aa; simp
  | cons=>simp at ai
 | y::ys,vs,cs,ai,ah,aa=>by
  cases vs with
  | nil=>simp at ai
  | cons v vs =>
   simp only [l8] at aa;cases aQ:jc y with
   | none=>simp [aQ] at aa
   | some a =>
    cases av:l8 ys with
    | none=>simp [aQ,av] at aa
    | some b =>
     simp only [aQ,av,Option.some.injEq] at aa;subst aa;obtain ⟨h1,Hl,af⟩:=(ah 0 y v rfl rfl).jc (λ_ h=>h) lz aQ;obtain ⟨aF,TQ,bu⟩:=Lw lz (by simpa using ai) (λk y' eg ak hv=>ah (k+1) y' eg ak hv) av;refine ⟨by simp [h1,aF],λk u hu=>?_,λk x u j hu=>?_⟩
     ·simp only [List.flatMap_cons] at hu;by_cases hk:k<v.cells.toList.length
      ·rw [List.getElem?_append_left hk] at hu;exact Hl k u (by simpa using hu)
      ·rw [List.getElem?_append_right (by omega)] at hu;exact TQ _ u hu
     simp only [List.flatMap_cons] at hu;by_cases hk:k<a.length
     ·rw [List.getElem?_append_left hk] at j;rw [List.getElem?_append_left (by simp; omega)] at hu;exact af k x u j (by simpa using hu)
     ·rw [List.getElem?_append_right (by omega)] at j;rw [List.getElem?_append_right (by simp; omega)] at hu;refine bu (k - a.length) x u j ?_;rw [<- hu]; simp [h1]
end
end Go.Own
namespace Go.Own
open Go
set_option linter.unusedSectionVars false
variable [cE]
theorem Mm (off:Nat):∀ (l:List Value) (s:Nat) (arr:Array Value),off+s+l.length<=arr.size ->
  ((l.zipIdx s).foldl (λcs (x:Value × Nat)=>cs.setIfInBounds (off+x.2) x.1) arr).toList=arr.toList.take (off+s)++l++arr.toList.drop (off+s+l.length)
 | [],s,arr,h=>by simp
 | v::l,s,arr,h=>by
  simp only [List.length_cons] at h;rw [List.zipIdx_cons,List.foldl_cons,Mm off l (s+1) _ (by simp; omega)];simp only [Array.toList_setIfInBounds,List.length_cons];have h1:(arr.toList.set (off+s) v).take (off+(s+1))=arr.toList.take (off+s)++[v]:=by
   rw [show off+(s+1)=off+s+1 by omega,List.take_succ_eq_append_getElem (by simp; omega)];rw [List.take_set_of_le (Nat.le_refl _)];simp
  have af:(arr.toList.set (off+s) v).drop (off+(s+1)+l.length)=arr.toList.drop (off+s+(l.length+1)):=by
   rw [List.drop_set_of_lt (by omega)];congr 1; omega
  rw [h1,af];simp
theorem Mk {place:Nat->Option (Nat × Nat)}{i off size:Nat}(ar:place i=some (off,size)) {arr:Array Value}{v:Value}(h1:v.cells.size=size) (af:off+v.cells.size<=arr.size) (rest:List (Nat × Value)) :
  ∃ jb:Array Value,Instr.fill place arr ((i,v)::rest)=Instr.fill place jb rest/\jb.toList=arr.toList.take off++v.cells.toList++arr.toList.drop (off+v.cells.size):=by
 refine ⟨_,by simp only [Instr.fill,ar]; rw [if_neg (by simp; omega)],?_⟩;have:=Mm off v.cells.toList 0 arr (by simpa using af)
 grind [Array.toList_zipIdx]
theorem Mj (z:Nat):∀ (vs:List Value) (k:Nat) (arr:Array Value) (done rest:List Value),(∀ v∈vs,v.cells.size=z)->arr.toList=done++rest->done.length=k * z->rest.length=vs.length * z ->
  ∃ jb:Array Value,Instr.fill (λi=>some (i * z,z)) arr (vs.mapIdx λi v=>(k+i,v))=some jb/\jb.toList=done++vs.flatMap λv=>v.cells.toList
 | [],k,arr,done,rest,_,h1,af,aF=>by
  have:rest=[]:=List.eq_nil_of_length_eq_zero (by simpa using aF);subst this;exact ⟨arr,rfl,by simpa using h1⟩
 | v::vs,k,arr,done,rest,aT,h1,af,aF=>by
  have hv:=aT v (by simp);have hlen:arr.size=done.length+rest.length:=by rw [<- Array.length_toList,h1,List.length_append]
  simp only [List.length_cons,Nat.add_mul,Nat.one_mul] at aF;rw [List.mapIdx_cons];obtain ⟨Dz,b2,bZ⟩:=Mk (place:=λi=>some (i * z,z)) (i:=k+0) (off:=k * z) (size:=z) (by simp) (arr:=arr) (v:=v) hv (by omega) ((vs.mapIdx λi v=>(k+(i+1),v)));have tT:Dz.toList=(done++v.cells.toList)++rest.drop z:=by
   rw [bZ,h1,<- af,List.take_left,hv,List.drop_append];simp
  obtain ⟨jb,e',mB⟩:=Mj z vs (k+1) Dz (done++v.cells.toList) (rest.drop z) (λu hu=>aT u (by simp [hu])) tT (by simp [af,hv,Nat.add_mul]) (by simp; omega);refine ⟨jb,?_,by rw [mB]; simp⟩;rw [b2,<- e'];congr 1;congr 1;funext i u;congr 1; omega
theorem Gn {vs:Array Value}(h:vs.all Value.oneCell'=true):∀ (k:Nat) (u:Value),vs[k]?=some u->u.oneCell'=true:=by grind
theorem Gx {P:Program}{e:TypeId}{z:Value}(h:(P.info? e).bind (·.zero)=some z) (w:World):(zeroValue e).run P w=.ok z w:=by
 cases hi:P.info? e with
 | none=>simp [hi] at h
 | some i=>simp [hi] at h; simp [zeroValue,typeInfo,hi,h]
theorem Mp {α:Type}(l:List α):∀ (n k:Nat),k<n * l.length->(List.replicate n l).flatten[k]?=l[k % l.length]?
 | 0,k,h=>by simp at h
 | n+1,k,h=>by
  rw [List.replicate_succ,List.flatten_cons];by_cases hk:k<l.length
  ·rw [List.getElem?_append_left hk,Nat.mod_eq_of_lt hk]
  ·rw [List.getElem?_append_right (by omega),Mp l n (k - l.length) (by rw [Nat.add_mul] at h; omega)];rw [<- Nat.mod_eq_sub_mod (by omega)]
section
variable {P:Program}{w:World}{I:a_}{T:Array Value}{g:aI}{Fs:Nat->a_}
theorem R1 {ys cs:List ab}{z:Nat}(aT:∀ y∈ys,∃ c,jc y=some c/\c.length=z) (aa:l8 ys=some cs):cs.length=ys.length * z:=by
 induction ys generalizing cs with
 | nil=>simp [l8] at aa; subst aa; simp
 | cons y ys aL =>
  obtain ⟨c,h1,af⟩:=aT y (by simp);simp only [l8,h1] at aa
  grind
theorem o'.sound (h:cB w I T g Fs) {a:Act}(aQ:a.tmps=T) {o:Oper}{kn:ab}(ar:o' P g o.op o.type kn) :
  ∃ v r8,(execOp a.eval o).run P w=.ok (.value v) (w.alloc r8)/\R (w.alloc r8) I (dP (w.alloc r8) T g) kn v (λc=>c=w.heap.size):=by
 obtain ⟨dst,op,ty,pos,after,guard⟩:=o;simp only at ar;have jA:∀ (r8:Obj) {x:ab}{v:Value},R w I (dP w T g) x v cr->R (w.alloc r8) I (dP (w.alloc r8) T g) x v cr:=λr8 _ _ aY=>R.alloc h r8 aY λ_ h=>h.elim;cases ar with
 | @box e _ x y cs j aa =>
  have ak:=k7 h j aQ;obtain ⟨h1,Hl,af⟩:=ak.jc (λ_ h=>h) (λ_ _ j ah=>ah.E9 j) aa;refine ⟨_,.cells (a.eval x).cells e,by simp [execOp,Instr.box,newVar,newRow],R.On (e:=e) (rA w _) h1 Hl (λk x u j hu=>jA _ (af k x u j hu)) (R2 (OC j) aa)⟩
 | @Dx e _ t z aT aa =>
  refine ⟨.pointer (some ⟨w.heap.size,0,none⟩),.cells z.cells e,by simp [execOp,Instr.alloc,newVar,newRow,Gx aT],?_⟩;rw [aa];refine .obj (Fs:=λ_=>cr) (e:=e) (rA w _) rfl (λk u hu=>?_) (λk y u ak hu=>?_) (λ_ _ _ _ _ h=>h.elim) (λ_ _ h=>h) (λc=>⟨.inl,λh=>h.elim id λ⟨_,_,h⟩=>h.elim⟩) λk J u ak hu=>?_
  ·match k,hu with
   | 0,hu=>cases hu; rfl
   | 1,hu=>cases hu; rfl
   | k+2,hu=>simp at hu
  ·match k,ak,hu with
   | 0,ak,hu=>cases ak; exact .l1 λ_ h=>h
   | 1,ak,hu=>cases ak; cases hu; exact .eY (World.ownsRow_nil _ _ _ _) rfl λc=>⟨λh=>h.elim,λh=>by simp [Value.ownBlock] at h⟩
   | k+2,ak,hu=>cases ak
  ·match k,ak,hu with
   | 0,ak,hu=>cases ak; cases hu; exact .inl ⟨rfl,rfl⟩
   | 1,ak,hu=>cases ak
   | k+2,ak,hu=>cases ak
 | @alloc e _ z aT gu =>
  refine ⟨_,.cells z.cells e,by simp [execOp,Instr.alloc,newVar,newRow,Gx aT],R.On (e:=e) (rA w _) (by simp) (Gn gu) (λk x u j hu=>jA _ (Ot k x u j (by simpa using hu))) (Oq _)⟩
 | @makeMap t _ q a6 =>
  have Iu:(Instr.makeMap t none).run P w=.ok (.map (some w.heap.size)) (w.alloc (.map #[] 0)):=rfl;exact ⟨.map (some w.heap.size),.map #[] 0,by simp [execOp,Iu],.mp (rA w _) a6 λc=>Iff.rfl⟩
 | @buildSlice t e _ z parts xs ys cs al ar j aT aa av kx hzero =>
  obtain ⟨hu,he,eF⟩:=qC (w:=w) al;obtain ⟨ai,ah⟩:=zp h aQ j;have ht:=R1 aT aa;have WE:∀ v∈xs.map a.eval,v.cells.size=z:=by
   intro v hv;obtain ⟨x,vH,rfl⟩:=List.mem_map.1 hv;obtain ⟨k,hk,rfl⟩:=List.mem_iff_getElem.1 vH;have nw:ys[k]?=some (ys[k]'(by omega)):=List.getElem?_eq_getElem (by omega);obtain ⟨c,h1,af⟩:=aT _ (List.getElem_mem (l:=ys) (n:=k) (by omega));obtain ⟨aF,_,_⟩:=(ah k _ _ nw (List.getElem?_eq_getElem hk)).jc (λ_ h=>h) (λ_ _ j ah=>ah.E9 j) h1;rw [<- aF,af]
  obtain ⟨c',Xc⟩:∃ c':Array Value,(xs.length * z=0/\c'=#[])\/(xs.length * z≠0/\∃ v,c'=v.cells/\(zeroValue e).run P w=.ok v w):=by
   by_cases aO:xs.length * z=0
   ·exact ⟨#[],.inl ⟨aO,rfl⟩⟩
   ·rcases hzero with h1 | ⟨v,h1,af⟩
    ·exact absurd h1 aO
    ·exact ⟨v.cells,.inr ⟨aO,v,rfl,Gx h1 w⟩⟩
  obtain ⟨arr,b2,bZ⟩:=Mj z (xs.map a.eval) 0 ((Array.range (xs.length * z)).map (c'[· % c'.size]!)) [] ((Array.range (xs.length * z)).map (c'[· % c'.size]!)).toList WE (by simp) (by simp) (by simp);have Nn:(parts.map λ(p:Nat × Operand)=>(p.1,a.eval p.2)).toList=(xs.map a.eval).mapIdx λi v=>(0+i,v):=by
   rw [Array.toList_map,ar];apply List.ext_getElem?;intro k;simp only [List.getElem?_map,List.getElem?_mapIdx];cases xs[k]? <;> simp
  obtain ⟨gT,pq,Vn⟩:=Lw (ρ:=dP w T g) (λ_ _ j ah=>ah.E9 j) (ys:=ys) (vs:=xs.map a.eval) (by simp [ai]) (λk y v ak hv=>by
   rw [List.getElem?_map] at hv;cases qm:xs[k]? with
   | none=>simp [qm] at hv
   | some x=>simp [qm] at hv; subst hv; exact ah k y x ak qm) aa
  have oG:arr.toList=(xs.map a.eval).flatMap λv=>v.cells.toList:=by simpa using bZ
  have vA:arr.size=xs.length * z:=by rw [<- Array.length_toList,oG,<- gT,ht,ai]
  have h0:(execOp a.eval { dst:=dst,op:=.buildSlice t xs.length parts,type:=ty,pos:=pos,after:=after,guard:=guard }).run P w=.ok (.value (.slice (some ⟨w.heap.size,0,none⟩) xs.length xs.length)) (w.alloc (.cells arr e)):=by
   have hle:¬ (16777216<xs.length * z):=by omega
   rcases Xc with ⟨aO,rfl⟩ | ⟨aO,v,rfl,Xb⟩
   ·simp only [aO] at b2;rw [<- Nn] at b2;simp at b2;simp [execOp,Instr.buildSlice,run_underlying hu,eF,aO,b2,newRow]
   ·rw [<- Nn] at b2;simp at b2;simp [execOp,Instr.buildSlice,run_underlying hu,eF,aO,hle,Xb,b2,newRow]
  refine ⟨_,_,h0,R.OH (e:=e) (arr:=arr) (rA w _) (Nat.le_refl _) ?_ vA (by rw [ht,ai]) (λk u hu=>pq k u (by rw [<- oG]; simpa using hu)) λk x u j hu=>jA _ (Vn k x u j ?_)⟩
  ·unfold maxLen; omega
  ·rw [<- oG]; simpa using hu
 | @makeSlice t e _ x y z n b vM qp c' al j ak hzero gu oR av aA oN ss uz ED =>
  obtain ⟨hu,he,eF⟩:=qC (w:=w) al;have h1:=(k7 h j aQ).h2.1;have af:=(k7 h ak aQ).h2.1;cases hi:P.info? e with
  | none=>simp [hi] at av
  | some i =>
   simp [hi] at av hzero;have Ih:i.size=z:=by
    unfold fa at al;rw [hu] at al;simp [hi] at al;exact al
   have wW:(i.bytes:Int) * (n:Int)<=281474976710656:=by
    have:((b * n:Nat):Int)<=281474976710656:=by have:=Nat.mul_comm n b; omega
    rw [av,<- Int.natCast_mul]; exact this
   have ah:=run_make (P:=P) w t e i c' hu hi hzero vM qp n n (by omega) (Int.le_refl _) wW (by omega);simp only [Int.toNat_natCast] at ah;refine ⟨_,.cells (madeCells c'.cells (n * i.size)) e,by simp [execOp,h1,af,ah],R.OH (e:=e) (rA w _) (Nat.le_refl _) (by unfold maxLen; omega) (by rw [size_madeCells,Ih]) (by simp [oR,uz]) (λk u hu=>?_) λk x u j hu=>?_⟩
   ·rw [madeCells,Array.getElem?_map,Array.getElem?_range] at hu
    split at hu
    ·rename_i hk;have aO:0<c'.cells.size:=by
      rcases Nat.eq_zero_or_pos c'.cells.size with h | h
      ·rw [Ih,<- oR,h] at hk; simp at hk
      ·exact h
     have hm:k % c'.cells.size<c'.cells.size:=Nat.mod_lt _ aO;simp only [Option.map_some,Option.some.injEq] at hu;rw [<- hu,show c'.cells[k % c'.cells.size]! = c'.cells[k % c'.cells.size] by simp [hm]];exact Gn gu _ _ (Array.getElem?_eq_getElem hm)
    ·cases hu
   have hk:k<n * c'.cells.size:=by
    have:=(List.getElem?_eq_some_iff.1 j).1;simpa [Nat.mul_comm,uz] using this
   have aO:0<c'.cells.size:=by
    rcases Nat.eq_zero_or_pos c'.cells.size with h | h
    ·rw [h] at hk; simp at hk
    ·exact h
   have hm:k % c'.cells.size<c'.cells.size:=Nat.mod_lt _ aO;rw [Mp _ n k (by simpa [uz] using hk),uz] at j;rw [madeCells,Array.getElem?_map,Array.getElem?_range,if_pos (by rw [Ih,<- oR]; exact hk)] at hu;simp only [Option.map_some,Option.some.injEq] at hu;have hG:c'.cells[k % c'.cells.size]! = c'.cells[k % c'.cells.size]:=by simp [hm]
   rw [hG] at hu;subst hu;rcases ED _ _ x (Array.getElem?_eq_getElem hm) j with rfl | ⟨h1,br,rfl⟩
   ·exact jA _ (Cg _)
   ·have aY:=Cg (w:=w) (I:=I) (ρ:=dP w T g) c'.cells[k % c'.cells.size];rw [h1] at aY;rw [aY.r2];exact .hn λ_ h=>h
def Cells (w:World) (I:a_) (ρ:ab->Value->Prop) (cs:List ab) (vs:List Value):Prop :=
 cs.length=vs.length/\(∀ (k:Nat) (u:Value),vs[k]?=some u->u.oneCell'=true)/\∀ (k:Nat) (x:ab) (u:Value),cs[k]?=some x->vs[k]?=some u->R w I ρ x u cr
theorem Cells.append {ρ:ab->Value->Prop}{a b:List ab}{u v:List Value}(h:Cells w I ρ a u) (aH:Cells w I ρ b v):Cells w I ρ (a++b) (u++v):=by
 refine ⟨by simp [h.1,aH.1],λk y ak=>?_,λk x y j ak=>?_⟩
 ·by_cases hk:k<u.length
  ·rw [List.getElem?_append_left hk] at ak; exact h.2.1 k y ak
  ·rw [List.getElem?_append_right (by omega)] at ak; exact aH.2.1 _ y ak
 ·by_cases hk:k<a.length
  ·rw [List.getElem?_append_left hk] at j;rw [List.getElem?_append_left (by rw [<- h.1]; exact hk)] at ak;exact h.2.2 k x y j ak
  ·rw [List.getElem?_append_right (by omega)] at j;rw [List.getElem?_append_right (by rw [<- h.1]; omega)] at ak;exact aH.2.2 _ x y j (by rw [h.1]; exact ak)
theorem Cells.take {ρ:ab->Value->Prop}{a:List ab}{u:List Value}(h:Cells w I ρ a u) (n:Nat):Cells w I ρ (a.take n) (u.take n):=by
 refine ⟨by simp [h.1],λk y ak=>?_,λk x y j ak=>?_⟩
 ·rw [List.getElem?_take] at ak
  split at ak
  ·exact h.2.1 k y ak
  grind
 ·rw [List.getElem?_take] at j ak
  split at j
  ·rename_i hk;rw [if_pos hk] at ak;exact h.2.2 k x y j ak
  grind
theorem Cells.drop {ρ:ab->Value->Prop}{a:List ab}{u:List Value}(h:Cells w I ρ a u) (n:Nat):Cells w I ρ (a.drop n) (u.drop n):=by
 refine ⟨by simp [h.1],λk y ak=>?_,λk x y j ak=>?_⟩
 ·rw [List.getElem?_drop] at ak; exact h.2.1 _ y ak
 ·rw [List.getElem?_drop] at j ak;exact h.2.2 _ x y j ak
theorem Mi {ρ:ab->Value->Prop}{place:Nat->Option (Nat × Nat)}:∀ (ps:List (Nat × List ab)) (tm:List (Nat × Value)) {cells cs:List ab}{arr:Array Value},Cells w I ρ cells arr.toList ->
  ps.map (·.1)=tm.map (·.1)->(∀ (k:Nat) (p:Nat × List ab) (q:Nat × Value),ps[k]?=some p->tm[k]?=some q->Cells w I ρ p.2 q.2.cells.toList)->vc place cells ps=some cs ->
  ∃ jb:Array Value,Instr.fill place arr tm=some jb/\Cells w I ρ cs jb.toList
 | [],tm,cells,cs,arr,aa,hk,_,aS=>by
  cases tm with
  | nil=>simp only [vc,Option.some.injEq] at aS; subst aS; exact ⟨arr,rfl,aa⟩
  | cons=>simp at hk
 | (i,c)::ps,tm,cells,cs,arr,aa,hk,ah,aS=>by
  cases tm with
  | nil=>simp at hk
  | cons q tm =>
   obtain ⟨J,v⟩:=q;simp only [List.map_cons,List.cons.injEq] at hk;obtain ⟨rfl,hk⟩:=hk;have aO:=ah 0 _ _ rfl rfl;simp only [vc] at aS;cases ar:place i with
   | none=>simp [ar] at aS
   | some os =>
    obtain ⟨off,size⟩:=os;simp only [ar] at aS
    split at aS
    ·rename_i acL;have hlen:v.cells.size=c.length:=by rw [<- Array.length_toList]; exact aO.1.symm
     have ac5:arr.size=cells.length:=by rw [<- Array.length_toList]; exact aa.1.symm
     obtain ⟨Dz,b2,bZ⟩:=Mk (arr:=arr) (v:=v) ar (by omega) (by omega) tm;have pq:Cells w I ρ (cells.take off++c++cells.drop (off+c.length)) Dz.toList:=by
      rw [bZ,hlen];exact ((aa.take off).append aO).append (aa.drop _)
     obtain ⟨jb,e',mB⟩:=Mi ps tm pq hk (λk p q ar a6=>ah (k+1) p q ar a6) aS;exact ⟨jb,by rw [b2,e'],mB⟩
    ·cases aS
theorem OQ (h:cB w I T g Fs) {a:Act}(aQ:a.tmps=T):∀ {l:List (Nat × Operand)}{ps:List (Nat × List ab)},q7 g l=some ps ->
  ps.map (·.1)=(l.map λp=>(p.1,a.eval p.2)).map (·.1)/\∀ (k:Nat) (p:Nat × List ab) (q:Nat × Value),ps[k]?=some p->(l.map λp=>(p.1,a.eval p.2))[k]?=some q->Cells w I (dP w T g) p.2 q.2.cells.toList
 | [],ps,ar=>by simp only [q7,Option.some.injEq] at ar; subst ar; simp
 | (i,x)::l,ps,ar=>by
  simp only [q7] at ar;cases j:bm g x with
  | none=>simp [j] at ar
  | some y =>
   cases ai:q7 g l with
   | none=>simp [j,ai] at ar
   | some adv =>
    simp only [j,ai,Option.map_eq_some_iff] at ar;obtain ⟨c,aa,rfl⟩:=ar;obtain ⟨h1,af⟩:=OQ h aQ ai;refine ⟨by simp [h1],λk p q ar a6=>?_⟩;cases k with
    | zero =>
     simp at ar a6;subst ar a6;obtain ⟨aF,TP,bu⟩:=(k7 h j aQ).jc (λ_ h=>h) (λ_ _ j ah=>ah.E9 j) aa;exact ⟨by simpa using aF,λk u hu=>TP k u (by simpa using hu),λk x u j hu=>bu k x u j (by simpa using hu)⟩
    | succ k=>simp at ar a6; exact af k p q ar (by simpa using a6)
theorem ZF {t:TypeId}{pl:List (Nat × Nat)}(h:kj P t pl=true):∃ fs,P.underlying t=some (.struct fs)/\fs.toList.mapM (λf=>(P.info? f.type).map λi=>(f.offset,i.size))=some pl:=by
 unfold kj at h;cases hu:P.underlying t with
 | none=>simp [hu] at h
 | some d =>
  cases d <;> simp only [hu,Bool.false_eq_true] at h;rename_i fs;refine ⟨fs,rfl,?_⟩;replace h:=LawfulBEq.eq_of_beq h;generalize fs.toList=l at h
  induction l generalizing pl with
  | nil=>cases pl with
   | nil=>rfl
   | cons=>simp at h
  | cons f l aL =>
   cases pl with
   | nil=>simp at h
   | cons p pl =>
    obtain ⟨o,s⟩:=p;simp only [List.map_cons,List.cons.injEq,Prod.mk.injEq] at h;obtain ⟨⟨rfl,h1⟩,af⟩:=h;have:=aL af;rw [List.mapM_cons,this];cases hi:P.info? f.type with
    | none=>simp [hi] at h1
    | some i=>simp [hi] at h1; subst h1; rfl
theorem u4.sound (h:cB w I T g Fs) {a:Act}(aQ:a.tmps=T) {o:Oper}{kn:ab}(ar:u4 P g o.op o.type kn) :
  ∃ v,(execOp a.eval o).run P w=.ok (.value v) w/\R w I (dP w T g) kn v cr:=by
 obtain ⟨dst,op,ty,pos,after,guard⟩:=o;simp only at ar;cases ar with
 | @build t _ parts pl c' ps cs al aT gu ar aa =>
  obtain ⟨fs,hu,y4⟩:=ZF al;obtain ⟨h1,af⟩:=OQ h aQ ar;obtain ⟨jb,b2,bZ⟩:=Mi (w:=w) (I:=I) (ρ:=dP w T g) (place:=λi=>pl[i]?) ps _ (arr:=c'.cells) ⟨by simp,λk u hu=>Gn gu k u (by simpa using hu),λk x u j hu=>Ot k x u j hu⟩ h1 af aa;refine ⟨.agg jb,?_,.agg (Fs:=λ_=>cr) (by simpa using bZ.1) (λk u hu=>bZ.2.1 k u (by simpa using hu)) (λk x u j hu=>bZ.2.2 k x u j (by simpa using hu)) (λ_ _ _ _ _ h=>h.elim) (λc=>⟨λh=>h.elim,λ⟨_,_,h⟩=>h⟩)⟩;have adg:=run_places (P:=P) w fs.toList pl y4;have av:P.built t ((parts.map λ(p:Nat × Operand)=>(p.1,a.eval p.2))).toList=some jb:=by
   rw [Array.toList_map];cases hi:P.info? t with
   | none=>simp [hi] at aT
   | some it =>
    simp_all [Program.built]
  simp_all [run_build,execOp]
 | @makeFunc fn first caps _ im gf h1 af =>
  obtain ⟨aB,a2⟩:=zp h aQ h1;obtain ⟨gZ,hV⟩:=zp h aQ af;refine ⟨.func fn (first.map a.eval) (caps.map a.eval),by simp [execOp,Instr.makeFunc],.di (λ_ h=>h) (by simpa using aB) (by simpa using gZ) (λk x u j hu=>?_) (λk x u j hu=>?_)⟩
  ·grind
  grind
end
end Go.Own
namespace Go.Own
open Go
set_option linter.unusedSectionVars false
variable [cE]
structure x3 (w w':World) (bv eg:Value) (e bZ:TypeId) (z n m:Nat) (us news:List Value):Prop where
 jA:w'.ownsRow 0 e z bv n us
 new:w'.ownsRow 0 bZ z eg (n+m) (us++news)
 ek:Fr w w' (λc=>bv.ownBlock=some c)
 yC:∀ c,eg.ownBlock=some c->bv.ownBlock=some c\/w.heap.size<=c
 sp:∀ c,bv.ownBlock=some c->∃ arr jb:Array Value,w.heap[c]?=some (.cells arr e (0,0))/\w'.heap[c]?=some (.cells jb e (0,0))/\jb.size=arr.size/\jb.toList.take (n * z)=arr.toList.take (n * z)
section
variable {P:Program}{w:World}
theorem x3.same {bv eg:Value}{e bZ:TypeId}{z n m:Nat}{us news:List Value}{w':World}(iQ:w.ownsRow 0 e z bv n us) (av:∀ c,c<w.heap.size->w'.heap[c]?=w.heap[c]?) (aw:w.heap.size<=w'.heap.size)
  (h1:w'.os=w.os) (af:w'.tape=w.tape) (aF:w'.output=w.output) (rR:w'.ownsRow 0 bZ z eg (n+m) (us++news)) (hblk:∀ c,eg.ownBlock=some c->bv.ownBlock=some c\/w.heap.size<=c) (nX:∀ a,w'.frozen? a=w.frozen? a) (D_:w.drawn<=w'.drawn:=by first | exact Nat.le_refl _ | exact Nat.le_succ _):x3 w w' bv eg e bZ z n m us news:=by
 have aR:=iQ.lt;refine ⟨r9 iQ λc aa=>av c (aR c aa).2,rR,⟨h1,af,aF,aw,λb h9 _=>av b h9,λa _ _=>nX a,D_⟩,hblk,λc aa=>?_⟩;obtain ⟨_,bD⟩:=iQ;rcases bD with ⟨rfl,_⟩ | ⟨b,cap,cur,rfl,_,aK,_⟩
 ·simp [Value.ownBlock] at aa
 ·simp only [Value.ownBlock,Option.some.injEq] at aa;subst aa;exact ⟨cur,cur,aK,(av _ (aR b rfl).2).trans aK,rfl,rfl⟩
theorem Za (t ty e b8:TypeId) (i:TypeInfo) (al:P.underlying t=some (.slice e)) (hi:P.info? e=some i)
  (b xP J5:Nat) (cur:Array Value) (aK:w.heap[b]?=some (.cells cur b8 (0,0)))
  (a:Addr) (m c:Nat) (news:List Value) (ai:news.length=m * i.size) (uj:∀ J u,news[J]?=some u->w.cell? (a.add J)=some u) (h1:∀ u∈news,u.oneCell'=true)
  (vy:xP+m<=J5) (wY:xP * i.size+news.length<=cur.size) :
  (Builtin.append_ #[t,t] ty #[.slice (some ⟨b,0,none⟩) xP J5,.slice (some a) m c]).run P w =
   .ok (.slice (some ⟨b,0,none⟩) (xP+m) J5) (w.setRow b (cur.toList.take (xP * i.size)++news++cur.toList.drop (xP * i.size+news.length)).toArray):=by
 have aS:=run_firstCells_some (P:=P) w i.size m a m c news ai uj;have bL:=run_storeCells_at P b (xP * i.size) b8 news 0 cur w aK (by simpa using wY) h1;simp only [Nat.add_zero] at bL;simp [Builtin.append_,run_underlying al,sizeOf,typeInfo,hi,Builtin.lenOf,vy,aS,Addr.add_lit,bL]
theorem Pe (t ty e b8:TypeId) (i:TypeInfo) (c':Value) (al:P.underlying t=some (.slice e)) (hi:P.info? e=some i) (aT:i.zero=some c') (oR:c'.cells.size=i.size) (_h0:0<i.size)
  {bv:Value}{n m c:Nat}{us news:List Value}(iQ:w.ownsRow 0 b8 i.size bv n us) {a:Option Addr}(aQ:0<m->a.isSome=true)
  (ai:news.length=m * i.size) (uj:∀ ad,a=some ad->∀ (J:Nat) (u:Value),news[J]?=some u->w.cell? (ad.add J)=some u) (h1:∀ u∈news,u.oneCell'=true)
  (nc:n+m<=maxLen) (wW:(n+m) * i.bytes<=140737488355328) :
  ∃ eg w' bZ,(Builtin.append_ #[t,t] ty #[bv,.slice a m c]).run P w=.ok eg w'/\x3 w w' bv eg b8 bZ i.size n m us news:=by
 have kZ:=iQ.1;by_cases hm:m=0
 ·subst hm;have aA:news=[]:=List.eq_nil_of_length_eq_zero (by simpa using ai);subst aA;refine ⟨bv,w,b8,?_,.same iQ (λ_ _=>rfl) (Nat.le_refl _) rfl rfl rfl (by simpa using iQ) (λc aa=>.inl aa) λ_=>rfl⟩;obtain ⟨_,bD⟩:=iQ;rcases bD with ⟨rfl,rfl⟩ | ⟨b,cap,cur,rfl,_,aK,hle,_⟩
  ·cases a <;> simp [Builtin.append_,run_underlying al,sizeOf,typeInfo,hi,Builtin.lenOf,Builtin.firstCells,loadCells,loadCellsFrom]
  ·cases a <;> simp [Builtin.append_,run_underlying al,sizeOf,typeInfo,hi,Builtin.lenOf,Builtin.firstCells,loadCells,loadCellsFrom,hle,storeCells]
 ·cases a with
  | none=>simp at aQ; omega
  | some ad =>
   replace uj:=uj ad rfl;have Wo:n+m<=9223372036854775807:=by simp only [maxLen] at nc; omega
   have grown:∀ (jA:Nat),jA<n+m ->
     (w.drew.alloc (.cells (us.toArray++news.toArray++Builtin.zeroCells c'.cells (grownCap w (n+m) jA e - (n+m))) e)).ownsRow 0 e i.size (.slice (some ⟨w.heap.size,0,none⟩) (n+m) (grownCap w (n+m) jA e)) (n+m) (us++news):=by
    intro jA aV;have dq:=grownCap_ge w (n+m) jA e;have hlen:(us++news).length=(n+m) * i.size:=by rw [List.length_append,kZ,ai,Nat.add_mul]
    refine ⟨hlen,.inr ⟨w.heap.size,_,_,rfl,Nat.zero_le _,rA w.drew _,dq,grownCap_le_maxLen w (n+m) jA e nc,?_,?_⟩⟩
    ·simp only [Array.size_append,List.size_toArray,size_zeroCells,oR,kZ,ai,<- Nat.add_mul];congr 1;omega
    ·simp only [Array.toList_append,List.append_assoc];rw [<- List.append_assoc,<- hlen];exact List.take_left
   have w2:=iQ;obtain ⟨_,bD⟩:=iQ;rcases bD with ⟨rfl,rfl⟩ | ⟨b,cap,cur,rfl,_,aK,hle,qe,gT,y9⟩
   ·have j:us=[]:=List.eq_nil_of_length_eq_zero (by simpa using kZ);subst j;have ah:=run_append_nil (P:=P) w t ty e i c' al hi aT ad m c news ai uj (by omega) (by omega) (by simp only [Nat.zero_add] at wW; omega);have nZ:=grown 0 (by omega);simp only [Nat.zero_add,List.nil_append,Array.empty_append] at nZ;exact ⟨_,_,e,ah,.same w2 (λc aa=>alloc_old w.drew _ c aa) (by simp) rfl rfl rfl (by simpa using nZ) (λc aa=>.inr (by simp [Value.ownBlock] at aa; omega)) (λa=>AW w.drew _ _ a)⟩
   ·by_cases vy:n+m<=cap
    ·have wY:n * i.size+news.length<=cur.size:=by rw [ai,gT,<- Nat.add_mul]; exact Nat.mul_le_mul_right _ vy
     have ah:=Za (P:=P) (w:=w) t ty e b8 i al hi b n cap cur aK ad m c news ai uj h1 vy wY;have hlen:(us++news).length=(n+m) * i.size:=by rw [List.length_append,kZ,ai,Nat.add_mul]
     have eF:(cur.toList.take (n * i.size)++news++cur.toList.drop (n * i.size+news.length)).toArray.size=cur.size:=by
      simp only [List.size_toArray,List.length_append,List.length_take,List.length_drop,Array.length_toList];omega
     have fp:(cur.toList.take (n * i.size)++news++cur.toList.drop (n * i.size+news.length)).take (n * i.size)=cur.toList.take (n * i.size):=by
      rw [List.append_assoc];exact List.take_left' (by simp; omega)
     refine ⟨_,_,b8,ah,⟨⟨kZ,.inr ⟨b,cap,_,rfl,Nat.zero_le _,setRow_heap w b cur _ b8 _ aK,hle,qe,eF.trans gT,?_⟩⟩,⟨hlen,.inr ⟨b,cap,_,rfl,Nat.zero_le _,setRow_heap w b cur _ b8 _ aK,vy,qe,eF.trans gT,?_⟩⟩,
      ⟨rfl,rfl,rfl,by simp,λk _ hk=>setRow_other w b k _ (λe=>hk (by simp [Value.ownBlock,e])),λa _ _=>DX w b _ a,Nat.le_refl _⟩,λc aa=>.inl aa,λc aa=>?_⟩⟩
     ·rw [<- y9]; exact fp
     ·rw [y9,<- hlen];exact List.take_left
     ·simp only [Value.ownBlock,Option.some.injEq] at aa;subst aa;exact ⟨cur,_,aK,setRow_heap w b cur _ b8 _ aK,eF,fp⟩
    ·have holds:∀ (J:Nat) (u:Value),us[J]?=some u->w.cell? ((⟨b,0,none⟩:Addr).add J)=some u:=w2.cells (g:=b) rfl;have ah:=run_append_grow (P:=P) w t ty e i c' al hi aT ⟨b,0,none⟩ n cap us kZ holds ad m c news ai uj (by omega) (by omega) (growslice_fits (by omega) wW);have nZ:=grown cap (by omega);exact ⟨_,_,e,ah,.same w2 (λc aa=>alloc_old w.drew _ c aa) (by simp) rfl rfl rfl nZ (λc aa=>.inr (by simp [Value.ownBlock] at aa; omega)) (λa=>AW w.drew _ _ a)⟩
end
end Go.Own
namespace Go.Own
open Go
set_option linter.unusedSectionVars false
variable [cE]
section
variable {w w':World}{I:a_}{ρ ρ':ab->Value->Prop}
theorem R.kids {x:ab}{v:Value}{F:a_}(h:R w I ρ x v F) (j:x.kids≠[]):∃ Fs:Nat->a_,
  (∀ k y,x.kids[k]?=some y->∃ u,child w v k=some u/\R w I ρ y u (Fs k))/\(∀ (J k c:Nat),J<x.kids.length->k<x.kids.length->Fs J c->Fs k c->J=k) /\
  (∀ k c,k<x.kids.length->Fs k c->F c)/\(∀ z n cs,x=.own z n cs->∀ c,v.ownBlock=some c->∀ k,k<x.kids.length->¬ Fs k c):=by
 cases h with
 | @own z n cs _ e us Fs _ aV ai h1 ah aP av aG =>
  refine ⟨Fs,λk y hk=>?_,aP,λk c hk aa=>(aG c).2 (.inr ⟨k,hk,aa⟩),λ_ _ _ _ c aa k hk h=>av k c hk h aa⟩;simp only [ab.kids] at hk;have aR:k<cs.length:=(List.getElem?_eq_some_iff.1 hk).1;have hu:us[k]?=some us[k]:=List.getElem?_eq_getElem (ai ▸ aR)
  grind [oW]
 | @obj cs b e arr Fs _ aV ai h1 ah aP av aG =>
  refine ⟨Fs,λk y hk=>?_,aP,λk c hk aa=>(aG c).2 (.inr ⟨k,hk,aa⟩),λ_ _ _ h=>by simp at h⟩;simp only [ab.kids] at hk;have aR:k<cs.length:=(List.getElem?_eq_some_iff.1 hk).1;have hu:arr[k]?=some arr[k]:=Array.getElem?_eq_getElem (ai ▸ aR);exact ⟨_,by simp [child,World.cell?,aV,hu],ah k y _ hk hu⟩
 | @agg cs vs Fs _ ai h1 ah aP aG =>
  refine ⟨Fs,λk y hk=>?_,aP,λk c hk aa=>(aG c).2 ⟨k,hk,aa⟩,λ_ _ _ h=>by simp at h⟩;simp only [ab.kids] at hk;have aR:k<cs.length:=(List.getElem?_eq_some_iff.1 hk).1
  simp_all [child]
 | @bJ cs vs Fs _ ai ah aP aG =>
  refine ⟨Fs,λk y hk=>?_,aP,λk c hk aa=>(aG c).2 ⟨k,hk,aa⟩,λ_ _ _ h=>by simp at h⟩;simp only [ab.kids] at hk;have aR:k<cs.length:=(List.getElem?_eq_some_iff.1 hk).1
  simp_all [child]
 | ref fM=>cases x <;> simp [ab.isRef,ab.kids] at fM j
 | _=>simp [ab.kids] at j
theorem ab.u_ {x y:ab}{k:Nat}{p:List Nat}(h:x.at (k::p)=some y):∃ c,x.kids[k]?=some c/\c.at p=some y:=by
 grind [ab.at]
theorem R.JD {b:Nat}:∀ (q r:List Nat) {x:ab}{v:Value}{F:a_}{z n br cf:Nat}{cs cs':List ab}{mr C5:Value},R w I ρ x v F->x.at q=some (.own z n cs)->x.at r=some (.own br cf cs') ->
  walk w v q=some mr->walk w v r=some C5->mr.ownBlock=some b->C5.ownBlock=some b->q=r
 | [],[],_,_,_,_,_,_,_,_,_,_,_,_,_,_,_,_,_,_=>rfl
 | [],k::r,x,v,F,z,n,br,cf,cs,cs',mr,C5,h,a6,ah,oj,wr,yD,yE=>by
  obtain ⟨c,hk,aa⟩:=ab.u_ ah;simp only [ab.at,Option.some.injEq] at a6;simp only [walk,Option.some.injEq] at oj;subst a6 oj;have aR:k<(ab.own z n cs).kids.length:=(List.getElem?_eq_some_iff.1 hk).1;obtain ⟨Fs,h1,af,aF,bu⟩:=h.kids (by intro e; rw [e] at aR; simp at aR);obtain ⟨u,hu,mH⟩:=h1 k c hk;simp only [walk,hu] at wr;obtain ⟨ia,cj,hw,dz,df,_⟩:=R.focus r mH aa;rw [hw] at wr;cases wr;exact absurd (df b (dz.qu b yE)) (bu z n cs rfl b yD k aR)
 | J::q,[],x,v,F,z,n,br,cf,cs,cs',mr,C5,h,a6,ah,oj,wr,yD,yE=>by
  obtain ⟨c,hk,aa⟩:=ab.u_ a6;simp only [ab.at,Option.some.injEq] at ah;simp only [walk,Option.some.injEq] at wr;subst ah wr;have aR:J<(ab.own br cf cs').kids.length:=(List.getElem?_eq_some_iff.1 hk).1;obtain ⟨Fs,h1,af,aF,bu⟩:=h.kids (by intro e; rw [e] at aR; simp at aR);obtain ⟨u,hu,mH⟩:=h1 J c hk;simp only [walk,hu] at oj;obtain ⟨ia,cj,hw,dz,df,_⟩:=R.focus q mH aa;rw [hw] at oj;cases oj;exact absurd (df b (dz.qu b yD)) (bu br cf cs' rfl b yE J aR)
 | J::q,k::r,x,v,F,z,n,br,cf,cs,cs',mr,C5,h,a6,ah,oj,wr,yD,yE=>by
  obtain ⟨c,aj,aa⟩:=ab.u_ a6;obtain ⟨d,hk,aP⟩:=ab.u_ ah;have eN:J<x.kids.length:=(List.getElem?_eq_some_iff.1 aj).1;have dR:k<x.kids.length:=(List.getElem?_eq_some_iff.1 hk).1;obtain ⟨Fs,h1,af,aF,bu⟩:=h.kids (by intro e; rw [e] at eN; simp at eN);obtain ⟨u,hu,mH⟩:=h1 J c aj;obtain ⟨v_,hG,HF⟩:=h1 k d hk;simp only [walk,hu] at oj;simp only [walk,hG] at wr;by_cases fz:J=k
  ·subst fz;rw [aj] at hk; cases hk;rw [hu] at hG; cases hG;rw [R.JD q r mH aa aP oj wr yD yE]
  ·exfalso;obtain ⟨ia,cj,hw,dz,df,_⟩:=R.focus q mH aa;obtain ⟨aan,i_,w5,A5,Uj,_⟩:=R.focus r HF aP;rw [hw] at oj; cases oj;rw [w5] at wr; cases wr;exact fz (af J k b eN dR (df b (dz.qu b yD)) (Uj b (A5.qu b yE)))
theorem ab.Pw:∀ (q:List Nat) {x y:ab},x.at q=some y->x.setAt q y=x
 | [],x,y,h=>by simp [ab.at] at h; simp [ab.setAt,h]
 | k::q,x,y,h=>by
  obtain ⟨c,hk,aa⟩:=ab.u_ h;simp only [ab.setAt,hk,ab.Pw q aa];have:∀ (l:List ab),l[k]?=some c->l.set k c=l:=by
   intro l ai;apply List.ext_getElem?;intro J;by_cases fz:k=J
   ·subst fz;have aR:k<l.length:=(List.getElem?_eq_some_iff.1 ai).1;rw [List.getElem?_set_self aR,ai]
   ·rw [List.getElem?_set_ne fz]
  cases x <;> simp [ab.kids] at hk <;> simp [ab.uS,this _ hk]
theorem C7 (w:World):∀ (p:List Nat) (v:Value) (r:List Nat),walk w v (p++r)=(walk w v p).bind λu=>walk w u r
 | [],v,r=>rfl
 | k::p,v,r=>by
  simp only [List.cons_append,walk];cases child w v k with
  | none=>rfl
  | some u=>exact C7 w p u r
theorem ab.Gu:∀ (p:List Nat) (x:ab) (r:List Nat),x.at (p++r)=(x.at p).bind λy=>y.at r
 | [],x,r=>rfl
 | k::p,x,r=>by
  simp only [List.cons_append,ab.at];cases x.kids[k]? with
  | none=>rfl
  | some u=>exact ab.Gu p u r
structure Dt (w w':World) (b M:Nat):Prop where
 other:∀ c,c<w.heap.size->c≠b->w'.heap[c]?=w.heap[c]?
 here:∃ (arr jb:Array Value) (e:TypeId),w.heap[b]?=some (.cells arr e (0,0))/\w'.heap[b]?=some (.cells jb e (0,0))/\jb.size=arr.size/\jb.toList.take M=arr.toList.take M
theorem Dt.row {b M:Nat}(s:Dt w w' b M) {e:TypeId}{z n:Nat}{v:Value}{us:List Value}(h:w.ownsRow 0 e z v n us) (aA:v.ownBlock=some b->n * z<=M):w'.ownsRow 0 e z v n us:=by
 by_cases av:v.ownBlock=some b
 ·obtain ⟨arr,jb,b2,h1,af,aF,bu⟩:=s.here;obtain ⟨hu,bD⟩:=h;rcases bD with ⟨rfl,rfl⟩ | ⟨g,cap,cur,rfl,aK,aa,rb,j2,xI,vW⟩
  ·grind [Value.ownBlock]
  ·simp only [Value.ownBlock,Option.some.injEq] at av;subst av;rw [h1] at aa;cases aa;refine ⟨hu,.inr ⟨g,cap,jb,rfl,aK,af,rb,j2,by omega,?_⟩⟩;rw [<- vW];have:=congrArg (List.take (n * z)) bu
   rwa [List.take_take,List.take_take,Nat.min_eq_left (aA rfl)] at this
 ·exact r9 h λc aa=>s.other c (h.lt c aa).2 λe=>av (e ▸ aa)
theorem R.spare {b M:Nat}(s:Dt w w' b M) (ba:∀ c,I c->c<w.heap.size/\c≠b) (lz:∀ x v,ρ x v->ρ' x v) {x:ab}{v:Value}{F:a_}(h:R w I ρ x v F) {q:List Nat}{z n:Nat}{cs:List ab}{ia:Value}
  (fx:x.at q=some (.own z n cs)) (hw:walk w v q=some ia) (av:ia.ownBlock=some b) (aA:n * z<=M) :
  R w' I ρ' x v F/\∀ r y,x.at r=some y->walk w' v r=walk w v r:=by
 obtain ⟨aan,cj,w5,dz,df,eH,kG⟩:=R.focus q h fx;rw [hw] at w5;cases w5;have oJ:cj b:=dz.qu b av;have aR:=h.lt;have same:∀ c,F c->c≠b->w'.heap[c]?=w.heap[c]?:=λc aa cy=>s.other c (aR c aa) cy;have acC:=dz;cases dz with
 | ref j=>simp [ab.isRef] at j
 | @own _ _ _ _ e us Fs _ aV ai h1 ah aP jh aG =>
  have mK:=s.row aV λ_=>aA;have cy:∀ k c,k<cs.length->Fs k c->c≠b:=λk c hk aa e=>jh k c hk aa (e ▸ av);have jg:∀ k c,k<cs.length->Fs k c->F c:=λk c hk aa=>df c ((aG c).2 (.inr ⟨k,hk,aa⟩));have rR:R w' I ρ' (.own z n cs) ia cj:=by
   refine .own mK ai h1 (λk x u j hu=>?_) aP jh aG;have hk:k<cs.length:=(List.getElem?_eq_some_iff.1 j).1;exact (ah k x u j hu).frame (λc aa=>s.other c (ba c aa).1 (ba c aa).2) (λ_ h=>h) lz λc aa=>same c (jg k c hk aa) (cy k c hk aa)
  constructor
  ·obtain ⟨cV,ku,pk⟩:=kG w' I ρ' _ cj ⟨λc aa=>s.other c (ba c aa).1 (ba c aa).2,λc aa aA=>same c aa λe=>aA (e ▸ oJ),λ_ h=>h,lz⟩ rR (λc aa _=>aa) λ_ h=>by cases h
   rw [ab.Pw q fx] at ku;refine ku.yJ λc=>?_;rw [pk c];constructor
   ·rintro (⟨h,_⟩ | h)
    ·exact h
    ·exact df c h
   ·intro h;by_cases aa:cj c
    ·exact .inr aa
    ·exact .inl ⟨h,aa⟩
  ·obtain ⟨gm,fi⟩:=eH w' λc aa aA=>same c aa λe=>aA (e ▸ oJ);intro r y dK;rcases fi r y dK with ⟨cK,rfl⟩ | h
   ·rw [C7,C7,gm,hw];simp only [Option.bind_some];cases cK with
    | nil=>rfl
    | cons k cK =>
     rw [ab.Gu,fx] at dK;obtain ⟨c,hk,aa⟩:=ab.u_ (x:=.own z n cs) dK;simp only [ab.kids] at hk;have dR:k<cs.length:=(List.getElem?_eq_some_iff.1 hk).1;have hu:us[k]?=some us[k]:=List.getElem?_eq_getElem (ai ▸ dR);have:=R.pV (w':=w') cK (ah k c _ hk hu) aa λc aa=>same c (jg k c dR aa) (cy k c dR aa);simp [walk,oW aV hu,oW mK hu,this]
   ·exact h
end
end Go.Own
namespace Go.Own
open Go
set_option linter.unusedSectionVars false
variable [cE]
section
variable {w w':World}{I:a_}{T:Array Value}{g:aI}{Fs:Nat->a_}
theorem cB.Ke (h:cB w I T g Fs) {t:Nat}{x:ab}(j:g t=some x):∃ v,T[t]?=some v/\dS w T ⟨t,[]⟩=some v/\jq w I (dP w T g) x v (Fs t):=by
 obtain ⟨v,hv,aY⟩:=h.rel t x j;exact ⟨v,hv,by simp [dS,hv,walk],aY⟩
theorem cB.app (h:cB w I T g Fs) {z n m:Nat}{p:Place}{bv eg:Value}{e bZ:TypeId}{us news:List Value}(kf:dP w T g (.bC z p n 0 []) bv)
  (e8:∀ t br cf bd cO,g t≠some (.bC br p cf bd cO)) (A:x3 w w' bv eg e bZ z n m us news):cB w' I T g Fs/\∀ r v,dP w T g r v->dP w' T g r v:=by
 cases jh:bv.ownBlock with
 | none =>
  have same:∀ c,c<w.heap.size->w'.heap[c]?=w.heap[c]?:=λc aa=>A.ek.block c aa (by rw [jh]; simp);exact ⟨h.world (λt c aa=>same c (h.jJ t c aa)) (λc aa=>same c (h.lt c aa)) A.ek.size,λr v ah=>h.Fm (λ_ _=>rfl) (λt c aa=>same c (h.jJ t c aa)) (λ_ _ h=>h) ah⟩
 | some b =>
  have s:Dt w w' b (n * z):=by
   refine ⟨λc aa cy=>A.ek.block c aa (by rw [jh]; simpa using Ne.symm cy),?_⟩;obtain ⟨arr,jb,h1,af,aF,bu⟩:=A.sp b jh;exact ⟨arr,jb,e,h1,af,aF,bu⟩
  obtain ⟨t0,sU⟩:=h.DC kf b jh;have ba:∀ c,I c->c<w.heap.size/\c≠b:=λc aa=>⟨h.lt c aa,λe=>h.bk t0 b sU (e ▸ aa)⟩;obtain ⟨⟨wu,wx,H3,rfl⟩,cY⟩:=kf
  -- the home of the block
  have home:∃ N:Place->Prop,(∀ q br cf cs' mr,bx g q=some (.own br cf cs')->dS w T q=some mr->mr.ownBlock=some b->N q) /\
    (∀ q,N q->∀ t br cf bd cO,g t=some (.bC br q cf bd cO)->t=p.root/\p.path=[]) /\
    (∀ t br gx cf bd cO,Fs t b->g t=some (.bC br gx cf bd cO)->t=p.root/\p.path=[]) /\
    (∀ br gx cf bd cO,p.path=[]->g p.root=some (.bC br gx cf bd cO)->br=z/\n=cf+bd) /\
    (∀ t x v,Fs t b->g t=some x->T[t]?=some v->R w I (dP w T g) x v (Fs t)->∃ q br cf cs' ia,x.at q=some (.own br cf cs')/\walk w v q=some ia/\ia.ownBlock=some b/\cf * br<=n * z):=by
   rcases cY with ⟨cs,ar⟩ | ⟨fA,kF,lU,m1,ado,cs,ar,aA,Bx⟩
   ·-- the base is a row of a tree
    obtain ⟨qD,qJ,gA,hl,l'⟩:=h.part ar (by simp);rw [H3] at gA;cases gA;have mM:t0=p.root:=h.eB _ _ _ sU (l' b (hl.qu b jh));obtain ⟨eI,jx⟩:∃ eI,g p.root=some eI:=by
     unfold bx at ar;cases j:g p.root with
     | none=>rw [j] at ar; cases ar
     | some x=>exact ⟨x,rfl⟩
    have rO:eI.at p.path=some (.own z n cs):=by simpa [bx,jx] using ar
    have k4:∀ br gx cf bd cO,g p.root≠some (.bC br gx cf bd cO):=by
     intro br gx cf bd cO bD;rw [jx] at bD;cases bD;have:=(ab.tN rO).2;simp at this
    obtain ⟨v0,jj,fQ⟩:=h.rel _ _ jx;have Hz:=fQ.gV (λbr gx cf bd cO e=>k4 br gx cf bd cO (by rw [jx,e]));have BI:walk w v0 p.path=some (.slice wu n wx):=by simpa [dS,jj] using H3
    refine ⟨λq=>q=p,?_,?_,?_,?_,?_⟩
    ·intro q br cf cs' mr a6 sX wU;obtain ⟨Qh,Gc,vG,HD,Hu⟩:=h.part a6 (by simp);rw [sX] at vG;cases vG;have ah:q.root=p.root:=(h.eB _ _ _ (Hu b (HD.qu b wU)) sU).trans mM;have A_:eI.at q.path=some (.own br cf cs'):=by simpa [bx,ah,jx] using a6
     have IK:walk w v0 q.path=some mr:=by simpa [dS,ah,jj] using sX
     have:=R.JD q.path p.path Hz A_ rO IK BI wU jh;cases q; cases p; simp_all
    ·rintro q rfl t br cf bd cO bD; exact absurd bD (e8 t br cf bd cO)
    ·intro t br gx cf bd cO iB bD;have:t=p.root:=(h.eB _ _ _ iB sU).trans mM;rw [this] at bD;exact absurd bD (k4 _ _ _ _ _)
    ·intro br gx cf bd cO _ bD; exact absurd bD (k4 _ _ _ _ _)
    ·intro t x v iB j hv aY;have:t=p.root:=(h.eB _ _ _ iB sU).trans mM;subst this;rw [jx] at j; cases j;rw [jj] at hv; cases hv;exact ⟨_,_,_,_,_,rO,BI,jh,Nat.le_refl _⟩
   ·-- the base is behind an append itself
    obtain ⟨v0,jj,BG,fQ⟩:=h.Ke ar;have Wz:v0=.slice wu n wx:=by
     have:(⟨p.root,[]⟩:Place)=p:=by cases p; simp_all
     rw [this,H3] at BG;exact (Option.some.inj BG).symm
    subst Wz;obtain ⟨R4,b2,acb,aai,adq,fQ⟩:=fQ.vJ;by_cases nW:R4.ownBlock=some b
    ·obtain ⟨⟨aB,LI,NB,rfl⟩,_⟩:=fQ.kf;obtain ⟨mr,Gc,sX,HD,Hu⟩:=h.part Bx (by simp);rw [NB] at sX;cases sX;have mM:t0=kF.root:=h.eB _ _ _ sU (Hu b (HD.qu b nW));obtain ⟨eI,jx⟩:∃ eI,g kF.root=some eI:=by
      unfold bx at Bx;cases j:g kF.root with
      | none=>rw [j] at Bx; cases Bx
      | some x=>exact ⟨x,rfl⟩
     have rO:eI.at kF.path=some (.own z lU cs):=by simpa [bx,jx] using Bx
     have k4:∀ br gx cf bd cO,g kF.root≠some (.bC br gx cf bd cO):=by
      intro br gx cf bd cO bD;rw [jx] at bD;cases bD;have:=(ab.tN rO).2;simp at this
     obtain ⟨v1,rV,A3⟩:=h.rel _ _ jx;have UB:=A3.gV (λbr gx cf bd cO e=>k4 br gx cf bd cO (by rw [jx,e]));have BI:walk w v1 kF.path=some (.slice aB lU LI):=by simpa [dS,rV] using NB
     refine ⟨λq=>q=kF,?_,?_,?_,?_,?_⟩
     ·intro q br cf cs' mr a6 sX wU;obtain ⟨Qh,QV,vG,HE,Hv⟩:=h.part a6 (by simp);rw [sX] at vG;cases vG;have ah:q.root=kF.root:=(h.eB _ _ _ (Hv b (HE.qu b wU)) sU).trans mM;have A_:eI.at q.path=some (.own br cf cs'):=by simpa [bx,ah,jx] using a6
      have IK:walk w v1 q.path=some mr:=by simpa [dS,ah,rV] using sX
      have:=R.JD q.path kF.path UB A_ rO IK BI wU nW;cases q; cases kF; simp_all
     ·rintro q rfl t br cf bd cO bD; exact ⟨h.ra _ _ _ _ _ _ _ _ _ _ _ bD ar,fA⟩
     ·intro t br gx cf bd cO iB bD;have:t=kF.root:=(h.eB _ _ _ iB sU).trans mM;rw [this] at bD;exact absurd bD (k4 _ _ _ _ _)
     ·intro br gx cf bd cO _ bD;rw [ar] at bD; cases bD; exact ⟨rfl,aA⟩
     ·intro t x v iB j hv aY;have:t=kF.root:=(h.eB _ _ _ iB sU).trans mM;subst this;rw [jx] at j; cases j;rw [rV] at hv; cases hv;exact ⟨_,_,_,_,_,rO,BI,nW,Nat.mul_le_mul_right _ (by omega)⟩
    ·have tW:Fs p.root b:=(fQ.aG b).2 ⟨jh,nW⟩;have mM:t0=p.root:=h.eB _ _ _ sU tW;refine ⟨λ_=>False,?_,λ_ h=>h.elim,?_,?_,?_⟩
     ·intro q br cf cs' mr a6 sX wU;obtain ⟨Qh,QV,vG,HE,Hv⟩:=h.part a6 (by simp);rw [sX] at vG;cases vG;have ah:q.root=p.root:=h.eB _ _ _ (Hv b (HE.qu b wU)) tW;unfold bx at a6;rw [ah,ar] at a6;have:=(ab.tN a6).2;simp at this
     ·intro t br gx cf bd cO iB _; exact ⟨h.eB _ _ _ iB tW,fA⟩
     ·intro br gx cf bd cO _ bD;rw [ar] at bD; cases bD; exact ⟨rfl,aA⟩
     ·intro t x v iB j hv aY;have:t=p.root:=h.eB _ _ _ iB tW;subst this;rw [ar] at j; cases j;exact aY.k4.elim
  obtain ⟨N,MI,MJ,MK,Uu,Uv⟩:=home
  -- rows of pends
  have pends:∀ t br gx cf bd cO v yG b8 tT iD EZ,g t=some (.bC br gx cf bd cO)->T[t]?=some v->Gh w I (dP w T g) br gx cf bd cO v (Fs t) yG b8 tT iD EZ ->
    (v.ownBlock=some b->(cf+bd) * br<=n * z)/\(yG.ownBlock=some b->cf * br<=n * z):=by
   intro t br gx cf bd cO v yG b8 tT iD EZ aK hv aY;by_cases al:t=p.root/\p.path=[]
   ·obtain ⟨rfl,fA⟩:=al;obtain ⟨rfl,rfl⟩:=Uu _ _ _ _ _ fA aK;exact ⟨λ_=>Nat.le_refl _,λ_=>Nat.mul_le_mul_right _ (by omega)⟩
   ·have rP:yG.ownBlock≠some b:=by
     intro h9;obtain ⟨⟨a2,rH,NC,rfl⟩,V3⟩:=aY.kf;rcases V3 with ⟨cs2,af⟩ | ⟨aO,CM,Jy,m3,adp,ab9,af,aF,bu⟩
     ·exact al (MJ gx (MI gx _ _ _ _ af NC h9) t _ _ _ _ aK)
     ·obtain ⟨v2,za,Nz,ma⟩:=h.Ke af;have En:(⟨gx.root,[]⟩:Place)=gx:=by cases gx; simp_all
      rw [En,NC] at Nz;cases Nz;have Ns:gx.root=p.root/\p.path=[]->False:=by
       rintro ⟨ah,fA⟩;have:gx=p:=by cases gx; cases p; simp_all
       exact e8 t br cf bd cO (this ▸ aK)
      obtain ⟨R5,e',ace,adF,adr,ma⟩:=ma.vJ;by_cases po:R5.ownBlock=some b
      ·obtain ⟨⟨a4,aaL,WB,rfl⟩,_⟩:=ma.kf;exact Ns (MJ CM (MI CM _ _ _ _ bu WB po) _ _ _ _ _ af)
      ·exact Ns (MK _ _ _ _ _ _ ((ma.aG b).2 ⟨h9,po⟩) af)
    refine ⟨λBH=>?_,λh9=>absurd h9 rP⟩;exact absurd (MK _ _ _ _ _ _ ((aY.aG b).2 ⟨BH,rP⟩) aK) al
  -- trees
  have aR:=h.jJ;have trees:∀ t x v (ρ':ab->Value->Prop),(∀ x v,dP w T g x v->ρ' x v)->g t=some x->T[t]?=some v->R w I (dP w T g) x v (Fs t)->R w' I ρ' x v (Fs t)/\∀ r y,x.at r=some y->walk w' v r=walk w v r:=by
   intro t x v ρ' lz j hv aY;by_cases iB:Fs t b
   ·obtain ⟨q,br,cf,cs',ia,h1,af,aF,bu⟩:=Uv t x v iB j hv aY;exact aY.spare s ba lz h1 af aF bu
   ·have same:∀ c,Fs t c->w'.heap[c]?=w.heap[c]?:=λc aa=>s.other c (aR t c aa) λe=>iB (e ▸ aa);exact ⟨aY.frame (λc aa=>s.other c (ba c aa).1 (ba c aa).2) (λ_ h=>h) lz same,λr y ah=>R.pV r aY ah same⟩
  have val:∀ q y,bx g q=some y->dS w' T q=dS w T q:=by
   intro q y a6;unfold bx at a6;cases j:g q.root with
   | none=>rw [j] at a6; cases a6
   | some x =>
    rw [j] at a6;obtain ⟨v,hv,aY⟩:=h.rel _ _ j;cases aY with
    | tree aY=>have:=(trees _ x v _ (λ_ _ h=>h) j hv aY).2 q.path y a6; simp [dS,hv,this]
    | bC aY=>simp [dS,hv,(ab.tN a6).1,walk]
  have slot:∀ {q:Place}{x:ab},q.path=[]->g q.root=some x->dS w' T q=dS w T q:=by
   intro q x a6 j;obtain ⟨v,hv,_⟩:=h.rel _ _ j;simp [dS,a6,walk]
  have refs:∀ r v,dP w T g r v->dP w' T g r v:=by
   rintro r v ⟨h1,af⟩;refine ⟨?_,af⟩;cases r <;> simp only [fI,gP] at h1 af ⊢
   case ptr q k=>obtain ⟨y,ak,_⟩:=af; rw [val q y ak]; exact h1
   case bl br q cf =>
    rcases af with ⟨_,_,af,_⟩ | ⟨aO,_,_,_,_,af,_⟩
    ·rw [val q _ af]; exact h1
    ·rw [slot aO af]; exact h1
   case sub br q lo cf=>obtain ⟨_,_,af,_⟩:=af; rw [val q _ af]; exact h1
   case hf q=>obtain ⟨_,af⟩:=af; rw [val q _ af]; exact h1
   case bC br q cf bd cO =>
    rcases af with ⟨_,af⟩ | ⟨aO,_,_,_,_,_,af,_⟩
    ·rw [val q _ af]; exact h1
    ·rw [slot aO af]; exact h1
  refine ⟨⟨λt x j=>?_,h.kE,h.eB,h.bk,λc aa=>Nat.lt_of_lt_of_le (h.lt c aa) A.ek.size,h.ra,cE.keep h.gl (λc aa=>s.other c (ba c aa).1 (ba c aa).2) λ_ h=>h⟩,refs⟩;obtain ⟨v,hv,aY⟩:=h.rel t x j;refine ⟨v,hv,?_⟩;cases aY with
  | tree aY=>exact .tree (trees t x v _ refs j hv aY).1
  | @bC br cf bd gx cO _ yG b8 tT iD EZ _ aY =>
   obtain ⟨eJ,q6⟩:=pends t _ _ _ _ _ v yG b8 tT iD EZ j hv aY;refine .bC ⟨refs _ _ aY.kf,s.row aY.iQ q6,s.row aY.nq eJ,aY.ai,aY.h1,λk x u j hu=>?_,aY.aG⟩;exact (aY.ah k x u j hu).frame (λc aa=>s.other c (ba c aa).1 (ba c aa).2) (λ_ h=>h) refs λc aa=>aa.elim
end
end Go.Own
namespace Go.Own
open Go
set_option linter.unusedSectionVars false
variable [cE]
def u2 (w:World) (I:a_) (T:Array Value) (g:aI) (Fs:Nat->a_) (x:ab) (v:Value) (w':World):Prop :=
 ∃ F I',cB w' I' T g Fs/\jq w' I' (dP w' T g) x v F/\(∀ t c,F c->¬ Fs t c)/\(∀ c,F c->w.heap.size<=c/\¬ I' c)/\(∀ c,I c->I' c)/\(∀ c,I' c->I c\/w.heap.size<=c)/\Fr w w' (λc=>∃ t,Fs t c)/\(∀ z p n m new,x=.bC z p n m new->∀ t br cf bd cO,g t≠some (.bC br p cf bd cO))
inductive Src (g:aI):ab->Nat->Nat->List ab->Prop
 | bk {z m:Nat}{cs:List ab}:Src g (.bk z m cs) z m cs
 | aU {z:Nat}:Src g .aU z 0 []
 | bl {z m N:Nat}{q:Place}{cs:List ab}(a6:bx g q=some (.own z N cs)) (hm:m<=N):Src g (.bl z q m) z m ((cs.take (m * z)).mapIdx λi x=>fC 0 (q.push i) x)
 | sub {z lo m N:Nat}{q:Place}{cs:List ab}(a6:bx g q=some (.own z N cs)) (hm:lo+m<=N):Src g (.sub z q lo m) z m (((cs.drop (lo * z)).take (m * z)).mapIdx λi x=>fC 0 (q.push (lo * z+i)) x)
def ka (P:Program) (t e:TypeId) (z b:Nat):Bool :=
 match P.underlying t,P.info? e with
 | some (.slice b8),some i=>b8 == e&&i.size == z&&i.bytes == b&&z != 0&&(match i.zero with | some v=>v.cells.size == z | none=>false)
 | _,_=>false
section
variable {P:Program}{w:World}{I:a_}{T:Array Value}{g:aI}{Fs:Nat->a_}
theorem Lj {t e:TypeId}{z b:Nat}(h:ka P t e z b=true):∃ i c',P.underlying t=some (.slice e)/\P.info? e=some i/\i.size=z/\i.bytes=b/\0<z/\i.zero=some c'/\c'.cells.size=z:=by
 unfold ka at h;cases hu:P.underlying t with
 | none=>simp [hu] at h
 | some d =>
  cases hi:P.info? e with
  | none=>cases d <;> simp [hu,hi] at h
  | some i =>
   cases d <;> simp [hu,hi] at h;obtain ⟨⟨⟨⟨rfl,h1⟩,af⟩,aF⟩,bu⟩:=h;cases aT:i.zero with
   | none=>simp [aT] at bu
   | some c'=>simp [aT] at bu; exact ⟨i,c',rfl,rfl,h1,af,by omega,aT,bu⟩
theorem Src.sound (h:cB w I T g Fs) {y:ab}{v:Value}{z m:Nat}{cells:List ab}(aw:Src g y z m cells) (aY:R w I (dP w T g) y v cr) :
  ∃ (a:Option Addr) (c:Nat) (news:List Value),v=.slice a m c/\news.length=m * z/\(0<m->0<z->a.isSome=true)/\(∀ ad,a=some ad->∀ (J:Nat) (u:Value),news[J]?=some u->w.cell? (ad.add J)=some u)/\Cells w I (dP w T g) cells news:=by
 have Ou:∀ {q:Place}{N:Nat}{cs:List ab}(lo:Nat) {a:Option Addr}{cap:Nat},bx g q=some (.own z N cs)->dS w T q=some (.slice a N cap)->lo+m<=N ->
   ∃ news:List Value,news.length=m * z/\(∀ ad,a=some ad->∀ (J:Nat) (u:Value),news[J]?=some u->w.cell? ⟨ad.block,lo * z+J,none⟩=some u)/\Cells w I (dP w T g) (((cs.drop (lo * z)).take (m * z)).mapIdx λi x=>fC 0 (q.push (lo * z+i)) x) news/\(0<m->0<z->∃ b,a=some ⟨b,0,none⟩):=by
  intro q N cs lo a cap a6 hv hm;obtain ⟨eg,cj,iS,dz,_⟩:=h.part a6 (by simp);rw [hv] at iS;cases iS;obtain ⟨b0,mA,j0,_,hlen,qY,_⟩:=dz.mO;cases j0;have acJ:lo * z+m * z<=cs.length:=by rw [hlen,<- Nat.add_mul]; exact Nat.mul_le_mul_right _ hm
  have cell:∀ J,J<m * z->∃ b gD kK,a=some ⟨b,0,none⟩/\w.cell? ⟨b,lo * z+J,none⟩=some gD/\gD.oneCell'=true/\cs[lo * z+J]?=some kK/\R w I (dP w T g) (fC 0 (q.push (lo * z+J)) kK) gD cr:=by
   intro J aj;have fM:cs[lo * z+J]?=some cs[lo * z+J]:=List.getElem?_eq_getElem (by omega);obtain ⟨b,gD,fo,me,ni,gu,bV,jY⟩:=dz.node (.inl rfl) fM;refine ⟨b,gD,_,?_,me,gu,fM,Fl 0 (by rw [tM,a6]; simp [ab.kids]) (by rw [xY,hv]; exact ni) jY⟩;cases a with
   | none=>simp [addrOf] at fo
   | some ad=>simp only [addrOf] at fo; rw [Option.some.inj fo]
  have uj:∃ news:List Value,news.length=m * z/\∀ J,J<m * z->∃ b gD kK,news[J]?=some gD/\a=some ⟨b,0,none⟩/\w.cell? ⟨b,lo * z+J,none⟩=some gD/\gD.oneCell'=true/\cs[lo * z+J]?=some kK/\R w I (dP w T g) (fC 0 (q.push (lo * z+J)) kK) gD cr:=by
   refine ⟨(List.range (m * z)).map λJ=>(w.cell? ⟨(a.map (·.block)).getD 0,lo * z+J,none⟩).getD undef,by simp,λJ aj=>?_⟩;obtain ⟨b,gD,kK,h1,af,aF,bu,ct⟩:=cell J aj;refine ⟨b,gD,kK,?_,h1,af,aF,bu,ct⟩;rw [List.getElem?_map,List.getElem?_range aj,h1];simp [af]
  obtain ⟨news,ai,aA⟩:=uj;refine ⟨news,ai,λad fo J u aj=>?_,⟨?_,λJ u aj=>?_,λJ x u j aj=>?_⟩,λBm BQ=>?_⟩
  ·obtain ⟨b,gD,kK,h1,af,aF,_⟩:=aA J (by rw [<- ai]; exact (List.getElem?_eq_some_iff.1 aj).1);rw [h1] at aj; cases aj;rw [fo] at af; cases af;exact aF
  ·simp; omega
  ·obtain ⟨b,gD,kK,h1,af,aF,bu,_⟩:=aA J (by rw [<- ai]; exact (List.getElem?_eq_some_iff.1 aj).1);rw [h1] at aj; cases aj; exact bu
  ·obtain ⟨b,gD,kK,h1,af,aF,bu,ct,dJ⟩:=aA J (by rw [<- ai]; exact (List.getElem?_eq_some_iff.1 aj).1);rw [h1] at aj; cases aj;rw [List.getElem?_mapIdx,List.getElem?_take] at j
   split at j
   ·rw [List.getElem?_drop,ct] at j;simp only [Option.map_some,Option.some.injEq] at j;rw [<- j]; exact dJ
   ·cases j
  ·obtain ⟨b,_,_,h1,_⟩:=cell 0 (Nat.mul_pos Bm BQ);exact ⟨b,h1⟩
 cases aw with
 | bk =>
  obtain ⟨a,cap,rfl,_,hlen,hm⟩:=aY.zc;by_cases aO:cells≠[]\/0<m
  ·obtain ⟨ad,us,rfl,ba,mh,gu,aa,ah⟩:=hm aO;refine ⟨_,cap,(List.range cells.length).map us,rfl,by simp [hlen],by simp,λRh fo J u aj=>?_,⟨by simp,λJ u aj=>?_,λJ x u j aj=>?_⟩⟩
   ·cases fo;rw [List.getElem?_map] at aj;by_cases eN:J<cells.length
    ·rw [List.getElem?_range eN] at aj;simp only [Option.map_some,Option.some.injEq] at aj;obtain ⟨b,o,sp⟩:=ad;simp only at mh;subst mh;rw [add_eq,<- aj];exact aa J _ (List.getElem?_eq_getElem eN)
    ·rw [List.getElem?_eq_none (by simp; omega)] at aj; cases aj
   ·rw [List.getElem?_map] at aj;by_cases eN:J<cells.length
    ·rw [List.getElem?_range eN] at aj;simp only [Option.map_some,Option.some.injEq] at aj;rw [<- aj];exact gu J _ (List.getElem?_eq_getElem eN)
    ·rw [List.getElem?_eq_none (by simp; omega)] at aj; cases aj
   ·rw [List.getElem?_map] at aj;have eN:J<cells.length:=(List.getElem?_eq_some_iff.1 j).1;rw [List.getElem?_range eN] at aj;simp only [Option.map_some,Option.some.injEq] at aj;rw [<- aj];exact ah J x j
  ·have Bm:m=0:=by omega
   have H4:cells=[]:=Classical.byContradiction λe=>aO (.inl e);subst Bm H4;exact ⟨a,cap,[],rfl,by simp,by simp,by simp,by simp [Cells]⟩
 | aU =>
  rw [aY.r2];exact ⟨none,0,[],rfl,by simp,by simp,by simp,by simp [Cells]⟩
 | @bl _ _ N q cs a6 hm =>
  obtain ⟨⟨a,iK,cap,h1,rfl,aF⟩,bu⟩:=aY.mN;obtain ⟨eg,cj,iS,dz,_⟩:=h.part a6 (by simp);obtain ⟨b0,mA,j0,_⟩:=dz.mO;rw [h1] at iS;cases iS;cases j0;obtain ⟨news,ai,aa,gT,aQ⟩:=Ou 0 a6 h1 (by omega);simp only [Nat.zero_mul,List.drop_zero,Nat.zero_add] at gT aa;refine ⟨a,cap,news,rfl,ai,λaO DZ=>by obtain ⟨b,rfl⟩:=aQ aO DZ; rfl,λad fo J u aj=>?_,gT⟩;have vp:=aa ad fo J u aj;by_cases aO:0<m/\0<z
  ·obtain ⟨b,av⟩:=aQ aO.1 aO.2;rw [fo] at av; cases av;rw [add_eq]; simpa using vp
  ·have:m * z=0:=by
    rcases Nat.eq_zero_or_pos m with h | h
    ·simp [h]
    ·rcases Nat.eq_zero_or_pos z with aH | aH
     ·simp [aH]
     ·exact absurd ⟨h,aH⟩ aO
   have:=(List.getElem?_eq_some_iff.1 aj).1;omega
 | @sub _ lo _ N q cs a6 hm =>
  obtain ⟨⟨a,iK,cap,b0,mA,h1,rfl,_,aF,ct⟩,bu⟩:=aY.xa;obtain ⟨eg,cj,iS,dz,_⟩:=h.part a6 (by simp);obtain ⟨a2,rH,j0,_⟩:=dz.mO;rw [h1] at iS;cases iS;cases j0;obtain ⟨news,ai,aa,gT,aQ⟩:=Ou lo a6 h1 hm;refine ⟨b0,mA,news,rfl,ai,λaO _=>by obtain ⟨ad,_,rfl⟩:=ct aO; rfl,λad fo J u aj=>?_,gT⟩;have aR:=(List.getElem?_eq_some_iff.1 aj).1;have aO:0<m:=(Nat.eq_zero_or_pos m).elim (λh=>by rw [h] at ai; omega) id

  have aT:0<z:=(Nat.eq_zero_or_pos z).elim (λh=>by rw [h] at ai; omega) id

  obtain ⟨Rh,dJ,kV⟩:=ct aO;obtain ⟨b,av⟩:=aQ aO aT;rw [dJ] at av; cases av;rw [fo] at kV; cases kV;have vp:=aa _ dJ J u aj;rw [add_eq]; simpa using vp
end
end Go.Own
namespace Go.Own
open Go
set_option linter.unusedSectionVars false
variable [cE]
inductive Ak (P:Program) (g:aI):Op->TypeId->ab->Prop
 | grow {s x:Operand}{t e ty:TypeId}{z b n m:Nat}{p:Place}{y:ab}{cells:List ab}(aw:bm g s=some (.bl z p n)) (cY:gP g (.bC z p n 0 [])) (e8:∀ t br cf bd cO,g t≠some (.bC br p cf bd cO))
   (j:bm g x=some y) (rU:Src g y z m cells) (al:ka P t e z b=true) (nc:n+m<=4611686018427387904) (av:(n+m) * b<=140737488355328) :
   Ak P g (.call { callee:=.builtin .append,args:=#[s,x],argTypes:=#[t,t] }) ty (.bC z p n m cells)
 | nil {s x:Operand}{t e ty:TypeId}{z b m:Nat}{y:ab}{cells:List ab}(aw:bm g s=some .aU)
   (j:bm g x=some y) (rU:Src g y z m cells) (al:ka P t e z b=true) (nc:m<=4611686018427387904) (av:m * b<=140737488355328) :
   Ak P g (.call { callee:=.builtin .append,args:=#[s,x],argTypes:=#[t,t] }) ty (.own z m cells)
inductive b5 (P:Program) (g:aI):Op->TypeId->ab->Prop
 | eJ {op:Op}{ty:TypeId}{x:ab}(h:cR P g op ty x):b5 P g op ty x
 | q6 {op:Op}{ty:TypeId}{x:ab}(h:o' P g op ty x):b5 P g op ty x
 | Cj {op:Op}{ty:TypeId}{x:ab}(h:u4 P g op ty x):b5 P g op ty x
 | lD {op:Op}{ty:TypeId}{x:ab}(h:Ak P g op ty x):b5 P g op ty x
section
variable {P:Program}{w:World}{I:a_}{T:Array Value}{g:aI}{Fs:Nat->a_}
theorem Cells.frame {w':World}{cells:List ab}{news:List Value}(aa:Cells w I (dP w T g) cells news) (ba:∀ c,I c->w'.heap[c]?=w.heap[c]?) (ah:∀ r v,dP w T g r v->dP w' T g r v):Cells w' I (dP w' T g) cells news :=
 ⟨aa.1,aa.2.1,λk x u j hu=>(aa.2.2 k x u j hu).frame ba (λ_ h=>h) ah λ_ h=>h.elim⟩
theorem Ak.sound (h:cB w I T g Fs) {a:Act}(aQ:a.tmps=T) {o:Oper}{kn:ab}(ar:Ak P g o.op o.type kn) :
  ∃ v w',(execOp a.eval o).run P w=.ok (.value v) w'/\u2 w I T g Fs kn v w':=by
 obtain ⟨dst,op,ty,pos,after,guard⟩:=o;simp only at ar;cases ar with
 | @grow s x t e _ z b n m p y cells aw cY e8 j rU al nc av =>
  obtain ⟨i,c',hu,hi,rfl,rfl,aO,aT,oR⟩:=Lj al;obtain ⟨⟨wu,N,wx,h1,af,aF⟩,bu⟩:=(k7 h aw aQ).mN;obtain ⟨CT,J7,news,vC,ai,BA,IC,gT⟩:=rU.sound h (k7 h j aQ)
  -- the row of the base
  have lQ:N=n/\∃ b8 us,w.ownsRow 0 b8 i.size (.slice wu n wx) n us:=by
   rcases cY with ⟨cs,ar⟩ | ⟨fA,q,gL,m0,new,cs,ar,rfl,_⟩
   ·obtain ⟨eg,cj,iS,dz,_⟩:=h.part ar (by simp);rw [h1] at iS;cases iS;obtain ⟨b0,mA,j0,_⟩:=dz.mO;cases j0;cases dz with
    | own aV=>exact ⟨rfl,_,_,aV⟩
    | ref j=>simp [ab.isRef] at j
   ·obtain ⟨v0,jj,BG,fQ⟩:=h.Ke ar;have a6:(⟨p.root,[]⟩:Place)=p:=by cases p; simp_all
    rw [a6,h1] at BG;cases BG;obtain ⟨bv,b2,bZ,us,ads,fQ⟩:=fQ.vJ;have a7:N=gL+m0:=by
     obtain ⟨_,bD⟩:=fQ.nq;rcases bD with ⟨bD,aA⟩ | ⟨g,cap,cur,bD,_⟩
     ·cases bD; omega
     ·cases bD; rfl
    subst a7;exact ⟨rfl,_,_,fQ.nq⟩
  obtain ⟨rfl,b8,us,iQ⟩:=lQ;have kf:dP w T g (.bC i.size p N 0 []) (.slice wu N wx):=⟨⟨wu,wx,h1,rfl⟩,cY⟩;obtain ⟨eg,w',bZ,h0,A⟩:=Pe (P:=P) (w:=w) t ty e b8 i c' hu hi aT oR aO iQ (a:=CT) (c:=J7) (m:=m) (news:=news) (λhm=>BA hm aO) ai IC (λu hu=>by
   obtain ⟨k,hk,rfl⟩:=List.mem_iff_getElem.1 hu;exact gT.2.1 k _ (List.getElem?_eq_getElem hk)) (by unfold maxLen; omega) av
  obtain ⟨bh,hrefs⟩:=h.app kf e8 A;refine ⟨eg,w',by simp [execOp,resolve,invoke,builtin,af,vC,h0],(λc=>eg.ownBlock=some c/\(Value.slice wu N wx).ownBlock≠some c),I,bh,?_,?_,?_,λ_ h=>h,λ_ h=>.inl h,?_,?_⟩
  ·have ba:∀ c,I c->w'.heap[c]?=w.heap[c]?:=by
    intro c aa;refine A.ek.block c (h.lt c aa) λav=>?_;obtain ⟨t,al⟩:=h.DC kf c av;exact h.bk t c al aa
   have kX:=gT.frame ba hrefs;exact .bC ⟨hrefs _ _ kf,A.jA,A.new,kX.1,kX.2.1,kX.2.2,λc=>Iff.rfl⟩
  ·rintro t c ⟨pq,Be⟩ aS;rcases A.yC c pq with h | aH
   ·exact Be h
   ·have:=h.jJ t c aS; omega
  ·rintro c ⟨pq,Be⟩;rcases A.yC c pq with aH | aH
   ·exact absurd aH Be
   ·exact ⟨aH,λhi=>by have:=h.lt c hi; omega⟩
  ·exact A.ek.mono λc _ aa=>h.DC kf c aa
  ·intro br OI cf bd cO he;cases he;exact e8
 | @nil s x t e _ z b m y cells aw j rU al nc av =>
  obtain ⟨i,c',hu,hi,rfl,rfl,aO,aT,oR⟩:=Lj al;have af:=(k7 h aw aQ).r2;obtain ⟨CT,J7,news,vC,ai,BA,IC,gT⟩:=rU.sound h (k7 h j aQ);obtain ⟨eg,w',bZ,h0,A⟩:=Pe (P:=P) (w:=w) t ty e e i c' hu hi aT oR aO (World.ownsRow_nil w 0 e i.size) (a:=CT) (c:=J7) (m:=m) (news:=news) (λhm=>BA hm aO) ai IC (λu hu=>by
   obtain ⟨k,hk,rfl⟩:=List.mem_iff_getElem.1 hu;exact gT.2.1 k _ (List.getElem?_eq_getElem hk)) (by unfold maxLen; omega) (by simpa using av)
  have same:∀ c,c<w.heap.size->w'.heap[c]?=w.heap[c]?:=λc aa=>A.ek.block c aa (by simp [Value.ownBlock]);have rR:=A.new;simp only [Nat.zero_add,List.nil_append] at rR;have kX:=gT.frame (λc aa=>same c (h.lt c aa)) λr v ah=>h.Fm (λ_ _=>rfl) (λt c aa=>same c (h.jJ t c aa)) (λ_ _ h=>h) ah;have hblk:∀ c,eg.ownBlock=some c->w.heap.size<=c:=λc aa=>(A.yC c aa).elim (λh=>by simp [Value.ownBlock] at h) id;refine ⟨eg,w',by simp [execOp,resolve,invoke,builtin,af,vC,h0],(λc=>eg.ownBlock=some c),I,h.world (λt c aa=>same c (h.jJ t c aa)) (λc aa=>same c (h.lt c aa)) A.ek.size,?_,?_,λc aa=>⟨hblk c aa,λhi=>by have:=h.lt c hi; have:=hblk c aa; omega⟩,λ_ h=>h,λ_ h=>.inl h,?_,?_⟩
  ·exact .tree (.own (Fs:=λ_=>cr) rR kX.1 kX.2.1 kX.2.2 (λ_ _ _ _ _ h=>h.elim) (λ_ _ _ h=>h.elim) λc=>⟨.inl,λh=>h.elim id λ⟨_,_,h⟩=>h.elim⟩)
  ·intro t c aa aS; have:=hblk c aa; have:=h.jJ t c aS; omega
  ·exact A.ek.mono λc _ aa=>by simp [Value.ownBlock] at aa
  ·intro br OI cf bd cO he; cases he
theorem b5.sound (h:cB w I T g Fs) {a:Act}(aQ:a.tmps=T) {o:Oper}{kn:ab}(ar:b5 P g o.op o.type kn) :
  ∃ v w',(execOp a.eval o).run P w=.ok (.value v) w'/\u2 w I T g Fs kn v w':=by
 have Cc:∀ {v:Value}{F:a_},R w I (dP w T g) kn v F->∀ z p n m new,kn=.bC z p n m new->∀ t br cf bd cO,g t≠some (.bC br p cf bd cO):=by
  rintro v F aY z p n m new rfl;exact aY.k4.elim
 cases ar with
 | eJ ar =>
  obtain ⟨v,ah,aY⟩:=ar.sound h aQ;exact ⟨v,w,ah,cr,I,h,.tree aY,λ_ _ h=>h.elim,λ_ h=>h.elim,λ_ h=>h,λ_ h=>.inl h,Fr.refl _ _,Cc aY⟩
 | Cj ar =>
  obtain ⟨v,ah,aY⟩:=ar.sound h aQ;exact ⟨v,w,ah,cr,I,h,.tree aY,λ_ _ h=>h.elim,λ_ h=>h.elim,λ_ h=>h,λ_ h=>.inl h,Fr.refl _ _,Cc aY⟩
 | q6 ar =>
  obtain ⟨v,r8,ah,aY⟩:=ar.sound h aQ;refine ⟨v,_,ah,_,I,h.alloc r8,.tree aY,λt c aa aS=>?_,λc aa=>⟨by rw [aa]; exact Nat.le_refl _,λhi=>by have:=h.lt c hi; omega⟩,λ_ h=>h,λ_ h=>.inl h,Fr.alloc w r8 _ (by
   obtain ⟨o,h1,af⟩:=aY.YH w.heap.size rfl;rw [rA] at h1;cases h1;exact af),?_⟩
  ·have:=h.jJ t c aS; omega
  ·rintro z p n m new rfl; exact aY.k4.elim
 | lD ar=>exact ar.sound h aQ
end
end Go.Own
namespace Go.Own
open Go
set_option linter.unusedSectionVars false
variable [cE]
inductive cA:ab->Prop
 | lit {v:Value}:cA (.lit v)
 | aU:cA .aU
 | dead:cA .dead
 | self {k:Nat × Nat}:cA (.self k)
 | bk {z n:Nat}{cs:List ab}(h:∀ x∈cs,cA x):cA (.bk z n cs)
 | own {z n:Nat}{cs:List ab}(h:∀ x∈cs,cA x):cA (.own z n cs)
 | obj {cs:List ab}(h:∀ x∈cs,cA x):cA (.obj cs)
 | agg {cs:List ab}(h:∀ x∈cs,cA x):cA (.agg cs)
 | bJ {cs:List ab}(h:∀ x∈cs,cA x):cA (.bJ cs)
 | cJ {cs:List ab}(h:∀ x∈cs,cA x):cA (.cJ cs)
 | di {fn:Fn}{a b:List ab}(h1:∀ x∈a,cA x) (af:∀ x∈b,cA x):cA (.di fn a b)
 | mp {p:Array MapEntry->Nat->Prop}:cA (.mp p)
 | eY {t:Nat}{us:List Value}:cA (.eY t us)
 | imp {p:Array MapEntry->Nat->Prop}:cA (.imp p)
inductive jP:ab->Prop
 | lit {v:Value}:jP (.lit v)
 | aU:jP .aU
 | dead:jP .dead
 | self {k:Nat × Nat}:jP (.self k)
 | own {z n:Nat}{cs:List ab}(h:∀ x∈cs,jP x):jP (.own z n cs)
 | obj {cs:List ab}(h:∀ x∈cs,jP x):jP (.obj cs)
 | agg {cs:List ab}(h:∀ x∈cs,jP x):jP (.agg cs)
 | bJ {cs:List ab}(h:∀ x∈cs,jP x):jP (.bJ cs)
 | mp {p:Array MapEntry->Nat->Prop}:jP (.mp p)
 | eY {t:Nat}{us:List Value}:jP (.eY t us)
theorem jP.bg {x:ab}(h:jP x):cA x:=by
 induction h with
 | lit=>exact .lit
 | aU=>exact .aU
 | dead=>exact .dead
 | self=>exact .self
 | own _ aL=>exact .own aL
 | obj _ aL=>exact .obj aL
 | agg _ aL=>exact .agg aL
 | bJ _ aL=>exact .bJ aL
 | mp=>exact .mp
 | eY=>exact .eY
inductive Rows (g:aI):Place->Nat->Nat->List ab->Prop
 | own {p:Place}{z n:Nat}{cs:List ab}(ar:bx g p=some (.own z n cs)):Rows g p z n cs
 | bC {t z n m:Nat}{q:Place}{new cs:List ab}(al:g t=some (.bC z q n m new)) (a6:Rows g q z n cs):Rows g ⟨t,[]⟩ z (n+m) (cs++new)
theorem Rows.mono {g g':aI}(h:∀ {p:Place}{y:ab},bx g p=some y->bx g' p=some y) {p:Place}{z n:Nat}{cs:List ab}(ah:Rows g p z n cs) (af:∀ t x,g t=some x->g' t=some x):Rows g' p z n cs:=by
 induction ah with
 | own ar=>exact .own (h ar)
 | bC al _ aL=>exact .bC (af _ _ al) aL
inductive View (g:aI):ab->ab->Prop
 | self {x:ab}(h:cA x) (j:∀ z n cs,x≠.own z n cs) (aV:∀ cs,x≠.obj cs) (aQ:∀ cs,x≠.agg cs) (al:∀ cs,x≠.bJ cs) (hm:(∀ p,x≠.mp p)/\∀ t us,x≠.eY t us):View g x x
 | mp {p:Array MapEntry->Nat->Prop}:View g (.mp p) (.imp p)
 | hf {p:Place}{q:Array MapEntry->Nat->Prop}(ar:bx g p=some (.mp q)):View g (.hf p) (.imp q)
 | qt {z:Nat}:View g .aU (.bk z 0 [])
 | agg {cs cs':List ab}(ai:cs'.length=cs.length) (h:∀ (k:Nat) (x y:ab),cs[k]?=some x->cs'[k]?=some y->View g x y):View g (.agg cs) (.agg cs')
 | own {z n:Nat}{cs cs':List ab}(ai:cs'.length=cs.length) (h:∀ (k:Nat) (x y:ab),cs[k]?=some x->cs'[k]?=some y->View g x y):View g (.own z n cs) (.bk z n cs')
 | obj {cs cs':List ab}(ai:cs'.length=cs.length) (h:∀ (k:Nat) (x y:ab),cs[k]?=some x->cs'[k]?=some y->View g x y):View g (.obj cs) (.cJ cs')
 | bl {z n N:Nat}{p:Place}{cs cs':List ab}(ar:bx g p=some (.own z N cs)) (aA:n<=N) (ai:cs'.length=(cs.take (n * z)).length) (h:∀ (k:Nat) (x y:ab),(cs.take (n * z))[k]?=some x->cs'[k]?=some y->View g x y):View g (.bl z p n) (.bk z n cs')
 | sub {z lo n N:Nat}{p:Place}{cs cs':List ab}(ar:bx g p=some (.own z N cs)) (aA:lo+n<=N) (ai:cs'.length=((cs.drop (lo * z)).take (n * z)).length) (h:∀ (k:Nat) (x y:ab),((cs.drop (lo * z)).take (n * z))[k]?=some x->cs'[k]?=some y->View g x y):View g (.sub z p lo n) (.bk z n cs')
 | ptr {p:Place}{k z n:Nat}{y:ab}{cs cs':List ab}(ar:bx g p=some y) (ak:y=.own z n cs\/y=.obj cs) (hk:k<cs.length) (ai:cs'.length=(cs.drop k).length) (h:∀ (J:Nat) (x y:ab),(cs.drop k)[J]?=some x->cs'[J]?=some y->View g x y):View g (.ptr p k) (.cJ cs')
 | di {fn:Fn}{cs cs':List ab}(ai:cs'.length=cs.length) (h:∀ (k:Nat) (x y:ab),cs[k]?=some x->cs'[k]?=some y->View g x y):View g (.di fn [] cs) (.di fn [] cs')
 | rows {z n:Nat}{p:Place}{cs cs':List ab}(ar:Rows g p z n cs) (ai:cs'.length=cs.length) (h:∀ (k:Nat) (x y:ab),cs[k]?=some x->cs'[k]?=some y->View g x y):View g (.bl z p n) (.bk z n cs')
section
variable {P:Program}{w:World}{I:a_}{T:Array Value}{g:aI}{Fs:Nat->a_}
theorem R.bg {ρ ρ':ab->Value->Prop}{x:ab}{v:Value}{F:a_}(h:R w I ρ x v F):cA x->R w I ρ' x v F:=by
 induction h with
 | lit h aG=>exact λ_=>.lit h aG
 | aU aG=>exact λ_=>.aU aG
 | dead aG=>exact λ_=>.dead aG
 | l1 aG=>exact λ_=>.l1 aG
 | @ref x _ _ j h aG=>intro aA; cases aA <;> simp [ab.isRef] at j
 | hn aG=>exact λ_=>.hn aG
 | bk aG kW ba aw ai h1 aa ah aL=>exact λaA=>.bk aG kW ba aw ai h1 aa λk x j=>aL k x j (by cases aA with | bk h=>exact h x (List.mem_of_getElem? j))
 | cJ aG ba aw h1 aa ah aL=>exact λaA=>.cJ aG ba aw h1 aa λk x j=>aL k x j (by cases aA with | cJ h=>exact h x (List.mem_of_getElem? j))
 | own aV ai h1 ah aP av aG aL=>exact λaA=>.own aV ai h1 (λk x u j hu=>aL k x u j hu (by cases aA with | own h=>exact h x (List.mem_of_getElem? j))) aP av aG
 | obj aV ai h1 ah aP av aG aw aL=>exact λaA=>.obj aV ai h1 (λk x u j hu=>aL k x u j hu (by cases aA with | obj h=>exact h x (List.mem_of_getElem? j))) aP av aG aw
 | agg ai h1 ah aP aG aL=>exact λaA=>.agg ai h1 (λk x u j hu=>aL k x u j hu (by cases aA with | agg h=>exact h x (List.mem_of_getElem? j))) aP aG
 | bJ ai ah aP aG aL=>exact λaA=>.bJ ai (λk x u j hu=>aL k x u j hu (by cases aA with | bJ h=>exact h x (List.mem_of_getElem? j))) aP aG
 | mp aV ar aG=>exact λ_=>.mp aV ar aG
 | eY aV h1 aG=>exact λ_=>.eY aV h1 aG
 | imp aG ba aV ar=>exact λ_=>.imp aG ba aV ar
 | di aG h1 af iR ij gb fR=>exact λaA=>.di aG h1 af (λk x u j hu=>gb k x u j hu (by cases aA with | di h _=>exact h x (List.mem_of_getElem? j))) (λk x u j hu=>fR k x u j hu (by cases aA with | di _ h=>exact h x (List.mem_of_getElem? j)))
theorem R.nC {ρ:ab->Value->Prop}{I':a_}{x:ab}{v:Value}{F:a_}(h:R w I ρ x v F) (ba:∀ c,I c->I' c):R w I' ρ x v F :=
 h.frame (λ_ _=>rfl) ba (λ_ _ h=>h) λ_ _=>rfl
theorem R.k6 {ρ ρ':ab->Value->Prop}{I':a_}{x:ab}{v:Value}{F:a_}(h:R w I ρ x v F):jP x->R w I' ρ' x v F:=by
 induction h with
 | lit h aG=>exact λ_=>.lit h aG
 | aU aG=>exact λ_=>.aU aG
 | dead aG=>exact λ_=>.dead aG
 | l1 aG=>exact λ_=>.l1 aG
 | @ref x _ _ j h aG=>intro aA; cases aA <;> simp [ab.isRef] at j
 | hn=>intro aA; cases aA
 | bk=>intro aA; cases aA
 | cJ=>intro aA; cases aA
 | own aV ai h1 ah aP av aG aL=>exact λaA=>.own aV ai h1 (λk x u j hu=>aL k x u j hu (by cases aA with | own h=>exact h x (List.mem_of_getElem? j))) aP av aG
 | obj aV ai h1 ah aP av aG aw aL=>exact λaA=>.obj aV ai h1 (λk x u j hu=>aL k x u j hu (by cases aA with | obj h=>exact h x (List.mem_of_getElem? j))) aP av aG aw
 | agg ai h1 ah aP aG aL=>exact λaA=>.agg ai h1 (λk x u j hu=>aL k x u j hu (by cases aA with | agg h=>exact h x (List.mem_of_getElem? j))) aP aG
 | bJ ai ah aP aG aL=>exact λaA=>.bJ ai (λk x u j hu=>aL k x u j hu (by cases aA with | bJ h=>exact h x (List.mem_of_getElem? j))) aP aG
 | di=>intro aA; cases aA
 | mp aV ar aG=>exact λ_=>.mp aV ar aG
 | eY aV h1 aG=>exact λ_=>.eY aV h1 aG
 | imp=>intro aA; cases aA
theorem R.zq {ρ:ab->Value->Prop}{z n:Nat}{cs:List ab}{v:Value}{F:a_}(h:R w I ρ (.own z n cs) v F):∃ (a:Option Addr) (cap:Nat) (us:Nat->Value) (bV:Nat->a_),v=.slice a n cap/\n<=cap/\cs.length=n * z /\
  (∀ ad,a=some ad->∃ b,ad=⟨b,0,none⟩/\F b)/\(∀ (k:Nat) (x:ab),cs[k]?=some x->∃ b,a=some ⟨b,0,none⟩/\w.cell? ⟨b,k,none⟩=some (us k)/\(us k).oneCell'=true/\R w I ρ x (us k) (bV k)/\∀ c,bV k c->F c):=by
 have aO:=h;cases h with
 | ref j=>simp [ab.isRef] at j
 | @own _ _ _ _ e us Fs _ aV ai h1 ah aP av aG =>
  obtain ⟨a,cap,rfl,aA,hlen,qY,uo⟩:=aO.mO;refine ⟨a,cap,λk=>us.getD k undef,Fs,rfl,aA,hlen,λad fo=>?_,λk x hk=>?_⟩
  ·obtain ⟨Br,Bs⟩:=qY ad fo;obtain ⟨b,o,sp⟩:=ad;simp only at Br Bs;subst Br Bs;exact ⟨b,rfl,(aG b).2 (.inl (by rw [fo]; rfl))⟩
  ·have aR:k<cs.length:=(List.getElem?_eq_some_iff.1 hk).1;have hu:us[k]?=some us[k]:=List.getElem?_eq_getElem (ai ▸ aR);obtain ⟨b,u,fo,me,ni,gu,_⟩:=aO.node (.inl rfl) hk;have:a=some ⟨b,0,none⟩:=by
    cases a with
    | none=>simp [addrOf] at fo
    | some ad=>simp only [addrOf] at fo; rw [Option.some.inj fo]
   grind [oW]
theorem R.E4 {ρ:ab->Value->Prop}{y:ab}{v:Value}{F:a_}{z n:Nat}{cs:List ab}(h:R w I ρ y v F) (ak:y=.own z n cs\/y=.obj cs) {ad:Addr}(aQ:addrOf v=some ad):F ad.block:=by
 rcases ak with rfl | rfl
 ·obtain ⟨a,cap,rfl,_⟩:=h.mO;refine h.qu _ ?_;cases a with
  | none=>simp [addrOf] at aQ
  | some a=>simp only [addrOf,Option.some.injEq] at aQ; subst aQ; rfl
 ·cases h with
  | ref j=>simp [ab.isRef] at j
  | obj aV ai h1 ah aP av aG=>simp only [addrOf,Option.some.injEq] at aQ; subst aQ; exact (aG _).2 (.inl rfl)
theorem Yb {w:World}{e b8:TypeId}{z n:Nat}{v:Value}{us iD:List Value}(h:w.ownsRow 0 e z v n us) (aH:w.ownsRow 0 b8 z v n iD):us=iD:=by
 obtain ⟨h1,af⟩:=h;obtain ⟨aF,bu⟩:=aH;rcases af with ⟨rfl,rfl⟩ | ⟨b,cap,cur,rfl,_,bD,_,_,_,al⟩
 ·grind
 grind
theorem Rows.sound {ρ:ab->Value->Prop}(H1:∀ t z q n m new,g t=some (.bC z q n m new)->∃ v,T[t]?=some v/\jq w I ρ (.bC z q n m new) v (Fs t))
  (QY:∀ p z n cs,bx g p=some (.own z n cs)->∃ v cj,dS w T p=some v/\R w I ρ (.own z n cs) v cj/\∀ c,cj c->Fs p.root c) (Ah:∀ z p n v,ρ (.bC z p n 0 []) v->dS w T p=some v) {p:Place}{z n:Nat}{cs:List ab}(h:Rows g p z n cs) :
  ∃ v e us,dS w T p=some v/\w.ownsRow 0 e z v n us/\us.length=cs.length/\(∀ (k:Nat) (u:Value),us[k]?=some u->u.oneCell'=true)/\(∀ c,v.ownBlock=some c->∃ t,Fs t c) /\
   (∀ (k:Nat) (x:ab) (u:Value),cs[k]?=some x->us[k]?=some u->∃ bV,R w I ρ x u bV/\∀ c,bV c->∃ t,Fs t c):=by
 induction h with
 | @own p z n cs ar =>
  obtain ⟨v,cj,hv,aY,aG⟩:=QY p z n cs ar;cases aY with
  | ref j=>simp [ab.isRef] at j
  | @own _ _ _ _ e us bV _ aV ai h1 ah aP av lN =>
   grind
 | @bC t z n m q new cs al _ aL =>
  obtain ⟨v,hv,aY⟩:=H1 t z q n m new al;obtain ⟨v0,e,us,jj,aV,ai,h1,av,ah⟩:=aL;cases aY with
  | tree aY=>exact aY.k4.elim
  | @bC _ _ _ _ _ _ bv b2 bZ aai news _ aY =>
   have gQ:=Ah _ _ _ _ aY.kf;rw [jj] at gQ;cases gQ;have:=Yb aV aY.iQ;subst this;refine ⟨v,bZ,us++news,by simp [dS,hv,walk],aY.nq,by rw [List.length_append,List.length_append,ai,aY.ai],λk u hu=>?_,λc aa=>?_,λk x u j hu=>?_⟩
   ·by_cases hk:k<us.length
    ·grind
    ·rw [List.getElem?_append_right (by omega)] at hu; exact aY.h1 _ u hu
   ·by_cases qd:v0.ownBlock=some c
    ·grind
    ·exact ⟨t,(aY.aG c).2 ⟨aa,qd⟩⟩
   ·by_cases hk:k<us.length
    ·grind
    ·rw [List.getElem?_append_right (by omega)] at j;rw [List.getElem?_append_right (by omega),ai] at hu;exact ⟨_,aY.ah _ x u j hu,λc aa=>aa.elim⟩
theorem O7 {ρ':ab->Value->Prop}{e:TypeId}{z n N cap:Nat}{a:Option Addr}{us:List Value}{cs cs':List ab}(aV:w.ownsRow 0 e z (.slice a N cap) n us) (hlen:us.length=cs.length) (h1:∀ (k:Nat) (u:Value),us[k]?=some u->u.oneCell'=true) (av:∀ c,(Value.slice a N cap).ownBlock=some c->∃ t,Fs t c) (ai:cs'.length=cs.length)
  (ah:∀ (k:Nat) (x y:ab) (u:Value),cs[k]?=some x->cs'[k]?=some y->us[k]?=some u->R w (λc=>I c\/∃ t,Fs t c) ρ' y u cr):R w (λc=>I c\/∃ t,Fs t c) ρ' (.bk z n cs') (.slice a n cap) cr:=by
 obtain ⟨Ng,aV⟩:=aV;rcases aV with ⟨gQ,aO⟩ | ⟨b,rH,cur,b2,_,bD,Ej,aa,aw,al⟩
 ·cases gQ;subst aO;have kX:cs'=[]:=List.eq_nil_of_length_eq_zero (by rw [ai,<- hlen,Ng]; simp);subst kX;exact .hn λ_ h=>h
 ·cases b2;refine .bk (us:=λk=>us.getD k undef) (λ_ h=>h) Ej (.inr (av b rfl)) rfl (by rw [ai,<- hlen,Ng]) (λk y ak=>?_) (λk y ak=>?_) λk y ak=>?_
  all_goals
   have hk:k<us.length:=by rw [hlen,<- ai]; exact (List.getElem?_eq_some_iff.1 ak).1
   have hu:us[k]?=some us[k]:=List.getElem?_eq_getElem hk;have aK:us.getD k undef=us[k]:=by simp [List.getD,hu]
  ·grind
  ·rw [aK];have y_:∀ u,us[k]?=some u->w.cell? ⟨b,k,none⟩=some u:=λu y_=>by
    rw [<- al,List.getElem?_take] at y_
    split at y_
    ·simpa [World.cell?,bD] using y_
    grind
   grind
  grind
theorem View.sound (h:cB w I T g Fs) {x x':ab}(hv:View g x x'):∀ {v:Value}{F:a_},R w I (dP w T g) x v F->(∀ c,F c->∃ t,Fs t c)->∀ ρ',R w (λc=>I c\/∃ t,Fs t c) ρ' x' v cr:=by
 induction hv with
 | qt =>
  intro v F aY aG ρ';have:=aY.r2;subst this;exact .hn λ_ h=>h
 | mp =>
  intro v F aY aG ρ';cases aY with
  | ref j=>simp [ab.isRef] at j
  | mp aV ar av=>exact .imp (λ_ h=>h) (.inr (aG _ ((av _).2 rfl))) aV ar
 | hf ar =>
  intro v F aY aG ρ';cases aY with
  | ref _ ah _ =>
   obtain ⟨⟨b,av,rfl⟩,_⟩:=ah;obtain ⟨eg,cj,iS,dz,df⟩:=h.part ar (by simp);rw [av] at iS;cases iS;cases dz with
   | ref j=>simp [ab.isRef] at j
   | mp aV ar av=>exact .imp (λ_ h=>h) (.inr ⟨_,df _ ((av _).2 rfl)⟩) aV ar
 | self aA h1 af aF bu ct =>
  intro v F aY aG ρ';refine ((aY.bg aA).nC λc aa=>.inl aa).empty ?_;cases aY with
  | mp=>exact absurd rfl (ct.1 _)
  | eY=>exact absurd rfl (ct.2 _ _)
  | lit _ aG | aU aG | dead aG | l1 aG | ref _ _ aG | hn aG | bk aG | cJ aG | di aG | imp aG=>exact aG
  | own=>exact absurd rfl (h1 _ _ _)
  | obj=>exact absurd rfl (af _)
  | agg=>exact absurd rfl (aF _)
  | bJ=>exact absurd rfl (bu _)
 | @agg cs cs' ai _ aL =>
  intro v F aY aG ρ';cases aY with
  | ref j=>simp [ab.isRef] at j
  | @agg _ vs bV _ hF h1 ah aP lN =>
   refine .agg (Fs:=λ_=>cr) (by rw [ai,hF]) h1 (λk y u ak hu=>?_) (λ_ _ _ _ _ h=>h.elim) (λc=>⟨λh=>h.elim,λ⟨_,_,h⟩=>h⟩);have hk:k<cs.length:=by rw [<- ai]; exact (List.getElem?_eq_some_iff.1 ak).1
   have j:=List.getElem?_eq_getElem hk;exact aL k _ y j ak (ah k _ u j hu) (λc aa=>aG c ((lN c).2 ⟨k,hk,aa⟩)) ρ'
 | @di fn cs cs' ai _ aL =>
  intro v F aY aG ρ';cases aY with
  | ref j=>simp [ab.isRef] at j
  | @di _ _ _ v1 v2 _ tW h1 af iR ij =>
   refine .di (λ_ h=>h) h1 (by rw [ai,af]) (λk x u j=>by simp at j) (λk y u ak hu=>?_);have hk:k<cs.length:=by rw [<- ai]; exact (List.getElem?_eq_some_iff.1 ak).1
   have j:=List.getElem?_eq_getElem hk;exact aL k _ y j ak (ij k _ u j hu) (λc aa=>aa.elim) ρ'
 | @own z n cs cs' ai _ aL =>
  intro v F aY aG ρ';obtain ⟨a,cap,us,bV,rfl,aA,hlen,aQ,aa⟩:=aY.zq;cases a with
  | none =>
   have gT:cs=[]:=by
    cases cs with
    | nil=>rfl
    | cons c cs=>obtain ⟨b,av,_⟩:=aa 0 c rfl; cases av
   subst gT;have kX:cs'=[]:=List.eq_nil_of_length_eq_zero (by simpa using ai);subst kX;have ji:n=0:=by
    cases aY with
    | ref j=>simp [ab.isRef] at j
    | own aV =>
     obtain ⟨_,bD⟩:=aV;rcases bD with ⟨bD,aO⟩ | ⟨b,c2,cur,bD,_⟩
     ·exact aO
     ·cases bD
   subst ji;exact .hn λ_ h=>h
  | some ad =>
   obtain ⟨b,rfl,lO⟩:=aQ ad rfl;refine .bk (us:=us) (λ_ h=>h) aA (.inr (aG b lO)) rfl (by rw [ai,hlen]) (λk y ak=>?_) (λk y ak=>?_) λk y ak=>?_
   all_goals
    have hk:k<cs.length:=by rw [<- ai]; exact (List.getElem?_eq_some_iff.1 ak).1
    have j:=List.getElem?_eq_getElem hk;obtain ⟨dV,h9,h1,af,aF,bu⟩:=aa k _ j;cases h9
   ·exact af
   ·simpa using h1
   ·exact aL k _ y j ak aF (λc aa=>aG c (bu c aa)) ρ'
 | @obj cs cs' ai _ aL =>
  intro v F aY aG ρ';cases aY with
  | ref j=>simp [ab.isRef] at j
  | @obj _ b e arr bV _ aV hF h1 ah aP av lN =>
   refine .cJ (us:=λk=>arr.getD k undef) (λ_ h=>h) (.inr (aG b ((lN b).2 (.inl rfl)))) rfl (λk y ak=>?_) (λk y ak=>?_) λk y ak=>?_
   all_goals
    have hk:k<cs.length:=by rw [<- ai]; exact (List.getElem?_eq_some_iff.1 ak).1
    have j:=List.getElem?_eq_getElem hk;have hu:arr[k]?=some arr[k]:=Array.getElem?_eq_getElem (hF ▸ hk)
   ·simpa [hu] using h1 k _ hu
   ·simp [World.cell?,aV,hu]
   ·simpa [hu] using aL k _ y j ak (ah k _ _ j hu) (λc aa=>aG c ((lN c).2 (.inr ⟨k,hk,aa⟩))) ρ'
 | @bl z n N p cs cs' ar aA ai _ aL =>
  intro v F aY aG ρ';obtain ⟨⟨a,iK,cap,h1,rfl,aF⟩,_⟩:=aY.mN;obtain ⟨qD,qJ,gA,hl,l'⟩:=h.part ar (by simp);rw [h1] at gA;cases gA;obtain ⟨a2,rH,us,bV,j0,kW,hlen,aQ,aa⟩:=hl.zq;cases j0;have hle:n * z<=N * z:=Nat.mul_le_mul_right _ aA;have cell:∀ k,k<cs'.length->∃ x b,(cs.take (n * z))[k]?=some x/\a=some ⟨b,0,none⟩/\w.cell? ⟨b,k,none⟩=some (us k)/\(us k).oneCell'=true/\R w I (dP w T g) x (us k) (bV k)/\∀ c,bV k c->qJ c:=by
   intro k hk;rw [ai,List.length_take] at hk;have j:cs[k]?=some cs[k]:=List.getElem?_eq_getElem (by omega);obtain ⟨b,r⟩:=aa k _ j;exact ⟨_,b,by rw [List.getElem?_take,if_pos (by omega)]; exact j,r⟩
  cases a with
  | none =>
   have kX:cs'=[]:=by
    cases cs' with
    | nil=>rfl
    | cons c l=>obtain ⟨_,b,_,av,_⟩:=cell 0 (by simp); cases av
   subst kX;obtain ⟨_,_,j0,_,_,_,uo⟩:=hl.mO;cases j0;have ji:n=0:=by
    rcases Nat.eq_zero_or_pos n with aO | aO
    ·exact aO
    ·have:=uo (by omega); simp at this
   subst ji;exact .hn λ_ h=>h
  | some ad =>
   obtain ⟨b,rfl,lO⟩:=aQ ad rfl;refine .bk (us:=us) (λ_ h=>h) (by omega) (.inr ⟨_,l' b lO⟩) rfl (by rw [ai,List.length_take,hlen]; omega) (λk y ak=>?_) (λk y ak=>?_) λk y ak=>?_
   all_goals
    obtain ⟨x,dV,j,h9,bu,ct,dJ,kV⟩:=cell k (List.getElem?_eq_some_iff.1 ak).1;cases h9
   ·exact ct
   ·simpa using bu
   ·exact aL k x y j ak dJ (λc aa=>⟨_,l' c (kV c aa)⟩) ρ'
 | @sub z lo n N p cs cs' ar aA ai _ aL =>
  intro v F aY aG ρ';obtain ⟨⟨a,iK,cap,b0,mA,h1,rfl,Iv,aF,ct⟩,_⟩:=aY.xa;obtain ⟨qD,qJ,gA,hl,l'⟩:=h.part ar (by simp);rw [h1] at gA;cases gA;obtain ⟨a2,rH,us,bV,j0,kW,hlen,aQ,aa⟩:=hl.zq;cases j0;have hle:lo * z+n * z<=N * z:=by rw [<- Nat.add_mul]; exact Nat.mul_le_mul_right _ aA
  have hF:cs'.length=n * z:=by rw [ai,List.length_take,List.length_drop,hlen]; omega
  have cell:∀ k,k<cs'.length->∃ x b,((cs.drop (lo * z)).take (n * z))[k]?=some x/\a=some ⟨b,0,none⟩/\w.cell? ⟨b,lo * z+k,none⟩=some (us (lo * z+k))/\(us (lo * z+k)).oneCell'=true/\R w I (dP w T g) x (us (lo * z+k)) (bV (lo * z+k))/\∀ c,bV (lo * z+k) c->qJ c:=by
   intro k hk;have j:cs[lo * z+k]?=some cs[lo * z+k]:=List.getElem?_eq_getElem (by omega);obtain ⟨b,r⟩:=aa _ _ j;exact ⟨_,b,by rw [List.getElem?_take,if_pos (by omega),List.getElem?_drop]; exact j,r⟩
  by_cases ji:n=0
  ·subst ji;have kX:cs'=[]:=List.eq_nil_of_length_eq_zero (by simpa using hF);subst kX;exact .hn λ_ h=>h
  ·obtain ⟨ad,rfl,rfl⟩:=ct (by omega);obtain ⟨b,rfl,lO⟩:=aQ ad rfl;refine .bk (us:=λk=>us (lo * z+k)) (λ_ h=>h) Iv (.inr ⟨_,l' b lO⟩) rfl hF (λk y ak=>?_) (λk y ak=>?_) λk y ak=>?_
   all_goals
    obtain ⟨x,dV,j,h9,bu,Hn,dJ,kV⟩:=cell k (List.getElem?_eq_some_iff.1 ak).1;cases h9
   ·exact Hn
   ·simpa using bu
   ·exact aL k x y j ak dJ (λc aa=>⟨_,l' c (kV c aa)⟩) ρ'
 | @ptr p k z n y cs cs' ar ak hk ai _ aL =>
  intro v F aY aG ρ';obtain ⟨⟨u,ad,h1,af,rfl⟩,_⟩:=aY.ny;obtain ⟨qD,qJ,gA,hl,l'⟩:=h.part ar (by rcases ak with rfl | rfl <;> simp);rw [h1] at gA;cases gA;have cell:∀ J,J<cs'.length->∃ gD kK wi,w.cell? ⟨ad.block,k+J,none⟩=some gD/\gD.oneCell'=true/\(cs.drop k)[J]?=some kK/\R w I (dP w T g) kK gD wi/\(∀ c,wi c->∃ t,Fs t c):=by
   intro J aj;rw [ai,List.length_drop] at aj;have fM:cs[k+J]?=some cs[k+J]:=List.getElem?_eq_getElem (by omega);obtain ⟨b,gD,fo,me,ni,gu,_⟩:=hl.node ak fM;rw [af] at fo;cases fo;have fx:bx g (p.push (k+J))=some cs[k+J]:=by rw [tM,ar]; rcases ak with rfl | rfl <;> simp [ab.kids]
   by_cases gv:∃ br gx cf bd cO,cs[k+J]=.bC br gx cf bd cO
   ·obtain ⟨br,gx,cf,bd,cO,gv⟩:=gv;obtain ⟨b,aak,_,_,Bf,_,bV,jY⟩:=hl.node ak fM;rw [gv] at jY;exact jY.k4.elim
   ·obtain ⟨pU,Gb,rW,HB,lN⟩:=h.part fx (λbr gx cf bd cO e=>gv ⟨_,_,_,_,_,e⟩);rw [xY,h1] at rW;simp only [Option.bind_some] at rW;rw [ni] at rW;cases rW;exact ⟨gD,_,Gb,me,gu,by rw [List.getElem?_drop]; exact fM,HB,λc aa=>⟨_,lN c aa⟩⟩
  obtain ⟨b,gD,fo,_⟩:=hl.node ak (List.getElem?_eq_getElem hk);rw [af] at fo;cases fo;have hblk:∃ t,Fs t b:=⟨_,l' b (hl.E4 ak af)⟩;refine .cJ (us:=λJ=>(w.cell? ⟨b,k+J,none⟩).getD undef) (λ_ h=>h) (.inr hblk) rfl (λJ iE s0=>?_) (λJ iE s0=>?_) λJ iE s0=>?_
  all_goals
   obtain ⟨gD,kK,wi,c1,c2,jt,c4,oC⟩:=cell J (List.getElem?_eq_some_iff.1 s0).1
  ·simpa [c1] using c2
  ·simp [c1]
  ·simpa [c1] using aL J kK iE jt s0 c4 oC ρ'
 | @rows z n p cs cs' ar ai _ aL =>
  intro v F aY aG ρ';obtain ⟨a,iK,cap,h1,rfl,aF⟩:=aY.mN.1;obtain ⟨v0,e,us,jj,aV,hlen,mF,av,ah⟩:=Rows.sound (w:=w) (I:=I) (T:=T) (Fs:=Fs) (λt z q n m new al=>h.rel t _ al) (λp z n cs ar=>h.part ar (by simp)) (λz p n v hv=>by obtain ⟨⟨a,cap,h1,rfl⟩,_⟩:=hv; exact h1) ar;rw [h1] at jj;cases jj;refine O7 aV hlen mF av ai λk x y u j ak hu=>?_;obtain ⟨bV,jY,e0⟩:=ah k x u j hu;exact aL k x y j ak jY e0 ρ'
end
end Go.Own
namespace Go.Own
open Go
set_option linter.unusedSectionVars false
variable [cE]
def pg (args:List ab):aI:=λt=>args[t]?
def lX (outs:List (Option ab)) (res:ab):aI:=λt=>if t=outs.length then some res else (outs[t]?).join
structure kR (w:World) (I U:a_) (w':World) (I' U':a_):Prop where
 ek:Fr w w' U
 more:∀ c,I c->I' c
 new:∀ c,I' c->I c\/U c\/w.heap.size<=c
 own:∀ c,U' c->U c\/w.heap.size<=c
def b7 (P:Program) (f:FuncId) (args:List ab) (outs:List (Option ab)) (res:ab):Prop :=
 outs.length=args.length/\∀ (w:World) (I:a_) (vs:List Value) (Fs:Nat->a_),vs.length=args.length->cB w I vs.toArray (pg args) Fs ->
  Calls P f vs.toArray w λe w'=>∃ v I' b1,e=.returned v/\cB w' I' (vs++[v]).toArray (lX outs res) b1/\kR w I (λc=>∃ t,Fs t c) w' I' (λc=>∃ t,b1 t c)
def ju (P:Program) (f:FuncId):Bool :=
 match P.funcs[f]? with
 | some fn => fn.name != "runtime.NumGoroutine" && fn.body.isSome
 | none=>false
inductive dd (P:Program) (g:aI):Op->ab->Prop
 | plain {c:Operand}{xs:Array Operand}{gh:Array TypeId}{f:FuncId}{first caps ys:List ab}{res:ab}(aa:bm g c=some (.di (.func f) first caps)) (j:fB g xs.toList=some ys) (aS:ju P f=true)
   (aA:∀ y∈first++ys++caps,cA y) (gS:b7 P f (first++ys++caps) ((first++ys++caps).map λ_=>none) res) (ah:cA res):dd P g (.call { callee:=.value c,args:=xs,argTypes:=gh }) res
 | EO {c:Operand}{xs:Array Operand}{gh:Array TypeId}{f:FuncId}{first caps ys args:List ab}{res:ab}(aa:bm g c=some (.di (.func f) first caps)) (j:fB g xs.toList=some ys) (aS:ju P f=true)
   (ai:args.length=(first++ys++caps).length) (hv:∀ (k:Nat) (x y:ab),(first++ys++caps)[k]?=some x->args[k]?=some y->View g x y) (gS:b7 P f args (args.map λ_=>none) res) (ah:jP res) :
   dd P g (.call { callee:=.value c,args:=xs,argTypes:=gh }) res
section
variable {P:Program}{w:World}{I:a_}{T:Array Value}{g:aI}{Fs:Nat->a_}
theorem GN {f:FuncId}(h:ju P f=true) (args:Array Value):(callFunc f args).run P w=.ok (.enter f args) w:=by
 unfold ju at h;cases aS:P.funcs[f]? with
 | none=>simp [aS] at h
 | some fn =>
  simp [aS] at h;obtain ⟨h1,af⟩:=h;cases av:fn.body with
  | none=>simp [av] at af
  | some c=>simp [callFunc,aS,h1,av]
theorem GM (h:cB w I T g Fs) {a:Act}(aQ:a.tmps=T) {c:Operand}{xs:Array Operand}{f:FuncId}{first caps ys:List ab}(aa:bm g c=some (.di (.func f) first caps)) (j:fB g xs.toList=some ys) :
  ∃ v1 v2:Array Value,a.eval c=.func (.func f) v1 v2/\(first++ys++caps).length=(v1++xs.map a.eval++v2).toList.length /\
   ∀ (k:Nat) (x:ab) (u:Value),(first++ys++caps)[k]?=some x->(v1++xs.map a.eval++v2).toList[k]?=some u->R w I (dP w T g) x u cr:=by
 have MM:=k7 h aa aQ;obtain ⟨ai,ah⟩:=zp h aQ j;generalize vl:a.eval c=adG at MM;cases MM with
 | ref j=>simp [ab.isRef] at j
 | @di _ _ _ v1 v2 _ _ h1 af iR ij =>
  have hlen:xs.size=ys.length:=by rw [<- Array.length_toList,ai]
  refine ⟨v1,v2,rfl,by simp [h1,af,hlen],λk x u qm px=>?_⟩;simp only [Array.toList_append,Array.toList_map] at px;by_cases gj:k<first.length
  ·rw [List.append_assoc,List.getElem?_append_left gj] at qm;rw [List.append_assoc,List.getElem?_append_left (by simp; omega)] at px;exact iR k x u qm (by simpa using px)
  ·rw [List.append_assoc,List.getElem?_append_right (by omega)] at qm;rw [List.append_assoc,List.getElem?_append_right (by simp; omega)] at px;simp only [Array.length_toList,<- h1] at px;by_cases fL:k - first.length<ys.length
   ·rw [List.getElem?_append_left fL] at qm;rw [List.getElem?_append_left (by simp; omega),List.getElem?_map] at px;cases I0:xs.toList[k - first.length]? with
    | none=>rw [I0] at px; cases px
    | some o=>rw [I0] at px; cases px; exact ah _ x o qm I0
   ·rw [List.getElem?_append_right (by omega)] at qm;rw [List.getElem?_append_right (by simp; omega)] at px;simp only [List.length_map,Array.length_toList] at px;rw [hlen] at px;exact ij _ x u qm (by simpa using px)
theorem cB.args {I':a_}(h:cB w I T g Fs) (nV:∀ c,I c->I' c) (ba:∀ c,I' c->I c\/∃ t,Fs t c) {args:List ab}{vs:List Value}(ai:args.length=vs.length)
  (ah:∀ (ρ':ab->Value->Prop) (k:Nat) (x:ab) (u:Value),args[k]?=some x->vs[k]?=some u->R w I' ρ' x u cr):cB w I' vs.toArray (pg args) (λ_=>cr):=by
 refine ⟨λt x j=>?_,λ_ _ _ h=>h,λ_ _ _ h=>h.elim,λ_ _ h=>h.elim,λc aa=>?_,λt t' z p n m new br cf bd cO h1 af=>?_,cE.keep h.gl (λ_ _=>rfl) nV⟩
 ·have al:t<args.length:=(List.getElem?_eq_some_iff.1 j).1;have hu:vs[t]?=some vs[t]:=List.getElem?_eq_getElem (ai ▸ al);exact ⟨vs[t],by rw [List.getElem?_toArray]; exact hu,.tree (ah _ t x _ j hu)⟩
 ·rcases ba c aa with aH | ⟨t,aH⟩
  ·exact h.lt c aH
  ·exact h.jJ t c aH
 ·have al:t<args.length:=(List.getElem?_eq_some_iff.1 h1).1;exact (ah (λ_ _=>False) t _ _ h1 (List.getElem?_eq_getElem (ai ▸ al))).k4.elim
theorem dd.sound (h:cB w I T g Fs) {a:Act}(aQ:a.tmps=T) {o:Oper}{kn:ab}(ar:dd P g o.op kn) {K:Act->World->Prop}{Q:Exit->Act->World->Prop}
  (c5:∀ v w',u2 w I T g Fs kn v w'->K (a.put o.dst v) w'):o.wp P a w K Q:=by
 obtain ⟨dst,op,ty,pos,after,guard⟩:=o;simp only at ar c5;have Cc:cA kn->∀ z p n m new,kn=.bC z p n m new->∀ t br cf bd cO,g t≠some (.bC br p cf bd cO):=by
  rintro aA z p n m new rfl;cases aA
 have last:∀ {args:List ab}{res:ab}{v:Value}{vs:List Value}{w':World}{I':a_}{b1:Nat->a_},vs.length=args.length->cB w' I' (vs++[v]).toArray (lX (args.map λ_=>none) res) b1->jq w' I' (dP w' (vs++[v]).toArray (lX (args.map λ_=>none) res)) res v (b1 args.length)/\∀ t,t≠args.length->∀ c,¬ b1 t c:=by
  intro args res v vs w' I' b1 ai bh;constructor
  ·obtain ⟨u,hu,aY⟩:=bh.rel args.length res (by simp [lX]);have:u=v:=by
    rw [<- ai] at hu;simpa using hu.symm
   subst this; exact aY
  ·intro t al c aa;refine bh.kE t ?_ c aa;have sT:t≠(args.map λ_=>(none:Option ab)).length:=by simpa using al
   simp only [lX,if_neg sT,List.getElem?_map];cases args[t]? <;> rfl
 cases ar with
 | @plain c xs gh f first caps ys _ aa j aS aA gS ah =>
  obtain ⟨v1,v2,vl,ai,oH⟩:=GM h aQ aa j;have h0:(execOp a.eval { dst:=dst,op:=.call { callee:=.value c,args:=xs,argTypes:=gh },type:=ty,pos:=pos,after:=after,guard:=guard }).run P w=.ok (.enter f (v1++xs.map a.eval++v2)) w:=by
   simp [execOp,resolve,Deferred.ofValue,vl,invoke,GN aS]
  have bh:=h.args (I':=I) (λ_ h=>h) (λc aa=>.inl aa) ai λρ' k x u j hu=>(oH k x u j hu).bg (aA x (List.mem_of_getElem? j));have vj:=gS.2 w I (v1++xs.map a.eval++v2).toList _ ai.symm bh;unfold Oper.wp Oper.upon;simp only [h0];rw [Array.toArray_toList] at vj;refine Calls.mono vj ?_;rintro e w' ⟨v,I',b1,rfl,dX,bL⟩;obtain ⟨y7,e8⟩:=last ai.symm dX;have kY:Fr w w' (λ_=>False):=bL.ek.mono λb _ ⟨_,av⟩=>av;refine c5 v w' ⟨b1 (first++ys++caps).length,I',?_,?_,?_,?_,bL.more,?_,kY.mono λ_ _ h=>h.elim,Cc ah⟩
  ·have:=h.world (w':=w') (λt c aa=>kY.block c (h.jJ t c aa) (λh=>h)) (λc aa=>kY.block c (h.lt c aa) λh=>h) kY.size;refine ⟨λt x j=>?_,this.kE,this.eB,λt c aa hi=>?_,dX.lt,this.ra,dX.gl⟩
   ·obtain ⟨v,hv,aY⟩:=this.rel t x j;exact ⟨v,hv,aY.frame (λ_ _=>rfl) bL.more (λ_ _ h=>h) (λ_ _ _ _ _ _ _=>rfl) λ_ _=>rfl⟩
   ·rcases bL.new c hi with aH | ⟨_,aH⟩ | aH
    ·exact h.bk t c aa aH
    ·exact aH
    ·have:=h.jJ t c aa; omega
  ·exact .tree ((y7.gV (by rintro z p n m new rfl; cases ah)).bg ah)
  ·intro t c aa qV;rcases bL.own c ⟨_,aa⟩ with ⟨_,aH⟩ | aH
   ·exact aH
   ·have:=h.jJ t c qV; omega
  ·intro c aa;rcases bL.own c ⟨_,aa⟩ with ⟨_,aH⟩ | aH
   ·exact aH.elim
   ·exact ⟨aH,dX.bk _ c aa⟩
  ·intro c aa;rcases bL.new c aa with aH | ⟨_,aH⟩ | aH
   ·exact .inl aH
   ·exact aH.elim
   ·exact .inr aH
 | @EO c xs gh f first caps ys args _ aa j aS y1 hv gS ah =>
  obtain ⟨v1,v2,vl,ai,oH⟩:=GM h aQ aa j;have h0:(execOp a.eval { dst:=dst,op:=.call { callee:=.value c,args:=xs,argTypes:=gh },type:=ty,pos:=pos,after:=after,guard:=guard }).run P w=.ok (.enter f (v1++xs.map a.eval++v2)) w:=by
   simp [execOp,resolve,Deferred.ofValue,vl,invoke,GN aS]
  have hF:args.length=(v1++xs.map a.eval++v2).toList.length:=by rw [y1,ai]
  have bh:=h.args (I':=λc=>I c\/∃ t,Fs t c) (λ_ h=>.inl h) (λc aa=>aa) hF λρ' k x u j hu=>by
   have hk:k<(first++ys++caps).length:=by rw [<- y1]; exact (List.getElem?_eq_some_iff.1 j).1
   have jx:=List.getElem?_eq_getElem hk;exact (hv k _ x jx j).sound h (oH k _ u jx hu) (λ_ h=>h.elim) ρ'
  have vj:=gS.2 w _ (v1++xs.map a.eval++v2).toList _ hF.symm bh;unfold Oper.wp Oper.upon;simp only [h0];rw [Array.toArray_toList] at vj;refine Calls.mono vj ?_;rintro e w' ⟨v,I',b1,rfl,dX,bL⟩;obtain ⟨y7,e8⟩:=last hF.symm dX;have kY:Fr w w' (λ_=>False):=bL.ek.mono λb _ ⟨_,av⟩=>av;refine c5 v w' ⟨b1 args.length,I,?_,?_,?_,?_,λ_ h=>h,λ_ h=>.inl h,kY.mono λ_ _ h=>h.elim,Cc ah.bg⟩
  ·exact h.world (w':=w') (λt c aa=>kY.block c (h.jJ t c aa) (λh=>h)) (λc aa=>kY.block c (h.lt c aa) λh=>h) kY.size
  ·exact .tree ((y7.gV (by rintro z p n m new rfl; cases ah)).k6 ah)
  ·intro t c aa qV;rcases bL.own c ⟨_,aa⟩ with ⟨_,aH⟩ | aH
   ·exact aH
   ·have:=h.jJ t c qV; omega
  ·intro c aa;rcases bL.own c ⟨_,aa⟩ with ⟨_,aH⟩ | aH
   ·exact aH.elim
   ·exact ⟨aH,λhi=>by have:=h.lt c hi; omega⟩
end
end Go.Own
namespace Go.Own
open Go
set_option linter.unusedSectionVars false
variable [cE]
structure jr (w:World) (I:a_) (T:Array Value) (g:aI) (Fs:Nat->a_):Prop where
 rel:∀ t x,g t=some x->∃ v,T[t]?=some v/\jq w I (fI w T) x v (Fs t)
 kE:∀ t,g t=none->∀ c,¬ Fs t c
 eB:∀ t t' c,Fs t c->Fs t' c->t=t'
 bk:∀ t c,Fs t c->¬ I c
 lt:∀ c,I c->c<w.heap.size
 gl:cE.q w I
def ch (g:aI) (p:Place) (y:ab):aI:=λt=>if t=p.root then (g t).map λx=>x.setAt p.path y else g t
inductive et (g:aI):ab->Prop
 | bg {x:ab}(h:cA x):et g x
 | ref {x:ab}(j:x.isRef=true) (h:gP g x):et g x
 | own {z n:Nat}{cs:List ab}(h:∀ x∈cs,et g x):et g (.own z n cs)
 | obj {cs:List ab}(h:∀ x∈cs,et g x):et g (.obj cs)
 | agg {cs:List ab}(h:∀ x∈cs,et g x):et g (.agg cs)
 | bJ {cs:List ab}(h:∀ x∈cs,et g x):et g (.bJ cs)
 | di {fn:Fn}{a b:List ab}(h1:∀ x∈a,et g x) (af:∀ x∈b,et g x):et g (.di fn a b)
 | bC {z n m:Nat}{p:Place}{new:List ab}(ar:gP g (.bC z p n 0 [])) (h:∀ x∈new,et g x):et g (.bC z p n m new)
section
variable {w:World}{I:a_}{T:Array Value}{g:aI}{Fs:Nat->a_}
theorem R.ca {x:ab}{v:Value}{F:a_}(h:R w I (fI w T) x v F):et g x->R w I (dP w T g) x v F:=by
 induction h with
 | lit h aG=>exact λ_=>.lit h aG
 | aU aG=>exact λ_=>.aU aG
 | dead aG=>exact λ_=>.dead aG
 | l1 aG=>exact λ_=>.l1 aG
 | @ref x _ _ j h aG =>
  intro hk;refine .ref j ⟨h,?_⟩ aG;cases hk with
  | ref _ h=>exact h
  | bg h=>cases h <;> simp [ab.isRef] at j
  | _=>simp [ab.isRef] at j
 | hn aG=>exact λ_=>.hn aG
 | mp aV ar aG=>exact λ_=>.mp aV ar aG
 | eY aV h1 aG=>exact λ_=>.eY aV h1 aG
 | imp aG ba aV ar=>exact λ_=>.imp aG ba aV ar
 | bk aG kW ba aw ai h1 aa ah aL =>
  intro hk;cases hk with
  | ref j=>simp [ab.isRef] at j
  | bg h=>cases h with | bk h=>exact .bk aG kW ba aw ai h1 aa λk x j=>aL k x j (.bg (h x (List.mem_of_getElem? j)))
 | cJ aG ba aw h1 aa ah aL =>
  intro hk;cases hk with
  | ref j=>simp [ab.isRef] at j
  | bg h=>cases h with | cJ h=>exact .cJ aG ba aw h1 aa λk x j=>aL k x j (.bg (h x (List.mem_of_getElem? j)))
 | own aV ai h1 ah aP av aG aL =>
  intro hk;refine .own aV ai h1 (λk x u j hu=>aL k x u j hu ?_) aP av aG;cases hk with
  | ref j=>simp [ab.isRef] at j
  | bg h=>cases h with | own h=>exact .bg (h x (List.mem_of_getElem? j))
  | own h=>exact h x (List.mem_of_getElem? j)
 | obj aV ai h1 ah aP av aG aw aL =>
  intro hk;refine .obj aV ai h1 (λk x u j hu=>aL k x u j hu ?_) aP av aG aw;cases hk with
  | ref j=>simp [ab.isRef] at j
  | bg h=>cases h with | obj h=>exact .bg (h x (List.mem_of_getElem? j))
  | obj h=>exact h x (List.mem_of_getElem? j)
 | agg ai h1 ah aP aG aL =>
  intro hk;refine .agg ai h1 (λk x u j hu=>aL k x u j hu ?_) aP aG;cases hk with
  | ref j=>simp [ab.isRef] at j
  | bg h=>cases h with | agg h=>exact .bg (h x (List.mem_of_getElem? j))
  | agg h=>exact h x (List.mem_of_getElem? j)
 | bJ ai ah aP aG aL =>
  intro hk;refine .bJ ai (λk x u j hu=>aL k x u j hu ?_) aP aG;cases hk with
  | ref j=>simp [ab.isRef] at j
  | bg h=>cases h with | bJ h=>exact .bg (h x (List.mem_of_getElem? j))
  | bJ h=>exact h x (List.mem_of_getElem? j)
 | @di fn first caps v1 v2 F aG h1 af iR ij gb fR =>
  intro hk;have:(∀ x∈first,et g x)/\∀ x∈caps,et g x:=by
   cases hk with
   | ref j=>simp [ab.isRef] at j
   | bg h=>cases h with | di h1 af=>exact ⟨λx j=>.bg (h1 x j),λx j=>.bg (af x j)⟩
   | di h1 af=>exact ⟨h1,af⟩
  exact .di aG h1 af (λk x u j hu=>gb k x u j hu (this.1 x (List.mem_of_getElem? j))) (λk x u j hu=>fR k x u j hu (this.2 x (List.mem_of_getElem? j)))
theorem jq.ca {x:ab}{v:Value}{F:a_}(h:jq w I (fI w T) x v F) (hk:et g x):jq w I (dP w T g) x v F:=by
 cases h with
 | tree h=>exact .tree (h.ca hk)
 | bC h =>
  cases hk with
  | bg h=>cases h
  | ref j=>simp [ab.isRef] at j
  | bC ar aA=>exact .bC ⟨⟨h.kf,ar⟩,h.iQ,h.nq,h.ai,h.h1,λk x u j hu=>(h.ah k x u j hu).ca (aA x (List.mem_of_getElem? j)),h.aG⟩
theorem cB.mo (h:cB w I T g Fs):jr w I T g Fs :=
  ⟨λt x j=>by
    obtain ⟨v,hv,aY⟩:=h.rel t x j;refine ⟨v,hv,?_⟩;cases aY with
    | tree aY=>exact .tree (aY.frame (λ_ _=>rfl) (λ_ h=>h) (λ_ _ h=>h.1) λ_ _=>rfl)
    | bC aY=>exact .bC ⟨aY.kf.1,aY.iQ,aY.nq,aY.ai,aY.h1,λk x u j hu=>(aY.ah k x u j hu).frame (λ_ _=>rfl) (λ_ h=>h) (λ_ _ h=>h.1) λ_ _=>rfl,aY.aG⟩,
   h.kE,h.eB,h.bk,h.lt,h.gl⟩
theorem jr.Z4 (h:jr w I T g Fs) {g':aI}(aK:∀ t x,g' t=some x->g t=some x) (hk:∀ t x,g' t=some x->et g' x)
  (ar:∀ t t' z p n m new br cf bd cO,g' t=some (.bC z p n m new)->g' t'=some (.bC br p cf bd cO)->t=t'):cB w I T g' (λt c=>g' t≠none/\Fs t c):=by
 refine ⟨λt x j=>?_,λt al c aa=>aa.1 al,λt t' c aa e7=>h.eB t t' c aa.2 e7.2,λt c aa=>h.bk t c aa.2,h.lt,ar,h.gl⟩;obtain ⟨v,hv,aY⟩:=h.rel t x (aK t x j);have:Fs t=λc=>g' t≠none/\Fs t c:=by
  funext c;exact propext ⟨λaa=>⟨by rw [j]; simp,aa⟩,λaa=>aa.2⟩
 refine ⟨v,hv,?_⟩;rw [<- this];exact aY.ca (hk t x j)
theorem jr.part (h:jr w I T g Fs) {p:Place}{y:ab}(ar:bx g p=some y) (ak:∀ z q n m new,y≠.bC z q n m new):∃ v cj,dS w T p=some v/\R w I (fI w T) y v cj/\(∀ c,cj c->Fs p.root c) /\
  ∀ (y':ab) (i_:a_),R w I (fI w T) y' v i_->(∀ c,i_ c->Fs p.root c->cj c)->(∀ c,i_ c->¬ I c)->(∀ t c,t≠p.root->i_ c->¬ Fs t c)->(∀ J,y'=.self J->y=.self J) ->
   ∃ b1,jr w I T (ch g p y') b1/\(∀ c,b1 p.root c↔(Fs p.root c/\¬ cj c)\/i_ c)/\∀ t,t≠p.root->b1 t=Fs t:=by
 unfold bx at ar;cases j:g p.root with
 | none=>rw [j] at ar; cases ar
 | some x =>
  rw [j] at ar;obtain ⟨v,hv,aY⟩:=h.rel _ _ j;replace aY:=aY.gV (by
   rintro z q n m new rfl;exact ak _ _ _ _ _ (ab.tN ar).2)
  obtain ⟨ia,cj,hw,dz,df,eH,kG⟩:=R.focus p.path aY ar;refine ⟨ia,cj,by simp [dS,hv,hw],dz,df,λy' i_ ku mI ba Nk lP=>?_⟩;obtain ⟨cV,HA,pk⟩:=kG w I (fI w T) y' i_ ⟨λ_ _=>rfl,λ_ _ _=>rfl,λ_ h=>h,λ_ _ h=>h⟩ ku mI lP;refine ⟨λt=>if t=p.root then cV else Fs t,⟨λt x' fM=>?_,λt al c=>?_,λt t' c aa e7=>?_,λt c aa=>?_,h.lt,h.gl⟩,λc=>by simp [pk c],λt al=>by simp [al]⟩
  ·by_cases h_:t=p.root
   ·subst h_;have WJ:x.setAt p.path y'=x':=by simpa [ch,j] using fM
    subst WJ;exact ⟨v,hv,.tree (by simpa using HA)⟩
   ·simp only [ch,if_neg h_] at fM;simpa [h_] using h.rel t x' fM
  ·by_cases h_:t=p.root
   ·subst h_; simp [ch,j] at al
   ·simp only [ch,if_neg h_] at al; simpa [h_] using h.kE t al c
  ·by_cases h1:t=p.root <;> by_cases af:t'=p.root <;> simp only [h1,af,if_true,if_false] at aa e7
   ·rw [h1,af]
   ·rcases (pk c).1 aa with ⟨aF,_⟩ | aF
    ·rw [h1]; exact h.eB _ _ _ aF e7
    ·exact absurd e7 (Nk t' c af aF)
   ·rcases (pk c).1 e7 with ⟨aF,_⟩ | aF
    ·rw [af]; exact h.eB _ _ _ aa aF
    ·exact absurd aa (Nk t c h1 aF)
   ·exact h.eB _ _ _ aa e7
  ·by_cases h1:t=p.root <;> simp only [h1,if_true,if_false] at aa
   ·rcases (pk c).1 aa with ⟨aF,_⟩ | aF
    ·exact h.bk _ c aF
    ·exact ba c aF
   ·exact h.bk t c aa
end
end Go.Own
namespace Go.Own
open Go
set_option linter.unusedSectionVars false
variable [cE]
inductive Take:aI->List ab->List ab->aI->Prop
 | bg {g:aI}{xs:List ab}(h:∀ x∈xs,cA x):Take g xs xs g
 | cons {g g':aI}{x:ab}{xs xs':List ab}(h:cA x) (al:Take g xs xs' g'):Take g (x::xs) (x::xs') g'
 | bl {g g1 g':aI}{z n N:Nat}{p:Place}{cs cs' xs xs':List ab}(ar:bx g p=some (.own z N cs)) (aA:n<=N) (h1:Take (ch g p .dead) (cs.take (n * z)) cs' g1) (af:Take g1 xs xs' g') :
   Take g (.bl z p n::xs) (.own z n cs'::xs') g'
 | bC {g g1 g':aI}{z n m t:Nat}{q:Place}{cs new cs' xs xs':List ab}(al:g t=some (.bC z q n m new)) (ar:bx g q=some (.own z n cs)) (a6:q.root≠t) (h1:Take (ch (ch g ⟨t,[]⟩ .dead) q .dead) (cs++new) cs' g1) (af:Take g1 xs xs' g') :
   Take g (.bl z ⟨t,[]⟩ (n+m)::xs) (.own z (n+m) cs'::xs') g'
 | zr {g g1 g':aI}{z n m t pD m2 t2:Nat}{q:Place}{cs new zm cs' xs xs':List ab}(al:g t=some (.bC z ⟨t2,[]⟩ n m new)) (Nw:g t2=some (.bC z q pD m2 zm)) (aA:n=pD+m2) (ar:bx g q=some (.own z pD cs)) (a6:q.root≠t) (qZ:q.root≠t2) (Wu:t≠t2)
   (h1:Take (ch (ch (ch g ⟨t,[]⟩ .dead) ⟨t2,[]⟩ .dead) q .dead) (cs++zm++new) cs' g1) (af:Take g1 xs xs' g') :
   Take g (.bl z ⟨t,[]⟩ (n+m)::xs) (.own z (n+m) cs'::xs') g'
 | obj {g g1 g':aI}{p:Place}{cs cs' xs xs':List ab}(ar:bx g p=some (.obj cs)) (h1:Take (ch g p .dead) cs cs' g1) (af:Take g1 xs xs' g'):Take g (.ptr p 0::xs) (.obj cs'::xs') g'
 | mp {g g1 g':aI}{p:Place}{q:Array MapEntry->Nat->Prop}{xs xs':List ab}(ar:bx g p=some (.mp q)) (h1:Take (ch g p .dead) [] [] g1) (af:Take g1 xs xs' g'):Take g (.hf p::xs) (.mp q::xs') g'
 | agg {g g1 g':aI}{cs cs' xs xs':List ab}(h1:Take g cs cs' g1) (af:Take g1 xs xs' g'):Take g (.agg cs::xs) (.agg cs'::xs') g'
 | bJ {g g1 g':aI}{cs cs' xs xs':List ab}(h1:Take g cs cs' g1) (af:Take g1 xs xs' g'):Take g (.bJ cs::xs) (.bJ cs'::xs') g'
structure Hand (w:World) (I:a_) (ρ:ab->Value->Prop) (Fs:Nat->a_) (xs:List ab) (vs:List Value) (dm:Nat->a_):Prop where
 len:xs.length=vs.length
 rel:∀ (k:Nat) (x:ab) (u:Value),xs[k]?=some x->vs[k]?=some u->R w I ρ x u (dm k)
 eB:∀ (J k c:Nat),J<xs.length->k<xs.length->dm J c->dm k c->J=k
 off:∀ (k t c:Nat),k<xs.length->dm k c->¬ Fs t c
 bk:∀ (k c:Nat),k<xs.length->dm k c->¬ I c
def la (Fs:Nat->a_) (n:Nat) (dm:Nat->a_):a_:=λc=>(∃ t,Fs t c)\/∃ k,k<n/\dm k c
section
variable {w:World}{I:a_}{T:Array Value}
theorem Take.length {g g':aI}{xs xs':List ab}(h:Take g xs xs' g'):xs'.length=xs.length:=by
 induction h with
 | bg=>rfl
 | cons _ _ aL=>simp [aL]
 | bl _ _ _ _ _ aL=>simp [aL]
 | bC _ _ _ _ _ _ aL=>simp [aL]
 | zr _ _ _ _ _ _ _ _ _ _ aL=>simp [aL]
 | obj _ _ _ _ aL=>simp [aL]
 | mp _ _ _ _ aL=>simp [aL]
 | agg _ _ _ aL=>simp [aL]
 | bJ _ _ _ aL=>simp [aL]
theorem qN.cons {x:ab}{l:List ab}(h:qN (x::l)):(∀ J,x≠.self J)/\qN l:=⟨λJ e=>h 0 J (by rw [e]; rfl),λk J e=>h (k+1) J e⟩
theorem Take.self {g g':aI}{xs xs':List ab}(h:Take g xs xs' g'):∀ (k:Nat) (J:Nat × Nat),xs'[k]?=some (.self J)->xs[k]?=some (.self J):=by
 have step:∀ {x x':ab}{xs xs':List ab},(∀ J,x'=.self J->x=.self J)->(∀ (k:Nat) (J:Nat × Nat),xs'[k]?=some (.self J)->xs[k]?=some (.self J))->∀ (k:Nat) (J:Nat × Nat),(x'::xs')[k]?=some (.self J)->(x::xs)[k]?=some (.self J):=by
  intro x x' xs xs' h1 af k J h;cases k with
  | zero=>simp only [List.getElem?_cons_zero,Option.some.injEq] at h ⊢; exact h1 J h
  | succ k=>exact af k J h
 induction h with
 | bg=>exact λ_ _ h=>h
 | cons _ _ aL=>exact step (λ_ h=>h) aL
 | bl _ _ _ _ _ aL=>exact step (λ_ h=>by cases h) aL
 | bC _ _ _ _ _ _ aL=>exact step (λ_ h=>by cases h) aL
 | zr _ _ _ _ _ _ _ _ _ _ aL=>exact step (λ_ h=>by cases h) aL
 | obj _ _ _ _ aL=>exact step (λ_ h=>by cases h) aL
 | mp _ _ _ _ aL=>exact step (λ_ h=>by cases h) aL
 | agg _ _ _ aL=>exact step (λ_ h=>by cases h) aL
 | bJ _ _ _ aL=>exact step (λ_ h=>by cases h) aL
theorem Take.xv {g g':aI}{xs xs':List ab}(h:Take g xs xs' g') (aV:∀ x∈xs,sw x):∀ x∈xs',sw x:=by
 induction h with
 | bg=>exact aV
 | cons _ _ aL =>
  intro x j;rcases List.mem_cons.1 j with rfl | j
  ·exact aV _ (by simp)
  ·exact aL (λx h=>aV x (by simp [h])) x j
 | bl _ _ _ _ _ aL | bC _ _ _ _ _ _ aL | zr _ _ _ _ _ _ _ _ _ _ aL | obj _ _ _ _ aL | mp _ _ _ _ aL | bJ _ _ _ aL =>
  intro x j;rcases List.mem_cons.1 j with rfl | j
  ·intro cs e; cases e
  ·exact aL (λx h=>aV x (by simp [h])) x j
 | agg h1 _ _ aL =>
  intro x j;rcases List.mem_cons.1 j with rfl | j
  ·intro cs e;cases e;exact λk J hk=>aV _ (List.mem_cons_self ..) _ rfl k J (h1.self k J hk)
  ·exact aL (λx h=>aV x (by simp [h])) x j
theorem Hand.cons {ρ:ab->Value->Prop}{Fs:Nat->a_}{x:ab}{v:Value}{F:a_}{xs:List ab}{vs:List Value}{dm:Nat->a_}(h:Hand w I ρ Fs xs vs dm) (j:R w I ρ x v F)
  (aP:∀ k c,k<xs.length->F c->¬ dm k c) (aV:∀ t c,F c->¬ Fs t c) (hi:∀ c,F c->¬ I c):Hand w I ρ Fs (x::xs) (v::vs) (λk=>match k with | 0=>F | k+1=>dm k):=by
 refine ⟨by simp [h.len],λk y u ak hu=>?_,λJ k c aj hk h1 af=>?_,λk t c hk aa=>?_,λk c hk aa=>?_⟩
 ·cases k with
  | zero=>simp at ak hu; subst ak hu; exact j
  | succ k=>simp at ak hu; exact h.rel k y u ak hu
 ·cases J <;> cases k
  ·rfl
  ·exact absurd af (aP _ c (by simpa using hk) h1)
  ·exact absurd h1 (aP _ c (by simpa using aj) af)
  ·rw [h.eB _ _ c (by simpa using aj) (by simpa using hk) h1 af]
 ·cases k with
  | zero=>exact aV t c aa
  | succ k=>exact h.off k t c (by simpa using hk) aa
 ·cases k with
  | zero=>exact hi c aa
  | succ k=>exact h.bk k c (by simpa using hk) aa
theorem Hand.tail {ρ:ab->Value->Prop}{Fs:Nat->a_}{x:ab}{v:Value}{xs:List ab}{vs:List Value}{dm:Nat->a_}(h:Hand w I ρ Fs (x::xs) (v::vs) dm):Hand w I ρ Fs xs vs (λk=>dm (k+1)) :=
  ⟨by simpa using h.len,λk y u ak hu=>h.rel (k+1) y u ak hu,λJ k c aj hk h1 af=>by have:=h.eB (J+1) (k+1) c (by simpa using aj) (by simpa using hk) h1 af; omega,
   λk t c hk aa=>h.off (k+1) t c (by simpa using hk) aa,λk c hk aa=>h.bk (k+1) c (by simpa using hk) aa⟩
theorem pG {x:ab}{xs:List ab}(h:cA x) (aL:∀ y∈xs,cA y):∀ y∈x::xs,cA y:=by
 intro y ak;rcases List.mem_cons.1 ak with rfl | ak
 ·exact h
 ·exact aL y ak
theorem Take.Ce {g g':aI}{xs xs':List ab}(h:Take g xs xs' g'):∀ x∈xs',cA x:=by
 induction h with
 | bg h=>exact h
 | cons h _ aL=>exact pG h aL
 | bl _ _ _ _ gb fR=>exact pG (.own gb) fR
 | bC _ _ _ _ _ gb fR=>exact pG (.own gb) fR
 | zr _ _ _ _ _ _ _ _ _ gb fR=>exact pG (.own gb) fR
 | obj _ _ _ gb fR=>exact pG (.obj gb) fR
 | mp _ _ _ _ fR=>exact pG .mp fR
 | agg _ _ gb fR=>exact pG (.agg gb) fR
 | bJ _ _ gb fR=>exact pG (.bJ gb) fR
def Gi (w:World) (I:a_) (T:Array Value) (g:aI) (xs xs':List ab) (g':aI):Prop :=
 ∀ {Fs:Nat->a_}{vs:List Value}{dm:Nat->a_},jr w I T g Fs->Hand w I (fI w T) Fs xs vs dm ->
  ∃ b1 jo,jr w I T g' b1/\Hand w I (fI w T) b1 xs' vs jo/\∀ c,la b1 xs'.length jo c->la Fs xs.length dm c
theorem JJ {w:World}{e b8:TypeId}{z n:Nat}{v:Value}{us iD:List Value}(h:w.ownsRow 0 e z v n us) (aH:w.ownsRow 0 b8 z v n iD):us=iD:=by
 obtain ⟨h1,af⟩:=h;obtain ⟨mF,Hm⟩:=aH;rcases af with ⟨rfl,rfl⟩ | ⟨b,cap,cur,rfl,_,aK,_,_,_,al⟩
 ·simp at h1 mF; rw [h1,mF]
 ·rcases Hm with ⟨bD,_⟩ | ⟨dV,mA,ab_,bD,_,D',_,_,_,sT⟩
  ·cases bD
  ·cases bD;rw [aK] at D';cases D';rw [<- al,<- sT]
theorem Take.node {g1 g2 g':aI}{Fs fH:Nat->a_}{B H0:a_}{cs cs' xs xs':List ab}{us vs:List Value}{bV dm:Nat->a_}{X:ab}{v0:Value}
  (bh:jr w I T g1 fH) (hH:Hand w I (fI w T) fH cs us bV) (fc:∀ c,B c->(∃ t,Fs t c)/\(∀ t,¬ fH t c)/\(∀ k,k<cs.length->¬ bV k c)/\¬ I c)
  (gw:∀ c,la fH cs.length bV c->(∃ t,Fs t c)\/H0 c) (cX:Hand w I (fI w T) Fs xs vs dm) (vh:∀ c,H0 c->(∀ t,¬ Fs t c)/\∀ k,k<xs.length->¬ dm k c)
  (gb:Gi w I T g1 cs cs' g2) (fR:Gi w I T g2 xs xs' g')
  (build:∀ jo:Nat->a_,(∀ (k:Nat) (x:ab) (u:Value),cs'[k]?=some x->us[k]?=some u->R w I (fI w T) x u (jo k))->(∀ (J k c:Nat),J<cs'.length->k<cs'.length->jo J c->jo k c->J=k) ->
   (∀ k c,k<cs'.length->jo k c->¬ B c)->R w I (fI w T) X v0 (λc=>B c\/∃ k,k<cs'.length/\jo k c)) :
  ∃ b1 jo,jr w I T g' b1/\Hand w I (fI w T) b1 (X::xs') (v0::vs) jo/\∀ c,la b1 (X::xs').length jo c->(∃ t,Fs t c)\/H0 c\/∃ k,k<xs.length/\dm k c:=by
 obtain ⟨iJ,H1,hY,D4,A8⟩:=gb bh hH;have X6:∀ k t c,k<xs.length->dm k c->¬ iJ t c:=by
  intro k t c hk aa aS;rcases gw c (A8 c (.inl ⟨t,aS⟩)) with ⟨t',h⟩ | h
  ·exact cX.off k t' c hk aa h
  ·exact (vh c h).2 k hk aa
 obtain ⟨yc,Ah,HH,Un,MP⟩:=fR hY (⟨cX.len,cX.rel,cX.eB,X6,cX.bk⟩:Hand w I (fI w T) iJ xs vs dm);have Ub:∀ k c,k<cs'.length->H1 k c->¬ B c:=by
  intro k c hk aa av;obtain ⟨_,h1,af,_⟩:=fc c av;rcases A8 c (.inr ⟨k,hk,aa⟩) with ⟨t,h⟩ | ⟨J,aj,h⟩
  ·exact h1 t h
  ·exact af J aj h
 have t_:=build H1 D4.rel D4.eB Ub
 -- the node's blocks: apart from all else
 have key:∀ c,(B c\/∃ k,k<cs'.length/\H1 k c)->(∀ t,¬ iJ t c)/\(∀ k,k<xs.length->¬ dm k c)/\¬ I c/\((∃ t,Fs t c)\/H0 c):=by
  rintro c (av | ⟨k,hk,aa⟩)
  ·obtain ⟨⟨t0,aO⟩,h1,af,aF⟩:=fc c av;refine ⟨λt aS=>?_,λk hk aa=>cX.off k t0 c hk aa aO,aF,.inl ⟨t0,aO⟩⟩;rcases A8 c (.inl ⟨t,aS⟩) with ⟨t',h⟩ | ⟨J,aj,h⟩
   ·exact h1 t' h
   ·exact af J aj h
  ·have aw:=gw c (A8 c (.inr ⟨k,hk,aa⟩));refine ⟨λt aS=>D4.off k t c hk aa aS,λJ aj wX=>?_,D4.bk k c hk aa,aw⟩;rcases aw with ⟨t,h⟩ | h
   ·exact cX.off J t c aj wX h
   ·exact (vh c h).2 J aj wX
 have fin:∀ c,(B c\/∃ k,k<cs'.length/\H1 k c)->(∀ t,¬ yc t c)/\∀ k,k<xs'.length->¬ Ah k c:=by
  intro c aa;obtain ⟨h1,af,_,_⟩:=key c aa;have none:¬ la yc xs'.length Ah c:=by
   intro h;rcases MP c h with ⟨t,h⟩ | ⟨k,hk,h⟩
   ·exact h1 t h
   ·exact af k hk h
  exact ⟨λt h=>none (.inl ⟨t,h⟩),λk hk h=>none (.inr ⟨k,hk,h⟩)⟩
 refine ⟨yc,_,HH,Un.cons t_ (λk c hk aa=>(fin c aa).2 k hk) (λt c aa=>(fin c aa).1 t) (λc aa=>(key c aa).2.2.1),?_⟩;have back:∀ c,la yc xs'.length Ah c->(∃ t,Fs t c)\/H0 c\/∃ k,k<xs.length/\dm k c:=by
  intro c h;rcases MP c h with ⟨t,h⟩ | h
  ·rcases gw c (A8 c (.inl ⟨t,h⟩)) with h | h
   ·exact .inl h
   ·exact .inr (.inl h)
  ·exact .inr (.inr h)
 rintro c (h | ⟨k,hk,aa⟩)
 ·exact back c (.inl h)
 ·cases k with
  | zero =>
   rcases (key c aa).2.2.2 with h | h
   ·exact .inl h
   ·exact .inr (.inl h)
  | succ k=>exact back c (.inr ⟨k,by simpa using hk,aa⟩)
end
end Go.Own
namespace Go.Own
open Go
set_option linter.unusedSectionVars false
variable [cE]
section
variable {w:World}{I:a_}{T:Array Value}
theorem jr.kill {g:aI}{Fs:Nat->a_}(h:jr w I T g Fs) (t:Nat):∃ b1,jr w I T (ch g ⟨t,[]⟩ .dead) b1/\(∀ c,¬ b1 t c)/\∀ s,s≠t->b1 s=Fs s:=by
 refine ⟨λs=>if s=t then cr else Fs s,⟨λs x j=>?_,λs aw c=>?_,λs cu c aa e7=>?_,λs c aa=>?_,h.lt,h.gl⟩,λc=>by simp,λs aw=>by simp [aw]⟩
 ·by_cases bL:s=t
  ·subst bL;simp only [ch,if_pos] at j;cases aK:g s with
   | none=>rw [aK] at j; cases j
   | some y =>
    rw [aK] at j;have:x=.dead:=by simpa [ab.setAt] using j.symm
    subst this;obtain ⟨v,hv,_⟩:=h.rel s y aK;exact ⟨v,hv,.tree (.dead (by simp))⟩
  ·simp only [ch,if_neg bL] at j; simpa [bL] using h.rel s x j
 ·by_cases bL:s=t
  ·simp [bL]
  ·simp only [ch,if_neg bL] at aw; simpa [bL] using h.kE s aw c
 ·by_cases h1:s=t <;> by_cases af:cu=t <;> simp [h1,af,cr] at aa e7;exact h.eB _ _ _ aa e7
 ·by_cases h1:s=t <;> simp [h1,cr] at aa;exact h.bk _ _ aa
theorem R.vn {ρ:ab->Value->Prop}{Fs:Nat->a_}{x:ab}{v:Value}{xs:List ab}{vs:List Value}{dm:Nat->a_}(h:Hand w I ρ Fs (x::xs) (v::vs) dm):∀ c,dm 0 c->(∀ t,¬ Fs t c)/\∀ k,k<xs.length->¬ dm (k+1) c:=by
 intro c aa;refine ⟨λt=>h.off 0 t c (by simp) aa,λk hk iA=>?_⟩;have:=h.eB 0 (k+1) c (by simp) (by simpa using hk) aa iA;omega
theorem la.head {Fs:Nat->a_}{x:ab}{xs:List ab}{dm:Nat->a_}{c:Nat}(h:(∃ t,Fs t c)\/dm 0 c\/∃ k,k<xs.length/\dm (k+1) c):la Fs (x::xs).length dm c:=by
 rcases h with h | h | ⟨k,hk,h⟩
 ·exact .inl h
 ·exact .inr ⟨0,by simp,h⟩
 ·exact .inr ⟨k+1,by simpa using hk,h⟩
theorem Fx {g:aI}{p:Place}{y:ab}{q:Place}(h:q.root≠p.root):bx (ch g p y) q=bx g q:=by
 grind [bx,ch]
theorem xQ {g:aI}{p:Place}{y:ab}{t:Nat}(h:t≠p.root):ch g p y t=g t:=by
 grind [ch]
theorem OG {a:Option Addr}{n cap cf mA:Nat}:(Value.slice a n cap).ownBlock=(Value.slice a cf mA).ownBlock:=by cases a <;> rfl
theorem Yc {e:TypeId}{z n N:Nat}{a:Option Addr}{cap:Nat}{us:List Value}(h:w.ownsRow 0 e z (.slice a N cap) N us) (aA:n<=N):w.ownsRow 0 e z (.slice a n cap) n (us.take (n * z)):=by
 have hle:n * z<=N * z:=Nat.mul_le_mul_right _ aA;obtain ⟨hu,bD⟩:=h;refine ⟨by rw [List.length_take,hu]; omega,?_⟩
 grind
theorem Take.sound {g g':aI}{xs xs':List ab}(h:Take g xs xs' g'):Gi w I T g xs xs' g':=by
 induction h with
 | bg h=>exact λ{Fs vs dm} bh hH=>⟨Fs,dm,bh,hH,λ_ h=>h⟩
 | @cons g g' x xs xs' j _ aL =>
  intro Fs vs dm bh hH;cases vs with
  | nil=>have:=hH.len; simp at this
  | cons v vs =>
   obtain ⟨b1,jo,dX,Um,g_⟩:=aL bh hH.tail;have aO:=R.vn hH;have off:∀ c,dm 0 c->¬ la b1 xs'.length jo c:=by
    intro c aa av;rcases g_ c av with ⟨t,h⟩ | ⟨k,hk,h⟩
    ·exact (aO c aa).1 t h
    ·exact (aO c aa).2 k hk h
   refine ⟨b1,_,dX,Um.cons (hH.rel 0 x v rfl rfl) (λk c hk aa h=>off c aa (.inr ⟨k,hk,h⟩)) (λt c aa h=>off c aa (.inl ⟨t,h⟩)) (λc aa=>hH.bk 0 c (by simp) aa),?_⟩;rintro c (h | ⟨k,hk,h⟩)
   ·rcases g_ c (.inl h) with h | ⟨J,aj,h⟩
    ·exact .inl h
    ·exact .inr ⟨J+1,by simpa using aj,h⟩
   ·cases k with
    | zero=>exact .inr ⟨0,by simp,h⟩
    | succ k =>
     rcases g_ c (.inr ⟨k,by simpa using hk,h⟩) with h | ⟨J,aj,h⟩
     ·exact .inl h
     ·exact .inr ⟨J+1,by simpa using aj,h⟩
 | @bl g g1 g' z n N p cs cs' xs xs' ar aA t1 _ gb fR =>
  intro Fs vs dm bh hH;cases vs with
  | nil=>have:=hH.len; simp at this
  | cons v vs =>
   obtain ⟨qD,cj,gA,hl,df,kG⟩:=bh.part ar (by simp);obtain ⟨a,iK,cap,h1,rfl,aF⟩:=(hH.rel 0 _ v rfl rfl).mN;rw [h1] at gA;cases gA;obtain ⟨a2,rH,j0,_⟩:=hl.mO;cases j0;obtain ⟨fH,iO,iR,ij⟩:=kG .dead cr (.dead λ_ h=>h) (λ_ h=>h.elim) (λ_ h=>h.elim) (λ_ _ _ h=>h.elim) (λ_ h=>by cases h);have lr:∀ t c,fH t c->Fs t c/\¬ cj c:=by
    intro t c aa;by_cases al:t=p.root
    ·subst al;rcases (iR c).1 aa with h | h
     ·exact h
     ·exact h.elim
    ·rw [ij t al] at aa;exact ⟨aa,λew=>al (bh.eB _ _ _ aa (df c ew))⟩
   cases hl with
   | ref j=>simp [ab.isRef] at j
   | @own _ _ _ _ e us bV _ aV ai mF ah aP av aG =>
    have Es:∀ k,k<(cs.take (n * z)).length->k<cs.length:=λk hk=>by rw [List.length_take] at hk; omega
    have e0:∀ k c,k<(cs.take (n * z)).length->bV k c->cj c:=λk c hk aa=>(aG c).2 (.inr ⟨k,Es k hk,aa⟩);have ih:Hand w I (fI w T) fH (cs.take (n * z)) (us.take (n * z)) bV:=by
     refine ⟨by simp [ai],λk x u j hu=>?_,λJ k c aj hk=>aP J k c (Es J aj) (Es k hk),λk t c hk aa aS=>(lr t c aS).2 (e0 k c hk aa),λk c hk aa=>bh.bk _ c (df c (e0 k c hk aa))⟩;rw [List.getElem?_take] at j hu
     split at j
     ·rename_i dR; rw [if_pos dR] at hu; exact ah k x u j hu
     ·cases j
    have lQ:=Yc aV aA;obtain ⟨b1,jo,aB,a2,a3⟩:=Take.node (g1:=ch g p .dead) (Fs:=Fs) (B:=λc=>(Value.slice a n cap).ownBlock=some c) (H0:=dm 0) (X:=.own z n cs') (v0:=.slice a n cap) iO ih
     (λc aa=>by
      have ew:cj c:=(aG c).2 (.inl (by rw [<- aa]; exact OG));exact ⟨⟨_,df c ew⟩,λt aS=>(lr t c aS).2 ew,λk hk iA=>av k c (Es k hk) iA (by rw [<- aa]; exact OG),bh.bk _ c (df c ew)⟩)
     (λc aa=>by
      rcases aa with ⟨t,h⟩ | ⟨k,hk,h⟩
      ·exact .inl ⟨t,(lr t c h).1⟩
      ·exact .inl ⟨_,df c (e0 k c hk h)⟩)
     hH.tail (R.vn hH) gb fR (λye gZ hV kq=>by
      refine .own lQ (by rw [t1.length]; simp [ai]) (λk u hu=>?_) gZ hV (λk c hk aa h=>kq k c hk aa h) λc=>Iff.rfl;rw [List.getElem?_take] at hu
      split at hu
      ·exact mF k u hu
      ·cases hu)
    exact ⟨b1,jo,aB,a2,λc aa=>la.head (a3 c aa)⟩
 | @bC g g1 g' z n m t q cs new cs' xs xs' al ar a6 t1 _ gb fR =>
  intro Fs vs dm bh hH;cases vs with
  | nil=>have:=hH.len; simp at this
  | cons v vs =>
   obtain ⟨a,iK,cap,h1,rfl,aF⟩:=(hH.rel 0 _ v rfl rfl).mN;obtain ⟨v0,jj,fQ⟩:=bh.rel t _ al;simp only [dS,jj,walk,Option.some.injEq] at h1;subst h1;obtain ⟨bv,e,bZ,us,news,fQ⟩:=fQ.vJ;have a7:iK=n+m:=by
    obtain ⟨_,bD⟩:=fQ.nq;rcases bD with ⟨bD,aO⟩ | ⟨_,_,_,bD,_⟩
    ·cases bD; omega
    ·cases bD; rfl
   subst a7;obtain ⟨QW,HJ,gj,fL⟩:=bh.kill t;have Iz:bx (ch g ⟨t,[]⟩ .dead) q=some (.own z n cs):=by rw [Fx (by simpa using a6)]; exact ar
   obtain ⟨qD,cj,gA,hl,df,kG⟩:=HJ.part Iz (by simp);obtain ⟨b0,mA,bu,rfl⟩:=fQ.kf;rw [bu] at gA;cases gA;obtain ⟨fH,iO,iR,ij⟩:=kG .dead cr (.dead λ_ h=>h) (λ_ h=>h.elim) (λ_ h=>h.elim) (λ_ _ _ h=>h.elim) (λ_ h=>by cases h);have qb:∀ c,cj c->Fs q.root c:=λc aa=>by have:=df c aa; rwa [fL _ a6] at this
   have lr:∀ s c,fH s c->Fs s c/\¬ cj c/\s≠t:=by
    intro s c aa;have bL:s≠t:=by
     rintro rfl;by_cases vB:s=q.root
     ·exact a6 vB.symm
     ·rw [ij s vB] at aa; exact gj c aa
    by_cases aw:s=q.root
    ·subst aw;rcases (iR c).1 aa with h | h
     ·exact ⟨by have:=h.1; rwa [fL _ a6] at this,h.2,bL⟩
     ·exact h.elim
    ·rw [ij s aw,fL s bL] at aa;exact ⟨aa,λew=>aw (bh.eB _ _ _ aa (qb c ew)),bL⟩
   cases hl with
   | ref j=>simp [ab.isRef] at j
   | @own _ _ _ _ b8 iD bV _ aV ai mF ah aP av aG =>
    have:=JJ aV fQ.iQ;subst this;have e0:∀ k c,k<cs.length->bV k c->cj c:=λk c hk aa=>(aG c).2 (.inr ⟨k,hk,aa⟩);have ih:Hand w I (fI w T) fH (cs++new) (iD++news) (λk=>if k<cs.length then bV k else cr):=by
     refine ⟨by simp [ai,fQ.ai],λk x u j hu=>?_,λJ k c aj hk aa e7=>?_,λk s c hk aa aS=>?_,λk c hk aa=>?_⟩
     ·by_cases dR:k<cs.length
      ·rw [List.getElem?_append_left dR] at j;rw [List.getElem?_append_left (by omega)] at hu;simpa [dR] using ah k x u j hu
      ·rw [List.getElem?_append_right (by omega)] at j;rw [List.getElem?_append_right (by omega),<- ai] at hu;simpa [dR] using fQ.ah _ x u j hu
     ·by_cases eN:J<cs.length <;> by_cases dR:k<cs.length <;> simp [eN,dR,cr] at aa e7;exact aP J k c eN dR aa e7
     ·by_cases dR:k<cs.length <;> simp [dR,cr] at aa;exact (lr s c aS).2.1 (e0 k c dR aa)
     ·by_cases dR:k<cs.length <;> simp [dR,cr] at aa;exact bh.bk _ c (qb c (e0 k c dR aa))
    obtain ⟨b1,jo,aB,a2,a3⟩:=Take.node (g1:=ch (ch g ⟨t,[]⟩ .dead) q .dead) (Fs:=Fs) (B:=λc=>(Value.slice a (n+m) cap).ownBlock=some c) (H0:=dm 0) (X:=.own z (n+m) cs') (v0:=.slice a (n+m) cap) iO ih
     (λc aa=>by
      by_cases qd:(Value.slice b0 n mA).ownBlock=some c
      ·have ew:cj c:=(aG c).2 (.inl qd);refine ⟨⟨_,qb c ew⟩,λs aS=>(lr s c aS).2.1 ew,λk hk iA=>?_,bh.bk _ c (qb c ew)⟩;by_cases dR:k<cs.length <;> simp [dR,cr] at iA;exact av k c dR iA qd
      ·have Eu:Fs t c:=(fQ.aG c).2 ⟨aa,qd⟩;refine ⟨⟨_,Eu⟩,λs aS=>(lr s c aS).2.2 (bh.eB _ _ _ (lr s c aS).1 Eu),λk hk iA=>?_,bh.bk _ c Eu⟩;by_cases dR:k<cs.length <;> simp [dR,cr] at iA;exact a6 (bh.eB _ _ _ (qb c (e0 k c dR iA)) Eu))
     (λc aa=>by
      rcases aa with ⟨s,h⟩ | ⟨k,hk,h⟩
      ·exact .inl ⟨s,(lr s c h).1⟩
      ·by_cases dR:k<cs.length <;> simp [dR,cr] at h;exact .inl ⟨_,qb c (e0 k c dR h)⟩)
     hH.tail (R.vn hH) gb fR (λye gZ hV kq=>by
      refine .own fQ.nq (by rw [t1.length]; simp [ai,fQ.ai]) (λk u hu=>?_) gZ hV (λk c hk aa h=>kq k c hk aa h) λc=>Iff.rfl;by_cases dR:k<iD.length
      ·rw [List.getElem?_append_left dR] at hu; exact mF k u hu
      ·rw [List.getElem?_append_right (by omega)] at hu; exact fQ.h1 _ u hu)
    exact ⟨b1,jo,aB,a2,λc aa=>la.head (a3 c aa)⟩
 | @zr g g1 g' z n m t pD m2 t2 q cs new zm cs' xs xs' al Nw aA ar a6 qZ Wu t1 _ gb fR =>
  subst aA;intro Fs vs dm bh hH;cases vs with
  | nil=>have:=hH.len; simp at this
  | cons v vs =>
   obtain ⟨a,iK,cap,h1,rfl,aF⟩:=(hH.rel 0 _ v rfl rfl).mN;obtain ⟨v0,jj,fQ⟩:=bh.rel t _ al;simp only [dS,jj,walk,Option.some.injEq] at h1;subst h1;obtain ⟨bv,e,bZ,us,news,fQ⟩:=fQ.vJ;have a7:iK=pD+m2+m:=by
    obtain ⟨_,bD⟩:=fQ.nq;rcases bD with ⟨bD,aO⟩ | ⟨_,_,_,bD,_⟩
    ·cases bD; omega
    ·cases bD; rfl
   subst a7;obtain ⟨v2,za,ma⟩:=bh.rel t2 _ Nw;obtain ⟨Lx,b8,tT,aaj,JA,ma⟩:=ma.vJ;have kf:bv=v2:=by
    obtain ⟨aB,LI,ct,rfl⟩:=fQ.kf;simp only [dS,za,walk,Option.some.injEq] at ct;exact ct.symm
   subst kf;have kZ:us=aaj++JA:=JJ fQ.iQ ma.nq;subst kZ;obtain ⟨aaG,UH,VM,Ij⟩:=bh.kill t;obtain ⟨QW,HJ,gj,fL⟩:=UH.kill t2;have Iz:bx (ch (ch g ⟨t,[]⟩ .dead) ⟨t2,[]⟩ .dead) q=some (.own z pD cs):=by rw [Fx (by simpa using qZ),Fx (by simpa using a6)]; exact ar
   obtain ⟨qD,cj,gA,hl,df,kG⟩:=HJ.part Iz (by simp);obtain ⟨b0,mA,bu,rfl⟩:=ma.kf;rw [bu] at gA;cases gA;obtain ⟨fH,iO,iR,ij⟩:=kG .dead cr (.dead λ_ h=>h) (λ_ h=>h.elim) (λ_ h=>h.elim) (λ_ _ _ h=>h.elim) (λ_ h=>by cases h);have qb:∀ c,cj c->Fs q.root c:=λc aa=>by have:=df c aa; rwa [fL _ qZ,Ij _ a6] at this
   have lr:∀ s c,fH s c->Fs s c/\¬ cj c/\s≠t/\s≠t2:=by
    intro s c aa;have oP:s≠t2:=by
     rintro rfl;by_cases vB:s=q.root
     ·exact qZ vB.symm
     ·rw [ij s vB] at aa; exact gj c aa
    have bL:s≠t:=by
     rintro rfl;by_cases vB:s=q.root
     ·exact a6 vB.symm
     ·rw [ij s vB,fL s oP] at aa; exact VM c aa
    by_cases aw:s=q.root
    ·subst aw;rcases (iR c).1 aa with h | h
     ·exact ⟨by have:=h.1; rwa [fL _ qZ,Ij _ a6] at this,h.2,bL,oP⟩
     ·exact h.elim
    ·rw [ij s aw,fL s oP,Ij s bL] at aa;exact ⟨aa,λew=>aw (bh.eB _ _ _ aa (qb c ew)),bL,oP⟩
   cases hl with
   | ref j=>simp [ab.isRef] at j
   | @own _ _ _ _ e' iD bV _ aV ai mF ah aP av aG =>
    have:=JJ aV ma.iQ;subst this;have e0:∀ k c,k<cs.length->bV k c->cj c:=λk c hk aa=>(aG c).2 (.inr ⟨k,hk,aa⟩);have ih:Hand w I (fI w T) fH (cs++zm++new) (iD++JA++news) (λk=>if k<cs.length then bV k else cr):=by
     have gf:=ma.ai;have BZ:=fQ.ai;refine ⟨by simp [ai,gf,BZ],λk x u j hu=>?_,λJ k c aj hk aa e7=>?_,λk s c hk aa aS=>?_,λk c hk aa=>?_⟩
     ·rw [List.append_assoc] at j hu;by_cases dR:k<cs.length
      ·rw [List.getElem?_append_left dR] at j;rw [List.getElem?_append_left (by omega)] at hu;simpa [dR] using ah k x u j hu
      ·rw [List.getElem?_append_right (by omega)] at j;rw [List.getElem?_append_right (by omega),<- ai] at hu;simp only [dR,if_false];by_cases Io:k - cs.length<zm.length
       ·rw [List.getElem?_append_left Io] at j;rw [List.getElem?_append_left (by omega)] at hu;exact ma.ah _ x u j hu
       ·rw [List.getElem?_append_right (by omega)] at j;rw [List.getElem?_append_right (by omega),<- gf] at hu;exact fQ.ah _ x u j hu
     ·by_cases eN:J<cs.length <;> by_cases dR:k<cs.length <;> simp [eN,dR,cr] at aa e7;exact aP J k c eN dR aa e7
     ·by_cases dR:k<cs.length <;> simp [dR,cr] at aa;exact (lr s c aS).2.1 (e0 k c dR aa)
     ·by_cases dR:k<cs.length <;> simp [dR,cr] at aa;exact bh.bk _ c (qb c (e0 k c dR aa))
    have PL:∀ s c,Fs s c->s=t\/s=t2->(∃ s,Fs s c)/\(∀ s,¬ fH s c)/\(∀ k,k<(cs++zm++new).length->¬ (if k<cs.length then bV k else cr) c)/\¬ I c:=by
     intro s c aa aw;refine ⟨⟨_,aa⟩,λcu aS=>?_,λk hk iA=>?_,bh.bk _ c aa⟩
     ·obtain ⟨f1,_,f2,f3⟩:=lr cu c aS;have:=bh.eB _ _ _ f1 aa;rcases aw with rfl | rfl
      ·exact f2 this
      ·exact f3 this
     ·by_cases dR:k<cs.length <;> simp [dR,cr] at iA;have:=bh.eB _ _ _ (qb c (e0 k c dR iA)) aa;rcases aw with rfl | rfl
      ·exact a6 this
      ·exact qZ this
    obtain ⟨b1,jo,aB,a2,a3⟩:=Take.node (g1:=ch (ch (ch g ⟨t,[]⟩ .dead) ⟨t2,[]⟩ .dead) q .dead) (Fs:=Fs) (B:=λc=>(Value.slice a (pD+m2+m) cap).ownBlock=some c) (H0:=dm 0) (X:=.own z (pD+m2+m) cs') (v0:=.slice a (pD+m2+m) cap) iO ih
     (λc aa=>by
      by_cases qd:bv.ownBlock=some c
      ·by_cases HX:(Value.slice b0 pD mA).ownBlock=some c
       ·have ew:cj c:=(aG c).2 (.inl HX);refine ⟨⟨_,qb c ew⟩,λs aS=>(lr s c aS).2.1 ew,λk hk iA=>?_,bh.bk _ c (qb c ew)⟩;by_cases dR:k<cs.length <;> simp [dR,cr] at iA;exact av k c dR iA HX
       ·exact PL t2 c ((ma.aG c).2 ⟨qd,HX⟩) (.inr rfl)
      ·exact PL t c ((fQ.aG c).2 ⟨aa,qd⟩) (.inl rfl))
     (λc aa=>by
      rcases aa with ⟨s,h⟩ | ⟨k,hk,h⟩
      ·exact .inl ⟨s,(lr s c h).1⟩
      ·by_cases dR:k<cs.length <;> simp [dR,cr] at h;exact .inl ⟨_,qb c (e0 k c dR h)⟩)
     hH.tail (R.vn hH) gb fR (λye gZ hV kq=>by
      refine .own fQ.nq (by rw [t1.length]; simp [ai,ma.ai,fQ.ai]) (λk u hu=>?_) gZ hV (λk c hk aa h=>kq k c hk aa h) λc=>Iff.rfl;rw [List.append_assoc] at hu;by_cases dR:k<iD.length
      ·rw [List.getElem?_append_left dR] at hu; exact mF k u hu
      ·rw [List.getElem?_append_right (by omega)] at hu;by_cases Io:k - iD.length<JA.length
       ·rw [List.getElem?_append_left Io] at hu; exact ma.h1 _ u hu
       ·rw [List.getElem?_append_right (by omega)] at hu; exact fQ.h1 _ u hu)
    exact ⟨b1,jo,aB,a2,λc aa=>la.head (a3 c aa)⟩
 | @obj g g1 g' p cs cs' xs xs' ar t1 _ gb fR =>
  intro Fs vs dm bh hH;cases vs with
  | nil=>have:=hH.len; simp at this
  | cons v vs =>
   obtain ⟨qD,cj,gA,hl,df,kG⟩:=bh.part ar (by simp);obtain ⟨u,ad,h1,af,rfl⟩:=(hH.rel 0 _ v rfl rfl).ny;rw [h1] at gA;cases gA;obtain ⟨fH,iO,iR,ij⟩:=kG .dead cr (.dead λ_ h=>h) (λ_ h=>h.elim) (λ_ h=>h.elim) (λ_ _ _ h=>h.elim) (λ_ h=>by cases h);have lr:∀ t c,fH t c->Fs t c/\¬ cj c:=by
    intro t c aa;by_cases al:t=p.root
    ·subst al;rcases (iR c).1 aa with h | h
     ·exact h
     ·exact h.elim
    ·rw [ij t al] at aa;exact ⟨aa,λew=>al (bh.eB _ _ _ aa (df c ew))⟩
   cases hl with
   | ref j=>simp [ab.isRef] at j
   | @obj _ b e arr bV _ aV ai mF ah aP av aG aw =>
    simp only [addrOf,Option.some.injEq] at af;subst af;have e0:∀ k c,k<cs.length->bV k c->cj c:=λk c hk aa=>(aG c).2 (.inr ⟨k,hk,aa⟩);have ih:Hand w I (fI w T) fH cs arr.toList bV :=
     ⟨by simp [ai],λk x u j hu=>ah k x u j (by simpa using hu),aP,λk t c hk aa aS=>(lr t c aS).2 (e0 k c hk aa),λk c hk aa=>bh.bk _ c (df c (e0 k c hk aa))⟩
    obtain ⟨b1,jo,aB,a2,a3⟩:=Take.node (g1:=ch g p .dead) (Fs:=Fs) (B:=λc=>c=b) (H0:=dm 0) (X:=.obj cs') (v0:=.pointer (some ⟨b,0,none⟩)) iO ih
     (λc aa=>by
      subst aa;have ew:cj c:=(aG c).2 (.inl rfl);exact ⟨⟨_,df c ew⟩,λt aS=>(lr t c aS).2 ew,λk hk iA=>av k hk iA,bh.bk _ c (df c ew)⟩)
     (λc aa=>by
      rcases aa with ⟨t,h⟩ | ⟨k,hk,h⟩
      ·exact .inl ⟨t,(lr t c h).1⟩
      ·exact .inl ⟨_,df c (e0 k c hk h)⟩)
     hH.tail (R.vn hH) gb fR (λye gZ hV kq=>by
      refine .obj aV (by rw [t1.length,ai]) mF (λk x u j hu=>gZ k x u j (by simpa using hu)) hV (λk hk h=>kq k b hk h rfl) (λc=>Iff.rfl) λk J u hk=>aw k J u (t1.self k J hk))
    exact ⟨b1,jo,aB,a2,λc aa=>la.head (a3 c aa)⟩
 | @mp g g1 g' p q xs xs' ar t1 _ gb fR =>
  intro Fs vs dm bh hH;cases vs with
  | nil=>have:=hH.len; simp at this
  | cons v vs =>
   obtain ⟨qD,cj,gA,hl,df,kG⟩:=bh.part ar (by simp);have hm:=hH.rel 0 _ v rfl rfl;cases hm with
   | ref _ hm _ =>
   obtain ⟨Gw,h1,rfl⟩:=hm;rw [h1] at gA;cases gA;obtain ⟨fH,iO,iR,ij⟩:=kG .dead cr (.dead λ_ h=>h) (λ_ h=>h.elim) (λ_ h=>h.elim) (λ_ _ _ h=>h.elim) (λ_ h=>by cases h);have lr:∀ t c,fH t c->Fs t c/\¬ cj c:=by
    intro t c aa;by_cases al:t=p.root
    ·subst al;rcases (iR c).1 aa with h | h
     ·exact h
     ·exact h.elim
    ·rw [ij t al] at aa;exact ⟨aa,λew=>al (bh.eB _ _ _ aa (df c ew))⟩
   cases hl with
   | ref j=>simp [ab.isRef] at j
   | @mp _ b es clock _ aV a6 aG =>
    have ih:Hand w I (fI w T) fH [] [] (λ_=>cr) :=
     ⟨rfl,λk x u j=>by simp at j,λ_ _ _ _ _ h=>h.elim,λ_ _ _ _ h=>h.elim,λ_ _ _ h=>h.elim⟩
    obtain ⟨b1,jo,aB,a2,a3⟩:=Take.node (g1:=ch g p .dead) (Fs:=Fs) (B:=λc=>c=b) (H0:=dm 0) (X:=.mp q) (v0:=.map (some b)) iO ih
     (λc aa=>by
      subst aa;have ew:cj c:=(aG c).2 rfl;exact ⟨⟨_,df c ew⟩,λt aS=>(lr t c aS).2 ew,λk hk _=>by simp at hk,bh.bk _ c (df c ew)⟩)
     (λc aa=>by
      rcases aa with ⟨t,h⟩ | ⟨k,hk,h⟩
      ·exact .inl ⟨t,(lr t c h).1⟩
      ·exact h.elim)
     hH.tail (R.vn hH) gb fR (λye gZ hV kq=>by
      refine .mp aV a6 λc=>⟨λh=>h.elim id λ⟨_,hk,_⟩=>by simp at hk,.inl⟩)
    exact ⟨b1,jo,aB,a2,λc aa=>la.head (a3 c aa)⟩
 | @agg g g1 g' cs cs' xs xs' t1 _ gb fR =>
  intro Fs vs dm bh hH;cases vs with
  | nil=>have:=hH.len; simp at this
  | cons v vs =>
   have j:=hH.rel 0 _ v rfl rfl;have aO:=R.vn hH;cases j with
   | ref j=>simp [ab.isRef] at j
   | @agg _ us bV _ ai mF ah aP aG =>
    have e0:∀ k c,k<cs.length->bV k c->dm 0 c:=λk c hk aa=>(aG c).2 ⟨k,hk,aa⟩;obtain ⟨b1,jo,aB,a2,a3⟩:=Take.node (g1:=g) (Fs:=Fs) (B:=cr) (H0:=dm 0) (X:=.agg cs') (v0:=.agg us) bh
     (⟨by simp [ai],λk x u j hu=>ah k x u j (by simpa using hu),aP,λk t c hk aa=>(aO c (e0 k c hk aa)).1 t,λk c hk aa=>hH.bk 0 c (by simp) (e0 k c hk aa)⟩:Hand w I (fI w T) Fs cs us.toList bV)
     (λc aa=>aa.elim)
     (λc aa=>by
      rcases aa with h | ⟨k,hk,h⟩
      ·exact .inl h
      ·exact .inr (e0 k c hk h))
     hH.tail aO gb fR (λye gZ hV kq=>by
      refine .agg (by rw [t1.length,ai]) mF (λk x u j hu=>gZ k x u j (by simpa using hu)) hV λc=>⟨λh=>h.elim (λh=>h.elim) id,.inr⟩)
    exact ⟨b1,jo,aB,a2,λc aa=>la.head (a3 c aa)⟩
 | @bJ g g1 g' cs cs' xs xs' t1 _ gb fR =>
  intro Fs vs dm bh hH;cases vs with
  | nil=>have:=hH.len; simp at this
  | cons v vs =>
   have j:=hH.rel 0 _ v rfl rfl;have aO:=R.vn hH;cases j with
   | ref j=>simp [ab.isRef] at j
   | @bJ _ us bV _ ai ah aP aG =>
    have e0:∀ k c,k<cs.length->bV k c->dm 0 c:=λk c hk aa=>(aG c).2 ⟨k,hk,aa⟩;obtain ⟨b1,jo,aB,a2,a3⟩:=Take.node (g1:=g) (Fs:=Fs) (B:=cr) (H0:=dm 0) (X:=.bJ cs') (v0:=.tuple us) bh
     (⟨by simp [ai],λk x u j hu=>ah k x u j (by simpa using hu),aP,λk t c hk aa=>(aO c (e0 k c hk aa)).1 t,λk c hk aa=>hH.bk 0 c (by simp) (e0 k c hk aa)⟩:Hand w I (fI w T) Fs cs us.toList bV)
     (λc aa=>aa.elim)
     (λc aa=>by
      rcases aa with h | ⟨k,hk,h⟩
      ·exact .inl h
      ·exact .inr (e0 k c hk h))
     hH.tail aO gb fR (λye gZ hV kq=>by
      refine .bJ (by rw [t1.length,ai]) (λk x u j hu=>gZ k x u j (by simpa using hu)) hV λc=>⟨λh=>h.elim (λh=>h.elim) id,.inr⟩)
    exact ⟨b1,jo,aB,a2,λc aa=>la.head (a3 c aa)⟩
end
end Go.Own
namespace Go.Own
open Go
set_option linter.unusedSectionVars false
variable [cE]
inductive j_ (mu:ab->Prop):ab->Prop
 | bg {x:ab}(h:cA x):j_ mu x
 | ref {x:ab}(j:x.isRef=true) (h:mu x):j_ mu x
 | own {z n:Nat}{cs:List ab}(h:∀ x∈cs,j_ mu x):j_ mu (.own z n cs)
 | obj {cs:List ab}(h:∀ x∈cs,j_ mu x):j_ mu (.obj cs)
 | agg {cs:List ab}(h:∀ x∈cs,j_ mu x):j_ mu (.agg cs)
 | bJ {cs:List ab}(h:∀ x∈cs,j_ mu x):j_ mu (.bJ cs)
 | di {fn:Fn}{a b:List ab}(h1:∀ x∈a,j_ mu x) (af:∀ x∈b,j_ mu x):j_ mu (.di fn a b)
def zN:ab->Option Place
 | .ptr p _=>some p
 | .bl _ p _=>some p
 | .sub _ p _ _=>some p
 | .bC _ p _ _ _=>some p
 | .hf p=>some p
 | _=>none
def Clear (p:Place) (k m:Nat) (r:ab):Prop:=∀ q,zN r=some q->q.root=p.root->∀ J cK,q.path=p.path++J::cK->J<k\/k+m<=J
def eP {α:Type}(l:List α) (k:Nat) (c:List α):List α:=l.take k++c++l.drop (k+c.length)
theorem rl {α:Type}{l:List α}{k:Nat}{c:List α}(h:k+c.length<=l.length):(eP l k c).length=l.length:=by
 simp [eP]; omega
theorem rk {α:Type}{l:List α}{k:Nat}{c:List α}(h:k+c.length<=l.length) (J:Nat):(eP l k c)[J]?=if k<=J/\J<k+c.length then c[J - k]? else l[J]?:=by
 unfold eP;rw [List.append_assoc];by_cases h1:J<k
 ·rw [List.getElem?_append_left (by simp; omega),List.getElem?_take,if_pos h1,if_neg (by omega)]
 ·rw [List.getElem?_append_right (by simp; omega)];have:(l.take k).length=k:=by simp; omega
  rw [this];by_cases af:J<k+c.length
  ·rw [List.getElem?_append_left (by omega),if_pos ⟨by omega,af⟩]
  ·rw [List.getElem?_append_right (by omega),List.getElem?_drop,if_neg (by omega)];congr 1; omega
theorem ZC {α:Type}{l:List α}{k:Nat}{c:List α}{m:Nat}(h:k+c.length<=m) (hm:m<=l.length):(eP l k c).take m=eP (l.take m) k c:=by
 have h1:k+c.length<=(l.take m).length:=by rw [List.length_take]; omega
 apply List.ext_getElem?;intro J;rw [List.getElem?_take,rk h1,rk (l:=l) (by omega),List.getElem?_take];by_cases aj:J<m
 ·rw [if_pos aj,if_pos aj]
 ·rw [if_neg aj,if_neg aj,if_neg (by omega)]
def ab.eP (x:ab) (k:Nat) (c:List ab):ab :=
 match x with
 | .own z n cs=>.own z n (Own.eP cs k c)
 | .obj cs=>.obj (Own.eP cs k c)
 | x=>x
section
variable {w:World}{I:a_}{T:Array Value}{g:aI}{Fs:Nat->a_}
theorem R.CQ {ρ:ab->Value->Prop}{mu:ab->Prop}{x:ab}{v:Value}{F:a_}(h:R w I ρ x v F):j_ mu x->R w I (λr u=>ρ r u/\mu r) x v F:=by
 induction h with
 | lit h aG=>exact λ_=>.lit h aG
 | aU aG=>exact λ_=>.aU aG
 | dead aG=>exact λ_=>.dead aG
 | l1 aG=>exact λ_=>.l1 aG
 | @ref x _ _ j h aG =>
  intro hk;refine .ref j ⟨h,?_⟩ aG;cases hk with
  | ref _ h=>exact h
  | bg h=>cases h <;> simp [ab.isRef] at j
  | _=>simp [ab.isRef] at j
 | hn aG=>exact λ_=>.hn aG
 | mp aV ar aG=>exact λ_=>.mp aV ar aG
 | eY aV h1 aG=>exact λ_=>.eY aV h1 aG
 | imp aG ba aV ar=>exact λ_=>.imp aG ba aV ar
 | bk aG kW ba aw ai h1 aa ah aL =>
  intro hk;cases hk with
  | ref j=>simp [ab.isRef] at j
  | bg h=>cases h with | bk h=>exact .bk aG kW ba aw ai h1 aa λk x j=>aL k x j (.bg (h x (List.mem_of_getElem? j)))
 | cJ aG ba aw h1 aa ah aL =>
  intro hk;cases hk with
  | ref j=>simp [ab.isRef] at j
  | bg h=>cases h with | cJ h=>exact .cJ aG ba aw h1 aa λk x j=>aL k x j (.bg (h x (List.mem_of_getElem? j)))
 | own aV ai h1 ah aP av aG aL =>
  intro hk;refine .own aV ai h1 (λk x u j hu=>aL k x u j hu ?_) aP av aG;cases hk with
  | ref j=>simp [ab.isRef] at j
  | bg h=>cases h with | own h=>exact .bg (h x (List.mem_of_getElem? j))
  | own h=>exact h x (List.mem_of_getElem? j)
 | obj aV ai h1 ah aP av aG aw aL =>
  intro hk;refine .obj aV ai h1 (λk x u j hu=>aL k x u j hu ?_) aP av aG aw;cases hk with
  | ref j=>simp [ab.isRef] at j
  | bg h=>cases h with | obj h=>exact .bg (h x (List.mem_of_getElem? j))
  | obj h=>exact h x (List.mem_of_getElem? j)
 | agg ai h1 ah aP aG aL =>
  intro hk;refine .agg ai h1 (λk x u j hu=>aL k x u j hu ?_) aP aG;cases hk with
  | ref j=>simp [ab.isRef] at j
  | bg h=>cases h with | agg h=>exact .bg (h x (List.mem_of_getElem? j))
  | agg h=>exact h x (List.mem_of_getElem? j)
 | bJ ai ah aP aG aL =>
  intro hk;refine .bJ ai (λk x u j hu=>aL k x u j hu ?_) aP aG;cases hk with
  | ref j=>simp [ab.isRef] at j
  | bg h=>cases h with | bJ h=>exact .bg (h x (List.mem_of_getElem? j))
  | bJ h=>exact h x (List.mem_of_getElem? j)
 | @di fn first caps v1 v2 F aG h1 af iR ij gb fR =>
  intro hk;have:(∀ x∈first,j_ mu x)/\∀ x∈caps,j_ mu x:=by
   cases hk with
   | ref j=>simp [ab.isRef] at j
   | bg h=>cases h with | di h1 af=>exact ⟨λx j=>.bg (h1 x j),λx j=>.bg (af x j)⟩
   | di h1 af=>exact ⟨h1,af⟩
  exact .di aG h1 af (λk x u j hu=>gb k x u j hu (this.1 x (List.mem_of_getElem? j))) (λk x u j hu=>fR k x u j hu (this.2 x (List.mem_of_getElem? j)))
theorem jr.store (bh:jr w I T g Fs) {p:Place}{nd:ab}{z n:Nat}{cs:List ab}(ar:bx g p=some nd) (fj:nd=.own z n cs\/nd=.obj cs) {k:Nat}{cs':List ab}(hk:k+cs'.length<=cs.length)
  {iD:List Value}{dm:Nat->a_}(hH:Hand w I (fI w T) Fs cs' iD dm) (mJ:∀ x∈cs',cA x) (lP:nd=.obj cs->qN cs') (gu:∀ (J:Nat) (u:Value),iD[J]?=some u->u.oneCell'=true)
  {g2:aI}(Ea:∀ t x,g2 t=some x->ch g p (nd.eP k cs') t=some x)
  (sS:∀ t x,g2 t=some x->∀ y,g t=some y->j_ (λr=>gP g r/\Clear p k cs'.length r/\gP g2 r) y) (mg:∀ t z q n m new,g2 t≠some (.bC z q n m new)) (mM:g2 p.root≠none) {b:Nat}{v:Value}
  (hv:dS w T p=some v) (av:addrOf v=some ⟨b,0,none⟩) {e:TypeId}{arr:Array Value}(lu:w.heap[b]?=some (.cells arr e (0,0))) :
  ∃ b1,cB (w.setRow b (eP arr.toList k iD).toArray) I T g2 b1/\∀ t c,b1 t c->Fs t c\/∃ J,J<cs'.length/\dm J c:=by
 have k4:∀ z q n m new,nd≠.bC z q n m new:=by rcases fj with rfl | rfl <;> simp
 have hlen:=hH.len;have so:∀ c,c≠b->(w.setRow b (eP arr.toList k iD).toArray).heap[c]?=w.heap[c]?:=λc aa=>setRow_other w b c _ aa;have Ks:(w.setRow b (eP arr.toList k iD).toArray).heap[b]?=some (.cells (eP arr.toList k iD).toArray e (0,0)):=setRow_heap w b arr _ e (0,0) lu;have adJ:(w.setRow b (eP arr.toList k iD).toArray).heap.size=w.heap.size:=by simp
 generalize w5:w.setRow b (eP arr.toList k iD).toArray=w' at *
 -- the slot of the node
 obtain ⟨eI,jx⟩:∃ eI,g p.root=some eI:=by
  unfold bx at ar;cases j:g p.root with
  | none=>rw [j] at ar; cases ar
  | some x=>exact ⟨x,rfl⟩
 have rO:eI.at p.path=some nd:=by simpa [bx,jx] using ar
 obtain ⟨v0,jj,fQ⟩:=bh.rel _ _ jx;have Hz:=fQ.gV (by rintro z q n m new rfl; exact k4 _ _ _ _ _ (ab.tN rO).2);have mf:j_ (λr=>gP g r/\Clear p k cs'.length r/\gP g2 r) eI:=by
  cases af:g2 p.root with
  | none=>exact absurd af mM
  | some y=>exact sS _ _ af _ jx
 let KJ:ab->Value->Prop:=λr u=>fI w T r u/\gP g r/\Clear p k cs'.length r/\gP g2 r;have A3:R w I KJ eI v0 (Fs p.root):=Hz.CQ mf;obtain ⟨ia,cj,hw,dz,df,eH,kG⟩:=R.focus p.path A3 rO;have WD:ia=v:=by simp only [dS,jj,hw,Option.some.injEq] at hv; exact hv
 subst WD;have oJ:cj b:=dz.E4 (z:=z) (n:=n) fj av;have same:∀ t c,Fs t c->c≠b->w'.heap[c]?=w.heap[c]?:=λ_ c _ aa=>so c aa;have yS:∀ c,I c->w'.heap[c]?=w.heap[c]?:=λc aa=>so c λe=>bh.bk _ b (df b oJ) (e ▸ aa);have Nl:∀ t,t≠p.root->¬ Fs t b:=λt al h=>al (bh.eB _ _ _ h (df b oJ))
 -- ways that are clear of the cells
 obtain ⟨aap,aaq⟩:=eH w' λc aa aA=>so c λe=>aA (e ▸ oJ);have NY:∀ (ρ':ab->Value->Prop),(∀ x v,KJ x v->ρ' x v)->(∃ cV,R w' I ρ' (nd.eP k cs') ia cV/\∀ c,cV c->cj c\/∃ J,J<cs'.length/\dm J c)/\∀ J cK y,(J<k\/k+cs'.length<=J)->nd.at (J::cK)=some y->walk w' ia (J::cK)=walk w ia (J::cK):=by
  intro ρ' lz;have new:∀ (J:Nat) (x:ab) (u:Value),cs'[J]?=some x->iD[J]?=some u->R w' I ρ' x u (dm J):=by
   intro J x u j hu;have aj:J<cs'.length:=(List.getElem?_eq_some_iff.1 j).1;have:=(hH.rel J x u j hu).bg (ρ':=ρ') (mJ x (List.mem_of_getElem? j));exact this.frame yS (λ_ h=>h) (λ_ _ h=>h) λc aa=>so c λe=>hH.off J p.root b aj (e ▸ aa) (df b oJ)
  rcases fj with rfl | rfl
  ·cases dz with
   | ref j=>simp [ab.isRef] at j
   | @own _ _ _ _ b8 us bV _ aV ai h1 ah aP jh aG =>
    obtain ⟨kZ,bD⟩:=aV;rcases bD with ⟨rfl,_⟩ | ⟨dV,cap,cur,rfl,rb,j2,xI,vW,zM,xJ⟩
    ·simp [addrOf] at av
    ·simp only [addrOf,Option.some.injEq,Addr.mk.injEq,and_true] at av;subst av;rw [lu] at j2;cases j2;have MX:n * z<=arr.toList.length:=by
      rw [<- kZ,<- xJ,List.length_take] ; simp; omega
     have adi:us.length=cs.length:=ai.symm;have mK:w'.ownsRow 0 e z (.slice (some ⟨dV,0,none⟩) n cap) n (eP us k iD):=by
      refine ⟨by rw [rl (by omega),kZ],.inr ⟨dV,cap,_,rfl,rb,Ks,xI,vW,?_,?_⟩⟩
      ·rw [List.size_toArray,rl (by omega),Array.length_toList,zM]
      ·show (eP arr.toList k iD).take (n * z)=_;rw [ZC (by omega) MX,xJ]
     have MD:∀ J,J<cs.length->¬ bV J dV:=λJ aj h=>jh J dV aj h rfl;have e0:∀ J c,J<cs.length->bV J c->Fs p.root c:=λJ c aj aa=>df c ((aG c).2 (.inr ⟨J,aj,aa⟩));refine ⟨⟨_,.own (Fs:=λJ=>if k<=J/\J<k+cs'.length then dm (J - k) else bV J) mK (by rw [rl hk,rl (by omega),ai]) (λJ u hu=>?_) (λJ x u j hu=>?_) (λi J c hi aj aa e7=>?_) (λJ c aj aa vF=>?_) (λc=>Iff.rfl),λc aa=>?_⟩,λJ cK y aj ak=>?_⟩
     ·rw [rk (by omega)] at hu
      split at hu
      ·exact gu _ u hu
      ·exact h1 J u hu
     ·rw [rk hk] at j;rw [rk (by omega),<- hlen] at hu;by_cases fz:k<=J/\J<k+cs'.length
      ·rw [if_pos fz] at j hu;simpa [fz] using new (J - k) x u j hu
      ·rw [if_neg fz] at j hu;have eN:J<cs.length:=(List.getElem?_eq_some_iff.1 j).1;rw [if_neg fz];exact (ah J x u j hu).frame yS (λ_ h=>h) lz λc aa=>so c λe=>MD J eN (e ▸ aa)
     ·rw [rl hk] at hi aj;by_cases h1:k<=i/\i<k+cs'.length <;> by_cases af:k<=J/\J<k+cs'.length <;> simp only [h1,af,if_false] at aa e7
      ·have:=hH.eB (i - k) (J - k) c (by omega) (by omega) (by simpa using aa) (by simpa using e7);omega
      ·exact absurd (e0 J c aj e7) (hH.off (i - k) _ c (by omega) (by simpa using aa))
      ·exact absurd (e0 i c hi aa) (hH.off (J - k) _ c (by omega) (by simpa using e7))
      ·exact aP i J c hi aj aa e7
     ·rw [rl hk] at aj;by_cases h1:k<=J/\J<k+cs'.length
      ·rw [if_pos h1] at aa;simp only [Value.ownBlock,Option.some.injEq] at vF;subst vF;exact hH.off (J - k) p.root dV (by omega) aa (df dV oJ)
      ·rw [if_neg h1] at aa; exact jh J c aj aa vF
     ·rcases aa with aa | ⟨J,aj,aa⟩
      ·exact .inl ((aG c).2 (.inl aa))
      ·rw [rl hk] at aj;by_cases h1:k<=J/\J<k+cs'.length
       ·rw [if_pos h1] at aa; exact .inr ⟨J - k,by omega,aa⟩
       ·rw [if_neg h1] at aa; exact .inl ((aG c).2 (.inr ⟨J,aj,aa⟩))
     ·obtain ⟨c,oL,aa⟩:=ab.u_ ak;simp only [ab.kids] at oL;have eN:J<cs.length:=(List.getElem?_eq_some_iff.1 oL).1;have hu:us[J]?=some us[J]:=List.getElem?_eq_getElem (by omega);have ni:child w (.slice (some ⟨dV,0,none⟩) n cap) J=some us[J]:=by
       refine oW (e:=e) (z:=z) (n:=n) (us:=us) ⟨kZ,.inr ⟨dV,cap,arr,rfl,rb,lu,xI,vW,zM,xJ⟩⟩ hu
      have Bf:child w' (.slice (some ⟨dV,0,none⟩) n cap) J=some us[J]:=by
       refine oW mK ?_;rw [rk (by omega),if_neg (by omega)]; exact hu
      have:=R.pV (w':=w') cK (ah J c _ oL hu) aa λc aa=>so c λe=>MD J eN (e ▸ aa);simp [walk,ni,Bf,this]
  ·cases dz with
   | ref j=>simp [ab.isRef] at j
   | @obj _ dV b8 jb bV _ aV ai h1 ah aP jh aG aw =>
    simp only [addrOf,Option.some.injEq,Addr.mk.injEq,and_true] at av;subst av;rw [lu] at aV;cases aV;have oG:cs.length=arr.toList.length:=by simp [ai]
    have e0:∀ J c,J<cs.length->bV J c->Fs p.root c:=λJ c aj aa=>df c ((aG c).2 (.inr ⟨J,aj,aa⟩));refine ⟨⟨_,.obj (Fs:=λJ=>if k<=J/\J<k+cs'.length then dm (J - k) else bV J) Ks (by rw [rl hk,List.size_toArray,rl (by omega),oG]) (λJ u hu=>?_) (λJ x u j hu=>?_) (λi J c hi aj aa e7=>?_) (λJ aj aa=>?_) (λc=>Iff.rfl) (λi J u hi hu=>?_),λc aa=>?_⟩,λJ cK y aj ak=>?_⟩
    ·rw [List.getElem?_toArray,rk (by omega)] at hu
     split at hu
     ·exact gu _ u hu
     ·exact h1 J u (by simpa using hu)
    ·rw [rk hk] at j;rw [List.getElem?_toArray,rk (by omega),<- hlen] at hu;by_cases fz:k<=J/\J<k+cs'.length
     ·rw [if_pos fz] at j hu;simpa [fz] using new (J - k) x u j hu
     ·rw [if_neg fz] at j hu;have eN:J<cs.length:=(List.getElem?_eq_some_iff.1 j).1;rw [if_neg fz];exact (ah J x u j (by simpa using hu)).frame yS (λ_ h=>h) lz λc aa=>so c λe=>jh J eN (e ▸ aa)
    ·rw [rl hk] at hi aj;by_cases h1:k<=i/\i<k+cs'.length <;> by_cases af:k<=J/\J<k+cs'.length <;> simp only [h1,af,if_false] at aa e7
     ·have:=hH.eB (i - k) (J - k) c (by omega) (by omega) (by simpa using aa) (by simpa using e7);omega
     ·exact absurd (e0 J c aj e7) (hH.off (i - k) _ c (by omega) (by simpa using aa))
     ·exact absurd (e0 i c hi aa) (hH.off (J - k) _ c (by omega) (by simpa using e7))
     ·exact aP i J c hi aj aa e7
    ·rw [rl hk] at aj;by_cases h1:k<=J/\J<k+cs'.length
     ·rw [if_pos h1] at aa;exact hH.off (J - k) p.root dV (by omega) aa (df dV oJ)
     ·rw [if_neg h1] at aa; exact jh J aj aa
    ·rw [rk hk] at hi;rw [List.getElem?_toArray,rk (by omega),<- hlen] at hu;by_cases Eb:k<=i/\i<k+cs'.length
     ·rw [if_pos Eb] at hi; exact absurd hi (lP rfl _ _)
     ·rw [if_neg Eb] at hi hu; exact aw i J u hi (by simpa using hu)
    ·rcases aa with aa | ⟨J,aj,aa⟩
     ·exact .inl ((aG c).2 (.inl aa))
     ·rw [rl hk] at aj;by_cases h1:k<=J/\J<k+cs'.length
      ·rw [if_pos h1] at aa; exact .inr ⟨J - k,by omega,aa⟩
      ·rw [if_neg h1] at aa; exact .inl ((aG c).2 (.inr ⟨J,aj,aa⟩))
    ·obtain ⟨c,oL,aa⟩:=ab.u_ ak;simp only [ab.kids] at oL;have eN:J<cs.length:=(List.getElem?_eq_some_iff.1 oL).1;have hu:arr[J]?=some arr[J]:=Array.getElem?_eq_getElem (by omega);have ni:child w (.pointer (some ⟨dV,0,none⟩)) J=some arr[J]:=by simp [child,World.cell?,lu,hu]
     have Bf:child w' (.pointer (some ⟨dV,0,none⟩)) J=some arr[J]:=by
      have aF:(eP arr.toList k iD)[J]?=some arr[J]:=by
       rw [rk (by omega),if_neg (by omega)]; simp
      simp [child,World.cell?,Ks,aF]
     have:=R.pV (w':=w') cK (ah J c _ oL hu) aa λc aa=>so c λe=>jh J eN (e ▸ aa);simp [walk,ni,Bf,this]
 have val:∀ q y,bx g q=some y->(q.root=p.root->∀ J cK,q.path=p.path++J::cK->J<k\/k+cs'.length<=J)->dS w' T q=dS w T q:=by
  intro q y a6 ht;by_cases ah:q.root=p.root
  ·have fx:eI.at q.path=some y:=by simpa [bx,ah,jx] using a6
   rcases aaq q.path y fx with ⟨cK,dK⟩ | h
   ·have w5:walk w' v0 q.path=walk w v0 q.path:=by
     rw [dK,C7,C7,aap,hw];simp only [Option.bind_some];cases cK with
     | nil=>rfl
     | cons J cK =>
      rw [dK,ab.Gu,rO] at fx;exact (NY (λ_ _=>True) (λ_ _ _=>trivial)).2 J cK y (ht ah J cK dK) fx
    simp [dS,ah,jj,w5]
   ·simp [dS,ah,jj,h]
  ·unfold bx at a6;cases j:g q.root with
   | none=>rw [j] at a6; cases a6
   | some x =>
    rw [j] at a6;obtain ⟨u,hu,aY⟩:=bh.rel _ _ j;cases aY with
    | tree aY =>
     have:=R.pV (w':=w') q.path aY a6 λc aa=>so c λe=>Nl _ ah (e ▸ aa);simp [dS,hu,this]
    | bC aY=>simp [dS,hu,(ab.tN a6).1,walk]
 have slot:∀ {q:Place}{x:ab},q.path=[]->g q.root=some x->dS w' T q=dS w T q:=by
  intro q x a6 j;obtain ⟨u,hu,_⟩:=bh.rel _ _ j;simp [dS,a6,walk]
 have refs:∀ r u,KJ r u->dP w' T g2 r u:=by
  rintro r u ⟨h1,af,aF,bu⟩;refine ⟨?_,bu⟩;cases r <;> simp only [fI,gP] at h1 af ⊢
  case ptr q J=>obtain ⟨y,ak,_⟩:=af; rw [val q y ak (aF q rfl)]; exact h1
  case bl br q cf =>
   rcases af with ⟨_,_,af,_⟩ | ⟨aO,_,_,_,_,af,_⟩
   ·rw [val q _ af (aF q rfl)]; exact h1
   ·rw [slot aO af]; exact h1
  case sub br q lo cf=>obtain ⟨_,_,af,_⟩:=af; rw [val q _ af (aF q rfl)]; exact h1
  case hf q=>obtain ⟨_,af⟩:=af; rw [val q _ af (aF q rfl)]; exact h1
  case bC br q cf bd cO =>
   rcases af with ⟨_,af⟩ | ⟨aO,_,_,_,_,_,af,_⟩
   ·rw [val q _ af (aF q rfl)]; exact h1
   ·rw [slot aO af]; exact h1
 obtain ⟨⟨Fn,UC,ME⟩,_⟩:=NY (dP w' T g2) refs;obtain ⟨cV,HA,pk⟩:=kG w' I (dP w' T g2) _ Fn ⟨yS,λc aa aA=>so c λe=>aA (e ▸ oJ),λ_ h=>h,refs⟩ UC (λc aa e7=>by
  rcases ME c aa with h | ⟨J,aj,h⟩
  ·exact h
  ·exact absurd e7 (hH.off J _ c aj h)) (λJ h=>by rcases fj with rfl | rfl <;> simp [ab.eP] at h)
 have Hq:∀ c,cV c->Fs p.root c\/∃ J,J<cs'.length/\dm J c:=by
  intro c aa;rcases (pk c).1 aa with h | h
  ·exact .inl h.1
  ·rcases ME c h with h | h
   ·exact .inl (df c h)
   ·exact .inr h
 let b1:Nat->a_:=λt c=>if t=p.root then cV c else g2 t≠none/\Fs t c
 have tY:∀ t c,b1 t c->Fs t c\/∃ J,J<cs'.length/\dm J c:=by
  intro t c aa;by_cases al:t=p.root
  ·simp only [b1,if_pos al] at aa; rw [al]; exact Hq c aa
  ·simp only [b1,if_neg al] at aa; exact .inl aa.2
 refine ⟨b1,⟨λt x j=>?_,λt al c aa=>?_,λt t' c aa e7=>?_,λt c aa hi=>?_,λc aa=>by have:=bh.lt c aa; omega,λt t' z q n m new br cf bd cO h1=>absurd h1 (mg _ _ _ _ _ _),cE.keep bh.gl yS λ_ h=>h⟩,tY⟩
 ·have fM:=Ea t x j;by_cases al:t=p.root
  ·subst al;have IY:eI.setAt p.path (nd.eP k cs')=x:=by simpa [ch,jx] using fM
   refine ⟨v0,jj,.tree ?_⟩;have Ht:b1 p.root=cV:=by funext c; simp [b1]
   rw [<- IY,Ht]; exact HA
  ·rw [xQ al] at fM;obtain ⟨u,hu,aY⟩:=bh.rel t x fM;replace aY:=aY.gV (by rintro z q n m new rfl; exact mg _ _ _ _ _ _ j);have Ht:b1 t=Fs t:=by
    funext c;exact propext ⟨λh=>by simp only [b1,if_neg al] at h; exact h.2,λh=>by simp only [b1,if_neg al]; exact ⟨by rw [j]; simp,h⟩⟩
   refine ⟨u,hu,.tree ?_⟩;rw [Ht];exact (aY.CQ (sS t x j x fM)).frame yS (λ_ h=>h) refs λc aa=>so c λe=>Nl t al (e ▸ aa)
 ·by_cases h_:t=p.root
  ·exact mM (h_ ▸ al)
  ·simp only [b1,if_neg h_] at aa; exact aa.1 al
 ·by_cases h1:t=p.root <;> by_cases af:t'=p.root
  ·rw [h1,af]
  ·simp only [b1,if_pos h1] at aa; simp only [b1,if_neg af] at e7;rcases Hq c aa with h | ⟨J,aj,h⟩
   ·exact absurd (bh.eB _ _ _ h e7.2) (Ne.symm af)
   ·exact absurd e7.2 (hH.off J _ c aj h)
  ·simp only [b1,if_neg h1] at aa; simp only [b1,if_pos af] at e7;rcases Hq c e7 with h | ⟨J,aj,h⟩
   ·exact absurd (bh.eB _ _ _ aa.2 h) h1
   ·exact absurd aa.2 (hH.off J _ c aj h)
  ·simp only [b1,if_neg h1] at aa; simp only [b1,if_neg af] at e7;exact bh.eB _ _ _ aa.2 e7.2
 ·rcases tY t c aa with h | ⟨J,aj,h⟩
  ·exact bh.bk _ c h hi
  ·exact hH.bk J c aj h hi
end
end Go.Own
namespace Go.Own
open Go
set_option linter.unusedSectionVars false
variable [cE]
section
variable {P:Program}{w:World}{I:a_}{T:Array Value}{g:aI}{Fs:Nat->a_}
theorem View.PN (h:jr w I T g Fs) {x x':ab}(hv:View g x x'):∀ {v:Value}{F:a_},R w I (fI w T) x v F->(∀ c,F c->∃ t,Fs t c)->∀ ρ',R w (λc=>I c\/∃ t,Fs t c) ρ' x' v cr:=by
 induction hv with
 | qt =>
  intro v F aY aG ρ';have:=aY.r2;subst this;exact .hn λ_ h=>h
 | mp =>
  intro v F aY aG ρ';cases aY with
  | ref j=>simp [ab.isRef] at j
  | mp aV ar av=>exact .imp (λ_ h=>h) (.inr (aG _ ((av _).2 rfl))) aV ar
 | hf ar =>
  intro v F aY aG ρ';cases aY with
  | ref _ ah _ =>
   obtain ⟨b,av,rfl⟩:=ah;obtain ⟨eg,cj,iS,dz,df,_⟩:=h.part ar (by simp);rw [av] at iS;cases iS;cases dz with
   | ref j=>simp [ab.isRef] at j
   | mp aV ar av=>exact .imp (λ_ h=>h) (.inr ⟨_,df _ ((av _).2 rfl)⟩) aV ar
 | self aA h1 af aF bu ct =>
  intro v F aY aG ρ';refine ((aY.bg aA).nC λc aa=>.inl aa).empty ?_;cases aY with
  | mp=>exact absurd rfl (ct.1 _)
  | eY=>exact absurd rfl (ct.2 _ _)
  | lit _ aG | aU aG | dead aG | l1 aG | ref _ _ aG | hn aG | bk aG | cJ aG | di aG | imp aG=>exact aG
  | own=>exact absurd rfl (h1 _ _ _)
  | obj=>exact absurd rfl (af _)
  | agg=>exact absurd rfl (aF _)
  | bJ=>exact absurd rfl (bu _)
 | @agg cs cs' ai _ aL =>
  intro v F aY aG ρ';cases aY with
  | ref j=>simp [ab.isRef] at j
  | @agg _ vs bV _ hF h1 ah aP lN =>
   refine .agg (Fs:=λ_=>cr) (by rw [ai,hF]) h1 (λk y u ak hu=>?_) (λ_ _ _ _ _ h=>h.elim) (λc=>⟨λh=>h.elim,λ⟨_,_,h⟩=>h⟩);have hk:k<cs.length:=by rw [<- ai]; exact (List.getElem?_eq_some_iff.1 ak).1
   have j:=List.getElem?_eq_getElem hk;exact aL k _ y j ak (ah k _ u j hu) (λc aa=>aG c ((lN c).2 ⟨k,hk,aa⟩)) ρ'
 | @di fn cs cs' ai _ aL =>
  intro v F aY aG ρ';cases aY with
  | ref j=>simp [ab.isRef] at j
  | @di _ _ _ v1 v2 _ tW h1 af iR ij =>
   refine .di (λ_ h=>h) h1 (by rw [ai,af]) (λk x u j=>by simp at j) (λk y u ak hu=>?_);have hk:k<cs.length:=by rw [<- ai]; exact (List.getElem?_eq_some_iff.1 ak).1
   have j:=List.getElem?_eq_getElem hk;exact aL k _ y j ak (ij k _ u j hu) (λc aa=>aa.elim) ρ'
 | @own z n cs cs' ai _ aL =>
  intro v F aY aG ρ';obtain ⟨a,cap,us,bV,rfl,aA,hlen,aQ,aa⟩:=aY.zq;cases a with
  | none =>
   have gT:cs=[]:=by
    cases cs with
    | nil=>rfl
    | cons c cs=>obtain ⟨b,av,_⟩:=aa 0 c rfl; cases av
   subst gT;have kX:cs'=[]:=List.eq_nil_of_length_eq_zero (by simpa using ai);subst kX;have ji:n=0:=by
    cases aY with
    | ref j=>simp [ab.isRef] at j
    | own aV =>
     obtain ⟨_,bD⟩:=aV;rcases bD with ⟨bD,aO⟩ | ⟨b,c2,cur,bD,_⟩
     ·exact aO
     ·cases bD
   subst ji;exact .hn λ_ h=>h
  | some ad =>
   obtain ⟨b,rfl,lO⟩:=aQ ad rfl;refine .bk (us:=us) (λ_ h=>h) aA (.inr (aG b lO)) rfl (by rw [ai,hlen]) (λk y ak=>?_) (λk y ak=>?_) λk y ak=>?_
   all_goals
    have hk:k<cs.length:=by rw [<- ai]; exact (List.getElem?_eq_some_iff.1 ak).1
    have j:=List.getElem?_eq_getElem hk;obtain ⟨dV,h9,h1,af,aF,bu⟩:=aa k _ j;cases h9
   ·exact af
   ·simpa using h1
   ·exact aL k _ y j ak aF (λc aa=>aG c (bu c aa)) ρ'
 | @obj cs cs' ai _ aL =>
  intro v F aY aG ρ';cases aY with
  | ref j=>simp [ab.isRef] at j
  | @obj _ b e arr bV _ aV hF h1 ah aP av lN =>
   refine .cJ (us:=λk=>arr.getD k undef) (λ_ h=>h) (.inr (aG b ((lN b).2 (.inl rfl)))) rfl (λk y ak=>?_) (λk y ak=>?_) λk y ak=>?_
   all_goals
    have hk:k<cs.length:=by rw [<- ai]; exact (List.getElem?_eq_some_iff.1 ak).1
    have j:=List.getElem?_eq_getElem hk;have hu:arr[k]?=some arr[k]:=Array.getElem?_eq_getElem (hF ▸ hk)
   ·simpa [hu] using h1 k _ hu
   ·simp [World.cell?,aV,hu]
   ·simpa [hu] using aL k _ y j ak (ah k _ _ j hu) (λc aa=>aG c ((lN c).2 (.inr ⟨k,hk,aa⟩))) ρ'
 | @bl z n N p cs cs' ar aA ai _ aL =>
  intro v F aY aG ρ';obtain ⟨a,iK,cap,h1,rfl,aF⟩:=aY.mN;obtain ⟨qD,qJ,gA,hl,l',_⟩:=h.part ar (by simp);rw [h1] at gA;cases gA;obtain ⟨a2,rH,us,bV,j0,kW,hlen,aQ,aa⟩:=hl.zq;cases j0;have hle:n * z<=N * z:=Nat.mul_le_mul_right _ aA;have cell:∀ k,k<cs'.length->∃ x b,(cs.take (n * z))[k]?=some x/\a=some ⟨b,0,none⟩/\w.cell? ⟨b,k,none⟩=some (us k)/\(us k).oneCell'=true/\R w I (fI w T) x (us k) (bV k)/\∀ c,bV k c->qJ c:=by
   intro k hk;rw [ai,List.length_take] at hk;have j:cs[k]?=some cs[k]:=List.getElem?_eq_getElem (by omega);obtain ⟨b,r⟩:=aa k _ j;exact ⟨_,b,by rw [List.getElem?_take,if_pos (by omega)]; exact j,r⟩
  cases a with
  | none =>
   have kX:cs'=[]:=by
    cases cs' with
    | nil=>rfl
    | cons c l=>obtain ⟨_,b,_,av,_⟩:=cell 0 (by simp); cases av
   subst kX;obtain ⟨_,_,j0,_,_,_,uo⟩:=hl.mO;cases j0;have ji:n=0:=by
    rcases Nat.eq_zero_or_pos n with aO | aO
    ·exact aO
    ·have:=uo (by omega); simp at this
   subst ji;exact .hn λ_ h=>h
  | some ad =>
   obtain ⟨b,rfl,lO⟩:=aQ ad rfl;refine .bk (us:=us) (λ_ h=>h) (by omega) (.inr ⟨_,l' b lO⟩) rfl (by rw [ai,List.length_take,hlen]; omega) (λk y ak=>?_) (λk y ak=>?_) λk y ak=>?_
   all_goals
    obtain ⟨x,dV,j,h9,bu,ct,dJ,kV⟩:=cell k (List.getElem?_eq_some_iff.1 ak).1;cases h9
   ·exact ct
   ·simpa using bu
   ·exact aL k x y j ak dJ (λc aa=>⟨_,l' c (kV c aa)⟩) ρ'
 | @sub z lo n N p cs cs' ar aA ai _ aL =>
  intro v F aY aG ρ';obtain ⟨a,iK,cap,b0,mA,h1,rfl,Iv,aF,ct⟩:=aY.xa;obtain ⟨qD,qJ,gA,hl,l',_⟩:=h.part ar (by simp);rw [h1] at gA;cases gA;obtain ⟨a2,rH,us,bV,j0,kW,hlen,aQ,aa⟩:=hl.zq;cases j0;have hle:lo * z+n * z<=N * z:=by rw [<- Nat.add_mul]; exact Nat.mul_le_mul_right _ aA
  have hF:cs'.length=n * z:=by rw [ai,List.length_take,List.length_drop,hlen]; omega
  have cell:∀ k,k<cs'.length->∃ x b,((cs.drop (lo * z)).take (n * z))[k]?=some x/\a=some ⟨b,0,none⟩/\w.cell? ⟨b,lo * z+k,none⟩=some (us (lo * z+k))/\(us (lo * z+k)).oneCell'=true/\R w I (fI w T) x (us (lo * z+k)) (bV (lo * z+k))/\∀ c,bV (lo * z+k) c->qJ c:=by
   intro k hk;have j:cs[lo * z+k]?=some cs[lo * z+k]:=List.getElem?_eq_getElem (by omega);obtain ⟨b,r⟩:=aa _ _ j;exact ⟨_,b,by rw [List.getElem?_take,if_pos (by omega),List.getElem?_drop]; exact j,r⟩
  by_cases ji:n=0
  ·subst ji;have kX:cs'=[]:=List.eq_nil_of_length_eq_zero (by simpa using hF);subst kX;exact .hn λ_ h=>h
  ·obtain ⟨ad,rfl,rfl⟩:=ct (by omega);obtain ⟨b,rfl,lO⟩:=aQ ad rfl;refine .bk (us:=λk=>us (lo * z+k)) (λ_ h=>h) Iv (.inr ⟨_,l' b lO⟩) rfl hF (λk y ak=>?_) (λk y ak=>?_) λk y ak=>?_
   all_goals
    obtain ⟨x,dV,j,h9,bu,Hn,dJ,kV⟩:=cell k (List.getElem?_eq_some_iff.1 ak).1;cases h9
   ·exact Hn
   ·simpa using bu
   ·exact aL k x y j ak dJ (λc aa=>⟨_,l' c (kV c aa)⟩) ρ'
 | @rows z n p cs cs' ar ai _ aL =>
  intro v F aY aG ρ';obtain ⟨a,iK,cap,h1,rfl,aF⟩:=aY.mN;obtain ⟨v0,e,us,jj,aV,hlen,mF,av,ah⟩:=Rows.sound (w:=w) (I:=I) (T:=T) (Fs:=Fs) (λt z q n m new al=>h.rel t _ al) (λp z n cs ar=>by obtain ⟨v,cj,h1,af,aF,_⟩:=h.part ar (by simp); exact ⟨v,cj,h1,af,aF⟩) (λz p n v hv=>by obtain ⟨a,cap,h1,rfl⟩:=hv; exact h1) ar;rw [h1] at jj;cases jj;refine O7 aV hlen mF av ai λk x y u j ak hu=>?_;obtain ⟨bV,jY,e0⟩:=ah k x u j hu;exact aL k x y j ak jY e0 ρ'
 | @ptr p k z n y cs cs' ar ak hk ai _ aL =>
  intro v F aY aG ρ';obtain ⟨u,ad,h1,af,rfl⟩:=aY.ny;obtain ⟨qD,qJ,gA,hl,l',_⟩:=h.part ar (by rcases ak with rfl | rfl <;> simp);rw [h1] at gA;cases gA;have cell:∀ J,J<cs'.length->∃ gD kK wi,w.cell? ⟨ad.block,k+J,none⟩=some gD/\gD.oneCell'=true/\(cs.drop k)[J]?=some kK/\R w I (fI w T) kK gD wi/\(∀ c,wi c->∃ t,Fs t c):=by
   intro J aj;rw [ai,List.length_drop] at aj;have fM:cs[k+J]?=some cs[k+J]:=List.getElem?_eq_getElem (by omega);obtain ⟨b,gD,fo,me,ni,gu,_⟩:=hl.node ak fM;rw [af] at fo;cases fo;have fx:bx g (p.push (k+J))=some cs[k+J]:=by rw [tM,ar]; rcases ak with rfl | rfl <;> simp [ab.kids]
   by_cases gv:∃ br gx cf bd cO,cs[k+J]=.bC br gx cf bd cO
   ·obtain ⟨br,gx,cf,bd,cO,gv⟩:=gv;obtain ⟨b,aak,_,_,Bf,_,bV,jY⟩:=hl.node ak fM;rw [gv] at jY;exact jY.k4.elim
   ·obtain ⟨pU,Gb,rW,HB,lN,_⟩:=h.part fx (λbr gx cf bd cO e=>gv ⟨_,_,_,_,_,e⟩);rw [xY,h1] at rW;simp only [Option.bind_some] at rW;rw [ni] at rW;cases rW;exact ⟨gD,_,Gb,me,gu,by rw [List.getElem?_drop]; exact fM,HB,λc aa=>⟨_,lN c aa⟩⟩
  obtain ⟨b,gD,fo,_⟩:=hl.node ak (List.getElem?_eq_getElem hk);rw [af] at fo;cases fo;have hblk:∃ t,Fs t b:=⟨_,l' b (hl.E4 ak af)⟩;refine .cJ (us:=λJ=>(w.cell? ⟨b,k+J,none⟩).getD undef) (λ_ h=>h) (.inr hblk) rfl (λJ iE s0=>?_) (λJ iE s0=>?_) λJ iE s0=>?_
  all_goals
   obtain ⟨gD,kK,wi,c1,c2,jt,c4,oC⟩:=cell J (List.getElem?_eq_some_iff.1 s0).1
  ·simpa [c1] using c2
  ·simp [c1]
  ·simpa [c1] using aL J kK iE jt s0 c4 oC ρ'
end
end Go.Own
namespace Go.Own
open Go
set_option linter.unusedSectionVars false
variable [cE]
def qy (g:aI):List (Place × ab)->aI
 | []=>g
 | (p,x)::l=>qy (ch g p x) l
structure QZ (g g2:aI) (all:List ab) (outs:List (Option ab)) (k:Nat) (p:Place) (x:ab):Prop where
 out:outs[k]?=some (some x)
 Ll:bx g2 p=some .dead
 arg:(∃ z n cs,all[k]?=some (.bl z p n)/\bx g p=some (.own z n cs))\/(∃ cs,all[k]?=some (.ptr p 0)/\bx g p=some (.obj cs))
 jz:∀ i,x≠.self i
section
variable {P:Program}{w:World}{I:a_}{T:Array Value}{g:aI}{Fs:Nat->a_}
theorem RB (h:cB w I T g Fs) {z n:Nat}{p:Place}{cs:List ab}{v:Value}{F:a_}(aY:R w I (dP w T g) (.bl z p n) v F) (ar:bx g p=some (.own z n cs)):dS w T p=some v:=by
 obtain ⟨⟨a,iK,cap,h1,rfl,aF⟩,_⟩:=aY.mN;obtain ⟨qD,qJ,gA,hl,l'⟩:=h.part ar (by simp);rw [h1] at gA;cases gA;obtain ⟨a2,rH,j0,_⟩:=hl.mO;cases j0;exact h1
theorem RA (h:cB w I T g Fs) {p:Place}{cs:List ab}{v:Value}{F:a_}(aY:R w I (dP w T g) (.ptr p 0) v F) (ar:bx g p=some (.obj cs)):dS w T p=some v:=by
 obtain ⟨⟨u,ad,h1,af,rfl⟩,_⟩:=aY.ny;obtain ⟨qD,qJ,gA,hl,l'⟩:=h.part ar (by simp);rw [h1] at gA;cases gA;cases hl with
 | ref j=>simp [ab.isRef] at j
 | obj=>simp only [addrOf,Option.some.injEq] at af; subst af; exact h1
theorem Zp {g:aI}{p q:Place}{y:ab}(a6:bx g q=some .dead) (ar:bx g p=some .dead) (cy:p≠q):bx (ch g p y) q=some .dead:=by
 by_cases ah:q.root=p.root
 ·obtain ⟨r,pp⟩:=p;obtain ⟨cK,tc⟩:=q;simp only at ah;subst ah;have Em:pp≠tc:=λe=>cy (by rw [e]);simp only [bx,ch,if_true] at *;cases j:g cK with
  | none=>rw [j] at ar; cases ar
  | some x =>
   rw [j] at ar a6;simp only [Option.map_some];have:∀ (pp tc:List Nat) (x:ab),pp≠tc->x.at pp=some .dead->x.at tc=some .dead->(x.setAt pp y).at tc=some .dead:=by
    intro pp
    induction pp with
    | nil =>
     intro tc x cy h1 af;simp only [ab.at,Option.some.injEq] at h1;subst h1;cases tc with
     | nil=>exact absurd rfl cy
     | cons k q=>simp [ab.at,ab.kids] at af
    | cons k pp aL =>
     intro tc x cy h1 af;cases tc with
     | nil =>
      simp only [ab.at,Option.some.injEq] at af;subst af;simp [ab.at,ab.kids] at h1
     | cons J q =>
      simp only [ab.at] at h1 af;cases hk:x.kids[k]? with
      | none=>rw [hk] at h1; cases h1
      | some c =>
       rw [hk] at h1;simp only at h1;have vz:x.setAt (k::pp) y=x.uS k (c.setAt pp y):=by simp only [ab.setAt,hk]
       rw [vz];have dR:k<x.kids.length:=(List.getElem?_eq_some_iff.1 hk).1;have Im:(x.uS k (c.setAt pp y)).kids=x.kids.set k (c.setAt pp y):=by
        cases x <;> simp [ab.uS,ab.kids] at dR ⊢
       simp only [ab.at,Im];by_cases fz:J=k
       ·subst fz;rw [List.getElem?_set_self dR];rw [hk] at af;exact aL q c (λe=>cy (by rw [e])) h1 af
       ·rw [List.getElem?_set_ne (Ne.symm fz)];exact af
   exact this pp tc x Em ar a6
 ·rw [Fx ah]; exact a6
theorem jr.qy:∀ (l:List (Place × ab)) (dm:Nat->a_) (vs:Nat->Value) {g:aI}{Fs:Nat->a_},jr w I T g Fs->(l.map (·.1)).Nodup->(∀ (J:Nat) (p:Place) (x:ab),l[J]?=some (p,x)->bx g p=some .dead/\dS w T p=some (vs J)/\R w I (fI w T) x (vs J) (dm J)/\∀ i,x≠.self i) ->
  (∀ (J t c:Nat),J<l.length->dm J c->¬ Fs t c)->(∀ (J c:Nat),J<l.length->dm J c->¬ I c)->(∀ (i J c:Nat),i<l.length->J<l.length->dm i c->dm J c->i=J) ->
  ∃ b1,jr w I T (qy g l) b1/\∀ t c,b1 t c->Fs t c\/∃ J,J<l.length/\dm J c
 | [],_,_,g,Fs,bh,_,_,_,_,_=>⟨Fs,bh,λ_ _ h=>.inl h⟩
 | (p,x)::l,dm,vs,g,Fs,bh,fj,ai,qY,M_,mI=>by
  obtain ⟨h1,af,aF,bu⟩:=ai 0 p x rfl;obtain ⟨v,cj,hv,dz,df,put⟩:=bh.part h1 (by simp);rw [af] at hv;cases hv;obtain ⟨fH,iO,AX,AY⟩:=put x (dm 0) aF (λc aa aS=>absurd aS (qY 0 _ c (by simp) aa)) (λc aa=>M_ 0 c (by simp) aa) (λt c _ aa=>qY 0 t c (by simp) aa) (λi e=>absurd e (bu i));have gw:∀ t c,fH t c->Fs t c\/dm 0 c:=by
   intro t c aa;by_cases al:t=p.root
   ·subst al;rcases (AX c).1 aa with ⟨h,_⟩ | h
    ·exact .inl h
    ·exact .inr h
   ·rw [AY t al] at aa; exact .inl aa
  simp only [List.map_cons,List.nodup_cons] at fj;obtain ⟨iJ,hY,D3⟩:=jr.qy l (λJ=>dm (J+1)) (λJ=>vs (J+1)) iO fj.2 (λJ q y aj=>by
    obtain ⟨aB,a2,a3⟩:=ai (J+1) q y (by simpa using aj);refine ⟨Zp aB h1 ?_,a2,a3⟩;rintro rfl;exact fj.1 (List.mem_map.2 ⟨(p,y),List.mem_of_getElem? aj,rfl⟩))
   (λJ t c aj aa aS=>by
    rcases gw t c aS with h | h
    ·exact qY (J+1) t c (by simpa using aj) aa h
    ·have:=mI (J+1) 0 c (by simpa using aj) (by simp) aa h; omega)
   (λJ c aj aa=>M_ (J+1) c (by simpa using aj) aa)
   (λi J c hi aj h1 af=>by have:=mI (i+1) (J+1) c (by simpa using hi) (by simpa using aj) h1 af; omega)
  refine ⟨iJ,hY,λt c aa=>?_⟩;rcases D3 t c aa with h | ⟨J,aj,h⟩
  ·rcases gw t c h with h | h
   ·exact .inl h
   ·exact .inr ⟨0,by simp,h⟩
  ·exact .inr ⟨J+1,by simpa using aj,h⟩
end
end Go.Own
namespace Go.Own
open Go
set_option linter.unusedSectionVars false
variable [cE]
inductive gO:ab->ab->Prop
 | refl {x:ab}:gO x x
 | Ca {z:Nat}:gO .aU (.own z 0 [])
 | oS {x y:ab}(aA:cA x) (h:View (λ_=>none) x y):gO x y
 | own {z n:Nat}{cs cs':List ab}(ai:cs'.length=cs.length) (h:∀ (k:Nat) (x y:ab),cs[k]?=some x->cs'[k]?=some y->gO x y):gO (.own z n cs) (.own z n cs')
 | obj {cs cs':List ab}(ai:cs'.length=cs.length) (h:∀ (k:Nat) (x y:ab),cs[k]?=some x->cs'[k]?=some y->gO x y):gO (.obj cs) (.obj cs')
 | agg {cs cs':List ab}(ai:cs'.length=cs.length) (h:∀ (k:Nat) (x y:ab),cs[k]?=some x->cs'[k]?=some y->gO x y):gO (.agg cs) (.agg cs')
theorem View.up {g g':aI}(h:∀ t x,g t=some x->g' t=some x) {x y:ab}(hv:View g x y):View g' x y:=by
 induction hv with
 | qt=>exact .qt
 | self h1 af aF bu ct dJ=>exact .self h1 af aF bu ct dJ
 | mp=>exact .mp
 | hf ar=>exact .hf (kp h ar)
 | agg ai _ aL=>exact .agg ai aL
 | own ai _ aL=>exact .own ai aL
 | obj ai _ aL=>exact .obj ai aL
 | di ai _ aL=>exact .di ai aL
 | bl ar aA ai _ aL=>exact .bl (kp h ar) aA ai aL
 | sub ar aA ai _ aL=>exact .sub (kp h ar) aA ai aL
 | ptr ar ak hk ai _ aL=>exact .ptr (kp h ar) ak hk ai aL
 | rows ar ai _ aL=>exact .rows (ar.mono (λar=>kp h ar) h) ai aL
theorem View.jz {g:aI}{x y:ab}{J:Nat × Nat}(h:View g x y) (e:y=.self J):x=.self J:=by
 cases h <;> first | exact e | cases e
theorem gO.jz {x y:ab}{J:Nat × Nat}(h:gO x y) (e:y=.self J):x=.self J:=by
 cases h <;> first | exact e | exact View.jz ‹_› e | cases e
theorem E6 {F:ab->ab->Prop}{cs cs':List ab}(ai:cs'.length=cs.length) (h:∀ (k:Nat) (x y:ab),cs[k]?=some x->cs'[k]?=some y->F x y) (aG:∀ x y J,F x y->y=.self J->x=.self J) (k:Nat) (J:Nat × Nat) (hk:cs'[k]?=some (.self J)):cs[k]?=some (.self J):=by
 have aR:k<cs.length:=ai ▸ (List.getElem?_eq_some_iff.1 hk).1;rw [List.getElem?_eq_getElem aR];exact congrArg some (aG _ _ J (h k _ _ (List.getElem?_eq_getElem aR) hk) rfl)
theorem xr {cs cs':List ab}(ai:cs'.length=cs.length) (aA:∀ x∈cs,cA x) (aL:∀ (k:Nat) (x y:ab),cs[k]?=some x->cs'[k]?=some y->cA x->cA y):∀ y∈cs',cA y:=by
 intro y ak;obtain ⟨k,hk⟩:=List.getElem?_of_mem ak;have dR:=(List.getElem?_eq_some_iff.1 hk).1;have j:=List.getElem?_eq_getElem (ai ▸ dR:k<cs.length)
 grind
section
variable {w:World}{I:a_}
theorem R.oS {ρ:ab->Value->Prop}{x y:ab}{v:Value}{F:a_}(aY:R w I ρ x v F) (aA:cA x) (h:View (λ_=>none) x y) (ba:∀ c,F c->¬ I c) (aR:∀ c,I c->c<w.heap.size) (iB:cE.q w I):R w (λc=>I c\/F c) ρ y v cr:=by
 have bh:jr w I #[v] (λt=>if t=0 then some x else none) (λt c=>t=0/\F c):=by
  refine ⟨λt z aT=>?_,λt al c aa=>?_,λt t' c aa e7=>aa.1.trans e7.1.symm,λt c aa=>ba c aa.2,aR,iB⟩
  ·by_cases aO:t=0
   ·subst aO;rw [if_pos rfl] at aT;cases aT;exact ⟨v,rfl,.tree ((aY.bg aA).yJ λc=>⟨λh=>⟨rfl,h⟩,λh=>h.2⟩)⟩
   ·rw [if_neg aO] at aT; cases aT
  ·rw [if_pos aa.1] at al; cases al
 have:=View.PN bh (h.up λ_ _ h=>by cases h) (aY.bg aA) (λc aa=>⟨0,rfl,aa⟩) ρ;exact this.nC λc aa=>by
  rcases aa with h | ⟨t,_,h⟩
  ·exact .inl h
  ·exact .inr h
theorem gO.bg {x y:ab}(h:gO x y):cA x->cA y:=by
 induction h with
 | refl=>exact id
 | Ca=>exact λ_=>.own (by simp)
 | oS aA h =>
  intro _;have key:∀ {x y:ab},View (λ_=>none) x y->cA x->cA y:=by
   intro x y h
   induction h with
   | qt=>exact λ_=>.bk (by simp)
   | self h=>exact λ_=>h
   | mp=>exact λ_=>.imp
   | hf ar=>simp [bx] at ar
   | agg ai _ aL=>intro aA; cases aA with | agg aA=>exact .agg (xr ai aA aL)
   | own ai _ aL=>intro aA; cases aA with | own aA=>exact .bk (xr ai aA aL)
   | obj ai _ aL=>intro aA; cases aA with | obj aA=>exact .cJ (xr ai aA aL)
   | di ai _ aL=>intro aA; cases aA with | di h1 af=>exact .di h1 (xr ai af aL)
   | bl ar=>simp [bx] at ar
   | sub ar=>simp [bx] at ar
   | ptr ar=>simp [bx] at ar
   | rows ar =>
    cases ar with
    | own ar=>simp [bx] at ar
    | bC al=>cases al
  grind
 | own ai _ aL=>intro aA; cases aA with | own aA=>exact .own (xr ai aA aL)
 | obj ai _ aL=>intro aA; cases aA with | obj aA=>exact .obj (xr ai aA aL)
 | agg ai _ aL=>intro aA; cases aA with | agg aA=>exact .agg (xr ai aA aL)
theorem Hg {ρ:ab->Value->Prop}{cs cs':List ab}{get:Nat->Option Value}{Fs:Nat->a_}{F B:a_}(ai:cs'.length=cs.length)
  (aK:∀ k,k<cs.length->∃ u,get k=some u)
  (aP:∀ (J k c:Nat),J<cs.length->k<cs.length->Fs J c->Fs k c->J=k) (av:∀ k c,k<cs.length->Fs k c->¬ B c) (aG:∀ c,F c↔B c\/∃ k,k<cs.length/\Fs k c)
  (aL:∀ (k:Nat) (x y:ab),cs[k]?=some x->cs'[k]?=some y->∀ u,get k=some u->∃ cV,(∀ c,cV c->Fs k c)/\R w (λc=>I c\/(Fs k c/\¬ cV c)) ρ y u cV) :
  ∃ qK:Nat->a_,(∀ k c,k<cs'.length->qK k c->Fs k c)/\(∀ (k:Nat) (y:ab) (u:Value),cs'[k]?=some y->get k=some u->R w (λc=>I c\/(F c/\¬ (B c\/∃ J,J<cs'.length/\qK J c))) ρ y u (qK k)):=by
 have:∀ k,∃ G:a_,k<cs.length->(∀ c,G c->Fs k c)/\∀ (y:ab) (u:Value),cs'[k]?=some y->get k=some u->R w (λc=>I c\/(Fs k c/\¬ G c)) ρ y u G:=by
  intro k;by_cases hk:k<cs.length
  ·have j:=List.getElem?_eq_getElem hk;have ak:=List.getElem?_eq_getElem (ai ▸ hk:k<cs'.length);obtain ⟨u,hu⟩:=aK k hk
   simp_all
  ·exact ⟨cr,λh=>absurd h hk⟩
 obtain ⟨qK,MF⟩:=Classical.axiomOfChoice this;refine ⟨qK,λk c hk=>(MF k (ai ▸ hk)).1 c,λk y u ak hu=>?_⟩;have hk:k<cs'.length:=(List.getElem?_eq_some_iff.1 ak).1;have iA:k<cs.length:=ai ▸ hk;refine ((MF k iA).2 y u ak hu).nC λc aa=>?_
 grind
theorem R.dN {ρ:ab->Value->Prop}{x y:ab}(h:gO x y):∀ {v:Value}{F:a_},R w I ρ x v F->cA x->(∀ c,F c->¬ I c)->(∀ c,I c->c<w.heap.size)->cE.q w I->∃ cV,(∀ c,cV c->F c)/\R w (λc=>I c\/(F c/\¬ cV c)) ρ y v cV:=by
 induction h with
 | refl=>exact λaY _ _ _ _=>⟨_,λ_ h=>h,aY.nC λ_ h=>.inl h⟩
 | Ca =>
  intro v F aY _ _ _ _;have:=aY.r2;subst this;refine ⟨cr,λ_ h=>h.elim,.own (e:=0) (us:=[]) (Fs:=λ_=>cr) ⟨by simp,.inl ⟨rfl,rfl⟩⟩ rfl (by simp) (by simp) (λ_ _ _ _ _ h=>h.elim) (λ_ _ _ h=>h.elim) λc=>⟨λh=>h.elim,λh=>?_⟩⟩;rcases h with h | ⟨_,_,h⟩
  ·cases h
  ·exact h
 | oS aA h=>exact λaY _ ba aR iB=>⟨cr,λ_ h=>h.elim,(aY.oS aA h ba aR iB).nC λc aa=>aa.elim .inl λh=>.inr ⟨h,λh=>h⟩⟩
 | @own z n cs cs' ai _ aL =>
  intro v F aY aA ba aR iB;cases aY with
  | ref j=>simp [ab.isRef] at j
  | @own _ _ _ _ e us Fs _ aV hF h1 ah aP av aG =>
   cases aA with
   | own aA =>
    obtain ⟨qK,qc,A0⟩:=Hg (get:=λk=>us[k]?) (B:=λc=>v.ownBlock=some c) ai (λk hk=>⟨_,List.getElem?_eq_getElem (hF ▸ hk)⟩) aP (λk c hk aa e=>av k c hk aa e) aG (λk x y j ak u hu=>aL k x y j ak (ah k x u j hu) (aA x (List.mem_of_getElem? j)) (λc aa=>ba c ((aG c).2 (.inr ⟨k,(List.getElem?_eq_some_iff.1 j).1,aa⟩))) aR iB);exact ⟨_,λc aa=>(aG c).2 (aa.imp id λ⟨k,hk,h⟩=>⟨k,ai ▸ hk,qc k c hk h⟩),
     .own aV (by rw [ai,hF]) h1 (λk y u ak hu=>A0 k y u ak hu) (λJ k c aj hk af aF=>aP J k c (ai ▸ aj) (ai ▸ hk) (qc J c aj af) (qc k c hk aF)) (λk c hk aa=>av k c (ai ▸ hk) (qc k c hk aa)) (λc=>Iff.rfl)⟩
 | @obj cs cs' ai nX aL =>
  intro v F aY aA ba aR iB;cases aY with
  | ref j=>simp [ab.isRef] at j
  | @obj _ b e arr Fs _ aV hF h1 ah aP av aG aw =>
   cases aA with
   | obj aA =>
    obtain ⟨qK,qc,A0⟩:=Hg (get:=λk=>arr[k]?) (B:=λc=>c=b) ai (λk hk=>⟨_,Array.getElem?_eq_getElem (hF ▸ hk)⟩) aP (λk c hk aa e=>av k hk (e ▸ aa)) aG (λk x y j ak u hu=>aL k x y j ak (ah k x u j hu) (aA x (List.mem_of_getElem? j)) (λc aa=>ba c ((aG c).2 (.inr ⟨k,(List.getElem?_eq_some_iff.1 j).1,aa⟩))) aR iB);exact ⟨_,λc aa=>(aG c).2 (aa.imp id λ⟨k,hk,h⟩=>⟨k,ai ▸ hk,qc k c hk h⟩),
     .obj aV (by rw [ai,hF]) h1 (λk y u ak hu=>A0 k y u ak hu) (λJ k c aj hk af aF=>aP J k c (ai ▸ aj) (ai ▸ hk) (qc J c aj af) (qc k c hk aF)) (λk hk aa=>av k (ai ▸ hk) (qc k b hk aa)) (λc=>Iff.rfl) (λk J u hk=>aw k J u (E6 ai nX (λ_ _ _=>gO.jz) k J hk))⟩
 | @agg cs cs' ai _ aL =>
  intro v F aY aA ba aR iB;cases aY with
  | ref j=>simp [ab.isRef] at j
  | @agg _ vs Fs _ hF h1 ah aP aG =>
   cases aA with
   | agg aA =>
    obtain ⟨qK,qc,A0⟩:=Hg (get:=λk=>vs[k]?) (B:=λ_=>False) ai (λk hk=>⟨_,Array.getElem?_eq_getElem (hF ▸ hk)⟩) aP (λk c hk aa e=>e) (λc=>(aG c).trans ⟨.inr,λh=>h.elim (λh=>h.elim) id⟩) (λk x y j ak u hu=>aL k x y j ak (ah k x u j hu) (aA x (List.mem_of_getElem? j)) (λc aa=>ba c ((aG c).2 ⟨k,(List.getElem?_eq_some_iff.1 j).1,aa⟩)) aR iB);refine ⟨λc=>∃ k,k<cs'.length/\qK k c,λc ⟨k,hk,h⟩=>(aG c).2 ⟨k,ai ▸ hk,qc k c hk h⟩,
     .agg (Fs:=qK) (by rw [ai,hF]) h1 (λk y u ak hu=>(A0 k y u ak hu).nC λc aa=>aa.imp id λ⟨h1,af⟩=>⟨h1,λh=>af (.inr h)⟩) (λJ k c aj hk af aF=>aP J k c (ai ▸ aj) (ai ▸ hk) (qc J c aj af) (qc k c hk aF)) (λc=>Iff.rfl)⟩
end
end Go.Own
