/- Parts of the proof that the last text states. -/
import Derived.Orders
import Derived.WalkKit
set_option linter.unusedSectionVars false
namespace Go.Own
open Go
structure Place where
 root:Nat
 path:List Nat
 deriving DecidableEq,Repr
def Place.push (p:Place) (k:Nat):Place:=⟨p.root,p.path++[k]⟩
inductive ab where
 | lit (v:Value)
 | aP
 | bc (z n:Nat) (cs:List ab)
 | own (z n:Nat) (cs:List ab)
 | obj (cs:List ab)
 | agg (cs:List ab)
 | bS (cs:List ab)
 | cx (cs:List ab)
 | ptr (p:Place) (k:Nat)
 | a7 (z:Nat) (p:Place) (n:Nat)
 | sub (z:Nat) (p:Place) (lo n:Nat)
 | bM (z:Nat) (p:Place) (n m:Nat) (new:List ab)
 | cF (fn:Fn) (first caps:List ab)
 | mp (p:Array MapEntry->Nat->Prop)
 | gl (p:Place)
 | imp (p:Array MapEntry->Nat->Prop)
 | dead
 | self (k:Nat × Nat)
 | hV (t:Nat) (us:List Value)
 deriving Inhabited
def tP (cs:List ab):Prop:=∀ (k:Nat) (j:Nat × Nat),cs[k]?≠some (.self j)
def s3 (x:ab):Prop:=∀ cs,x=.agg cs->tP cs
abbrev a':=Nat->Prop
def ab.isRef:ab->Bool
 | .ptr .. | .a7 .. | .sub .. | .gl ..=>true
 | _=>false
inductive R (w:World) (I:a') (ρ:ab->Value->Prop):ab->Value->a'->Prop
 | lit {v:Value}{F:a'}(hv:v.oneCell'=true) (aH:∀ c,¬ F c):R w I ρ (.lit v) v F
 | aP {F:a'}(aH:∀ c,¬ F c):R w I ρ .aP (.slice none 0 0) F
 | dead {v:Value}{F:a'}(aH:∀ c,¬ F c):R w I ρ .dead v F
 | hV {t:Nat}{us:List Value}{v:Value}{F:a'}(aW:w.ownsRow 0 t 1 v us.length us) (h1:v.oneCell'=true) (aH:∀ c,F c↔v.ownBlock=some c):R w I ρ (.hV t us) v F
 | mx {k:Nat × Nat}{v:Value}{F:a'}(aH:∀ c,¬ F c):R w I ρ (.self k) v F
 | ref {x:ab}{v:Value}{F:a'}(J:x.isRef=true) (h:ρ x v) (aH:∀ c,¬ F c):R w I ρ x v F
 | gM {z cap:Nat}{a:Option Addr}{F:a'}(aH:∀ c,¬ F c):R w I ρ (.bc z 0 []) (.slice a 0 cap) F
 | bc {z n cap:Nat}{cs:List ab}{ad:Addr}{us:Nat->Value}{F:a'}(aH:∀ c,¬ F c) (lY:n<=cap) (bf:I ad.block) (ax:ad.spot=none) (ah:cs.length=n * z) (h1:∀ (k:Nat) (x:ab),cs[k]?=some x->(us k).oneCell'=true)
   (aa:∀ (k:Nat) (x:ab),cs[k]?=some x->w.cell? ⟨ad.block,ad.off+k,none⟩=some (us k)) (hr:∀ (k:Nat) (x:ab),cs[k]?=some x->R w I ρ x (us k) (λ_=>False)) :
   R w I ρ (.bc z n cs) (.slice (some ad) n cap) F
 | cx {cs:List ab}{ad:Addr}{us:Nat->Value}{F:a'}(aH:∀ c,¬ F c) (bf:I ad.block) (ax:ad.spot=none) (h1:∀ (k:Nat) (x:ab),cs[k]?=some x->(us k).oneCell'=true)
   (aa:∀ (k:Nat) (x:ab),cs[k]?=some x->w.cell? ⟨ad.block,ad.off+k,none⟩=some (us k)) (hr:∀ (k:Nat) (x:ab),cs[k]?=some x->R w I ρ x (us k) (λ_=>False)) :
   R w I ρ (.cx cs) (.pointer (some ad)) F
 | own {z n:Nat}{cs:List ab}{v:Value}{e:TypeId}{us:List Value}{Fs:Nat->a'}{F:a'}
   (aW:w.ownsRow 0 e z v n us) (ah:cs.length=us.length) (h1:∀ (k:Nat) (u:Value),us[k]?=some u->u.oneCell'=true)
   (hr:∀ (k:Nat) (x:ab) (u:Value),cs[k]?=some x->us[k]?=some u->R w I ρ x u (Fs k))
   (aR:∀ (j k c:Nat),j<cs.length->k<cs.length->Fs j c->Fs k c->j=k) (ar:∀ (k c:Nat),k<cs.length->Fs k c->v.ownBlock≠some c)
   (aH:∀ c,F c↔v.ownBlock=some c\/∃ k,k<cs.length/\Fs k c):R w I ρ (.own z n cs) v F
 | obj {cs:List ab}{b:Nat}{e:TypeId}{arr:Array Value}{Fs:Nat->a'}{F:a'}
   (aW:w.heap[b]?=some (.cells arr e (0,0))) (ah:cs.length=arr.size) (h1:∀ (k:Nat) (u:Value),arr[k]?=some u->u.oneCell'=true)
   (hr:∀ (k:Nat) (x:ab) (u:Value),cs[k]?=some x->arr[k]?=some u->R w I ρ x u (Fs k))
   (aR:∀ (j k c:Nat),j<cs.length->k<cs.length->Fs j c->Fs k c->j=k) (ar:∀ (k:Nat),k<cs.length->¬ Fs k b)
   (aH:∀ c,F c↔c=b\/∃ k,k<cs.length/\Fs k c) (ax:∀ (k:Nat) (j:Nat × Nat) (u:Value),cs[k]?=some (.self j)->arr[k]?=some u->(u=.pointer none/\e=j.2)\/u=.pointer (some ⟨b,j.1,none⟩)):R w I ρ (.obj cs) (.pointer (some ⟨b,0,none⟩)) F
 | agg {cs:List ab}{vs:Array Value}{Fs:Nat->a'}{F:a'}(ah:cs.length=vs.size) (h1:∀ (k:Nat) (u:Value),vs[k]?=some u->u.oneCell'=true)
   (hr:∀ (k:Nat) (x:ab) (u:Value),cs[k]?=some x->vs[k]?=some u->R w I ρ x u (Fs k))
   (aR:∀ (j k c:Nat),j<cs.length->k<cs.length->Fs j c->Fs k c->j=k)
   (aH:∀ c,F c↔∃ k,k<cs.length/\Fs k c):R w I ρ (.agg cs) (.agg vs) F
 | bS {cs:List ab}{vs:Array Value}{Fs:Nat->a'}{F:a'}(ah:cs.length=vs.size)
   (hr:∀ (k:Nat) (x:ab) (u:Value),cs[k]?=some x->vs[k]?=some u->R w I ρ x u (Fs k))
   (aR:∀ (j k c:Nat),j<cs.length->k<cs.length->Fs j c->Fs k c->j=k)
   (aH:∀ c,F c↔∃ k,k<cs.length/\Fs k c):R w I ρ (.bS cs) (.tuple vs) F
 | cF {fn:Fn}{first caps:List ab}{v1 v2:Array Value}{F:a'}(aH:∀ c,¬ F c) (h1:first.length=v1.size) (af:caps.length=v2.size)
   (i':∀ (k:Nat) (x:ab) (u:Value),first[k]?=some x->v1[k]?=some u->R w I ρ x u (λ_=>False))
   (hC:∀ (k:Nat) (x:ab) (u:Value),caps[k]?=some x->v2[k]?=some u->R w I ρ x u (λ_=>False)):R w I ρ (.cF fn first caps) (.func fn v1 v2) F
 | mp {p:Array MapEntry->Nat->Prop}{b:Nat}{es:Array MapEntry}{clock:Nat}{F:a'}(aW:w.heap[b]?=some (.map es clock)) (aq:p es clock) (aH:∀ c,F c↔c=b):R w I ρ (.mp p) (.map (some b)) F
 | imp {p:Array MapEntry->Nat->Prop}{b:Nat}{es:Array MapEntry}{clock:Nat}{F:a'}(aH:∀ c,¬ F c) (bf:I b) (aW:w.heap[b]?=some (.map es clock)) (aq:p es clock):R w I ρ (.imp p) (.map (some b)) F
theorem R.zy {w:World}{I:a'}{ρ:ab->Value->Prop}{x:ab}{v:Value}{F cS:a'}(h:R w I ρ x v F) (aH:∀ c,F c↔cS c):R w I ρ x v cS:=by
 have:F=cS:=funext λc=>propext (aH c)
 grind
theorem R.lt {w:World}{I:a'}{ρ:ab->Value->Prop}{x:ab}{v:Value}{F:a'}(h:R w I ρ x v F):∀ c,F c->c<w.heap.size:=by
 induction h with
 | lit _ aH | aP aH | dead aH | mx aH | ref _ _ aH | gM aH | bc aH | cx aH | cF aH | imp aH=>exact λc aa=>absurd aa (aH c)
 | hV aW _ aH=>exact λc aa=>(aW.lt c ((aH c).1 aa)).2
 | mp aW _ aH=>exact λc aa=>by rw [(aH c).1 aa]; exact (Array.getElem?_eq_some_iff.1 aW).1
 | own aW ah h1 hr aR ar aH aM =>
  intro c aa;rcases (aH c).1 aa with h | ⟨k,hk,h⟩
  ·exact (aW.lt c h).2
  ·exact aM k _ _ (List.getElem?_eq_getElem hk) (List.getElem?_eq_getElem (ah ▸ hk)) c h
 | obj aW ah h1 hr aR ar aH ax aM =>
  intro c aa;rcases (aH c).1 aa with rfl | ⟨k,hk,h⟩
  ·exact (Array.getElem?_eq_some_iff.1 aW).1
  ·exact aM k _ _ (List.getElem?_eq_getElem hk) (Array.getElem?_eq_getElem (ah ▸ hk)) c h
 | agg ah h1 hr aR aH aM =>
  intro c aa;obtain ⟨k,hk,h⟩:=(aH c).1 aa;exact aM k _ _ (List.getElem?_eq_getElem hk) (Array.getElem?_eq_getElem (ah ▸ hk)) c h
 | bS ah hr aR aH aM =>
  intro c aa;obtain ⟨k,hk,h⟩:=(aH c).1 aa;exact aM k _ _ (List.getElem?_eq_getElem hk) (Array.getElem?_eq_getElem (ah ▸ hk)) c h
theorem uN {w w':World}{e:TypeId}{z n:Nat}{v:Value}{us:List Value}(h:w.ownsRow 0 e z v n us) (ar:∀ c,v.ownBlock=some c->w'.heap[c]?=w.heap[c]?):w'.ownsRow 0 e z v n us:=by
 obtain ⟨h1,af⟩:=h;refine ⟨h1,?_⟩;rcases af with af | ⟨g,cap,cur,rfl,aQ,bQ,rest⟩
 ·grind
 ·exact .inr ⟨g,cap,cur,rfl,aQ,by rw [ar g rfl]; exact bQ,rest⟩
theorem R.frame {w w':World}{I I':a'}{ρ ρ':ab->Value->Prop}{x:ab}{v:Value}{F:a'}(h:R w I ρ x v F)
  (bf:∀ c,I c->w'.heap[c]?=w.heap[c]?) (oD:∀ c,I c->I' c) (l3:∀ x v,ρ x v->ρ' x v) :
  (∀ c,F c->w'.heap[c]?=w.heap[c]?)->R w' I' ρ' x v F:=by
 induction h with
 | lit hv aH=>exact λ_=>.lit hv aH
 | aP aH=>exact λ_=>.aP aH
 | dead aH=>exact λ_=>.dead aH
 | mx aH=>exact λ_=>.mx aH
 | ref J h aH=>exact λ_=>.ref J (l3 _ _ h) aH
 | gM aH=>exact λ_=>.gM aH
 | bc aH lY hi ax ah h1 aa hr aM =>
  exact λ_=>.bc aH lY (oD _ hi) ax ah h1 (λk x hk=>(World.cell?_of_block (a:=⟨_,_,none⟩) (bf _ hi)).trans (aa k x hk)) λk x hk=>aM k x hk (λc aa=>aa.elim)
 | cx aH hi ax h1 aa hr aM =>
  exact λ_=>.cx aH (oD _ hi) ax h1 (λk x hk=>(World.cell?_of_block (a:=⟨_,_,none⟩) (bf _ hi)).trans (aa k x hk)) λk x hk=>aM k x hk (λc aa=>aa.elim)
 | own aW ah h1 hr aR ar aH aM =>
  intro aV;refine .own (uN aW λc aa=>aV c ((aH c).2 (.inl aa))) ah h1 (λk x u J hu=>aM k x u J hu λc aa=>aV c ((aH c).2 (.inr ⟨k,?_,aa⟩))) aR ar aH;exact (List.getElem?_eq_some_iff.1 J).1
 | obj aW ah h1 hr aR ar aH ax aM =>
  intro aV;refine .obj ((aV _ ((aH _).2 (.inl rfl))).trans aW) ah h1 (λk x u J hu=>aM k x u J hu λc aa=>aV c ((aH c).2 (.inr ⟨k,?_,aa⟩))) aR ar aH ax;exact (List.getElem?_eq_some_iff.1 J).1
 | agg ah h1 hr aR aH aM =>
  intro aV;refine .agg ah h1 (λk x u J hu=>aM k x u J hu λc aa=>aV c ((aH c).2 ⟨k,?_,aa⟩)) aR aH;exact (List.getElem?_eq_some_iff.1 J).1
 | bS ah hr aR aH aM =>
  intro aV;refine .bS ah (λk x u J hu=>aM k x u J hu λc aa=>aV c ((aH c).2 ⟨k,?_,aa⟩)) aR aH;exact (List.getElem?_eq_some_iff.1 J).1
 | imp aH hi aW aq=>exact λ_=>.imp aH (oD _ hi) ((bf _ hi).trans aW) aq
 | hV aW h1 aH=>exact λaV=>.hV (uN aW λc aa=>aV c ((aH c).2 aa)) h1 aH
 | mp aW aq aH=>exact λaV=>.mp ((aV _ ((aH _).2 rfl)).trans aW) aq aH
 | cF aH h1 af i' hC gj fT=>exact λ_=>.cF aH h1 af (λk x u J hu=>gj k x u J hu λc aa=>aa.elim) (λk x u J hu=>fT k x u J hu λc aa=>aa.elim)
def ab.kids:ab->List ab
 | .own _ _ cs=>cs
 | .obj cs=>cs
 | .agg cs=>cs
 | .bS cs=>cs
 | _=>[]
def ab.sQ (x:ab) (k:Nat) (y:ab):ab :=
 match x with
 | .own z n cs=>.own z n (cs.set k y)
 | .obj cs=>.obj (cs.set k y)
 | .agg cs=>.agg (cs.set k y)
 | .bS cs=>.bS (cs.set k y)
 | x=>x
def ab.at:ab->List Nat->Option ab
 | x,[]=>some x
 | x,k::p =>
  match x.kids[k]? with
  | some c=>c.at p
  | none=>none
def ab.setAt:ab->List Nat->ab->ab
 | _,[],y=>y
 | x,k::p,y =>
  match x.kids[k]? with
  | some c=>x.sQ k (c.setAt p y)
  | none=>x
theorem ab.aaG {x y z:ab}{k:Nat}{j:Nat × Nat}{p:List Nat}(h:x.at (k::p)=some y):x.setAt (k::p) z≠.self j:=by
 intro e;simp only [ab.at,ab.setAt] at h e;cases hk:x.kids[k]? with
 | none=>rw [hk] at h; cases h
 | some c =>
  rw [hk] at e;cases x <;> simp [ab.sQ,ab.kids] at e hk
def child (w:World) (v:Value) (k:Nat):Option Value :=
 match v with
 | .agg cs=>cs[k]?
 | .tuple cs=>cs[k]?
 | .slice (some a) _ _=>w.cell? ⟨a.block,a.off+k,none⟩
 | .pointer (some a)=>w.cell? ⟨a.block,a.off+k,none⟩
 | _=>none
def walk (w:World):Value->List Nat->Option Value
 | v,[]=>some v
 | v,k::p =>
  match child w v k with
  | some u=>walk w u p
  | none=>none
theorem ph {w:World}{e:TypeId}{z n:Nat}{v:Value}{us:List Value}(h:w.ownsRow 0 e z v n us) {k:Nat}{u:Value}(hu:us[k]?=some u):child w v k=some u:=by
 obtain ⟨h1,af⟩:=h;rcases af with ⟨rfl,rfl⟩ | ⟨g,cap,cur,rfl,aQ,bQ,aB,aa,ax,au⟩
 ·grind
 ·rw [<- au] at hu;rw [List.getElem?_take] at hu
  split at hu
  ·simpa [child,World.cell?,bQ] using hu
  grind
theorem Q8 {α:Type}{l:List α}{k j:Nat}{y x:α}(h:(l.set k y)[j]?=some x):(j=k/\x=y/\k<l.length)\/(j≠k/\l[j]?=some x):=by
 grind
structure Out (w w':World) (I I':a') (ρ ρ':ab->Value->Prop) (F cr:a'):Prop where
 bc:∀ c,I c->w'.heap[c]?=w.heap[c]?
 rest:∀ c,F c->¬ cr c->w'.heap[c]?=w.heap[c]?
 more:∀ c,I c->I' c
 ref:∀ x v,ρ x v->ρ' x v
theorem Out.mono {w w':World}{I I':a'}{ρ ρ':ab->Value->Prop}{F cr cS jk:a'}(h:Out w w' I I' ρ ρ' F cr) (h1:∀ c,cS c->F c) (af:∀ c,cS c->¬ jk c->¬ cr c):Out w w' I I' ρ ρ' cS jk :=
 ⟨h.bc,λc aa aB=>h.rest c (h1 c aa) (af c aa aB),h.more,h.ref⟩
theorem R.outside {w w':World}{I I':a'}{ρ ρ':ab->Value->Prop}{F cr:a'}(o:Out w w' I I' ρ ρ' F cr) {x:ab}{v:Value}{G:a'}(h:R w I ρ x v G) (df:∀ c,G c->F c/\¬ cr c):R w' I' ρ' x v G :=
 h.frame o.bc o.more o.ref λc aa=>o.rest c (df c aa).1 (df c aa).2
theorem F6 {w w':World}{I I':a'}{ρ ρ':ab->Value->Prop}{cs:List ab}{get:Nat->Option Value}{Fs:Nat->a'}{F cr:a'}
  (hr:∀ (k:Nat) (x:ab) (u:Value),cs[k]?=some x->get k=some u->R w I ρ x u (Fs k))
  (aR:∀ (j k c:Nat),j<cs.length->k<cs.length->Fs j c->Fs k c->j=k)
  (aH:∀ k c,k<cs.length->Fs k c->F c) {k:Nat}(hk:k<cs.length) (ao:∀ c,cr c->Fs k c) (o:Out w w' I I' ρ ρ' F cr)
  {y:ab}{u:Value}{bG:a'}(hu:get k=some u) (a1:R w' I' ρ' y u bG) (ey:∀ c,bG c↔(Fs k c/\¬ cr c)\/(bG c/\¬ (F c/\¬ cr c))) :
  (∀ (j:Nat) (x:ab) (u:Value),(cs.set k y)[j]?=some x->get j=some u->R w' I' ρ' x u (if j=k then bG else Fs j)) /\
  (∀ (i j c:Nat),i<(cs.set k y).length->j<(cs.set k y).length->(if i=k then bG else Fs i) c->(if j=k then bG else Fs j) c->i=j):=by
 constructor
 ·intro j x sU J hX;rcases Q8 J with ⟨rfl,rfl,aN⟩ | ⟨cQ,J⟩
  ·grind
  ·rw [if_neg cQ];have ag:j<cs.length:=(List.getElem?_eq_some_iff.1 J).1;exact (hr j x sU J hX).outside o λc aa=>⟨aH j c ag aa,λed=>cQ (aR j k c ag hk aa (ao c ed))⟩
 grind
theorem F7 {m:Nat}{Fs:Nat->a'}{bG cr jk:a'}{k:Nat}(hk:k<m)
  (aR:∀ (j k c:Nat),j<m->k<m->Fs j c->Fs k c->j=k) (ao:∀ c,cr c->Fs k c) (ey:∀ c,bG c↔(Fs k c/\¬ cr c)\/jk c) (c:Nat) :
  (∃ j,j<m/\(if j=k then bG else Fs j) c)↔((∃ j,j<m/\Fs j c)/\¬ cr c)\/jk c:=by
 grind
theorem R.p9 {w w':World}{I:a'}{ρ:ab->Value->Prop}:∀ (r:List Nat) {x:ab}{v:Value}{F:a'}{y:ab},R w I ρ x v F->x.at r=some y ->
  (∀ c,F c->w'.heap[c]?=w.heap[c]?)->walk w' v r=walk w v r
 | [],_,_,_,_,_,_,_=>rfl
 | k::p,x,v,F,y,h,fD,aV=>by
  simp only [ab.at] at fD;cases g_:x.kids[k]? with
  | none=>rw [g_] at fD; cases fD
  | some rf =>
   rw [g_] at fD;simp only at fD;cases h with
   | @own z n cs _ e us Fs _ aW ah h1 hr aR ar aH =>
    simp only [ab.kids] at g_;have hk:k<cs.length:=(List.getElem?_eq_some_iff.1 g_).1;have hu:us[k]?=some us[k]:=List.getElem?_eq_getElem (ah ▸ hk);have mn:=uN (w':=w') aW λc aa=>aV c ((aH c).2 (.inl aa));have:=R.p9 (w':=w') p (hr k rf _ g_ hu) fD λc aa=>aV c ((aH c).2 (.inr ⟨k,hk,aa⟩));simp [walk,ph aW hu,ph mn hu,this]
   | @obj cs b e arr Fs _ aW ah h1 hr aR ar aH ax =>
    simp only [ab.kids] at g_;have hk:k<cs.length:=(List.getElem?_eq_some_iff.1 g_).1;have hu:arr[k]?=some arr[k]:=Array.getElem?_eq_getElem (ah ▸ hk);have mn:=(aV b ((aH b).2 (.inl rfl))).trans aW;have:=R.p9 (w':=w') p (hr k rf _ g_ hu) fD λc aa=>aV c ((aH c).2 (.inr ⟨k,hk,aa⟩));simp [walk,child,World.cell?,aW,mn,hu,this]
   | @agg cs vs Fs _ ah h1 hr aR aH =>
    simp only [ab.kids] at g_;have hk:k<cs.length:=(List.getElem?_eq_some_iff.1 g_).1;have hu:vs[k]?=some vs[k]:=Array.getElem?_eq_getElem (ah ▸ hk);have:=R.p9 (w':=w') p (hr k rf _ g_ hu) fD λc aa=>aV c ((aH c).2 ⟨k,hk,aa⟩);simp [walk,child,hu,this]
   | @bS cs vs Fs _ ah hr aR aH =>
    simp only [ab.kids] at g_;have hk:k<cs.length:=(List.getElem?_eq_some_iff.1 g_).1;have hu:vs[k]?=some vs[k]:=Array.getElem?_eq_getElem (ah ▸ hk);have:=R.p9 (w':=w') p (hr k rf _ g_ hu) fD λc aa=>aV c ((aH c).2 ⟨k,hk,aa⟩);simp [walk,child,hu,this]
   | ref J _ _=>cases x <;> simp [ab.isRef,ab.kids] at J g_
   | _=>simp [ab.kids] at g_
theorem R.focus {w:World}{I:a'}{ρ:ab->Value->Prop}:∀ (q:List Nat) {x:ab}{v:Value}{F:a'}{y:ab},R w I ρ x v F->x.at q=some y ->
  ∃ h0 cr,walk w v q=some h0/\R w I ρ y h0 cr/\(∀ c,cr c->F c) /\
   (∀ (w':World),(∀ c,F c->¬ cr c->w'.heap[c]?=w.heap[c]?)->walk w' v q=some h0/\∀ r u9,x.at r=some u9->(∃ c',r=q++c')\/walk w' v r=walk w v r) /\
   ∀ (w':World) (I':a') (ρ':ab->Value->Prop) (y':ab) (jk:a'),Out w w' I I' ρ ρ' F cr->R w' I' ρ' y' h0 jk->(∀ c,jk c->F c->cr c)->(∀ j,y'=.self j->y=.self j) ->
    ∃ cS,R w' I' ρ' (x.setAt q y') v cS/\∀ c,cS c↔(F c/\¬ cr c)\/jk c
 | [],x,v,F,y,h,fD=>by
  simp only [ab.at,Option.some.injEq] at fD;subst fD;exact ⟨v,F,rfl,h,λ_ h=>h,λ_ _=>⟨rfl,λr _ _=>.inl ⟨r,rfl⟩⟩,λw' I' ρ' y' jk _ a1 _ _=>⟨jk,a1,λc=>by simp⟩⟩
 | k::p,x,v,F,y,h,fD=>by
  simp only [ab.at] at fD;cases g_:x.kids[k]? with
  | none=>rw [g_] at fD; cases fD
  | some rf =>
   rw [g_] at fD;simp only at fD;have z1:∀ y',x.setAt (k::p) y'=x.sQ k (rf.setAt p y'):=λy'=>by simp [ab.setAt,g_]
   cases h with
   | @own z n cs _ e us Fs _ aW ah h1 hr aR ar aH =>
    simp only [ab.kids] at g_;have hk:k<cs.length:=(List.getElem?_eq_some_iff.1 g_).1;have hu:us[k]?=some us[k]:=List.getElem?_eq_getElem (ah ▸ hk);obtain ⟨h0,cr,hw,ds,c_,e7,kz⟩:=R.focus p (hr k rf _ g_ hu) fD;refine ⟨h0,cr,by simp [walk,ph aW hu,hw],ds,λc aa=>(aH c).2 (.inr ⟨k,hk,c_ c aa⟩),?_,?_⟩
    ·intro w' ax;have n3:∀ j c,j<cs.length->Fs j c->¬ cr c->w'.heap[c]?=w.heap[c]?:=λj c ag aa aB=>ax c ((aH c).2 (.inr ⟨j,ag,aa⟩)) aB;obtain ⟨ij,hz⟩:=e7 w' λc aa aB=>n3 k c hk aa aB;have mn:=uN (w':=w') aW λc aa=>ax c ((aH c).2 (.inl aa)) λed=>ar k c hk (c_ c ed) aa;refine ⟨by simp [walk,ph mn hu,ij],?_⟩;intro r u9 dI;cases r with
     | nil=>exact .inr rfl
     | cons j r =>
      simp only [ab.at,ab.kids] at dI;cases ag:cs[j]? with
      | none=>rw [ag] at dI; cases dI
      | some w5 =>
       rw [ag] at dI;simp only at dI;have ez:j<cs.length:=(List.getElem?_eq_some_iff.1 ag).1;have rz:us[j]?=some us[j]:=List.getElem?_eq_getElem (ah ▸ ez);by_cases gI:j=k
       ·subst gI;rw [g_] at ag;cases ag;rcases hz r u9 dI with ⟨c',rfl⟩ | h
        ·exact .inl ⟨c',rfl⟩
        ·exact .inr (by simp [walk,ph aW hu,ph mn hu,h])
       ·have h:=R.p9 (w':=w') r (hr j w5 _ ag rz) dI λc aa=>n3 j c ez aa λed=>gI (aR j k c ez hk aa (c_ c ed));exact .inr (by simp [walk,ph aW rz,ph mn rz,h])
    intro w' I' ρ' y' jk o iJ nA lB;have ju:∀ j c,j<cs.length->Fs j c->F c:=λj c ag aa=>(aH c).2 (.inr ⟨j,ag,aa⟩);obtain ⟨bG,kp,ey⟩:=kz w' I' ρ' y' jk (o.mono (λc aa=>ju k c hk aa) λc _ h=>h) iJ (λc aa o9=>nA c aa (ju k c hk o9)) lB;obtain ⟨dI,o7⟩:=F6 (get:=λj=>us[j]?) hr aR ju hk c_ o hu kp λc=>by
     constructor
     ·intro h;rcases (ey c).1 h with h1 | h1
      ·exact .inl h1
      ·exact .inr ⟨h,λ⟨af,aF⟩=>aF (nA c h1 af)⟩
     ·rintro (h1 | ⟨h1,_⟩)
      ·exact (ey c).2 (.inl h1)
      ·exact h1
    rw [z1];refine ⟨_,.own (Fs:=λj=>if j=k then bG else Fs j) (uN aW λc aa=>o.rest c ((aH c).2 (.inl aa)) λed=>ar k c hk (c_ c ed) aa) (by simpa using ah) h1 dI o7 ?_ (λc=>Iff.rfl),λc=>?_⟩
    ·intro j c ag aa vP;rw [List.length_set] at ag;by_cases gI:j=k
     ·rw [if_pos gI] at aa;rcases (ey c).1 aa with ⟨h1,_⟩ | h1
      ·exact ar k c hk h1 vP
      ·exact ar k c hk (c_ c (nA c h1 ((aH c).2 (.inl vP)))) vP
     ·rw [if_neg gI] at aa; exact ar j c ag aa vP
    ·have hu:=F7 hk aR c_ ey c;simp only [List.length_set];rw [hu,aH c];have eL:v.ownBlock=some c->¬ cr c:=λh1 af=>ar k c hk (c_ c af) h1;constructor
     ·rintro (h1 | ⟨h1,af⟩ | h1)
      ·exact .inl ⟨.inl h1,eL h1⟩
      ·exact .inl ⟨.inr h1,af⟩
      ·exact .inr h1
     ·rintro (⟨h1 | h1,af⟩ | h1)
      ·exact .inl h1
      ·exact .inr (.inl ⟨h1,af⟩)
      ·exact .inr (.inr h1)
   | @obj cs b e arr Fs _ aW ah h1 hr aR ar aH ax =>
    simp only [ab.kids] at g_;have hk:k<cs.length:=(List.getElem?_eq_some_iff.1 g_).1;have hu:arr[k]?=some arr[k]:=Array.getElem?_eq_getElem (ah ▸ hk);obtain ⟨h0,cr,hw,ds,c_,e7,kz⟩:=R.focus p (hr k rf _ g_ hu) fD;refine ⟨h0,cr,by simp [walk,child,World.cell?,aW,hu,hw],ds,λc aa=>(aH c).2 (.inr ⟨k,hk,c_ c aa⟩),?_,?_⟩
    ·intro w' ax;have n3:∀ j c,j<cs.length->Fs j c->¬ cr c->w'.heap[c]?=w.heap[c]?:=λj c ag aa aB=>ax c ((aH c).2 (.inr ⟨j,ag,aa⟩)) aB;obtain ⟨ij,hz⟩:=e7 w' λc aa aB=>n3 k c hk aa aB;have mn:=(ax b ((aH b).2 (.inl rfl)) λed=>ar k hk (c_ b ed)).trans aW;refine ⟨by simp [walk,child,World.cell?,mn,hu,ij],?_⟩;intro r u9 dI;cases r with
     | nil=>exact .inr rfl
     | cons j r =>
      simp only [ab.at,ab.kids] at dI;cases ag:cs[j]? with
      | none=>rw [ag] at dI; cases dI
      | some w5 =>
       rw [ag] at dI;simp only at dI;have ez:j<cs.length:=(List.getElem?_eq_some_iff.1 ag).1;have rz:arr[j]?=some arr[j]:=Array.getElem?_eq_getElem (ah ▸ ez);by_cases gI:j=k
       ·subst gI;rw [g_] at ag;cases ag;rcases hz r u9 dI with ⟨c',rfl⟩ | h
        ·exact .inl ⟨c',rfl⟩
        ·exact .inr (by simp [walk,child,World.cell?,aW,mn,hu,h])
       ·have h:=R.p9 (w':=w') r (hr j w5 _ ag rz) dI λc aa=>n3 j c ez aa λed=>gI (aR j k c ez hk aa (c_ c ed));exact .inr (by simp [walk,child,World.cell?,aW,mn,rz,h])
    intro w' I' ρ' y' jk o iJ nA lB;have ju:∀ j c,j<cs.length->Fs j c->F c:=λj c ag aa=>(aH c).2 (.inr ⟨j,ag,aa⟩);obtain ⟨bG,kp,ey⟩:=kz w' I' ρ' y' jk (o.mono (λc aa=>ju k c hk aa) λc _ h=>h) iJ (λc aa o9=>nA c aa (ju k c hk o9)) lB;obtain ⟨dI,o7⟩:=F6 (get:=λj=>arr[j]?) hr aR ju hk c_ o hu kp λc=>by
     constructor
     ·intro h;rcases (ey c).1 h with h1 | h1
      ·exact .inl h1
      ·exact .inr ⟨h,λ⟨af,aF⟩=>aF (nA c h1 af)⟩
     ·rintro (h1 | ⟨h1,_⟩)
      ·exact (ey c).2 (.inl h1)
      ·exact h1
    rw [z1];have n1:F b:=(aH b).2 (.inl rfl);have Jv:¬ cr b:=λh=>ar k hk (c_ b h);refine ⟨_,.obj (Fs:=λj=>if j=k then bG else Fs j) ((o.rest b n1 Jv).trans aW) (by simpa using ah) h1 dI o7 ?_ (λc=>Iff.rfl) (λi j u hi hX=>?_),λc=>?_⟩
    ·intro j ag aa;rw [List.length_set] at ag;by_cases gI:j=k
     ·rw [if_pos gI] at aa;rcases (ey b).1 aa with ⟨h1,_⟩ | h1
      ·exact ar k hk h1
      ·exact Jv (nA b h1 n1)
     ·rw [if_neg gI] at aa; exact ar j ag aa
    ·rcases Q8 hi with ⟨rfl,he,_⟩ | ⟨_,hi⟩
     ·refine ax _ j u ?_ hX;rw [g_];cases p with
      | nil =>
       simp only [ab.at,Option.some.injEq] at fD;rw [fD];exact congrArg some (lB j he.symm)
      | cons kd Lh=>exact absurd he.symm (ab.aaG fD)
     ·exact ax i j u hi hX
    ·have hu:=F7 hk aR c_ ey c;simp only [List.length_set];rw [hu,aH c];constructor
     ·rintro (rfl | ⟨h1,af⟩ | h1)
      ·exact .inl ⟨.inl rfl,Jv⟩
      ·exact .inl ⟨.inr h1,af⟩
      ·exact .inr h1
     ·rintro (⟨h1 | h1,af⟩ | h1)
      ·exact .inl h1
      ·exact .inr (.inl ⟨h1,af⟩)
      ·exact .inr (.inr h1)
   | @agg cs vs Fs _ ah h1 hr aR aH =>
    simp only [ab.kids] at g_;have hk:k<cs.length:=(List.getElem?_eq_some_iff.1 g_).1;have hu:vs[k]?=some vs[k]:=Array.getElem?_eq_getElem (ah ▸ hk);obtain ⟨h0,cr,hw,ds,c_,e7,kz⟩:=R.focus p (hr k rf _ g_ hu) fD;refine ⟨h0,cr,by simp [walk,child,hu,hw],ds,λc aa=>(aH c).2 ⟨k,hk,c_ c aa⟩,?_,?_⟩
    ·intro w' ax;have n3:∀ j c,j<cs.length->Fs j c->¬ cr c->w'.heap[c]?=w.heap[c]?:=λj c ag aa aB=>ax c ((aH c).2 ⟨j,ag,aa⟩) aB;obtain ⟨ij,hz⟩:=e7 w' λc aa aB=>n3 k c hk aa aB
     
     refine ⟨by simp [walk,child,hu,ij],?_⟩;intro r u9 dI;cases r with
     | nil=>exact .inr rfl
     | cons j r =>
      simp only [ab.at,ab.kids] at dI;cases ag:cs[j]? with
      | none=>rw [ag] at dI; cases dI
      | some w5 =>
       rw [ag] at dI;simp only at dI;have ez:j<cs.length:=(List.getElem?_eq_some_iff.1 ag).1;have rz:vs[j]?=some vs[j]:=Array.getElem?_eq_getElem (ah ▸ ez);by_cases gI:j=k
       ·subst gI;rw [g_] at ag;cases ag;rcases hz r u9 dI with ⟨c',rfl⟩ | h
        ·exact .inl ⟨c',rfl⟩
        ·exact .inr (by simp [walk,child,hu,h])
       ·have h:=R.p9 (w':=w') r (hr j w5 _ ag rz) dI λc aa=>n3 j c ez aa λed=>gI (aR j k c ez hk aa (c_ c ed));exact .inr (by simp [walk,child,rz,h])
    intro w' I' ρ' y' jk o iJ nA lB;have ju:∀ j c,j<cs.length->Fs j c->F c:=λj c ag aa=>(aH c).2 ⟨j,ag,aa⟩;obtain ⟨bG,kp,ey⟩:=kz w' I' ρ' y' jk (o.mono (λc aa=>ju k c hk aa) λc _ h=>h) iJ (λc aa o9=>nA c aa (ju k c hk o9)) lB;obtain ⟨dI,o7⟩:=F6 (get:=λj=>vs[j]?) hr aR ju hk c_ o hu kp λc=>by
     constructor
     ·intro h;rcases (ey c).1 h with h1 | h1
      ·exact .inl h1
      ·exact .inr ⟨h,λ⟨af,aF⟩=>aF (nA c h1 af)⟩
     ·rintro (h1 | ⟨h1,_⟩)
      ·exact (ey c).2 (.inl h1)
      ·exact h1
    rw [z1];refine ⟨_,.agg (Fs:=λj=>if j=k then bG else Fs j) (by simpa using ah) h1 dI o7 (λc=>Iff.rfl),λc=>?_⟩;have hu:=F7 hk aR c_ ey c;simp only [List.length_set];rw [hu,aH c]
   | @bS cs vs Fs _ ah hr aR aH =>
    simp only [ab.kids] at g_;have hk:k<cs.length:=(List.getElem?_eq_some_iff.1 g_).1;have hu:vs[k]?=some vs[k]:=Array.getElem?_eq_getElem (ah ▸ hk);obtain ⟨h0,cr,hw,ds,c_,e7,kz⟩:=R.focus p (hr k rf _ g_ hu) fD;refine ⟨h0,cr,by simp [walk,child,hu,hw],ds,λc aa=>(aH c).2 ⟨k,hk,c_ c aa⟩,?_,?_⟩
    ·intro w' ax;have n3:∀ j c,j<cs.length->Fs j c->¬ cr c->w'.heap[c]?=w.heap[c]?:=λj c ag aa aB=>ax c ((aH c).2 ⟨j,ag,aa⟩) aB;obtain ⟨ij,hz⟩:=e7 w' λc aa aB=>n3 k c hk aa aB
     
     refine ⟨by simp [walk,child,hu,ij],?_⟩;intro r u9 dI;cases r with
     | nil=>exact .inr rfl
     | cons j r =>
      simp only [ab.at,ab.kids] at dI;cases ag:cs[j]? with
      | none=>rw [ag] at dI; cases dI
      | some w5 =>
       rw [ag] at dI;simp only at dI;have ez:j<cs.length:=(List.getElem?_eq_some_iff.1 ag).1;have rz:vs[j]?=some vs[j]:=Array.getElem?_eq_getElem (ah ▸ ez);by_cases gI:j=k
       ·subst gI;rw [g_] at ag;cases ag;rcases hz r u9 dI with ⟨c',rfl⟩ | h
        ·exact .inl ⟨c',rfl⟩
        ·exact .inr (by simp [walk,child,hu,h])
       ·have h:=R.p9 (w':=w') r (hr j w5 _ ag rz) dI λc aa=>n3 j c ez aa λed=>gI (aR j k c ez hk aa (c_ c ed));exact .inr (by simp [walk,child,rz,h])
    intro w' I' ρ' y' jk o iJ nA lB;have ju:∀ j c,j<cs.length->Fs j c->F c:=λj c ag aa=>(aH c).2 ⟨j,ag,aa⟩;obtain ⟨bG,kp,ey⟩:=kz w' I' ρ' y' jk (o.mono (λc aa=>ju k c hk aa) λc _ h=>h) iJ (λc aa o9=>nA c aa (ju k c hk o9)) lB;obtain ⟨dI,o7⟩:=F6 (get:=λj=>vs[j]?) hr aR ju hk c_ o hu kp λc=>by
     constructor
     ·intro h;rcases (ey c).1 h with h1 | h1
      ·exact .inl h1
      ·exact .inr ⟨h,λ⟨af,aF⟩=>aF (nA c h1 af)⟩
     ·rintro (h1 | ⟨h1,_⟩)
      ·exact (ey c).2 (.inl h1)
      ·exact h1
    rw [z1];refine ⟨_,.bS (Fs:=λj=>if j=k then bG else Fs j) (by simpa using ah) dI o7 (λc=>Iff.rfl),λc=>?_⟩;have hu:=F7 hk aR c_ ey c;simp only [List.length_set];rw [hu,aH c]
   | ref J _ _=>cases x <;> simp [ab.isRef,ab.kids] at J g_
   | _=>simp [ab.kids] at g_
abbrev aL:=Nat->Option ab
def bH (g:aL) (p:Place):Option ab :=
 match g p.root with
 | some x=>x.at p.path
 | none=>none
def dx (w:World) (T:Array Value) (p:Place):Option Value :=
 match T[p.root]? with
 | some v=>walk w v p.path
 | none=>none
def addrOf:Value->Option Addr
 | .slice (some a) _ _=>some a
 | .pointer (some a)=>some a
 | _=>none
def fk (w:World) (T:Array Value):ab->Value->Prop
 | .ptr p k,v=>∃ u a,dx w T p=some u/\addrOf u=some a/\v=.pointer (some ⟨a.block,a.off+k,none⟩)
 | .a7 _ p n,v=>∃ a N cap,dx w T p=some (.slice a N cap)/\v=.slice a n cap/\n<=N
 | .sub z p lo n,v=>∃ a N cap cd nv,dx w T p=some (.slice a N cap)/\v=.slice cd n nv/\n<=nv/\lo+n<=N/\(0<n->∃ ad,a=some ad/\cd=some ⟨ad.block,ad.off+lo * z,none⟩)
 | .bM _ p n _ _,v=>∃ a cap,dx w T p=some (.slice a n cap)/\v=.slice a n cap
 | .gl p,v=>∃ b,dx w T p=some (.map b)/\v=.map b
 | _,_=>False
def gE (g:aL):ab->Prop
 | .ptr p k=>∃ y,bH g p=some y/\(∃ z n cs,(y=.own z n cs\/y=.obj cs)/\k<cs.length)
 | .a7 z p n=>(∃ N cs,bH g p=some (.own z N cs)/\n<=N)\/(p.path=[]/\∃ q gP m new,g p.root=some (.bM z q gP m new)/\n=gP+m)
 | .sub z p lo n=>∃ N cs,bH g p=some (.own z N cs)/\lo+n<=N
 | .bM z p n _ _=>(∃ cs,bH g p=some (.own z n cs))\/(p.path=[]/\∃ q gP m new cs,g p.root=some (.bM z q gP m new)/\n=gP+m/\bH g q=some (.own z gP cs))
 | .gl p=>∃ q,bH g p=some (.mp q)
 | _=>False
def dy (w:World) (T:Array Value) (g:aL) (r:ab) (v:Value):Prop:=fk w T r v/\gE g r
structure HJ (w:World) (I:a') (ρ:ab->Value->Prop) (z:Nat) (p:Place) (n m:Nat) (new:List ab) (v:Value) (F:a') (bv:Value) (e b6:TypeId) (us news:List Value):Prop where
 jw:ρ (.bM z p n 0 []) bv
 kK:w.ownsRow 0 e z bv n us
 mU:w.ownsRow 0 b6 z v (n+m) (us++news)
 ah:new.length=news.length
 h1:∀ (k:Nat) (u:Value),news[k]?=some u->u.oneCell'=true
 hr:∀ (k:Nat) (x:ab) (u:Value),new[k]?=some x->news[k]?=some u->R w I ρ x u (λ_=>False)
 aH:∀ c,F c↔v.ownBlock=some c/\bv.ownBlock≠some c
inductive jH (w:World) (I:a') (ρ:ab->Value->Prop):ab->Value->a'->Prop
 | tree {x:ab}{v:Value}{F:a'}(h:R w I ρ x v F):jH w I ρ x v F
 | bM {z n m:Nat}{p:Place}{new:List ab}{v bv:Value}{e b6:TypeId}{us news:List Value}{F:a'}(h:HJ w I ρ z p n m new v F bv e b6 us news):jH w I ρ (.bM z p n m new) v F
theorem R.lG {w:World}{I:a'}{ρ:ab->Value->Prop}{z n m:Nat}{p:Place}{new:List ab}{v:Value}{F:a'}(h:R w I ρ (.bM z p n m new) v F):False:=by
 cases h with
 | ref J=>simp [ab.isRef] at J
theorem jH.gu {w:World}{I:a'}{ρ:ab->Value->Prop}{x:ab}{v:Value}{F:a'}(h:jH w I ρ x v F) (J:∀ z p n m new,x≠.bM z p n m new):R w I ρ x v F:=by
 cases h with
 | tree h=>exact h
 | bM=>exact absurd rfl (J _ _ _ _ _)
theorem jH.vV {w:World}{I:a'}{ρ:ab->Value->Prop}{z n m:Nat}{p:Place}{new:List ab}{v:Value}{F:a'}(h:jH w I ρ (.bM z p n m new) v F):∃ bv e b6 us news,HJ w I ρ z p n m new v F bv e b6 us news:=by
 cases h with
 | tree h=>exact h.lG.elim
 | bM h=>exact ⟨_,_,_,_,_,h⟩
theorem jH.lt {w:World}{I:a'}{ρ:ab->Value->Prop}{x:ab}{v:Value}{F:a'}(h:jH w I ρ x v F):∀ c,F c->c<w.heap.size:=by
 cases h with
 | tree h=>exact h.lt
 | bM h=>exact λc aa=>(h.mU.lt c ((h.aH c).1 aa).1).2
theorem jH.frame {w w':World}{I I':a'}{ρ ρ':ab->Value->Prop}{x:ab}{v:Value}{F:a'}(h:jH w I ρ x v F)
  (bf:∀ c,I c->w'.heap[c]?=w.heap[c]?) (oD:∀ c,I c->I' c) (l3:∀ x v,ρ x v->ρ' x v)
  (bI:∀ z p n bv,ρ (.bM z p n 0 []) bv->∀ c,bv.ownBlock=some c->w'.heap[c]?=w.heap[c]?)
  (aV:∀ c,F c->w'.heap[c]?=w.heap[c]?):jH w' I' ρ' x v F:=by
 cases h with
 | tree h=>exact .tree (h.frame bf oD l3 aV)
 | @bM z n m p new v bv e b6 us news F h =>
  have ar:=bI _ _ _ _ h.jw;refine .bM ⟨l3 _ _ h.jw,uN h.kK ar,uN h.mU λc aa=>?_,h.ah,h.h1,λk x u J hu=>(h.hr k x u J hu).frame bf oD l3 λc aa=>aa.elim,h.aH⟩;by_cases qx:bv.ownBlock=some c
  ·exact ar c qx
  ·exact aV c ((h.aH c).2 ⟨aa,qx⟩)
theorem ab.s8 {z n m:Nat}{p:Place}{new:List ab}{q:List Nat}{y:ab}(h:(ab.bM z p n m new).at q=some y):q=[]/\y=.bM z p n m new:=by
 cases q with
 | nil=>simp [ab.at] at h; exact ⟨rfl,h.symm⟩
 | cons k q=>simp [ab.at,ab.kids] at h
class cG where
 q:World->a'->Prop
 keep:∀ {w w':World}{I I':a'},q w I->(∀ c,I c->w'.heap[c]?=w.heap[c]?)->(∀ c,I c->I' c)->q w' I'
variable [cG]
structure cB (w:World) (I:a') (T:Array Value) (g:aL) (Fs:Nat->a'):Prop where
 rel:∀ t x,g t=some x->∃ v,T[t]?=some v/\jH w I (dy w T g) x v (Fs t)
 ln:∀ t,g t=none->∀ c,¬ Fs t c
 ea:∀ t t' c,Fs t c->Fs t' c->t=t'
 bc:∀ t c,Fs t c->¬ I c
 lt:∀ c,I c->c<w.heap.size
 rR:∀ t t' z p n m new bR cq m' cN,g t=some (.bM z p n m new)->g t'=some (.bM bR p cq m' cN)->t=t'
 hR:cG.q w I
section
variable {w:World}{I:a'}{T:Array Value}{g:aL}{Fs:Nat->a'}
theorem cB.part (h:cB w I T g Fs) {p:Place}{y:ab}(aq:bH g p=some y) (ao:∀ z q n m new,y≠.bM z q n m new):∃ v cr,dx w T p=some v/\R w I (dy w T g) y v cr/\(∀ c,cr c->Fs p.root c):=by
 unfold bH at aq;cases J:g p.root with
 | none=>rw [J] at aq; cases aq
 | some x =>
  rw [J] at aq;obtain ⟨v,hv,a1⟩:=h.rel _ _ J;replace a1:=a1.gu (by
   rintro z q n m new rfl;exact ao _ _ _ _ _ (ab.s8 aq).2)
  obtain ⟨h0,cr,hw,ds,c_,_⟩:=R.focus p.path a1 aq;exact ⟨h0,cr,by simp [dx,hv,hw],ds,c_⟩
theorem R.rJ {ρ:ab->Value->Prop}{z n:Nat}{cs:List ab}{v:Value}{F:a'}(h:R w I ρ (.own z n cs) v F):∀ c,v.ownBlock=some c->F c:=by
 cases h with
 | own aW ah h1 hr aR ar aH=>exact λc aa=>(aH c).2 (.inl aa)
 | ref J=>simp [ab.isRef] at J
theorem R.oc {ρ:ab->Value->Prop}{z n:Nat}{cs:List ab}{v:Value}{F:a'}(h:R w I ρ (.own z n cs) v F) :
  ∃ a cap,v=.slice a n cap/\n<=cap/\cs.length=n * z/\(∀ ad,a=some ad->ad.off=0/\ad.spot=none)/\(0<n->a.isSome=true):=by
 cases h with
 | own aW ah h1 hr aR ar aH =>
  obtain ⟨h1,af⟩:=aW;rcases af with ⟨rfl,rfl⟩ | ⟨b,cap,cur,rfl,_,_,aB,_⟩
  ·exact ⟨none,0,rfl,Nat.le_refl _,by simp [ah,h1],by simp,by simp⟩
  ·exact ⟨_,cap,rfl,aB,by simp [ah,h1],by rintro ad ⟨⟩; exact ⟨rfl,rfl⟩,by simp⟩
 | ref J=>simp [ab.isRef] at J
theorem cB.yN (h:cB w I T g Fs) {w':World}{T':Array Value}(cV:∀ t,g t≠none->T'[t]?=T[t]?) (aH:∀ t c,Fs t c->w'.heap[c]?=w.heap[c]?) {p:Place}{y:ab}(aq:bH g p=some y) :
  dx w' T' p=dx w T p:=by
 unfold bH at aq;cases J:g p.root with
 | none=>rw [J] at aq; cases aq
 | some x =>
  rw [J] at aq;obtain ⟨v,hv,a1⟩:=h.rel _ _ J;have ih:T'[p.root]?=some v:=by rw [cV _ (by rw [J]; simp),hv]
  cases a1 with
  | tree a1 =>
   have:=R.p9 (w':=w') p.path a1 aq λc aa=>aH _ c aa;simp [dx,hv,ih,this]
  | bM a1=>simp [dx,hv,ih,(ab.s8 aq).1,walk]
theorem k7 {g g':aL}(aQ:∀ t x,g t=some x->g' t=some x) {p:Place}{y:ab}(aq:bH g p=some y):bH g' p=some y:=by
 unfold bH at *;cases J:g p.root with
 | none=>rw [J] at aq; cases aq
 | some x=>rw [J] at aq; rw [aQ _ _ J]; exact aq
theorem gE.mono {g g':aL}(aQ:∀ t x,g t=some x->g' t=some x) {r:ab}(h:gE g r):gE g' r:=by
 cases r <;> simp only [gE] at h ⊢
 case ptr p k=>obtain ⟨y,ao,h⟩:=h; exact ⟨y,k7 aQ ao,h⟩
 case a7 z p n =>
  rcases h with ⟨N,cs,h1,af⟩ | ⟨aK,q,gP,m,new,h1,af⟩
  ·exact .inl ⟨N,cs,k7 aQ h1,af⟩
  ·exact .inr ⟨aK,q,gP,m,new,aQ _ _ h1,af⟩
 case sub z p lo n=>obtain ⟨N,cs,h1,af⟩:=h; exact ⟨N,cs,k7 aQ h1,af⟩
 case bM z p n m new =>
  rcases h with ⟨cs,h1⟩ | ⟨aK,q,gP,m',cN,cs,h1,af,aF⟩
  ·exact .inl ⟨cs,k7 aQ h1⟩
  ·exact .inr ⟨aK,q,gP,m',cN,cs,aQ _ _ h1,af,k7 aQ aF⟩
 case gl p=>obtain ⟨q,h⟩:=h; exact ⟨q,k7 aQ h⟩
theorem cB.GO (h:cB w I T g Fs) {w':World}{T':Array Value}{g':aL}(cV:∀ t,g t≠none->T'[t]?=T[t]?) (aH:∀ t c,Fs t c->w'.heap[c]?=w.heap[c]?)
  (aQ:∀ t x,g t=some x->g' t=some x) {r:ab}{v:Value}(hr:dy w T g r v):dy w' T' g' r v:=by
 obtain ⟨h1,af⟩:=hr;refine ⟨?_,af.mono aQ⟩;have slot:∀ {p:Place}{x:ab},p.path=[]->g p.root=some x->dx w' T' p=dx w T p:=by
  intro p x aq J;obtain ⟨v,hv,_⟩:=h.rel _ _ J;simp [dx,aq,walk,cV p.root (by rw [J]; simp)]
 cases r <;> simp only [fk,gE] at h1 af ⊢
 case ptr p k =>
  obtain ⟨y,ao,_⟩:=af;rw [h.yN cV aH ao]; exact h1
 case a7 z p n =>
  rcases af with ⟨N,cs,af,_⟩ | ⟨aK,q,gP,m,new,af,_⟩
  ·rw [h.yN cV aH af]; exact h1
  ·rw [slot aK af]; exact h1
 case sub z p lo n =>
  obtain ⟨N,cs,af,_⟩:=af;rw [h.yN cV aH af]; exact h1
 case bM z p n m new =>
  rcases af with ⟨cs,af⟩ | ⟨aK,q,gP,m',cN,cs,af,_⟩
  ·rw [h.yN cV aH af]; exact h1
  ·rw [slot aK af]; exact h1
 case gl p =>
  obtain ⟨q,af⟩:=af;rw [h.yN cV aH af]; exact h1
theorem cB.E8 (h:cB w I T g Fs) {z n:Nat}{p:Place}{bv:Value}(hr:dy w T g (.bM z p n 0 []) bv):∀ c,bv.ownBlock=some c->∃ t,Fs t c:=by
 obtain ⟨⟨a,cap,h1,rfl⟩,af⟩:=hr;intro c aa;have own:∀ {q:Place}{gP:Nat}{cs:List ab}{v:Value},bH g q=some (.own z gP cs)->dx w T q=some v->v.ownBlock=some c->∃ t,Fs t c:=by
  intro q gP cs v a_ hv aa;obtain ⟨dK,cr,ih,a1,c_⟩:=h.part a_ (by simp);rw [hv] at ih;cases ih;exact ⟨_,c_ c (a1.rJ c aa)⟩
 rcases af with ⟨cs,af⟩ | ⟨aK,q,gP,m,new,cs,af,rfl,aF⟩
 ·exact own af h1 aa
 ·obtain ⟨v,hv,a1⟩:=h.rel _ _ af;have sw:v=.slice a (gP+m) cap:=by
   simp only [dx,hv,aK,walk,Option.some.injEq] at h1;exact h1
  obtain ⟨M4,e,b6,us,news,a1⟩:=a1.vV;by_cases fm:M4.ownBlock=some c
  ·obtain ⟨⟨a2,sc,bh,rfl⟩,_⟩:=a1.jw;exact own aF bh fm
  ·exact ⟨_,(a1.aH c).2 ⟨by rw [sw]; exact aa,fm⟩⟩
theorem cB.frame (h:cB w I T g Fs) {w':World}{I':a'}{T':Array Value}{g':aL}(cV:∀ t,g t≠none->T'[t]?=T[t]?) (aH:∀ t c,Fs t c->w'.heap[c]?=w.heap[c]?)
  (bf:∀ c,I c->w'.heap[c]?=w.heap[c]?) (oD:∀ c,I c->I' c) (aQ:∀ t x,g t=some x->g' t=some x) {x:ab}{v:Value}{F:a'}(a1:R w I (dy w T g) x v F)
  (mh:∀ c,F c->w'.heap[c]?=w.heap[c]?):R w' I' (dy w' T' g') x v F :=
 a1.frame bf oD (λ_ _ hr=>h.GO cV aH aQ hr) mh
theorem cB.xa (h:cB w I T g Fs) {w':World}{I':a'}{T':Array Value}{g':aL}(cV:∀ t,g t≠none->T'[t]?=T[t]?) (aH:∀ t c,Fs t c->w'.heap[c]?=w.heap[c]?)
  (bf:∀ c,I c->w'.heap[c]?=w.heap[c]?) (oD:∀ c,I c->I' c) (aQ:∀ t x,g t=some x->g' t=some x) {x:ab}{v:Value}{F:a'}(a1:jH w I (dy w T g) x v F)
  (mh:∀ c,F c->w'.heap[c]?=w.heap[c]?):jH w' I' (dy w' T' g') x v F :=
 a1.frame bf oD (λ_ _ hr=>h.GO cV aH aQ hr) (λ_ _ _ _ hr c aa=>by obtain ⟨t,au⟩:=h.E8 hr c aa; exact aH t c au) mh
def cT (g:aL) (d:Nat) (x:ab):aL:=λt=>if t=d then some x else g t
def wB (Fs:Nat->a') (d:Nat) (F:a'):Nat->a':=λt=>if t=d then F else Fs t
theorem RE {d:Nat}{x:ab}(aR:g d=none):∀ t y,g t=some y->cT g d x t=some y:=by
 intro t y ao;unfold cT;split
 ·rename_i h; subst h; rw [aR] at ao; cases ao
 ·exact ao
end
end Go.Own
namespace Go.Own
open Go
variable [cG]
theorem RJ (w:World):∀ (p:List Nat) (v:Value) (k:Nat),walk w v (p++[k])=(walk w v p).bind λu=>child w u k
 | [],v,k=>by simp [walk]; cases child w v k <;> rfl
 | j::p,v,k=>by
  simp only [List.cons_append,walk];cases child w v j with
  | none=>rfl
  | some u=>exact RJ w p u k
theorem MX:∀ (p:List Nat) (x:ab) (k:Nat),x.at (p++[k])=(x.at p).bind λy=>y.kids[k]?
 | [],x,k=>by simp [ab.at]; cases x.kids[k]? <;> rfl
 | j::p,x,k=>by
  simp only [List.cons_append,ab.at];cases x.kids[j]? with
  | none=>rfl
  | some u=>exact MX p u k
theorem t_ (g:aL) (p:Place) (k:Nat):bH g (p.push k)=(bH g p).bind λy=>y.kids[k]?:=by
 unfold bH Place.push;cases g p.root with
 | none=>rfl
 | some x=>simp [MX]
theorem yM (w:World) (T:Array Value) (p:Place) (k:Nat):dx w T (p.push k)=(dx w T p).bind λu=>child w u k:=by
 unfold dx Place.push;cases T[p.root]? with
 | none=>rfl
 | some x=>simp [RJ]
def fY:Nat->Place->ab->ab
 | _,p,.own z n _=>.a7 z p n
 | _,p,.obj (_::_)=>.ptr p 0
 | _,_,.obj []=>.dead
 | _,_,.bM ..=>.dead
 | _,_,.self _=>.dead
 | _,_,.hV ..=>.dead
 | _,p,.mp _=>.gl p
 | d+1,p,.agg cs=>.agg (cs.mapIdx λi x=>fY d (p.push i) x)
 | d+1,p,.bS cs=>.bS (cs.mapIdx λi x=>fY d (p.push i) x)
 | 0,_,.agg _=>.dead
 | 0,_,.bS _=>.dead
 | _,_,x=>x
def pn (t:Nat):ab->ab
 | .bM z _ n m _=>.a7 z ⟨t,[]⟩ (n+m)
 | x=>fY 2 ⟨t,[]⟩ x
def ky:Value->ab
 | .slice none 0 0=>.aP
 | .agg _=>.dead
 | .tuple _=>.dead
 | v=>.lit v
def ofConst:Value->ab
 | .agg vs=>if vs.all Value.oneCell' then .agg (vs.toList.map ky) else .dead
 | .tuple _=>.dead
 | v=>ky v
def bw (g:aL):Operand->Option ab
 | .tmp t=>(g t).map (pn t)
 | .const v=>some (ofConst v)
 | .func f=>some (.cF (.func f) [] [])
 | .global _=>none
theorem QI {d:Nat}{p:Place}{x:ab}{j:Nat × Nat}:fY d p x≠.self j:=by
 cases x with
 | obj cs=>cases d <;> cases cs <;> simp [fY]
 | _=>cases d <;> simp [fY]
theorem aad {t:Nat}{x:ab}:s3 (pn t x):=by
 intro cs h k j hk;cases x with
 | obj cs=>cases cs <;> simp [pn,fY] at h
 | agg l =>
  simp only [pn,fY,ab.agg.injEq] at h;subst h;rw [List.getElem?_mapIdx] at hk;cases J:l[k]? with
  | none=>rw [J] at hk; cases hk
  | some x=>rw [J] at hk; simp only [Option.map_some,Option.some.injEq] at hk; exact QI hk
 | _=>simp [pn,fY] at h
theorem P9 (v:Value) (j:Nat × Nat):ky v≠.self j:=by
 unfold ky; split <;> simp
theorem P_ (vs:List Value):tP (vs.map ky):=λk j=>by
 rw [List.getElem?_map];cases vs[k]? with
 | none=>simp
 | some v=>simp [P9]
theorem Ld {g:aL}{o:Operand}{x:ab}(h:bw g o=some x):s3 x:=by
 cases o with
 | tmp t =>
  simp only [bw] at h;cases au:g t with
  | none=>rw [au] at h; cases h
  | some y=>rw [au] at h; simp only [Option.map_some,Option.some.injEq] at h; exact h ▸ aad
 | const v =>
  simp only [bw,Option.some.injEq] at h;subst h;intro cs h;unfold ofConst at h
  split at h
  ·split at h
   ·cases h; exact P_ _
   ·cases h
  ·cases h
  ·unfold ky at h; split at h <;> cases h
 | func f=>simp only [bw,Option.some.injEq] at h; subst h; intro cs h; cases h
 | global n=>cases h
theorem Zr {g:aL}{o:Operand}{x:ab}(h:bw g o=some x) (j:Nat × Nat):x≠.self j:=by
 cases o with
 | tmp t =>
  simp only [bw] at h;cases au:g t with
  | none=>rw [au] at h; cases h
  | some y =>
   rw [au] at h;simp only [Option.map_some,Option.some.injEq] at h;subst h;cases y with
   | bM=>simp [pn]
   | _=>exact QI
 | const v =>
  simp only [bw,Option.some.injEq] at h;subst h;unfold ofConst;split
  ·split <;> simp
  ·simp
  ·exact P9 _ _
 | func f=>simp only [bw,Option.some.injEq] at h; subst h; simp
 | global n=>cases h
abbrev ck:a':=λ_=>False
section
variable {w:World}{I:a'}{T:Array Value}{g:aL}{Fs:Nat->a'}
theorem R.empty {ρ:ab->Value->Prop}{x:ab}{v:Value}{F:a'}(h:R w I ρ x v F) (aH:∀ c,¬ F c):R w I ρ x v ck:=h.zy λc=>⟨λaa=>aH c aa,λaa=>aa.elim⟩
theorem GN:∀ (d:Nat) {p:Place}{x:ab}{v:Value}{F:a'},bH g p=some x->dx w T p=some v->R w I (dy w T g) x v F->R w I (dy w T g) (fY d p x) v ck:=by
 intro d
 induction d with
 | zero =>
  intro p x v F aq hv a1;cases a1 with
  | lit ah aH=>exact .lit ah λ_ h=>h
  | aP aH=>exact .aP λ_ h=>h
  | dead aH=>exact .dead λ_ h=>h
  | mx aH=>exact .dead λ_ h=>h
  | hV=>exact .dead λ_ h=>h
  | ref J hr aH=>cases x <;> simp [ab.isRef] at J <;> exact .ref rfl hr λ_ h=>h
  | mp=>exact .ref rfl ⟨⟨_,hv,rfl⟩,⟨_,aq⟩⟩ λ_ h=>h
  | imp aH bf aW a_=>exact .imp (λ_ h=>h) bf aW a_
  | gM aH=>exact .gM λ_ h=>h
  | bc aH lY bf ax ah h1 aa hr=>exact .bc (λ_ h=>h) lY bf ax ah h1 aa hr
  | cx aH bf ax h1 aa hr=>exact .cx (λ_ h=>h) bf ax h1 aa hr
  | own aW ah h1 hr aR ar aH =>
   have CF:=R.own (I:=I) (ρ:=dy w T g) aW ah h1 hr aR ar aH;obtain ⟨a,cap,rfl,aB,_⟩:=CF.oc;exact .ref rfl ⟨⟨a,_,cap,hv,rfl,Nat.le_refl _⟩,.inl ⟨_,_,aq,Nat.le_refl _⟩⟩ λ_ h=>h
  | @obj cs b e arr bW _ aW ah h1 hr aR ar aH =>
   cases cs with
   | nil=>exact .dead λ_ h=>h
   | cons c cs=>exact .ref rfl ⟨⟨_,_,hv,rfl,rfl⟩,⟨_,aq,0,0,_,.inr rfl,by simp⟩⟩ λ_ h=>h
  | agg=>exact .dead λ_ h=>h
  | bS=>exact .dead λ_ h=>h
  | cF aH h1 af i' hC=>exact .cF (λ_ h=>h) h1 af i' hC
 | succ d aM =>
  intro p x v F aq hv a1;cases a1 with
  | lit ah aH=>exact .lit ah λ_ h=>h
  | aP aH=>exact .aP λ_ h=>h
  | dead aH=>exact .dead λ_ h=>h
  | mx aH=>exact .dead λ_ h=>h
  | hV=>exact .dead λ_ h=>h
  | ref J hr aH=>cases x <;> simp [ab.isRef] at J <;> exact .ref rfl hr λ_ h=>h
  | mp=>exact .ref rfl ⟨⟨_,hv,rfl⟩,⟨_,aq⟩⟩ λ_ h=>h
  | imp aH bf aW a_=>exact .imp (λ_ h=>h) bf aW a_
  | gM aH=>exact .gM λ_ h=>h
  | bc aH lY bf ax ah h1 aa hr=>exact .bc (λ_ h=>h) lY bf ax ah h1 aa hr
  | cx aH bf ax h1 aa hr=>exact .cx (λ_ h=>h) bf ax h1 aa hr
  | own aW ah h1 hr aR ar aH =>
   have CF:=R.own (I:=I) (ρ:=dy w T g) aW ah h1 hr aR ar aH;obtain ⟨a,cap,rfl,aB,_⟩:=CF.oc;exact .ref rfl ⟨⟨a,_,cap,hv,rfl,Nat.le_refl _⟩,.inl ⟨_,_,aq,Nat.le_refl _⟩⟩ λ_ h=>h
  | @obj cs b e arr bW _ aW ah h1 hr aR ar aH =>
   cases cs with
   | nil=>exact .dead λ_ h=>h
   | cons c cs=>exact .ref rfl ⟨⟨_,_,hv,rfl,rfl⟩,⟨_,aq,0,0,_,.inr rfl,by simp⟩⟩ λ_ h=>h
  | @agg cs vs bW _ ah h1 hr aR aH =>
   refine .agg (Fs:=λ_=>ck) (by simpa using ah) h1 ?_ (λ_ _ _ _ _ h=>h.elim) (λc=>⟨λh=>h.elim,λ⟨_,_,h⟩=>h⟩);intro k y u ao hu;rw [List.getElem?_mapIdx] at ao;cases hk:cs[k]? with
   | none=>rw [hk] at ao; cases ao
   | some z =>
    rw [hk] at ao;cases ao;exact aM (by rw [t_,aq]; exact hk) (by rw [yM,hv]; exact hu) (hr k z u hk hu)
  | @bS cs vs bW _ ah hr aR aH =>
   refine .bS (Fs:=λ_=>ck) (by simpa using ah) ?_ (λ_ _ _ _ _ h=>h.elim) (λc=>⟨λh=>h.elim,λ⟨_,_,h⟩=>h⟩);intro k y u ao hu;rw [List.getElem?_mapIdx] at ao;cases hk:cs[k]? with
   | none=>rw [hk] at ao; cases ao
   | some z =>
    rw [hk] at ao;cases ao;exact aM (by rw [t_,aq]; exact hk) (by rw [yM,hv]; exact hu) (hr k z u hk hu)
  | cF aH h1 af i' hC=>exact .cF (λ_ h=>h) h1 af i' hC
theorem Dr {ρ:ab->Value->Prop}(v:Value):R w I ρ (ky v) v ck:=by
 unfold ky;split
 ·exact .aP λ_ h=>h
 ·exact .dead λ_ h=>h
 ·exact .dead λ_ h=>h
 ·rename_i h1 af aF;refine .lit ?_ λ_ h=>h;cases v <;> first | rfl | (exact absurd rfl (af _)) | (exact absurd rfl (aF _))
theorem Zj {ρ:ab->Value->Prop}(v:Value):R w I ρ (ofConst v) v ck:=by
 unfold ofConst;split
 ·rename_i vs;split
  ·rename_i hn;refine .agg (Fs:=λ_=>ck) (by simp) (λk u hu=>?_) ?_ (λ_ _ _ _ _ h=>h.elim) (λc=>⟨λh=>h.elim,λ⟨_,_,h⟩=>h⟩)
   ·exact Array.all_eq_true_iff_forall_mem.1 hn u (Array.mem_of_getElem? hu)
   ·intro k x u J hu;simp only [List.getElem?_map,Array.getElem?_toList,hu,Option.map_some,Option.some.injEq] at J;subst J;exact Dr u
  ·exact .dead λ_ h=>h
 ·exact .dead λ_ h=>h
 ·exact Dr v
theorem ke (h:cB w I T g Fs) {x:Operand}{y:ab}(ao:bw g x=some y) {a:Act}(aJ:a.tmps=T):R w I (dy w T g) y (a.eval x) ck:=by
 cases x with
 | tmp t =>
  simp only [bw] at ao;cases J:g t with
  | none=>rw [J] at ao; cases ao
  | some z =>
   rw [J] at ao;simp only [Option.map_some,Option.some.injEq] at ao;obtain ⟨v,hv,a1⟩:=h.rel t z J;have sk:a.eval (.tmp t)=v:=by simp [Act.eval,aJ,hv]
   rw [sk];have aq:bH g ⟨t,[]⟩=some z:=by simp [bH,J,ab.at]
   have z7:dx w T ⟨t,[]⟩=some v:=by simp [dx,hv,walk]
   subst ao;cases a1 with
   | tree a1 =>
    cases z with
    | bM=>exact a1.lG.elim
    | _=>exact GN 2 aq z7 a1
   | @bM kY n m p new v bv e b6 us news _ a1 =>
    simp only [pn];have:∃ a cap,v=.slice a (n+m) cap:=by
     obtain ⟨_,af⟩:=a1.mU;rcases af with ⟨af,aF⟩ | ⟨b,cap,cur,af,_⟩
     ·exact ⟨none,0,by rw [af]; congr 1; omega⟩
     ·exact ⟨_,cap,af⟩
    obtain ⟨cd,cap,rfl⟩:=this;exact .ref rfl ⟨⟨cd,_,cap,z7,rfl,Nat.le_refl _⟩,.inr ⟨rfl,p,n,m,new,J,rfl⟩⟩ λ_ h=>h
 | const v=>simp only [bw,Option.some.injEq] at ao; subst ao; exact Zj v
 | global n=>simp [bw] at ao
 | func f =>
  simp only [bw,Option.some.injEq] at ao;subst ao;exact .cF (λ_ h=>h) rfl rfl (by simp) (by simp)
end
def jK (P:Program) (t:TypeId):Bool :=
 match P.underlying t,P.info? t with
 | some (.struct _),_=>false
 | some (.array ..),_=>false
 | some _,some i=>i.size == 1
 | _,_=>false
def h5 (P:Program) (t:TypeId) (k:Nat):Bool :=
 match P.underlying t,P.info? t with
 | some (.struct _),some i=>i.size == k
 | some (.array ..),some i=>i.size == k
 | _,_=>false
def fo (P:Program) (t e:TypeId) (z:Nat):Bool :=
 match P.underlying t,P.info? e with
 | some (.slice b4),some i=>b4 == e&&i.size == z
 | _,_=>false
def zl (P:Program) (t e:TypeId) (n z:Nat):Bool :=
 match P.underlying t,P.info? e with
 | some (.array cq b4),some i=>cq == n&&b4 == e&&i.size == z
 | _,_=>false
def sS (P:Program) (t:TypeId):Bool :=
 match P.underlying t with
 | some .string=>true
 | _=>false
def zu (P:Program) (s d:TypeId):Bool :=
 match P.underlying s,P.underlying d with
 | some (.slice e),some .string=>match P.underlying e with
  | some (.int .u8)=>true
  | _=>false
 | _,_=>false
def iu (P:Program) (s:TypeId) (f off:Nat) (t:TypeId):Bool :=
 match P.underlying s with
 | some (.struct fs) =>
  match fs[f]? with
  | some fd=>fd.offset == off&&fd.type == t&&(match P.info? t with | some i=>i.size != 0 | none=>false)
  | none=>false
 | _=>false
section
variable {P:Program}{w:World}
theorem Ip {t:TypeId}(h:jK P t=true):(isAgg t).run P w=.ok false w/\(sizeOf t).run P w=.ok 1 w:=by
 unfold jK at h;cases hu:P.underlying t with
 | none=>simp [hu] at h
 | some d =>
  cases hi:P.info? t with
  | none=>cases d <;> simp [hu,hi] at h
  | some i=>cases d <;> simp [hu,hi] at h <;> simp [isAgg,run_underlying hu,sizeOf,typeInfo,hi,h]
theorem E0 {t:TypeId}{k:Nat}(h:h5 P t k=true):(isAgg t).run P w=.ok true w/\(sizeOf t).run P w=.ok k w:=by
 unfold h5 at h;cases hu:P.underlying t with
 | none=>simp [hu] at h
 | some d =>
  cases hi:P.info? t with
  | none=>cases d <;> simp [hu,hi] at h
  | some i=>cases d <;> simp [hu,hi] at h <;> simp [isAgg,run_underlying hu,sizeOf,typeInfo,hi,h]
theorem rX {t e:TypeId}{z:Nat}(h:fo P t e z=true):P.underlying t=some (.slice e)/\P.elem t=e/\(sizeOf e).run P w=.ok z w:=by
 unfold fo at h;cases hu:P.underlying t with
 | none=>simp [hu] at h
 | some d =>
  cases hi:P.info? e with
  | none=>cases d <;> simp [hu,hi] at h
  | some i =>
   cases d <;> simp [hu,hi] at h;obtain ⟨rfl,h⟩:=h;exact ⟨rfl,by simp [Program.elem,hu],by simp [sizeOf,typeInfo,hi,h]⟩
theorem MQ {t e:TypeId}{n z:Nat}(h:zl P t e n z=true):P.underlying t=some (.array n e)/\(sizeOf e).run P w=.ok z w:=by
 unfold zl at h;cases hu:P.underlying t with
 | none=>simp [hu] at h
 | some d =>
  cases hi:P.info? e with
  | none=>cases d <;> simp [hu,hi] at h
  | some i =>
   cases d <;> simp [hu,hi] at h;obtain ⟨⟨rfl,rfl⟩,h⟩:=h;exact ⟨rfl,by simp [sizeOf,typeInfo,hi,h]⟩
theorem M5 {s d:TypeId}(h:zu P s d=true):∃ e,P.underlying s=some (.slice e)/\P.underlying e=some (.int .u8)/\P.underlying d=some .string:=by
 unfold zu at h
 split at h
 ·rename_i e h1 af
  split at h
  ·rename_i aF;exact ⟨e,h1,aF,af⟩
  ·cases h
 ·cases h
theorem LQ {t:TypeId}(h:sS P t=true):P.underlying t=some .string:=by
 unfold sS at h;cases hu:P.underlying t with
 | none=>simp [hu] at h
 | some d=>cases d <;> simp [hu] at h; rfl
theorem IV {s:TypeId}{f off:Nat}{t:TypeId}(h:iu P s f off t=true):∃ fs fd,P.underlying s=some (.struct fs)/\fs[f]?=some fd/\fd.offset=off/\fd.type=t/\∃ i,P.info? t=some i/\i.size≠0:=by
 unfold iu at h;cases hu:P.underlying s with
 | none=>simp [hu] at h
 | some d =>
  cases d <;> simp [hu] at h;rename_i fs;cases aV:fs[f]? with
  | none=>simp [aV] at h
  | some fd =>
   simp [aV] at h;obtain ⟨⟨h1,af⟩,aF⟩:=h;cases hi:P.info? t with
   | none=>simp [hi] at aF
   | some i=>simp [hi] at aF; exact ⟨fs,fd,rfl,aV,h1,af,i,rfl,aF⟩
theorem add_eq (b o k:Nat):(⟨b,o,none⟩:Addr).add k=⟨b,o+k,none⟩:=by
 unfold Addr.add;split
 ·rename_i h; subst h; rfl
 ·rfl
theorem QS {s:TypeId}{f off:Nat}{t:TypeId}(h:iu P s f off t=true) (b o:Nat):(Instr.fieldAt s (.pointer (some ⟨b,o,none⟩)) f).run P w=.ok (.pointer (some ⟨b,o+off,none⟩)) w:=by
 obtain ⟨fs,fd,hu,aV,rfl,rfl,i,hi,aK⟩:=IV h;simp [Instr.fieldAt,run_underlying hu,aV,Instr.sureAddr,fieldPlace,sizeOf,typeInfo,hi,aK,add_eq]
theorem QU {t:TypeId}(h:jK P t=true) {a:Addr}{v:Value}(aa:w.cell? a=some v):(Instr.loadAt t (.pointer (some a))).run P w=.ok v w:=by
 obtain ⟨h1,af⟩:=Ip (w:=w) h;simp [Instr.loadAt,Instr.sureAddr,loadVar,h1,aa]
theorem QT {t:TypeId}{k:Nat}(h:h5 P t k=true) {b o:Nat}{vs:List Value}(ah:vs.length=k) (aa:∀ j v,vs[j]?=some v->w.cell? ⟨b,o+j,none⟩=some v) :
  (Instr.loadAt t (.pointer (some ⟨b,o,none⟩))).run P w=.ok (.agg vs.toArray) w:=by
 obtain ⟨h1,af⟩:=E0 (w:=w) h;have:=run_loadCells_list (P:=P) w ⟨b,o,none⟩ vs (λj v ag=>by rw [add_eq]; exact aa j v ag);rw [ah] at this;simp [Instr.loadAt,Instr.sureAddr,loadVar,h1,af,this]
end
section
variable {w:World}{I:a'}{ρ:ab->Value->Prop}{v:Value}{F:a'}
theorem R.hE {a:Value}(h:R w I ρ (.lit a) v F):v=a/\a.oneCell'=true:=by
 cases h with
 | lit hv=>exact ⟨rfl,hv⟩
 | ref J=>simp [ab.isRef] at J
theorem R.rD (h:R w I ρ .aP v F):v=.slice none 0 0:=by
 cases h with
 | aP=>rfl
 | ref J=>simp [ab.isRef] at J
theorem R.n5 {p:Place}{k:Nat}(h:R w I ρ (.ptr p k) v F):ρ (.ptr p k) v:=by
 cases h with
 | ref J h=>exact h
theorem R.n4 {z:Nat}{p:Place}{n:Nat}(h:R w I ρ (.a7 z p n) v F):ρ (.a7 z p n) v:=by
 cases h with
 | ref J h=>exact h
theorem R.z' {z:Nat}{p:Place}{lo n:Nat}(h:R w I ρ (.sub z p lo n) v F):ρ (.sub z p lo n) v:=by
 cases h with
 | ref J h=>exact h
theorem R.z_ {z n:Nat}{cs:List ab}(h:R w I ρ (.bc z n cs) v F):∃ a cap,v=.slice a n cap/\n<=cap/\cs.length=n * z /\
  (cs≠[]\/0<n->∃ (ad:Addr) (us:Nat->Value),a=some ad/\I ad.block/\ad.spot=none/\(∀ (k:Nat) (x:ab),cs[k]?=some x->(us k).oneCell'=true)/\(∀ (k:Nat) (x:ab),cs[k]?=some x->w.cell? ⟨ad.block,ad.off+k,none⟩=some (us k))/\∀ (k:Nat) (x:ab),cs[k]?=some x->R w I ρ x (us k) ck):=by
 cases h with
 | @gM _ cap a=>exact ⟨a,cap,rfl,Nat.zero_le _,by simp,λh=>by simp at h⟩
 | @bc _ _ cap _ ad us _ aH lY bf ax ah h1 aa hr=>exact ⟨_,cap,rfl,lY,ah,λ_=>⟨ad,us,rfl,bf,ax,h1,aa,hr⟩⟩
 | ref J=>simp [ab.isRef] at J
theorem R.xR {cs:List ab}(h:R w I ρ (.cx cs) v F):∃ (ad:Addr) (us:Nat->Value),v=.pointer (some ad)/\I ad.block/\ad.spot=none/\(∀ (k:Nat) (x:ab),cs[k]?=some x->(us k).oneCell'=true)/\(∀ (k:Nat) (x:ab),cs[k]?=some x->w.cell? ⟨ad.block,ad.off+k,none⟩=some (us k))/\∀ (k:Nat) (x:ab),cs[k]?=some x->R w I ρ x (us k) ck:=by
 cases h with
 | @cx _ ad us _ aH bf ax h1 aa hr=>exact ⟨ad,us,rfl,bf,ax,h1,aa,hr⟩
 | ref J=>simp [ab.isRef] at J
theorem R.C7 {cs:List ab}(h:R w I ρ (.agg cs) v F) (aH:∀ c,¬ F c):∃ vs:Array Value,v=.agg vs/\cs.length=vs.size/\(∀ (k:Nat) (u:Value),vs[k]?=some u->u.oneCell'=true)/\∀ (k:Nat) (x:ab) (u:Value),cs[k]?=some x->vs[k]?=some u->R w I ρ x u ck:=by
 cases h with
 | @agg _ vs Fs _ ah h1 hr aR oC=>exact ⟨vs,rfl,ah,h1,λk x u J hu=>(hr k x u J hu).empty λc aa=>aH c ((oC c).2 ⟨k,(List.getElem?_eq_some_iff.1 J).1,aa⟩)⟩
 | ref J=>simp [ab.isRef] at J
theorem R.YV {cs:List ab}(h:R w I ρ (.bS cs) v F) (aH:∀ c,¬ F c):∃ vs:Array Value,v=.tuple vs/\cs.length=vs.size/\∀ (k:Nat) (x:ab) (u:Value),cs[k]?=some x->vs[k]?=some u->R w I ρ x u ck:=by
 cases h with
 | @bS _ vs Fs _ ah hr aR oC=>exact ⟨vs,rfl,ah,λk x u J hu=>(hr k x u J hu).empty λc aa=>aH c ((oC c).2 ⟨k,(List.getElem?_eq_some_iff.1 J).1,aa⟩)⟩
 | ref J=>simp [ab.isRef] at J
theorem R.node {y:ab}{z n:Nat}{cs:List ab}(h:R w I ρ y v F) (ao:y=.own z n cs\/y=.obj cs) {k:Nat}{x:ab}(hk:cs[k]?=some x) :
  ∃ b u,addrOf v=some ⟨b,0,none⟩/\w.cell? ⟨b,k,none⟩=some u/\child w v k=some u/\u.oneCell'=true/\∃ bG,R w I ρ x u bG:=by
 rcases ao with rfl | rfl
 ·cases h with
  | @own _ _ _ _ e us Fs _ aW ah h1 hr aR ar aH =>
   have aN:k<cs.length:=(List.getElem?_eq_some_iff.1 hk).1;have hu:us[k]?=some us[k]:=List.getElem?_eq_getElem (ah ▸ aN);have n2:=ph aW hu;obtain ⟨nC,af⟩:=aW;rcases af with ⟨rfl,rfl⟩ | ⟨b,cap,cur,rfl,aQ,bQ,rest⟩
   ·grind
   ·exact ⟨b,_,rfl,by simpa [child] using n2,n2,h1 k _ hu,Fs k,hr k x _ hk hu⟩
  | ref J=>simp [ab.isRef] at J
 ·cases h with
  | @obj _ b e arr Fs _ aW ah h1 hr aR ar aH =>
   have aN:k<cs.length:=(List.getElem?_eq_some_iff.1 hk).1;have hu:arr[k]?=some arr[k]:=Array.getElem?_eq_getElem (ah ▸ aN);exact ⟨b,_,rfl,by simp [World.cell?,aW,hu],by simp [child,World.cell?,aW,hu],h1 k _ hu,Fs k,hr k x _ hk hu⟩
  | ref J=>simp [ab.isRef] at J
end
def p_ (g:aL) (d:Nat):Option Operand->Nat->Prop
 | none,j=>j=d
 | some o,j=>∃ k,bw g o=some (.lit (.int k (j:Int)))
inductive dh (P:Program) (g:aL):Op->TypeId->ab->Prop
 | move {x:Operand}{ty:TypeId}{y:ab}(J:bw g x=some y):dh P g (.move x) ty y
 | assign {x:Operand}{ty:TypeId}{y:ab}(J:bw g x=some y):dh P g (.assign x) ty y
 | pick {c a b:Operand}{ty:TypeId}{t:Bool}{r:ab}(aa:bw g c=some (.lit (.bool t))) (hr:bw g (if t then a else b)=some r):dh P g (.pick c a b) ty r
 | Gl {x:Operand}{ty:TypeId}{p:Place}{k:Nat}(J:bw g x=some (.ptr p k)):dh P g (.nilCheck x) ty (.ptr p k)
 | qK {x:Operand}{ty:TypeId}{cs:List ab}(J:bw g x=some (.cx cs)):dh P g (.nilCheck x) ty (.cx cs)
 | BY {x:Operand}{ty s t:TypeId}{f off:Nat}{p:Place}{k:Nat}(J:bw g x=some (.ptr p k)) (aV:iu P s f off t=true) (c7:gE g (.ptr p (k+off))):dh P g (.fieldAddr s x f) ty (.ptr p (k+off))
 | Fk {x:Operand}{ty s t:TypeId}{f off:Nat}{cs:List ab}(J:bw g x=some (.cx cs)) (aV:iu P s f off t=true):dh P g (.fieldAddr s x f) ty (.cx (cs.drop off))
 | Fj {x:Operand}{ty s t:TypeId}{f off:Nat}{cs:List ab}{y:ab}(J:bw g x=some (.agg cs)) (aV:iu P s f off t=true) (au:jK P t=true) (ao:cs[off]?=some y):dh P g (.field s x f) ty y
 | IT {x:Operand}{ty s t:TypeId}{f off k:Nat}{cs:List ab}(J:bw g x=some (.agg cs)) (aV:iu P s f off t=true) (au:h5 P t k=true) (hk:off+k<=cs.length):dh P g (.field s x f) ty (.agg ((cs.drop off).take k))
 | FX {x i:Operand}{ty t e:TypeId}{z n:Nat}{cs:List ab}{n_:IntKind}{j:Nat}(J:bw g x=some (.bc z n cs)) (hi:bw g i=some (.lit (.int n_ (j:Int)))) (au:fo P t e z=true) (ag:j<n):dh P g (.indexAddr t x i) ty (.cx (cs.drop (j * z)))
 | FW {x i:Operand}{ty t e:TypeId}{z n:Nat}{p:Place}{n_:IntKind}{j:Nat}(J:bw g x=some (.a7 z p n)) (hi:bw g i=some (.lit (.int n_ (j:Int)))) (au:fo P t e z=true) (ag:j<n) (c7:gE g (.ptr p (j * z))):dh P g (.indexAddr t x i) ty (.ptr p (j * z))
 | Kx {x i:Operand}{ty t e:TypeId}{z lo n:Nat}{p:Place}{n_:IntKind}{j:Nat}(J:bw g x=some (.sub z p lo n)) (hi:bw g i=some (.lit (.int n_ (j:Int)))) (au:fo P t e z=true) (ag:j<n) (c7:gE g (.ptr p ((lo+j) * z))):dh P g (.indexAddr t x i) ty (.ptr p ((lo+j) * z))
 | FV {x i:Operand}{ty t e:TypeId}{n z k:Nat}{p:Place}{n_:IntKind}{j:Nat}(J:bw g x=some (.ptr p k)) (hi:bw g i=some (.lit (.int n_ (j:Int)))) (au:zl P t e n z=true) (ag:j<n) (c7:gE g (.ptr p (k+j * z))):dh P g (.indexAddr t x i) ty (.ptr p (k+j * z))
 | Kw {x i:Operand}{ty t e:TypeId}{n z:Nat}{cs:List ab}{n_:IntKind}{j:Nat}(J:bw g x=some (.cx cs)) (hi:bw g i=some (.lit (.int n_ (j:Int)))) (au:zl P t e n z=true) (ag:j<n):dh P g (.indexAddr t x i) ty (.cx (cs.drop (j * z)))
 | Ga {x:Operand}{ty t:TypeId}{c:ab}{cs:List ab}(J:bw g x=some (.cx (c::cs))) (au:jK P t=true):dh P g (.load t x) ty c
 | Gb {x:Operand}{ty t:TypeId}{k:Nat}{cs:List ab}(J:bw g x=some (.cx cs)) (au:h5 P t k=true) (hk:k<=cs.length):dh P g (.load t x) ty (.agg (cs.take k))
 | Dg {x:Operand}{ty t:TypeId}{p:Place}{k:Nat}{y:ab}(J:bw g x=some (.ptr p k)) (au:jK P t=true) (ao:bH g (p.push k)=some y):dh P g (.load t x) ty (fY 0 (p.push k) y)
 | Ae {x:Operand}{ty t:TypeId}{p:Place}{k m z n:Nat}{y:ab}{cs:List ab}(J:bw g x=some (.ptr p k)) (au:h5 P t m=true) (ao:bH g p=some y) (aa:y=.own z n cs\/y=.obj cs) (hm:k+m<=cs.length):dh P g (.load t x) ty (.agg (((cs.drop k).take m).mapIdx λi x=>fY 0 (p.push (k+i)) x))
 | FY {x i:Operand}{ty t:TypeId}{s:ByteArray}{n_:IntKind}{j:Nat}{b:UInt8}(J:bw g x=some (.lit (.string s))) (hi:bw g i=some (.lit (.int n_ (j:Int)))) (au:sS P t=true) (ar:s[j]?=some b):dh P g (.index t x i) ty (.lit (.int .u8 b.toNat))
 | bin {op:BinOp}{x y:Operand}{ty t t2:TypeId}{a b v:Value}(J:bw g x=some (.lit a)) (ao:bw g y=some (.lit b)) (hv:v.oneCell'=true) (hr:∀ w,(do eqGuard op t x y a b; binOp op t a b:Sem Value).run P w=.ok v w):dh P g (.binOp op t x y t2) ty (.lit v)
 | BA {op:BinOp}{x y:Operand}{ty t t2:TypeId}{az de:List Value}{v:Value}(J:bw g x=some (.agg (az.map .lit))) (ao:bw g y=some (.agg (de.map .lit))) (hv:v.oneCell'=true) (hr:∀ w,(do eqGuard op t x y (.agg az.toArray) (.agg de.toArray); binOp op t (.agg az.toArray) (.agg de.toArray):Sem Value).run P w=.ok v w):dh P g (.binOp op t x y t2) ty (.lit v)
 | un {op:UnOp}{x:Operand}{ty t:TypeId}{a v:Value}(J:bw g x=some (.lit a)) (hv:v.oneCell'=true) (hr:∀ w,(Op.unary op a).run P w=.ok v w):dh P g (.unOp op t x) ty (.lit v)
 | conv {x:Operand}{ty s d:TypeId}{a v:Value}(J:bw g x=some (.lit a)) (hv:v.oneCell'=true) (hr:∀ w,(convert s d a).run P w=.ok v w):dh P g (.convert s d x) ty (.lit v)
 | It {x:Operand}{ty s d:TypeId}{n N:Nat}{p:Place}{cs:List ab}{xs:List Int}(J:bw g x=some (.a7 1 p n)) (aq:bH g p=some (.own 1 N cs)) (aB:n<=N) (eV:cs.take n=xs.map λb=>.lit (.int .u8 b)) (au:zu P s d=true):dh P g (.convert s d x) ty (.lit (.string (strOfNums xs)))
 | Fe {x:Operand}{ty s d:TypeId}{n:Nat}{xs:List Int}(J:bw g x=some (.bc 1 n (xs.map λb=>.lit (.int .u8 b)))) (au:zu P s d=true):dh P g (.convert s d x) ty (.lit (.string (strOfNums xs)))
 | IP {xs:Array Operand}{fP:Array TypeId}{ty:TypeId}{f:FuncId}{vs:List Value}{v:Value}(J:xs.toList.map (bw g)=vs.map λv=>some (.lit v)) (hv:v.oneCell'=true)
   (hr:∀ w,(callFunc f vs.toArray).run P w=.ok (.value v) w):dh P g (.call { callee:=.value (.func f),args:=xs,argTypes:=fP }) ty (.lit v)
 | Fh {x:Operand}{ty:TypeId}{i:Nat}{cs:List ab}{y:ab}(J:bw g x=some (.bS cs)) (ao:cs[i]?=some y):dh P g (.extract x i) ty y
 | Ei {x:Operand}{lo hi:Option Operand}{ty t e:TypeId}{z n l h:Nat}{cs:List ab}(J:bw g x=some (.bc z n cs)) (ah:p_ g 0 lo l) (bQ:p_ g n hi h) (au:fo P t e z=true) (ti:l<=h) (aB:h<=n):dh P g (.slice t x lo hi none) ty (.bc z (h - l) ((cs.drop (l * z)).take ((h - l) * z)))
 | G_ {x:Operand}{lo hi:Option Operand}{ty t e:TypeId}{z n h:Nat}{p:Place}(J:bw g x=some (.a7 z p n)) (ah:p_ g 0 lo 0) (bQ:p_ g n hi h) (au:fo P t e z=true) (aB:h<=n) (c7:gE g (.a7 z p h)):dh P g (.slice t x lo hi none) ty (.a7 z p h)
 | G9 {x:Operand}{lo hi:Option Operand}{ty t e:TypeId}{z n l h:Nat}{p:Place}(J:bw g x=some (.a7 z p n)) (ah:p_ g 0 lo l) (bQ:p_ g n hi h) (au:fo P t e z=true) (ti:l<=h) (aB:h<=n) (c7:gE g (.sub z p l (h - l))):dh P g (.slice t x lo hi none) ty (.sub z p l (h - l))
 | G' {x:Operand}{lo hi:Option Operand}{ty t:TypeId}{l h:Nat}{s:ByteArray}(J:bw g x=some (.lit (.string s))) (ah:p_ g 0 lo l) (bQ:p_ g s.size hi h) (au:sS P t=true) (ti:l<=h) (aB:h<=s.size):dh P g (.slice t x lo hi none) ty (.lit (.string (s.extract l h)))
 | F9 {x:Operand}{ty t e:TypeId}{z bR n:Nat}{cs:List ab}(J:bw g x=some (.bc z n cs)) (au:fo P t e bR=true):dh P g (.call { callee:=.builtin .len,args:=#[x],argTypes:=#[t] }) ty (.lit (.int .i64 n))
 | F8 {x:Operand}{ty t e:TypeId}{z bR n:Nat}{p:Place}(J:bw g x=some (.a7 z p n)) (au:fo P t e bR=true):dh P g (.call { callee:=.builtin .len,args:=#[x],argTypes:=#[t] }) ty (.lit (.int .i64 n))
 | KT {x:Operand}{ty t e:TypeId}{z bR lo n:Nat}{p:Place}(J:bw g x=some (.sub z p lo n)) (au:fo P t e bR=true):dh P g (.call { callee:=.builtin .len,args:=#[x],argTypes:=#[t] }) ty (.lit (.int .i64 n))
 | KS {x:Operand}{ty t e:TypeId}{bR:Nat}(J:bw g x=some .aP) (au:fo P t e bR=true):dh P g (.call { callee:=.builtin .len,args:=#[x],argTypes:=#[t] }) ty (.lit (.int .i64 0))
 | lits {b:Builtin}{xs:Array Operand}{fP:Array TypeId}{ty:TypeId}{vs:List Value}{v:Value}(J:xs.toList.map (bw g)=vs.map λv=>some (.lit v)) (hv:v.oneCell'=true)
   (hr:∀ w (cs:Array Bool),(builtin b fP ty cs vs.toArray).run P w=.ok (.value v) w):dh P g (.call { callee:=.builtin b,args:=xs,argTypes:=fP }) ty (.lit v)
 | F' {x y:Operand}{ty t:TypeId}{p:Place}{q:Array MapEntry->Nat->Prop}{ok:Bool}{Y X:ab}{oN V:Value}(J:bw g x=some (.gl p)) (aq:bH g p=some (.mp q)) (ao:bw g y=some Y)
   (c6:∀ (w:World) (I:a') (ρ:ab->Value->Prop) (v:Value),R w I ρ Y v ck->v=oN) (a1:∀ (w:World) (I:a') (ρ:ab->Value->Prop),R w I ρ X V ck)
   (hr:∀ (w:World) (b:Nat) (es:Array MapEntry) (clock:Nat),w.heap[b]?=some (.map es clock)->q es clock->(Instr.lookup t (.map (some b)) oN ok).run P w=.ok V w):dh P g (.lookup t x y ok) ty X
 | KV {x y:Operand}{ty t:TypeId}{q:Array MapEntry->Nat->Prop}{ok:Bool}{Y X:ab}{oN V:Value}(J:bw g x=some (.imp q)) (ao:bw g y=some Y)
   (c6:∀ (w:World) (I:a') (ρ:ab->Value->Prop) (v:Value),R w I ρ Y v ck->v=oN) (a1:∀ (w:World) (I:a') (ρ:ab->Value->Prop),R w I ρ X V ck)
   (hr:∀ (w:World) (b:Nat) (es:Array MapEntry) (clock:Nat),w.heap[b]?=some (.map es clock)->q es clock->(Instr.lookup t (.map (some b)) oN ok).run P w=.ok V w):dh P g (.lookup t x y ok) ty X
theorem R.Ps {w:World}{I:a'}{ρ:ab->Value->Prop}{p:Place}{v:Value}{F:a'}(h:R w I ρ (.gl p) v F):ρ (.gl p) v:=by
 cases h with
 | ref _ h _=>exact h
theorem R.KB {w:World}{I:a'}{ρ:ab->Value->Prop}{q:Array MapEntry->Nat->Prop}{v:Value}{F:a'}(h:R w I ρ (.mp q) v F):∃ b es clock,v=.map (some b)/\w.heap[b]?=some (.map es clock)/\q es clock/\∀ c,F c↔c=b:=by
 cases h with
 | ref J=>simp [ab.isRef] at J
 | mp aW a_ aH=>exact ⟨_,_,_,rfl,aW,a_,aH⟩
theorem R.YU {w:World}{I:a'}{ρ:ab->Value->Prop}{q:Array MapEntry->Nat->Prop}{v:Value}{F:a'}(h:R w I ρ (.imp q) v F):∃ b es clock,v=.map (some b)/\w.heap[b]?=some (.map es clock)/\q es clock:=by
 cases h with
 | ref J=>simp [ab.isRef] at J
 | imp _ _ aW a_=>exact ⟨_,_,_,rfl,aW,a_⟩
section
variable {P:Program}{w:World}{I:a'}{T:Array Value}{g:aL}{Fs:Nat->a'}
theorem p_.sound (h:cB w I T g Fs) {d:Nat}{x:Option Operand}{j:Nat}(ar:p_ g d x j) {a:Act}(aJ:a.tmps=T):(x.map a.eval=none/\j=d)\/∃ k,x.map a.eval=some (.int k (j:Int)):=by
 cases x with
 | none=>exact .inl ⟨rfl,ar⟩
 | some o =>
  obtain ⟨k,hk⟩:=ar;exact .inr ⟨k,by rw [Option.map_some,(ke h hk aJ).hE.1]⟩
theorem GW {len cap l h:Nat}{lo hi:Option Value}(ah:(lo=none/\l=0)\/∃ k,lo=some (.int k (l:Int))) (bQ:(hi=none/\h=len)\/∃ k,hi=some (.int k (h:Int))) (b:Bool) (ti:l<=h) (aa:h<=cap) :
  (Instr.sliceBounds b len cap lo hi none).run P w=.ok (l,h,cap) w:=by
 rcases ah with ⟨rfl,rfl⟩ | ⟨k,rfl⟩ <;> rcases bQ with ⟨rfl,rfl⟩ | ⟨kd,rfl⟩ <;> simp [Instr.sliceBounds,Instr.sliceBound,asIntOf,ti,aa]
theorem PJ (h:cB w I T g Fs) {a:Act}(aJ:a.tmps=T):∀ (xs:List Operand) (vs:List Value),xs.map (bw g)=vs.map (λv=>some (.lit v))->xs.map a.eval=vs
 | [],[],_=>rfl
 | [],_::_,h=>by simp at h
 | _::_,[],h=>by simp at h
 | x::xs,v::vs,J=>by
  simp only [List.map_cons,List.cons.injEq] at J;rw [List.map_cons,(ke h J.1 aJ).hE.1,PJ h aJ xs vs J.2]
theorem MH {w:World}{I:a'}{ρ:ab->Value->Prop}{v:Value}{az:List Value}
  (h:∃ vs:Array Value,v=.agg vs/\(az.map ab.lit).length=vs.size/\(∀ (k:Nat) (u:Value),vs[k]?=some u->u.oneCell'=true)/\∀ (k:Nat) (x:ab) (u:Value),(az.map ab.lit)[k]?=some x->vs[k]?=some u->R w I ρ x u ck):v=.agg az.toArray:=by
 obtain ⟨vs,rfl,ah,-,hr⟩:=h;congr 1;apply Array.ext (by simpa using ah.symm);intro i h1 af;have aF:i<az.length:=by simpa using af
 have:=(hr i (.lit az[i]) vs[i] (by simp [aF]) (Array.getElem?_eq_getElem h1)).hE.1
 grind
theorem dh.sound (h:cB w I T g Fs) {a:Act}(aJ:a.tmps=T) {o:Oper}{kW:ab}(aq:dh P g o.op o.type kW) :
  ∃ v,(execOp a.eval o).run P w=.ok (.value v) w/\R w I (dy w T g) kW v ck:=by
 obtain ⟨dst,op,ty,pos,after,guard⟩:=o;simp only at aq;have fL:∀ {x:Operand}{y:ab},bw g x=some y->R w I (dy w T g) y (a.eval x) ck:=λao=>ke h ao aJ;have no:∀ c,¬ ck c:=λ_ h=>h;cases aq with
 | move J=>exact ⟨_,by simp [execOp],fL J⟩
 | assign J=>exact ⟨_,by simp [execOp],fL J⟩
 | @pick c x y _ t r aa hr =>
  have vC:=(fL aa).hE.1;refine ⟨_,?_,fL hr⟩;simp [execOp,vC,asBool]
  grind
 | @Gl x _ p k J =>
  have hr:=fL J;obtain ⟨⟨u,ad,h1,af,aF⟩,bh⟩:=hr.n5
  simp_all [execOp]
 | @qK x _ cs J =>
  have hr:=fL J;obtain ⟨ad,us,aF,_⟩:=hr.xR
  simp_all [execOp]
 | @BY x _ s t f off p k J aV c7 =>
  obtain ⟨⟨u,ad,h1,af,aF⟩,bh⟩:=(fL J).n5;refine ⟨.pointer (some ⟨ad.block,ad.off+k+off,none⟩),by simp [execOp,aF,QS aV],.ref rfl ⟨⟨u,ad,h1,af,by rw [Nat.add_assoc]⟩,c7⟩ no⟩
 | @Fk x _ s t f off cs J aV =>
  obtain ⟨ad,us,aF,bf,ax,ho,aa,hr⟩:=(fL J).xR;obtain ⟨b,o,sp⟩:=ad;simp only at ax;subst ax;refine ⟨.pointer (some ⟨b,o+off,none⟩),by simp [execOp,aF,QS aV],.cx (us:=λk=>us (off+k)) no bf rfl (λk x hk=>ho _ x (by rwa [List.getElem?_drop] at hk)) (λk x hk=>?_) λk x hk=>?_⟩
  ·grind
  grind
 | @Fj x _ s t f off cs y J aV au ao =>
  obtain ⟨vs,aF,ah,ho,hr⟩:=(fL J).C7 no;obtain ⟨fs,fd,hu,JE,rfl,rfl,i,hi,aK⟩:=IV aV;have hk:fd.offset<cs.length:=(List.getElem?_eq_some_iff.1 ao).1;have hv:vs[fd.offset]?=some vs[fd.offset]:=Array.getElem?_eq_getElem (ah ▸ hk);refine ⟨_,?_,hr _ kW _ ao hv⟩;simp [execOp,aF,Instr.field,run_underlying hu,JE,asAgg,part,(Ip (w:=w) au).1,hv]
 | @IT x _ s t f off k cs J aV au hk =>
  obtain ⟨vs,aF,ah,ho,hr⟩:=(fL J).C7 no;obtain ⟨fs,fd,hu,JE,rfl,rfl,i,hi,aK⟩:=IV aV;refine ⟨.agg (vs.extract fd.offset (fd.offset+k)),?_,.agg (Fs:=λ_=>ck) (by simp [ah]; omega) (λj u hX=>by
   rw [Array.getElem?_extract] at hX
   grind) (λj y u ao hX=>?_) (λ_ _ _ _ _ h=>h.elim) (λc=>⟨λh=>h.elim,λ⟨_,_,h⟩=>h⟩)⟩
  ·simp [execOp,aF,Instr.field,run_underlying hu,JE,asAgg,part,(E0 (w:=w) au).1,(E0 (w:=w) au).2]
  grind
 | @FX x i _ t e z n cs n_ j J hi au ag =>
  obtain ⟨hu,he,aX⟩:=rX (w:=w) au;obtain ⟨mL,cap,aF,_,ah,hm⟩:=(fL J).z_;obtain ⟨ad,us,rfl,bf,ax,ho,aa,hr⟩:=hm (.inr (by omega));obtain ⟨b,o,sp⟩:=ad;simp only at ax;subst ax;have th:=(fL hi).hE.1;refine ⟨.pointer (some ⟨b,o+j * z,none⟩),?_,.cx (us:=λk=>us (j * z+k)) no bf rfl (λk x hk=>ho _ x (by rwa [List.getElem?_drop] at hk)) (λk x hk=>?_) λk x hk=>?_⟩
  ·simp [execOp,aF,th,Instr.indexAt,run_underlying hu,asIntOf,ag,aX,add_eq]
  ·grind
  grind
 | @FW x i _ t e z n p n_ j J hi au ag c7 =>
  obtain ⟨hu,he,aX⟩:=rX (w:=w) au;obtain ⟨⟨mL,N,cap,h1,af,aF⟩,bh⟩:=(fL J).n4;have th:=(fL hi).hE.1;obtain ⟨y,ao,kY,eZ,cs,ed,aN⟩:=c7;obtain ⟨v,cr,hv,ds,_⟩:=h.part ao (by rcases ed with rfl | rfl <;> simp);rw [h1] at hv;cases hv;obtain ⟨b,u,fy,mQ,_,_⟩:=ds.node ed (List.getElem?_eq_getElem aN);cases mL with
  | none=>simp [addrOf] at fy
  | some ad =>
   simp only [addrOf,Option.some.injEq] at fy;subst fy;refine ⟨.pointer (some ⟨b,j * z,none⟩),?_,.ref rfl ⟨⟨_,_,h1,rfl,by simp⟩,y,ao,kY,eZ,cs,ed,aN⟩ no⟩;simp [execOp,af,th,Instr.indexAt,run_underlying hu,asIntOf,ag,aX,add_eq]
 | @Kx x i _ t e z lo n p n_ j J hi au ag c7 =>
  obtain ⟨hu,he,aX⟩:=rX (w:=w) au;obtain ⟨⟨mL,N,cap,cd,nv,h1,af,_,aF,b7⟩,bh⟩:=(fL J).z';obtain ⟨ad,rfl,rfl⟩:=b7 (by omega);have th:=(fL hi).hE.1;obtain ⟨y,ao,kY,eZ,cs,ed,aN⟩:=c7;obtain ⟨v,cr,hv,ds,_⟩:=h.part ao (by rcases ed with rfl | rfl <;> simp);rw [h1] at hv;cases hv;obtain ⟨b,u,fy,mQ,_,_⟩:=ds.node ed (List.getElem?_eq_getElem aN);simp only [addrOf,Option.some.injEq] at fy;subst fy;refine ⟨.pointer (some ⟨b,(lo+j) * z,none⟩),?_,.ref rfl ⟨⟨_,_,h1,rfl,by simp⟩,y,ao,kY,eZ,cs,ed,aN⟩ no⟩;simp [execOp,af,th,Instr.indexAt,run_underlying hu,asIntOf,ag,aX,add_eq,Nat.add_mul]
 | @FV x i _ t e n z k p n_ j J hi au ag c7 =>
  obtain ⟨hu,aX⟩:=MQ (w:=w) au;obtain ⟨⟨u,ad,h1,af,aF⟩,bh⟩:=(fL J).n5;have th:=(fL hi).hE.1;refine ⟨.pointer (some ⟨ad.block,ad.off+k+j * z,none⟩),?_,.ref rfl ⟨⟨u,ad,h1,af,by rw [Nat.add_assoc]⟩,c7⟩ no⟩;simp [execOp,aF,th,Instr.indexAt,run_underlying hu,Instr.sureAddr,asIntOf,ag,aX,add_eq]
 | @Kw x i _ t e n z cs n_ j J hi au ag =>
  obtain ⟨hu,aX⟩:=MQ (w:=w) au;obtain ⟨ad,us,aF,bf,ax,ho,aa,hr⟩:=(fL J).xR;obtain ⟨b,o,sp⟩:=ad;simp only at ax;subst ax;have th:=(fL hi).hE.1;refine ⟨.pointer (some ⟨b,o+j * z,none⟩),?_,.cx (us:=λk=>us (j * z+k)) no bf rfl (λk x hk=>ho _ x (by rwa [List.getElem?_drop] at hk)) (λk x hk=>?_) λk x hk=>?_⟩
  ·simp [execOp,aF,th,Instr.indexAt,run_underlying hu,Instr.sureAddr,asIntOf,ag,aX,add_eq]
  ·grind
  grind
 | @Ga x _ t c cs J au =>
  obtain ⟨ad,us,aF,bf,ax,ho,aa,hr⟩:=(fL J).xR;obtain ⟨b,o,sp⟩:=ad;simp only at ax;subst ax;have aK:w.cell? ⟨b,o,none⟩=some (us 0):=by simpa using aa 0 kW rfl
  simp_all [execOp,QU]
 | @Gb x _ t k cs J au hk =>
  obtain ⟨ad,us,aF,bf,ax,ho,aa,hr⟩:=(fL J).xR;obtain ⟨b,o,sp⟩:=ad;simp only at ax;subst ax;have XF:∀ j v,((List.range k).map us)[j]?=some v->w.cell? ⟨b,o+j,none⟩=some v:=by
   grind
  refine ⟨.agg ((List.range k).map us).toArray,by simp [execOp,aF,QT au (by simp) XF],.agg (Fs:=λ_=>ck) (by simp; omega) (λj u hX=>by
   grind) (λj y u ao hX=>?_) (λ_ _ _ _ _ h=>h.elim) (λc=>⟨λh=>h.elim,λ⟨_,_,h⟩=>h⟩)⟩
  grind
 | @Dg x _ t p k y J au ao =>
  obtain ⟨⟨u,ad,h1,af,aF⟩,bh⟩:=(fL J).n5;rw [t_] at ao;cases aB:bH g p with
  | none=>rw [aB] at ao; cases ao
  | some nd =>
   rw [aB] at ao;simp only [Option.bind_some] at ao;obtain ⟨y',pa,kY,eZ,cs,ed,aN⟩:=bh;rw [aB] at pa;cases pa;obtain ⟨v,cr,hv,ds,c_⟩:=h.part aB (by rcases ed with rfl | rfl <;> simp);rw [h1] at hv;cases hv;have ig:cs[k]?=some y:=by rcases ed with rfl | rfl <;> simpa [ab.kids] using ao
   obtain ⟨b,gv,fy,mQ,n2,ho,bG,kp⟩:=ds.node ed ig;rw [fy] at af;cases af;refine ⟨gv,by simp only [execOp,aF]; simp [QU au mQ],GN 0 (by rw [t_,aB]; exact ao) (by rw [yM,h1]; exact n2) kp⟩
 | @Ae x _ t p k m z n y cs J au ao ed hm =>
  obtain ⟨⟨u,ad,h1,af,aF⟩,bh⟩:=(fL J).n5;obtain ⟨v,cr,hv,ds,c_⟩:=h.part ao (by rcases ed with rfl | rfl <;> simp);rw [h1] at hv;cases hv;have vB:∃ b,ad=⟨b,0,none⟩:=by
   obtain ⟨y',pa,kY,eZ,cs',Ph,aN⟩:=bh;rw [ao] at pa;cases pa;have:cs'=cs:=by rcases ed with rfl | rfl <;> rcases Ph with bQ | bQ <;> cases bQ <;> rfl
   subst this;obtain ⟨b,gv,fy,_⟩:=ds.node Ph (List.getElem?_eq_getElem aN)
   grind
  obtain ⟨b,rfl⟩:=vB;have JR:y.kids=cs:=by rcases ed with rfl | rfl <;> rfl
  have cell:∀ j,j<m->∃ gv,w.cell? ⟨b,k+j,none⟩=some gv/\gv.oneCell'=true/\∃ lu,cs[k+j]?=some lu/\R w I (dy w T g) (fY 0 (p.push (k+j)) lu) gv ck:=by
   intro j ag;have e':cs[k+j]?=some cs[k+j]:=List.getElem?_eq_getElem (by omega);obtain ⟨dU,gv,fy,mQ,n2,ho,bG,kp⟩:=ds.node ed e';rw [af] at fy;cases fy;exact ⟨gv,mQ,ho,_,e',GN 0 (by rw [t_,ao]; simp [JR]) (by rw [yM,h1]; exact n2) kp⟩
  have hex:∃ us:List Value,us.length=m/\∀ j v,us[j]?=some v->w.cell? ⟨b,k+j,none⟩=some v:=by
   refine ⟨(List.range m).map λj=>(w.cell? ⟨b,k+j,none⟩).getD undef,by simp,?_⟩
   grind
  obtain ⟨us,oJ,X'⟩:=hex;refine ⟨.agg us.toArray,by simp only [execOp,aF]; simp [QT au oJ (b:=b) (o:=k) X'],.agg (Fs:=λ_=>ck) (by simp; omega) (λj u hX=>by
   grind) (λj iT u tr hX=>?_) (λ_ _ _ _ _ h=>h.elim) (λc=>⟨λh=>h.elim,λ⟨_,_,h⟩=>h⟩)⟩
  grind
 | @It x _ s d n N p cs xs J aq aB eV au =>
  obtain ⟨e,ax,he,aR⟩:=M5 au;obtain ⟨⟨mL,kE,cap,h1,af,aF⟩,_⟩:=(fL J).n4;obtain ⟨v,cr,hv,ds,c_⟩:=h.part aq (by simp);rw [h1] at hv;cases hv;have hN:(cs.take n).length=n:=by
   obtain ⟨_,_,_,ah⟩:=ds.oc
   grind
  have hlen:xs.length=n:=by rw [<- hN,eV,List.length_map]
  refine ⟨_,?_,.lit rfl no⟩;obtain ⟨_,_,h9,_,_,o_,su⟩:=ds.oc;cases h9;cases mL with
  | none =>
   have aK:n=0:=by
    grind
   have:xs=[]:=List.eq_nil_of_length_eq_zero (hlen.trans aK);subst this;have hr:=run_convert_bytes_nil (P:=P) (w:=w) s e ax he n cap d aR;simp [execOp,af,hr];rfl
  | some ad =>
   obtain ⟨b,o,sp⟩:=ad;obtain ⟨rfl,rfl⟩:=o_ _ rfl;have hr:=run_convert_bytes_arg (P:=P) w s e ax he b 0 n cap xs hlen (λi hi=>by
    have Jz:(cs.take n)[i]?=some (.lit (.int .u8 (xs.getD i 0))):=by
     grind
    have W9:cs[i]?=some (.lit (.int .u8 (xs.getD i 0))):=by
     grind
    obtain ⟨dU,u,fy,mQ,_,_,bG,kp⟩:=ds.node (.inl rfl) W9;simp only [addrOf,Option.some.injEq,Addr.mk.injEq,and_true] at fy;subst fy;rw [Nat.zero_add,mQ,kp.hE.1]) d aR
   simp_all [execOp]
 | @Fe x _ s d n xs J au =>
  obtain ⟨e,ax,he,aR⟩:=M5 au;have a1:=fL J;generalize sk:a.eval x=v at a1;refine ⟨_,?_,.lit rfl no⟩;generalize eV:(xs.map λb=>ab.lit (.int .u8 b))=cs at a1;cases a1 with
  | ref J=>simp [ab.isRef] at J
  | @gM _ cap mL _ aH =>
   have:xs=[]:=by simpa using eV
   subst this;cases mL with
   | none =>
    have hr:=run_convert_bytes_nil (P:=P) (w:=w) s e ax he 0 cap d aR;simp [execOp,sk,hr];rfl
   | some ad =>
    have ah:(loadCells ad 0).run P w=.ok (([]:List Int).map (Value.int .u8)).toArray w:=by
     have:=run_loadCells_list (P:=P) w ad [] (λj v ag=>by simp at ag)
     grind
    have hr:=run_bytesToString w ad 0 cap [] ah;have aa:=run_convert_bytes_string (P:=P) w s d e (some ad) 0 cap ax he aR;rw [hr] at aa;simp [execOp,sk,aa];rfl
  | @bc _ _ cap _ ad us _ aH lY bf ka ah h1 aa hr =>
   obtain ⟨b,o,sp⟩:=ad;simp only at ka;subst ka;have hlen:xs.length=n:=by rw [<- List.length_map (f:=λb=>ab.lit (.int .u8 b)),eV,ah,Nat.mul_one]
   have dI:=run_convert_bytes_arg (P:=P) w s e ax he b o n cap xs hlen (λi hi=>by
    have Jz:cs[i]?=some (.lit (.int .u8 (xs.getD i 0))):=by
     grind
    have:=aa i _ Jz;simp only at this;rw [this,(hr i _ Jz).hE.1]) d aR
   simp_all [execOp]
 | @IP xs fP _ f vs v J hv hr =>
  refine ⟨v,?_,.lit hv no⟩;have xI:xs.map a.eval=vs.toArray:=by
   apply Array.toList_inj.1;apply List.ext_getElem?;intro k;have:=congrArg (·[k]?) J;simp only [List.getElem?_map] at this;rw [Array.toList_map,List.getElem?_map];cases hk:xs.toList[k]? with
   | none =>
    grind
   | some o =>
    rw [hk] at this;cases hv:vs[k]? with
    | none=>rw [hv] at this; cases this
    | some v =>
     rw [hv] at this;simp only [Option.map_some,Option.some.injEq] at this ⊢;rw [(fL this).hE.1]
  have aV:a.eval (.func f)=.func (.func f) #[] #[]:=rfl
  simp_all [execOp,resolve,Deferred.ofValue,invoke]
 | @FY x i _ t s n_ j b J hi au ar =>
  have rv:=(fL J).hE.1;have th:=(fL hi).hE.1;refine ⟨.int .u8 b.toNat,?_,.lit rfl no⟩
  simp_all [execOp,Instr.index,run_underlying,LQ,asIntOf]
 | @bin op x y _ t t2 cd b v J ao hv hr =>
  have h1:=(fL J).hE.1;have af:=(fL ao).hE.1;refine ⟨v,?_,.lit hv no⟩
  grind [execOp,Sem.run_bind,Result.andThen_ok,Sem.run_pure]
 | @BA op x y _ t t2 az de v J ao hv hr =>
  have h1:=MH ((fL J).C7 no);have af:=MH ((fL ao).C7 no);refine ⟨v,?_,.lit hv no⟩
  grind [execOp,Sem.run_bind,Result.andThen_ok,Sem.run_pure]
 | @un op x _ t cd v J hv hr =>
  have h1:=(fL J).hE.1;exact ⟨v,by simp [execOp,h1,hr],.lit hv no⟩
 | @conv x _ s d cd v J hv hr =>
  have h1:=(fL J).hE.1;exact ⟨v,by simp [execOp,h1,hr],.lit hv no⟩
 | @Fh x _ i cs y J ao =>
  obtain ⟨vs,aF,ah,hr⟩:=(fL J).YV no;have hk:i<cs.length:=(List.getElem?_eq_some_iff.1 ao).1;have hv:vs[i]?=some vs[i]:=Array.getElem?_eq_getElem (ah ▸ hk);exact ⟨_,by simp [execOp,aF,Instr.extract,hv],hr _ kW _ ao hv⟩
 | @Ei x lo hi _ t e z n l bQ cs J ah vF au ti aB =>
  obtain ⟨hu,he,aX⟩:=rX (w:=w) au;obtain ⟨mL,cap,aF,lY,hlen,hm⟩:=(fL J).z_;have ar:=GW (P:=P) (w:=w) (len:=n) (cap:=cap) (ah.sound h aJ) (vF.sound h aJ) true ti (by omega);have hp:(execOp a.eval { dst:=dst,op:=.slice t x lo hi none,type:=ty,pos:=pos,after:=after,guard:=guard }).run P w=.ok (.value (sliced mL l bQ cap z)) w:=by
   simp_all [execOp,Instr.sliceAt,run_underlying,Instr.slice,sliced]
  refine ⟨_,hp,?_⟩;by_cases aK:bQ - l=0
  ·rw [aK];simp only [Nat.zero_mul,List.take_zero,sliced,aK];exact .gM no
  ·obtain ⟨ad,us,rfl,bf,ax,ho,aa,hr⟩:=hm (.inr (by omega));obtain ⟨b,o,sp⟩:=ad;simp only at ax;subst ax;have hN:cap≠l:=by omega
   simp only [sliced,hN,if_false,Option.map_some,add_eq];have Cw:((cs.drop (l * z)).take ((bQ - l) * z)).length=(bQ - l) * z:=by
    rw [List.length_take,List.length_drop,hlen];have:(bQ - l) * z+l * z<=n * z:=by rw [<- Nat.add_mul]; exact Nat.mul_le_mul_right _ (by omega)
    omega
   refine .bc (us:=λk=>us (l * z+k)) no (by omega) bf rfl Cw (λk x hk=>ho (l * z+k) x (by
    grind)) (λk x hk=>?_) λk x hk=>?_
   ·grind
   grind
 | @G_ x lo hi _ t e z n bQ p J ah vF au aB c7 =>
  obtain ⟨hu,he,aX⟩:=rX (w:=w) au;obtain ⟨⟨mL,N,cap,h1,af,aF⟩,bh⟩:=(fL J).n4;have lY:N<=cap:=by
   rcases bh with ⟨kE,cs,b7,dp⟩ | ⟨aK,q,gP,m,new,b7,dp⟩
   ·obtain ⟨v,cr,hv,ds,_⟩:=h.part b7 (by simp);rw [h1] at hv;obtain ⟨_,sc,OF,hle,_⟩:=ds.oc
    grind
   ·obtain ⟨v,hv,ds⟩:=h.rel _ _ b7;simp only [dx,hv,aK,walk,Option.some.injEq] at h1;subst h1;obtain ⟨bv,b4,b6,us,news,ds⟩:=ds.vV;obtain ⟨_,mU⟩:=ds.mU
    grind
  have ar:=GW (P:=P) (w:=w) (len:=n) (cap:=cap) (ah.sound h aJ) (vF.sound h aJ) true (Nat.zero_le _) (by omega);refine ⟨.slice mL bQ cap,?_,.ref rfl ⟨⟨mL,N,cap,h1,rfl,by omega⟩,c7⟩ no⟩
  simp_all [execOp,Instr.sliceAt,run_underlying,Instr.slice,Addr.add]
 | @G9 x lo hi _ t e z n l bQ p J ah vF au ti aB c7 =>
  obtain ⟨hu,he,aX⟩:=rX (w:=w) au;obtain ⟨⟨mL,N,cap,h1,af,aF⟩,bh⟩:=(fL J).n4;obtain ⟨kE,cs,b7,dp⟩:=c7;obtain ⟨v,cr,hv,ds,_⟩:=h.part b7 (by simp);rw [h1] at hv;obtain ⟨a2,sc,OF,hle,hlen,o_,su⟩:=ds.oc;rw [OF] at hv;cases hv;have ar:=GW (P:=P) (w:=w) (len:=n) (cap:=cap) (ah.sound h aJ) (vF.sound h aJ) true ti (by omega);refine ⟨sliced mL l bQ cap z,?_,.ref rfl ⟨⟨mL,_,cap,_,_,h1,rfl,by omega,by omega,λpU=>?_⟩,_,cs,b7,dp⟩ no⟩
  ·simp_all [execOp,Instr.sliceAt,run_underlying,Instr.slice,sliced]
  ·have ax:=su (by omega);cases mL with
   | none=>simp at ax
   | some ad =>
    obtain ⟨aK,ja⟩:=o_ ad rfl;obtain ⟨b,o,sp⟩:=ad
    grind [add_eq]
 | @G' x lo hi _ t l bQ s J ah vF au ti aB =>
  have rv:=(fL J).hE.1;have ar:=GW (P:=P) (w:=w) (len:=s.size) (cap:=s.size) (ah.sound h aJ) (vF.sound h aJ) false ti aB;exact ⟨.string (s.extract l bQ),by simp [execOp,rv,Instr.sliceAt,run_underlying (LQ au),Instr.slice,ar],.lit rfl no⟩
 | @F9 x _ t e z bR n cs J au =>
  obtain ⟨hu,he,aX⟩:=rX (w:=w) au;obtain ⟨mL,cap,aF,_⟩:=(fL J).z_;exact ⟨_,by simp [execOp,resolve,invoke,builtin,aF,Builtin.len_,run_underlying hu,goInt],.lit rfl no⟩
 | @F8 x _ t e z bR n p J au =>
  obtain ⟨hu,he,aX⟩:=rX (w:=w) au;obtain ⟨⟨mL,N,cap,h1,af,aF⟩,bh⟩:=(fL J).n4;exact ⟨_,by simp [execOp,resolve,invoke,builtin,af,Builtin.len_,run_underlying hu,goInt],.lit rfl no⟩
 | @KT x _ t e z bR lo n p J au =>
  obtain ⟨hu,he,aX⟩:=rX (w:=w) au;obtain ⟨⟨mL,N,cap,cd,nv,h1,af,_,aF,b7⟩,bh⟩:=(fL J).z';exact ⟨_,by simp [execOp,resolve,invoke,builtin,af,Builtin.len_,run_underlying hu,goInt],.lit rfl no⟩
 | @KS x _ t e bR J au =>
  obtain ⟨hu,he,aX⟩:=rX (w:=w) au;have af:=(fL J).rD;exact ⟨_,by simp [execOp,resolve,invoke,builtin,af,Builtin.len_,run_underlying hu,goInt],.lit rfl no⟩
 | @lits b xs fP _ vs v J hv hr =>
  have qu:xs.map a.eval=vs.toArray:=by
   grind [Array.toList_map,PJ]
  refine ⟨v,?_,.lit hv no⟩
  grind [execOp,resolve,invoke]
 | @F' x y _ t p q ok Y _ oN V J aq ao c6 a1 hr =>
  obtain ⟨⟨b,ar,hv⟩,_⟩:=(fL J).Ps;obtain ⟨dK,cr,ih,ds,_⟩:=h.part aq (by simp);rw [ar] at ih;cases ih;obtain ⟨dU,es,clock,e,aW,a_,_⟩:=ds.KB;cases e;refine ⟨V,?_,a1 _ _ _⟩;simp [execOp,hv,c6 _ _ _ _ (fL ao),hr w _ _ _ aW a_]
 | @KV x y _ t q ok Y _ oN V J ao c6 a1 hr =>
  obtain ⟨b,es,clock,hv,aW,a_⟩:=(fL J).YU;refine ⟨V,?_,a1 _ _ _⟩;simp [execOp,hv,c6 _ _ _ _ (fL ao),hr w _ _ _ aW a_]
end
structure Fr (w w':World) (U:a'):Prop where
 os:w'.os=w.os
 tape:w'.tape=w.tape
 output:w'.output=w.output
 size:w.heap.size<=w'.heap.size
 block:∀ b,b<w.heap.size->¬ U b->w'.heap[b]?=w.heap[b]?
 dP:∀ a,a.block<w.heap.size->¬ U a.block->w'.frozen? a=w.frozen? a
 zB:w.drawn<=w'.drawn
theorem Fr.refl (w:World) (U:a'):Fr w w U:=⟨rfl,rfl,rfl,Nat.le_refl _,λ_ _ _=>rfl,λ_ _ _=>rfl,Nat.le_refl _⟩
theorem Fr.mono {w w':World}{U EW:a'}(h:Fr w w' U) (fl:∀ b,b<w.heap.size->U b->EW b):Fr w w' EW:=⟨h.os,h.tape,h.output,h.size,λb ar aB=>h.block b ar λhu=>aB (fl b ar hu),λa aJ aB=>h.dP a aJ λhu=>aB (fl _ aJ hu),h.zB⟩
theorem Fr.trans {w ij hz:World}{U zk:a'}(h:Fr w ij U) (h1:Fr ij hz zk) (fl:∀ b,b<w.heap.size->zk b->U b):Fr w hz U :=
 ⟨h1.os.trans h.os,h1.tape.trans h.tape,h1.output.trans h.output,Nat.le_trans h.size h1.size,λb ar aB=>(h1.block b (Nat.lt_of_lt_of_le ar h.size) λhu=>aB (fl b ar hu)).trans (h.block b ar aB),λa aJ aB=>(h1.dP a (Nat.lt_of_lt_of_le aJ h.size) λhu=>aB (fl _ aJ hu)).trans (h.dP a aJ aB),Nat.le_trans h.zB h1.zB⟩
theorem alloc_old (w:World) (o:Obj) (k:Nat) (h:k<w.heap.size):(w.alloc o).heap[k]?=w.heap[k]?:=by
 show (w.heap.push o)[k]?=_;rw [Array.getElem?_push,if_neg (by omega)]
theorem rb (w:World) (o:Obj):(w.alloc o).heap[w.heap.size]?=some o:=by
 show (w.heap.push o)[w.heap.size]?=_;simp
theorem IW (w:World) (arr:Array Value) (t:TypeId) (a:Addr):(w.alloc (.cells arr t (0,0))).frozen? a=w.frozen? a:=by
 unfold World.frozen?;by_cases h:a.block=w.heap.size
 ·rw [h,rb];have:w.heap[w.heap.size]?=none:=by simp
  rw [this];simp
 ·by_cases af:a.block<w.heap.size
  ·rw [alloc_old w _ _ af]
  ·have aF:(w.alloc (.cells arr t (0,0))).heap[a.block]?=none:=by
    show (w.heap.push _)[a.block]?=_;rw [Array.getElem?_eq_none];simp; omega
   have bh:w.heap[a.block]?=none:=Array.getElem?_eq_none (by omega);rw [aF,bh]
theorem NV (w:World) (g:Nat) (cs:Array Value) (a:Addr):(w.setRow g cs).frozen? a=w.frozen? a:=by
 unfold World.frozen? World.setRow;simp only [Array.getElem?_modify];by_cases h:g=a.block
 ·subst h;rw [if_pos rfl];cases bQ:w.heap[a.block]? with
  | none=>rfl
  | some o=>cases o <;> rfl
 ·rw [if_neg h]
theorem VB (w:World) (es:Array MapEntry) (n:Nat) (a:Addr):(w.alloc (.map es n)).frozen? a=w.frozen? a:=by
 unfold World.frozen?;by_cases h:a.block=w.heap.size
 ·rw [h,rb];have:w.heap[w.heap.size]?=none:=by simp
  rw [this]
 ·by_cases af:a.block<w.heap.size
  ·rw [alloc_old w _ _ af]
  ·have aF:(w.alloc (.map es n)).heap[a.block]?=none:=by
    show (w.heap.push _)[a.block]?=_;rw [Array.getElem?_eq_none];simp; omega
   have bh:w.heap[a.block]?=none:=Array.getElem?_eq_none (by omega);rw [aF,bh]
def Qw (o:Obj):Prop:=(∃ arr e,o=.cells arr e (0,0))\/∃ es n,o=.map es n
theorem Fr.alloc (w:World) (o:Obj) (U:a') (aW:Qw o):Fr w (w.alloc o) U:=by
 refine ⟨rfl,rfl,rfl,by simp,λb ar _=>alloc_old w o b ar,λa _ _=>?_,Nat.le_refl _⟩;rcases aW with ⟨arr,e,rfl⟩ | ⟨es,n,rfl⟩
 ·exact IW w arr e a
 ·exact VB w es n a
theorem R.ZT {w:World}{I:a'}{ρ:ab->Value->Prop}{x:ab}{v:Value}{F:a'}(h:R w I ρ x v F):∀ c,F c->∃ o,w.heap[c]?=some o/\Qw o:=by
 induction h with
 | hV aW _ aH =>
  intro c aa;have aa:=(aH c).1 aa;obtain ⟨_,bQ⟩:=aW;rcases bQ with ⟨rfl,_⟩ | ⟨b,cap,cur,rfl,_,iQ,_⟩
  ·simp [Value.ownBlock] at aa
  ·simp only [Value.ownBlock,Option.some.injEq] at aa;subst aa;exact ⟨_,iQ,.inl ⟨_,_,rfl⟩⟩
 | mp aW _ aH =>
  intro c aa;cases (aH c).1 aa;exact ⟨_,aW,.inr ⟨_,_,rfl⟩⟩
 | lit _ aH | aP aH | dead aH | mx aH | ref _ _ aH | gM aH | bc aH | cx aH | cF aH | imp aH=>exact λc aa=>absurd aa (aH c)
 | own aW ah h1 hr aR ar aH aM =>
  intro c aa;rcases (aH c).1 aa with h | ⟨k,hk,h⟩
  ·obtain ⟨_,bQ⟩:=aW;rcases bQ with ⟨rfl,_⟩ | ⟨b,cap,cur,rfl,_,iQ,_⟩
   ·simp [Value.ownBlock] at h
   ·simp only [Value.ownBlock,Option.some.injEq] at h;subst h;exact ⟨_,iQ,.inl ⟨_,_,rfl⟩⟩
  ·exact aM k _ _ (List.getElem?_eq_getElem hk) (List.getElem?_eq_getElem (ah ▸ hk)) c h
 | obj aW ah h1 hr aR ar aH ax aM =>
  intro c aa;rcases (aH c).1 aa with rfl | ⟨k,hk,h⟩
  ·exact ⟨_,aW,.inl ⟨_,_,rfl⟩⟩
  ·exact aM k _ _ (List.getElem?_eq_getElem hk) (Array.getElem?_eq_getElem (ah ▸ hk)) c h
 | agg ah h1 hr aR aH aM =>
  intro c aa;obtain ⟨k,hk,h⟩:=(aH c).1 aa;exact aM k _ _ (List.getElem?_eq_getElem hk) (Array.getElem?_eq_getElem (ah ▸ hk)) c h
 | bS ah hr aR aH aM =>
  intro c aa;obtain ⟨k,hk,h⟩:=(aH c).1 aa;exact aM k _ _ (List.getElem?_eq_getElem hk) (Array.getElem?_eq_getElem (ah ▸ hk)) c h
section
variable {w:World}{I:a'}{T:Array Value}{g:aL}{Fs:Nat->a'}
theorem cB.jd (h:cB w I T g Fs):∀ t c,Fs t c->c<w.heap.size:=by
 intro t c aa;cases J:g t with
 | none=>exact absurd aa (h.ln t J c)
 | some y=>obtain ⟨u,_,ds⟩:=h.rel t y J; exact ds.lt c aa
theorem cB.world (h:cB w I T g Fs) {w':World}(aH:∀ t c,Fs t c->w'.heap[c]?=w.heap[c]?) (bf:∀ c,I c->w'.heap[c]?=w.heap[c]?) (fA:w.heap.size<=w'.heap.size):cB w' I T g Fs :=
  ⟨λt x J=>by
    obtain ⟨v,hv,a1⟩:=h.rel t x J;exact ⟨v,hv,h.xa (λ_ _=>rfl) aH bf (λ_ h=>h) (λ_ _ h=>h) a1 λc aa=>aH t c aa⟩,
   h.ln,h.ea,h.bc,λc aa=>Nat.lt_of_lt_of_le (h.lt c aa) fA,h.rR,cG.keep h.hR bf λ_ h=>h⟩
theorem cB.alloc (h:cB w I T g Fs) (o:Obj):cB (w.alloc o) I T g Fs :=
 h.world (λt c aa=>alloc_old w o c (h.jd t c aa)) (λc aa=>alloc_old w o c (h.lt c aa)) (by simp)
theorem cB.uT (h:cB w I T g Fs) {d:Nat}{x:ab}{v:Value}{F:a'}(aR:g d=none) (Xg:d<T.size)
  (a1:jH w I (dy w T g) x v F) (sn:∀ t c,F c->¬ Fs t c) (XJ:∀ c,F c->¬ I c)
  (aq:∀ z p n m new,x=.bM z p n m new->∀ t bR cq m' cN,g t≠some (.bM bR p cq m' cN)) :
  cB w I (T.setIfInBounds d v) (cT g d x) (wB Fs d F):=by
 have cV:∀ t,g t≠none->(T.setIfInBounds d v)[t]?=T[t]?:=by
  intro t au;rw [Array.getElem?_setIfInBounds_ne];rintro rfl; exact au aR
 refine ⟨?_,?_,?_,?_,h.lt,?_,h.hR⟩
 ·intro t y ao;unfold cT at ao
  split at ao
  ·rename_i vO;subst vO;cases ao;exact ⟨v,by simp [Xg],by simpa [wB] using h.xa cV (λ_ _ _=>rfl) (λ_ _=>rfl) (λ_ h=>h) (RE aR) a1 λ_ _=>rfl⟩
  ·rename_i vO;obtain ⟨u,hu,ds⟩:=h.rel t y ao;exact ⟨u,by rw [cV t (by rw [ao]; simp)]; exact hu,by simpa [wB,vO] using h.xa cV (λ_ _ _=>rfl) (λ_ _=>rfl) (λ_ h=>h) (RE aR) ds λ_ _=>rfl⟩
 ·intro t au c;unfold cT at au
  split at au
  ·cases au
  ·rename_i vO; simpa [wB,vO] using h.ln t au c
 ·intro t t' c aa dQ;by_cases h1:t=d <;> by_cases af:t'=d <;> simp [wB,h1,af] at aa dQ
  ·rw [h1,af]
  ·exact absurd dQ (sn t' c aa)
  ·exact absurd aa (sn t c dQ)
  ·exact h.ea t t' c aa dQ
 ·intro t c aa hi;by_cases h1:t=d <;> simp [wB,h1] at aa
  ·exact XJ c aa hi
  ·exact h.bc t c aa hi
 ·intro t t' z p n m new bR cq m' cN h1 af;unfold cT at h1 af
  split at h1 <;> split at af
  ·rename_i a b; rw [a,b]
  ·cases h1; exact absurd af (aq z p n m new rfl t' bR cq m' cN)
  ·cases af; exact absurd h1 (aq bR p cq m' cN rfl t z n m new)
  ·exact h.rR _ _ _ _ _ _ _ _ _ _ _ h1 af
end
def j9:ab->Option (List ab)
 | .agg cs=>some cs
 | .lit v=>some [.lit v]
 | .aP=>some [.aP]
 | .bc z n cs=>some [.bc z n cs]
 | .cx cs=>some [.cx cs]
 | .ptr p k=>some [.ptr p k]
 | .a7 z p n=>some [.a7 z p n]
 | .sub z p l n=>some [.sub z p l n]
 | .cF f a b=>some [.cF f a b]
 | _=>none
theorem M3 {y:ab}{cs:List ab}(h:s3 y) (aa:j9 y=some cs):tP cs:=by
 have one:∀ {x:ab},(∀ j,x≠.self j)->tP [x]:=λJ k j e=>by
  cases k with
  | zero=>simp only [List.getElem?_cons_zero,Option.some.injEq] at e; exact J j e
  | succ k=>simp at e
 cases y <;> simp only [Go.Own.j9,Option.some.injEq,reduceCtorEq] at aa <;> subst aa
 all_goals first | exact h _ rfl | exact one (by simp)
theorem R.j9 {w:World}{I:a'}{ρ:ab->Value->Prop}{y:ab}{v:Value}{F:a'}(h:R w I ρ y v F) (aH:∀ c,¬ F c) (l3:∀ x v,x.isRef=true->ρ x v->v.oneCell'=true) {cs:List ab}(aa:j9 y=some cs) :
  cs.length=v.cells.size/\(∀ (k:Nat) (u:Value),v.cells[k]?=some u->u.oneCell'=true)/\(∀ (k:Nat) (x:ab) (u:Value),cs[k]?=some x->v.cells[k]?=some u->R w I ρ x u ck):=by
 have one:∀ {y:ab},R w I ρ y v F->v.oneCell'=true->[y].length=v.cells.size/\(∀ (k:Nat) (u:Value),v.cells[k]?=some u->u.oneCell'=true)/\(∀ (k:Nat) (x:ab) (u:Value),[y][k]?=some x->v.cells[k]?=some u->R w I ρ x u ck):=by
  intro y h h1;have FA:v.cells=#[v]:=by cases v <;> first | rfl | (simp [Value.oneCell'] at h1)
  refine ⟨by simp [FA],λk u hu=>?_,λk x u J hu=>?_⟩
  ·rw [FA] at hu;cases k with
   | zero=>simp at hu; subst hu; exact h1
   | succ k=>simp at hu
  rw [FA] at hu;cases k with
  | zero=>simp at J hu; subst J hu; exact h.empty aH
  | succ k=>simp at J
 cases y <;> simp only [Go.Own.j9,Option.some.injEq,reduceCtorEq] at aa
 case agg l =>
  subst aa;obtain ⟨vs,rfl,ah,h1,hr⟩:=h.C7 aH;exact ⟨ah,h1,hr⟩
 case lit a=>subst aa; exact one h (by obtain ⟨rfl,h1⟩:=h.hE; exact h1)
 case aP=>subst aa; exact one h (by rw [h.rD]; rfl)
 case bc z n l=>subst aa; exact one h (by obtain ⟨a,cap,rfl,_⟩:=h.z_; rfl)
 case cx l=>subst aa; exact one h (by obtain ⟨ad,us,rfl,_⟩:=h.xR; rfl)
 case ptr p k=>subst aa; exact one h (l3 _ _ rfl h.n5)
 case a7 z p n=>subst aa; exact one h (l3 _ _ rfl h.n4)
 case sub z p l n=>subst aa; exact one h (l3 _ _ rfl h.z')
 case cF f a b =>
  subst aa;refine one h ?_;cases h with
  | cF=>rfl
  | ref J=>simp [ab.isRef] at J
theorem dy.Du {w:World}{T:Array Value}{g:aL}{x:ab}{v:Value}(J:x.isRef=true) (h:dy w T g x v):v.oneCell'=true:=by
 obtain ⟨h,_⟩:=h;cases x <;> simp [ab.isRef] at J
 case ptr p k=>obtain ⟨_,_,_,_,rfl⟩:=h; rfl
 case a7 z p n=>obtain ⟨_,_,_,_,rfl,_⟩:=h; rfl
 case sub z p lo n=>obtain ⟨_,_,_,_,_,_,rfl,_⟩:=h; rfl
 case gl p=>obtain ⟨_,_,rfl⟩:=h; rfl
def o1:List ab->Option (List ab)
 | []=>some []
 | y::ys =>
  match j9 y,o1 ys with
  | some a,some b=>some (a++b)
  | _,_=>none
def hh (g:aL):List Operand->Option (List ab)
 | []=>some []
 | x::xs =>
  match bw g x,hh g xs with
  | some y,some ys=>some (y::ys)
  | _,_=>none
theorem Qi {g:aL}:∀ {l:List Operand}{xs:List ab},hh g l=some xs->tP xs
 | [],xs,h,k,j=>by simp only [hh,Option.some.injEq] at h; subst h; simp
 | o::l,xs,h,k,j=>by
  simp only [hh] at h
  split at h
  ·rename_i y ys h1 af;cases h;cases k with
   | zero=>intro e; simp only [List.getElem?_cons_zero,Option.some.injEq] at e; exact Zr h1 j e
   | succ k=>exact Qi af k j
  ·cases h
def vp (place:Nat->Option (Nat × Nat)) (cells:List ab):List (Nat × List ab)->Option (List ab)
 | []=>some cells
 | (i,c)::rest =>
  match place i with
  | none=>none
  | some (off,size)=>if c.length=size/\off+c.length<=cells.length then vp place (cells.take off++c++cells.drop (off+c.length)) rest else none
def rL (g:aL):List (Nat × Operand)->Option (List (Nat × List ab))
 | []=>some []
 | (i,x)::xs =>
  match bw g x,rL g xs with
  | some y,some ys=>(j9 y).map λc=>(i,c)::ys
  | _,_=>none
def j0 (P:Program) (t:TypeId) (pl:List (Nat × Nat)):Bool :=
 match P.underlying t with
 | some (.struct fs)=>fs.toList.map (λf=>(f.offset,(P.info? f.type).map (·.size))) == pl.map λ(a,b)=>(a,some b)
 | _=>false
inductive ot (P:Program) (g:aL):Op->TypeId->ab->Prop
 | box {e ty:TypeId}{x:Operand}{y:ab}{cs:List ab}(J:bw g x=some y) (aa:j9 y=some cs):ot P g (.box e x) ty (.obj cs)
 | HS {e ty:TypeId}{z:Value}(aX:(P.info? e).bind (·.zero)=some z) (aa:z.cells=#[.pointer none,.slice none 0 0]):ot P g (.alloc e) ty (.obj [.self (0,e),.aP])
 | H4 {e ty:TypeId}{t k:Nat}{x:Operand}{y:ab}{cs:List ab}(J:bw g x=some y) (aa:j9 y=some cs) (aK:cs[k]?=some (.lit (.pointer none))) (h1:cs[k+1]?=some .aP):ot P g (.box e x) ty (.obj ((cs.set k (.self (k,e))).set (k+1) (.hV t [])))
 | HR {e ty:TypeId}{t:Nat}{z:Value}(aX:(P.info? e).bind (·.zero)=some z) (aa:z.cells=#[.pointer none,.slice none 0 0]):ot P g (.alloc e) ty (.obj [.self (0,e),.hV t []])
 | alloc {e ty:TypeId}{z:Value}(aX:(P.info? e).bind (·.zero)=some z) (h1:z.cells.all Value.oneCell'=true):ot P g (.alloc e) ty (.obj (z.cells.toList.map ky))
 | buildSlice {t e ty:TypeId}{z:Nat}{parts:Array (Nat × Operand)}{xs:List Operand}{ys:List ab}{cs:List ab}(au:fo P t e z=true)
   (aq:parts.toList=xs.mapIdx (λi x=>(i,x))) (J:hh g xs=some ys) (aX:∀ y∈ys,∃ c,j9 y=some c/\c.length=z) (aa:o1 ys=some cs) (ar:xs.length * z<=16777216) (aB:xs.length<=16777216) (hzero:xs.length * z=0\/∃ v,(P.info? e).bind (·.zero)=some v/\v.cells.size=z) :
   ot P g (.buildSlice t xs.length parts) ty (.own z xs.length cs)
 | makeSlice {t e ty:TypeId}{x y:Operand}{z n b:Nat}{tv rF:IntKind}{cW:Value}(au:fo P t e z=true) (J:bw g x=some (.lit (.int tv (n:Int)))) (ao:bw g y=some (.lit (.int rF (n:Int))))
   (hzero:(P.info? e).bind (·.zero)=some cW) (h1:cW.cells.all Value.oneCell'=true) (l2:cW.cells.size=z) (ar:(P.info? e).map (·.bytes)=some b) (aB:n * b<=140737488355328) (rn:n<=4611686018427387904) {yP:List ab}(uF:yP.length=cW.cells.size)
   (FU:∀ (k:Nat) (u:Value) (x:ab),cW.cells[k]?=some u->yP[k]?=some x->x=ky u\/(ky u=.aP/\∃ bR,x=.bc bR 0 [])) :
   ot P g (.makeSlice t x y) ty (.own z n (List.replicate n yP).flatten)
 | makeMap {t ty:TypeId}{q:Array MapEntry->Nat->Prop}(a_:q #[] 0):ot P g (.makeMap t none) ty (.mp q)
inductive vd (P:Program) (g:aL):Op->TypeId->ab->Prop
 | build {t ty:TypeId}{parts:Array (Nat × Operand)}{pl:List (Nat × Nat)}{cW:Value}{ps:List (Nat × List ab)}{cs:List ab}(au:j0 P t pl=true) (aX:(P.info? t).bind (·.zero)=some cW) (h1:cW.cells.all Value.oneCell'=true)
   (aq:rL g parts.toList=some ps) (aa:vp (λi=>pl[i]?) (cW.cells.toList.map ky) ps=some cs):vd P g (.build t parts) ty (.agg cs)
 | makeFunc {fn:Fn}{first caps:Array Operand}{ty:TypeId}{a b:List ab}(aJ:hh g first.toList=some a) (ar:hh g caps.toList=some b):vd P g (.makeFunc fn first caps) ty (.cF fn a b)
section
variable {P:Program}{w:World}{I:a'}{T:Array Value}{g:aL}{Fs:Nat->a'}
theorem Ap (h:cB w I T g Fs) {a:Act}(aJ:a.tmps=T):∀ {xs:List Operand}{ys:List ab},hh g xs=some ys->ys.length=xs.length/\∀ (k:Nat) (y:ab) (x:Operand),ys[k]?=some y->xs[k]?=some x->R w I (dy w T g) y (a.eval x) ck
 | [],ys,ao=>by simp only [hh,Option.some.injEq] at ao; subst ao; simp
 | x::xs,ys,ao=>by
  simp only [hh] at ao;cases J:bw g x with
  | none=>simp [J] at ao
  | some y =>
   cases sB:hh g xs with
   | none=>simp [J,sB] at ao
   | some Ex =>
    simp only [J,sB,Option.some.injEq] at ao;subst ao;obtain ⟨h1,af⟩:=Ap h aJ sB;refine ⟨by simp [h1],λk y' x' pa e'=>?_⟩;cases k with
    | zero=>simp at pa e'; subst pa e'; exact ke h J aJ
    | succ k=>simp at pa e'; exact af k y' x' pa e'
theorem R.alloc (h:cB w I T g Fs) (o:Obj) {x:ab}{v:Value}{F:a'}(a1:R w I (dy w T g) x v F) (aH:∀ c,F c->c<w.heap.size):R (w.alloc o) I (dy (w.alloc o) T g) x v F :=
 h.frame (λ_ _=>rfl) (λt c aa=>alloc_old w o c (h.jd t c aa)) (λc aa=>alloc_old w o c (h.lt c aa)) (λ_ h=>h) (λ_ _ h=>h) a1 λc aa=>alloc_old w o c (aH c aa)
theorem P' {ρ:ab->Value->Prop}{vs:List Value}:∀ (k:Nat) (x:ab) (u:Value),(vs.map ky)[k]?=some x->vs[k]?=some u->R w I ρ x u ck:=by
 intro k x u J hu;rw [List.getElem?_map,hu] at J;simp only [Option.map_some,Option.some.injEq] at J;subst J;exact Dr u
theorem R.P8 {ρ:ab->Value->Prop}{cs:List ab}{b:Nat}{e:TypeId}{arr:Array Value}(aW:w.heap[b]?=some (.cells arr e (0,0))) (ah:cs.length=arr.size) (h1:∀ (k:Nat) (u:Value),arr[k]?=some u->u.oneCell'=true)
  (hr:∀ (k:Nat) (x:ab) (u:Value),cs[k]?=some x->arr[k]?=some u->R w I ρ x u ck) (lB:tP cs):R w I ρ (.obj cs) (.pointer (some ⟨b,0,none⟩)) (λc=>c=b) :=
 .obj (Fs:=λ_=>ck) aW ah h1 hr (λ_ _ _ _ _ h=>h.elim) (λ_ _ h=>h) (λ_=>⟨λh=>.inl h,λh=>h.elim id λ⟨_,_,h⟩=>h.elim⟩) λk j _ h=>absurd h (lB k j)
theorem R.Qn {ρ:ab->Value->Prop}{z n:Nat}{cs:List ab}{b cap:Nat}{e:TypeId}{arr:Array Value}(aW:w.heap[b]?=some (.cells arr e (0,0))) (aB:n<=cap) (aa:cap<=maxLen) (ax:arr.size=cap * z) (ah:cs.length=n * z) (h1:∀ (k:Nat) (u:Value),arr[k]?=some u->u.oneCell'=true)
  (hr:∀ (k:Nat) (x:ab) (u:Value),cs[k]?=some x->arr[k]?=some u->R w I ρ x u ck):R w I ρ (.own z n cs) (.slice (some ⟨b,0,none⟩) n cap) (λc=>c=b):=by
 have hle:n * z<=arr.size:=by rw [ax]; exact Nat.mul_le_mul_right _ aB
 refine .own (e:=e) (us:=arr.toList.take (n * z)) (Fs:=λ_=>ck) ⟨by simp; omega,.inr ⟨b,cap,arr,rfl,Nat.zero_le _,aW,aB,aa,ax,rfl⟩⟩ (by simp; omega) (λk u hu=>?_) ?_ (λ_ _ _ _ _ h=>h.elim) (λ_ _ _ h=>h.elim) (λc=>?_)
 ·rw [List.getElem?_take] at hu
  split at hu
  ·exact h1 k u (by simpa using hu)
  ·cases hu
 ·intro k x u J hu;rw [List.getElem?_take] at hu
  split at hu
  ·exact hr k x u J (by simpa using hu)
  ·cases hu
 ·simp only [Value.ownBlock,Option.some.injEq];exact ⟨λh=>.inl h.symm,λh=>h.elim Eq.symm λ⟨_,_,h⟩=>h.elim⟩
theorem M1 {ρ:ab->Value->Prop}(l3:∀ x v,x.isRef=true->ρ x v->v.oneCell'=true):∀ {ys:List ab}{vs:List Value}{cs:List ab},ys.length=vs.length->(∀ (k:Nat) (y:ab) (v:Value),ys[k]?=some y->vs[k]?=some v->R w I ρ y v ck)->o1 ys=some cs ->
  cs.length=(vs.flatMap λv=>v.cells.toList).length/\(∀ (k:Nat) (u:Value),(vs.flatMap λv=>v.cells.toList)[k]?=some u->u.oneCell'=true)/\∀ (k:Nat) (x:ab) (u:Value),cs[k]?=some x->(vs.flatMap λv=>v.cells.toList)[k]?=some u->R w I ρ x u ck
 | [],vs,cs,ah,hr,aa=>by
  cases vs with
  | nil=>simp only [o1,Option.some.injEq] at aa; subst aa; simp
  | cons=>simp at ah
 | y::ys,vs,cs,ah,hr,aa=>by
  cases vs with
  | nil=>simp at ah
  | cons v vs =>
   simp only [o1] at aa;cases aJ:j9 y with
   | none=>simp [aJ] at aa
   | some a =>
    cases ar:o1 ys with
    | none=>simp [aJ,ar] at aa
    | some b =>
     simp only [aJ,ar,Option.some.injEq] at aa;subst aa;obtain ⟨h1,B2,af⟩:=(hr 0 y v rfl rfl).j9 (λ_ h=>h) l3 aJ;obtain ⟨aF,VO,bh⟩:=M1 l3 (by simpa using ah) (λk y' dK ao hv=>hr (k+1) y' dK ao hv) ar;refine ⟨by simp [h1,aF],λk u hu=>?_,λk x u J hu=>?_⟩
     ·simp only [List.flatMap_cons] at hu;by_cases hk:k<v.cells.toList.length
      ·rw [List.getElem?_append_left hk] at hu;exact B2 k u (by simpa using hu)
      ·rw [List.getElem?_append_right (by omega)] at hu;exact VO _ u hu
     simp only [List.flatMap_cons] at hu;by_cases hk:k<a.length
     ·rw [List.getElem?_append_left hk] at J;rw [List.getElem?_append_left (by simp; omega)] at hu;exact af k x u J (by simpa using hu)
     ·rw [List.getElem?_append_right (by omega)] at J;rw [List.getElem?_append_right (by simp; omega)] at hu;refine bh (k - a.length) x u J ?_;rw [<- hu]; simp [h1]
end
theorem NT (off:Nat):∀ (l:List Value) (s:Nat) (arr:Array Value),off+s+l.length<=arr.size ->
  ((l.zipIdx s).foldl (λcs (x:Value × Nat)=>cs.setIfInBounds (off+x.2) x.1) arr).toList=arr.toList.take (off+s)++l++arr.toList.drop (off+s+l.length)
 | [],s,arr,h=>by simp
 | v::l,s,arr,h=>by
  simp only [List.length_cons] at h;rw [List.zipIdx_cons,List.foldl_cons,NT off l (s+1) _ (by simp; omega)];simp only [Array.toList_setIfInBounds,List.length_cons];have h1:(arr.toList.set (off+s) v).take (off+(s+1))=arr.toList.take (off+s)++[v]:=by
   rw [show off+(s+1)=off+s+1 by omega,List.take_succ_eq_append_getElem (by simp; omega)];rw [List.take_set_of_le (Nat.le_refl _)];simp
  have af:(arr.toList.set (off+s) v).drop (off+(s+1)+l.length)=arr.toList.drop (off+s+(l.length+1)):=by
   rw [List.drop_set_of_lt (by omega)];congr 1; omega
  rw [h1,af];simp
theorem NN {place:Nat->Option (Nat × Nat)}{i off size:Nat}(aq:place i=some (off,size)) {arr:Array Value}{v:Value}(h1:v.cells.size=size) (af:off+v.cells.size<=arr.size) (rest:List (Nat × Value)) :
  ∃ jn:Array Value,Instr.fill place arr ((i,v)::rest)=Instr.fill place jn rest/\jn.toList=arr.toList.take off++v.cells.toList++arr.toList.drop (off+v.cells.size):=by
 refine ⟨_,by simp only [Instr.fill,aq]; rw [if_neg (by simp; omega)],?_⟩;have:=NT off v.cells.toList 0 arr (by simpa using af)
 grind [Array.toList_zipIdx]
theorem NM (z:Nat):∀ (vs:List Value) (k:Nat) (arr:Array Value) (done rest:List Value),(∀ v∈vs,v.cells.size=z)->arr.toList=done++rest->done.length=k * z->rest.length=vs.length * z ->
  ∃ jn:Array Value,Instr.fill (λi=>some (i * z,z)) arr (vs.mapIdx λi v=>(k+i,v))=some jn/\jn.toList=done++vs.flatMap λv=>v.cells.toList
 | [],k,arr,done,rest,_,h1,af,aF=>by
  have:rest=[]:=List.eq_nil_of_length_eq_zero (by simpa using aF);subst this;exact ⟨arr,rfl,by simpa using h1⟩
 | v::vs,k,arr,done,rest,aX,h1,af,aF=>by
  have hv:=aX v (by simp);have hlen:arr.size=done.length+rest.length:=by rw [<- Array.length_toList,h1,List.length_append]
  simp only [List.length_cons,Nat.add_mul,Nat.one_mul] at aF;rw [List.mapIdx_cons];obtain ⟨E5,ca,b6⟩:=NN (place:=λi=>some (i * z,z)) (i:=k+0) (off:=k * z) (size:=z) (by simp) (arr:=arr) (v:=v) hv (by omega) ((vs.mapIdx λi v=>(k+(i+1),v)));have ud:E5.toList=(done++v.cells.toList)++rest.drop z:=by
   rw [b6,h1,<- af,List.take_left,hv,List.drop_append];simp
  obtain ⟨jn,eI,k_⟩:=NM z vs (k+1) E5 (done++v.cells.toList) (rest.drop z) (λu hu=>aX u (by simp [hu])) ud (by simp [af,hv,Nat.add_mul]) (by simp; omega);refine ⟨jn,?_,by rw [k_]; simp⟩;rw [ca,<- eI];congr 1;congr 1;funext i u;congr 1; omega
theorem HQ {vs:Array Value}(h:vs.all Value.oneCell'=true):∀ (k:Nat) (u:Value),vs[k]?=some u->u.oneCell'=true:=by grind
theorem BB {P:Program}{e:TypeId}{z:Value}(h:(P.info? e).bind (·.zero)=some z) (w:World):(zeroValue e).run P w=.ok z w:=by
 cases hi:P.info? e with
 | none=>simp [hi] at h
 | some i=>simp [hi] at h; simp [zeroValue,typeInfo,hi,h]
theorem NW {α:Type}(l:List α):∀ (n k:Nat),k<n * l.length->(List.replicate n l).flatten[k]?=l[k % l.length]?
 | 0,k,h=>by simp at h
 | n+1,k,h=>by
  rw [List.replicate_succ,List.flatten_cons];by_cases hk:k<l.length
  ·rw [List.getElem?_append_left hk,Nat.mod_eq_of_lt hk]
  ·rw [List.getElem?_append_right (by omega),NW l n (k - l.length) (by rw [Nat.add_mul] at h; omega)];rw [<- Nat.mod_eq_sub_mod (by omega)]
section
variable {P:Program}{w:World}{I:a'}{T:Array Value}{g:aL}{Fs:Nat->a'}
theorem Tv {ys cs:List ab}{z:Nat}(aX:∀ y∈ys,∃ c,j9 y=some c/\c.length=z) (aa:o1 ys=some cs):cs.length=ys.length * z:=by
 induction ys generalizing cs with
 | nil=>simp [o1] at aa; subst aa; simp
 | cons y ys aM =>
  obtain ⟨c,h1,af⟩:=aX y (by simp);simp only [o1,h1] at aa
  grind
theorem ot.sound (h:cB w I T g Fs) {a:Act}(aJ:a.tmps=T) {o:Oper}{kW:ab}(aq:ot P g o.op o.type kW) :
  ∃ v sK,(execOp a.eval o).run P w=.ok (.value v) (w.alloc sK)/\R (w.alloc sK) I (dy (w.alloc sK) T g) kW v (λc=>c=w.heap.size):=by
 obtain ⟨dst,op,ty,pos,after,guard⟩:=o;simp only at aq;have nc:∀ (sK:Obj) {x:ab}{v:Value},R w I (dy w T g) x v ck->R (w.alloc sK) I (dy (w.alloc sK) T g) x v ck:=λsK _ _ a1=>R.alloc h sK a1 λ_ h=>h.elim;cases aq with
 | @box e _ x y cs J aa =>
  have ao:=ke h J aJ;obtain ⟨h1,B2,af⟩:=ao.j9 (λ_ h=>h) (λ_ _ J hr=>hr.Du J) aa;refine ⟨_,.cells (a.eval x).cells e,by simp [execOp,Instr.box,newVar,newRow],R.P8 (e:=e) (rb w _) h1 B2 (λk x u J hu=>nc _ (af k x u J hu)) (M3 (Ld J) aa)⟩
 | @HS e _ z aX aa =>
  refine ⟨.pointer (some ⟨w.heap.size,0,none⟩),.cells z.cells e,by simp [execOp,Instr.alloc,newVar,newRow,BB aX],?_⟩;rw [aa];refine .obj (Fs:=λ_=>ck) (e:=e) (rb w _) rfl (λk u hu=>?_) (λk y u ao hu=>?_) (λ_ _ _ _ _ h=>h.elim) (λ_ _ h=>h) (λc=>⟨.inl,λh=>h.elim id λ⟨_,_,h⟩=>h.elim⟩) λk j u ao hu=>?_
  ·match k,hu with
   | 0,hu=>cases hu; rfl
   | 1,hu=>cases hu; rfl
   | k+2,hu=>simp at hu
  ·match k,ao,hu with
   | 0,ao,hu=>cases ao; exact .mx λ_ h=>h
   | 1,ao,hu=>cases ao; cases hu; exact .aP λ_ h=>h
   | k+2,ao,hu=>cases ao
  ·match k,ao,hu with
   | 0,ao,hu=>cases ao; cases hu; exact .inl ⟨rfl,rfl⟩
   | 1,ao,hu=>cases ao
   | k+2,ao,hu=>cases ao
 | @H4 e _ t k x y cs J aa aK jt =>
  have ao:=ke h J aJ;obtain ⟨h1,B2,af⟩:=ao.j9 (λ_ h=>h) (λ_ _ J hr=>hr.Du J) aa;have lB:=M3 (Ld J) aa;have du:k+1<cs.length:=(List.getElem?_eq_some_iff.1 jt).1;refine ⟨.pointer (some ⟨w.heap.size,0,none⟩),.cells (a.eval x).cells e,by simp [execOp,Instr.box,newVar,newRow],?_⟩;refine .obj (Fs:=λ_=>ck) (e:=e) (rb w _) (by simpa using h1) B2 (λj z u aX hu=>?_) (λ_ _ _ _ _ h=>h.elim) (λ_ _ h=>h) (λc=>⟨.inl,λh=>h.elim id λ⟨_,_,h⟩=>h.elim⟩) λj i u ag hu=>?_
  ·by_cases ca:k+1=j
   ·subst ca;rw [List.getElem?_set_self (by simpa using du)] at aX;cases aX;rw [(af _ _ u jt hu).rD];exact .hV (World.ownsRow_nil _ _ _ _) rfl λc=>⟨λh=>h.elim,λh=>by simp [Value.ownBlock] at h⟩
   ·rw [List.getElem?_set_ne ca] at aX;by_cases ga:k=j
    ·subst ga;rw [List.getElem?_set_self (by omega)] at aX;cases aX;exact .mx λ_ h=>h
    ·rw [List.getElem?_set_ne ga] at aX;exact nc _ (af j z u aX hu)
  ·by_cases ca:k+1=j
   ·subst ca;rw [List.getElem?_set_self (by simpa using du)] at ag;cases ag
   ·rw [List.getElem?_set_ne ca] at ag;by_cases ga:k=j
    ·subst ga;rw [List.getElem?_set_self (by omega)] at ag;cases ag;exact .inl ⟨(af k _ u aK hu).hE.1,rfl⟩
    ·rw [List.getElem?_set_ne ga] at ag;exact absurd ag (lB _ _)
 | @HR e _ t z aX aa =>
  refine ⟨.pointer (some ⟨w.heap.size,0,none⟩),.cells z.cells e,by simp [execOp,Instr.alloc,newVar,newRow,BB aX],?_⟩;rw [aa];refine .obj (Fs:=λ_=>ck) (e:=e) (rb w _) rfl (λk u hu=>?_) (λk y u ao hu=>?_) (λ_ _ _ _ _ h=>h.elim) (λ_ _ h=>h) (λc=>⟨.inl,λh=>h.elim id λ⟨_,_,h⟩=>h.elim⟩) λk j u ao hu=>?_
  ·match k,hu with
   | 0,hu=>cases hu; rfl
   | 1,hu=>cases hu; rfl
   | k+2,hu=>simp at hu
  ·match k,ao,hu with
   | 0,ao,hu=>cases ao; exact .mx λ_ h=>h
   | 1,ao,hu=>cases ao; cases hu; exact .hV (World.ownsRow_nil _ _ _ _) rfl λc=>⟨λh=>h.elim,λh=>by simp [Value.ownBlock] at h⟩
   | k+2,ao,hu=>cases ao
  ·match k,ao,hu with
   | 0,ao,hu=>cases ao; cases hu; exact .inl ⟨rfl,rfl⟩
   | 1,ao,hu=>cases ao
   | k+2,ao,hu=>cases ao
 | @alloc e _ z aX ho =>
  refine ⟨_,.cells z.cells e,by simp [execOp,Instr.alloc,newVar,newRow,BB aX],R.P8 (e:=e) (rb w _) (by simp) (HQ ho) (λk x u J hu=>nc _ (P' k x u J (by simpa using hu))) (P_ _)⟩
 | @makeMap t _ q a_ =>
  have J0:(Instr.makeMap t none).run P w=.ok (.map (some w.heap.size)) (w.alloc (.map #[] 0)):=rfl;exact ⟨.map (some w.heap.size),.map #[] 0,by simp [execOp,J0],.mp (rb w _) a_ λc=>Iff.rfl⟩
 | @buildSlice t e _ z parts xs ys cs au aq J aX aa ar rp hzero =>
  obtain ⟨hu,he,fA⟩:=rX (w:=w) au;obtain ⟨ah,hr⟩:=Ap h aJ J;have hN:=Tv aX aa;have Yf:∀ v∈xs.map a.eval,v.cells.size=z:=by
   intro v hv;obtain ⟨x,C3,rfl⟩:=List.mem_map.1 hv;obtain ⟨k,hk,rfl⟩:=List.mem_iff_getElem.1 C3;have pa:ys[k]?=some (ys[k]'(by omega)):=List.getElem?_eq_getElem (by omega);obtain ⟨c,h1,af⟩:=aX _ (List.getElem_mem (l:=ys) (n:=k) (by omega));obtain ⟨aF,_,_⟩:=(hr k _ _ pa (List.getElem?_eq_getElem hk)).j9 (λ_ h=>h) (λ_ _ J hr=>hr.Du J) h1;rw [<- aF,af]
  obtain ⟨cW,YH⟩:∃ cW:Array Value,(xs.length * z=0/\cW=#[])\/(xs.length * z≠0/\∃ v,cW=v.cells/\(zeroValue e).run P w=.ok v w):=by
   by_cases aK:xs.length * z=0
   ·exact ⟨#[],.inl ⟨aK,rfl⟩⟩
   ·rcases hzero with h1 | ⟨v,h1,af⟩
    ·exact absurd h1 aK
    ·exact ⟨v.cells,.inr ⟨aK,v,rfl,BB h1 w⟩⟩
  obtain ⟨arr,ca,b6⟩:=NM z (xs.map a.eval) 0 ((Array.range (xs.length * z)).map (cW[· % cW.size]!)) [] ((Array.range (xs.length * z)).map (cW[· % cW.size]!)).toList Yf (by simp) (by simp) (by simp);have OW:(parts.map λ(p:Nat × Operand)=>(p.1,a.eval p.2)).toList=(xs.map a.eval).mapIdx λi v=>(0+i,v):=by
   rw [Array.toList_map,aq];apply List.ext_getElem?;intro k;simp only [List.getElem?_map,List.getElem?_mapIdx];cases xs[k]? <;> simp
  obtain ⟨eV,kt,Xd⟩:=M1 (ρ:=dy w T g) (λ_ _ J hr=>hr.Du J) (ys:=ys) (vs:=xs.map a.eval) (by simp [ah]) (λk y v ao hv=>by
   rw [List.getElem?_map] at hv;cases qG:xs[k]? with
   | none=>simp [qG] at hv
   | some x=>simp [qG] at hv; subst hv; exact hr k y x ao qG) aa
  have vz:arr.toList=(xs.map a.eval).flatMap λv=>v.cells.toList:=by simpa using b6
  have X5:arr.size=xs.length * z:=by rw [<- Array.length_toList,vz,<- eV,hN,ah]
  have hp:(execOp a.eval { dst:=dst,op:=.buildSlice t xs.length parts,type:=ty,pos:=pos,after:=after,guard:=guard }).run P w=.ok (.value (.slice (some ⟨w.heap.size,0,none⟩) xs.length xs.length)) (w.alloc (.cells arr e)):=by
   have hle:¬ (16777216<xs.length * z):=by omega
   rcases YH with ⟨aK,rfl⟩ | ⟨aK,v,rfl,YG⟩
   ·simp only [aK] at ca;rw [<- OW] at ca;simp at ca;simp [execOp,Instr.buildSlice,run_underlying hu,fA,aK,ca,newRow]
   ·rw [<- OW] at ca;simp at ca;simp [execOp,Instr.buildSlice,run_underlying hu,fA,aK,hle,YG,ca,newRow]
  refine ⟨_,_,hp,R.Qn (e:=e) (arr:=arr) (rb w _) (Nat.le_refl _) ?_ X5 (by rw [hN,ah]) (λk u hu=>kt k u (by rw [<- vz]; simpa using hu)) λk x u J hu=>nc _ (Xd k x u J ?_)⟩
  ·unfold maxLen; omega
  ·rw [<- vz]; simpa using hu
 | @makeSlice t e _ x y z n b tv rF cW au J ao hzero ho l2 ar aB rn yP uF FU =>
  obtain ⟨hu,he,fA⟩:=rX (w:=w) au;have h1:=(ke h J aJ).hE.1;have af:=(ke h ao aJ).hE.1;cases hi:P.info? e with
  | none=>simp [hi] at ar
  | some i =>
   simp [hi] at ar hzero;have JK:i.size=z:=by
    unfold fo at au;rw [hu] at au;simp [hi] at au;exact au
   have zJ:(i.bytes:Int) * (n:Int)<=281474976710656:=by
    have:((b * n:Nat):Int)<=281474976710656:=by have:=Nat.mul_comm n b; omega
    rw [ar,<- Int.natCast_mul]; exact this
   have hr:=run_make (P:=P) w t e i cW hu hi hzero tv rF n n (by omega) (Int.le_refl _) zJ (by omega);simp only [Int.toNat_natCast] at hr;refine ⟨_,.cells (madeCells cW.cells (n * i.size)) e,by simp [execOp,h1,af,hr],R.Qn (e:=e) (rb w _) (Nat.le_refl _) (by unfold maxLen; omega) (by rw [size_madeCells,JK]) (by simp [l2,uF]) (λk u hu=>?_) λk x u J hu=>?_⟩
   ·rw [madeCells,Array.getElem?_map,Array.getElem?_range] at hu
    split at hu
    ·rename_i hk;have aK:0<cW.cells.size:=by
      rcases Nat.eq_zero_or_pos cW.cells.size with h | h
      ·rw [JK,<- l2,h] at hk; simp at hk
      ·exact h
     have hm:k % cW.cells.size<cW.cells.size:=Nat.mod_lt _ aK;simp only [Option.map_some,Option.some.injEq] at hu;rw [<- hu,show cW.cells[k % cW.cells.size]! = cW.cells[k % cW.cells.size] by simp [hm]];exact HQ ho _ _ (Array.getElem?_eq_getElem hm)
    ·cases hu
   have hk:k<n * cW.cells.size:=by
    have:=(List.getElem?_eq_some_iff.1 J).1;simpa [Nat.mul_comm,uF] using this
   have aK:0<cW.cells.size:=by
    rcases Nat.eq_zero_or_pos cW.cells.size with h | h
    ·rw [h] at hk; simp at hk
    ·exact h
   have hm:k % cW.cells.size<cW.cells.size:=Nat.mod_lt _ aK;rw [NW _ n k (by simpa [uF] using hk),uF] at J;rw [madeCells,Array.getElem?_map,Array.getElem?_range,if_pos (by rw [JK,<- l2]; exact hk)] at hu;simp only [Option.map_some,Option.some.injEq] at hu;have hX:cW.cells[k % cW.cells.size]! = cW.cells[k % cW.cells.size]:=by simp [hm]
   rw [hX] at hu;subst hu;rcases FU _ _ x (Array.getElem?_eq_getElem hm) J with rfl | ⟨h1,bR,rfl⟩
   ·exact nc _ (Dr _)
   ·have a1:=Dr (w:=w) (I:=I) (ρ:=dy w T g) cW.cells[k % cW.cells.size];rw [h1] at a1;rw [a1.rD];exact .gM λ_ h=>h
def Cells (w:World) (I:a') (ρ:ab->Value->Prop) (cs:List ab) (vs:List Value):Prop :=
 cs.length=vs.length/\(∀ (k:Nat) (u:Value),vs[k]?=some u->u.oneCell'=true)/\∀ (k:Nat) (x:ab) (u:Value),cs[k]?=some x->vs[k]?=some u->R w I ρ x u ck
theorem Cells.append {ρ:ab->Value->Prop}{a b:List ab}{u v:List Value}(h:Cells w I ρ a u) (aI:Cells w I ρ b v):Cells w I ρ (a++b) (u++v):=by
 refine ⟨by simp [h.1,aI.1],λk y ao=>?_,λk x y J ao=>?_⟩
 ·by_cases hk:k<u.length
  ·rw [List.getElem?_append_left hk] at ao; exact h.2.1 k y ao
  ·rw [List.getElem?_append_right (by omega)] at ao; exact aI.2.1 _ y ao
 ·by_cases hk:k<a.length
  ·rw [List.getElem?_append_left hk] at J;rw [List.getElem?_append_left (by rw [<- h.1]; exact hk)] at ao;exact h.2.2 k x y J ao
  ·rw [List.getElem?_append_right (by omega)] at J;rw [List.getElem?_append_right (by rw [<- h.1]; omega)] at ao;exact aI.2.2 _ x y J (by rw [h.1]; exact ao)
theorem Cells.take {ρ:ab->Value->Prop}{a:List ab}{u:List Value}(h:Cells w I ρ a u) (n:Nat):Cells w I ρ (a.take n) (u.take n):=by
 refine ⟨by simp [h.1],λk y ao=>?_,λk x y J ao=>?_⟩
 ·rw [List.getElem?_take] at ao
  split at ao
  ·exact h.2.1 k y ao
  grind
 ·rw [List.getElem?_take] at J ao
  split at J
  ·rename_i hk;rw [if_pos hk] at ao;exact h.2.2 k x y J ao
  grind
theorem Cells.drop {ρ:ab->Value->Prop}{a:List ab}{u:List Value}(h:Cells w I ρ a u) (n:Nat):Cells w I ρ (a.drop n) (u.drop n):=by
 refine ⟨by simp [h.1],λk y ao=>?_,λk x y J ao=>?_⟩
 ·rw [List.getElem?_drop] at ao; exact h.2.1 _ y ao
 ·rw [List.getElem?_drop] at J ao;exact h.2.2 _ x y J ao
theorem NL {ρ:ab->Value->Prop}{place:Nat->Option (Nat × Nat)}:∀ (ps:List (Nat × List ab)) (tJ:List (Nat × Value)) {cells cs:List ab}{arr:Array Value},Cells w I ρ cells arr.toList ->
  ps.map (·.1)=tJ.map (·.1)->(∀ (k:Nat) (p:Nat × List ab) (q:Nat × Value),ps[k]?=some p->tJ[k]?=some q->Cells w I ρ p.2 q.2.cells.toList)->vp place cells ps=some cs ->
  ∃ jn:Array Value,Instr.fill place arr tJ=some jn/\Cells w I ρ cs jn.toList
 | [],tJ,cells,cs,arr,aa,hk,_,aV=>by
  cases tJ with
  | nil=>simp only [vp,Option.some.injEq] at aV; subst aV; exact ⟨arr,rfl,aa⟩
  | cons=>simp at hk
 | (i,c)::ps,tJ,cells,cs,arr,aa,hk,hr,aV=>by
  cases tJ with
  | nil=>simp at hk
  | cons q tJ =>
   obtain ⟨j,v⟩:=q;simp only [List.map_cons,List.cons.injEq] at hk;obtain ⟨rfl,hk⟩:=hk;have aK:=hr 0 _ _ rfl rfl;simp only [vp] at aV;cases aq:place i with
   | none=>simp [aq] at aV
   | some os =>
    obtain ⟨off,size⟩:=os;simp only [aq] at aV
    split at aV
    ·rename_i aeT;have hlen:v.cells.size=c.length:=by rw [<- Array.length_toList]; exact aK.1.symm
     have OM:arr.size=cells.length:=by rw [<- Array.length_toList]; exact aa.1.symm
     obtain ⟨E5,ca,b6⟩:=NN (arr:=arr) (v:=v) aq (by omega) (by omega) tJ;have kt:Cells w I ρ (cells.take off++c++cells.drop (off+c.length)) E5.toList:=by
      rw [b6,hlen];exact ((aa.take off).append aK).append (aa.drop _)
     obtain ⟨jn,eI,k_⟩:=NL ps tJ kt hk (λk p q aq a_=>hr (k+1) p q aq a_) aV;exact ⟨jn,by rw [ca,eI],k_⟩
    ·cases aV
theorem Qt (h:cB w I T g Fs) {a:Act}(aJ:a.tmps=T):∀ {l:List (Nat × Operand)}{ps:List (Nat × List ab)},rL g l=some ps ->
  ps.map (·.1)=(l.map λp=>(p.1,a.eval p.2)).map (·.1)/\∀ (k:Nat) (p:Nat × List ab) (q:Nat × Value),ps[k]?=some p->(l.map λp=>(p.1,a.eval p.2))[k]?=some q->Cells w I (dy w T g) p.2 q.2.cells.toList
 | [],ps,aq=>by simp only [rL,Option.some.injEq] at aq; subst aq; simp
 | (i,x)::l,ps,aq=>by
  simp only [rL] at aq;cases J:bw g x with
  | none=>simp [J] at aq
  | some y =>
   cases ah:rL g l with
   | none=>simp [J,ah] at aq
   | some afz =>
    simp only [J,ah,Option.map_eq_some_iff] at aq;obtain ⟨c,aa,rfl⟩:=aq;obtain ⟨h1,af⟩:=Qt h aJ ah;refine ⟨by simp [h1],λk p q aq a_=>?_⟩;cases k with
    | zero =>
     simp at aq a_;subst aq a_;obtain ⟨aF,VN,bh⟩:=(ke h J aJ).j9 (λ_ h=>h) (λ_ _ J hr=>hr.Du J) aa;exact ⟨by simpa using aF,λk u hu=>VN k u (by simpa using hu),λk x u J hu=>bh k x u J (by simpa using hu)⟩
    | succ k=>simp at aq a_; exact af k p q aq (by simpa using a_)
theorem aa3 {t:TypeId}{pl:List (Nat × Nat)}(h:j0 P t pl=true):∃ fs,P.underlying t=some (.struct fs)/\fs.toList.mapM (λf=>(P.info? f.type).map λi=>(f.offset,i.size))=some pl:=by
 unfold j0 at h;cases hu:P.underlying t with
 | none=>simp [hu] at h
 | some d =>
  cases d <;> simp only [hu,Bool.false_eq_true] at h;rename_i fs;refine ⟨fs,rfl,?_⟩;replace h:=LawfulBEq.eq_of_beq h;generalize fs.toList=l at h
  induction l generalizing pl with
  | nil=>cases pl with
   | nil=>rfl
   | cons=>simp at h
  | cons f l aM =>
   cases pl with
   | nil=>simp at h
   | cons p pl =>
    obtain ⟨o,s⟩:=p;simp only [List.map_cons,List.cons.injEq,Prod.mk.injEq] at h;obtain ⟨⟨rfl,h1⟩,af⟩:=h;have:=aM af;rw [List.mapM_cons,this];cases hi:P.info? f.type with
    | none=>simp [hi] at h1
    | some i=>simp [hi] at h1; subst h1; rfl
theorem vd.sound (h:cB w I T g Fs) {a:Act}(aJ:a.tmps=T) {o:Oper}{kW:ab}(aq:vd P g o.op o.type kW) :
  ∃ v,(execOp a.eval o).run P w=.ok (.value v) w/\R w I (dy w T g) kW v ck:=by
 obtain ⟨dst,op,ty,pos,after,guard⟩:=o;simp only at aq;cases aq with
 | @build t _ parts pl cW ps cs au aX ho aq aa =>
  obtain ⟨fs,hu,zV⟩:=aa3 au;obtain ⟨h1,af⟩:=Qt h aJ aq;obtain ⟨jn,ca,b6⟩:=NL (w:=w) (I:=I) (ρ:=dy w T g) (place:=λi=>pl[i]?) ps _ (arr:=cW.cells) ⟨by simp,λk u hu=>HQ ho k u (by simpa using hu),λk x u J hu=>P' k x u J hu⟩ h1 af aa;refine ⟨.agg jn,?_,.agg (Fs:=λ_=>ck) (by simpa using b6.1) (λk u hu=>b6.2.1 k u (by simpa using hu)) (λk x u J hu=>b6.2.2 k x u J (by simpa using hu)) (λ_ _ _ _ _ h=>h.elim) (λc=>⟨λh=>h.elim,λ⟨_,_,h⟩=>h⟩)⟩;have afk:=run_places (P:=P) w fs.toList pl zV;have ar:P.built t ((parts.map λ(p:Nat × Operand)=>(p.1,a.eval p.2))).toList=some jn:=by
   rw [Array.toList_map];cases hi:P.info? t with
   | none=>simp [hi] at aX
   | some it =>
    simp_all [Program.built]
  simp_all [run_build,execOp]
 | @makeFunc fn first caps _ ht gg h1 af =>
  obtain ⟨aw,a2⟩:=Ap h aJ h1;obtain ⟨gW,ir⟩:=Ap h aJ af;refine ⟨.func fn (first.map a.eval) (caps.map a.eval),by simp [execOp,Instr.makeFunc],.cF (λ_ h=>h) (by simpa using aw) (by simpa using gW) (λk x u J hu=>?_) (λk x u J hu=>?_)⟩
  ·grind
  grind
end
structure Bc (w w':World) (bv dK:Value) (e b6:TypeId) (z n m:Nat) (us news:List Value):Prop where
 nc:w'.ownsRow 0 e z bv n us
 new:w'.ownsRow 0 b6 z dK (n+m) (us++news)
 dN:Fr w w' (λc=>bv.ownBlock=some c)
 BC:∀ c,dK.ownBlock=some c->bv.ownBlock=some c\/w.heap.size<=c
 sp:∀ c,bv.ownBlock=some c->∃ arr jn:Array Value,w.heap[c]?=some (.cells arr e (0,0))/\w'.heap[c]?=some (.cells jn e (0,0))/\jn.size=arr.size/\jn.toList.take (n * z)=arr.toList.take (n * z)
section
variable {P:Program}{w:World}
theorem Bc.same {bv dK:Value}{e b6:TypeId}{z n m:Nat}{us news:List Value}{w':World}(kK:w.ownsRow 0 e z bv n us) (ar:∀ c,c<w.heap.size->w'.heap[c]?=w.heap[c]?) (ax:w.heap.size<=w'.heap.size)
  (h1:w'.os=w.os) (af:w'.tape=w.tape) (aF:w'.output=w.output) (sn:w'.ownsRow 0 b6 z dK (n+m) (us++news)) (hblk:∀ c,dK.ownBlock=some c->bv.ownBlock=some c\/w.heap.size<=c) (o8:∀ a,w'.frozen? a=w.frozen? a) (Xi:w.drawn<=w'.drawn:=by first | exact Nat.le_refl _ | exact Nat.le_succ _):Bc w w' bv dK e b6 z n m us news:=by
 have aN:=kK.lt;refine ⟨uN kK λc aa=>ar c (aN c aa).2,sn,⟨h1,af,aF,ax,λb j_ _=>ar b j_,λa _ _=>o8 a,Xi⟩,hblk,λc aa=>?_⟩;obtain ⟨_,bQ⟩:=kK;rcases bQ with ⟨rfl,_⟩ | ⟨b,cap,cur,rfl,_,aQ,_⟩
 ·simp [Value.ownBlock] at aa
 ·simp only [Value.ownBlock,Option.some.injEq] at aa;subst aa;exact ⟨cur,cur,aQ,(ar _ (aN b rfl).2).trans aQ,rfl,rfl⟩
theorem aaq (t ty e b4:TypeId) (i:TypeInfo) (au:P.underlying t=some (.slice e)) (hi:P.info? e=some i)
  (b yB LB:Nat) (cur:Array Value) (aQ:w.heap[b]?=some (.cells cur b4 (0,0)))
  (a:Addr) (m c:Nat) (news:List Value) (ah:news.length=m * i.size) (so:∀ j u,news[j]?=some u->w.cell? (a.add j)=some u) (h1:∀ u∈news,u.oneCell'=true)
  (CM:yB+m<=LB) (xu:yB * i.size+news.length<=cur.size) :
  (Builtin.append_ #[t,t] ty #[.slice (some ⟨b,0,none⟩) yB LB,.slice (some a) m c]).run P w =
   .ok (.slice (some ⟨b,0,none⟩) (yB+m) LB) (w.setRow b (cur.toList.take (yB * i.size)++news++cur.toList.drop (yB * i.size+news.length)).toArray):=by
 have aV:=run_firstCells_some (P:=P) w i.size m a m c news ah so;have bU:=run_storeCells_at P b (yB * i.size) b4 news 0 cur w aQ (by simpa using xu) h1;simp only [Nat.add_zero] at bU;simp [Builtin.append_,run_underlying au,sizeOf,typeInfo,hi,Builtin.lenOf,CM,aV,Addr.add_lit,bU]
theorem GV (t ty e b4:TypeId) (i:TypeInfo) (cW:Value) (au:P.underlying t=some (.slice e)) (hi:P.info? e=some i) (aX:i.zero=some cW) (l2:cW.cells.size=i.size) (_h0:0<i.size)
  {bv:Value}{n m c:Nat}{us news:List Value}(kK:w.ownsRow 0 b4 i.size bv n us) {a:Option Addr}(aJ:0<m->a.isSome=true)
  (ah:news.length=m * i.size) (so:∀ ad,a=some ad->∀ (j:Nat) (u:Value),news[j]?=some u->w.cell? (ad.add j)=some u) (h1:∀ u∈news,u.oneCell'=true)
  (o5:n+m<=maxLen) (zJ:(n+m) * i.bytes<=140737488355328) :
  ∃ dK w' b6,(Builtin.append_ #[t,t] ty #[bv,.slice a m c]).run P w=.ok dK w'/\Bc w w' bv dK b4 b6 i.size n m us news:=by
 have nC:=kK.1;by_cases hm:m=0
 ·subst hm;have aB:news=[]:=List.eq_nil_of_length_eq_zero (by simpa using ah);subst aB;refine ⟨bv,w,b4,?_,.same kK (λ_ _=>rfl) (Nat.le_refl _) rfl rfl rfl (by simpa using kK) (λc aa=>.inl aa) λ_=>rfl⟩;obtain ⟨_,bQ⟩:=kK;rcases bQ with ⟨rfl,rfl⟩ | ⟨b,cap,cur,rfl,_,aQ,hle,_⟩
  ·cases a <;> simp [Builtin.append_,run_underlying au,sizeOf,typeInfo,hi,Builtin.lenOf,Builtin.firstCells,loadCells,loadCellsFrom]
  ·cases a <;> simp [Builtin.append_,run_underlying au,sizeOf,typeInfo,hi,Builtin.lenOf,Builtin.firstCells,loadCells,loadCellsFrom,hle,storeCells]
 ·cases a with
  | none=>simp at aJ; omega
  | some ad =>
   replace so:=so ad rfl;have afl:n+m<=9223372036854775807:=by simp only [maxLen] at o5; omega
   have grown:∀ (nc:Nat),nc<n+m ->
     (w.drew.alloc (.cells (us.toArray++news.toArray++Builtin.zeroCells cW.cells (grownCap w (n+m) nc e - (n+m))) e)).ownsRow 0 e i.size (.slice (some ⟨w.heap.size,0,none⟩) (n+m) (grownCap w (n+m) nc e)) (n+m) (us++news):=by
    intro nc aW;have dH:=grownCap_ge w (n+m) nc e;have hlen:(us++news).length=(n+m) * i.size:=by rw [List.length_append,nC,ah,Nat.add_mul]
    refine ⟨hlen,.inr ⟨w.heap.size,_,_,rfl,Nat.zero_le _,rb w.drew _,dH,grownCap_le_maxLen w (n+m) nc e o5,?_,?_⟩⟩
    ·simp only [Array.size_append,List.size_toArray,size_zeroCells,l2,nC,ah,<- Nat.add_mul];congr 1;omega
    ·simp only [Array.toList_append,List.append_assoc];rw [<- List.append_assoc,<- hlen];exact List.take_left
   have J5:=kK;obtain ⟨_,bQ⟩:=kK;rcases bQ with ⟨rfl,rfl⟩ | ⟨b,cap,cur,rfl,_,aQ,hle,sj,eV,O6⟩
   ·have J:us=[]:=List.eq_nil_of_length_eq_zero (by simpa using nC);subst J;have hr:=run_append_nil (P:=P) w t ty e i cW au hi aX ad m c news ah so (by omega) (by omega) (by simp only [Nat.zero_add] at zJ; omega);have sl:=grown 0 (by omega);simp only [Nat.zero_add,List.nil_append,Array.empty_append] at sl;exact ⟨_,_,e,hr,.same J5 (λc aa=>alloc_old w.drew _ c aa) (by simp) rfl rfl rfl (by simpa using sl) (λc aa=>.inr (by simp [Value.ownBlock] at aa; omega)) (λa=>IW w.drew _ _ a)⟩
   ·by_cases CM:n+m<=cap
    ·have xu:n * i.size+news.length<=cur.size:=by rw [ah,eV,<- Nat.add_mul]; exact Nat.mul_le_mul_right _ CM
     have hr:=aaq (P:=P) (w:=w) t ty e b4 i au hi b n cap cur aQ ad m c news ah so h1 CM xu;have hlen:(us++news).length=(n+m) * i.size:=by rw [List.length_append,nC,ah,Nat.add_mul]
     have fA:(cur.toList.take (n * i.size)++news++cur.toList.drop (n * i.size+news.length)).toArray.size=cur.size:=by
      simp only [List.size_toArray,List.length_append,List.length_take,List.length_drop,Array.length_toList];omega
     have fO:(cur.toList.take (n * i.size)++news++cur.toList.drop (n * i.size+news.length)).take (n * i.size)=cur.toList.take (n * i.size):=by
      rw [List.append_assoc];exact List.take_left' (by simp; omega)
     refine ⟨_,_,b4,hr,⟨⟨nC,.inr ⟨b,cap,_,rfl,Nat.zero_le _,setRow_heap w b cur _ b4 _ aQ,hle,sj,fA.trans eV,?_⟩⟩,⟨hlen,.inr ⟨b,cap,_,rfl,Nat.zero_le _,setRow_heap w b cur _ b4 _ aQ,CM,sj,fA.trans eV,?_⟩⟩,
      ⟨rfl,rfl,rfl,by simp,λk _ hk=>setRow_other w b k _ (λe=>hk (by simp [Value.ownBlock,e])),λa _ _=>NV w b _ a,Nat.le_refl _⟩,λc aa=>.inl aa,λc aa=>?_⟩⟩
     ·rw [<- O6]; exact fO
     ·rw [O6,<- hlen];exact List.take_left
     ·simp only [Value.ownBlock,Option.some.injEq] at aa;subst aa;exact ⟨cur,_,aQ,setRow_heap w b cur _ b4 _ aQ,fA,fO⟩
    ·have holds:∀ (j:Nat) (u:Value),us[j]?=some u->w.cell? ((⟨b,0,none⟩:Addr).add j)=some u:=J5.cells (g:=b) rfl;have hr:=run_append_grow (P:=P) w t ty e i cW au hi aX ⟨b,0,none⟩ n cap us nC holds ad m c news ah so (by omega) (by omega) (growslice_fits (by omega) zJ);have sl:=grown cap (by omega);exact ⟨_,_,e,hr,.same J5 (λc aa=>alloc_old w.drew _ c aa) (by simp) rfl rfl rfl sl (λc aa=>.inr (by simp [Value.ownBlock] at aa; omega)) (λa=>IW w.drew _ _ a)⟩
end
section
variable {w w':World}{I:a'}{ρ ρ':ab->Value->Prop}
theorem R.kids {x:ab}{v:Value}{F:a'}(h:R w I ρ x v F) (J:x.kids≠[]):∃ Fs:Nat->a',
  (∀ k y,x.kids[k]?=some y->∃ u,child w v k=some u/\R w I ρ y u (Fs k))/\(∀ (j k c:Nat),j<x.kids.length->k<x.kids.length->Fs j c->Fs k c->j=k) /\
  (∀ k c,k<x.kids.length->Fs k c->F c)/\(∀ z n cs,x=.own z n cs->∀ c,v.ownBlock=some c->∀ k,k<x.kids.length->¬ Fs k c):=by
 cases h with
 | @own z n cs _ e us Fs _ aW ah h1 hr aR ar aH =>
  refine ⟨Fs,λk y hk=>?_,aR,λk c hk aa=>(aH c).2 (.inr ⟨k,hk,aa⟩),λ_ _ _ _ c aa k hk h=>ar k c hk h aa⟩;simp only [ab.kids] at hk;have aN:k<cs.length:=(List.getElem?_eq_some_iff.1 hk).1;have hu:us[k]?=some us[k]:=List.getElem?_eq_getElem (ah ▸ aN)
  grind [ph]
 | @obj cs b e arr Fs _ aW ah h1 hr aR ar aH =>
  refine ⟨Fs,λk y hk=>?_,aR,λk c hk aa=>(aH c).2 (.inr ⟨k,hk,aa⟩),λ_ _ _ h=>by simp at h⟩;simp only [ab.kids] at hk;have aN:k<cs.length:=(List.getElem?_eq_some_iff.1 hk).1;have hu:arr[k]?=some arr[k]:=Array.getElem?_eq_getElem (ah ▸ aN);exact ⟨_,by simp [child,World.cell?,aW,hu],hr k y _ hk hu⟩
 | @agg cs vs Fs _ ah h1 hr aR aH =>
  refine ⟨Fs,λk y hk=>?_,aR,λk c hk aa=>(aH c).2 ⟨k,hk,aa⟩,λ_ _ _ h=>by simp at h⟩;simp only [ab.kids] at hk;have aN:k<cs.length:=(List.getElem?_eq_some_iff.1 hk).1
  simp_all [child]
 | @bS cs vs Fs _ ah hr aR aH =>
  refine ⟨Fs,λk y hk=>?_,aR,λk c hk aa=>(aH c).2 ⟨k,hk,aa⟩,λ_ _ _ h=>by simp at h⟩;simp only [ab.kids] at hk;have aN:k<cs.length:=(List.getElem?_eq_some_iff.1 hk).1
  simp_all [child]
 | ref e'=>cases x <;> simp [ab.isRef,ab.kids] at e' J
 | _=>simp [ab.kids] at J
theorem ab.vi {x y:ab}{k:Nat}{p:List Nat}(h:x.at (k::p)=some y):∃ c,x.kids[k]?=some c/\c.at p=some y:=by
 grind [ab.at]
theorem R.K_ {b:Nat}:∀ (q r:List Nat) {x:ab}{v:Value}{F:a'}{z n bR cq:Nat}{cs cs':List ab}{nj Er:Value},R w I ρ x v F->x.at q=some (.own z n cs)->x.at r=some (.own bR cq cs') ->
  walk w v q=some nj->walk w v r=some Er->nj.ownBlock=some b->Er.ownBlock=some b->q=r
 | [],[],_,_,_,_,_,_,_,_,_,_,_,_,_,_,_,_,_,_=>rfl
 | [],k::r,x,v,F,z,n,bR,cq,cs,cs',nj,Er,h,a_,hr,qV,wr,zr,zs=>by
  obtain ⟨c,hk,aa⟩:=ab.vi hr;simp only [ab.at,Option.some.injEq] at a_;simp only [walk,Option.some.injEq] at qV;subst a_ qV;have aN:k<(ab.own z n cs).kids.length:=(List.getElem?_eq_some_iff.1 hk).1;obtain ⟨Fs,h1,af,aF,bh⟩:=h.kids (by intro e; rw [e] at aN; simp at aN);obtain ⟨u,hu,ny⟩:=h1 k c hk;simp only [walk,hu] at wr;obtain ⟨h0,cr,hw,ds,c_,_⟩:=R.focus r ny aa;rw [hw] at wr;cases wr;exact absurd (c_ b (ds.rJ b zs)) (bh z n cs rfl b zr k aN)
 | j::q,[],x,v,F,z,n,bR,cq,cs,cs',nj,Er,h,a_,hr,qV,wr,zr,zs=>by
  obtain ⟨c,hk,aa⟩:=ab.vi a_;simp only [ab.at,Option.some.injEq] at hr;simp only [walk,Option.some.injEq] at wr;subst hr wr;have aN:j<(ab.own bR cq cs').kids.length:=(List.getElem?_eq_some_iff.1 hk).1;obtain ⟨Fs,h1,af,aF,bh⟩:=h.kids (by intro e; rw [e] at aN; simp at aN);obtain ⟨u,hu,ny⟩:=h1 j c hk;simp only [walk,hu] at qV;obtain ⟨h0,cr,hw,ds,c_,_⟩:=R.focus q ny aa;rw [hw] at qV;cases qV;exact absurd (c_ b (ds.rJ b zr)) (bh bR cq cs' rfl b zs j aN)
 | j::q,k::r,x,v,F,z,n,bR,cq,cs,cs',nj,Er,h,a_,hr,qV,wr,zr,zs=>by
  obtain ⟨c,ag,aa⟩:=ab.vi a_;obtain ⟨d,hk,aR⟩:=ab.vi hr;have ez:j<x.kids.length:=(List.getElem?_eq_some_iff.1 ag).1;have du:k<x.kids.length:=(List.getElem?_eq_some_iff.1 hk).1;obtain ⟨Fs,h1,af,aF,bh⟩:=h.kids (by intro e; rw [e] at ez; simp at ez);obtain ⟨u,hu,ny⟩:=h1 j c ag;obtain ⟨sU,hX,Ji⟩:=h1 k d hk;simp only [walk,hu] at qV;simp only [walk,hX] at wr;by_cases gI:j=k
  ·subst gI;rw [ag] at hk; cases hk;rw [hu] at hX; cases hX;rw [R.K_ q r ny aa aR qV wr zr zs]
  ·exfalso;obtain ⟨h0,cr,hw,ds,c_,_⟩:=R.focus q ny aa;obtain ⟨aby,jk,vR,Cb,Wd,_⟩:=R.focus r Ji aR;rw [hw] at qV; cases qV;rw [vR] at wr; cases wr;exact gI (af j k b ez du (c_ b (ds.rJ b zr)) (Wd b (Cb.rJ b zs)))
theorem ab.Q6:∀ (q:List Nat) {x y:ab},x.at q=some y->x.setAt q y=x
 | [],x,y,h=>by simp [ab.at] at h; simp [ab.setAt,h]
 | k::q,x,y,h=>by
  obtain ⟨c,hk,aa⟩:=ab.vi h;simp only [ab.setAt,hk,ab.Q6 q aa];have:∀ (l:List ab),l[k]?=some c->l.set k c=l:=by
   intro l ah;apply List.ext_getElem?;intro j;by_cases gI:k=j
   ·subst gI;have aN:k<l.length:=(List.getElem?_eq_some_iff.1 ah).1;rw [List.getElem?_set_self aN,ah]
   ·rw [List.getElem?_set_ne gI]
  cases x <;> simp [ab.kids] at hk <;> simp [ab.sQ,this _ hk]
theorem Eu (w:World):∀ (p:List Nat) (v:Value) (r:List Nat),walk w v (p++r)=(walk w v p).bind λu=>walk w u r
 | [],v,r=>rfl
 | k::p,v,r=>by
  simp only [List.cons_append,walk];cases child w v k with
  | none=>rfl
  | some u=>exact Eu w p u r
theorem ab.HZ:∀ (p:List Nat) (x:ab) (r:List Nat),x.at (p++r)=(x.at p).bind λy=>y.at r
 | [],x,r=>rfl
 | k::p,x,r=>by
  simp only [List.cons_append,ab.at];cases x.kids[k]? with
  | none=>rfl
  | some u=>exact ab.HZ p u r
structure EV (w w':World) (b M:Nat):Prop where
 other:∀ c,c<w.heap.size->c≠b->w'.heap[c]?=w.heap[c]?
 here:∃ (arr jn:Array Value) (e:TypeId),w.heap[b]?=some (.cells arr e (0,0))/\w'.heap[b]?=some (.cells jn e (0,0))/\jn.size=arr.size/\jn.toList.take M=arr.toList.take M
theorem EV.row {b M:Nat}(s:EV w w' b M) {e:TypeId}{z n:Nat}{v:Value}{us:List Value}(h:w.ownsRow 0 e z v n us) (aB:v.ownBlock=some b->n * z<=M):w'.ownsRow 0 e z v n us:=by
 by_cases ar:v.ownBlock=some b
 ·obtain ⟨arr,jn,ca,h1,af,aF,bh⟩:=s.here;obtain ⟨hu,bQ⟩:=h;rcases bQ with ⟨rfl,rfl⟩ | ⟨g,cap,cur,rfl,aQ,aa,uV,iQ,wq,uW⟩
  ·grind [Value.ownBlock]
  ·simp only [Value.ownBlock,Option.some.injEq] at ar;subst ar;rw [h1] at aa;cases aa;refine ⟨hu,.inr ⟨g,cap,jn,rfl,aQ,af,uV,iQ,by omega,?_⟩⟩;rw [<- uW];have:=congrArg (List.take (n * z)) bh
   rwa [List.take_take,List.take_take,Nat.min_eq_left (aB rfl)] at this
 ·exact uN h λc aa=>s.other c (h.lt c aa).2 λe=>ar (e ▸ aa)
theorem R.spare {b M:Nat}(s:EV w w' b M) (bf:∀ c,I c->c<w.heap.size/\c≠b) (l3:∀ x v,ρ x v->ρ' x v) {x:ab}{v:Value}{F:a'}(h:R w I ρ x v F) {q:List Nat}{z n:Nat}{cs:List ab}{h0:Value}
  (fD:x.at q=some (.own z n cs)) (hw:walk w v q=some h0) (ar:h0.ownBlock=some b) (aB:n * z<=M) :
  R w' I ρ' x v F/\∀ r y,x.at r=some y->walk w' v r=walk w v r:=by
 obtain ⟨aby,cr,vR,ds,c_,e7,kz⟩:=R.focus q h fD;rw [hw] at vR;cases vR;have n1:cr b:=ds.rJ b ar;have aN:=h.lt;have same:∀ c,F c->c≠b->w'.heap[c]?=w.heap[c]?:=λc aa cQ=>s.other c (aN c aa) cQ;have aeO:=ds;cases ds with
 | ref J=>simp [ab.isRef] at J
 | @own _ _ _ _ e us Fs _ aW ah h1 hr aR i_ aH =>
  have mn:=s.row aW λ_=>aB;have cQ:∀ k c,k<cs.length->Fs k c->c≠b:=λk c hk aa e=>i_ k c hk aa (e ▸ ar);have ju:∀ k c,k<cs.length->Fs k c->F c:=λk c hk aa=>c_ c ((aH c).2 (.inr ⟨k,hk,aa⟩));have sn:R w' I ρ' (.own z n cs) h0 cr:=by
   refine .own mn ah h1 (λk x u J hu=>?_) aR i_ aH;have hk:k<cs.length:=(List.getElem?_eq_some_iff.1 J).1;exact (hr k x u J hu).frame (λc aa=>s.other c (bf c aa).1 (bf c aa).2) (λ_ h=>h) l3 λc aa=>same c (ju k c hk aa) (cQ k c hk aa)
  constructor
  ·obtain ⟨cS,iJ,oC⟩:=kz w' I ρ' _ cr ⟨λc aa=>s.other c (bf c aa).1 (bf c aa).2,λc aa aB=>same c aa λe=>aB (e ▸ n1),λ_ h=>h,l3⟩ sn (λc aa _=>aa) λ_ h=>by cases h
   rw [ab.Q6 q fD] at iJ;refine iJ.zy λc=>?_;rw [oC c];constructor
   ·rintro (⟨h,_⟩ | h)
    ·exact h
    ·exact c_ c h
   ·intro h;by_cases aa:cr c
    ·exact .inr aa
    ·exact .inl ⟨h,aa⟩
  ·obtain ⟨ij,hz⟩:=e7 w' λc aa aB=>same c aa λe=>aB (e ▸ n1);intro r y dI;rcases hz r y dI with ⟨c',rfl⟩ | h
   ·rw [Eu,Eu,ij,hw];simp only [Option.bind_some];cases c' with
    | nil=>rfl
    | cons k c' =>
     rw [ab.HZ,fD] at dI;obtain ⟨c,hk,aa⟩:=ab.vi (x:=.own z n cs) dI;simp only [ab.kids] at hk;have du:k<cs.length:=(List.getElem?_eq_some_iff.1 hk).1;have hu:us[k]?=some us[k]:=List.getElem?_eq_getElem (ah ▸ du);have:=R.p9 (w':=w') c' (hr k c _ hk hu) aa λc aa=>same c (ju k c du aa) (cQ k c du aa);simp [walk,ph aW hu,ph mn hu,this]
   ·exact h
end
end Go.Own
namespace Go.Own
open Go
variable [cG]
section
variable {w w':World}{I:a'}{T:Array Value}{g:aL}{Fs:Nat->a'}
theorem cB.LO (h:cB w I T g Fs) {t:Nat}{x:ab}(J:g t=some x):∃ v,T[t]?=some v/\dx w T ⟨t,[]⟩=some v/\jH w I (dy w T g) x v (Fs t):=by
 obtain ⟨v,hv,a1⟩:=h.rel t x J;exact ⟨v,hv,by simp [dx,hv,walk],a1⟩
theorem cB.app (h:cB w I T g Fs) {z n m:Nat}{p:Place}{bv dK:Value}{e b6:TypeId}{us news:List Value}(jw:dy w T g (.bM z p n 0 []) bv)
  (eL:∀ t bR cq m' cN,g t≠some (.bM bR p cq m' cN)) (A:Bc w w' bv dK e b6 z n m us news):cB w' I T g Fs/\∀ r v,dy w T g r v->dy w' T g r v:=by
 cases i_:bv.ownBlock with
 | none =>
  have same:∀ c,c<w.heap.size->w'.heap[c]?=w.heap[c]?:=λc aa=>A.dN.block c aa (by rw [i_]; simp);exact ⟨h.world (λt c aa=>same c (h.jd t c aa)) (λc aa=>same c (h.lt c aa)) A.dN.size,λr v hr=>h.GO (λ_ _=>rfl) (λt c aa=>same c (h.jd t c aa)) (λ_ _ h=>h) hr⟩
 | some b =>
  have s:EV w w' b (n * z):=by
   refine ⟨λc aa cQ=>A.dN.block c aa (by rw [i_]; simpa using Ne.symm cQ),?_⟩;obtain ⟨arr,jn,h1,af,aF,bh⟩:=A.sp b i_;exact ⟨arr,jn,e,h1,af,aF,bh⟩
  obtain ⟨t0,tj⟩:=h.E8 jw b i_;have bf:∀ c,I c->c<w.heap.size/\c≠b:=λc aa=>⟨h.lt c aa,λe=>h.bc t0 b tj (e ▸ aa)⟩;obtain ⟨⟨wT,wU,Jw,rfl⟩,c7⟩:=jw
  -- the home of the block
  have home:∃ N:Place->Prop,(∀ q bR cq cs' nj,bH g q=some (.own bR cq cs')->dx w T q=some nj->nj.ownBlock=some b->N q) /\
    (∀ q,N q->∀ t bR cq m' cN,g t=some (.bM bR q cq m' cN)->t=p.root/\p.path=[]) /\
    (∀ t bR fB cq m' cN,Fs t b->g t=some (.bM bR fB cq m' cN)->t=p.root/\p.path=[]) /\
    (∀ bR fB cq m' cN,p.path=[]->g p.root=some (.bM bR fB cq m' cN)->bR=z/\n=cq+m') /\
    (∀ t x v,Fs t b->g t=some x->T[t]?=some v->R w I (dy w T g) x v (Fs t)->∃ q bR cq cs' h0,x.at q=some (.own bR cq cs')/\walk w v q=some h0/\h0.ownBlock=some b/\cq * bR<=n * z):=by
   rcases c7 with ⟨cs,aq⟩ | ⟨fN,mu,nI,m1,afs,cs,aq,aB,CJ⟩
   ·-- the base is a row of a tree
    obtain ⟨qU,q4,gJ,hB,mO⟩:=h.part aq (by simp);rw [Jw] at gJ;cases gJ;have j':t0=p.root:=h.ea _ _ _ tj (mO b (hB.rJ b i_));obtain ⟨dW,ix⟩:∃ dW,g p.root=some dW:=by
     unfold bH at aq;cases J:g p.root with
     | none=>rw [J] at aq; cases aq
     | some x=>exact ⟨x,rfl⟩
    have pN:dW.at p.path=some (.own z n cs):=by simpa [bH,ix] using aq
    have lG:∀ bR fB cq m' cN,g p.root≠some (.bM bR fB cq m' cN):=by
     intro bR fB cq m' cN bQ;rw [ix] at bQ;cases bQ;have:=(ab.s8 pN).2;simp at this
    obtain ⟨v0,kx,gr⟩:=h.rel _ _ ix;have B':=gr.gu (λbR fB cq m' cN e=>lG bR fB cq m' cN (by rw [ix,e]));have CX:walk w v0 p.path=some (.slice wT n wU):=by simpa [dx,kx] using Jw
    refine ⟨λq=>q=p,?_,?_,?_,?_,?_⟩
    ·intro q bR cq cs' nj a_ tn xp;obtain ⟨RH,HD,vQ,Jg,I9⟩:=h.part a_ (by simp);rw [tn] at vQ;cases vQ;have hr:q.root=p.root:=(h.ea _ _ _ (I9 b (Jg.rJ b xp)) tj).trans j';have Cj:dW.at q.path=some (.own bR cq cs'):=by simpa [bH,hr,ix] using a_
     have Kl:walk w v0 q.path=some nj:=by simpa [dx,hr,kx] using tn
     have:=R.K_ q.path p.path B' Cj pN Kl CX xp i_;cases q; cases p; simp_all
    ·rintro q rfl t bR cq m' cN bQ; exact absurd bQ (eL t bR cq m' cN)
    ·intro t bR fB cq m' cN jx bQ;have:t=p.root:=(h.ea _ _ _ jx tj).trans j';rw [this] at bQ;exact absurd bQ (lG _ _ _ _ _)
    ·intro bR fB cq m' cN _ bQ; exact absurd bQ (lG _ _ _ _ _)
    ·intro t x v jx J hv a1;have:t=p.root:=(h.ea _ _ _ jx tj).trans j';subst this;rw [ix] at J; cases J;rw [kx] at hv; cases hv;exact ⟨_,_,_,_,_,pN,CX,i_,Nat.le_refl _⟩
   ·-- the base is behind an append itself
    obtain ⟨v0,kx,CV,gr⟩:=h.LO aq;have Yb:v0=.slice wT n wU:=by
     have:(⟨p.root,[]⟩:Place)=p:=by cases p; simp_all
     rw [this,Jw] at CV;exact (Option.some.inj CV).symm
    subst Yb;obtain ⟨Tx,ca,aep,abr,afu,gr⟩:=gr.vV;by_cases gS:Tx.ownBlock=some b
    ·obtain ⟨⟨aw,Nd,O_,rfl⟩,_⟩:=gr.jw;obtain ⟨nj,HD,tn,Jg,I9⟩:=h.part CJ (by simp);rw [O_] at tn;cases tn;have j':t0=mu.root:=h.ea _ _ _ tj (I9 b (Jg.rJ b gS));obtain ⟨dW,ix⟩:∃ dW,g mu.root=some dW:=by
      unfold bH at CJ;cases J:g mu.root with
      | none=>rw [J] at CJ; cases CJ
      | some x=>exact ⟨x,rfl⟩
     have pN:dW.at mu.path=some (.own z nI cs):=by simpa [bH,ix] using CJ
     have lG:∀ bR fB cq m' cN,g mu.root≠some (.bM bR fB cq m' cN):=by
      intro bR fB cq m' cN bQ;rw [ix] at bQ;cases bQ;have:=(ab.s8 pN).2;simp at this
     obtain ⟨v1,qC,qt⟩:=h.rel _ _ ix;have Wr:=qt.gu (λbR fB cq m' cN e=>lG bR fB cq m' cN (by rw [ix,e]));have CX:walk w v1 mu.path=some (.slice aw nI Nd):=by simpa [dx,qC] using O_
     refine ⟨λq=>q=mu,?_,?_,?_,?_,?_⟩
     ·intro q bR cq cs' nj a_ tn xp;obtain ⟨RH,Si,vQ,Jh,I_⟩:=h.part a_ (by simp);rw [tn] at vQ;cases vQ;have hr:q.root=mu.root:=(h.ea _ _ _ (I_ b (Jh.rJ b xp)) tj).trans j';have Cj:dW.at q.path=some (.own bR cq cs'):=by simpa [bH,hr,ix] using a_
      have Kl:walk w v1 q.path=some nj:=by simpa [dx,hr,qC] using tn
      have:=R.K_ q.path mu.path Wr Cj pN Kl CX xp gS;cases q; cases mu; simp_all
     ·rintro q rfl t bR cq m' cN bQ; exact ⟨h.rR _ _ _ _ _ _ _ _ _ _ _ bQ aq,fN⟩
     ·intro t bR fB cq m' cN jx bQ;have:t=mu.root:=(h.ea _ _ _ jx tj).trans j';rw [this] at bQ;exact absurd bQ (lG _ _ _ _ _)
     ·intro bR fB cq m' cN _ bQ;rw [aq] at bQ; cases bQ; exact ⟨rfl,aB⟩
     ·intro t x v jx J hv a1;have:t=mu.root:=(h.ea _ _ _ jx tj).trans j';subst this;rw [ix] at J; cases J;rw [qC] at hv; cases hv;exact ⟨_,_,_,_,_,pN,CX,gS,Nat.mul_le_mul_right _ (by omega)⟩
    ·have mN:Fs p.root b:=(gr.aH b).2 ⟨i_,gS⟩;have j':t0=p.root:=h.ea _ _ _ tj mN;refine ⟨λ_=>False,?_,λ_ h=>h.elim,?_,?_,?_⟩
     ·intro q bR cq cs' nj a_ tn xp;obtain ⟨RH,Si,vQ,Jh,I_⟩:=h.part a_ (by simp);rw [tn] at vQ;cases vQ;have hr:q.root=p.root:=h.ea _ _ _ (I_ b (Jh.rJ b xp)) mN;unfold bH at a_;rw [hr,aq] at a_;have:=(ab.s8 a_).2;simp at this
     ·intro t bR fB cq m' cN jx _; exact ⟨h.ea _ _ _ jx mN,fN⟩
     ·intro bR fB cq m' cN _ bQ;rw [aq] at bQ; cases bQ; exact ⟨rfl,aB⟩
     ·intro t x v jx J hv a1;have:t=p.root:=h.ea _ _ _ jx mN;subst this;rw [aq] at J; cases J;exact a1.lG.elim
  obtain ⟨N,Ob,Oc,Od,Wm,Wn⟩:=home
  -- rows of pends
  have pends:∀ t bR fB cq m' cN v zt b4 ud iR Gh,g t=some (.bM bR fB cq m' cN)->T[t]?=some v->HJ w I (dy w T g) bR fB cq m' cN v (Fs t) zt b4 ud iR Gh ->
    (v.ownBlock=some b->(cq+m') * bR<=n * z)/\(zt.ownBlock=some b->cq * bR<=n * z):=by
   intro t bR fB cq m' cN v zt b4 ud iR Gh aQ hv a1;by_cases au:t=p.root/\p.path=[]
   ·obtain ⟨rfl,fN⟩:=au;obtain ⟨rfl,rfl⟩:=Wm _ _ _ _ _ fN aQ;exact ⟨λ_=>Nat.le_refl _,λ_=>Nat.mul_le_mul_right _ (by omega)⟩
   ·have vB:zt.ownBlock≠some b:=by
     intro j_;obtain ⟨⟨a2,sc,O',rfl⟩,XO⟩:=a1.jw;rcases XO with ⟨cs2,af⟩ | ⟨aK,Ls,PX,m3,aft,aei,af,aF,bh⟩
     ·exact au (Oc fB (Ob fB _ _ _ _ af O' j_) t _ _ _ _ aQ)
     ·obtain ⟨v2,tm,O8,mP⟩:=h.LO af;have zW:(⟨fB.root,[]⟩:Place)=fB:=by cases fB; simp_all
      rw [zW,O'] at O8;cases O8;have O1:fB.root=p.root/\p.path=[]->False:=by
       rintro ⟨hr,fN⟩;have:fB=p:=by cases fB; cases p; simp_all
       exact eL t bR cq m' cN (this ▸ aQ)
      obtain ⟨Ty,eI,aeq,afI,afv,mP⟩:=mP.vV;by_cases lX:Ty.ownBlock=some b
      ·obtain ⟨⟨a4,acw,Yd,rfl⟩,_⟩:=mP.jw;exact O1 (Oc Ls (Ob Ls _ _ _ _ bh Yd lX) _ _ _ _ _ af)
      ·exact O1 (Od _ _ _ _ _ _ ((mP.aH b).2 ⟨j_,lX⟩) af)
    refine ⟨λCW=>?_,λj_=>absurd j_ vB⟩;exact absurd (Od _ _ _ _ _ _ ((a1.aH b).2 ⟨CW,vB⟩) aQ) au
  -- trees
  have aN:=h.jd;have trees:∀ t x v (ρ':ab->Value->Prop),(∀ x v,dy w T g x v->ρ' x v)->g t=some x->T[t]?=some v->R w I (dy w T g) x v (Fs t)->R w' I ρ' x v (Fs t)/\∀ r y,x.at r=some y->walk w' v r=walk w v r:=by
   intro t x v ρ' l3 J hv a1;by_cases jx:Fs t b
   ·obtain ⟨q,bR,cq,cs',h0,h1,af,aF,bh⟩:=Wn t x v jx J hv a1;exact a1.spare s bf l3 h1 af aF bh
   ·have same:∀ c,Fs t c->w'.heap[c]?=w.heap[c]?:=λc aa=>s.other c (aN t c aa) λe=>jx (e ▸ aa);exact ⟨a1.frame (λc aa=>s.other c (bf c aa).1 (bf c aa).2) (λ_ h=>h) l3 same,λr y hr=>R.p9 r a1 hr same⟩
  have val:∀ q y,bH g q=some y->dx w' T q=dx w T q:=by
   intro q y a_;unfold bH at a_;cases J:g q.root with
   | none=>rw [J] at a_; cases a_
   | some x =>
    rw [J] at a_;obtain ⟨v,hv,a1⟩:=h.rel _ _ J;cases a1 with
    | tree a1=>have:=(trees _ x v _ (λ_ _ h=>h) J hv a1).2 q.path y a_; simp [dx,hv,this]
    | bM a1=>simp [dx,hv,(ab.s8 a_).1,walk]
  have slot:∀ {q:Place}{x:ab},q.path=[]->g q.root=some x->dx w' T q=dx w T q:=by
   intro q x a_ J;obtain ⟨v,hv,_⟩:=h.rel _ _ J;simp [dx,a_,walk]
  have refs:∀ r v,dy w T g r v->dy w' T g r v:=by
   rintro r v ⟨h1,af⟩;refine ⟨?_,af⟩;cases r <;> simp only [fk,gE] at h1 af ⊢
   case ptr q k=>obtain ⟨y,ao,_⟩:=af; rw [val q y ao]; exact h1
   case a7 bR q cq =>
    rcases af with ⟨_,_,af,_⟩ | ⟨aK,_,_,_,_,af,_⟩
    ·rw [val q _ af]; exact h1
    ·rw [slot aK af]; exact h1
   case sub bR q lo cq=>obtain ⟨_,_,af,_⟩:=af; rw [val q _ af]; exact h1
   case gl q=>obtain ⟨_,af⟩:=af; rw [val q _ af]; exact h1
   case bM bR q cq m' cN =>
    rcases af with ⟨_,af⟩ | ⟨aK,_,_,_,_,_,af,_⟩
    ·rw [val q _ af]; exact h1
    ·rw [slot aK af]; exact h1
  refine ⟨⟨λt x J=>?_,h.ln,h.ea,h.bc,λc aa=>Nat.lt_of_lt_of_le (h.lt c aa) A.dN.size,h.rR,cG.keep h.hR (λc aa=>s.other c (bf c aa).1 (bf c aa).2) λ_ h=>h⟩,refs⟩;obtain ⟨v,hv,a1⟩:=h.rel t x J;refine ⟨v,hv,?_⟩;cases a1 with
  | tree a1=>exact .tree (trees t x v _ refs J hv a1).1
  | @bM bR cq m' fB cN _ zt b4 ud iR Gh _ a1 =>
   obtain ⟨ew,rK⟩:=pends t _ _ _ _ _ v zt b4 ud iR Gh J hv a1;refine .bM ⟨refs _ _ a1.jw,s.row a1.kK rK,s.row a1.mU ew,a1.ah,a1.h1,λk x u J hu=>?_,a1.aH⟩;exact (a1.hr k x u J hu).frame (λc aa=>s.other c (bf c aa).1 (bf c aa).2) (λ_ h=>h) refs λc aa=>aa.elim
end
def tN (w:World) (I:a') (T:Array Value) (g:aL) (Fs:Nat->a') (x:ab) (v:Value) (w':World):Prop :=
 ∃ F I',cB w' I' T g Fs/\jH w' I' (dy w' T g) x v F/\(∀ t c,F c->¬ Fs t c)/\(∀ c,F c->w.heap.size<=c/\¬ I' c)/\(∀ c,I c->I' c)/\(∀ c,I' c->I c\/w.heap.size<=c)/\Fr w w' (λc=>∃ t,Fs t c)/\(∀ z p n m new,x=.bM z p n m new->∀ t bR cq m' cN,g t≠some (.bM bR p cq m' cN))
inductive Src (g:aL):ab->Nat->Nat->List ab->Prop
 | bc {z m:Nat}{cs:List ab}:Src g (.bc z m cs) z m cs
 | aP {z:Nat}:Src g .aP z 0 []
 | a7 {z m N:Nat}{q:Place}{cs:List ab}(a_:bH g q=some (.own z N cs)) (hm:m<=N):Src g (.a7 z q m) z m ((cs.take (m * z)).mapIdx λi x=>fY 0 (q.push i) x)
 | sub {z lo m N:Nat}{q:Place}{cs:List ab}(a_:bH g q=some (.own z N cs)) (hm:lo+m<=N):Src g (.sub z q lo m) z m (((cs.drop (lo * z)).take (m * z)).mapIdx λi x=>fY 0 (q.push (lo * z+i)) x)
def il (P:Program) (t e:TypeId) (z b:Nat):Bool :=
 match P.underlying t,P.info? e with
 | some (.slice b4),some i=>b4 == e&&i.size == z&&i.bytes == b&&z != 0&&(match i.zero with | some v=>v.cells.size == z | none=>false)
 | _,_=>false
section
variable {P:Program}{w:World}{I:a'}{T:Array Value}{g:aL}{Fs:Nat->a'}
theorem E4 {t e:TypeId}{z b:Nat}(h:il P t e z b=true):∃ i cW,P.underlying t=some (.slice e)/\P.info? e=some i/\i.size=z/\i.bytes=b/\0<z/\i.zero=some cW/\cW.cells.size=z:=by
 unfold il at h;cases hu:P.underlying t with
 | none=>simp [hu] at h
 | some d =>
  cases hi:P.info? e with
  | none=>cases d <;> simp [hu,hi] at h
  | some i =>
   cases d <;> simp [hu,hi] at h;obtain ⟨⟨⟨⟨rfl,h1⟩,af⟩,aF⟩,bh⟩:=h;cases aX:i.zero with
   | none=>simp [aX] at bh
   | some cW=>simp [aX] at bh; exact ⟨i,cW,rfl,rfl,h1,af,by omega,aX,bh⟩
theorem Src.sound (h:cB w I T g Fs) {y:ab}{v:Value}{z m:Nat}{cells:List ab}(ax:Src g y z m cells) (a1:R w I (dy w T g) y v ck) :
  ∃ (a:Option Addr) (c:Nat) (news:List Value),v=.slice a m c/\news.length=m * z/\(0<m->0<z->a.isSome=true)/\(∀ ad,a=some ad->∀ (j:Nat) (u:Value),news[j]?=some u->w.cell? (ad.add j)=some u)/\Cells w I (dy w T g) cells news:=by
 have Qa:∀ {q:Place}{N:Nat}{cs:List ab}(lo:Nat) {a:Option Addr}{cap:Nat},bH g q=some (.own z N cs)->dx w T q=some (.slice a N cap)->lo+m<=N ->
   ∃ news:List Value,news.length=m * z/\(∀ ad,a=some ad->∀ (j:Nat) (u:Value),news[j]?=some u->w.cell? ⟨ad.block,lo * z+j,none⟩=some u)/\Cells w I (dy w T g) (((cs.drop (lo * z)).take (m * z)).mapIdx λi x=>fY 0 (q.push (lo * z+i)) x) news/\(0<m->0<z->∃ b,a=some ⟨b,0,none⟩):=by
  intro q N cs lo a cap a_ hv hm;obtain ⟨dK,cr,ih,ds,_⟩:=h.part a_ (by simp);rw [hv] at ih;cases ih;obtain ⟨cd,nv,h9,_,hlen,o_,_⟩:=ds.oc;cases h9;have aeQ:lo * z+m * z<=cs.length:=by rw [hlen,<- Nat.add_mul]; exact Nat.mul_le_mul_right _ hm
  have cell:∀ j,j<m * z->∃ b gv lu,a=some ⟨b,0,none⟩/\w.cell? ⟨b,lo * z+j,none⟩=some gv/\gv.oneCell'=true/\cs[lo * z+j]?=some lu/\R w I (dy w T g) (fY 0 (q.push (lo * z+j)) lu) gv ck:=by
   intro j ag;have e':cs[lo * z+j]?=some cs[lo * z+j]:=List.getElem?_eq_getElem (by omega);obtain ⟨b,gv,fy,mQ,n2,ho,bG,kp⟩:=ds.node (.inl rfl) e';refine ⟨b,gv,_,?_,mQ,ho,e',GN 0 (by rw [t_,a_]; simp [ab.kids]) (by rw [yM,hv]; exact n2) kp⟩;cases a with
   | none=>simp [addrOf] at fy
   | some ad=>simp only [addrOf] at fy; rw [Option.some.inj fy]
  have so:∃ news:List Value,news.length=m * z/\∀ j,j<m * z->∃ b gv lu,news[j]?=some gv/\a=some ⟨b,0,none⟩/\w.cell? ⟨b,lo * z+j,none⟩=some gv/\gv.oneCell'=true/\cs[lo * z+j]?=some lu/\R w I (dy w T g) (fY 0 (q.push (lo * z+j)) lu) gv ck:=by
   refine ⟨(List.range (m * z)).map λj=>(w.cell? ⟨(a.map (·.block)).getD 0,lo * z+j,none⟩).getD undef,by simp,λj ag=>?_⟩;obtain ⟨b,gv,lu,h1,af,aF,bh,b7⟩:=cell j ag;refine ⟨b,gv,lu,?_,h1,af,aF,bh,b7⟩;rw [List.getElem?_map,List.getElem?_range ag,h1];simp [af]
  obtain ⟨news,ah,aB⟩:=so;refine ⟨news,ah,λad fy j u ag=>?_,⟨?_,λj u ag=>?_,λj x u J ag=>?_⟩,λJW C4=>?_⟩
  ·obtain ⟨b,gv,lu,h1,af,aF,_⟩:=aB j (by rw [<- ah]; exact (List.getElem?_eq_some_iff.1 ag).1);rw [h1] at ag; cases ag;rw [fy] at af; cases af;exact aF
  ·simp; omega
  ·obtain ⟨b,gv,lu,h1,af,aF,bh,_⟩:=aB j (by rw [<- ah]; exact (List.getElem?_eq_some_iff.1 ag).1);rw [h1] at ag; cases ag; exact bh
  ·obtain ⟨b,gv,lu,h1,af,aF,bh,b7,dp⟩:=aB j (by rw [<- ah]; exact (List.getElem?_eq_some_iff.1 ag).1);rw [h1] at ag; cases ag;rw [List.getElem?_mapIdx,List.getElem?_take] at J
   split at J
   ·rw [List.getElem?_drop,b7] at J;simp only [Option.map_some,Option.some.injEq] at J;rw [<- J]; exact dp
   ·cases J
  ·obtain ⟨b,_,_,h1,_⟩:=cell 0 (Nat.mul_pos JW C4);exact ⟨b,h1⟩
 cases ax with
 | bc =>
  obtain ⟨a,cap,rfl,_,hlen,hm⟩:=a1.z_;by_cases aK:cells≠[]\/0<m
  ·obtain ⟨ad,us,rfl,bf,ja,ho,aa,hr⟩:=hm aK;refine ⟨_,cap,(List.range cells.length).map us,rfl,by simp [hlen],by simp,λMG fy j u ag=>?_,⟨by simp,λj u ag=>?_,λj x u J ag=>?_⟩⟩
   ·cases fy;rw [List.getElem?_map] at ag;by_cases ez:j<cells.length
    ·rw [List.getElem?_range ez] at ag;simp only [Option.map_some,Option.some.injEq] at ag;obtain ⟨b,o,sp⟩:=ad;simp only at ja;subst ja;rw [add_eq,<- ag];exact aa j _ (List.getElem?_eq_getElem ez)
    ·rw [List.getElem?_eq_none (by simp; omega)] at ag; cases ag
   ·rw [List.getElem?_map] at ag;by_cases ez:j<cells.length
    ·rw [List.getElem?_range ez] at ag;simp only [Option.map_some,Option.some.injEq] at ag;rw [<- ag];exact ho j _ (List.getElem?_eq_getElem ez)
    ·rw [List.getElem?_eq_none (by simp; omega)] at ag; cases ag
   ·rw [List.getElem?_map] at ag;have ez:j<cells.length:=(List.getElem?_eq_some_iff.1 J).1;rw [List.getElem?_range ez] at ag;simp only [Option.map_some,Option.some.injEq] at ag;rw [<- ag];exact hr j x J
  ·have JW:m=0:=by omega
   have Cn:cells=[]:=Classical.byContradiction λe=>aK (.inl e);subst JW Cn;exact ⟨a,cap,[],rfl,by simp,by simp,by simp,by simp [Cells]⟩
 | aP =>
  rw [a1.rD];exact ⟨none,0,[],rfl,by simp,by simp,by simp,by simp [Cells]⟩
 | @a7 _ _ N q cs a_ hm =>
  obtain ⟨⟨a,kE,cap,h1,rfl,aF⟩,bh⟩:=a1.n4;obtain ⟨dK,cr,ih,ds,_⟩:=h.part a_ (by simp);obtain ⟨cd,nv,h9,_⟩:=ds.oc;rw [h1] at ih;cases ih;cases h9;obtain ⟨news,ah,aa,eV,aJ⟩:=Qa 0 a_ h1 (by omega);simp only [Nat.zero_mul,List.drop_zero,Nat.zero_add] at eV aa;refine ⟨a,cap,news,rfl,ah,λaK Fp=>by obtain ⟨b,rfl⟩:=aJ aK Fp; rfl,λad fy j u ag=>?_,eV⟩;have xw:=aa ad fy j u ag;by_cases aK:0<m/\0<z
  ·obtain ⟨b,ar⟩:=aJ aK.1 aK.2;rw [fy] at ar; cases ar;rw [add_eq]; simpa using xw
  ·have:m * z=0:=by
    rcases Nat.eq_zero_or_pos m with h | h
    ·simp [h]
    ·rcases Nat.eq_zero_or_pos z with aI | aI
     ·simp [aI]
     ·exact absurd ⟨h,aI⟩ aK
   have:=(List.getElem?_eq_some_iff.1 ag).1;omega
 | @sub _ lo _ N q cs a_ hm =>
  obtain ⟨⟨a,kE,cap,cd,nv,h1,rfl,_,aF,b7⟩,bh⟩:=a1.z';obtain ⟨dK,cr,ih,ds,_⟩:=h.part a_ (by simp);obtain ⟨a2,sc,h9,_⟩:=ds.oc;rw [h1] at ih;cases ih;cases h9;obtain ⟨news,ah,aa,eV,aJ⟩:=Qa lo a_ h1 hm;refine ⟨cd,nv,news,rfl,ah,λaK _=>by obtain ⟨ad,_,rfl⟩:=b7 aK; rfl,λad fy j u ag=>?_,eV⟩;have aN:=(List.getElem?_eq_some_iff.1 ag).1;have aK:0<m:=(Nat.eq_zero_or_pos m).elim (λh=>by rw [h] at ah; omega) id

  have aX:0<z:=(Nat.eq_zero_or_pos z).elim (λh=>by rw [h] at ah; omega) id

  obtain ⟨MG,dp,kJ⟩:=b7 aK;obtain ⟨b,ar⟩:=aJ aK aX;rw [dp] at ar; cases ar;rw [fy] at kJ; cases kJ;have xw:=aa _ dp j u ag;rw [add_eq]; simpa using xw
end
inductive Bp (P:Program) (g:aL):Op->TypeId->ab->Prop
 | grow {s x:Operand}{t e ty:TypeId}{z b n m:Nat}{p:Place}{y:ab}{cells:List ab}(ax:bw g s=some (.a7 z p n)) (c7:gE g (.bM z p n 0 [])) (eL:∀ t bR cq m' cN,g t≠some (.bM bR p cq m' cN))
   (J:bw g x=some y) (oI:Src g y z m cells) (au:il P t e z b=true) (o5:n+m<=4611686018427387904) (ar:(n+m) * b<=140737488355328) :
   Bp P g (.call { callee:=.builtin .append,args:=#[s,x],argTypes:=#[t,t] }) ty (.bM z p n m cells)
 | nil {s x:Operand}{t e ty:TypeId}{z b m:Nat}{y:ab}{cells:List ab}(ax:bw g s=some .aP)
   (J:bw g x=some y) (oI:Src g y z m cells) (au:il P t e z b=true) (o5:m<=4611686018427387904) (ar:m * b<=140737488355328) :
   Bp P g (.call { callee:=.builtin .append,args:=#[s,x],argTypes:=#[t,t] }) ty (.own z m cells)
inductive bT (P:Program) (g:aL):Op->TypeId->ab->Prop
 | ew {op:Op}{ty:TypeId}{x:ab}(h:dh P g op ty x):bT P g op ty x
 | rK {op:Op}{ty:TypeId}{x:ab}(h:ot P g op ty x):bT P g op ty x
 | As {op:Op}{ty:TypeId}{x:ab}(h:vd P g op ty x):bT P g op ty x
 | je {op:Op}{ty:TypeId}{x:ab}(h:Bp P g op ty x):bT P g op ty x
section
variable {P:Program}{w:World}{I:a'}{T:Array Value}{g:aL}{Fs:Nat->a'}
theorem Cells.frame {w':World}{cells:List ab}{news:List Value}(aa:Cells w I (dy w T g) cells news) (bf:∀ c,I c->w'.heap[c]?=w.heap[c]?) (hr:∀ r v,dy w T g r v->dy w' T g r v):Cells w' I (dy w' T g) cells news :=
 ⟨aa.1,aa.2.1,λk x u J hu=>(aa.2.2 k x u J hu).frame bf (λ_ h=>h) hr λ_ h=>h.elim⟩
theorem Bp.sound (h:cB w I T g Fs) {a:Act}(aJ:a.tmps=T) {o:Oper}{kW:ab}(aq:Bp P g o.op o.type kW) :
  ∃ v w',(execOp a.eval o).run P w=.ok (.value v) w'/\tN w I T g Fs kW v w':=by
 obtain ⟨dst,op,ty,pos,after,guard⟩:=o;simp only at aq;cases aq with
 | @grow s x t e _ z b n m p y cells ax c7 eL J oI au o5 ar =>
  obtain ⟨i,cW,hu,hi,rfl,rfl,aK,aX,l2⟩:=E4 au;obtain ⟨⟨wT,N,wU,h1,af,aF⟩,bh⟩:=(ke h ax aJ).n4;obtain ⟨yC,wy,news,rv,ah,xF,xG,eV⟩:=oI.sound h (ke h J aJ)
  -- the row of the base
  have ru:N=n/\∃ b4 us,w.ownsRow 0 b4 i.size (.slice wT n wU) n us:=by
   rcases c7 with ⟨cs,aq⟩ | ⟨fN,q,gP,m0,new,cs,aq,rfl,_⟩
   ·obtain ⟨dK,cr,ih,ds,_⟩:=h.part aq (by simp);rw [h1] at ih;cases ih;obtain ⟨cd,nv,h9,_⟩:=ds.oc;cases h9;cases ds with
    | own aW=>exact ⟨rfl,_,_,aW⟩
    | ref J=>simp [ab.isRef] at J
   ·obtain ⟨v0,kx,CV,gr⟩:=h.LO aq;have a_:(⟨p.root,[]⟩:Place)=p:=by cases p; simp_all
    rw [a_,h1] at CV;cases CV;obtain ⟨bv,ca,b6,us,afw,gr⟩:=gr.vV;have bt:N=gP+m0:=by
     obtain ⟨_,bQ⟩:=gr.mU;rcases bQ with ⟨bQ,aB⟩ | ⟨g,cap,cur,bQ,_⟩
     ·cases bQ; omega
     ·cases bQ; rfl
    subst bt;exact ⟨rfl,_,_,gr.mU⟩
  obtain ⟨rfl,b4,us,kK⟩:=ru;have jw:dy w T g (.bM i.size p N 0 []) (.slice wT N wU):=⟨⟨wT,wU,h1,rfl⟩,c7⟩;obtain ⟨dK,w',b6,hp,A⟩:=GV (P:=P) (w:=w) t ty e b4 i cW hu hi aX l2 aK kK (a:=yC) (c:=wy) (m:=m) (news:=news) (λhm=>xF hm aK) ah xG (λu hu=>by
   obtain ⟨k,hk,rfl⟩:=List.mem_iff_getElem.1 hu;exact eV.2.1 k _ (List.getElem?_eq_getElem hk)) (by unfold maxLen; omega) ar
  obtain ⟨bg,hrefs⟩:=h.app jw eL A;refine ⟨dK,w',by simp [execOp,resolve,invoke,builtin,af,rv,hp],(λc=>dK.ownBlock=some c/\(Value.slice wT N wU).ownBlock≠some c),I,bg,?_,?_,?_,λ_ h=>h,λ_ h=>.inl h,?_,?_⟩
  ·have bf:∀ c,I c->w'.heap[c]?=w.heap[c]?:=by
    intro c aa;refine A.dN.block c (h.lt c aa) λar=>?_;obtain ⟨t,au⟩:=h.E8 jw c ar;exact h.bc t c au aa
   have lZ:=eV.frame bf hrefs;exact .bM ⟨hrefs _ _ jw,A.nc,A.new,lZ.1,lZ.2.1,lZ.2.2,λc=>Iff.rfl⟩
  ·rintro t c ⟨kt,qy⟩ aV;rcases A.BC c kt with h | aI
   ·exact qy h
   ·have:=h.jd t c aV; omega
  ·rintro c ⟨kt,qy⟩;rcases A.BC c kt with aI | aI
   ·exact absurd aI qy
   ·exact ⟨aI,λhi=>by have:=h.lt c hi; omega⟩
  ·exact A.dN.mono λc _ aa=>h.E8 jw c aa
  ·intro bR Lh cq m' cN he;cases he;exact eL
 | @nil s x t e _ z b m y cells ax J oI au o5 ar =>
  obtain ⟨i,cW,hu,hi,rfl,rfl,aK,aX,l2⟩:=E4 au;have af:=(ke h ax aJ).rD;obtain ⟨yC,wy,news,rv,ah,xF,xG,eV⟩:=oI.sound h (ke h J aJ);obtain ⟨dK,w',b6,hp,A⟩:=GV (P:=P) (w:=w) t ty e e i cW hu hi aX l2 aK (World.ownsRow_nil w 0 e i.size) (a:=yC) (c:=wy) (m:=m) (news:=news) (λhm=>xF hm aK) ah xG (λu hu=>by
   obtain ⟨k,hk,rfl⟩:=List.mem_iff_getElem.1 hu;exact eV.2.1 k _ (List.getElem?_eq_getElem hk)) (by unfold maxLen; omega) (by simpa using ar)
  have same:∀ c,c<w.heap.size->w'.heap[c]?=w.heap[c]?:=λc aa=>A.dN.block c aa (by simp [Value.ownBlock]);have sn:=A.new;simp only [Nat.zero_add,List.nil_append] at sn;have lZ:=eV.frame (λc aa=>same c (h.lt c aa)) λr v hr=>h.GO (λ_ _=>rfl) (λt c aa=>same c (h.jd t c aa)) (λ_ _ h=>h) hr;have hblk:∀ c,dK.ownBlock=some c->w.heap.size<=c:=λc aa=>(A.BC c aa).elim (λh=>by simp [Value.ownBlock] at h) id;refine ⟨dK,w',by simp [execOp,resolve,invoke,builtin,af,rv,hp],(λc=>dK.ownBlock=some c),I,h.world (λt c aa=>same c (h.jd t c aa)) (λc aa=>same c (h.lt c aa)) A.dN.size,?_,?_,λc aa=>⟨hblk c aa,λhi=>by have:=h.lt c hi; have:=hblk c aa; omega⟩,λ_ h=>h,λ_ h=>.inl h,?_,?_⟩
  ·exact .tree (.own (Fs:=λ_=>ck) sn lZ.1 lZ.2.1 lZ.2.2 (λ_ _ _ _ _ h=>h.elim) (λ_ _ _ h=>h.elim) λc=>⟨.inl,λh=>h.elim id λ⟨_,_,h⟩=>h.elim⟩)
  ·intro t c aa aV; have:=hblk c aa; have:=h.jd t c aV; omega
  ·exact A.dN.mono λc _ aa=>by simp [Value.ownBlock] at aa
  ·intro bR Lh cq m' cN he; cases he
theorem bT.sound (h:cB w I T g Fs) {a:Act}(aJ:a.tmps=T) {o:Oper}{kW:ab}(aq:bT P g o.op o.type kW) :
  ∃ v w',(execOp a.eval o).run P w=.ok (.value v) w'/\tN w I T g Fs kW v w':=by
 have Dn:∀ {v:Value}{F:a'},R w I (dy w T g) kW v F->∀ z p n m new,kW=.bM z p n m new->∀ t bR cq m' cN,g t≠some (.bM bR p cq m' cN):=by
  rintro v F a1 z p n m new rfl;exact a1.lG.elim
 cases aq with
 | ew aq =>
  obtain ⟨v,hr,a1⟩:=aq.sound h aJ;exact ⟨v,w,hr,ck,I,h,.tree a1,λ_ _ h=>h.elim,λ_ h=>h.elim,λ_ h=>h,λ_ h=>.inl h,Fr.refl _ _,Dn a1⟩
 | As aq =>
  obtain ⟨v,hr,a1⟩:=aq.sound h aJ;exact ⟨v,w,hr,ck,I,h,.tree a1,λ_ _ h=>h.elim,λ_ h=>h.elim,λ_ h=>h,λ_ h=>.inl h,Fr.refl _ _,Dn a1⟩
 | rK aq =>
  obtain ⟨v,sK,hr,a1⟩:=aq.sound h aJ;refine ⟨v,_,hr,_,I,h.alloc sK,.tree a1,λt c aa aV=>?_,λc aa=>⟨by rw [aa]; exact Nat.le_refl _,λhi=>by have:=h.lt c hi; omega⟩,λ_ h=>h,λ_ h=>.inl h,Fr.alloc w sK _ (by
   obtain ⟨o,h1,af⟩:=a1.ZT w.heap.size rfl;rw [rb] at h1;cases h1;exact af),?_⟩
  ·have:=h.jd t c aV; omega
  ·rintro z p n m new rfl; exact a1.lG.elim
 | je aq=>exact aq.sound h aJ
end
inductive cE:ab->Prop
 | lit {v:Value}:cE (.lit v)
 | aP:cE .aP
 | dead:cE .dead
 | self {k:Nat × Nat}:cE (.self k)
 | bc {z n:Nat}{cs:List ab}(h:∀ x∈cs,cE x):cE (.bc z n cs)
 | own {z n:Nat}{cs:List ab}(h:∀ x∈cs,cE x):cE (.own z n cs)
 | obj {cs:List ab}(h:∀ x∈cs,cE x):cE (.obj cs)
 | agg {cs:List ab}(h:∀ x∈cs,cE x):cE (.agg cs)
 | bS {cs:List ab}(h:∀ x∈cs,cE x):cE (.bS cs)
 | cx {cs:List ab}(h:∀ x∈cs,cE x):cE (.cx cs)
 | cF {fn:Fn}{a b:List ab}(h1:∀ x∈a,cE x) (af:∀ x∈b,cE x):cE (.cF fn a b)
 | mp {p:Array MapEntry->Nat->Prop}:cE (.mp p)
 | hV {t:Nat}{us:List Value}:cE (.hV t us)
 | imp {p:Array MapEntry->Nat->Prop}:cE (.imp p)
inductive j5:ab->Prop
 | lit {v:Value}:j5 (.lit v)
 | aP:j5 .aP
 | dead:j5 .dead
 | self {k:Nat × Nat}:j5 (.self k)
 | own {z n:Nat}{cs:List ab}(h:∀ x∈cs,j5 x):j5 (.own z n cs)
 | obj {cs:List ab}(h:∀ x∈cs,j5 x):j5 (.obj cs)
 | agg {cs:List ab}(h:∀ x∈cs,j5 x):j5 (.agg cs)
 | bS {cs:List ab}(h:∀ x∈cs,j5 x):j5 (.bS cs)
 | mp {p:Array MapEntry->Nat->Prop}:j5 (.mp p)
 | hV {t:Nat}{us:List Value}:j5 (.hV t us)
 | gM {z:Nat}:j5 (.bc z 0 [])
theorem j5.bq {x:ab}(h:j5 x):cE x:=by
 induction h with
 | lit=>exact .lit
 | aP=>exact .aP
 | dead=>exact .dead
 | self=>exact .self
 | own _ aM=>exact .own aM
 | obj _ aM=>exact .obj aM
 | agg _ aM=>exact .agg aM
 | bS _ aM=>exact .bS aM
 | mp=>exact .mp
 | hV=>exact .hV
 | gM=>exact .bc (by simp)
inductive Rows (g:aL):Place->Nat->Nat->List ab->Prop
 | own {p:Place}{z n:Nat}{cs:List ab}(aq:bH g p=some (.own z n cs)):Rows g p z n cs
 | bM {t z n m:Nat}{q:Place}{new cs:List ab}(au:g t=some (.bM z q n m new)) (a_:Rows g q z n cs):Rows g ⟨t,[]⟩ z (n+m) (cs++new)
theorem Rows.mono {g g':aL}(h:∀ {p:Place}{y:ab},bH g p=some y->bH g' p=some y) {p:Place}{z n:Nat}{cs:List ab}(hr:Rows g p z n cs) (af:∀ t x,g t=some x->g' t=some x):Rows g' p z n cs:=by
 induction hr with
 | own aq=>exact .own (h aq)
 | bM au _ aM=>exact .bM (af _ _ au) aM
inductive View (g:aL):ab->ab->Prop
 | self {x:ab}(h:cE x) (J:∀ z n cs,x≠.own z n cs) (aW:∀ cs,x≠.obj cs) (aJ:∀ cs,x≠.agg cs) (au:∀ cs,x≠.bS cs) (hm:(∀ p,x≠.mp p)/\∀ t us,x≠.hV t us):View g x x
 | mp {p:Array MapEntry->Nat->Prop}:View g (.mp p) (.imp p)
 | gl {p:Place}{q:Array MapEntry->Nat->Prop}(aq:bH g p=some (.mp q)):View g (.gl p) (.imp q)
 | qK {z:Nat}:View g .aP (.bc z 0 [])
 | agg {cs cs':List ab}(ah:cs'.length=cs.length) (h:∀ (k:Nat) (x y:ab),cs[k]?=some x->cs'[k]?=some y->View g x y):View g (.agg cs) (.agg cs')
 | own {z n:Nat}{cs cs':List ab}(ah:cs'.length=cs.length) (h:∀ (k:Nat) (x y:ab),cs[k]?=some x->cs'[k]?=some y->View g x y):View g (.own z n cs) (.bc z n cs')
 | obj {cs cs':List ab}(ah:cs'.length=cs.length) (h:∀ (k:Nat) (x y:ab),cs[k]?=some x->cs'[k]?=some y->View g x y):View g (.obj cs) (.cx cs')
 | a7 {z n N:Nat}{p:Place}{cs cs':List ab}(aq:bH g p=some (.own z N cs)) (aB:n<=N) (ah:cs'.length=(cs.take (n * z)).length) (h:∀ (k:Nat) (x y:ab),(cs.take (n * z))[k]?=some x->cs'[k]?=some y->View g x y):View g (.a7 z p n) (.bc z n cs')
 | sub {z lo n N:Nat}{p:Place}{cs cs':List ab}(aq:bH g p=some (.own z N cs)) (aB:lo+n<=N) (ah:cs'.length=((cs.drop (lo * z)).take (n * z)).length) (h:∀ (k:Nat) (x y:ab),((cs.drop (lo * z)).take (n * z))[k]?=some x->cs'[k]?=some y->View g x y):View g (.sub z p lo n) (.bc z n cs')
 | ptr {p:Place}{k z n:Nat}{y:ab}{cs cs':List ab}(aq:bH g p=some y) (ao:y=.own z n cs\/y=.obj cs) (hk:k<cs.length) (ah:cs'.length=(cs.drop k).length) (h:∀ (j:Nat) (x y:ab),(cs.drop k)[j]?=some x->cs'[j]?=some y->View g x y):View g (.ptr p k) (.cx cs')
 | cF {fn:Fn}{cs cs':List ab}(ah:cs'.length=cs.length) (h:∀ (k:Nat) (x y:ab),cs[k]?=some x->cs'[k]?=some y->View g x y):View g (.cF fn [] cs) (.cF fn [] cs')
 | rows {z n:Nat}{p:Place}{cs cs':List ab}(aq:Rows g p z n cs) (ah:cs'.length=cs.length) (h:∀ (k:Nat) (x y:ab),cs[k]?=some x->cs'[k]?=some y->View g x y):View g (.a7 z p n) (.bc z n cs')
section
variable {P:Program}{w:World}{I:a'}{T:Array Value}{g:aL}{Fs:Nat->a'}
theorem R.bq {ρ ρ':ab->Value->Prop}{x:ab}{v:Value}{F:a'}(h:R w I ρ x v F):cE x->R w I ρ' x v F:=by
 induction h with
 | lit h aH=>exact λ_=>.lit h aH
 | aP aH=>exact λ_=>.aP aH
 | dead aH=>exact λ_=>.dead aH
 | mx aH=>exact λ_=>.mx aH
 | @ref x _ _ J h aH=>intro aB; cases aB <;> simp [ab.isRef] at J
 | gM aH=>exact λ_=>.gM aH
 | bc aH lY bf ax ah h1 aa hr aM=>exact λaB=>.bc aH lY bf ax ah h1 aa λk x J=>aM k x J (by cases aB with | bc h=>exact h x (List.mem_of_getElem? J))
 | cx aH bf ax h1 aa hr aM=>exact λaB=>.cx aH bf ax h1 aa λk x J=>aM k x J (by cases aB with | cx h=>exact h x (List.mem_of_getElem? J))
 | own aW ah h1 hr aR ar aH aM=>exact λaB=>.own aW ah h1 (λk x u J hu=>aM k x u J hu (by cases aB with | own h=>exact h x (List.mem_of_getElem? J))) aR ar aH
 | obj aW ah h1 hr aR ar aH ax aM=>exact λaB=>.obj aW ah h1 (λk x u J hu=>aM k x u J hu (by cases aB with | obj h=>exact h x (List.mem_of_getElem? J))) aR ar aH ax
 | agg ah h1 hr aR aH aM=>exact λaB=>.agg ah h1 (λk x u J hu=>aM k x u J hu (by cases aB with | agg h=>exact h x (List.mem_of_getElem? J))) aR aH
 | bS ah hr aR aH aM=>exact λaB=>.bS ah (λk x u J hu=>aM k x u J hu (by cases aB with | bS h=>exact h x (List.mem_of_getElem? J))) aR aH
 | mp aW aq aH=>exact λ_=>.mp aW aq aH
 | hV aW h1 aH=>exact λ_=>.hV aW h1 aH
 | imp aH bf aW aq=>exact λ_=>.imp aH bf aW aq
 | cF aH h1 af i' hC gj fT=>exact λaB=>.cF aH h1 af (λk x u J hu=>gj k x u J hu (by cases aB with | cF h _=>exact h x (List.mem_of_getElem? J))) (λk x u J hu=>fT k x u J hu (by cases aB with | cF _ h=>exact h x (List.mem_of_getElem? J)))
theorem R.n' {ρ:ab->Value->Prop}{I':a'}{x:ab}{v:Value}{F:a'}(h:R w I ρ x v F) (bf:∀ c,I c->I' c):R w I' ρ x v F :=
 h.frame (λ_ _=>rfl) bf (λ_ _ h=>h) λ_ _=>rfl
theorem R.l5 {ρ ρ':ab->Value->Prop}{I':a'}{x:ab}{v:Value}{F:a'}(h:R w I ρ x v F):j5 x->R w I' ρ' x v F:=by
 induction h with
 | lit h aH=>exact λ_=>.lit h aH
 | aP aH=>exact λ_=>.aP aH
 | dead aH=>exact λ_=>.dead aH
 | mx aH=>exact λ_=>.mx aH
 | @ref x _ _ J h aH=>intro aB; cases aB <;> simp [ab.isRef] at J
 | gM aH=>exact λ_=>.gM aH
 | bc aH=>intro aB; cases aB; exact .gM aH
 | cx=>intro aB; cases aB
 | own aW ah h1 hr aR ar aH aM=>exact λaB=>.own aW ah h1 (λk x u J hu=>aM k x u J hu (by cases aB with | own h=>exact h x (List.mem_of_getElem? J))) aR ar aH
 | obj aW ah h1 hr aR ar aH ax aM=>exact λaB=>.obj aW ah h1 (λk x u J hu=>aM k x u J hu (by cases aB with | obj h=>exact h x (List.mem_of_getElem? J))) aR ar aH ax
 | agg ah h1 hr aR aH aM=>exact λaB=>.agg ah h1 (λk x u J hu=>aM k x u J hu (by cases aB with | agg h=>exact h x (List.mem_of_getElem? J))) aR aH
 | bS ah hr aR aH aM=>exact λaB=>.bS ah (λk x u J hu=>aM k x u J hu (by cases aB with | bS h=>exact h x (List.mem_of_getElem? J))) aR aH
 | cF=>intro aB; cases aB
 | mp aW aq aH=>exact λ_=>.mp aW aq aH
 | hV aW h1 aH=>exact λ_=>.hV aW h1 aH
 | imp=>intro aB; cases aB
theorem R.Ar {ρ:ab->Value->Prop}{z n:Nat}{cs:List ab}{v:Value}{F:a'}(h:R w I ρ (.own z n cs) v F):∃ (a:Option Addr) (cap:Nat) (us:Nat->Value) (bG:Nat->a'),v=.slice a n cap/\n<=cap/\cs.length=n * z /\
  (∀ ad,a=some ad->∃ b,ad=⟨b,0,none⟩/\F b)/\(∀ (k:Nat) (x:ab),cs[k]?=some x->∃ b,a=some ⟨b,0,none⟩/\w.cell? ⟨b,k,none⟩=some (us k)/\(us k).oneCell'=true/\R w I ρ x (us k) (bG k)/\∀ c,bG k c->F c):=by
 have aK:=h;cases h with
 | ref J=>simp [ab.isRef] at J
 | @own _ _ _ _ e us Fs _ aW ah h1 hr aR ar aH =>
  obtain ⟨a,cap,rfl,aB,hlen,o_,su⟩:=aK.oc;refine ⟨a,cap,λk=>us.getD k undef,Fs,rfl,aB,hlen,λad fy=>?_,λk x hk=>?_⟩
  ·obtain ⟨OT,OU⟩:=o_ ad fy;obtain ⟨b,o,sp⟩:=ad;simp only at OT OU;subst OT OU;exact ⟨b,rfl,(aH b).2 (.inl (by rw [fy]; rfl))⟩
  ·have aN:k<cs.length:=(List.getElem?_eq_some_iff.1 hk).1;have hu:us[k]?=some us[k]:=List.getElem?_eq_getElem (ah ▸ aN);obtain ⟨b,u,fy,mQ,n2,ho,_⟩:=aK.node (.inl rfl) hk;have:a=some ⟨b,0,none⟩:=by
    cases a with
    | none=>simp [addrOf] at fy
    | some ad=>simp only [addrOf] at fy; rw [Option.some.inj fy]
   grind [ph]
theorem R.Gm {ρ:ab->Value->Prop}{y:ab}{v:Value}{F:a'}{z n:Nat}{cs:List ab}(h:R w I ρ y v F) (ao:y=.own z n cs\/y=.obj cs) {ad:Addr}(aJ:addrOf v=some ad):F ad.block:=by
 rcases ao with rfl | rfl
 ·obtain ⟨a,cap,rfl,_⟩:=h.oc;refine h.rJ _ ?_;cases a with
  | none=>simp [addrOf] at aJ
  | some a=>simp only [addrOf,Option.some.injEq] at aJ; subst aJ; rfl
 ·cases h with
  | ref J=>simp [ab.isRef] at J
  | obj aW ah h1 hr aR ar aH=>simp only [addrOf,Option.some.injEq] at aJ; subst aJ; exact (aH _).2 (.inl rfl)
theorem Zv {w:World}{e b4:TypeId}{z n:Nat}{v:Value}{us iR:List Value}(h:w.ownsRow 0 e z v n us) (aI:w.ownsRow 0 b4 z v n iR):us=iR:=by
 obtain ⟨h1,af⟩:=h;obtain ⟨aF,bh⟩:=aI;rcases af with ⟨rfl,rfl⟩ | ⟨b,cap,cur,rfl,_,bQ,_,_,_,au⟩
 ·grind
 grind
theorem Rows.sound {ρ:ab->Value->Prop}(H1:∀ t z q n m new,g t=some (.bM z q n m new)->∃ v,T[t]?=some v/\jH w I ρ (.bM z q n m new) v (Fs t))
  (Sl:∀ p z n cs,bH g p=some (.own z n cs)->∃ v cr,dx w T p=some v/\R w I ρ (.own z n cs) v cr/\∀ c,cr c->Fs p.root c) (Bj:∀ z p n v,ρ (.bM z p n 0 []) v->dx w T p=some v) {p:Place}{z n:Nat}{cs:List ab}(h:Rows g p z n cs) :
  ∃ v e us,dx w T p=some v/\w.ownsRow 0 e z v n us/\us.length=cs.length/\(∀ (k:Nat) (u:Value),us[k]?=some u->u.oneCell'=true)/\(∀ c,v.ownBlock=some c->∃ t,Fs t c) /\
   (∀ (k:Nat) (x:ab) (u:Value),cs[k]?=some x->us[k]?=some u->∃ bG,R w I ρ x u bG/\∀ c,bG c->∃ t,Fs t c):=by
 induction h with
 | @own p z n cs aq =>
  obtain ⟨v,cr,hv,a1,aH⟩:=Sl p z n cs aq;cases a1 with
  | ref J=>simp [ab.isRef] at J
  | @own _ _ _ _ e us bG _ aW ah h1 hr aR ar mh =>
   grind
 | @bM t z n m q new cs au _ aM =>
  obtain ⟨v,hv,a1⟩:=H1 t z q n m new au;obtain ⟨v0,e,us,kx,aW,ah,h1,ar,hr⟩:=aM;cases a1 with
  | tree a1=>exact a1.lG.elim
  | @bM _ _ _ _ _ _ bv ca b6 abr news _ a1 =>
   have ga:=Bj _ _ _ _ a1.jw;rw [kx] at ga;cases ga;have:=Zv aW a1.kK;subst this;refine ⟨v,b6,us++news,by simp [dx,hv,walk],a1.mU,by rw [List.length_append,List.length_append,ah,a1.ah],λk u hu=>?_,λc aa=>?_,λk x u J hu=>?_⟩
   ·by_cases hk:k<us.length
    ·grind
    ·rw [List.getElem?_append_right (by omega)] at hu; exact a1.h1 _ u hu
   ·by_cases qx:v0.ownBlock=some c
    ·grind
    ·exact ⟨t,(a1.aH c).2 ⟨aa,qx⟩⟩
   ·by_cases hk:k<us.length
    ·grind
    ·rw [List.getElem?_append_right (by omega)] at J;rw [List.getElem?_append_right (by omega),ah] at hu;exact ⟨_,a1.hr _ x u J hu,λc aa=>aa.elim⟩
theorem QM {ρ':ab->Value->Prop}{e:TypeId}{z n N cap:Nat}{a:Option Addr}{us:List Value}{cs cs':List ab}(aW:w.ownsRow 0 e z (.slice a N cap) n us) (hlen:us.length=cs.length) (h1:∀ (k:Nat) (u:Value),us[k]?=some u->u.oneCell'=true) (ar:∀ c,(Value.slice a N cap).ownBlock=some c->∃ t,Fs t c) (ah:cs'.length=cs.length)
  (hr:∀ (k:Nat) (x y:ab) (u:Value),cs[k]?=some x->cs'[k]?=some y->us[k]?=some u->R w (λc=>I c\/∃ t,Fs t c) ρ' y u ck):R w (λc=>I c\/∃ t,Fs t c) ρ' (.bc z n cs') (.slice a n cap) ck:=by
 obtain ⟨OO,aW⟩:=aW;rcases aW with ⟨ga,aK⟩ | ⟨b,sc,cur,ca,_,bQ,FG,aa,ax,au⟩
 ·cases ga;subst aK;have lZ:cs'=[]:=List.eq_nil_of_length_eq_zero (by rw [ah,<- hlen,OO]; simp);subst lZ;exact .gM λ_ h=>h
 ·cases ca;refine .bc (us:=λk=>us.getD k undef) (λ_ h=>h) FG (.inr (ar b rfl)) rfl (by rw [ah,<- hlen,OO]) (λk y ao=>?_) (λk y ao=>?_) λk y ao=>?_
  all_goals
   have hk:k<us.length:=by rw [hlen,<- ah]; exact (List.getElem?_eq_some_iff.1 ao).1
   have hu:us[k]?=some us[k]:=List.getElem?_eq_getElem hk;have aQ:us.getD k undef=us[k]:=by simp [List.getD,hu]
  ·grind
  ·rw [aQ];have z6:∀ u,us[k]?=some u->w.cell? ⟨b,k,none⟩=some u:=λu z6=>by
    rw [<- au,List.getElem?_take] at z6
    split at z6
    ·simpa [World.cell?,bQ] using z6
    grind
   grind
  grind
theorem View.sound (h:cB w I T g Fs) {x x':ab}(hv:View g x x'):∀ {v:Value}{F:a'},R w I (dy w T g) x v F->(∀ c,F c->∃ t,Fs t c)->∀ ρ',R w (λc=>I c\/∃ t,Fs t c) ρ' x' v ck:=by
 induction hv with
 | qK =>
  intro v F a1 aH ρ';have:=a1.rD;subst this;exact .gM λ_ h=>h
 | mp =>
  intro v F a1 aH ρ';cases a1 with
  | ref J=>simp [ab.isRef] at J
  | mp aW aq ar=>exact .imp (λ_ h=>h) (.inr (aH _ ((ar _).2 rfl))) aW aq
 | gl aq =>
  intro v F a1 aH ρ';cases a1 with
  | ref _ hr _ =>
   obtain ⟨⟨b,ar,rfl⟩,_⟩:=hr;obtain ⟨dK,cr,ih,ds,c_⟩:=h.part aq (by simp);rw [ar] at ih;cases ih;cases ds with
   | ref J=>simp [ab.isRef] at J
   | mp aW aq ar=>exact .imp (λ_ h=>h) (.inr ⟨_,c_ _ ((ar _).2 rfl)⟩) aW aq
 | self aB h1 af aF bh b7 =>
  intro v F a1 aH ρ';refine ((a1.bq aB).n' λc aa=>.inl aa).empty ?_;cases a1 with
  | mp=>exact absurd rfl (b7.1 _)
  | hV=>exact absurd rfl (b7.2 _ _)
  | lit _ aH | aP aH | dead aH | mx aH | ref _ _ aH | gM aH | bc aH | cx aH | cF aH | imp aH=>exact aH
  | own=>exact absurd rfl (h1 _ _ _)
  | obj=>exact absurd rfl (af _)
  | agg=>exact absurd rfl (aF _)
  | bS=>exact absurd rfl (bh _)
 | @agg cs cs' ah _ aM =>
  intro v F a1 aH ρ';cases a1 with
  | ref J=>simp [ab.isRef] at J
  | @agg _ vs bG _ hP h1 hr aR mh =>
   refine .agg (Fs:=λ_=>ck) (by rw [ah,hP]) h1 (λk y u ao hu=>?_) (λ_ _ _ _ _ h=>h.elim) (λc=>⟨λh=>h.elim,λ⟨_,_,h⟩=>h⟩);have hk:k<cs.length:=by rw [<- ah]; exact (List.getElem?_eq_some_iff.1 ao).1
   have J:=List.getElem?_eq_getElem hk;exact aM k _ y J ao (hr k _ u J hu) (λc aa=>aH c ((mh c).2 ⟨k,hk,aa⟩)) ρ'
 | @cF fn cs cs' ah _ aM =>
  intro v F a1 aH ρ';cases a1 with
  | ref J=>simp [ab.isRef] at J
  | @cF _ _ _ v1 v2 _ mN h1 af i' hC =>
   refine .cF (λ_ h=>h) h1 (by rw [ah,af]) (λk x u J=>by simp at J) (λk y u ao hu=>?_);have hk:k<cs.length:=by rw [<- ah]; exact (List.getElem?_eq_some_iff.1 ao).1
   have J:=List.getElem?_eq_getElem hk;exact aM k _ y J ao (hC k _ u J hu) (λc aa=>aa.elim) ρ'
 | @own z n cs cs' ah _ aM =>
  intro v F a1 aH ρ';obtain ⟨a,cap,us,bG,rfl,aB,hlen,aJ,aa⟩:=a1.Ar;cases a with
  | none =>
   have eV:cs=[]:=by
    cases cs with
    | nil=>rfl
    | cons c cs=>obtain ⟨b,ar,_⟩:=aa 0 c rfl; cases ar
   subst eV;have lZ:cs'=[]:=List.eq_nil_of_length_eq_zero (by simpa using ah);subst lZ;have mm:n=0:=by
    cases a1 with
    | ref J=>simp [ab.isRef] at J
    | own aW =>
     obtain ⟨_,bQ⟩:=aW;rcases bQ with ⟨bQ,aK⟩ | ⟨b,c2,cur,bQ,_⟩
     ·exact aK
     ·cases bQ
   subst mm;exact .gM λ_ h=>h
  | some ad =>
   obtain ⟨b,rfl,sh⟩:=aJ ad rfl;refine .bc (us:=us) (λ_ h=>h) aB (.inr (aH b sh)) rfl (by rw [ah,hlen]) (λk y ao=>?_) (λk y ao=>?_) λk y ao=>?_
   all_goals
    have hk:k<cs.length:=by rw [<- ah]; exact (List.getElem?_eq_some_iff.1 ao).1
    have J:=List.getElem?_eq_getElem hk;obtain ⟨dU,j_,h1,af,aF,bh⟩:=aa k _ J;cases j_
   ·exact af
   ·simpa using h1
   ·exact aM k _ y J ao aF (λc aa=>aH c (bh c aa)) ρ'
 | @obj cs cs' ah _ aM =>
  intro v F a1 aH ρ';cases a1 with
  | ref J=>simp [ab.isRef] at J
  | @obj _ b e arr bG _ aW hP h1 hr aR ar mh =>
   refine .cx (us:=λk=>arr.getD k undef) (λ_ h=>h) (.inr (aH b ((mh b).2 (.inl rfl)))) rfl (λk y ao=>?_) (λk y ao=>?_) λk y ao=>?_
   all_goals
    have hk:k<cs.length:=by rw [<- ah]; exact (List.getElem?_eq_some_iff.1 ao).1
    have J:=List.getElem?_eq_getElem hk;have hu:arr[k]?=some arr[k]:=Array.getElem?_eq_getElem (hP ▸ hk)
   ·simpa [hu] using h1 k _ hu
   ·simp [World.cell?,aW,hu]
   ·simpa [hu] using aM k _ y J ao (hr k _ _ J hu) (λc aa=>aH c ((mh c).2 (.inr ⟨k,hk,aa⟩))) ρ'
 | @a7 z n N p cs cs' aq aB ah _ aM =>
  intro v F a1 aH ρ';obtain ⟨⟨a,kE,cap,h1,rfl,aF⟩,_⟩:=a1.n4;obtain ⟨qU,q4,gJ,hB,mO⟩:=h.part aq (by simp);rw [h1] at gJ;cases gJ;obtain ⟨a2,sc,us,bG,h9,lY,hlen,aJ,aa⟩:=hB.Ar;cases h9;have hle:n * z<=N * z:=Nat.mul_le_mul_right _ aB;have cell:∀ k,k<cs'.length->∃ x b,(cs.take (n * z))[k]?=some x/\a=some ⟨b,0,none⟩/\w.cell? ⟨b,k,none⟩=some (us k)/\(us k).oneCell'=true/\R w I (dy w T g) x (us k) (bG k)/\∀ c,bG k c->q4 c:=by
   intro k hk;rw [ah,List.length_take] at hk;have J:cs[k]?=some cs[k]:=List.getElem?_eq_getElem (by omega);obtain ⟨b,r⟩:=aa k _ J;exact ⟨_,b,by rw [List.getElem?_take,if_pos (by omega)]; exact J,r⟩
  cases a with
  | none =>
   have lZ:cs'=[]:=by
    cases cs' with
    | nil=>rfl
    | cons c l=>obtain ⟨_,b,_,ar,_⟩:=cell 0 (by simp); cases ar
   subst lZ;obtain ⟨_,_,h9,_,_,_,su⟩:=hB.oc;cases h9;have mm:n=0:=by
    rcases Nat.eq_zero_or_pos n with aK | aK
    ·exact aK
    ·have:=su (by omega); simp at this
   subst mm;exact .gM λ_ h=>h
  | some ad =>
   obtain ⟨b,rfl,sh⟩:=aJ ad rfl;refine .bc (us:=us) (λ_ h=>h) (by omega) (.inr ⟨_,mO b sh⟩) rfl (by rw [ah,List.length_take,hlen]; omega) (λk y ao=>?_) (λk y ao=>?_) λk y ao=>?_
   all_goals
    obtain ⟨x,dU,J,j_,bh,b7,dp,kJ⟩:=cell k (List.getElem?_eq_some_iff.1 ao).1;cases j_
   ·exact b7
   ·simpa using bh
   ·exact aM k x y J ao dp (λc aa=>⟨_,mO c (kJ c aa)⟩) ρ'
 | @sub z lo n N p cs cs' aq aB ah _ aM =>
  intro v F a1 aH ρ';obtain ⟨⟨a,kE,cap,cd,nv,h1,rfl,J3,aF,b7⟩,_⟩:=a1.z';obtain ⟨qU,q4,gJ,hB,mO⟩:=h.part aq (by simp);rw [h1] at gJ;cases gJ;obtain ⟨a2,sc,us,bG,h9,lY,hlen,aJ,aa⟩:=hB.Ar;cases h9;have hle:lo * z+n * z<=N * z:=by rw [<- Nat.add_mul]; exact Nat.mul_le_mul_right _ aB
  have hP:cs'.length=n * z:=by rw [ah,List.length_take,List.length_drop,hlen]; omega
  have cell:∀ k,k<cs'.length->∃ x b,((cs.drop (lo * z)).take (n * z))[k]?=some x/\a=some ⟨b,0,none⟩/\w.cell? ⟨b,lo * z+k,none⟩=some (us (lo * z+k))/\(us (lo * z+k)).oneCell'=true/\R w I (dy w T g) x (us (lo * z+k)) (bG (lo * z+k))/\∀ c,bG (lo * z+k) c->q4 c:=by
   intro k hk;have J:cs[lo * z+k]?=some cs[lo * z+k]:=List.getElem?_eq_getElem (by omega);obtain ⟨b,r⟩:=aa _ _ J;exact ⟨_,b,by rw [List.getElem?_take,if_pos (by omega),List.getElem?_drop]; exact J,r⟩
  by_cases mm:n=0
  ·subst mm;have lZ:cs'=[]:=List.eq_nil_of_length_eq_zero (by simpa using hP);subst lZ;exact .gM λ_ h=>h
  ·obtain ⟨ad,rfl,rfl⟩:=b7 (by omega);obtain ⟨b,rfl,sh⟩:=aJ ad rfl;refine .bc (us:=λk=>us (lo * z+k)) (λ_ h=>h) J3 (.inr ⟨_,mO b sh⟩) rfl hP (λk y ao=>?_) (λk y ao=>?_) λk y ao=>?_
   all_goals
    obtain ⟨x,dU,J,j_,bh,I5,dp,kJ⟩:=cell k (List.getElem?_eq_some_iff.1 ao).1;cases j_
   ·exact I5
   ·simpa using bh
   ·exact aM k x y J ao dp (λc aa=>⟨_,mO c (kJ c aa)⟩) ρ'
 | @ptr p k z n y cs cs' aq ao hk ah _ aM =>
  intro v F a1 aH ρ';obtain ⟨⟨u,ad,h1,af,rfl⟩,_⟩:=a1.n5;obtain ⟨qU,q4,gJ,hB,mO⟩:=h.part aq (by rcases ao with rfl | rfl <;> simp);rw [h1] at gJ;cases gJ;have cell:∀ j,j<cs'.length->∃ gv lu wI,w.cell? ⟨ad.block,k+j,none⟩=some gv/\gv.oneCell'=true/\(cs.drop k)[j]?=some lu/\R w I (dy w T g) lu gv wI/\(∀ c,wI c->∃ t,Fs t c):=by
   intro j ag;rw [ah,List.length_drop] at ag;have e':cs[k+j]?=some cs[k+j]:=List.getElem?_eq_getElem (by omega);obtain ⟨b,gv,fy,mQ,n2,ho,_⟩:=hB.node ao e';rw [af] at fy;cases fy;have fD:bH g (p.push (k+j))=some cs[k+j]:=by rw [t_,aq]; rcases ao with rfl | rfl <;> simp [ab.kids]
   by_cases gT:∃ bR fB cq m' cN,cs[k+j]=.bM bR fB cq m' cN
   ·obtain ⟨bR,fB,cq,m',cN,gT⟩:=gT;obtain ⟨b,abu,_,_,Cp,_,bG,kp⟩:=hB.node ao e';rw [gT] at kp;exact kp.lG.elim
   ·obtain ⟨pw,HC,sw,Je,mh⟩:=h.part fD (λbR fB cq m' cN e=>gT ⟨_,_,_,_,_,e⟩);rw [yM,h1] at sw;simp only [Option.bind_some] at sw;rw [n2] at sw;cases sw;exact ⟨gv,_,HC,mQ,ho,by rw [List.getElem?_drop]; exact e',Je,λc aa=>⟨_,mh c aa⟩⟩
  obtain ⟨b,gv,fy,_⟩:=hB.node ao (List.getElem?_eq_getElem hk);rw [af] at fy;cases fy;have hblk:∃ t,Fs t b:=⟨_,mO b (hB.Gm ao af)⟩;refine .cx (us:=λj=>(w.cell? ⟨b,k+j,none⟩).getD undef) (λ_ h=>h) (.inr hblk) rfl (λj iT tr=>?_) (λj iT tr=>?_) λj iT tr=>?_
  all_goals
   obtain ⟨gv,lu,wI,c1,c2,kG,c4,jJ⟩:=cell j (List.getElem?_eq_some_iff.1 tr).1
  ·simpa [c1] using c2
  ·simp [c1]
  ·simpa [c1] using aM j lu iT kG tr c4 jJ ρ'
 | @rows z n p cs cs' aq ah _ aM =>
  intro v F a1 aH ρ';obtain ⟨a,kE,cap,h1,rfl,aF⟩:=a1.n4.1;obtain ⟨v0,e,us,kx,aW,hlen,jt,ar,hr⟩:=Rows.sound (w:=w) (I:=I) (T:=T) (Fs:=Fs) (λt z q n m new au=>h.rel t _ au) (λp z n cs aq=>h.part aq (by simp)) (λz p n v hv=>by obtain ⟨⟨a,cap,h1,rfl⟩,_⟩:=hv; exact h1) aq;rw [h1] at kx;cases kx;refine QM aW hlen jt ar ah λk x y u J ao hu=>?_;obtain ⟨bG,kp,ey⟩:=hr k x u J hu;exact aM k x y J ao kp ey ρ'
end
def s6 (args:List ab):aL:=λt=>args[t]?
def kO (outs:List (Option ab)) (res:ab):aL:=λt=>if t=outs.length then some res else (outs[t]?).join
structure k4 (w:World) (I U:a') (w':World) (I' EW:a'):Prop where
 dN:Fr w w' U
 more:∀ c,I c->I' c
 new:∀ c,I' c->I c\/U c\/w.heap.size<=c
 own:∀ c,EW c->U c\/w.heap.size<=c
def bP (P:Program) (f:FuncId) (args:List ab) (outs:List (Option ab)) (res:ab):Prop :=
 outs.length=args.length/\∀ (w:World) (I:a') (vs:List Value) (Fs:Nat->a'),vs.length=args.length->cB w I vs.toArray (s6 args) Fs ->
  Calls P f vs.toArray w λe w'=>∃ v I' bW,e=.returned v/\cB w' I' (vs++[v]).toArray (kO outs res) bW/\k4 w I (λc=>∃ t,Fs t c) w' I' (λc=>∃ t,bW t c)
def hA (P:Program) (f:FuncId):Bool :=
 match P.funcs[f]? with
 | some fn => fn.name != "runtime.NumGoroutine" && fn.body.isSome
 | none=>false
inductive b_ (P:Program) (g:aL):Op->ab->Prop
 | plain {c:Operand}{xs:Array Operand}{fP:Array TypeId}{f:FuncId}{first caps ys:List ab}{res:ab}(aa:bw g c=some (.cF (.func f) first caps)) (J:hh g xs.toList=some ys) (aV:hA P f=true)
   (aB:∀ y∈first++ys++caps,cE y) (hf:bP P f (first++ys++caps) ((first++ys++caps).map λ_=>none) res) (hr:cE res):b_ P g (.call { callee:=.value c,args:=xs,argTypes:=fP }) res
 | F_ {c:Operand}{xs:Array Operand}{fP:Array TypeId}{f:FuncId}{first caps ys args:List ab}{res:ab}(aa:bw g c=some (.cF (.func f) first caps)) (J:hh g xs.toList=some ys) (aV:hA P f=true)
   (ah:args.length=(first++ys++caps).length) (hv:∀ (k:Nat) (x y:ab),(first++ys++caps)[k]?=some x->args[k]?=some y->View g x y) (hf:bP P f args (args.map λ_=>none) res) (hr:j5 res) :
   b_ P g (.call { callee:=.value c,args:=xs,argTypes:=fP }) res
 | cl {x:Operand}{fP:Array TypeId}{f:FuncId}{y:ab}{z n:Nat}{cells:List ab}(J:bw g x=some y) (oI:Src g y z n cells) (aX:0<z) (aV:hA P f=true) (mR:∀ c∈cells,cE c) (xn:n<=1000000000000)
   (aa:∀ (w:World) (ad:Addr) (n c:Nat) (news:List Value),news.length=n * z->n<=1000000000000->(∀ j u,news[j]?=some u->w.cell? (ad.add j)=some u)->(∀ u∈news,u.oneCell'=true) ->
    Calls P f #[.slice (some ad) n c] w λb4 w'=>∃ dK t,b4=.returned dK/\w'.ownsRow 0 t z dK n news/\(∀ c,dK.ownBlock=some c->w.heap.size<=c)/\Fr w w' λ_=>False)
   (aB:∀ (w:World) (n c:Nat),Calls P f #[.slice none n c] w λb4 w'=>b4=.returned (.slice none 0 0)/\w'=w):b_ P g (.call { callee:=.value (.func f),args:=#[x],argTypes:=fP }) (.own z n cells)
section
variable {P:Program}{w:World}{I:a'}{T:Array Value}{g:aL}{Fs:Nat->a'}
theorem zw {f:FuncId}(h:hA P f=true) (args:Array Value):(callFunc f args).run P w=.ok (.enter f args) w:=by
 unfold hA at h;cases aV:P.funcs[f]? with
 | none=>simp [aV] at h
 | some fn =>
  simp [aV] at h;obtain ⟨h1,af⟩:=h;cases ar:fn.body with
  | none=>simp [ar] at af
  | some c=>simp [callFunc,aV,h1,ar]
theorem Im (h:cB w I T g Fs) {a:Act}(aJ:a.tmps=T) {c:Operand}{xs:Array Operand}{f:FuncId}{first caps ys:List ab}(aa:bw g c=some (.cF (.func f) first caps)) (J:hh g xs.toList=some ys) :
  ∃ v1 v2:Array Value,a.eval c=.func (.func f) v1 v2/\(first++ys++caps).length=(v1++xs.map a.eval++v2).toList.length /\
   ∀ (k:Nat) (x:ab) (u:Value),(first++ys++caps)[k]?=some x->(v1++xs.map a.eval++v2).toList[k]?=some u->R w I (dy w T g) x u ck:=by
 have zH:=ke h aa aJ;obtain ⟨ah,hr⟩:=Ap h aJ J;generalize vC:a.eval c=afJ at zH;cases zH with
 | ref J=>simp [ab.isRef] at J
 | @cF _ _ _ v1 v2 _ _ h1 af i' hC =>
  have hlen:xs.size=ys.length:=by rw [<- Array.length_toList,ah]
  refine ⟨v1,v2,rfl,by simp [h1,af,hlen],λk x u qG pV=>?_⟩;simp only [Array.toList_append,Array.toList_map] at pV;by_cases gy:k<first.length
  ·rw [List.append_assoc,List.getElem?_append_left gy] at qG;rw [List.append_assoc,List.getElem?_append_left (by simp; omega)] at pV;exact i' k x u qG (by simpa using pV)
  ·rw [List.append_assoc,List.getElem?_append_right (by omega)] at qG;rw [List.append_assoc,List.getElem?_append_right (by simp; omega)] at pV;simp only [Array.length_toList,<- h1] at pV;by_cases fz:k - first.length<ys.length
   ·rw [List.getElem?_append_left fz] at qG;rw [List.getElem?_append_left (by simp; omega),List.getElem?_map] at pV;cases Ks:xs.toList[k - first.length]? with
    | none=>rw [Ks] at pV; cases pV
    | some o=>rw [Ks] at pV; cases pV; exact hr _ x o qG Ks
   ·rw [List.getElem?_append_right (by omega)] at qG;rw [List.getElem?_append_right (by simp; omega)] at pV;simp only [List.length_map,Array.length_toList] at pV;rw [hlen] at pV;exact hC _ x u qG (by simpa using pV)
theorem cB.args {I':a'}(h:cB w I T g Fs) (oD:∀ c,I c->I' c) (bf:∀ c,I' c->I c\/∃ t,Fs t c) {args:List ab}{vs:List Value}(ah:args.length=vs.length)
  (hr:∀ (ρ':ab->Value->Prop) (k:Nat) (x:ab) (u:Value),args[k]?=some x->vs[k]?=some u->R w I' ρ' x u ck):cB w I' vs.toArray (s6 args) (λ_=>ck):=by
 refine ⟨λt x J=>?_,λ_ _ _ h=>h,λ_ _ _ h=>h.elim,λ_ _ h=>h.elim,λc aa=>?_,λt t' z p n m new bR cq m' cN h1 af=>?_,cG.keep h.hR (λ_ _=>rfl) oD⟩
 ·have au:t<args.length:=(List.getElem?_eq_some_iff.1 J).1;have hu:vs[t]?=some vs[t]:=List.getElem?_eq_getElem (ah ▸ au);exact ⟨vs[t],by rw [List.getElem?_toArray]; exact hu,.tree (hr _ t x _ J hu)⟩
 ·rcases bf c aa with aI | ⟨t,aI⟩
  ·exact h.lt c aI
  ·exact h.jd t c aI
 ·have au:t<args.length:=(List.getElem?_eq_some_iff.1 h1).1;exact (hr (λ_ _=>False) t _ _ h1 (List.getElem?_eq_getElem (ah ▸ au))).lG.elim
theorem b_.sound (h:cB w I T g Fs) {a:Act}(aJ:a.tmps=T) {o:Oper}{kW:ab}(aq:b_ P g o.op kW) {K:Act->World->Prop}{Q:Exit->Act->World->Prop}
  (c6:∀ v w',tN w I T g Fs kW v w'->K (a.put o.dst v) w'):o.wp P a w K Q:=by
 obtain ⟨dst,op,ty,pos,after,guard⟩:=o;simp only at aq c6;have Dn:cE kW->∀ z p n m new,kW=.bM z p n m new->∀ t bR cq m' cN,g t≠some (.bM bR p cq m' cN):=by
  rintro aB z p n m new rfl;cases aB
 have last:∀ {args:List ab}{res:ab}{v:Value}{vs:List Value}{w':World}{I':a'}{bW:Nat->a'},vs.length=args.length->cB w' I' (vs++[v]).toArray (kO (args.map λ_=>none) res) bW->jH w' I' (dy w' (vs++[v]).toArray (kO (args.map λ_=>none) res)) res v (bW args.length)/\∀ t,t≠args.length->∀ c,¬ bW t c:=by
  intro args res v vs w' I' bW ah bg;constructor
  ·obtain ⟨u,hu,a1⟩:=bg.rel args.length res (by simp [kO]);have:u=v:=by
    rw [<- ah] at hu;simpa using hu.symm
   subst this; exact a1
  ·intro t au c aa;refine bg.ln t ?_ c aa;have ry:t≠(args.map λ_=>(none:Option ab)).length:=by simpa using au
   simp only [kO,if_neg ry,List.getElem?_map];cases args[t]? <;> rfl
 cases aq with
 | @cl x fP f y z n cells J oI aX aV mR xn aa aB =>
  obtain ⟨yC,wy,news,rv,ah,xF,xG,eV⟩:=oI.sound h (ke h J aJ);have hp:∀ dst ty pos after guard,(execOp a.eval ⟨dst,.call { callee:=.value (.func f),args:=#[x],argTypes:=fP },ty,pos,after,guard⟩).run P w=.ok (.enter f #[a.eval x]) w:=by
   intro dst ty pos after guard;simp [execOp,resolve,Deferred.ofValue,Act.eval,invoke,zw aV]
  have fin:∀ (w':World) (v:Value) (t:TypeId),w'.ownsRow 0 t z v n news->(∀ c,v.ownBlock=some c->w.heap.size<=c)->Fr w w' (λ_=>False)->tN w I T g Fs (.own z n cells) v w':=by
   intro w' v t aW ar kv;have CN:∀ c,c<w.heap.size->w'.heap[c]?=w.heap[c]?:=λc aa=>kv.block c aa λh=>h;have Cc:=h.world (w':=w') (λt c aa=>CN c (h.jd t c aa)) (λc aa=>CN c (h.lt c aa)) kv.size;refine ⟨λc=>v.ownBlock=some c,I,Cc,.tree (.own (Fs:=λ_=>ck) aW eV.1 eV.2.1 (λk x u J hu=>?_) (λ_ _ _ _ _ h=>h.elim) (λ_ _ _ h=>h.elim) (λc=>⟨.inl,λh=>h.elim id λ⟨_,_,h⟩=>h.elim⟩)),λt c aa aV=>?_,λc aa=>⟨ar c aa,λhi=>?_⟩,λ_ h=>h,λ_ h=>.inl h,kv.mono λ_ _ h=>h.elim,λbR Lh cq m' cN he=>by cases he⟩
   ·exact (((eV.2.2 k x u J hu).bq (mR x (List.mem_of_getElem? J))).frame (λc aa=>CN c (h.lt c aa)) (λ_ h=>h) λ_ _ h=>h) λc aa=>aa.elim
   ·have:=ar c aa; have:=h.jd t c aV; omega
   ·have:=ar c aa; have:=h.lt c hi; omega
  unfold Oper.wp Oper.upon;simp only [hp];rw [rv];cases yC with
  | none =>
   refine (aB w _ wy).mono ?_;rintro b4 w' ⟨rfl,rfl⟩;have aK:n=0:=by
    by_cases pU:0<n
    ·have:=xF pU aX; cases this
    ·omega
   exact c6 _ _ (fin w' _ 0 ⟨ah,.inl ⟨rfl,aK⟩⟩ (λc aa=>by cases aa) (Fr.refl _ _))
  | some ad =>
   refine (aa w ad _ wy news ah xn (λj u ag=>xG ad rfl j u ag) λu hu=>by
    obtain ⟨j,ag⟩:=List.getElem?_of_mem hu;exact eV.2.1 j u ag).mono ?_
   rintro b4 w' ⟨dK,t,rfl,mn,ar,kv⟩;exact c6 _ _ (fin w' dK t mn ar kv)
 | @plain c xs fP f first caps ys _ aa J aV aB hf hr =>
  obtain ⟨v1,v2,vC,ah,qu⟩:=Im h aJ aa J;have hp:(execOp a.eval { dst:=dst,op:=.call { callee:=.value c,args:=xs,argTypes:=fP },type:=ty,pos:=pos,after:=after,guard:=guard }).run P w=.ok (.enter f (v1++xs.map a.eval++v2)) w:=by
   simp [execOp,resolve,Deferred.ofValue,vC,invoke,zw aV]
  have bg:=h.args (I':=I) (λ_ h=>h) (λc aa=>.inl aa) ah λρ' k x u J hu=>(qu k x u J hu).bq (aB x (List.mem_of_getElem? J));have pP:=hf.2 w I (v1++xs.map a.eval++v2).toList _ ah.symm bg;unfold Oper.wp Oper.upon;simp only [hp];rw [Array.toArray_toList] at pP;refine Calls.mono pP ?_;rintro e w' ⟨v,I',bW,rfl,dZ,bU⟩;obtain ⟨zY,eL⟩:=last ah.symm dZ;have kv:Fr w w' (λ_=>False):=bU.dN.mono λb _ ⟨_,ar⟩=>ar;refine c6 v w' ⟨bW (first++ys++caps).length,I',?_,?_,?_,?_,bU.more,?_,kv.mono λ_ _ h=>h.elim,Dn hr⟩
  ·have:=h.world (w':=w') (λt c aa=>kv.block c (h.jd t c aa) (λh=>h)) (λc aa=>kv.block c (h.lt c aa) λh=>h) kv.size;refine ⟨λt x J=>?_,this.ln,this.ea,λt c aa hi=>?_,dZ.lt,this.rR,dZ.hR⟩
   ·obtain ⟨v,hv,a1⟩:=this.rel t x J;exact ⟨v,hv,a1.frame (λ_ _=>rfl) bU.more (λ_ _ h=>h) (λ_ _ _ _ _ _ _=>rfl) λ_ _=>rfl⟩
   ·rcases bU.new c hi with aI | ⟨_,aI⟩ | aI
    ·exact h.bc t c aa aI
    ·exact aI
    ·have:=h.jd t c aa; omega
  ·exact .tree ((zY.gu (by rintro z p n m new rfl; cases hr)).bq hr)
  ·intro t c aa vE;rcases bU.own c ⟨_,aa⟩ with ⟨_,aI⟩ | aI
   ·exact aI
   ·have:=h.jd t c vE; omega
  ·intro c aa;rcases bU.own c ⟨_,aa⟩ with ⟨_,aI⟩ | aI
   ·exact aI.elim
   ·exact ⟨aI,dZ.bc _ c aa⟩
  ·intro c aa;rcases bU.new c aa with aI | ⟨_,aI⟩ | aI
   ·exact .inl aI
   ·exact aI.elim
   ·exact .inr aI
 | @F_ c xs fP f first caps ys args _ aa J aV ux hv hf hr =>
  obtain ⟨v1,v2,vC,ah,qu⟩:=Im h aJ aa J;have hp:(execOp a.eval { dst:=dst,op:=.call { callee:=.value c,args:=xs,argTypes:=fP },type:=ty,pos:=pos,after:=after,guard:=guard }).run P w=.ok (.enter f (v1++xs.map a.eval++v2)) w:=by
   simp [execOp,resolve,Deferred.ofValue,vC,invoke,zw aV]
  have hP:args.length=(v1++xs.map a.eval++v2).toList.length:=by rw [ux,ah]
  have bg:=h.args (I':=λc=>I c\/∃ t,Fs t c) (λ_ h=>.inl h) (λc aa=>aa) hP λρ' k x u J hu=>by
   have hk:k<(first++ys++caps).length:=by rw [<- ux]; exact (List.getElem?_eq_some_iff.1 J).1
   have ix:=List.getElem?_eq_getElem hk;exact (hv k _ x ix J).sound h (qu k _ u ix hu) (λ_ h=>h.elim) ρ'
  have pP:=hf.2 w _ (v1++xs.map a.eval++v2).toList _ hP.symm bg;unfold Oper.wp Oper.upon;simp only [hp];rw [Array.toArray_toList] at pP;refine Calls.mono pP ?_;rintro e w' ⟨v,I',bW,rfl,dZ,bU⟩;obtain ⟨zY,eL⟩:=last hP.symm dZ;have kv:Fr w w' (λ_=>False):=bU.dN.mono λb _ ⟨_,ar⟩=>ar;refine c6 v w' ⟨bW args.length,I,?_,?_,?_,?_,λ_ h=>h,λ_ h=>.inl h,kv.mono λ_ _ h=>h.elim,Dn hr.bq⟩
  ·exact h.world (w':=w') (λt c aa=>kv.block c (h.jd t c aa) (λh=>h)) (λc aa=>kv.block c (h.lt c aa) λh=>h) kv.size
  ·exact .tree ((zY.gu (by rintro z p n m new rfl; cases hr)).l5 hr)
  ·intro t c aa vE;rcases bU.own c ⟨_,aa⟩ with ⟨_,aI⟩ | aI
   ·exact aI
   ·have:=h.jd t c vE; omega
  ·intro c aa;rcases bU.own c ⟨_,aa⟩ with ⟨_,aI⟩ | aI
   ·exact aI.elim
   ·exact ⟨aI,λhi=>by have:=h.lt c hi; omega⟩
end
structure jI (w:World) (I:a') (T:Array Value) (g:aL) (Fs:Nat->a'):Prop where
 rel:∀ t x,g t=some x->∃ v,T[t]?=some v/\jH w I (fk w T) x v (Fs t)
 ln:∀ t,g t=none->∀ c,¬ Fs t c
 ea:∀ t t' c,Fs t c->Fs t' c->t=t'
 bc:∀ t c,Fs t c->¬ I c
 lt:∀ c,I c->c<w.heap.size
 hR:cG.q w I
def ct (g:aL) (p:Place) (y:ab):aL:=λt=>if t=p.root then (g t).map λx=>x.setAt p.path y else g t
inductive cU (g:aL):ab->Prop
 | bq {x:ab}(h:cE x):cU g x
 | ref {x:ab}(J:x.isRef=true) (h:gE g x):cU g x
 | own {z n:Nat}{cs:List ab}(h:∀ x∈cs,cU g x):cU g (.own z n cs)
 | obj {cs:List ab}(h:∀ x∈cs,cU g x):cU g (.obj cs)
 | agg {cs:List ab}(h:∀ x∈cs,cU g x):cU g (.agg cs)
 | bS {cs:List ab}(h:∀ x∈cs,cU g x):cU g (.bS cs)
 | cF {fn:Fn}{a b:List ab}(h1:∀ x∈a,cU g x) (af:∀ x∈b,cU g x):cU g (.cF fn a b)
 | bM {z n m:Nat}{p:Place}{new:List ab}(aq:gE g (.bM z p n 0 [])) (h:∀ x∈new,cU g x):cU g (.bM z p n m new)
section
variable {w:World}{I:a'}{T:Array Value}{g:aL}{Fs:Nat->a'}
theorem R.b0 {x:ab}{v:Value}{F:a'}(h:R w I (fk w T) x v F):cU g x->R w I (dy w T g) x v F:=by
 induction h with
 | lit h aH=>exact λ_=>.lit h aH
 | aP aH=>exact λ_=>.aP aH
 | dead aH=>exact λ_=>.dead aH
 | mx aH=>exact λ_=>.mx aH
 | @ref x _ _ J h aH =>
  intro hk;refine .ref J ⟨h,?_⟩ aH;cases hk with
  | ref _ h=>exact h
  | bq h=>cases h <;> simp [ab.isRef] at J
  | _=>simp [ab.isRef] at J
 | gM aH=>exact λ_=>.gM aH
 | mp aW aq aH=>exact λ_=>.mp aW aq aH
 | hV aW h1 aH=>exact λ_=>.hV aW h1 aH
 | imp aH bf aW aq=>exact λ_=>.imp aH bf aW aq
 | bc aH lY bf ax ah h1 aa hr aM =>
  intro hk;cases hk with
  | ref J=>simp [ab.isRef] at J
  | bq h=>cases h with | bc h=>exact .bc aH lY bf ax ah h1 aa λk x J=>aM k x J (.bq (h x (List.mem_of_getElem? J)))
 | cx aH bf ax h1 aa hr aM =>
  intro hk;cases hk with
  | ref J=>simp [ab.isRef] at J
  | bq h=>cases h with | cx h=>exact .cx aH bf ax h1 aa λk x J=>aM k x J (.bq (h x (List.mem_of_getElem? J)))
 | own aW ah h1 hr aR ar aH aM =>
  intro hk;refine .own aW ah h1 (λk x u J hu=>aM k x u J hu ?_) aR ar aH;cases hk with
  | ref J=>simp [ab.isRef] at J
  | bq h=>cases h with | own h=>exact .bq (h x (List.mem_of_getElem? J))
  | own h=>exact h x (List.mem_of_getElem? J)
 | obj aW ah h1 hr aR ar aH ax aM =>
  intro hk;refine .obj aW ah h1 (λk x u J hu=>aM k x u J hu ?_) aR ar aH ax;cases hk with
  | ref J=>simp [ab.isRef] at J
  | bq h=>cases h with | obj h=>exact .bq (h x (List.mem_of_getElem? J))
  | obj h=>exact h x (List.mem_of_getElem? J)
 | agg ah h1 hr aR aH aM =>
  intro hk;refine .agg ah h1 (λk x u J hu=>aM k x u J hu ?_) aR aH;cases hk with
  | ref J=>simp [ab.isRef] at J
  | bq h=>cases h with | agg h=>exact .bq (h x (List.mem_of_getElem? J))
  | agg h=>exact h x (List.mem_of_getElem? J)
 | bS ah hr aR aH aM =>
  intro hk;refine .bS ah (λk x u J hu=>aM k x u J hu ?_) aR aH;cases hk with
  | ref J=>simp [ab.isRef] at J
  | bq h=>cases h with | bS h=>exact .bq (h x (List.mem_of_getElem? J))
  | bS h=>exact h x (List.mem_of_getElem? J)
 | @cF fn first caps v1 v2 F aH h1 af i' hC gj fT =>
  intro hk;have:(∀ x∈first,cU g x)/\∀ x∈caps,cU g x:=by
   cases hk with
   | ref J=>simp [ab.isRef] at J
   | bq h=>cases h with | cF h1 af=>exact ⟨λx J=>.bq (h1 x J),λx J=>.bq (af x J)⟩
   | cF h1 af=>exact ⟨h1,af⟩
  exact .cF aH h1 af (λk x u J hu=>gj k x u J hu (this.1 x (List.mem_of_getElem? J))) (λk x u J hu=>fT k x u J hu (this.2 x (List.mem_of_getElem? J)))
theorem jH.b0 {x:ab}{v:Value}{F:a'}(h:jH w I (fk w T) x v F) (hk:cU g x):jH w I (dy w T g) x v F:=by
 cases h with
 | tree h=>exact .tree (h.b0 hk)
 | bM h =>
  cases hk with
  | bq h=>cases h
  | ref J=>simp [ab.isRef] at J
  | bM aq aB=>exact .bM ⟨⟨h.jw,aq⟩,h.kK,h.mU,h.ah,h.h1,λk x u J hu=>(h.hr k x u J hu).b0 (aB x (List.mem_of_getElem? J)),h.aH⟩
theorem cB.nh (h:cB w I T g Fs):jI w I T g Fs :=
  ⟨λt x J=>by
    obtain ⟨v,hv,a1⟩:=h.rel t x J;refine ⟨v,hv,?_⟩;cases a1 with
    | tree a1=>exact .tree (a1.frame (λ_ _=>rfl) (λ_ h=>h) (λ_ _ h=>h.1) λ_ _=>rfl)
    | bM a1=>exact .bM ⟨a1.jw.1,a1.kK,a1.mU,a1.ah,a1.h1,λk x u J hu=>(a1.hr k x u J hu).frame (λ_ _=>rfl) (λ_ h=>h) (λ_ _ h=>h.1) λ_ _=>rfl,a1.aH⟩,
   h.ln,h.ea,h.bc,h.lt,h.hR⟩
theorem jI.abl (h:jI w I T g Fs) {g':aL}(aQ:∀ t x,g' t=some x->g t=some x) (hk:∀ t x,g' t=some x->cU g' x)
  (aq:∀ t t' z p n m new bR cq m' cN,g' t=some (.bM z p n m new)->g' t'=some (.bM bR p cq m' cN)->t=t'):cB w I T g' (λt c=>g' t≠none/\Fs t c):=by
 refine ⟨λt x J=>?_,λt au c aa=>aa.1 au,λt t' c aa dQ=>h.ea t t' c aa.2 dQ.2,λt c aa=>h.bc t c aa.2,h.lt,aq,h.hR⟩;obtain ⟨v,hv,a1⟩:=h.rel t x (aQ t x J);have:Fs t=λc=>g' t≠none/\Fs t c:=by
  funext c;exact propext ⟨λaa=>⟨by rw [J]; simp,aa⟩,λaa=>aa.2⟩
 refine ⟨v,hv,?_⟩;rw [<- this];exact a1.b0 (hk t x J)
theorem jI.part (h:jI w I T g Fs) {p:Place}{y:ab}(aq:bH g p=some y) (ao:∀ z q n m new,y≠.bM z q n m new):∃ v cr,dx w T p=some v/\R w I (fk w T) y v cr/\(∀ c,cr c->Fs p.root c) /\
  ∀ (y':ab) (jk:a'),R w I (fk w T) y' v jk->(∀ c,jk c->Fs p.root c->cr c)->(∀ c,jk c->¬ I c)->(∀ t c,t≠p.root->jk c->¬ Fs t c)->(∀ j,y'=.self j->y=.self j) ->
   ∃ bW,jI w I T (ct g p y') bW/\(∀ c,bW p.root c↔(Fs p.root c/\¬ cr c)\/jk c)/\∀ t,t≠p.root->bW t=Fs t:=by
 unfold bH at aq;cases J:g p.root with
 | none=>rw [J] at aq; cases aq
 | some x =>
  rw [J] at aq;obtain ⟨v,hv,a1⟩:=h.rel _ _ J;replace a1:=a1.gu (by
   rintro z q n m new rfl;exact ao _ _ _ _ _ (ab.s8 aq).2)
  obtain ⟨h0,cr,hw,ds,c_,e7,kz⟩:=R.focus p.path a1 aq;refine ⟨h0,cr,by simp [dx,hv,hw],ds,c_,λy' jk iJ nA bf OV lB=>?_⟩;obtain ⟨cS,Ca,oC⟩:=kz w I (fk w T) y' jk ⟨λ_ _=>rfl,λ_ _ _=>rfl,λ_ h=>h,λ_ _ h=>h⟩ iJ nA lB;refine ⟨λt=>if t=p.root then cS else Fs t,⟨λt x' e'=>?_,λt au c=>?_,λt t' c aa dQ=>?_,λt c aa=>?_,h.lt,h.hR⟩,λc=>by simp [oC c],λt au=>by simp [au]⟩
  ·by_cases hQ:t=p.root
   ·subst hQ;have Yk:x.setAt p.path y'=x':=by simpa [ct,J] using e'
    subst Yk;exact ⟨v,hv,.tree (by simpa using Ca)⟩
   ·simp only [ct,if_neg hQ] at e';simpa [hQ] using h.rel t x' e'
  ·by_cases hQ:t=p.root
   ·subst hQ; simp [ct,J] at au
   ·simp only [ct,if_neg hQ] at au; simpa [hQ] using h.ln t au c
  ·by_cases h1:t=p.root <;> by_cases af:t'=p.root <;> simp only [h1,af,if_true,if_false] at aa dQ
   ·rw [h1,af]
   ·rcases (oC c).1 aa with ⟨aF,_⟩ | aF
    ·rw [h1]; exact h.ea _ _ _ aF dQ
    ·exact absurd dQ (OV t' c af aF)
   ·rcases (oC c).1 dQ with ⟨aF,_⟩ | aF
    ·rw [af]; exact h.ea _ _ _ aa aF
    ·exact absurd aa (OV t c h1 aF)
   ·exact h.ea _ _ _ aa dQ
  ·by_cases h1:t=p.root <;> simp only [h1,if_true,if_false] at aa
   ·rcases (oC c).1 aa with ⟨aF,_⟩ | aF
    ·exact h.bc _ c aF
    ·exact bf c aF
   ·exact h.bc t c aa
end
inductive Take:aL->List ab->List ab->aL->Prop
 | bq {g:aL}{xs:List ab}(h:∀ x∈xs,cE x):Take g xs xs g
 | cons {g g':aL}{x:ab}{xs xs':List ab}(h:cE x) (au:Take g xs xs' g'):Take g (x::xs) (x::xs') g'
 | a7 {g g1 g':aL}{z n N:Nat}{p:Place}{cs cs' xs xs':List ab}(aq:bH g p=some (.own z N cs)) (aB:n<=N) (h1:Take (ct g p .dead) (cs.take (n * z)) cs' g1) (af:Take g1 xs xs' g') :
   Take g (.a7 z p n::xs) (.own z n cs'::xs') g'
 | bM {g g1 g':aL}{z n m t:Nat}{q:Place}{cs new cs' xs xs':List ab}(au:g t=some (.bM z q n m new)) (aq:bH g q=some (.own z n cs)) (a_:q.root≠t) (h1:Take (ct (ct g ⟨t,[]⟩ .dead) q .dead) (cs++new) cs' g1) (af:Take g1 xs xs' g') :
   Take g (.a7 z ⟨t,[]⟩ (n+m)::xs) (.own z (n+m) cs'::xs') g'
 | Au {g g1 g':aL}{z n m t oa m2 t2:Nat}{q:Place}{cs new Aj cs' xs xs':List ab}(au:g t=some (.bM z ⟨t2,[]⟩ n m new)) (O5:g t2=some (.bM z q oa m2 Aj)) (aB:n=oa+m2) (aq:bH g q=some (.own z oa cs)) (a_:q.root≠t) (rr:q.root≠t2) (X_:t≠t2)
   (h1:Take (ct (ct (ct g ⟨t,[]⟩ .dead) ⟨t2,[]⟩ .dead) q .dead) (cs++Aj++new) cs' g1) (af:Take g1 xs xs' g') :
   Take g (.a7 z ⟨t,[]⟩ (n+m)::xs) (.own z (n+m) cs'::xs') g'
 | obj {g g1 g':aL}{p:Place}{cs cs' xs xs':List ab}(aq:bH g p=some (.obj cs)) (h1:Take (ct g p .dead) cs cs' g1) (af:Take g1 xs xs' g'):Take g (.ptr p 0::xs) (.obj cs'::xs') g'
 | mp {g g1 g':aL}{p:Place}{q:Array MapEntry->Nat->Prop}{xs xs':List ab}(aq:bH g p=some (.mp q)) (h1:Take (ct g p .dead) [] [] g1) (af:Take g1 xs xs' g'):Take g (.gl p::xs) (.mp q::xs') g'
 | agg {g g1 g':aL}{cs cs' xs xs':List ab}(h1:Take g cs cs' g1) (af:Take g1 xs xs' g'):Take g (.agg cs::xs) (.agg cs'::xs') g'
 | bS {g g1 g':aL}{cs cs' xs xs':List ab}(h1:Take g cs cs' g1) (af:Take g1 xs xs' g'):Take g (.bS cs::xs) (.bS cs'::xs') g'
structure Hand (w:World) (I:a') (ρ:ab->Value->Prop) (Fs:Nat->a') (xs:List ab) (vs:List Value) (dj:Nat->a'):Prop where
 len:xs.length=vs.length
 rel:∀ (k:Nat) (x:ab) (u:Value),xs[k]?=some x->vs[k]?=some u->R w I ρ x u (dj k)
 ea:∀ (j k c:Nat),j<xs.length->k<xs.length->dj j c->dj k c->j=k
 off:∀ (k t c:Nat),k<xs.length->dj k c->¬ Fs t c
 bc:∀ (k c:Nat),k<xs.length->dj k c->¬ I c
def lJ (Fs:Nat->a') (n:Nat) (dj:Nat->a'):a':=λc=>(∃ t,Fs t c)\/∃ k,k<n/\dj k c
section
variable {w:World}{I:a'}{T:Array Value}
theorem Take.length {g g':aL}{xs xs':List ab}(h:Take g xs xs' g'):xs'.length=xs.length:=by
 induction h with
 | bq=>rfl
 | cons _ _ aM=>simp [aM]
 | a7 _ _ _ _ _ aM=>simp [aM]
 | bM _ _ _ _ _ _ aM=>simp [aM]
 | Au _ _ _ _ _ _ _ _ _ _ aM=>simp [aM]
 | obj _ _ _ _ aM=>simp [aM]
 | mp _ _ _ _ aM=>simp [aM]
 | agg _ _ _ aM=>simp [aM]
 | bS _ _ _ aM=>simp [aM]
theorem Take.self {g g':aL}{xs xs':List ab}(h:Take g xs xs' g'):∀ (k:Nat) (j:Nat × Nat),xs'[k]?=some (.self j)->xs[k]?=some (.self j):=by
 have step:∀ {x x':ab}{xs xs':List ab},(∀ j,x'=.self j->x=.self j)->(∀ (k:Nat) (j:Nat × Nat),xs'[k]?=some (.self j)->xs[k]?=some (.self j))->∀ (k:Nat) (j:Nat × Nat),(x'::xs')[k]?=some (.self j)->(x::xs)[k]?=some (.self j):=by
  intro x x' xs xs' h1 af k j h;cases k with
  | zero=>simp only [List.getElem?_cons_zero,Option.some.injEq] at h ⊢; exact h1 j h
  | succ k=>exact af k j h
 induction h with
 | bq=>exact λ_ _ h=>h
 | cons _ _ aM=>exact step (λ_ h=>h) aM
 | a7 _ _ _ _ _ aM=>exact step (λ_ h=>by cases h) aM
 | bM _ _ _ _ _ _ aM=>exact step (λ_ h=>by cases h) aM
 | Au _ _ _ _ _ _ _ _ _ _ aM=>exact step (λ_ h=>by cases h) aM
 | obj _ _ _ _ aM=>exact step (λ_ h=>by cases h) aM
 | mp _ _ _ _ aM=>exact step (λ_ h=>by cases h) aM
 | agg _ _ _ aM=>exact step (λ_ h=>by cases h) aM
 | bS _ _ _ aM=>exact step (λ_ h=>by cases h) aM
theorem Take.Dt {g g':aL}{xs xs':List ab}(h:Take g xs xs' g') (aW:∀ x∈xs,s3 x):∀ x∈xs',s3 x:=by
 induction h with
 | bq=>exact aW
 | cons _ _ aM =>
  intro x J;rcases List.mem_cons.1 J with rfl | J
  ·exact aW _ (by simp)
  ·exact aM (λx h=>aW x (by simp [h])) x J
 | a7 _ _ _ _ _ aM | bM _ _ _ _ _ _ aM | Au _ _ _ _ _ _ _ _ _ _ aM | obj _ _ _ _ aM | mp _ _ _ _ aM | bS _ _ _ aM =>
  intro x J;rcases List.mem_cons.1 J with rfl | J
  ·intro cs e; cases e
  ·exact aM (λx h=>aW x (by simp [h])) x J
 | agg h1 _ _ aM =>
  intro x J;rcases List.mem_cons.1 J with rfl | J
  ·intro cs e;cases e;exact λk j hk=>aW _ (List.mem_cons_self ..) _ rfl k j (h1.self k j hk)
  ·exact aM (λx h=>aW x (by simp [h])) x J
theorem Hand.cons {ρ:ab->Value->Prop}{Fs:Nat->a'}{x:ab}{v:Value}{F:a'}{xs:List ab}{vs:List Value}{dj:Nat->a'}(h:Hand w I ρ Fs xs vs dj) (J:R w I ρ x v F)
  (aR:∀ k c,k<xs.length->F c->¬ dj k c) (aW:∀ t c,F c->¬ Fs t c) (hi:∀ c,F c->¬ I c):Hand w I ρ Fs (x::xs) (v::vs) (λk=>match k with | 0=>F | k+1=>dj k):=by
 refine ⟨by simp [h.len],λk y u ao hu=>?_,λj k c ag hk h1 af=>?_,λk t c hk aa=>?_,λk c hk aa=>?_⟩
 ·cases k with
  | zero=>simp at ao hu; subst ao hu; exact J
  | succ k=>simp at ao hu; exact h.rel k y u ao hu
 ·cases j <;> cases k
  ·rfl
  ·exact absurd af (aR _ c (by simpa using hk) h1)
  ·exact absurd h1 (aR _ c (by simpa using ag) af)
  ·rw [h.ea _ _ c (by simpa using ag) (by simpa using hk) h1 af]
 ·cases k with
  | zero=>exact aW t c aa
  | succ k=>exact h.off k t c (by simpa using hk) aa
 ·cases k with
  | zero=>exact hi c aa
  | succ k=>exact h.bc k c (by simpa using hk) aa
theorem Hand.tail {ρ:ab->Value->Prop}{Fs:Nat->a'}{x:ab}{v:Value}{xs:List ab}{vs:List Value}{dj:Nat->a'}(h:Hand w I ρ Fs (x::xs) (v::vs) dj):Hand w I ρ Fs xs vs (λk=>dj (k+1)) :=
  ⟨by simpa using h.len,λk y u ao hu=>h.rel (k+1) y u ao hu,λj k c ag hk h1 af=>by have:=h.ea (j+1) (k+1) c (by simpa using ag) (by simpa using hk) h1 af; omega,
   λk t c hk aa=>h.off (k+1) t c (by simpa using hk) aa,λk c hk aa=>h.bc (k+1) c (by simpa using hk) aa⟩
theorem sJ {x:ab}{xs:List ab}(h:cE x) (aM:∀ y∈xs,cE y):∀ y∈x::xs,cE y:=by
 intro y ao;rcases List.mem_cons.1 ao with rfl | ao
 ·exact h
 ·exact aM y ao
theorem Take.Al {g g':aL}{xs xs':List ab}(h:Take g xs xs' g'):∀ x∈xs',cE x:=by
 induction h with
 | bq h=>exact h
 | cons h _ aM=>exact sJ h aM
 | a7 _ _ _ _ gj fT=>exact sJ (.own gj) fT
 | bM _ _ _ _ _ gj fT=>exact sJ (.own gj) fT
 | Au _ _ _ _ _ _ _ _ _ gj fT=>exact sJ (.own gj) fT
 | obj _ _ _ gj fT=>exact sJ (.obj gj) fT
 | mp _ _ _ _ fT=>exact sJ .mp fT
 | agg _ _ gj fT=>exact sJ (.agg gj) fT
 | bS _ _ gj fT=>exact sJ (.bS gj) fT
def HN (w:World) (I:a') (T:Array Value) (g:aL) (xs xs':List ab) (g':aL):Prop :=
 ∀ {Fs:Nat->a'}{vs:List Value}{dj:Nat->a'},jI w I T g Fs->Hand w I (fk w T) Fs xs vs dj ->
  ∃ bW jE,jI w I T g' bW/\Hand w I (fk w T) bW xs' vs jE/\∀ c,lJ bW xs'.length jE c->lJ Fs xs.length dj c
theorem Lg {w:World}{e b4:TypeId}{z n:Nat}{v:Value}{us iR:List Value}(h:w.ownsRow 0 e z v n us) (aI:w.ownsRow 0 b4 z v n iR):us=iR:=by
 obtain ⟨h1,af⟩:=h;obtain ⟨jt,I3⟩:=aI;rcases af with ⟨rfl,rfl⟩ | ⟨b,cap,cur,rfl,_,aQ,_,_,_,au⟩
 ·simp at h1 jt; rw [h1,jt]
 ·rcases I3 with ⟨bQ,_⟩ | ⟨dU,nv,aej,bQ,_,OD,_,_,_,ry⟩
  ·cases bQ
  ·cases bQ;rw [aQ] at OD;cases OD;rw [<- au,<- ry]
theorem Take.node {g1 g2 g':aL}{Fs fr:Nat->a'}{B H0:a'}{cs cs' xs xs':List ab}{us vs:List Value}{bG dj:Nat->a'}{X:ab}{v0:Value}
  (bg:jI w I T g1 fr) (hH:Hand w I (fk w T) fr cs us bG) (eY:∀ c,B c->(∃ t,Fs t c)/\(∀ t,¬ fr t c)/\(∀ k,k<cs.length->¬ bG k c)/\¬ I c)
  (hD:∀ c,lJ fr cs.length bG c->(∃ t,Fs t c)\/H0 c) (cV:Hand w I (fk w T) Fs xs vs dj) (rl:∀ c,H0 c->(∀ t,¬ Fs t c)/\∀ k,k<xs.length->¬ dj k c)
  (gj:HN w I T g1 cs cs' g2) (fT:HN w I T g2 xs xs' g')
  (build:∀ jE:Nat->a',(∀ (k:Nat) (x:ab) (u:Value),cs'[k]?=some x->us[k]?=some u->R w I (fk w T) x u (jE k))->(∀ (j k c:Nat),j<cs'.length->k<cs'.length->jE j c->jE k c->j=k) ->
   (∀ k c,k<cs'.length->jE k c->¬ B c)->R w I (fk w T) X v0 (λc=>B c\/∃ k,k<cs'.length/\jE k c)) :
  ∃ bW jE,jI w I T g' bW/\Hand w I (fk w T) bW (X::xs') (v0::vs) jE/\∀ c,lJ bW (X::xs').length jE c->(∃ t,Fs t c)\/H0 c\/∃ k,k<xs.length/\dj k c:=by
 obtain ⟨j2,H1,iw,Fx,Ch⟩:=gj bg hH;have Zl:∀ k t c,k<xs.length->dj k c->¬ j2 t c:=by
  intro k t c hk aa aV;rcases hD c (Ch c (.inl ⟨t,aV⟩)) with ⟨t',h⟩ | h
  ·exact cV.off k t' c hk aa h
  ·exact (rl c h).2 k hk aa
 obtain ⟨y4,Bj,Cc,Wh,Oi⟩:=fT iw (⟨cV.len,cV.rel,cV.ea,Zl,cV.bc⟩:Hand w I (fk w T) j2 xs vs dj);have V7:∀ k c,k<cs'.length->H1 k c->¬ B c:=by
  intro k c hk aa ar;obtain ⟨_,h1,af,_⟩:=eY c ar;rcases Ch c (.inr ⟨k,hk,aa⟩) with ⟨t,h⟩ | ⟨j,ag,h⟩
  ·exact h1 t h
  ·exact af j ag h
 have eU:=build H1 Fx.rel Fx.ea V7
 -- the node's blocks: apart from all else
 have key:∀ c,(B c\/∃ k,k<cs'.length/\H1 k c)->(∀ t,¬ j2 t c)/\(∀ k,k<xs.length->¬ dj k c)/\¬ I c/\((∃ t,Fs t c)\/H0 c):=by
  rintro c (ar | ⟨k,hk,aa⟩)
  ·obtain ⟨⟨t0,aK⟩,h1,af,aF⟩:=eY c ar;refine ⟨λt aV=>?_,λk hk aa=>cV.off k t0 c hk aa aK,aF,.inl ⟨t0,aK⟩⟩;rcases Ch c (.inl ⟨t,aV⟩) with ⟨t',h⟩ | ⟨j,ag,h⟩
   ·exact h1 t' h
   ·exact af j ag h
  ·have ax:=hD c (Ch c (.inr ⟨k,hk,aa⟩));refine ⟨λt aV=>Fx.off k t c hk aa aV,λj ag xt=>?_,Fx.bc k c hk aa,ax⟩;rcases ax with ⟨t,h⟩ | h
   ·exact cV.off j t c ag xt h
   ·exact (rl c h).2 j ag xt
 have fin:∀ c,(B c\/∃ k,k<cs'.length/\H1 k c)->(∀ t,¬ y4 t c)/\∀ k,k<xs'.length->¬ Bj k c:=by
  intro c aa;obtain ⟨h1,af,_,_⟩:=key c aa;have none:¬ lJ y4 xs'.length Bj c:=by
   intro h;rcases Oi c h with ⟨t,h⟩ | ⟨k,hk,h⟩
   ·exact h1 t h
   ·exact af k hk h
  exact ⟨λt h=>none (.inl ⟨t,h⟩),λk hk h=>none (.inr ⟨k,hk,h⟩)⟩
 refine ⟨y4,_,Cc,Wh.cons eU (λk c hk aa=>(fin c aa).2 k hk) (λt c aa=>(fin c aa).1 t) (λc aa=>(key c aa).2.2.1),?_⟩;have back:∀ c,lJ y4 xs'.length Bj c->(∃ t,Fs t c)\/H0 c\/∃ k,k<xs.length/\dj k c:=by
  intro c h;rcases Oi c h with ⟨t,h⟩ | h
  ·rcases hD c (Ch c (.inl ⟨t,h⟩)) with h | h
   ·exact .inl h
   ·exact .inr (.inl h)
  ·exact .inr (.inr h)
 rintro c (h | ⟨k,hk,aa⟩)
 ·exact back c (.inl h)
 ·cases k with
  | zero =>
   rcases (key c aa).2.2.2 with h | h
   ·exact .inl h
   ·exact .inr (.inl h)
  | succ k=>exact back c (.inr ⟨k,by simpa using hk,aa⟩)
end
section
variable {w:World}{I:a'}{T:Array Value}
theorem jI.kill {g:aL}{Fs:Nat->a'}(h:jI w I T g Fs) (t:Nat):∃ bW,jI w I T (ct g ⟨t,[]⟩ .dead) bW/\(∀ c,¬ bW t c)/\∀ s,s≠t->bW s=Fs s:=by
 refine ⟨λs=>if s=t then ck else Fs s,⟨λs x J=>?_,λs ax c=>?_,λs cz c aa dQ=>?_,λs c aa=>?_,h.lt,h.hR⟩,λc=>by simp,λs ax=>by simp [ax]⟩
 ·by_cases bU:s=t
  ·subst bU;simp only [ct,if_pos] at J;cases aQ:g s with
   | none=>rw [aQ] at J; cases J
   | some y =>
    rw [aQ] at J;have:x=.dead:=by simpa [ab.setAt] using J.symm
    subst this;obtain ⟨v,hv,_⟩:=h.rel s y aQ;exact ⟨v,hv,.tree (.dead (by simp))⟩
  ·simp only [ct,if_neg bU] at J; simpa [bU] using h.rel s x J
 ·by_cases bU:s=t
  ·simp [bU]
  ·simp only [ct,if_neg bU] at ax; simpa [bU] using h.ln s ax c
 ·by_cases h1:s=t <;> by_cases af:cz=t <;> simp [h1,af,ck] at aa dQ;exact h.ea _ _ _ aa dQ
 ·by_cases h1:s=t <;> simp [h1,ck] at aa;exact h.bc _ _ aa
theorem R.vD {ρ:ab->Value->Prop}{Fs:Nat->a'}{x:ab}{v:Value}{xs:List ab}{vs:List Value}{dj:Nat->a'}(h:Hand w I ρ Fs (x::xs) (v::vs) dj):∀ c,dj 0 c->(∀ t,¬ Fs t c)/\∀ k,k<xs.length->¬ dj (k+1) c:=by
 intro c aa;refine ⟨λt=>h.off 0 t c (by simp) aa,λk hk ig=>?_⟩;have:=h.ea 0 (k+1) c (by simp) (by simpa using hk) aa ig;omega
theorem lJ.head {Fs:Nat->a'}{x:ab}{xs:List ab}{dj:Nat->a'}{c:Nat}(h:(∃ t,Fs t c)\/dj 0 c\/∃ k,k<xs.length/\dj (k+1) c):lJ Fs (x::xs).length dj c:=by
 rcases h with h | h | ⟨k,hk,h⟩
 ·exact .inl h
 ·exact .inr ⟨0,by simp,h⟩
 ·exact .inr ⟨k+1,by simpa using hk,h⟩
theorem G0 {g:aL}{p:Place}{y:ab}{q:Place}(h:q.root≠p.root):bH (ct g p y) q=bH g q:=by
 grind [bH,ct]
theorem wz {g:aL}{p:Place}{y:ab}{t:Nat}(h:t≠p.root):ct g p y t=g t:=by
 grind [ct]
theorem Qm {a:Option Addr}{n cap cq nv:Nat}:(Value.slice a n cap).ownBlock=(Value.slice a cq nv).ownBlock:=by cases a <;> rfl
theorem Zw {e:TypeId}{z n N:Nat}{a:Option Addr}{cap:Nat}{us:List Value}(h:w.ownsRow 0 e z (.slice a N cap) N us) (aB:n<=N):w.ownsRow 0 e z (.slice a n cap) n (us.take (n * z)):=by
 have hle:n * z<=N * z:=Nat.mul_le_mul_right _ aB;obtain ⟨hu,bQ⟩:=h;refine ⟨by rw [List.length_take,hu]; omega,?_⟩
 grind
theorem Take.sound {g g':aL}{xs xs':List ab}(h:Take g xs xs' g'):HN w I T g xs xs' g':=by
 induction h with
 | bq h=>exact λ{Fs vs dj} bg hH=>⟨Fs,dj,bg,hH,λ_ h=>h⟩
 | @cons g g' x xs xs' J _ aM =>
  intro Fs vs dj bg hH;cases vs with
  | nil=>have:=hH.len; simp at this
  | cons v vs =>
   obtain ⟨bW,jE,dZ,Wg,hn⟩:=aM bg hH.tail;have aK:=R.vD hH;have off:∀ c,dj 0 c->¬ lJ bW xs'.length jE c:=by
    intro c aa ar;rcases hn c ar with ⟨t,h⟩ | ⟨k,hk,h⟩
    ·exact (aK c aa).1 t h
    ·exact (aK c aa).2 k hk h
   refine ⟨bW,_,dZ,Wg.cons (hH.rel 0 x v rfl rfl) (λk c hk aa h=>off c aa (.inr ⟨k,hk,h⟩)) (λt c aa h=>off c aa (.inl ⟨t,h⟩)) (λc aa=>hH.bc 0 c (by simp) aa),?_⟩;rintro c (h | ⟨k,hk,h⟩)
   ·rcases hn c (.inl h) with h | ⟨j,ag,h⟩
    ·exact .inl h
    ·exact .inr ⟨j+1,by simpa using ag,h⟩
   ·cases k with
    | zero=>exact .inr ⟨0,by simp,h⟩
    | succ k =>
     rcases hn c (.inr ⟨k,by simpa using hk,h⟩) with h | ⟨j,ag,h⟩
     ·exact .inl h
     ·exact .inr ⟨j+1,by simpa using ag,h⟩
 | @a7 g g1 g' z n N p cs cs' xs xs' aq aB t1 _ gj fT =>
  intro Fs vs dj bg hH;cases vs with
  | nil=>have:=hH.len; simp at this
  | cons v vs =>
   obtain ⟨qU,cr,gJ,hB,c_,kz⟩:=bg.part aq (by simp);obtain ⟨a,kE,cap,h1,rfl,aF⟩:=(hH.rel 0 _ v rfl rfl).n4;rw [h1] at gJ;cases gJ;obtain ⟨a2,sc,h9,_⟩:=hB.oc;cases h9;obtain ⟨fr,iZ,i',hC⟩:=kz .dead ck (.dead λ_ h=>h) (λ_ h=>h.elim) (λ_ h=>h.elim) (λ_ _ _ h=>h.elim) (λ_ h=>by cases h);have lU:∀ t c,fr t c->Fs t c/\¬ cr c:=by
    intro t c aa;by_cases au:t=p.root
    ·subst au;rcases (i' c).1 aa with h | h
     ·exact h
     ·exact h.elim
    ·rw [hC t au] at aa;exact ⟨aa,λed=>au (bg.ea _ _ _ aa (c_ c ed))⟩
   cases hB with
   | ref J=>simp [ab.isRef] at J
   | @own _ _ _ _ e us bG _ aW ah jt hr aR ar aH =>
    have FN:∀ k,k<(cs.take (n * z)).length->k<cs.length:=λk hk=>by rw [List.length_take] at hk; omega
    have ey:∀ k c,k<(cs.take (n * z)).length->bG k c->cr c:=λk c hk aa=>(aH c).2 (.inr ⟨k,FN k hk,aa⟩);have iv:Hand w I (fk w T) fr (cs.take (n * z)) (us.take (n * z)) bG:=by
     refine ⟨by simp [ah],λk x u J hu=>?_,λj k c ag hk=>aR j k c (FN j ag) (FN k hk),λk t c hk aa aV=>(lU t c aV).2 (ey k c hk aa),λk c hk aa=>bg.bc _ c (c_ c (ey k c hk aa))⟩;rw [List.getElem?_take] at J hu
     split at J
     ·rename_i du; rw [if_pos du] at hu; exact hr k x u J hu
     ·cases J
    have ru:=Zw aW aB;obtain ⟨bW,jE,aw,a2,a3⟩:=Take.node (g1:=ct g p .dead) (Fs:=Fs) (B:=λc=>(Value.slice a n cap).ownBlock=some c) (H0:=dj 0) (X:=.own z n cs') (v0:=.slice a n cap) iZ iv
     (λc aa=>by
      have ed:cr c:=(aH c).2 (.inl (by rw [<- aa]; exact Qm));exact ⟨⟨_,c_ c ed⟩,λt aV=>(lU t c aV).2 ed,λk hk ig=>ar k c (FN k hk) ig (by rw [<- aa]; exact Qm),bg.bc _ c (c_ c ed)⟩)
     (λc aa=>by
      rcases aa with ⟨t,h⟩ | ⟨k,hk,h⟩
      ·exact .inl ⟨t,(lU t c h).1⟩
      ·exact .inl ⟨_,c_ c (ey k c hk h)⟩)
     hH.tail (R.vD hH) gj fT (λy6 gW ir lO=>by
      refine .own ru (by rw [t1.length]; simp [ah]) (λk u hu=>?_) gW ir (λk c hk aa h=>lO k c hk aa h) λc=>Iff.rfl;rw [List.getElem?_take] at hu
      split at hu
      ·exact jt k u hu
      ·cases hu)
    exact ⟨bW,jE,aw,a2,λc aa=>lJ.head (a3 c aa)⟩
 | @bM g g1 g' z n m t q cs new cs' xs xs' au aq a_ t1 _ gj fT =>
  intro Fs vs dj bg hH;cases vs with
  | nil=>have:=hH.len; simp at this
  | cons v vs =>
   obtain ⟨a,kE,cap,h1,rfl,aF⟩:=(hH.rel 0 _ v rfl rfl).n4;obtain ⟨v0,kx,gr⟩:=bg.rel t _ au;simp only [dx,kx,walk,Option.some.injEq] at h1;subst h1;obtain ⟨bv,e,b6,us,news,gr⟩:=gr.vV;have bt:kE=n+m:=by
    obtain ⟨_,bQ⟩:=gr.mU;rcases bQ with ⟨bQ,aK⟩ | ⟨_,_,_,bQ,_⟩
    ·cases bQ; omega
    ·cases bQ; rfl
   subst bt;obtain ⟨Sj,Jl,gy,fz⟩:=bg.kill t;have J7:bH (ct g ⟨t,[]⟩ .dead) q=some (.own z n cs):=by rw [G0 (by simpa using a_)]; exact aq
   obtain ⟨qU,cr,gJ,hB,c_,kz⟩:=Jl.part J7 (by simp);obtain ⟨cd,nv,bh,rfl⟩:=gr.jw;rw [bh] at gJ;cases gJ;obtain ⟨fr,iZ,i',hC⟩:=kz .dead ck (.dead λ_ h=>h) (λ_ h=>h.elim) (λ_ h=>h.elim) (λ_ _ _ h=>h.elim) (λ_ h=>by cases h);have qq:∀ c,cr c->Fs q.root c:=λc aa=>by have:=c_ c aa; rwa [fz _ a_] at this
   have lU:∀ s c,fr s c->Fs s c/\¬ cr c/\s≠t:=by
    intro s c aa;have bU:s≠t:=by
     rintro rfl;by_cases vN:s=q.root
     ·exact a_ vN.symm
     ·rw [hC s vN] at aa; exact gy c aa
    by_cases ax:s=q.root
    ·subst ax;rcases (i' c).1 aa with h | h
     ·exact ⟨by have:=h.1; rwa [fz _ a_] at this,h.2,bU⟩
     ·exact h.elim
    ·rw [hC s ax,fz s bU] at aa;exact ⟨aa,λed=>ax (bg.ea _ _ _ aa (qq c ed)),bU⟩
   cases hB with
   | ref J=>simp [ab.isRef] at J
   | @own _ _ _ _ b4 iR bG _ aW ah jt hr aR ar aH =>
    have:=Lg aW gr.kK;subst this;have ey:∀ k c,k<cs.length->bG k c->cr c:=λk c hk aa=>(aH c).2 (.inr ⟨k,hk,aa⟩);have iv:Hand w I (fk w T) fr (cs++new) (iR++news) (λk=>if k<cs.length then bG k else ck):=by
     refine ⟨by simp [ah,gr.ah],λk x u J hu=>?_,λj k c ag hk aa dQ=>?_,λk s c hk aa aV=>?_,λk c hk aa=>?_⟩
     ·by_cases du:k<cs.length
      ·rw [List.getElem?_append_left du] at J;rw [List.getElem?_append_left (by omega)] at hu;simpa [du] using hr k x u J hu
      ·rw [List.getElem?_append_right (by omega)] at J;rw [List.getElem?_append_right (by omega),<- ah] at hu;simpa [du] using gr.hr _ x u J hu
     ·by_cases ez:j<cs.length <;> by_cases du:k<cs.length <;> simp [ez,du,ck] at aa dQ;exact aR j k c ez du aa dQ
     ·by_cases du:k<cs.length <;> simp [du,ck] at aa;exact (lU s c aV).2.1 (ey k c du aa)
     ·by_cases du:k<cs.length <;> simp [du,ck] at aa;exact bg.bc _ c (qq c (ey k c du aa))
    obtain ⟨bW,jE,aw,a2,a3⟩:=Take.node (g1:=ct (ct g ⟨t,[]⟩ .dead) q .dead) (Fs:=Fs) (B:=λc=>(Value.slice a (n+m) cap).ownBlock=some c) (H0:=dj 0) (X:=.own z (n+m) cs') (v0:=.slice a (n+m) cap) iZ iv
     (λc aa=>by
      by_cases qx:(Value.slice cd n nv).ownBlock=some c
      ·have ed:cr c:=(aH c).2 (.inl qx);refine ⟨⟨_,qq c ed⟩,λs aV=>(lU s c aV).2.1 ed,λk hk ig=>?_,bg.bc _ c (qq c ed)⟩;by_cases du:k<cs.length <;> simp [du,ck] at ig;exact ar k c du ig qx
      ·have FO:Fs t c:=(gr.aH c).2 ⟨aa,qx⟩;refine ⟨⟨_,FO⟩,λs aV=>(lU s c aV).2.2 (bg.ea _ _ _ (lU s c aV).1 FO),λk hk ig=>?_,bg.bc _ c FO⟩;by_cases du:k<cs.length <;> simp [du,ck] at ig;exact a_ (bg.ea _ _ _ (qq c (ey k c du ig)) FO))
     (λc aa=>by
      rcases aa with ⟨s,h⟩ | ⟨k,hk,h⟩
      ·exact .inl ⟨s,(lU s c h).1⟩
      ·by_cases du:k<cs.length <;> simp [du,ck] at h;exact .inl ⟨_,qq c (ey k c du h)⟩)
     hH.tail (R.vD hH) gj fT (λy6 gW ir lO=>by
      refine .own gr.mU (by rw [t1.length]; simp [ah,gr.ah]) (λk u hu=>?_) gW ir (λk c hk aa h=>lO k c hk aa h) λc=>Iff.rfl;by_cases du:k<iR.length
      ·rw [List.getElem?_append_left du] at hu; exact jt k u hu
      ·rw [List.getElem?_append_right (by omega)] at hu; exact gr.h1 _ u hu)
    exact ⟨bW,jE,aw,a2,λc aa=>lJ.head (a3 c aa)⟩
 | @Au g g1 g' z n m t oa m2 t2 q cs new Aj cs' xs xs' au O5 aB aq a_ rr X_ t1 _ gj fT =>
  subst aB;intro Fs vs dj bg hH;cases vs with
  | nil=>have:=hH.len; simp at this
  | cons v vs =>
   obtain ⟨a,kE,cap,h1,rfl,aF⟩:=(hH.rel 0 _ v rfl rfl).n4;obtain ⟨v0,kx,gr⟩:=bg.rel t _ au;simp only [dx,kx,walk,Option.some.injEq] at h1;subst h1;obtain ⟨bv,e,b6,us,news,gr⟩:=gr.vV;have bt:kE=oa+m2+m:=by
    obtain ⟨_,bQ⟩:=gr.mU;rcases bQ with ⟨bQ,aK⟩ | ⟨_,_,_,bQ,_⟩
    ·cases bQ; omega
    ·cases bQ; rfl
   subst bt;obtain ⟨v2,tm,mP⟩:=bg.rel t2 _ O5;obtain ⟨M4,b4,ud,abt,K8,mP⟩:=mP.vV;have jw:bv=v2:=by
    obtain ⟨aw,Nd,b7,rfl⟩:=gr.jw;simp only [dx,tm,walk,Option.some.injEq] at b7;exact b7.symm
   subst jw;have nC:us=abt++K8:=Lg gr.kK mP.mU;subst nC;obtain ⟨acm,WA,Xz,JN⟩:=bg.kill t;obtain ⟨Sj,Jl,gy,fz⟩:=WA.kill t2;have J7:bH (ct (ct g ⟨t,[]⟩ .dead) ⟨t2,[]⟩ .dead) q=some (.own z oa cs):=by rw [G0 (by simpa using rr),G0 (by simpa using a_)]; exact aq
   obtain ⟨qU,cr,gJ,hB,c_,kz⟩:=Jl.part J7 (by simp);obtain ⟨cd,nv,bh,rfl⟩:=mP.jw;rw [bh] at gJ;cases gJ;obtain ⟨fr,iZ,i',hC⟩:=kz .dead ck (.dead λ_ h=>h) (λ_ h=>h.elim) (λ_ h=>h.elim) (λ_ _ _ h=>h.elim) (λ_ h=>by cases h);have qq:∀ c,cr c->Fs q.root c:=λc aa=>by have:=c_ c aa; rwa [fz _ rr,JN _ a_] at this
   have lU:∀ s c,fr s c->Fs s c/\¬ cr c/\s≠t/\s≠t2:=by
    intro s c aa;have o':s≠t2:=by
     rintro rfl;by_cases vN:s=q.root
     ·exact rr vN.symm
     ·rw [hC s vN] at aa; exact gy c aa
    have bU:s≠t:=by
     rintro rfl;by_cases vN:s=q.root
     ·exact a_ vN.symm
     ·rw [hC s vN,fz s o'] at aa; exact Xz c aa
    by_cases ax:s=q.root
    ·subst ax;rcases (i' c).1 aa with h | h
     ·exact ⟨by have:=h.1; rwa [fz _ rr,JN _ a_] at this,h.2,bU,o'⟩
     ·exact h.elim
    ·rw [hC s ax,fz s o',JN s bU] at aa;exact ⟨aa,λed=>ax (bg.ea _ _ _ aa (qq c ed)),bU,o'⟩
   cases hB with
   | ref J=>simp [ab.isRef] at J
   | @own _ _ _ _ eI iR bG _ aW ah jt hr aR ar aH =>
    have:=Lg aW mP.kK;subst this;have ey:∀ k c,k<cs.length->bG k c->cr c:=λk c hk aa=>(aH c).2 (.inr ⟨k,hk,aa⟩);have iv:Hand w I (fk w T) fr (cs++Aj++new) (iR++K8++news) (λk=>if k<cs.length then bG k else ck):=by
     have gg:=mP.ah;have Dd:=gr.ah;refine ⟨by simp [ah,gg,Dd],λk x u J hu=>?_,λj k c ag hk aa dQ=>?_,λk s c hk aa aV=>?_,λk c hk aa=>?_⟩
     ·rw [List.append_assoc] at J hu;by_cases du:k<cs.length
      ·rw [List.getElem?_append_left du] at J;rw [List.getElem?_append_left (by omega)] at hu;simpa [du] using hr k x u J hu
      ·rw [List.getElem?_append_right (by omega)] at J;rw [List.getElem?_append_right (by omega),<- ah] at hu;simp only [du,if_false];by_cases JT:k - cs.length<Aj.length
       ·rw [List.getElem?_append_left JT] at J;rw [List.getElem?_append_left (by omega)] at hu;exact mP.hr _ x u J hu
       ·rw [List.getElem?_append_right (by omega)] at J;rw [List.getElem?_append_right (by omega),<- gg] at hu;exact gr.hr _ x u J hu
     ·by_cases ez:j<cs.length <;> by_cases du:k<cs.length <;> simp [ez,du,ck] at aa dQ;exact aR j k c ez du aa dQ
     ·by_cases du:k<cs.length <;> simp [du,ck] at aa;exact (lU s c aV).2.1 (ey k c du aa)
     ·by_cases du:k<cs.length <;> simp [du,ck] at aa;exact bg.bc _ c (qq c (ey k c du aa))
    have Rg:∀ s c,Fs s c->s=t\/s=t2->(∃ s,Fs s c)/\(∀ s,¬ fr s c)/\(∀ k,k<(cs++Aj++new).length->¬ (if k<cs.length then bG k else ck) c)/\¬ I c:=by
     intro s c aa ax;refine ⟨⟨_,aa⟩,λcz aV=>?_,λk hk ig=>?_,bg.bc _ c aa⟩
     ·obtain ⟨f1,_,f2,f3⟩:=lU cz c aV;have:=bg.ea _ _ _ f1 aa;rcases ax with rfl | rfl
      ·exact f2 this
      ·exact f3 this
     ·by_cases du:k<cs.length <;> simp [du,ck] at ig;have:=bg.ea _ _ _ (qq c (ey k c du ig)) aa;rcases ax with rfl | rfl
      ·exact a_ this
      ·exact rr this
    obtain ⟨bW,jE,aw,a2,a3⟩:=Take.node (g1:=ct (ct (ct g ⟨t,[]⟩ .dead) ⟨t2,[]⟩ .dead) q .dead) (Fs:=Fs) (B:=λc=>(Value.slice a (oa+m2+m) cap).ownBlock=some c) (H0:=dj 0) (X:=.own z (oa+m2+m) cs') (v0:=.slice a (oa+m2+m) cap) iZ iv
     (λc aa=>by
      by_cases qx:bv.ownBlock=some c
      ·by_cases Jt:(Value.slice cd oa nv).ownBlock=some c
       ·have ed:cr c:=(aH c).2 (.inl Jt);refine ⟨⟨_,qq c ed⟩,λs aV=>(lU s c aV).2.1 ed,λk hk ig=>?_,bg.bc _ c (qq c ed)⟩;by_cases du:k<cs.length <;> simp [du,ck] at ig;exact ar k c du ig Jt
       ·exact Rg t2 c ((mP.aH c).2 ⟨qx,Jt⟩) (.inr rfl)
      ·exact Rg t c ((gr.aH c).2 ⟨aa,qx⟩) (.inl rfl))
     (λc aa=>by
      rcases aa with ⟨s,h⟩ | ⟨k,hk,h⟩
      ·exact .inl ⟨s,(lU s c h).1⟩
      ·by_cases du:k<cs.length <;> simp [du,ck] at h;exact .inl ⟨_,qq c (ey k c du h)⟩)
     hH.tail (R.vD hH) gj fT (λy6 gW ir lO=>by
      refine .own gr.mU (by rw [t1.length]; simp [ah,mP.ah,gr.ah]) (λk u hu=>?_) gW ir (λk c hk aa h=>lO k c hk aa h) λc=>Iff.rfl;rw [List.append_assoc] at hu;by_cases du:k<iR.length
      ·rw [List.getElem?_append_left du] at hu; exact jt k u hu
      ·rw [List.getElem?_append_right (by omega)] at hu;by_cases JT:k - iR.length<K8.length
       ·rw [List.getElem?_append_left JT] at hu; exact mP.h1 _ u hu
       ·rw [List.getElem?_append_right (by omega)] at hu; exact gr.h1 _ u hu)
    exact ⟨bW,jE,aw,a2,λc aa=>lJ.head (a3 c aa)⟩
 | @obj g g1 g' p cs cs' xs xs' aq t1 _ gj fT =>
  intro Fs vs dj bg hH;cases vs with
  | nil=>have:=hH.len; simp at this
  | cons v vs =>
   obtain ⟨qU,cr,gJ,hB,c_,kz⟩:=bg.part aq (by simp);obtain ⟨u,ad,h1,af,rfl⟩:=(hH.rel 0 _ v rfl rfl).n5;rw [h1] at gJ;cases gJ;obtain ⟨fr,iZ,i',hC⟩:=kz .dead ck (.dead λ_ h=>h) (λ_ h=>h.elim) (λ_ h=>h.elim) (λ_ _ _ h=>h.elim) (λ_ h=>by cases h);have lU:∀ t c,fr t c->Fs t c/\¬ cr c:=by
    intro t c aa;by_cases au:t=p.root
    ·subst au;rcases (i' c).1 aa with h | h
     ·exact h
     ·exact h.elim
    ·rw [hC t au] at aa;exact ⟨aa,λed=>au (bg.ea _ _ _ aa (c_ c ed))⟩
   cases hB with
   | ref J=>simp [ab.isRef] at J
   | @obj _ b e arr bG _ aW ah jt hr aR ar aH ax =>
    simp only [addrOf,Option.some.injEq] at af;subst af;have ey:∀ k c,k<cs.length->bG k c->cr c:=λk c hk aa=>(aH c).2 (.inr ⟨k,hk,aa⟩);have iv:Hand w I (fk w T) fr cs arr.toList bG :=
     ⟨by simp [ah],λk x u J hu=>hr k x u J (by simpa using hu),aR,λk t c hk aa aV=>(lU t c aV).2 (ey k c hk aa),λk c hk aa=>bg.bc _ c (c_ c (ey k c hk aa))⟩
    obtain ⟨bW,jE,aw,a2,a3⟩:=Take.node (g1:=ct g p .dead) (Fs:=Fs) (B:=λc=>c=b) (H0:=dj 0) (X:=.obj cs') (v0:=.pointer (some ⟨b,0,none⟩)) iZ iv
     (λc aa=>by
      subst aa;have ed:cr c:=(aH c).2 (.inl rfl);exact ⟨⟨_,c_ c ed⟩,λt aV=>(lU t c aV).2 ed,λk hk ig=>ar k hk ig,bg.bc _ c (c_ c ed)⟩)
     (λc aa=>by
      rcases aa with ⟨t,h⟩ | ⟨k,hk,h⟩
      ·exact .inl ⟨t,(lU t c h).1⟩
      ·exact .inl ⟨_,c_ c (ey k c hk h)⟩)
     hH.tail (R.vD hH) gj fT (λy6 gW ir lO=>by
      refine .obj aW (by rw [t1.length,ah]) jt (λk x u J hu=>gW k x u J (by simpa using hu)) ir (λk hk h=>lO k b hk h rfl) (λc=>Iff.rfl) λk j u hk=>ax k j u (t1.self k j hk))
    exact ⟨bW,jE,aw,a2,λc aa=>lJ.head (a3 c aa)⟩
 | @mp g g1 g' p q xs xs' aq t1 _ gj fT =>
  intro Fs vs dj bg hH;cases vs with
  | nil=>have:=hH.len; simp at this
  | cons v vs =>
   obtain ⟨qU,cr,gJ,hB,c_,kz⟩:=bg.part aq (by simp);have hm:=hH.rel 0 _ v rfl rfl;cases hm with
   | ref _ hm _ =>
   obtain ⟨H2,h1,rfl⟩:=hm;rw [h1] at gJ;cases gJ;obtain ⟨fr,iZ,i',hC⟩:=kz .dead ck (.dead λ_ h=>h) (λ_ h=>h.elim) (λ_ h=>h.elim) (λ_ _ _ h=>h.elim) (λ_ h=>by cases h);have lU:∀ t c,fr t c->Fs t c/\¬ cr c:=by
    intro t c aa;by_cases au:t=p.root
    ·subst au;rcases (i' c).1 aa with h | h
     ·exact h
     ·exact h.elim
    ·rw [hC t au] at aa;exact ⟨aa,λed=>au (bg.ea _ _ _ aa (c_ c ed))⟩
   cases hB with
   | ref J=>simp [ab.isRef] at J
   | @mp _ b es clock _ aW a_ aH =>
    have iv:Hand w I (fk w T) fr [] [] (λ_=>ck) :=
     ⟨rfl,λk x u J=>by simp at J,λ_ _ _ _ _ h=>h.elim,λ_ _ _ _ h=>h.elim,λ_ _ _ h=>h.elim⟩
    obtain ⟨bW,jE,aw,a2,a3⟩:=Take.node (g1:=ct g p .dead) (Fs:=Fs) (B:=λc=>c=b) (H0:=dj 0) (X:=.mp q) (v0:=.map (some b)) iZ iv
     (λc aa=>by
      subst aa;have ed:cr c:=(aH c).2 rfl;exact ⟨⟨_,c_ c ed⟩,λt aV=>(lU t c aV).2 ed,λk hk _=>by simp at hk,bg.bc _ c (c_ c ed)⟩)
     (λc aa=>by
      rcases aa with ⟨t,h⟩ | ⟨k,hk,h⟩
      ·exact .inl ⟨t,(lU t c h).1⟩
      ·exact h.elim)
     hH.tail (R.vD hH) gj fT (λy6 gW ir lO=>by
      refine .mp aW a_ λc=>⟨λh=>h.elim id λ⟨_,hk,_⟩=>by simp at hk,.inl⟩)
    exact ⟨bW,jE,aw,a2,λc aa=>lJ.head (a3 c aa)⟩
 | @agg g g1 g' cs cs' xs xs' t1 _ gj fT =>
  intro Fs vs dj bg hH;cases vs with
  | nil=>have:=hH.len; simp at this
  | cons v vs =>
   have J:=hH.rel 0 _ v rfl rfl;have aK:=R.vD hH;cases J with
   | ref J=>simp [ab.isRef] at J
   | @agg _ us bG _ ah jt hr aR aH =>
    have ey:∀ k c,k<cs.length->bG k c->dj 0 c:=λk c hk aa=>(aH c).2 ⟨k,hk,aa⟩;obtain ⟨bW,jE,aw,a2,a3⟩:=Take.node (g1:=g) (Fs:=Fs) (B:=ck) (H0:=dj 0) (X:=.agg cs') (v0:=.agg us) bg
     (⟨by simp [ah],λk x u J hu=>hr k x u J (by simpa using hu),aR,λk t c hk aa=>(aK c (ey k c hk aa)).1 t,λk c hk aa=>hH.bc 0 c (by simp) (ey k c hk aa)⟩:Hand w I (fk w T) Fs cs us.toList bG)
     (λc aa=>aa.elim)
     (λc aa=>by
      rcases aa with h | ⟨k,hk,h⟩
      ·exact .inl h
      ·exact .inr (ey k c hk h))
     hH.tail aK gj fT (λy6 gW ir lO=>by
      refine .agg (by rw [t1.length,ah]) jt (λk x u J hu=>gW k x u J (by simpa using hu)) ir λc=>⟨λh=>h.elim (λh=>h.elim) id,.inr⟩)
    exact ⟨bW,jE,aw,a2,λc aa=>lJ.head (a3 c aa)⟩
 | @bS g g1 g' cs cs' xs xs' t1 _ gj fT =>
  intro Fs vs dj bg hH;cases vs with
  | nil=>have:=hH.len; simp at this
  | cons v vs =>
   have J:=hH.rel 0 _ v rfl rfl;have aK:=R.vD hH;cases J with
   | ref J=>simp [ab.isRef] at J
   | @bS _ us bG _ ah hr aR aH =>
    have ey:∀ k c,k<cs.length->bG k c->dj 0 c:=λk c hk aa=>(aH c).2 ⟨k,hk,aa⟩;obtain ⟨bW,jE,aw,a2,a3⟩:=Take.node (g1:=g) (Fs:=Fs) (B:=ck) (H0:=dj 0) (X:=.bS cs') (v0:=.tuple us) bg
     (⟨by simp [ah],λk x u J hu=>hr k x u J (by simpa using hu),aR,λk t c hk aa=>(aK c (ey k c hk aa)).1 t,λk c hk aa=>hH.bc 0 c (by simp) (ey k c hk aa)⟩:Hand w I (fk w T) Fs cs us.toList bG)
     (λc aa=>aa.elim)
     (λc aa=>by
      rcases aa with h | ⟨k,hk,h⟩
      ·exact .inl h
      ·exact .inr (ey k c hk h))
     hH.tail aK gj fT (λy6 gW ir lO=>by
      refine .bS (by rw [t1.length,ah]) (λk x u J hu=>gW k x u J (by simpa using hu)) ir λc=>⟨λh=>h.elim (λh=>h.elim) id,.inr⟩)
    exact ⟨bW,jE,aw,a2,λc aa=>lJ.head (a3 c aa)⟩
end
inductive jG (nm:ab->Prop):ab->Prop
 | bq {x:ab}(h:cE x):jG nm x
 | ref {x:ab}(J:x.isRef=true) (h:nm x):jG nm x
 | own {z n:Nat}{cs:List ab}(h:∀ x∈cs,jG nm x):jG nm (.own z n cs)
 | obj {cs:List ab}(h:∀ x∈cs,jG nm x):jG nm (.obj cs)
 | agg {cs:List ab}(h:∀ x∈cs,jG nm x):jG nm (.agg cs)
 | bS {cs:List ab}(h:∀ x∈cs,jG nm x):jG nm (.bS cs)
 | cF {fn:Fn}{a b:List ab}(h1:∀ x∈a,jG nm x) (af:∀ x∈b,jG nm x):jG nm (.cF fn a b)
def A3:ab->Option Place
 | .ptr p _=>some p
 | .a7 _ p _=>some p
 | .sub _ p _ _=>some p
 | .bM _ p _ _ _=>some p
 | .gl p=>some p
 | _=>none
def Clear (p:Place) (k m:Nat) (r:ab):Prop:=∀ q,A3 r=some q->q.root=p.root->∀ j c',q.path=p.path++j::c'->j<k\/k+m<=j
def e0 {α:Type}(l:List α) (k:Nat) (c:List α):List α:=l.take k++c++l.drop (k+c.length)
theorem rZ {α:Type}{l:List α}{k:Nat}{c:List α}(h:k+c.length<=l.length):(e0 l k c).length=l.length:=by
 simp [e0]; omega
theorem rY {α:Type}{l:List α}{k:Nat}{c:List α}(h:k+c.length<=l.length) (j:Nat):(e0 l k c)[j]?=if k<=j/\j<k+c.length then c[j - k]? else l[j]?:=by
 unfold e0;rw [List.append_assoc];by_cases h1:j<k
 ·rw [List.getElem?_append_left (by simp; omega),List.getElem?_take,if_pos h1,if_neg (by omega)]
 ·rw [List.getElem?_append_right (by simp; omega)];have:(l.take k).length=k:=by simp; omega
  rw [this];by_cases af:j<k+c.length
  ·rw [List.getElem?_append_left (by omega),if_pos ⟨by omega,af⟩]
  ·rw [List.getElem?_append_right (by omega),List.getElem?_drop,if_neg (by omega)];congr 1; omega
theorem aa1 {α:Type}{l:List α}{k:Nat}{c:List α}{m:Nat}(h:k+c.length<=m) (hm:m<=l.length):(e0 l k c).take m=e0 (l.take m) k c:=by
 have h1:k+c.length<=(l.take m).length:=by rw [List.length_take]; omega
 apply List.ext_getElem?;intro j;rw [List.getElem?_take,rY h1,rY (l:=l) (by omega),List.getElem?_take];by_cases ag:j<m
 ·rw [if_pos ag,if_pos ag]
 ·rw [if_neg ag,if_neg ag,if_neg (by omega)]
def ab.e0 (x:ab) (k:Nat) (c:List ab):ab :=
 match x with
 | .own z n cs=>.own z n (Own.e0 cs k c)
 | .obj cs=>.obj (Own.e0 cs k c)
 | x=>x
section
variable {w:World}{I:a'}{T:Array Value}{g:aL}{Fs:Nat->a'}
theorem R.wv {ρ:ab->Value->Prop}{nm:ab->Prop}{x:ab}{v:Value}{F:a'}(h:R w I ρ x v F):jG nm x->R w I (λr u=>ρ r u/\nm r) x v F:=by
 induction h with
 | lit h aH=>exact λ_=>.lit h aH
 | aP aH=>exact λ_=>.aP aH
 | dead aH=>exact λ_=>.dead aH
 | mx aH=>exact λ_=>.mx aH
 | @ref x _ _ J h aH =>
  intro hk;refine .ref J ⟨h,?_⟩ aH;cases hk with
  | ref _ h=>exact h
  | bq h=>cases h <;> simp [ab.isRef] at J
  | _=>simp [ab.isRef] at J
 | gM aH=>exact λ_=>.gM aH
 | mp aW aq aH=>exact λ_=>.mp aW aq aH
 | hV aW h1 aH=>exact λ_=>.hV aW h1 aH
 | imp aH bf aW aq=>exact λ_=>.imp aH bf aW aq
 | bc aH lY bf ax ah h1 aa hr aM =>
  intro hk;cases hk with
  | ref J=>simp [ab.isRef] at J
  | bq h=>cases h with | bc h=>exact .bc aH lY bf ax ah h1 aa λk x J=>aM k x J (.bq (h x (List.mem_of_getElem? J)))
 | cx aH bf ax h1 aa hr aM =>
  intro hk;cases hk with
  | ref J=>simp [ab.isRef] at J
  | bq h=>cases h with | cx h=>exact .cx aH bf ax h1 aa λk x J=>aM k x J (.bq (h x (List.mem_of_getElem? J)))
 | own aW ah h1 hr aR ar aH aM =>
  intro hk;refine .own aW ah h1 (λk x u J hu=>aM k x u J hu ?_) aR ar aH;cases hk with
  | ref J=>simp [ab.isRef] at J
  | bq h=>cases h with | own h=>exact .bq (h x (List.mem_of_getElem? J))
  | own h=>exact h x (List.mem_of_getElem? J)
 | obj aW ah h1 hr aR ar aH ax aM =>
  intro hk;refine .obj aW ah h1 (λk x u J hu=>aM k x u J hu ?_) aR ar aH ax;cases hk with
  | ref J=>simp [ab.isRef] at J
  | bq h=>cases h with | obj h=>exact .bq (h x (List.mem_of_getElem? J))
  | obj h=>exact h x (List.mem_of_getElem? J)
 | agg ah h1 hr aR aH aM =>
  intro hk;refine .agg ah h1 (λk x u J hu=>aM k x u J hu ?_) aR aH;cases hk with
  | ref J=>simp [ab.isRef] at J
  | bq h=>cases h with | agg h=>exact .bq (h x (List.mem_of_getElem? J))
  | agg h=>exact h x (List.mem_of_getElem? J)
 | bS ah hr aR aH aM =>
  intro hk;refine .bS ah (λk x u J hu=>aM k x u J hu ?_) aR aH;cases hk with
  | ref J=>simp [ab.isRef] at J
  | bq h=>cases h with | bS h=>exact .bq (h x (List.mem_of_getElem? J))
  | bS h=>exact h x (List.mem_of_getElem? J)
 | @cF fn first caps v1 v2 F aH h1 af i' hC gj fT =>
  intro hk;have:(∀ x∈first,jG nm x)/\∀ x∈caps,jG nm x:=by
   cases hk with
   | ref J=>simp [ab.isRef] at J
   | bq h=>cases h with | cF h1 af=>exact ⟨λx J=>.bq (h1 x J),λx J=>.bq (af x J)⟩
   | cF h1 af=>exact ⟨h1,af⟩
  exact .cF aH h1 af (λk x u J hu=>gj k x u J hu (this.1 x (List.mem_of_getElem? J))) (λk x u J hu=>fT k x u J hu (this.2 x (List.mem_of_getElem? J)))
theorem jI.store (bg:jI w I T g Fs) {p:Place}{nd:ab}{z n:Nat}{cs:List ab}(aq:bH g p=some nd) (eA:nd=.own z n cs\/nd=.obj cs) {k:Nat}{cs':List ab}(hk:k+cs'.length<=cs.length)
  {iR:List Value}{dj:Nat->a'}(hH:Hand w I (fk w T) Fs cs' iR dj) (oF:∀ x∈cs',cE x) (lB:nd=.obj cs->tP cs') (ho:∀ (j:Nat) (u:Value),iR[j]?=some u->u.oneCell'=true)
  {g2:aL}(zN:∀ t x,g2 t=some x->ct g p (nd.e0 k cs') t=some x)
  (ss:∀ t x,g2 t=some x->∀ y,g t=some y->jG (λr=>gE g r/\Clear p k cs'.length r/\gE g2 r) y) (lA:∀ t z q n m new,g2 t≠some (.bM z q n m new)) (j':g2 p.root≠none) {b:Nat}{v:Value}
  (hv:dx w T p=some v) (ar:addrOf v=some ⟨b,0,none⟩) {e:TypeId}{arr:Array Value}(la:w.heap[b]?=some (.cells arr e (0,0))) :
  ∃ bW,cB (w.setRow b (e0 arr.toList k iR).toArray) I T g2 bW/\∀ t c,bW t c->Fs t c\/∃ j,j<cs'.length/\dj j c:=by
 have lG:∀ z q n m new,nd≠.bM z q n m new:=by rcases eA with rfl | rfl <;> simp
 have hlen:=hH.len;have px:∀ c,c≠b->(w.setRow b (e0 arr.toList k iR).toArray).heap[c]?=w.heap[c]?:=λc aa=>setRow_other w b c _ aa;have Et:(w.setRow b (e0 arr.toList k iR).toArray).heap[b]?=some (.cells (e0 arr.toList k iR).toArray e (0,0)):=setRow_heap w b arr _ e (0,0) la;have RI:(w.setRow b (e0 arr.toList k iR).toArray).heap.size=w.heap.size:=by simp
 generalize vR:w.setRow b (e0 arr.toList k iR).toArray=w' at *
 -- the slot of the node
 obtain ⟨dW,ix⟩:∃ dW,g p.root=some dW:=by
  unfold bH at aq;cases J:g p.root with
  | none=>rw [J] at aq; cases aq
  | some x=>exact ⟨x,rfl⟩
 have pN:dW.at p.path=some nd:=by simpa [bH,ix] using aq
 obtain ⟨v0,kx,gr⟩:=bg.rel _ _ ix;have B':=gr.gu (by rintro z q n m new rfl; exact lG _ _ _ _ _ (ab.s8 pN).2);have nB:jG (λr=>gE g r/\Clear p k cs'.length r/\gE g2 r) dW:=by
  cases af:g2 p.root with
  | none=>exact absurd af j'
  | some y=>exact ss _ _ af _ ix
 let Me:ab->Value->Prop:=λr u=>fk w T r u/\gE g r/\Clear p k cs'.length r/\gE g2 r;have qt:R w I Me dW v0 (Fs p.root):=B'.wv nB;obtain ⟨h0,cr,hw,ds,c_,e7,kz⟩:=R.focus p.path qt pN;have Ki:h0=v:=by simp only [dx,kx,hw,Option.some.injEq] at hv; exact hv
 subst Ki;have n1:cr b:=ds.Gm (z:=z) (n:=n) eA ar;have same:∀ t c,Fs t c->c≠b->w'.heap[c]?=w.heap[c]?:=λ_ c _ aa=>px c aa;have td:∀ c,I c->w'.heap[c]?=w.heap[c]?:=λc aa=>px c λe=>bg.bc _ b (c_ b n1) (e ▸ aa);have FJ:∀ t,t≠p.root->¬ Fs t b:=λt au h=>au (bg.ea _ _ _ h (c_ b n1))
 -- ways that are clear of the cells
 obtain ⟨abL,abM⟩:=e7 w' λc aa aB=>px c λe=>aB (e ▸ n1);have PG:∀ (ρ':ab->Value->Prop),(∀ x v,Me x v->ρ' x v)->(∃ cS,R w' I ρ' (nd.e0 k cs') h0 cS/\∀ c,cS c->cr c\/∃ j,j<cs'.length/\dj j c)/\∀ j c' y,(j<k\/k+cs'.length<=j)->nd.at (j::c')=some y->walk w' h0 (j::c')=walk w h0 (j::c'):=by
  intro ρ' l3;have new:∀ (j:Nat) (x:ab) (u:Value),cs'[j]?=some x->iR[j]?=some u->R w' I ρ' x u (dj j):=by
   intro j x u J hu;have ag:j<cs'.length:=(List.getElem?_eq_some_iff.1 J).1;have:=(hH.rel j x u J hu).bq (ρ':=ρ') (oF x (List.mem_of_getElem? J));exact this.frame td (λ_ h=>h) (λ_ _ h=>h) λc aa=>px c λe=>hH.off j p.root b ag (e ▸ aa) (c_ b n1)
  rcases eA with rfl | rfl
  ·cases ds with
   | ref J=>simp [ab.isRef] at J
   | @own _ _ _ _ b4 us bG _ aW ah h1 hr aR i_ aH =>
    obtain ⟨nC,bQ⟩:=aW;rcases bQ with ⟨rfl,_⟩ | ⟨dU,cap,cur,rfl,uV,iQ,wq,uW,GH,D7⟩
    ·simp [addrOf] at ar
    ·simp only [addrOf,Option.some.injEq,Addr.mk.injEq,and_true] at ar;subst ar;rw [la] at iQ;cases iQ;have Xe:n * z<=arr.toList.length:=by
      rw [<- nC,<- D7,List.length_take] ; simp; omega
     have afm:us.length=cs.length:=ah.symm;have mn:w'.ownsRow 0 e z (.slice (some ⟨dU,0,none⟩) n cap) n (e0 us k iR):=by
      refine ⟨by rw [rZ (by omega),nC],.inr ⟨dU,cap,_,rfl,uV,Et,wq,uW,?_,?_⟩⟩
      ·rw [List.size_toArray,rZ (by omega),Array.length_toList,GH]
      ·show (e0 arr.toList k iR).take (n * z)=_;rw [aa1 (by omega) Xe,D7]
     have N8:∀ j,j<cs.length->¬ bG j dU:=λj ag h=>i_ j dU ag h rfl;have ey:∀ j c,j<cs.length->bG j c->Fs p.root c:=λj c ag aa=>c_ c ((aH c).2 (.inr ⟨j,ag,aa⟩));refine ⟨⟨_,.own (Fs:=λj=>if k<=j/\j<k+cs'.length then dj (j - k) else bG j) mn (by rw [rZ hk,rZ (by omega),ah]) (λj u hu=>?_) (λj x u J hu=>?_) (λi j c hi ag aa dQ=>?_) (λj c ag aa vP=>?_) (λc=>Iff.rfl),λc aa=>?_⟩,λj c' y ag ao=>?_⟩
     ·rw [rY (by omega)] at hu
      split at hu
      ·exact ho _ u hu
      ·exact h1 j u hu
     ·rw [rY hk] at J;rw [rY (by omega),<- hlen] at hu;by_cases gI:k<=j/\j<k+cs'.length
      ·rw [if_pos gI] at J hu;simpa [gI] using new (j - k) x u J hu
      ·rw [if_neg gI] at J hu;have ez:j<cs.length:=(List.getElem?_eq_some_iff.1 J).1;rw [if_neg gI];exact (hr j x u J hu).frame td (λ_ h=>h) l3 λc aa=>px c λe=>N8 j ez (e ▸ aa)
     ·rw [rZ hk] at hi ag;by_cases h1:k<=i/\i<k+cs'.length <;> by_cases af:k<=j/\j<k+cs'.length <;> simp only [h1,af,if_false] at aa dQ
      ·have:=hH.ea (i - k) (j - k) c (by omega) (by omega) (by simpa using aa) (by simpa using dQ);omega
      ·exact absurd (ey j c ag dQ) (hH.off (i - k) _ c (by omega) (by simpa using aa))
      ·exact absurd (ey i c hi aa) (hH.off (j - k) _ c (by omega) (by simpa using dQ))
      ·exact aR i j c hi ag aa dQ
     ·rw [rZ hk] at ag;by_cases h1:k<=j/\j<k+cs'.length
      ·rw [if_pos h1] at aa;simp only [Value.ownBlock,Option.some.injEq] at vP;subst vP;exact hH.off (j - k) p.root dU (by omega) aa (c_ dU n1)
      ·rw [if_neg h1] at aa; exact i_ j c ag aa vP
     ·rcases aa with aa | ⟨j,ag,aa⟩
      ·exact .inl ((aH c).2 (.inl aa))
      ·rw [rZ hk] at ag;by_cases h1:k<=j/\j<k+cs'.length
       ·rw [if_pos h1] at aa; exact .inr ⟨j - k,by omega,aa⟩
       ·rw [if_neg h1] at aa; exact .inl ((aH c).2 (.inr ⟨j,ag,aa⟩))
     ·obtain ⟨c,o9,aa⟩:=ab.vi ao;simp only [ab.kids] at o9;have ez:j<cs.length:=(List.getElem?_eq_some_iff.1 o9).1;have hu:us[j]?=some us[j]:=List.getElem?_eq_getElem (by omega);have n2:child w (.slice (some ⟨dU,0,none⟩) n cap) j=some us[j]:=by
       refine ph (e:=e) (z:=z) (n:=n) (us:=us) ⟨nC,.inr ⟨dU,cap,arr,rfl,uV,la,wq,uW,GH,D7⟩⟩ hu
      have Cp:child w' (.slice (some ⟨dU,0,none⟩) n cap) j=some us[j]:=by
       refine ph mn ?_;rw [rY (by omega),if_neg (by omega)]; exact hu
      have:=R.p9 (w':=w') c' (hr j c _ o9 hu) aa λc aa=>px c λe=>N8 j ez (e ▸ aa);simp [walk,n2,Cp,this]
  ·cases ds with
   | ref J=>simp [ab.isRef] at J
   | @obj _ dU b4 jn bG _ aW ah h1 hr aR i_ aH ax =>
    simp only [addrOf,Option.some.injEq,Addr.mk.injEq,and_true] at ar;subst ar;rw [la] at aW;cases aW;have vz:cs.length=arr.toList.length:=by simp [ah]
    have ey:∀ j c,j<cs.length->bG j c->Fs p.root c:=λj c ag aa=>c_ c ((aH c).2 (.inr ⟨j,ag,aa⟩));refine ⟨⟨_,.obj (Fs:=λj=>if k<=j/\j<k+cs'.length then dj (j - k) else bG j) Et (by rw [rZ hk,List.size_toArray,rZ (by omega),vz]) (λj u hu=>?_) (λj x u J hu=>?_) (λi j c hi ag aa dQ=>?_) (λj ag aa=>?_) (λc=>Iff.rfl) (λi j u hi hu=>?_),λc aa=>?_⟩,λj c' y ag ao=>?_⟩
    ·rw [List.getElem?_toArray,rY (by omega)] at hu
     split at hu
     ·exact ho _ u hu
     ·exact h1 j u (by simpa using hu)
    ·rw [rY hk] at J;rw [List.getElem?_toArray,rY (by omega),<- hlen] at hu;by_cases gI:k<=j/\j<k+cs'.length
     ·rw [if_pos gI] at J hu;simpa [gI] using new (j - k) x u J hu
     ·rw [if_neg gI] at J hu;have ez:j<cs.length:=(List.getElem?_eq_some_iff.1 J).1;rw [if_neg gI];exact (hr j x u J (by simpa using hu)).frame td (λ_ h=>h) l3 λc aa=>px c λe=>i_ j ez (e ▸ aa)
    ·rw [rZ hk] at hi ag;by_cases h1:k<=i/\i<k+cs'.length <;> by_cases af:k<=j/\j<k+cs'.length <;> simp only [h1,af,if_false] at aa dQ
     ·have:=hH.ea (i - k) (j - k) c (by omega) (by omega) (by simpa using aa) (by simpa using dQ);omega
     ·exact absurd (ey j c ag dQ) (hH.off (i - k) _ c (by omega) (by simpa using aa))
     ·exact absurd (ey i c hi aa) (hH.off (j - k) _ c (by omega) (by simpa using dQ))
     ·exact aR i j c hi ag aa dQ
    ·rw [rZ hk] at ag;by_cases h1:k<=j/\j<k+cs'.length
     ·rw [if_pos h1] at aa;exact hH.off (j - k) p.root dU (by omega) aa (c_ dU n1)
     ·rw [if_neg h1] at aa; exact i_ j ag aa
    ·rw [rY hk] at hi;rw [List.getElem?_toArray,rY (by omega),<- hlen] at hu;by_cases vG:k<=i/\i<k+cs'.length
     ·rw [if_pos vG] at hi; exact absurd hi (lB rfl _ _)
     ·rw [if_neg vG] at hi hu; exact ax i j u hi (by simpa using hu)
    ·rcases aa with aa | ⟨j,ag,aa⟩
     ·exact .inl ((aH c).2 (.inl aa))
     ·rw [rZ hk] at ag;by_cases h1:k<=j/\j<k+cs'.length
      ·rw [if_pos h1] at aa; exact .inr ⟨j - k,by omega,aa⟩
      ·rw [if_neg h1] at aa; exact .inl ((aH c).2 (.inr ⟨j,ag,aa⟩))
    ·obtain ⟨c,o9,aa⟩:=ab.vi ao;simp only [ab.kids] at o9;have ez:j<cs.length:=(List.getElem?_eq_some_iff.1 o9).1;have hu:arr[j]?=some arr[j]:=Array.getElem?_eq_getElem (by omega);have n2:child w (.pointer (some ⟨dU,0,none⟩)) j=some arr[j]:=by simp [child,World.cell?,la,hu]
     have Cp:child w' (.pointer (some ⟨dU,0,none⟩)) j=some arr[j]:=by
      have aF:(e0 arr.toList k iR)[j]?=some arr[j]:=by
       rw [rY (by omega),if_neg (by omega)]; simp
      simp [child,World.cell?,Et,aF]
     have:=R.p9 (w':=w') c' (hr j c _ o9 hu) aa λc aa=>px c λe=>i_ j ez (e ▸ aa);simp [walk,n2,Cp,this]
 have val:∀ q y,bH g q=some y->(q.root=p.root->∀ j c',q.path=p.path++j::c'->j<k\/k+cs'.length<=j)->dx w' T q=dx w T q:=by
  intro q y a_ hN;by_cases hr:q.root=p.root
  ·have fD:dW.at q.path=some y:=by simpa [bH,hr,ix] using a_
   rcases abM q.path y fD with ⟨c',dI⟩ | h
   ·have vR:walk w' v0 q.path=walk w v0 q.path:=by
     rw [dI,Eu,Eu,abL,hw];simp only [Option.bind_some];cases c' with
     | nil=>rfl
     | cons j c' =>
      rw [dI,ab.HZ,pN] at fD;exact (PG (λ_ _=>True) (λ_ _ _=>trivial)).2 j c' y (hN hr j c' dI) fD
    simp [dx,hr,kx,vR]
   ·simp [dx,hr,kx,h]
  ·unfold bH at a_;cases J:g q.root with
   | none=>rw [J] at a_; cases a_
   | some x =>
    rw [J] at a_;obtain ⟨u,hu,a1⟩:=bg.rel _ _ J;cases a1 with
    | tree a1 =>
     have:=R.p9 (w':=w') q.path a1 a_ λc aa=>px c λe=>FJ _ hr (e ▸ aa);simp [dx,hu,this]
    | bM a1=>simp [dx,hu,(ab.s8 a_).1,walk]
 have slot:∀ {q:Place}{x:ab},q.path=[]->g q.root=some x->dx w' T q=dx w T q:=by
  intro q x a_ J;obtain ⟨u,hu,_⟩:=bg.rel _ _ J;simp [dx,a_,walk]
 have refs:∀ r u,Me r u->dy w' T g2 r u:=by
  rintro r u ⟨h1,af,aF,bh⟩;refine ⟨?_,bh⟩;cases r <;> simp only [fk,gE] at h1 af ⊢
  case ptr q j=>obtain ⟨y,ao,_⟩:=af; rw [val q y ao (aF q rfl)]; exact h1
  case a7 bR q cq =>
   rcases af with ⟨_,_,af,_⟩ | ⟨aK,_,_,_,_,af,_⟩
   ·rw [val q _ af (aF q rfl)]; exact h1
   ·rw [slot aK af]; exact h1
  case sub bR q lo cq=>obtain ⟨_,_,af,_⟩:=af; rw [val q _ af (aF q rfl)]; exact h1
  case gl q=>obtain ⟨_,af⟩:=af; rw [val q _ af (aF q rfl)]; exact h1
  case bM bR q cq m' cN =>
   rcases af with ⟨_,af⟩ | ⟨aK,_,_,_,_,_,af,_⟩
   ·rw [val q _ af (aF q rfl)]; exact h1
   ·rw [slot aK af]; exact h1
 obtain ⟨⟨Fn,Wt,N9⟩,_⟩:=PG (dy w' T g2) refs;obtain ⟨cS,Ca,oC⟩:=kz w' I (dy w' T g2) _ Fn ⟨td,λc aa aB=>px c λe=>aB (e ▸ n1),λ_ h=>h,refs⟩ Wt (λc aa dQ=>by
  rcases N9 c aa with h | ⟨j,ag,h⟩
  ·exact h
  ·exact absurd dQ (hH.off j _ c ag h)) (λj h=>by rcases eA with rfl | rfl <;> simp [ab.e0] at h)
 have B4:∀ c,cS c->Fs p.root c\/∃ j,j<cs'.length/\dj j c:=by
  intro c aa;rcases (oC c).1 aa with h | h
  ·exact .inl h.1
  ·rcases N9 c h with h | h
   ·exact .inl (c_ c h)
   ·exact .inr h
 let bW:Nat->a':=λt c=>if t=p.root then cS c else g2 t≠none/\Fs t c
 have pM:∀ t c,bW t c->Fs t c\/∃ j,j<cs'.length/\dj j c:=by
  intro t c aa;by_cases au:t=p.root
  ·simp only [bW,if_pos au] at aa; rw [au]; exact B4 c aa
  ·simp only [bW,if_neg au] at aa; exact .inl aa.2
 refine ⟨bW,⟨λt x J=>?_,λt au c aa=>?_,λt t' c aa dQ=>?_,λt c aa hi=>?_,λc aa=>by have:=bg.lt c aa; omega,λt t' z q n m new bR cq m' cN h1=>absurd h1 (lA _ _ _ _ _ _),cG.keep bg.hR td λ_ h=>h⟩,pM⟩
 ·have e':=zN t x J;by_cases au:t=p.root
  ·subst au;have C1:dW.setAt p.path (nd.e0 k cs')=x:=by simpa [ct,ix] using e'
   refine ⟨v0,kx,.tree ?_⟩;have xf:bW p.root=cS:=by funext c; simp [bW]
   rw [<- C1,xf]; exact Ca
  ·rw [wz au] at e';obtain ⟨u,hu,a1⟩:=bg.rel t x e';replace a1:=a1.gu (by rintro z q n m new rfl; exact lA _ _ _ _ _ _ J);have xf:bW t=Fs t:=by
    funext c;exact propext ⟨λh=>by simp only [bW,if_neg au] at h; exact h.2,λh=>by simp only [bW,if_neg au]; exact ⟨by rw [J]; simp,h⟩⟩
   refine ⟨u,hu,.tree ?_⟩;rw [xf];exact (a1.wv (ss t x J x e')).frame td (λ_ h=>h) refs λc aa=>px c λe=>FJ t au (e ▸ aa)
 ·by_cases hQ:t=p.root
  ·exact j' (hQ ▸ au)
  ·simp only [bW,if_neg hQ] at aa; exact aa.1 au
 ·by_cases h1:t=p.root <;> by_cases af:t'=p.root
  ·rw [h1,af]
  ·simp only [bW,if_pos h1] at aa; simp only [bW,if_neg af] at dQ;rcases B4 c aa with h | ⟨j,ag,h⟩
   ·exact absurd (bg.ea _ _ _ h dQ.2) (Ne.symm af)
   ·exact absurd dQ.2 (hH.off j _ c ag h)
  ·simp only [bW,if_neg h1] at aa; simp only [bW,if_pos af] at dQ;rcases B4 c dQ with h | ⟨j,ag,h⟩
   ·exact absurd (bg.ea _ _ _ aa.2 h) h1
   ·exact absurd aa.2 (hH.off j _ c ag h)
  ·simp only [bW,if_neg h1] at aa; simp only [bW,if_neg af] at dQ;exact bg.ea _ _ _ aa.2 dQ.2
 ·rcases pM t c aa with h | ⟨j,ag,h⟩
  ·exact bg.bc _ c h hi
  ·exact hH.bc j c ag h hi
end
section
variable {P:Program}{w:World}{I:a'}{T:Array Value}{g:aL}{Fs:Nat->a'}
theorem View.Rl (h:jI w I T g Fs) {x x':ab}(hv:View g x x'):∀ {v:Value}{F:a'},R w I (fk w T) x v F->(∀ c,F c->∃ t,Fs t c)->∀ ρ',R w (λc=>I c\/∃ t,Fs t c) ρ' x' v ck:=by
 induction hv with
 | qK =>
  intro v F a1 aH ρ';have:=a1.rD;subst this;exact .gM λ_ h=>h
 | mp =>
  intro v F a1 aH ρ';cases a1 with
  | ref J=>simp [ab.isRef] at J
  | mp aW aq ar=>exact .imp (λ_ h=>h) (.inr (aH _ ((ar _).2 rfl))) aW aq
 | gl aq =>
  intro v F a1 aH ρ';cases a1 with
  | ref _ hr _ =>
   obtain ⟨b,ar,rfl⟩:=hr;obtain ⟨dK,cr,ih,ds,c_,_⟩:=h.part aq (by simp);rw [ar] at ih;cases ih;cases ds with
   | ref J=>simp [ab.isRef] at J
   | mp aW aq ar=>exact .imp (λ_ h=>h) (.inr ⟨_,c_ _ ((ar _).2 rfl)⟩) aW aq
 | self aB h1 af aF bh b7 =>
  intro v F a1 aH ρ';refine ((a1.bq aB).n' λc aa=>.inl aa).empty ?_;cases a1 with
  | mp=>exact absurd rfl (b7.1 _)
  | hV=>exact absurd rfl (b7.2 _ _)
  | lit _ aH | aP aH | dead aH | mx aH | ref _ _ aH | gM aH | bc aH | cx aH | cF aH | imp aH=>exact aH
  | own=>exact absurd rfl (h1 _ _ _)
  | obj=>exact absurd rfl (af _)
  | agg=>exact absurd rfl (aF _)
  | bS=>exact absurd rfl (bh _)
 | @agg cs cs' ah _ aM =>
  intro v F a1 aH ρ';cases a1 with
  | ref J=>simp [ab.isRef] at J
  | @agg _ vs bG _ hP h1 hr aR mh =>
   refine .agg (Fs:=λ_=>ck) (by rw [ah,hP]) h1 (λk y u ao hu=>?_) (λ_ _ _ _ _ h=>h.elim) (λc=>⟨λh=>h.elim,λ⟨_,_,h⟩=>h⟩);have hk:k<cs.length:=by rw [<- ah]; exact (List.getElem?_eq_some_iff.1 ao).1
   have J:=List.getElem?_eq_getElem hk;exact aM k _ y J ao (hr k _ u J hu) (λc aa=>aH c ((mh c).2 ⟨k,hk,aa⟩)) ρ'
 | @cF fn cs cs' ah _ aM =>
  intro v F a1 aH ρ';cases a1 with
  | ref J=>simp [ab.isRef] at J
  | @cF _ _ _ v1 v2 _ mN h1 af i' hC =>
   refine .cF (λ_ h=>h) h1 (by rw [ah,af]) (λk x u J=>by simp at J) (λk y u ao hu=>?_);have hk:k<cs.length:=by rw [<- ah]; exact (List.getElem?_eq_some_iff.1 ao).1
   have J:=List.getElem?_eq_getElem hk;exact aM k _ y J ao (hC k _ u J hu) (λc aa=>aa.elim) ρ'
 | @own z n cs cs' ah _ aM =>
  intro v F a1 aH ρ';obtain ⟨a,cap,us,bG,rfl,aB,hlen,aJ,aa⟩:=a1.Ar;cases a with
  | none =>
   have eV:cs=[]:=by
    cases cs with
    | nil=>rfl
    | cons c cs=>obtain ⟨b,ar,_⟩:=aa 0 c rfl; cases ar
   subst eV;have lZ:cs'=[]:=List.eq_nil_of_length_eq_zero (by simpa using ah);subst lZ;have mm:n=0:=by
    cases a1 with
    | ref J=>simp [ab.isRef] at J
    | own aW =>
     obtain ⟨_,bQ⟩:=aW;rcases bQ with ⟨bQ,aK⟩ | ⟨b,c2,cur,bQ,_⟩
     ·exact aK
     ·cases bQ
   subst mm;exact .gM λ_ h=>h
  | some ad =>
   obtain ⟨b,rfl,sh⟩:=aJ ad rfl;refine .bc (us:=us) (λ_ h=>h) aB (.inr (aH b sh)) rfl (by rw [ah,hlen]) (λk y ao=>?_) (λk y ao=>?_) λk y ao=>?_
   all_goals
    have hk:k<cs.length:=by rw [<- ah]; exact (List.getElem?_eq_some_iff.1 ao).1
    have J:=List.getElem?_eq_getElem hk;obtain ⟨dU,j_,h1,af,aF,bh⟩:=aa k _ J;cases j_
   ·exact af
   ·simpa using h1
   ·exact aM k _ y J ao aF (λc aa=>aH c (bh c aa)) ρ'
 | @obj cs cs' ah _ aM =>
  intro v F a1 aH ρ';cases a1 with
  | ref J=>simp [ab.isRef] at J
  | @obj _ b e arr bG _ aW hP h1 hr aR ar mh =>
   refine .cx (us:=λk=>arr.getD k undef) (λ_ h=>h) (.inr (aH b ((mh b).2 (.inl rfl)))) rfl (λk y ao=>?_) (λk y ao=>?_) λk y ao=>?_
   all_goals
    have hk:k<cs.length:=by rw [<- ah]; exact (List.getElem?_eq_some_iff.1 ao).1
    have J:=List.getElem?_eq_getElem hk;have hu:arr[k]?=some arr[k]:=Array.getElem?_eq_getElem (hP ▸ hk)
   ·simpa [hu] using h1 k _ hu
   ·simp [World.cell?,aW,hu]
   ·simpa [hu] using aM k _ y J ao (hr k _ _ J hu) (λc aa=>aH c ((mh c).2 (.inr ⟨k,hk,aa⟩))) ρ'
 | @a7 z n N p cs cs' aq aB ah _ aM =>
  intro v F a1 aH ρ';obtain ⟨a,kE,cap,h1,rfl,aF⟩:=a1.n4;obtain ⟨qU,q4,gJ,hB,mO,_⟩:=h.part aq (by simp);rw [h1] at gJ;cases gJ;obtain ⟨a2,sc,us,bG,h9,lY,hlen,aJ,aa⟩:=hB.Ar;cases h9;have hle:n * z<=N * z:=Nat.mul_le_mul_right _ aB;have cell:∀ k,k<cs'.length->∃ x b,(cs.take (n * z))[k]?=some x/\a=some ⟨b,0,none⟩/\w.cell? ⟨b,k,none⟩=some (us k)/\(us k).oneCell'=true/\R w I (fk w T) x (us k) (bG k)/\∀ c,bG k c->q4 c:=by
   intro k hk;rw [ah,List.length_take] at hk;have J:cs[k]?=some cs[k]:=List.getElem?_eq_getElem (by omega);obtain ⟨b,r⟩:=aa k _ J;exact ⟨_,b,by rw [List.getElem?_take,if_pos (by omega)]; exact J,r⟩
  cases a with
  | none =>
   have lZ:cs'=[]:=by
    cases cs' with
    | nil=>rfl
    | cons c l=>obtain ⟨_,b,_,ar,_⟩:=cell 0 (by simp); cases ar
   subst lZ;obtain ⟨_,_,h9,_,_,_,su⟩:=hB.oc;cases h9;have mm:n=0:=by
    rcases Nat.eq_zero_or_pos n with aK | aK
    ·exact aK
    ·have:=su (by omega); simp at this
   subst mm;exact .gM λ_ h=>h
  | some ad =>
   obtain ⟨b,rfl,sh⟩:=aJ ad rfl;refine .bc (us:=us) (λ_ h=>h) (by omega) (.inr ⟨_,mO b sh⟩) rfl (by rw [ah,List.length_take,hlen]; omega) (λk y ao=>?_) (λk y ao=>?_) λk y ao=>?_
   all_goals
    obtain ⟨x,dU,J,j_,bh,b7,dp,kJ⟩:=cell k (List.getElem?_eq_some_iff.1 ao).1;cases j_
   ·exact b7
   ·simpa using bh
   ·exact aM k x y J ao dp (λc aa=>⟨_,mO c (kJ c aa)⟩) ρ'
 | @sub z lo n N p cs cs' aq aB ah _ aM =>
  intro v F a1 aH ρ';obtain ⟨a,kE,cap,cd,nv,h1,rfl,J3,aF,b7⟩:=a1.z';obtain ⟨qU,q4,gJ,hB,mO,_⟩:=h.part aq (by simp);rw [h1] at gJ;cases gJ;obtain ⟨a2,sc,us,bG,h9,lY,hlen,aJ,aa⟩:=hB.Ar;cases h9;have hle:lo * z+n * z<=N * z:=by rw [<- Nat.add_mul]; exact Nat.mul_le_mul_right _ aB
  have hP:cs'.length=n * z:=by rw [ah,List.length_take,List.length_drop,hlen]; omega
  have cell:∀ k,k<cs'.length->∃ x b,((cs.drop (lo * z)).take (n * z))[k]?=some x/\a=some ⟨b,0,none⟩/\w.cell? ⟨b,lo * z+k,none⟩=some (us (lo * z+k))/\(us (lo * z+k)).oneCell'=true/\R w I (fk w T) x (us (lo * z+k)) (bG (lo * z+k))/\∀ c,bG (lo * z+k) c->q4 c:=by
   intro k hk;have J:cs[lo * z+k]?=some cs[lo * z+k]:=List.getElem?_eq_getElem (by omega);obtain ⟨b,r⟩:=aa _ _ J;exact ⟨_,b,by rw [List.getElem?_take,if_pos (by omega),List.getElem?_drop]; exact J,r⟩
  by_cases mm:n=0
  ·subst mm;have lZ:cs'=[]:=List.eq_nil_of_length_eq_zero (by simpa using hP);subst lZ;exact .gM λ_ h=>h
  ·obtain ⟨ad,rfl,rfl⟩:=b7 (by omega);obtain ⟨b,rfl,sh⟩:=aJ ad rfl;refine .bc (us:=λk=>us (lo * z+k)) (λ_ h=>h) J3 (.inr ⟨_,mO b sh⟩) rfl hP (λk y ao=>?_) (λk y ao=>?_) λk y ao=>?_
   all_goals
    obtain ⟨x,dU,J,j_,bh,I5,dp,kJ⟩:=cell k (List.getElem?_eq_some_iff.1 ao).1;cases j_
   ·exact I5
   ·simpa using bh
   ·exact aM k x y J ao dp (λc aa=>⟨_,mO c (kJ c aa)⟩) ρ'
 | @rows z n p cs cs' aq ah _ aM =>
  intro v F a1 aH ρ';obtain ⟨a,kE,cap,h1,rfl,aF⟩:=a1.n4;obtain ⟨v0,e,us,kx,aW,hlen,jt,ar,hr⟩:=Rows.sound (w:=w) (I:=I) (T:=T) (Fs:=Fs) (λt z q n m new au=>h.rel t _ au) (λp z n cs aq=>by obtain ⟨v,cr,h1,af,aF,_⟩:=h.part aq (by simp); exact ⟨v,cr,h1,af,aF⟩) (λz p n v hv=>by obtain ⟨a,cap,h1,rfl⟩:=hv; exact h1) aq;rw [h1] at kx;cases kx;refine QM aW hlen jt ar ah λk x y u J ao hu=>?_;obtain ⟨bG,kp,ey⟩:=hr k x u J hu;exact aM k x y J ao kp ey ρ'
 | @ptr p k z n y cs cs' aq ao hk ah _ aM =>
  intro v F a1 aH ρ';obtain ⟨u,ad,h1,af,rfl⟩:=a1.n5;obtain ⟨qU,q4,gJ,hB,mO,_⟩:=h.part aq (by rcases ao with rfl | rfl <;> simp);rw [h1] at gJ;cases gJ;have cell:∀ j,j<cs'.length->∃ gv lu wI,w.cell? ⟨ad.block,k+j,none⟩=some gv/\gv.oneCell'=true/\(cs.drop k)[j]?=some lu/\R w I (fk w T) lu gv wI/\(∀ c,wI c->∃ t,Fs t c):=by
   intro j ag;rw [ah,List.length_drop] at ag;have e':cs[k+j]?=some cs[k+j]:=List.getElem?_eq_getElem (by omega);obtain ⟨b,gv,fy,mQ,n2,ho,_⟩:=hB.node ao e';rw [af] at fy;cases fy;have fD:bH g (p.push (k+j))=some cs[k+j]:=by rw [t_,aq]; rcases ao with rfl | rfl <;> simp [ab.kids]
   by_cases gT:∃ bR fB cq m' cN,cs[k+j]=.bM bR fB cq m' cN
   ·obtain ⟨bR,fB,cq,m',cN,gT⟩:=gT;obtain ⟨b,abu,_,_,Cp,_,bG,kp⟩:=hB.node ao e';rw [gT] at kp;exact kp.lG.elim
   ·obtain ⟨pw,HC,sw,Je,mh,_⟩:=h.part fD (λbR fB cq m' cN e=>gT ⟨_,_,_,_,_,e⟩);rw [yM,h1] at sw;simp only [Option.bind_some] at sw;rw [n2] at sw;cases sw;exact ⟨gv,_,HC,mQ,ho,by rw [List.getElem?_drop]; exact e',Je,λc aa=>⟨_,mh c aa⟩⟩
  obtain ⟨b,gv,fy,_⟩:=hB.node ao (List.getElem?_eq_getElem hk);rw [af] at fy;cases fy;have hblk:∃ t,Fs t b:=⟨_,mO b (hB.Gm ao af)⟩;refine .cx (us:=λj=>(w.cell? ⟨b,k+j,none⟩).getD undef) (λ_ h=>h) (.inr hblk) rfl (λj iT tr=>?_) (λj iT tr=>?_) λj iT tr=>?_
  all_goals
   obtain ⟨gv,lu,wI,c1,c2,kG,c4,jJ⟩:=cell j (List.getElem?_eq_some_iff.1 tr).1
  ·simpa [c1] using c2
  ·simp [c1]
  ·simpa [c1] using aM j lu iT kG tr c4 jJ ρ'
end
def qO (g:aL):List (Place × ab)->aL
 | []=>g
 | (p,x)::l=>qO (ct g p x) l
structure Sn (g g2:aL) (all:List ab) (outs:List (Option ab)) (k:Nat) (p:Place) (x:ab):Prop where
 out:outs[k]?=some (some x)
 MS:bH g2 p=some .dead
 arg:(∃ z n cs,all[k]?=some (.a7 z p n)/\bH g p=some (.own z n cs))\/(∃ cs,all[k]?=some (.ptr p 0)/\bH g p=some (.obj cs))
 jz:∀ i,x≠.self i
section
variable {P:Program}{w:World}{I:a'}{T:Array Value}{g:aL}{Fs:Nat->a'}
theorem S_ (h:cB w I T g Fs) {z n:Nat}{p:Place}{cs:List ab}{v:Value}{F:a'}(a1:R w I (dy w T g) (.a7 z p n) v F) (aq:bH g p=some (.own z n cs)):dx w T p=some v:=by
 obtain ⟨⟨a,kE,cap,h1,rfl,aF⟩,_⟩:=a1.n4;obtain ⟨qU,q4,gJ,hB,mO⟩:=h.part aq (by simp);rw [h1] at gJ;cases gJ;obtain ⟨a2,sc,h9,_⟩:=hB.oc;cases h9;exact h1
theorem S9 (h:cB w I T g Fs) {p:Place}{cs:List ab}{v:Value}{F:a'}(a1:R w I (dy w T g) (.ptr p 0) v F) (aq:bH g p=some (.obj cs)):dx w T p=some v:=by
 obtain ⟨⟨u,ad,h1,af,rfl⟩,_⟩:=a1.n5;obtain ⟨qU,q4,gJ,hB,mO⟩:=h.part aq (by simp);rw [h1] at gJ;cases gJ;cases hB with
 | ref J=>simp [ab.isRef] at J
 | obj=>simp only [addrOf,Option.some.injEq] at af; subst af; exact h1
theorem aaI {g:aL}{p q:Place}{y:ab}(a_:bH g q=some .dead) (aq:bH g p=some .dead) (cQ:p≠q):bH (ct g p y) q=some .dead:=by
 by_cases hr:q.root=p.root
 ·obtain ⟨r,pp⟩:=p;obtain ⟨c',tD⟩:=q;simp only at hr;subst hr;have FK:pp≠tD:=λe=>cQ (by rw [e]);simp only [bH,ct,if_true] at *;cases J:g c' with
  | none=>rw [J] at aq; cases aq
  | some x =>
   rw [J] at aq a_;simp only [Option.map_some];have:∀ (pp tD:List Nat) (x:ab),pp≠tD->x.at pp=some .dead->x.at tD=some .dead->(x.setAt pp y).at tD=some .dead:=by
    intro pp
    induction pp with
    | nil =>
     intro tD x cQ h1 af;simp only [ab.at,Option.some.injEq] at h1;subst h1;cases tD with
     | nil=>exact absurd rfl cQ
     | cons k q=>simp [ab.at,ab.kids] at af
    | cons k pp aM =>
     intro tD x cQ h1 af;cases tD with
     | nil =>
      simp only [ab.at,Option.some.injEq] at af;subst af;simp [ab.at,ab.kids] at h1
     | cons j q =>
      simp only [ab.at] at h1 af;cases hk:x.kids[k]? with
      | none=>rw [hk] at h1; cases h1
      | some c =>
       rw [hk] at h1;simp only at h1;have z1:x.setAt (k::pp) y=x.sQ k (c.setAt pp y):=by simp only [ab.setAt,hk]
       rw [z1];have du:k<x.kids.length:=(List.getElem?_eq_some_iff.1 hk).1;have JR:(x.sQ k (c.setAt pp y)).kids=x.kids.set k (c.setAt pp y):=by
        cases x <;> simp [ab.sQ,ab.kids] at du ⊢
       simp only [ab.at,JR];by_cases gI:j=k
       ·subst gI;rw [List.getElem?_set_self du];rw [hk] at af;exact aM q c (λe=>cQ (by rw [e])) h1 af
       ·rw [List.getElem?_set_ne (Ne.symm gI)];exact af
   exact this pp tD x FK aq a_
 ·rw [G0 hr]; exact a_
theorem jI.qO:∀ (l:List (Place × ab)) (dj:Nat->a') (vs:Nat->Value) {g:aL}{Fs:Nat->a'},jI w I T g Fs->(l.map (·.1)).Nodup->(∀ (j:Nat) (p:Place) (x:ab),l[j]?=some (p,x)->bH g p=some .dead/\dx w T p=some (vs j)/\R w I (fk w T) x (vs j) (dj j)/\∀ i,x≠.self i) ->
  (∀ (j t c:Nat),j<l.length->dj j c->¬ Fs t c)->(∀ (j c:Nat),j<l.length->dj j c->¬ I c)->(∀ (i j c:Nat),i<l.length->j<l.length->dj i c->dj j c->i=j) ->
  ∃ bW,jI w I T (qO g l) bW/\∀ t c,bW t c->Fs t c\/∃ j,j<l.length/\dj j c
 | [],_,_,g,Fs,bg,_,_,_,_,_=>⟨Fs,bg,λ_ _ h=>.inl h⟩
 | (p,x)::l,dj,vs,g,Fs,bg,eA,ah,o_,xv,nA=>by
  obtain ⟨h1,af,aF,bh⟩:=ah 0 p x rfl;obtain ⟨v,cr,hv,ds,c_,put⟩:=bg.part h1 (by simp);rw [af] at hv;cases hv;obtain ⟨fr,iZ,xe,B5⟩:=put x (dj 0) aF (λc aa aV=>absurd aV (o_ 0 _ c (by simp) aa)) (λc aa=>xv 0 c (by simp) aa) (λt c _ aa=>o_ 0 t c (by simp) aa) (λi e=>absurd e (bh i));have hD:∀ t c,fr t c->Fs t c\/dj 0 c:=by
   intro t c aa;by_cases au:t=p.root
   ·subst au;rcases (xe c).1 aa with ⟨h,_⟩ | h
    ·exact .inl h
    ·exact .inr h
   ·rw [B5 t au] at aa; exact .inl aa
  simp only [List.map_cons,List.nodup_cons] at eA;obtain ⟨j2,iw,Fw⟩:=jI.qO l (λj=>dj (j+1)) (λj=>vs (j+1)) iZ eA.2 (λj q y ag=>by
    obtain ⟨aw,a2,a3⟩:=ah (j+1) q y (by simpa using ag);refine ⟨aaI aw h1 ?_,a2,a3⟩;rintro rfl;exact eA.1 (List.mem_map.2 ⟨(p,y),List.mem_of_getElem? ag,rfl⟩))
   (λj t c ag aa aV=>by
    rcases hD t c aV with h | h
    ·exact o_ (j+1) t c (by simpa using ag) aa h
    ·have:=nA (j+1) 0 c (by simpa using ag) (by simp) aa h; omega)
   (λj c ag aa=>xv (j+1) c (by simpa using ag) aa)
   (λi j c hi ag h1 af=>by have:=nA (i+1) (j+1) c (by simpa using hi) (by simpa using ag) h1 af; omega)
  refine ⟨j2,iw,λt c aa=>?_⟩;rcases Fw t c aa with h | ⟨j,ag,h⟩
  ·rcases hD t c h with h | h
   ·exact .inl h
   ·exact .inr ⟨0,by simp,h⟩
  ·exact .inr ⟨j+1,by simpa using ag,h⟩
end
inductive gV:ab->ab->Prop
 | refl {x:ab}:gV x x
 | Dl {z:Nat}:gV .aP (.own z 0 [])
 | pb {x y:ab}(aB:cE x) (h:View (λ_=>none) x y):gV x y
 | own {z n:Nat}{cs cs':List ab}(ah:cs'.length=cs.length) (h:∀ (k:Nat) (x y:ab),cs[k]?=some x->cs'[k]?=some y->gV x y):gV (.own z n cs) (.own z n cs')
 | obj {cs cs':List ab}(ah:cs'.length=cs.length) (h:∀ (k:Nat) (x y:ab),cs[k]?=some x->cs'[k]?=some y->gV x y):gV (.obj cs) (.obj cs')
 | agg {cs cs':List ab}(ah:cs'.length=cs.length) (h:∀ (k:Nat) (x y:ab),cs[k]?=some x->cs'[k]?=some y->gV x y):gV (.agg cs) (.agg cs')
theorem View.up {g g':aL}(h:∀ t x,g t=some x->g' t=some x) {x y:ab}(hv:View g x y):View g' x y:=by
 induction hv with
 | qK=>exact .qK
 | self h1 af aF bh b7 dp=>exact .self h1 af aF bh b7 dp
 | mp=>exact .mp
 | gl aq=>exact .gl (k7 h aq)
 | agg ah _ aM=>exact .agg ah aM
 | own ah _ aM=>exact .own ah aM
 | obj ah _ aM=>exact .obj ah aM
 | cF ah _ aM=>exact .cF ah aM
 | a7 aq aB ah _ aM=>exact .a7 (k7 h aq) aB ah aM
 | sub aq aB ah _ aM=>exact .sub (k7 h aq) aB ah aM
 | ptr aq ao hk ah _ aM=>exact .ptr (k7 h aq) ao hk ah aM
 | rows aq ah _ aM=>exact .rows (aq.mono (λaq=>k7 h aq) h) ah aM
theorem View.jz {g:aL}{x y:ab}{j:Nat × Nat}(h:View g x y) (e:y=.self j):x=.self j:=by
 cases h <;> first | exact e | cases e
theorem gV.jz {x y:ab}{j:Nat × Nat}(h:gV x y) (e:y=.self j):x=.self j:=by
 cases h <;> first | exact e | exact View.jz ‹_› e | cases e
theorem Gn {F:ab->ab->Prop}{cs cs':List ab}(ah:cs'.length=cs.length) (h:∀ (k:Nat) (x y:ab),cs[k]?=some x->cs'[k]?=some y->F x y) (aH:∀ x y j,F x y->y=.self j->x=.self j) (k:Nat) (j:Nat × Nat) (hk:cs'[k]?=some (.self j)):cs[k]?=some (.self j):=by
 have aN:k<cs.length:=ah ▸ (List.getElem?_eq_some_iff.1 hk).1;rw [List.getElem?_eq_getElem aN];exact congrArg some (aH _ _ j (h k _ _ (List.getElem?_eq_getElem aN) hk) rfl)
theorem x7 {cs cs':List ab}(ah:cs'.length=cs.length) (aB:∀ x∈cs,cE x) (aM:∀ (k:Nat) (x y:ab),cs[k]?=some x->cs'[k]?=some y->cE x->cE y):∀ y∈cs',cE y:=by
 intro y ao;obtain ⟨k,hk⟩:=List.getElem?_of_mem ao;have du:=(List.getElem?_eq_some_iff.1 hk).1;have J:=List.getElem?_eq_getElem (ah ▸ du:k<cs.length)
 grind
section
variable {w:World}{I:a'}
theorem R.pb {ρ:ab->Value->Prop}{x y:ab}{v:Value}{F:a'}(a1:R w I ρ x v F) (aB:cE x) (h:View (λ_=>none) x y) (bf:∀ c,F c->¬ I c) (aN:∀ c,I c->c<w.heap.size) (jx:cG.q w I):R w (λc=>I c\/F c) ρ y v ck:=by
 have bg:jI w I #[v] (λt=>if t=0 then some x else none) (λt c=>t=0/\F c):=by
  refine ⟨λt z aX=>?_,λt au c aa=>?_,λt t' c aa dQ=>aa.1.trans dQ.1.symm,λt c aa=>bf c aa.2,aN,jx⟩
  ·by_cases aK:t=0
   ·subst aK;rw [if_pos rfl] at aX;cases aX;exact ⟨v,rfl,.tree ((a1.bq aB).zy λc=>⟨λh=>⟨rfl,h⟩,λh=>h.2⟩)⟩
   ·rw [if_neg aK] at aX; cases aX
  ·rw [if_pos aa.1] at au; cases au
 have:=View.Rl bg (h.up λ_ _ h=>by cases h) (a1.bq aB) (λc aa=>⟨0,rfl,aa⟩) ρ;exact this.n' λc aa=>by
  rcases aa with h | ⟨t,_,h⟩
  ·exact .inl h
  ·exact .inr h
theorem gV.bq {x y:ab}(h:gV x y):cE x->cE y:=by
 induction h with
 | refl=>exact id
 | Dl=>exact λ_=>.own (by simp)
 | pb aB h =>
  intro _;have key:∀ {x y:ab},View (λ_=>none) x y->cE x->cE y:=by
   intro x y h
   induction h with
   | qK=>exact λ_=>.bc (by simp)
   | self h=>exact λ_=>h
   | mp=>exact λ_=>.imp
   | gl aq=>simp [bH] at aq
   | agg ah _ aM=>intro aB; cases aB with | agg aB=>exact .agg (x7 ah aB aM)
   | own ah _ aM=>intro aB; cases aB with | own aB=>exact .bc (x7 ah aB aM)
   | obj ah _ aM=>intro aB; cases aB with | obj aB=>exact .cx (x7 ah aB aM)
   | cF ah _ aM=>intro aB; cases aB with | cF h1 af=>exact .cF h1 (x7 ah af aM)
   | a7 aq=>simp [bH] at aq
   | sub aq=>simp [bH] at aq
   | ptr aq=>simp [bH] at aq
   | rows aq =>
    cases aq with
    | own aq=>simp [bH] at aq
    | bM au=>cases au
  grind
 | own ah _ aM=>intro aB; cases aB with | own aB=>exact .own (x7 ah aB aM)
 | obj ah _ aM=>intro aB; cases aB with | obj aB=>exact .obj (x7 ah aB aM)
 | agg ah _ aM=>intro aB; cases aB with | agg aB=>exact .agg (x7 ah aB aM)
theorem IX {ρ:ab->Value->Prop}{cs cs':List ab}{get:Nat->Option Value}{Fs:Nat->a'}{F B:a'}(ah:cs'.length=cs.length)
  (aQ:∀ k,k<cs.length->∃ u,get k=some u)
  (aR:∀ (j k c:Nat),j<cs.length->k<cs.length->Fs j c->Fs k c->j=k) (ar:∀ k c,k<cs.length->Fs k c->¬ B c) (aH:∀ c,F c↔B c\/∃ k,k<cs.length/\Fs k c)
  (aM:∀ (k:Nat) (x y:ab),cs[k]?=some x->cs'[k]?=some y->∀ u,get k=some u->∃ cS,(∀ c,cS c->Fs k c)/\R w (λc=>I c\/(Fs k c/\¬ cS c)) ρ y u cS) :
  ∃ q5:Nat->a',(∀ k c,k<cs'.length->q5 k c->Fs k c)/\(∀ (k:Nat) (y:ab) (u:Value),cs'[k]?=some y->get k=some u->R w (λc=>I c\/(F c/\¬ (B c\/∃ j,j<cs'.length/\q5 j c))) ρ y u (q5 k)):=by
 have:∀ k,∃ G:a',k<cs.length->(∀ c,G c->Fs k c)/\∀ (y:ab) (u:Value),cs'[k]?=some y->get k=some u->R w (λc=>I c\/(Fs k c/\¬ G c)) ρ y u G:=by
  intro k;by_cases hk:k<cs.length
  ·have J:=List.getElem?_eq_getElem hk;have ao:=List.getElem?_eq_getElem (ah ▸ hk:k<cs'.length);obtain ⟨u,hu⟩:=aQ k hk
   simp_all
  ·exact ⟨ck,λh=>absurd h hk⟩
 obtain ⟨q5,N_⟩:=Classical.axiomOfChoice this;refine ⟨q5,λk c hk=>(N_ k (ah ▸ hk)).1 c,λk y u ao hu=>?_⟩;have hk:k<cs'.length:=(List.getElem?_eq_some_iff.1 ao).1;have ig:k<cs.length:=ah ▸ hk;refine ((N_ k ig).2 y u ao hu).n' λc aa=>?_
 grind
theorem R.dP {ρ:ab->Value->Prop}{x y:ab}(h:gV x y):∀ {v:Value}{F:a'},R w I ρ x v F->cE x->(∀ c,F c->¬ I c)->(∀ c,I c->c<w.heap.size)->cG.q w I->∃ cS,(∀ c,cS c->F c)/\R w (λc=>I c\/(F c/\¬ cS c)) ρ y v cS:=by
 induction h with
 | refl=>exact λa1 _ _ _ _=>⟨_,λ_ h=>h,a1.n' λ_ h=>.inl h⟩
 | Dl =>
  intro v F a1 _ _ _ _;have:=a1.rD;subst this;refine ⟨ck,λ_ h=>h.elim,.own (e:=0) (us:=[]) (Fs:=λ_=>ck) ⟨by simp,.inl ⟨rfl,rfl⟩⟩ rfl (by simp) (by simp) (λ_ _ _ _ _ h=>h.elim) (λ_ _ _ h=>h.elim) λc=>⟨λh=>h.elim,λh=>?_⟩⟩;rcases h with h | ⟨_,_,h⟩
  ·cases h
  ·exact h
 | pb aB h=>exact λa1 _ bf aN jx=>⟨ck,λ_ h=>h.elim,(a1.pb aB h bf aN jx).n' λc aa=>aa.elim .inl λh=>.inr ⟨h,λh=>h⟩⟩
 | @own z n cs cs' ah _ aM =>
  intro v F a1 aB bf aN jx;cases a1 with
  | ref J=>simp [ab.isRef] at J
  | @own _ _ _ _ e us Fs _ aW hP h1 hr aR ar aH =>
   cases aB with
   | own aB =>
    obtain ⟨q5,qs,B6⟩:=IX (get:=λk=>us[k]?) (B:=λc=>v.ownBlock=some c) ah (λk hk=>⟨_,List.getElem?_eq_getElem (hP ▸ hk)⟩) aR (λk c hk aa e=>ar k c hk aa e) aH (λk x y J ao u hu=>aM k x y J ao (hr k x u J hu) (aB x (List.mem_of_getElem? J)) (λc aa=>bf c ((aH c).2 (.inr ⟨k,(List.getElem?_eq_some_iff.1 J).1,aa⟩))) aN jx);exact ⟨_,λc aa=>(aH c).2 (aa.imp id λ⟨k,hk,h⟩=>⟨k,ah ▸ hk,qs k c hk h⟩),
     .own aW (by rw [ah,hP]) h1 (λk y u ao hu=>B6 k y u ao hu) (λj k c ag hk af aF=>aR j k c (ah ▸ ag) (ah ▸ hk) (qs j c ag af) (qs k c hk aF)) (λk c hk aa=>ar k c (ah ▸ hk) (qs k c hk aa)) (λc=>Iff.rfl)⟩
 | @obj cs cs' ah o8 aM =>
  intro v F a1 aB bf aN jx;cases a1 with
  | ref J=>simp [ab.isRef] at J
  | @obj _ b e arr Fs _ aW hP h1 hr aR ar aH ax =>
   cases aB with
   | obj aB =>
    obtain ⟨q5,qs,B6⟩:=IX (get:=λk=>arr[k]?) (B:=λc=>c=b) ah (λk hk=>⟨_,Array.getElem?_eq_getElem (hP ▸ hk)⟩) aR (λk c hk aa e=>ar k hk (e ▸ aa)) aH (λk x y J ao u hu=>aM k x y J ao (hr k x u J hu) (aB x (List.mem_of_getElem? J)) (λc aa=>bf c ((aH c).2 (.inr ⟨k,(List.getElem?_eq_some_iff.1 J).1,aa⟩))) aN jx);exact ⟨_,λc aa=>(aH c).2 (aa.imp id λ⟨k,hk,h⟩=>⟨k,ah ▸ hk,qs k c hk h⟩),
     .obj aW (by rw [ah,hP]) h1 (λk y u ao hu=>B6 k y u ao hu) (λj k c ag hk af aF=>aR j k c (ah ▸ ag) (ah ▸ hk) (qs j c ag af) (qs k c hk aF)) (λk hk aa=>ar k (ah ▸ hk) (qs k b hk aa)) (λc=>Iff.rfl) (λk j u hk=>ax k j u (Gn ah o8 (λ_ _ _=>gV.jz) k j hk))⟩
 | @agg cs cs' ah _ aM =>
  intro v F a1 aB bf aN jx;cases a1 with
  | ref J=>simp [ab.isRef] at J
  | @agg _ vs Fs _ hP h1 hr aR aH =>
   cases aB with
   | agg aB =>
    obtain ⟨q5,qs,B6⟩:=IX (get:=λk=>vs[k]?) (B:=λ_=>False) ah (λk hk=>⟨_,Array.getElem?_eq_getElem (hP ▸ hk)⟩) aR (λk c hk aa e=>e) (λc=>(aH c).trans ⟨.inr,λh=>h.elim (λh=>h.elim) id⟩) (λk x y J ao u hu=>aM k x y J ao (hr k x u J hu) (aB x (List.mem_of_getElem? J)) (λc aa=>bf c ((aH c).2 ⟨k,(List.getElem?_eq_some_iff.1 J).1,aa⟩)) aN jx);refine ⟨λc=>∃ k,k<cs'.length/\q5 k c,λc ⟨k,hk,h⟩=>(aH c).2 ⟨k,ah ▸ hk,qs k c hk h⟩,
     .agg (Fs:=q5) (by rw [ah,hP]) h1 (λk y u ao hu=>(B6 k y u ao hu).n' λc aa=>aa.imp id λ⟨h1,af⟩=>⟨h1,λh=>af (.inr h)⟩) (λj k c ag hk af aF=>aR j k c (ah ▸ ag) (ah ▸ hk) (qs j c ag af) (qs k c hk aF)) (λc=>Iff.rfl)⟩
end
end Go.Own
