/-
  What is proved here: parts of the proof that the last text states: rules for walks through code, and of this program's functions what they answer. No condition of their own.
-/
import Derived.Orders
import Derived.WalkKit
namespace Go.Own
open Go
structure Place where
 root:Nat
 path:List Nat
 deriving DecidableEq,Repr
def Place.push (p:Place) (k:Nat):Place:=⟨p.root,p.path++[k]⟩
inductive af where
 | lit (v:Value)
 | aO
 | aD (z n:Nat) (cs:List af)
 | own (z n:Nat) (cs:List af)
 | obj (cs:List af)
 | agg (cs:List af)
 | cr (cs:List af)
 | bs (cs:List af)
 | ptr (p:Place) (k:Nat)
 | bq (z:Nat) (p:Place) (n:Nat)
 | sub (z:Nat) (p:Place) (lo n:Nat)
 | b3 (z:Nat) (p:Place) (n m:Nat) (new:List af)
 | ea (fn:Fn) (first caps:List af)
 | mp (p:Array MapEntry->Nat->Prop)
 | iD (p:Place)
 | imp (p:Array MapEntry->Nat->Prop)
 | dead
 deriving Inhabited
abbrev bn:=Nat->Prop
def af.isRef:af->Bool
 | .ptr .. | .bq .. | .sub .. | .iD ..=>true
 | _=>false
inductive R (w:World) (I:bn) (ρ:af->Value->Prop):af->Value->bn->Prop
 | lit {v:Value}{F:bn}(hv:v.oneCell'=true) (aP:∀ c,¬ F c):R w I ρ (.lit v) v F
 | aO {F:bn}(aP:∀ c,¬ F c):R w I ρ .aO (.slice none 0 0) F
 | dead {v:Value}{F:bn}(aP:∀ c,¬ F c):R w I ρ .dead v F
 | ref {x:af}{v:Value}{F:bn}(J:x.isRef=true) (h:ρ x v) (aP:∀ c,¬ F c):R w I ρ x v F
 | hz {z cap:Nat}{a:Option Addr}{F:bn}(aP:∀ c,¬ F c):R w I ρ (.aD z 0 []) (.slice a 0 cap) F
 | aD {z n cap:Nat}{cs:List af}{ad:Addr}{us:Nat->Value}{F:bn}(aP:∀ c,¬ F c) (kC:n<=cap) (bp:I ad.block) (aL:ad.spot=none) (ao:cs.length=n * z) (h1:∀ (k:Nat) (x:af),cs[k]?=some x->(us k).oneCell'=true)
   (aa:∀ (k:Nat) (x:af),cs[k]?=some x->w.cell? ⟨ad.block,ad.off+k,none⟩=some (us k)) (av:∀ (k:Nat) (x:af),cs[k]?=some x->R w I ρ x (us k) (λ_=>False)) :
   R w I ρ (.aD z n cs) (.slice (some ad) n cap) F
 | bs {cs:List af}{ad:Addr}{us:Nat->Value}{F:bn}(aP:∀ c,¬ F c) (bp:I ad.block) (aL:ad.spot=none) (h1:∀ (k:Nat) (x:af),cs[k]?=some x->(us k).oneCell'=true)
   (aa:∀ (k:Nat) (x:af),cs[k]?=some x->w.cell? ⟨ad.block,ad.off+k,none⟩=some (us k)) (av:∀ (k:Nat) (x:af),cs[k]?=some x->R w I ρ x (us k) (λ_=>False)) :
   R w I ρ (.bs cs) (.pointer (some ad)) F
 | own {z n:Nat}{cs:List af}{v:Value}{e:TypeId}{us:List Value}{Fs:Nat->bn}{F:bn}
   (bd:w.ownsRow 0 e z v n us) (ao:cs.length=us.length) (h1:∀ (k:Nat) (u:Value),us[k]?=some u->u.oneCell'=true)
   (av:∀ (k:Nat) (x:af) (u:Value),cs[k]?=some x->us[k]?=some u->R w I ρ x u (Fs k))
   (aV:∀ (ae k c:Nat),ae<cs.length->k<cs.length->Fs ae c->Fs k c->ae=k) (aF:∀ (k c:Nat),k<cs.length->Fs k c->v.ownBlock≠some c)
   (aP:∀ c,F c↔v.ownBlock=some c\/∃ k,k<cs.length/\Fs k c):R w I ρ (.own z n cs) v F
 | obj {cs:List af}{b:Nat}{e:TypeId}{arr:Array Value}{Fs:Nat->bn}{F:bn}
   (bd:w.heap[b]?=some (.cells arr e (0,0))) (ao:cs.length=arr.size) (h1:∀ (k:Nat) (u:Value),arr[k]?=some u->u.oneCell'=true)
   (av:∀ (k:Nat) (x:af) (u:Value),cs[k]?=some x->arr[k]?=some u->R w I ρ x u (Fs k))
   (aV:∀ (ae k c:Nat),ae<cs.length->k<cs.length->Fs ae c->Fs k c->ae=k) (aF:∀ (k:Nat),k<cs.length->¬ Fs k b)
   (aP:∀ c,F c↔c=b\/∃ k,k<cs.length/\Fs k c):R w I ρ (.obj cs) (.pointer (some ⟨b,0,none⟩)) F
 | agg {cs:List af}{vs:Array Value}{Fs:Nat->bn}{F:bn}(ao:cs.length=vs.size) (h1:∀ (k:Nat) (u:Value),vs[k]?=some u->u.oneCell'=true)
   (av:∀ (k:Nat) (x:af) (u:Value),cs[k]?=some x->vs[k]?=some u->R w I ρ x u (Fs k))
   (aV:∀ (ae k c:Nat),ae<cs.length->k<cs.length->Fs ae c->Fs k c->ae=k)
   (aP:∀ c,F c↔∃ k,k<cs.length/\Fs k c):R w I ρ (.agg cs) (.agg vs) F
 | cr {cs:List af}{vs:Array Value}{Fs:Nat->bn}{F:bn}(ao:cs.length=vs.size)
   (av:∀ (k:Nat) (x:af) (u:Value),cs[k]?=some x->vs[k]?=some u->R w I ρ x u (Fs k))
   (aV:∀ (ae k c:Nat),ae<cs.length->k<cs.length->Fs ae c->Fs k c->ae=k)
   (aP:∀ c,F c↔∃ k,k<cs.length/\Fs k c):R w I ρ (.cr cs) (.tuple vs) F
 | ea {fn:Fn}{first caps:List af}{v1 v2:Array Value}{F:bn}(aP:∀ c,¬ F c) (h1:first.length=v1.size) (ak:caps.length=v2.size)
   (jI:∀ (k:Nat) (x:af) (u:Value),first[k]?=some x->v1[k]?=some u->R w I ρ x u (λ_=>False))
   (ik:∀ (k:Nat) (x:af) (u:Value),caps[k]?=some x->v2[k]?=some u->R w I ρ x u (λ_=>False)):R w I ρ (.ea fn first caps) (.func fn v1 v2) F
 | mp {p:Array MapEntry->Nat->Prop}{b:Nat}{es:Array MapEntry}{clock:Nat}{F:bn}(bd:w.heap[b]?=some (.map es clock)) (aE:p es clock) (aP:∀ c,F c↔c=b):R w I ρ (.mp p) (.map (some b)) F
 | imp {p:Array MapEntry->Nat->Prop}{b:Nat}{es:Array MapEntry}{clock:Nat}{F:bn}(aP:∀ c,¬ F c) (bp:I b) (bd:w.heap[b]?=some (.map es clock)) (aE:p es clock):R w I ρ (.imp p) (.map (some b)) F
theorem R.wo {w:World}{I:bn}{ρ:af->Value->Prop}{x:af}{v:Value}{F fL:bn}(h:R w I ρ x v F) (aP:∀ c,F c↔fL c):R w I ρ x v fL:=by
 have:F=fL:=funext λc=>propext (aP c);exact this ▸ h
theorem R.lt {w:World}{I:bn}{ρ:af->Value->Prop}{x:af}{v:Value}{F:bn}(h:R w I ρ x v F):∀ c,F c->c<w.heap.size:=by
 induction h with
 | lit _ aP | aO aP | dead aP | ref _ _ aP | hz aP | aD aP | bs aP | ea aP | imp aP=>exact λc aa=>absurd aa (aP c)
 | mp bd _ aP=>exact λc aa=>by rw [(aP c).1 aa]; exact (Array.getElem?_eq_some_iff.1 bd).1
 | own bd ao h1 av aV aF aP aS =>
  intro c aa;rcases (aP c).1 aa with h | ⟨k,hk,h⟩
  ·exact (bd.lt c h).2
  ·exact aS k _ _ (List.getElem?_eq_getElem hk) (List.getElem?_eq_getElem (ao ▸ hk)) c h
 | obj bd ao h1 av aV aF aP aS =>
  intro c aa;rcases (aP c).1 aa with rfl | ⟨k,hk,h⟩
  ·exact (Array.getElem?_eq_some_iff.1 bd).1
  ·exact aS k _ _ (List.getElem?_eq_getElem hk) (Array.getElem?_eq_getElem (ao ▸ hk)) c h
 | agg ao h1 av aV aP aS =>
  intro c aa;obtain ⟨k,hk,h⟩:=(aP c).1 aa;exact aS k _ _ (List.getElem?_eq_getElem hk) (Array.getElem?_eq_getElem (ao ▸ hk)) c h
 | cr ao av aV aP aS =>
  intro c aa;obtain ⟨k,hk,h⟩:=(aP c).1 aa;exact aS k _ _ (List.getElem?_eq_getElem hk) (Array.getElem?_eq_getElem (ao ▸ hk)) c h
theorem tq {w w':World}{e:TypeId}{z n:Nat}{v:Value}{us:List Value}(h:w.ownsRow 0 e z v n us) (aF:∀ c,v.ownBlock=some c->w'.heap[c]?=w.heap[c]?):w'.ownsRow 0 e z v n us:=by
 obtain ⟨h1,ak⟩:=h;refine ⟨h1,?_⟩;rcases ak with ak | ⟨g,cap,cur,rfl,aY,b_,rest⟩
 ·exact .inl ak
 ·exact .inr ⟨g,cap,cur,rfl,aY,by rw [aF g rfl]; exact b_,rest⟩
theorem R.frame {w w':World}{I I':bn}{ρ ρ':af->Value->Prop}{x:af}{v:Value}{F:bn}(h:R w I ρ x v F)
  (bp:∀ c,I c->w'.heap[c]?=w.heap[c]?) (nL:∀ c,I c->I' c) (kX:∀ x v,ρ x v->ρ' x v) :
  (∀ c,F c->w'.heap[c]?=w.heap[c]?)->R w' I' ρ' x v F:=by
 induction h with
 | lit hv aP=>exact λ_=>.lit hv aP
 | aO aP=>exact λ_=>.aO aP
 | dead aP=>exact λ_=>.dead aP
 | ref J h aP=>exact λ_=>.ref J (kX _ _ h) aP
 | hz aP=>exact λ_=>.hz aP
 | aD aP kC hi aL ao h1 aa av aS =>
  exact λ_=>.aD aP kC (nL _ hi) aL ao h1 (λk x hk=>(World.cell?_of_block (a:=⟨_,_,none⟩) (bp _ hi)).trans (aa k x hk)) λk x hk=>aS k x hk (λc aa=>aa.elim)
 | bs aP hi aL h1 aa av aS =>
  exact λ_=>.bs aP (nL _ hi) aL h1 (λk x hk=>(World.cell?_of_block (a:=⟨_,_,none⟩) (bp _ hi)).trans (aa k x hk)) λk x hk=>aS k x hk (λc aa=>aa.elim)
 | own bd ao h1 av aV aF aP aS =>
  intro bh;refine .own (tq bd λc aa=>bh c ((aP c).2 (.inl aa))) ao h1 (λk x u J hu=>aS k x u J hu λc aa=>bh c ((aP c).2 (.inr ⟨k,?_,aa⟩))) aV aF aP;exact (List.getElem?_eq_some_iff.1 J).1
 | obj bd ao h1 av aV aF aP aS =>
  intro bh;refine .obj ((bh _ ((aP _).2 (.inl rfl))).trans bd) ao h1 (λk x u J hu=>aS k x u J hu λc aa=>bh c ((aP c).2 (.inr ⟨k,?_,aa⟩))) aV aF aP;exact (List.getElem?_eq_some_iff.1 J).1
 | agg ao h1 av aV aP aS =>
  intro bh;refine .agg ao h1 (λk x u J hu=>aS k x u J hu λc aa=>bh c ((aP c).2 ⟨k,?_,aa⟩)) aV aP;exact (List.getElem?_eq_some_iff.1 J).1
 | cr ao av aV aP aS =>
  intro bh;refine .cr ao (λk x u J hu=>aS k x u J hu λc aa=>bh c ((aP c).2 ⟨k,?_,aa⟩)) aV aP;exact (List.getElem?_eq_some_iff.1 J).1
 | imp aP hi bd aE=>exact λ_=>.imp aP (nL _ hi) ((bp _ hi).trans bd) aE
 | mp bd aE aP=>exact λbh=>.mp ((bh _ ((aP _).2 rfl)).trans bd) aE aP
 | ea aP h1 ak jI ik ga fW=>exact λ_=>.ea aP h1 ak (λk x u J hu=>ga k x u J hu λc aa=>aa.elim) (λk x u J hu=>fW k x u J hu λc aa=>aa.elim)
def af.kids:af->List af
 | .own _ _ cs=>cs
 | .obj cs=>cs
 | .agg cs=>cs
 | .cr cs=>cs
 | _=>[]
def af.tD (x:af) (k:Nat) (y:af):af :=
 match x with
 | .own z n cs=>.own z n (cs.set k y)
 | .obj cs=>.obj (cs.set k y)
 | .agg cs=>.agg (cs.set k y)
 | .cr cs=>.cr (cs.set k y)
 | x=>x
def af.at:af->List Nat->Option af
 | x,[]=>some x
 | x,k::p =>
  match x.kids[k]? with
  | some c=>c.at p
  | none=>none
def af.setAt:af->List Nat->af->af
 | _,[],y=>y
 | x,k::p,y =>
  match x.kids[k]? with
  | some c=>x.tD k (c.setAt p y)
  | none=>x
def child (w:World) (v:Value) (k:Nat):Option Value :=
 match v with
 | .agg cs=>cs[k]?
 | .tuple cs=>cs[k]?
 | .slice (some a) _ _=>w.cell? ⟨a.block,a.off+k,none⟩
 | .pointer (some a)=>w.cell? ⟨a.block,a.off+k,none⟩
 | _=>none
def walk (w:World):Value->List Nat->Option Value
 | v,[]=>some v
 | v,k::p =>
  match child w v k with
  | some u=>walk w u p
  | none=>none
theorem ns {w:World}{e:TypeId}{z n:Nat}{v:Value}{us:List Value}(h:w.ownsRow 0 e z v n us) {k:Nat}{u:Value}(hu:us[k]?=some u):child w v k=some u:=by
 obtain ⟨h1,ak⟩:=h;rcases ak with ⟨rfl,rfl⟩ | ⟨g,cap,cur,rfl,aY,b_,aJ,aa,aL,aC⟩
 ·simp at h1; subst h1; simp at hu
 ·rw [<- aC] at hu;rw [List.getElem?_take] at hu
  split at hu
  ·simpa [child,World.cell?,b_] using hu
  ·cases hu
theorem T5 {α:Type}{l:List α}{k ae:Nat}{y x:α}(h:(l.set k y)[ae]?=some x):(ae=k/\x=y/\k<l.length)\/(ae≠k/\l[ae]?=some x):=by
 by_cases ez:ae=k
 ·subst ez;by_cases a8:ae<l.length
  ·rw [List.getElem?_set_self a8] at h; exact .inl ⟨rfl,(Option.some.inj h).symm,a8⟩
  ·rw [List.set_eq_of_length_le (by omega)] at h; rw [List.getElem?_eq_none (by omega)] at h; cases h
 ·rw [List.getElem?_set_ne (Ne.symm ez)] at h; exact .inr ⟨ez,h⟩
structure Out (w w':World) (I I':bn) (ρ ρ':af->Value->Prop) (F cG:bn):Prop where
 aD:∀ c,I c->w'.heap[c]?=w.heap[c]?
 rest:∀ c,F c->¬ cG c->w'.heap[c]?=w.heap[c]?
 more:∀ c,I c->I' c
 ref:∀ x v,ρ x v->ρ' x v
theorem Out.mono {w w':World}{I I':bn}{ρ ρ':af->Value->Prop}{F cG fL iZ:bn}(h:Out w w' I I' ρ ρ' F cG) (h1:∀ c,fL c->F c) (ak:∀ c,fL c->¬ iZ c->¬ cG c):Out w w' I I' ρ ρ' fL iZ :=
 ⟨h.aD,λc aa aJ=>h.rest c (h1 c aa) (ak c aa aJ),h.more,h.ref⟩
theorem R.outside {w w':World}{I I':bn}{ρ ρ':af->Value->Prop}{F cG:bn}(o:Out w w' I I' ρ ρ' F cG) {x:af}{v:Value}{G:bn}(h:R w I ρ x v G) (eb:∀ c,G c->F c/\¬ cG c):R w' I' ρ' x v G :=
 h.frame o.aD o.more o.ref λc aa=>o.rest c (eb c aa).1 (eb c aa).2
theorem Cp {w w':World}{I I':bn}{ρ ρ':af->Value->Prop}{cs:List af}{get:Nat->Option Value}{Fs:Nat->bn}{F cG:bn}
  (av:∀ (k:Nat) (x:af) (u:Value),cs[k]?=some x->get k=some u->R w I ρ x u (Fs k))
  (aV:∀ (ae k c:Nat),ae<cs.length->k<cs.length->Fs ae c->Fs k c->ae=k)
  (aP:∀ k c,k<cs.length->Fs k c->F c) {k:Nat}(hk:k<cs.length) (ay:∀ c,cG c->Fs k c) (o:Out w w' I I' ρ ρ' F cG)
  {y:af}{u:Value}{bZ:bn}(hu:get k=some u) (bg:R w' I' ρ' y u bZ) (eV:∀ c,bZ c↔(Fs k c/\¬ cG c)\/(bZ c/\¬ (F c/\¬ cG c))) :
  (∀ (ae:Nat) (x:af) (u:Value),(cs.set k y)[ae]?=some x->get ae=some u->R w' I' ρ' x u (if ae=k then bZ else Fs ae)) /\
  (∀ (i ae c:Nat),i<(cs.set k y).length->ae<(cs.set k y).length->(if i=k then bZ else Fs i) c->(if ae=k then bZ else Fs ae) c->i=ae):=by
 constructor
 ·intro ae x sq J fw;rcases T5 J with ⟨rfl,rfl,a8⟩ | ⟨eh,J⟩
  ·rw [if_pos rfl]; rw [hu] at fw; cases fw; exact bg
  ·rw [if_neg eh];have ab:ae<cs.length:=(List.getElem?_eq_some_iff.1 J).1;exact (av ae x sq J fw).outside o λc aa=>⟨aP ae c ab aa,λeu=>eh (aV ae k c ab hk aa (ay c eu))⟩
 ·intro i ae c hi ab h1 ak;rw [List.length_set] at hi ab;by_cases s6:i=k <;> by_cases ez:ae=k
  ·exact s6.trans ez.symm
  ·rw [if_pos s6] at h1; rw [if_neg ez] at ak;exfalso;have eu:¬ cG c:=λh=>ez (aV ae k c ab hk ak (ay c h));rcases (eV c).1 h1 with ⟨h,_⟩ | ⟨_,h⟩
   ·exact ez (aV ae k c ab hk ak h)
   ·exact h ⟨aP ae c ab ak,eu⟩
  ·rw [if_neg s6] at h1; rw [if_pos ez] at ak;exfalso;have eu:¬ cG c:=λh=>s6 (aV i k c hi hk h1 (ay c h));rcases (eV c).1 ak with ⟨h,_⟩ | ⟨_,h⟩
   ·exact s6 (aV i k c hi hk h1 h)
   ·exact h ⟨aP i c hi h1,eu⟩
  ·rw [if_neg s6] at h1; rw [if_neg ez] at ak;exact aV i ae c hi ab h1 ak
theorem Cq {m:Nat}{Fs:Nat->bn}{bZ cG iZ:bn}{k:Nat}(hk:k<m)
  (aV:∀ (ae k c:Nat),ae<m->k<m->Fs ae c->Fs k c->ae=k) (ay:∀ c,cG c->Fs k c) (eV:∀ c,bZ c↔(Fs k c/\¬ cG c)\/iZ c) (c:Nat) :
  (∃ ae,ae<m/\(if ae=k then bZ else Fs ae) c)↔((∃ ae,ae<m/\Fs ae c)/\¬ cG c)\/iZ c:=by
 constructor
 ·rintro ⟨ae,ab,h⟩;by_cases ez:ae=k
  ·rw [if_pos ez] at h;rcases (eV c).1 h with ⟨h1,ak⟩ | h1
   ·exact .inl ⟨⟨k,hk,h1⟩,ak⟩
   ·exact .inr h1
  ·rw [if_neg ez] at h;exact .inl ⟨⟨ae,ab,h⟩,λeu=>ez (aV ae k c ab hk h (ay c eu))⟩
 ·rintro (⟨⟨ae,ab,h⟩,aJ⟩ | h)
  ·by_cases ez:ae=k
   ·subst ez; exact ⟨ae,ab,by rw [if_pos rfl]; exact (eV c).2 (.inl ⟨h,aJ⟩)⟩
   ·exact ⟨ae,ab,by rw [if_neg ez]; exact h⟩
  ·exact ⟨k,hk,by rw [if_pos rfl]; exact (eV c).2 (.inr h)⟩
theorem R.n2 {w w':World}{I:bn}{ρ:af->Value->Prop}:∀ (r:List Nat) {x:af}{v:Value}{F:bn}{y:af},R w I ρ x v F->x.at r=some y ->
  (∀ c,F c->w'.heap[c]?=w.heap[c]?)->walk w' v r=walk w v r
 | [],_,_,_,_,_,_,_=>rfl
 | k::p,x,v,F,y,h,fK,bh=>by
  simp only [af.at] at fK;cases hd:x.kids[k]? with
  | none=>rw [hd] at fK; cases fK
  | some qM =>
   rw [hd] at fK;simp only at fK;cases h with
   | @own z n cs _ e us Fs _ bd ao h1 av aV aF aP =>
    simp only [af.kids] at hd;have hk:k<cs.length:=(List.getElem?_eq_some_iff.1 hd).1;have hu:us[k]?=some us[k]:=List.getElem?_eq_getElem (ao ▸ hk);have l4:=tq (w':=w') bd λc aa=>bh c ((aP c).2 (.inl aa));have:=R.n2 (w':=w') p (av k qM _ hd hu) fK λc aa=>bh c ((aP c).2 (.inr ⟨k,hk,aa⟩));simp [walk,ns bd hu,ns l4 hu,this]
   | @obj cs b e arr Fs _ bd ao h1 av aV aF aP =>
    simp only [af.kids] at hd;have hk:k<cs.length:=(List.getElem?_eq_some_iff.1 hd).1;have hu:arr[k]?=some arr[k]:=Array.getElem?_eq_getElem (ao ▸ hk);have l4:=(bh b ((aP b).2 (.inl rfl))).trans bd;have:=R.n2 (w':=w') p (av k qM _ hd hu) fK λc aa=>bh c ((aP c).2 (.inr ⟨k,hk,aa⟩));simp [walk,child,World.cell?,bd,l4,hu,this]
   | @agg cs vs Fs _ ao h1 av aV aP =>
    simp only [af.kids] at hd;have hk:k<cs.length:=(List.getElem?_eq_some_iff.1 hd).1;have hu:vs[k]?=some vs[k]:=Array.getElem?_eq_getElem (ao ▸ hk);have:=R.n2 (w':=w') p (av k qM _ hd hu) fK λc aa=>bh c ((aP c).2 ⟨k,hk,aa⟩);simp [walk,child,hu,this]
   | @cr cs vs Fs _ ao av aV aP =>
    simp only [af.kids] at hd;have hk:k<cs.length:=(List.getElem?_eq_some_iff.1 hd).1;have hu:vs[k]?=some vs[k]:=Array.getElem?_eq_getElem (ao ▸ hk);have:=R.n2 (w':=w') p (av k qM _ hd hu) fK λc aa=>bh c ((aP c).2 ⟨k,hk,aa⟩);simp [walk,child,hu,this]
   | ref J _ _=>cases x <;> simp [af.isRef,af.kids] at J hd
   | _=>simp [af.kids] at hd
theorem R.focus {w:World}{I:bn}{ρ:af->Value->Prop}:∀ (q:List Nat) {x:af}{v:Value}{F:bn}{y:af},R w I ρ x v F->x.at q=some y ->
  ∃ ib cG,walk w v q=some ib/\R w I ρ y ib cG/\(∀ c,cG c->F c) /\
   (∀ (w':World),(∀ c,F c->¬ cG c->w'.heap[c]?=w.heap[c]?)->walk w' v q=some ib/\∀ r su,x.at r=some su->(∃ eR,r=q++eR)\/walk w' v r=walk w v r) /\
   ∀ (w':World) (I':bn) (ρ':af->Value->Prop) (y':af) (iZ:bn),Out w w' I I' ρ ρ' F cG->R w' I' ρ' y' ib iZ->(∀ c,iZ c->F c->cG c) ->
    ∃ fL,R w' I' ρ' (x.setAt q y') v fL/\∀ c,fL c↔(F c/\¬ cG c)\/iZ c
 | [],x,v,F,y,h,fK=>by
  simp only [af.at,Option.some.injEq] at fK;subst fK;exact ⟨v,F,rfl,h,λ_ h=>h,λ_ _=>⟨rfl,λr _ _=>.inl ⟨r,rfl⟩⟩,λw' I' ρ' y' iZ _ bg _=>⟨iZ,bg,λc=>by simp⟩⟩
 | k::p,x,v,F,y,h,fK=>by
  simp only [af.at] at fK;cases hd:x.kids[k]? with
  | none=>rw [hd] at fK; cases fK
  | some qM =>
   rw [hd] at fK;simp only at fK;have ta:∀ y',x.setAt (k::p) y'=x.tD k (qM.setAt p y'):=λy'=>by simp [af.setAt,hd]
   cases h with
   | @own z n cs _ e us Fs _ bd ao h1 av aV aF aP =>
    simp only [af.kids] at hd;have hk:k<cs.length:=(List.getElem?_eq_some_iff.1 hd).1;have hu:us[k]?=some us[k]:=List.getElem?_eq_getElem (ao ▸ hk);obtain ⟨ib,cG,hw,dL,dt,fN,kn⟩:=R.focus p (av k qM _ hd hu) fK;refine ⟨ib,cG,by simp [walk,ns bd hu,hw],dL,λc aa=>(aP c).2 (.inr ⟨k,hk,dt c aa⟩),?_,?_⟩
    ·intro w' aL;have nR:∀ ae c,ae<cs.length->Fs ae c->¬ cG c->w'.heap[c]?=w.heap[c]?:=λae c ab aa aJ=>aL c ((aP c).2 (.inr ⟨ae,ab,aa⟩)) aJ;obtain ⟨jm,hZ⟩:=fN w' λc aa aJ=>nR k c hk aa aJ;have l4:=tq (w':=w') bd λc aa=>aL c ((aP c).2 (.inl aa)) λeu=>aF k c hk (dt c eu) aa;refine ⟨by simp [walk,ns l4 hu,jm],?_⟩;intro r su eC;cases r with
     | nil=>exact .inr rfl
     | cons ae r =>
      simp only [af.at,af.kids] at eC;cases ab:cs[ae]? with
      | none=>rw [ab] at eC; cases eC
      | some ub =>
       rw [ab] at eC;simp only at eC;have e3:ae<cs.length:=(List.getElem?_eq_some_iff.1 ab).1;have pq:us[ae]?=some us[ae]:=List.getElem?_eq_getElem (ao ▸ e3);by_cases ez:ae=k
       ·subst ez;rw [hd] at ab;cases ab;rcases hZ r su eC with ⟨eR,rfl⟩ | h
        ·exact .inl ⟨eR,rfl⟩
        ·exact .inr (by simp [walk,ns bd hu,ns l4 hu,h])
       ·have h:=R.n2 (w':=w') r (av ae ub _ ab pq) eC λc aa=>nR ae c e3 aa λeu=>ez (aV ae k c e3 hk aa (dt c eu));exact .inr (by simp [walk,ns bd pq,ns l4 pq,h])
    intro w' I' ρ' y' iZ o kd lZ;have jc:∀ ae c,ae<cs.length->Fs ae c->F c:=λae c ab aa=>(aP c).2 (.inr ⟨ae,ab,aa⟩);obtain ⟨bZ,jR,eV⟩:=kn w' I' ρ' y' iZ (o.mono (λc aa=>jc k c hk aa) λc _ h=>h) kd λc aa ni=>lZ c aa (jc k c hk ni);obtain ⟨eC,p2⟩:=Cp (get:=λae=>us[ae]?) av aV jc hk dt o hu jR λc=>by
     constructor
     ·intro h;rcases (eV c).1 h with h1 | h1
      ·exact .inl h1
      ·exact .inr ⟨h,λ⟨ak,aN⟩=>aN (lZ c h1 ak)⟩
     ·rintro (h1 | ⟨h1,_⟩)
      ·exact (eV c).2 (.inl h1)
      ·exact h1
    rw [ta];refine ⟨_,.own (Fs:=λae=>if ae=k then bZ else Fs ae) (tq bd λc aa=>o.rest c ((aP c).2 (.inl aa)) λeu=>aF k c hk (dt c eu) aa) (by simpa using ao) h1 eC p2 ?_ (λc=>Iff.rfl),λc=>?_⟩
    ·intro ae c ab aa tf;rw [List.length_set] at ab;by_cases ez:ae=k
     ·rw [if_pos ez] at aa;rcases (eV c).1 aa with ⟨h1,_⟩ | h1
      ·exact aF k c hk h1 tf
      ·exact aF k c hk (dt c (lZ c h1 ((aP c).2 (.inl tf)))) tf
     ·rw [if_neg ez] at aa; exact aF ae c ab aa tf
    ·have hu:=Cq hk aV dt eV c;simp only [List.length_set];rw [hu,aP c];have gW:v.ownBlock=some c->¬ cG c:=λh1 ak=>aF k c hk (dt c ak) h1;constructor
     ·rintro (h1 | ⟨h1,ak⟩ | h1)
      ·exact .inl ⟨.inl h1,gW h1⟩
      ·exact .inl ⟨.inr h1,ak⟩
      ·exact .inr h1
     ·rintro (⟨h1 | h1,ak⟩ | h1)
      ·exact .inl h1
      ·exact .inr (.inl ⟨h1,ak⟩)
      ·exact .inr (.inr h1)
   | @obj cs b e arr Fs _ bd ao h1 av aV aF aP =>
    simp only [af.kids] at hd;have hk:k<cs.length:=(List.getElem?_eq_some_iff.1 hd).1;have hu:arr[k]?=some arr[k]:=Array.getElem?_eq_getElem (ao ▸ hk);obtain ⟨ib,cG,hw,dL,dt,fN,kn⟩:=R.focus p (av k qM _ hd hu) fK;refine ⟨ib,cG,by simp [walk,child,World.cell?,bd,hu,hw],dL,λc aa=>(aP c).2 (.inr ⟨k,hk,dt c aa⟩),?_,?_⟩
    ·intro w' aL;have nR:∀ ae c,ae<cs.length->Fs ae c->¬ cG c->w'.heap[c]?=w.heap[c]?:=λae c ab aa aJ=>aL c ((aP c).2 (.inr ⟨ae,ab,aa⟩)) aJ;obtain ⟨jm,hZ⟩:=fN w' λc aa aJ=>nR k c hk aa aJ;have l4:=(aL b ((aP b).2 (.inl rfl)) λeu=>aF k hk (dt b eu)).trans bd;refine ⟨by simp [walk,child,World.cell?,l4,hu,jm],?_⟩;intro r su eC;cases r with
     | nil=>exact .inr rfl
     | cons ae r =>
      simp only [af.at,af.kids] at eC;cases ab:cs[ae]? with
      | none=>rw [ab] at eC; cases eC
      | some ub =>
       rw [ab] at eC;simp only at eC;have e3:ae<cs.length:=(List.getElem?_eq_some_iff.1 ab).1;have pq:arr[ae]?=some arr[ae]:=Array.getElem?_eq_getElem (ao ▸ e3);by_cases ez:ae=k
       ·subst ez;rw [hd] at ab;cases ab;rcases hZ r su eC with ⟨eR,rfl⟩ | h
        ·exact .inl ⟨eR,rfl⟩
        ·exact .inr (by simp [walk,child,World.cell?,bd,l4,hu,h])
       ·have h:=R.n2 (w':=w') r (av ae ub _ ab pq) eC λc aa=>nR ae c e3 aa λeu=>ez (aV ae k c e3 hk aa (dt c eu));exact .inr (by simp [walk,child,World.cell?,bd,l4,pq,h])
    intro w' I' ρ' y' iZ o kd lZ;have jc:∀ ae c,ae<cs.length->Fs ae c->F c:=λae c ab aa=>(aP c).2 (.inr ⟨ae,ab,aa⟩);obtain ⟨bZ,jR,eV⟩:=kn w' I' ρ' y' iZ (o.mono (λc aa=>jc k c hk aa) λc _ h=>h) kd λc aa ni=>lZ c aa (jc k c hk ni);obtain ⟨eC,p2⟩:=Cp (get:=λae=>arr[ae]?) av aV jc hk dt o hu jR λc=>by
     constructor
     ·intro h;rcases (eV c).1 h with h1 | h1
      ·exact .inl h1
      ·exact .inr ⟨h,λ⟨ak,aN⟩=>aN (lZ c h1 ak)⟩
     ·rintro (h1 | ⟨h1,_⟩)
      ·exact (eV c).2 (.inl h1)
      ·exact h1
    rw [ta];have ng:F b:=(aP b).2 (.inl rfl);have EU:¬ cG b:=λh=>aF k hk (dt b h);refine ⟨_,.obj (Fs:=λae=>if ae=k then bZ else Fs ae) ((o.rest b ng EU).trans bd) (by simpa using ao) h1 eC p2 ?_ (λc=>Iff.rfl),λc=>?_⟩
    ·intro ae ab aa;rw [List.length_set] at ab;by_cases ez:ae=k
     ·rw [if_pos ez] at aa;rcases (eV b).1 aa with ⟨h1,_⟩ | h1
      ·exact aF k hk h1
      ·exact EU (lZ b h1 ng)
     ·rw [if_neg ez] at aa; exact aF ae ab aa
    ·have hu:=Cq hk aV dt eV c;simp only [List.length_set];rw [hu,aP c];constructor
     ·rintro (rfl | ⟨h1,ak⟩ | h1)
      ·exact .inl ⟨.inl rfl,EU⟩
      ·exact .inl ⟨.inr h1,ak⟩
      ·exact .inr h1
     ·rintro (⟨h1 | h1,ak⟩ | h1)
      ·exact .inl h1
      ·exact .inr (.inl ⟨h1,ak⟩)
      ·exact .inr (.inr h1)
   | @agg cs vs Fs _ ao h1 av aV aP =>
    simp only [af.kids] at hd;have hk:k<cs.length:=(List.getElem?_eq_some_iff.1 hd).1;have hu:vs[k]?=some vs[k]:=Array.getElem?_eq_getElem (ao ▸ hk);obtain ⟨ib,cG,hw,dL,dt,fN,kn⟩:=R.focus p (av k qM _ hd hu) fK;refine ⟨ib,cG,by simp [walk,child,hu,hw],dL,λc aa=>(aP c).2 ⟨k,hk,dt c aa⟩,?_,?_⟩
    ·intro w' aL;have nR:∀ ae c,ae<cs.length->Fs ae c->¬ cG c->w'.heap[c]?=w.heap[c]?:=λae c ab aa aJ=>aL c ((aP c).2 ⟨ae,ab,aa⟩) aJ;obtain ⟨jm,hZ⟩:=fN w' λc aa aJ=>nR k c hk aa aJ
     
     refine ⟨by simp [walk,child,hu,jm],?_⟩;intro r su eC;cases r with
     | nil=>exact .inr rfl
     | cons ae r =>
      simp only [af.at,af.kids] at eC;cases ab:cs[ae]? with
      | none=>rw [ab] at eC; cases eC
      | some ub =>
       rw [ab] at eC;simp only at eC;have e3:ae<cs.length:=(List.getElem?_eq_some_iff.1 ab).1;have pq:vs[ae]?=some vs[ae]:=Array.getElem?_eq_getElem (ao ▸ e3);by_cases ez:ae=k
       ·subst ez;rw [hd] at ab;cases ab;rcases hZ r su eC with ⟨eR,rfl⟩ | h
        ·exact .inl ⟨eR,rfl⟩
        ·exact .inr (by simp [walk,child,hu,h])
       ·have h:=R.n2 (w':=w') r (av ae ub _ ab pq) eC λc aa=>nR ae c e3 aa λeu=>ez (aV ae k c e3 hk aa (dt c eu));exact .inr (by simp [walk,child,pq,h])
    intro w' I' ρ' y' iZ o kd lZ;have jc:∀ ae c,ae<cs.length->Fs ae c->F c:=λae c ab aa=>(aP c).2 ⟨ae,ab,aa⟩;obtain ⟨bZ,jR,eV⟩:=kn w' I' ρ' y' iZ (o.mono (λc aa=>jc k c hk aa) λc _ h=>h) kd λc aa ni=>lZ c aa (jc k c hk ni);obtain ⟨eC,p2⟩:=Cp (get:=λae=>vs[ae]?) av aV jc hk dt o hu jR λc=>by
     constructor
     ·intro h;rcases (eV c).1 h with h1 | h1
      ·exact .inl h1
      ·exact .inr ⟨h,λ⟨ak,aN⟩=>aN (lZ c h1 ak)⟩
     ·rintro (h1 | ⟨h1,_⟩)
      ·exact (eV c).2 (.inl h1)
      ·exact h1
    rw [ta];refine ⟨_,.agg (Fs:=λae=>if ae=k then bZ else Fs ae) (by simpa using ao) h1 eC p2 (λc=>Iff.rfl),λc=>?_⟩;have hu:=Cq hk aV dt eV c;simp only [List.length_set];rw [hu,aP c]
   | @cr cs vs Fs _ ao av aV aP =>
    simp only [af.kids] at hd;have hk:k<cs.length:=(List.getElem?_eq_some_iff.1 hd).1;have hu:vs[k]?=some vs[k]:=Array.getElem?_eq_getElem (ao ▸ hk);obtain ⟨ib,cG,hw,dL,dt,fN,kn⟩:=R.focus p (av k qM _ hd hu) fK;refine ⟨ib,cG,by simp [walk,child,hu,hw],dL,λc aa=>(aP c).2 ⟨k,hk,dt c aa⟩,?_,?_⟩
    ·intro w' aL;have nR:∀ ae c,ae<cs.length->Fs ae c->¬ cG c->w'.heap[c]?=w.heap[c]?:=λae c ab aa aJ=>aL c ((aP c).2 ⟨ae,ab,aa⟩) aJ;obtain ⟨jm,hZ⟩:=fN w' λc aa aJ=>nR k c hk aa aJ
     
     refine ⟨by simp [walk,child,hu,jm],?_⟩;intro r su eC;cases r with
     | nil=>exact .inr rfl
     | cons ae r =>
      simp only [af.at,af.kids] at eC;cases ab:cs[ae]? with
      | none=>rw [ab] at eC; cases eC
      | some ub =>
       rw [ab] at eC;simp only at eC;have e3:ae<cs.length:=(List.getElem?_eq_some_iff.1 ab).1;have pq:vs[ae]?=some vs[ae]:=Array.getElem?_eq_getElem (ao ▸ e3);by_cases ez:ae=k
       ·subst ez;rw [hd] at ab;cases ab;rcases hZ r su eC with ⟨eR,rfl⟩ | h
        ·exact .inl ⟨eR,rfl⟩
        ·exact .inr (by simp [walk,child,hu,h])
       ·have h:=R.n2 (w':=w') r (av ae ub _ ab pq) eC λc aa=>nR ae c e3 aa λeu=>ez (aV ae k c e3 hk aa (dt c eu));exact .inr (by simp [walk,child,pq,h])
    intro w' I' ρ' y' iZ o kd lZ;have jc:∀ ae c,ae<cs.length->Fs ae c->F c:=λae c ab aa=>(aP c).2 ⟨ae,ab,aa⟩;obtain ⟨bZ,jR,eV⟩:=kn w' I' ρ' y' iZ (o.mono (λc aa=>jc k c hk aa) λc _ h=>h) kd λc aa ni=>lZ c aa (jc k c hk ni);obtain ⟨eC,p2⟩:=Cp (get:=λae=>vs[ae]?) av aV jc hk dt o hu jR λc=>by
     constructor
     ·intro h;rcases (eV c).1 h with h1 | h1
      ·exact .inl h1
      ·exact .inr ⟨h,λ⟨ak,aN⟩=>aN (lZ c h1 ak)⟩
     ·rintro (h1 | ⟨h1,_⟩)
      ·exact (eV c).2 (.inl h1)
      ·exact h1
    rw [ta];refine ⟨_,.cr (Fs:=λae=>if ae=k then bZ else Fs ae) (by simpa using ao) eC p2 (λc=>Iff.rfl),λc=>?_⟩;have hu:=Cq hk aV dt eV c;simp only [List.length_set];rw [hu,aP c]
   | ref J _ _=>cases x <;> simp [af.isRef,af.kids] at J hd
   | _=>simp [af.kids] at hd
end Go.Own
namespace Go.Own
open Go
abbrev aU:=Nat->Option af
def b9 (g:aU) (p:Place):Option af :=
 match g p.root with
 | some x=>x.at p.path
 | none=>none
def ef (w:World) (T:Array Value) (p:Place):Option Value :=
 match T[p.root]? with
 | some v=>walk w v p.path
 | none=>none
def addrOf:Value->Option Addr
 | .slice (some a) _ _=>some a
 | .pointer (some a)=>some a
 | _=>none
def fT (w:World) (T:Array Value):af->Value->Prop
 | .ptr p k,v=>∃ u a,ef w T p=some u/\addrOf u=some a/\v=.pointer (some ⟨a.block,a.off+k,none⟩)
 | .bq _ p n,v=>∃ a N cap,ef w T p=some (.slice a N cap)/\v=.slice a n cap/\n<=N
 | .sub z p lo n,v=>∃ a N cap cx lr,ef w T p=some (.slice a N cap)/\v=.slice cx n lr/\n<=lr/\lo+n<=N/\(0<n->∃ ad,a=some ad/\cx=some ⟨ad.block,ad.off+lo * z,none⟩)
 | .b3 _ p n _ _,v=>∃ a cap,ef w T p=some (.slice a n cap)/\v=.slice a n cap
 | .iD p,v=>∃ b,ef w T p=some (.map b)/\v=.map b
 | _,_=>False
def gS (g:aU):af->Prop
 | .ptr p k=>∃ y,b9 g p=some y/\(∃ z n cs,(y=.own z n cs\/y=.obj cs)/\k<cs.length)
 | .bq z p n=>(∃ N cs,b9 g p=some (.own z N cs)/\n<=N)\/(p.path=[]/\∃ q hf m new,g p.root=some (.b3 z q hf m new)/\n=hf+m)
 | .sub z p lo n=>∃ N cs,b9 g p=some (.own z N cs)/\lo+n<=N
 | .b3 z p n _ _=>(∃ cs,b9 g p=some (.own z n cs))\/(p.path=[]/\∃ q hf m new cs,g p.root=some (.b3 z q hf m new)/\n=hf+m/\b9 g q=some (.own z hf cs))
 | .iD p=>∃ q,b9 g p=some (.mp q)
 | _=>False
def ed (w:World) (T:Array Value) (g:aU) (r:af) (v:Value):Prop:=fT w T r v/\gS g r
structure Dk (w:World) (I:bn) (ρ:af->Value->Prop) (z:Nat) (p:Place) (n m:Nat) (new:List af) (v:Value) (F:bn) (bv:Value) (e cX:TypeId) (us news:List Value):Prop where
 j4:ρ (.b3 z p n 0 []) bv
 kD:w.ownsRow 0 e z bv n us
 l5:w.ownsRow 0 cX z v (n+m) (us++news)
 ao:new.length=news.length
 h1:∀ (k:Nat) (u:Value),news[k]?=some u->u.oneCell'=true
 av:∀ (k:Nat) (x:af) (u:Value),new[k]?=some x->news[k]?=some u->R w I ρ x u (λ_=>False)
 aP:∀ c,F c↔v.ownBlock=some c/\bv.ownBlock≠some c
inductive js (w:World) (I:bn) (ρ:af->Value->Prop):af->Value->bn->Prop
 | tree {x:af}{v:Value}{F:bn}(h:R w I ρ x v F):js w I ρ x v F
 | b3 {z n m:Nat}{p:Place}{new:List af}{v bv:Value}{e cX:TypeId}{us news:List Value}{F:bn}(h:Dk w I ρ z p n m new v F bv e cX us news):js w I ρ (.b3 z p n m new) v F
theorem R.kI {w:World}{I:bn}{ρ:af->Value->Prop}{z n m:Nat}{p:Place}{new:List af}{v:Value}{F:bn}(h:R w I ρ (.b3 z p n m new) v F):False:=by
 cases h with
 | ref J=>simp [af.isRef] at J
theorem js.hE {w:World}{I:bn}{ρ:af->Value->Prop}{x:af}{v:Value}{F:bn}(h:js w I ρ x v F) (J:∀ z p n m new,x≠.b3 z p n m new):R w I ρ x v F:=by
 cases h with
 | tree h=>exact h
 | b3=>exact absurd rfl (J _ _ _ _ _)
theorem js.tl {w:World}{I:bn}{ρ:af->Value->Prop}{z n m:Nat}{p:Place}{new:List af}{v:Value}{F:bn}(h:js w I ρ (.b3 z p n m new) v F):∃ bv e cX us news,Dk w I ρ z p n m new v F bv e cX us news:=by
 cases h with
 | tree h=>exact h.kI.elim
 | b3 h=>exact ⟨_,_,_,_,_,h⟩
theorem js.lt {w:World}{I:bn}{ρ:af->Value->Prop}{x:af}{v:Value}{F:bn}(h:js w I ρ x v F):∀ c,F c->c<w.heap.size:=by
 cases h with
 | tree h=>exact h.lt
 | b3 h=>exact λc aa=>(h.l5.lt c ((h.aP c).1 aa).1).2
theorem js.frame {w w':World}{I I':bn}{ρ ρ':af->Value->Prop}{x:af}{v:Value}{F:bn}(h:js w I ρ x v F)
  (bp:∀ c,I c->w'.heap[c]?=w.heap[c]?) (nL:∀ c,I c->I' c) (kX:∀ x v,ρ x v->ρ' x v)
  (dn:∀ z p n bv,ρ (.b3 z p n 0 []) bv->∀ c,bv.ownBlock=some c->w'.heap[c]?=w.heap[c]?)
  (bh:∀ c,F c->w'.heap[c]?=w.heap[c]?):js w' I' ρ' x v F:=by
 cases h with
 | tree h=>exact .tree (h.frame bp nL kX bh)
 | @b3 z n m p new v bv e cX us news F h =>
  have aF:=dn _ _ _ _ h.j4;refine .b3 ⟨kX _ _ h.j4,tq h.kD aF,tq h.l5 λc aa=>?_,h.ao,h.h1,λk x u J hu=>(h.av k x u J hu).frame bp nL kX λc aa=>aa.elim,h.aP⟩;by_cases pj:bv.ownBlock=some c
  ·exact aF c pj
  ·exact bh c ((h.aP c).2 ⟨aa,pj⟩)
theorem af.rC {z n m:Nat}{p:Place}{new:List af}{q:List Nat}{y:af}(h:(af.b3 z p n m new).at q=some y):q=[]/\y=.b3 z p n m new:=by
 cases q with
 | nil=>simp [af.at] at h; exact ⟨rfl,h.symm⟩
 | cons k q=>simp [af.at,af.kids] at h
structure cV (w:World) (I:bn) (T:Array Value) (g:aU) (Fs:Nat->bn):Prop where
 rel:∀ t x,g t=some x->∃ v,T[t]?=some v/\js w I (ed w T g) x v (Fs t)
 kk:∀ t,g t=none->∀ c,¬ Fs t c
 eT:∀ t c' c,Fs t c->Fs c' c->t=c'
 aD:∀ t c,Fs t c->¬ I c
 lt:∀ c,I c->c<w.heap.size
 pE:∀ t c' z p n m new cD cT b6 c7,g t=some (.b3 z p n m new)->g c'=some (.b3 cD p cT b6 c7)->t=c'
section
variable {w:World}{I:bn}{T:Array Value}{g:aU}{Fs:Nat->bn}
theorem cV.part (h:cV w I T g Fs) {p:Place}{y:af}(aE:b9 g p=some y) (ay:∀ z q n m new,y≠.b3 z q n m new):∃ v cG,ef w T p=some v/\R w I (ed w T g) y v cG/\(∀ c,cG c->Fs p.root c):=by
 unfold b9 at aE;cases J:g p.root with
 | none=>rw [J] at aE; cases aE
 | some x =>
  rw [J] at aE;obtain ⟨v,hv,bg⟩:=h.rel _ _ J;replace bg:=bg.hE (by
   rintro z q n m new rfl;exact ay _ _ _ _ _ (af.rC aE).2)
  obtain ⟨ib,cG,hw,dL,dt,_⟩:=R.focus p.path bg aE;exact ⟨ib,cG,by simp [ef,hv,hw],dL,dt⟩
theorem R.oV {ρ:af->Value->Prop}{z n:Nat}{cs:List af}{v:Value}{F:bn}(h:R w I ρ (.own z n cs) v F):∀ c,v.ownBlock=some c->F c:=by
 cases h with
 | own bd ao h1 av aV aF aP=>exact λc aa=>(aP c).2 (.inl aa)
 | ref J=>simp [af.isRef] at J
theorem R.mb {ρ:af->Value->Prop}{z n:Nat}{cs:List af}{v:Value}{F:bn}(h:R w I ρ (.own z n cs) v F) :
  ∃ a cap,v=.slice a n cap/\n<=cap/\cs.length=n * z/\(∀ ad,a=some ad->ad.off=0/\ad.spot=none)/\(0<n->a.isSome=true):=by
 cases h with
 | own bd ao h1 av aV aF aP =>
  obtain ⟨h1,ak⟩:=bd;rcases ak with ⟨rfl,rfl⟩ | ⟨b,cap,cur,rfl,_,_,aJ,_⟩
  ·exact ⟨none,0,rfl,Nat.le_refl _,by simp [ao,h1],by simp,by simp⟩
  ·exact ⟨_,cap,rfl,aJ,by simp [ao,h1],by rintro ad ⟨⟩; exact ⟨rfl,rfl⟩,by simp⟩
 | ref J=>simp [af.isRef] at J
theorem cV.vC (h:cV w I T g Fs) {w':World}{T':Array Value}(fv:∀ t,g t≠none->T'[t]?=T[t]?) (aP:∀ t c,Fs t c->w'.heap[c]?=w.heap[c]?) {p:Place}{y:af}(aE:b9 g p=some y) :
  ef w' T' p=ef w T p:=by
 unfold b9 at aE;cases J:g p.root with
 | none=>rw [J] at aE; cases aE
 | some x =>
  rw [J] at aE;obtain ⟨v,hv,bg⟩:=h.rel _ _ J;have iS:T'[p.root]?=some v:=by rw [fv _ (by rw [J]; simp),hv]
  cases bg with
  | tree bg =>
   have:=R.n2 (w':=w') p.path bg aE λc aa=>aP _ c aa;simp [ef,hv,iS,this]
  | b3 bg=>simp [ef,hv,iS,(af.rC aE).1,walk]
theorem kc {g g':aU}(aY:∀ t x,g t=some x->g' t=some x) {p:Place}{y:af}(aE:b9 g p=some y):b9 g' p=some y:=by
 unfold b9 at *;cases J:g p.root with
 | none=>rw [J] at aE; cases aE
 | some x=>rw [J] at aE; rw [aY _ _ J]; exact aE
theorem gS.mono {g g':aU}(aY:∀ t x,g t=some x->g' t=some x) {r:af}(h:gS g r):gS g' r:=by
 cases r <;> simp only [gS] at h ⊢
 case ptr p k=>obtain ⟨y,ay,h⟩:=h; exact ⟨y,kc aY ay,h⟩
 case bq z p n =>
  rcases h with ⟨N,cs,h1,ak⟩ | ⟨ba,q,hf,m,new,h1,ak⟩
  ·exact .inl ⟨N,cs,kc aY h1,ak⟩
  ·exact .inr ⟨ba,q,hf,m,new,aY _ _ h1,ak⟩
 case sub z p lo n=>obtain ⟨N,cs,h1,ak⟩:=h; exact ⟨N,cs,kc aY h1,ak⟩
 case b3 z p n m new =>
  rcases h with ⟨cs,h1⟩ | ⟨ba,q,hf,b6,c7,cs,h1,ak,aN⟩
  ·exact .inl ⟨cs,kc aY h1⟩
  ·exact .inr ⟨ba,q,hf,b6,c7,cs,aY _ _ h1,ak,kc aY aN⟩
 case iD p=>obtain ⟨q,h⟩:=h; exact ⟨q,kc aY h⟩
theorem cV.CR (h:cV w I T g Fs) {w':World}{T':Array Value}{g':aU}(fv:∀ t,g t≠none->T'[t]?=T[t]?) (aP:∀ t c,Fs t c->w'.heap[c]?=w.heap[c]?)
  (aY:∀ t x,g t=some x->g' t=some x) {r:af}{v:Value}(av:ed w T g r v):ed w' T' g' r v:=by
 obtain ⟨h1,ak⟩:=av;refine ⟨?_,ak.mono aY⟩;have slot:∀ {p:Place}{x:af},p.path=[]->g p.root=some x->ef w' T' p=ef w T p:=by
  intro p x aE J;obtain ⟨v,hv,_⟩:=h.rel _ _ J;simp [ef,aE,walk,fv p.root (by rw [J]; simp)]
 cases r <;> simp only [fT,gS] at h1 ak ⊢
 case ptr p k =>
  obtain ⟨y,ay,_⟩:=ak;rw [h.vC fv aP ay]; exact h1
 case bq z p n =>
  rcases ak with ⟨N,cs,ak,_⟩ | ⟨ba,q,hf,m,new,ak,_⟩
  ·rw [h.vC fv aP ak]; exact h1
  ·rw [slot ba ak]; exact h1
 case sub z p lo n =>
  obtain ⟨N,cs,ak,_⟩:=ak;rw [h.vC fv aP ak]; exact h1
 case b3 z p n m new =>
  rcases ak with ⟨cs,ak⟩ | ⟨ba,q,hf,b6,c7,cs,ak,_⟩
  ·rw [h.vC fv aP ak]; exact h1
  ·rw [slot ba ak]; exact h1
 case iD p =>
  obtain ⟨q,ak⟩:=ak;rw [h.vC fv aP ak]; exact h1
theorem cV.A_ (h:cV w I T g Fs) {z n:Nat}{p:Place}{bv:Value}(av:ed w T g (.b3 z p n 0 []) bv):∀ c,bv.ownBlock=some c->∃ t,Fs t c:=by
 obtain ⟨⟨a,cap,h1,rfl⟩,ak⟩:=av;intro c aa;have own:∀ {q:Place}{hf:Nat}{cs:List af}{v:Value},b9 g q=some (.own z hf cs)->ef w T q=some v->v.ownBlock=some c->∃ t,Fs t c:=by
  intro q hf cs v bK hv aa;obtain ⟨hA,cG,iS,bg,dt⟩:=h.part bK (by simp);rw [hv] at iS;cases iS;exact ⟨_,dt c (bg.oV c aa)⟩
 rcases ak with ⟨cs,ak⟩ | ⟨ba,q,hf,m,new,cs,ak,rfl,aN⟩
 ·exact own ak h1 aa
 ·obtain ⟨v,hv,bg⟩:=h.rel _ _ ak;have p':v=.slice a (hf+m) cap:=by
   simp only [ef,hv,ba,walk,Option.some.injEq] at h1;exact h1
  obtain ⟨H',e,cX,us,news,bg⟩:=bg.tl;by_cases cY:H'.ownBlock=some c
  ·obtain ⟨⟨a2,pS,bP,rfl⟩,_⟩:=bg.j4;exact own aN bP cY
  ·exact ⟨_,(bg.aP c).2 ⟨by rw [p']; exact aa,cY⟩⟩
theorem cV.frame (h:cV w I T g Fs) {w':World}{I':bn}{T':Array Value}{g':aU}(fv:∀ t,g t≠none->T'[t]?=T[t]?) (aP:∀ t c,Fs t c->w'.heap[c]?=w.heap[c]?)
  (bp:∀ c,I c->w'.heap[c]?=w.heap[c]?) (nL:∀ c,I c->I' c) (aY:∀ t x,g t=some x->g' t=some x) {x:af}{v:Value}{F:bn}(bg:R w I (ed w T g) x v F)
  (kB:∀ c,F c->w'.heap[c]?=w.heap[c]?):R w' I' (ed w' T' g') x v F :=
 bg.frame bp nL (λ_ _ av=>h.CR fv aP aY av) kB
theorem cV.uw (h:cV w I T g Fs) {w':World}{I':bn}{T':Array Value}{g':aU}(fv:∀ t,g t≠none->T'[t]?=T[t]?) (aP:∀ t c,Fs t c->w'.heap[c]?=w.heap[c]?)
  (bp:∀ c,I c->w'.heap[c]?=w.heap[c]?) (nL:∀ c,I c->I' c) (aY:∀ t x,g t=some x->g' t=some x) {x:af}{v:Value}{F:bn}(bg:js w I (ed w T g) x v F)
  (kB:∀ c,F c->w'.heap[c]?=w.heap[c]?):js w' I' (ed w' T' g') x v F :=
 bg.frame bp nL (λ_ _ av=>h.CR fv aP aY av) (λ_ _ _ _ av c aa=>by obtain ⟨t,aC⟩:=h.A_ av c aa; exact aP t c aC) kB
def eM (g:aU) (d:Nat) (x:af):aU:=λt=>if t=d then some x else g t
def sr (Fs:Nat->bn) (d:Nat) (F:bn):Nat->bn:=λt=>if t=d then F else Fs t
theorem Mm {d:Nat}{x:af}(aV:g d=none):∀ t y,g t=some y->eM g d x t=some y:=by
 intro t y ay;unfold eM;split
 ·rename_i h; subst h; rw [aV] at ay; cases ay
 ·exact ay
end
end Go.Own
namespace Go.Own
open Go
theorem Mq (w:World):∀ (p:List Nat) (v:Value) (k:Nat),walk w v (p++[k])=(walk w v p).bind λu=>child w u k
 | [],v,k=>by simp [walk]; cases child w v k <;> rfl
 | ae::p,v,k=>by
  simp only [List.cons_append,walk];cases child w v ae with
  | none=>rfl
  | some u=>exact Mq w p u k
theorem H6:∀ (p:List Nat) (x:af) (k:Nat),x.at (p++[k])=(x.at p).bind λy=>y.kids[k]?
 | [],x,k=>by simp [af.at]; cases x.kids[k]? <;> rfl
 | ae::p,x,k=>by
  simp only [List.cons_append,af.at];cases x.kids[ae]? with
  | none=>rfl
  | some u=>exact H6 p u k
theorem rB (g:aU) (p:Place) (k:Nat):b9 g (p.push k)=(b9 g p).bind λy=>y.kids[k]?:=by
 unfold b9 Place.push;cases g p.root with
 | none=>rfl
 | some x=>simp [H6]
theorem vB (w:World) (T:Array Value) (p:Place) (k:Nat):ef w T (p.push k)=(ef w T p).bind λu=>child w u k:=by
 unfold ef Place.push;cases T[p.root]? with
 | none=>rfl
 | some x=>simp [Mq]
def hX:Nat->Place->af->af
 | _,p,.own z n _=>.bq z p n
 | _,p,.obj (_::_)=>.ptr p 0
 | _,_,.obj []=>.dead
 | _,_,.b3 ..=>.dead
 | _,p,.mp _=>.iD p
 | d+1,p,.agg cs=>.agg (cs.mapIdx λi x=>hX d (p.push i) x)
 | d+1,p,.cr cs=>.cr (cs.mapIdx λi x=>hX d (p.push i) x)
 | 0,_,.agg _=>.dead
 | 0,_,.cr _=>.dead
 | _,_,x=>x
def ql (t:Nat):af->af
 | .b3 z _ n m _=>.bq z ⟨t,[]⟩ (n+m)
 | x=>hX 2 ⟨t,[]⟩ x
def nr:Value->af
 | .slice none 0 0=>.aO
 | .agg _=>.dead
 | .tuple _=>.dead
 | v=>.lit v
def ofConst:Value->af
 | .agg vs=>if vs.all Value.oneCell' then .agg (vs.toList.map nr) else .dead
 | .tuple _=>.dead
 | v=>nr v
def bI (g:aU):Operand->Option af
 | .tmp t=>(g t).map (ql t)
 | .const v=>some (ofConst v)
 | .func f=>some (.ea (.func f) [] [])
 | .global _=>none
abbrev cR:bn:=λ_=>False
section
variable {w:World}{I:bn}{T:Array Value}{g:aU}{Fs:Nat->bn}
theorem R.empty {ρ:af->Value->Prop}{x:af}{v:Value}{F:bn}(h:R w I ρ x v F) (aP:∀ c,¬ F c):R w I ρ x v cR:=h.wo λc=>⟨λaa=>aP c aa,λaa=>aa.elim⟩
theorem CQ:∀ (d:Nat) {p:Place}{x:af}{v:Value}{F:bn},b9 g p=some x->ef w T p=some v->R w I (ed w T g) x v F->R w I (ed w T g) (hX d p x) v cR:=by
 intro d
 induction d with
 | zero =>
  intro p x v F aE hv bg;cases bg with
  | lit ao aP=>exact .lit ao λ_ h=>h
  | aO aP=>exact .aO λ_ h=>h
  | dead aP=>exact .dead λ_ h=>h
  | ref J av aP=>cases x <;> simp [af.isRef] at J <;> exact .ref rfl av λ_ h=>h
  | mp=>exact .ref rfl ⟨⟨_,hv,rfl⟩,⟨_,aE⟩⟩ λ_ h=>h
  | imp aP bp bd bK=>exact .imp (λ_ h=>h) bp bd bK
  | hz aP=>exact .hz λ_ h=>h
  | aD aP kC bp aL ao h1 aa av=>exact .aD (λ_ h=>h) kC bp aL ao h1 aa av
  | bs aP bp aL h1 aa av=>exact .bs (λ_ h=>h) bp aL h1 aa av
  | own bd ao h1 av aV aF aP =>
   have Fq:=R.own (I:=I) (ρ:=ed w T g) bd ao h1 av aV aF aP;obtain ⟨a,cap,rfl,aJ,_⟩:=Fq.mb;exact .ref rfl ⟨⟨a,_,cap,hv,rfl,Nat.le_refl _⟩,.inl ⟨_,_,aE,Nat.le_refl _⟩⟩ λ_ h=>h
  | @obj cs b e arr cn _ bd ao h1 av aV aF aP =>
   cases cs with
   | nil=>exact .dead λ_ h=>h
   | cons c cs=>exact .ref rfl ⟨⟨_,_,hv,rfl,rfl⟩,⟨_,aE,0,0,_,.inr rfl,by simp⟩⟩ λ_ h=>h
  | agg=>exact .dead λ_ h=>h
  | cr=>exact .dead λ_ h=>h
  | ea aP h1 ak jI ik=>exact .ea (λ_ h=>h) h1 ak jI ik
 | succ d aS =>
  intro p x v F aE hv bg;cases bg with
  | lit ao aP=>exact .lit ao λ_ h=>h
  | aO aP=>exact .aO λ_ h=>h
  | dead aP=>exact .dead λ_ h=>h
  | ref J av aP=>cases x <;> simp [af.isRef] at J <;> exact .ref rfl av λ_ h=>h
  | mp=>exact .ref rfl ⟨⟨_,hv,rfl⟩,⟨_,aE⟩⟩ λ_ h=>h
  | imp aP bp bd bK=>exact .imp (λ_ h=>h) bp bd bK
  | hz aP=>exact .hz λ_ h=>h
  | aD aP kC bp aL ao h1 aa av=>exact .aD (λ_ h=>h) kC bp aL ao h1 aa av
  | bs aP bp aL h1 aa av=>exact .bs (λ_ h=>h) bp aL h1 aa av
  | own bd ao h1 av aV aF aP =>
   have Fq:=R.own (I:=I) (ρ:=ed w T g) bd ao h1 av aV aF aP;obtain ⟨a,cap,rfl,aJ,_⟩:=Fq.mb;exact .ref rfl ⟨⟨a,_,cap,hv,rfl,Nat.le_refl _⟩,.inl ⟨_,_,aE,Nat.le_refl _⟩⟩ λ_ h=>h
  | @obj cs b e arr cn _ bd ao h1 av aV aF aP =>
   cases cs with
   | nil=>exact .dead λ_ h=>h
   | cons c cs=>exact .ref rfl ⟨⟨_,_,hv,rfl,rfl⟩,⟨_,aE,0,0,_,.inr rfl,by simp⟩⟩ λ_ h=>h
  | @agg cs vs cn _ ao h1 av aV aP =>
   refine .agg (Fs:=λ_=>cR) (by simpa using ao) h1 ?_ (λ_ _ _ _ _ h=>h.elim) (λc=>⟨λh=>h.elim,λ⟨_,_,h⟩=>h⟩);intro k y u ay hu;rw [List.getElem?_mapIdx] at ay;cases hk:cs[k]? with
   | none=>rw [hk] at ay; cases ay
   | some z =>
    rw [hk] at ay;cases ay;exact aS (by rw [rB,aE]; exact hk) (by rw [vB,hv]; exact hu) (av k z u hk hu)
  | @cr cs vs cn _ ao av aV aP =>
   refine .cr (Fs:=λ_=>cR) (by simpa using ao) ?_ (λ_ _ _ _ _ h=>h.elim) (λc=>⟨λh=>h.elim,λ⟨_,_,h⟩=>h⟩);intro k y u ay hu;rw [List.getElem?_mapIdx] at ay;cases hk:cs[k]? with
   | none=>rw [hk] at ay; cases ay
   | some z =>
    rw [hk] at ay;cases ay;exact aS (by rw [rB,aE]; exact hk) (by rw [vB,hv]; exact hu) (av k z u hk hu)
  | ea aP h1 ak jI ik=>exact .ea (λ_ h=>h) h1 ak jI ik
theorem zK {ρ:af->Value->Prop}(v:Value):R w I ρ (nr v) v cR:=by
 unfold nr;split
 ·exact .aO λ_ h=>h
 ·exact .dead λ_ h=>h
 ·exact .dead λ_ h=>h
 ·rename_i h1 ak aN;refine .lit ?_ λ_ h=>h;cases v <;> first | rfl | (exact absurd rfl (ak _)) | (exact absurd rfl (aN _))
theorem Ti {ρ:af->Value->Prop}(v:Value):R w I ρ (ofConst v) v cR:=by
 unfold ofConst;split
 ·rename_i vs;split
  ·rename_i gU;refine .agg (Fs:=λ_=>cR) (by simp) (λk u hu=>?_) ?_ (λ_ _ _ _ _ h=>h.elim) (λc=>⟨λh=>h.elim,λ⟨_,_,h⟩=>h⟩)
   ·exact Array.all_eq_true_iff_forall_mem.1 gU u (Array.mem_of_getElem? hu)
   ·intro k x u J hu;simp only [List.getElem?_map,Array.getElem?_toList,hu,Option.map_some,Option.some.injEq] at J;subst J;exact zK u
  ·exact .dead λ_ h=>h
 ·exact .dead λ_ h=>h
 ·exact zK v
theorem kK (h:cV w I T g Fs) {x:Operand}{y:af}(ay:bI g x=some y) {a:Act}(bf:a.tmps=T):R w I (ed w T g) y (a.eval x) cR:=by
 cases x with
 | tmp t =>
  simp only [bI] at ay;cases J:g t with
  | none=>rw [J] at ay; cases ay
  | some z =>
   rw [J] at ay;simp only [Option.map_some,Option.some.injEq] at ay;obtain ⟨v,hv,bg⟩:=h.rel t z J;have jf:a.eval (.tmp t)=v:=by simp [Act.eval,bf,hv]
   rw [jf];have aE:b9 g ⟨t,[]⟩=some z:=by simp [b9,J,af.at]
   have Kz:ef w T ⟨t,[]⟩=some v:=by simp [ef,hv,walk]
   subst ay;cases bg with
   | tree bg =>
    cases z with
    | b3=>exact bg.kI.elim
    | _=>exact CQ 2 aE Kz bg
   | @b3 iH n m p new v bv e cX us news _ bg =>
    simp only [ql];have:∃ a cap,v=.slice a (n+m) cap:=by
     obtain ⟨_,ak⟩:=bg.l5;rcases ak with ⟨ak,aN⟩ | ⟨b,cap,cur,ak,_⟩
     ·exact ⟨none,0,by rw [ak]; congr 1; omega⟩
     ·exact ⟨_,cap,ak⟩
    obtain ⟨cx,cap,rfl⟩:=this;exact .ref rfl ⟨⟨cx,_,cap,Kz,rfl,Nat.le_refl _⟩,.inr ⟨rfl,p,n,m,new,J,rfl⟩⟩ λ_ h=>h
 | const v=>simp only [bI,Option.some.injEq] at ay; subst ay; exact Ti v
 | global n=>simp [bI] at ay
 | func f =>
  simp only [bI,Option.some.injEq] at ay;subst ay;exact .ea (λ_ h=>h) rfl rfl (by simp) (by simp)
end
end Go.Own
namespace Go.Own
open Go
def hh (P:Program) (t:TypeId):Bool :=
 match P.underlying t,P.info? t with
 | some (.struct _),_=>false
 | some (.array ..),_=>false
 | some _,some i=>i.size == 1
 | _,_=>false
def iM (P:Program) (t:TypeId) (k:Nat):Bool :=
 match P.underlying t,P.info? t with
 | some (.struct _),some i=>i.size == k
 | some (.array ..),some i=>i.size == k
 | _,_=>false
def e' (P:Program) (t e:TypeId) (z:Nat):Bool :=
 match P.underlying t,P.info? e with
 | some (.slice cO),some i=>cO == e&&i.size == z
 | _,_=>false
def A5 (P:Program) (t e:TypeId) (n z:Nat):Bool :=
 match P.underlying t,P.info? e with
 | some (.array cT cO),some i=>cT == n&&cO == e&&i.size == z
 | _,_=>false
def pJ (P:Program) (t:TypeId):Bool :=
 match P.underlying t with
 | some .string=>true
 | _=>false
def tY (P:Program) (s d:TypeId):Bool :=
 match P.underlying s,P.underlying d with
 | some (.slice e),some .string=>match P.underlying e with
  | some (.int .u8)=>true
  | _=>false
 | _,_=>false
def dm (P:Program) (s:TypeId) (f off:Nat) (t:TypeId):Bool :=
 match P.underlying s with
 | some (.struct fs) =>
  match fs[f]? with
  | some fd=>fd.offset == off&&fd.type == t&&(match P.info? t with | some i=>i.size != 0 | none=>false)
  | none=>false
 | _=>false
section
variable {P:Program}{w:World}
theorem DM {t:TypeId}(h:hh P t=true):(isAgg t).run P w=.ok false w/\(sizeOf t).run P w=.ok 1 w:=by
 unfold hh at h;cases hu:P.underlying t with
 | none=>simp [hu] at h
 | some d =>
  cases hi:P.info? t with
  | none=>cases d <;> simp [hu,hi] at h
  | some i=>cases d <;> simp [hu,hi] at h <;> simp [isAgg,run_underlying hu,sizeOf,typeInfo,hi,h]
theorem A2 {t:TypeId}{k:Nat}(h:iM P t k=true):(isAgg t).run P w=.ok true w/\(sizeOf t).run P w=.ok k w:=by
 unfold iM at h;cases hu:P.underlying t with
 | none=>simp [hu] at h
 | some d =>
  cases hi:P.info? t with
  | none=>cases d <;> simp [hu,hi] at h
  | some i=>cases d <;> simp [hu,hi] at h <;> simp [isAgg,run_underlying hu,sizeOf,typeInfo,hi,h]
theorem oZ {t e:TypeId}{z:Nat}(h:e' P t e z=true):P.underlying t=some (.slice e)/\P.elem t=e/\(sizeOf e).run P w=.ok z w:=by
 unfold e' at h;cases hu:P.underlying t with
 | none=>simp [hu] at h
 | some d =>
  cases hi:P.info? e with
  | none=>cases d <;> simp [hu,hi] at h
  | some i =>
   cases d <;> simp [hu,hi] at h;obtain ⟨rfl,h⟩:=h;exact ⟨rfl,by simp [Program.elem,hu],by simp [sizeOf,typeInfo,hi,h]⟩
theorem HW {t e:TypeId}{n z:Nat}(h:A5 P t e n z=true):P.underlying t=some (.array n e)/\(sizeOf e).run P w=.ok z w:=by
 unfold A5 at h;cases hu:P.underlying t with
 | none=>simp [hu] at h
 | some d =>
  cases hi:P.info? e with
  | none=>cases d <;> simp [hu,hi] at h
  | some i =>
   cases d <;> simp [hu,hi] at h;obtain ⟨⟨rfl,rfl⟩,h⟩:=h;exact ⟨rfl,by simp [sizeOf,typeInfo,hi,h]⟩
theorem Ib {s d:TypeId}(h:tY P s d=true):∃ e,P.underlying s=some (.slice e)/\P.underlying e=some (.int .u8)/\P.underlying d=some .string:=by
 unfold tY at h
 split at h
 ·rename_i e h1 ak
  split at h
  ·rename_i aN;exact ⟨e,h1,aN,ak⟩
  ·cases h
 ·cases h
theorem GZ {t:TypeId}(h:pJ P t=true):P.underlying t=some .string:=by
 unfold pJ at h;cases hu:P.underlying t with
 | none=>simp [hu] at h
 | some d=>cases d <;> simp [hu] at h; rfl
theorem Ed {s:TypeId}{f off:Nat}{t:TypeId}(h:dm P s f off t=true):∃ fs fd,P.underlying s=some (.struct fs)/\fs[f]?=some fd/\fd.offset=off/\fd.type=t/\∃ i,P.info? t=some i/\i.size≠0:=by
 unfold dm at h;cases hu:P.underlying s with
 | none=>simp [hu] at h
 | some d =>
  cases d <;> simp [hu] at h;rename_i fs;cases bh:fs[f]? with
  | none=>simp [bh] at h
  | some fd =>
   simp [bh] at h;obtain ⟨⟨h1,ak⟩,aN⟩:=h;cases hi:P.info? t with
   | none=>simp [hi] at aN
   | some i=>simp [hi] at aN; exact ⟨fs,fd,rfl,bh,h1,ak,i,rfl,aN⟩
theorem add_eq (b o k:Nat):(⟨b,o,none⟩:Addr).add k=⟨b,o+k,none⟩:=by
 unfold Addr.add;split
 ·rename_i h; subst h; rfl
 ·rfl
theorem LC {s:TypeId}{f off:Nat}{t:TypeId}(h:dm P s f off t=true) (b o:Nat):(Instr.fieldAt s (.pointer (some ⟨b,o,none⟩)) f).run P w=.ok (.pointer (some ⟨b,o+off,none⟩)) w:=by
 obtain ⟨fs,fd,hu,bh,rfl,rfl,i,hi,ba⟩:=Ed h;simp [Instr.fieldAt,run_underlying hu,bh,Instr.sureAddr,fieldPlace,sizeOf,typeInfo,hi,ba,add_eq]
theorem LF {t:TypeId}(h:hh P t=true) {a:Addr}{v:Value}(aa:w.cell? a=some v):(Instr.loadAt t (.pointer (some a))).run P w=.ok v w:=by
 obtain ⟨h1,ak⟩:=DM (w:=w) h;simp [Instr.loadAt,Instr.sureAddr,loadVar,h1,aa]
theorem LD {t:TypeId}{k:Nat}(h:iM P t k=true) {b o:Nat}{vs:List Value}(ao:vs.length=k) (aa:∀ ae v,vs[ae]?=some v->w.cell? ⟨b,o+ae,none⟩=some v) :
  (Instr.loadAt t (.pointer (some ⟨b,o,none⟩))).run P w=.ok (.agg vs.toArray) w:=by
 obtain ⟨h1,ak⟩:=A2 (w:=w) h;have:=run_loadCells_list (P:=P) w ⟨b,o,none⟩ vs (λae v ab=>by rw [add_eq]; exact aa ae v ab);rw [ao] at this;simp [Instr.loadAt,Instr.sureAddr,loadVar,h1,ak,this]
end
end Go.Own
namespace Go.Own
open Go
section
variable {w:World}{I:bn}{ρ:af->Value->Prop}{v:Value}{F:bn}
theorem R.hV {a:Value}(h:R w I ρ (.lit a) v F):v=a/\a.oneCell'=true:=by
 cases h with
 | lit hv=>exact ⟨rfl,hv⟩
 | ref J=>simp [af.isRef] at J
theorem R.qe (h:R w I ρ .aO v F):v=.slice none 0 0:=by
 cases h with
 | aO=>rfl
 | ref J=>simp [af.isRef] at J
theorem R.mz {p:Place}{k:Nat}(h:R w I ρ (.ptr p k) v F):ρ (.ptr p k) v:=by
 cases h with
 | ref J h=>exact h
theorem R.l_ {z:Nat}{p:Place}{n:Nat}(h:R w I ρ (.bq z p n) v F):ρ (.bq z p n) v:=by
 cases h with
 | ref J h=>exact h
theorem R.uW {z:Nat}{p:Place}{lo n:Nat}(h:R w I ρ (.sub z p lo n) v F):ρ (.sub z p lo n) v:=by
 cases h with
 | ref J h=>exact h
theorem R.w0 {z n:Nat}{cs:List af}(h:R w I ρ (.aD z n cs) v F):∃ a cap,v=.slice a n cap/\n<=cap/\cs.length=n * z /\
  (cs≠[]\/0<n->∃ (ad:Addr) (us:Nat->Value),a=some ad/\I ad.block/\ad.spot=none/\(∀ (k:Nat) (x:af),cs[k]?=some x->(us k).oneCell'=true)/\(∀ (k:Nat) (x:af),cs[k]?=some x->w.cell? ⟨ad.block,ad.off+k,none⟩=some (us k))/\∀ (k:Nat) (x:af),cs[k]?=some x->R w I ρ x (us k) cR):=by
 cases h with
 | @hz _ cap a=>exact ⟨a,cap,rfl,Nat.zero_le _,by simp,λh=>by simp at h⟩
 | @aD _ _ cap _ ad us _ aP kC bp aL ao h1 aa av=>exact ⟨_,cap,rfl,kC,ao,λ_=>⟨ad,us,rfl,bp,aL,h1,aa,av⟩⟩
 | ref J=>simp [af.isRef] at J
theorem R.uV {cs:List af}(h:R w I ρ (.bs cs) v F):∃ (ad:Addr) (us:Nat->Value),v=.pointer (some ad)/\I ad.block/\ad.spot=none/\(∀ (k:Nat) (x:af),cs[k]?=some x->(us k).oneCell'=true)/\(∀ (k:Nat) (x:af),cs[k]?=some x->w.cell? ⟨ad.block,ad.off+k,none⟩=some (us k))/\∀ (k:Nat) (x:af),cs[k]?=some x->R w I ρ x (us k) cR:=by
 cases h with
 | @bs _ ad us _ aP bp aL h1 aa av=>exact ⟨ad,us,rfl,bp,aL,h1,aa,av⟩
 | ref J=>simp [af.isRef] at J
theorem R.zm {cs:List af}(h:R w I ρ (.agg cs) v F) (aP:∀ c,¬ F c):∃ vs:Array Value,v=.agg vs/\cs.length=vs.size/\(∀ (k:Nat) (u:Value),vs[k]?=some u->u.oneCell'=true)/\∀ (k:Nat) (x:af) (u:Value),cs[k]?=some x->vs[k]?=some u->R w I ρ x u cR:=by
 cases h with
 | @agg _ vs Fs _ ao h1 av aV nK=>exact ⟨vs,rfl,ao,h1,λk x u J hu=>(av k x u J hu).empty λc aa=>aP c ((nK c).2 ⟨k,(List.getElem?_eq_some_iff.1 J).1,aa⟩)⟩
 | ref J=>simp [af.isRef] at J
theorem R.SX {cs:List af}(h:R w I ρ (.cr cs) v F) (aP:∀ c,¬ F c):∃ vs:Array Value,v=.tuple vs/\cs.length=vs.size/\∀ (k:Nat) (x:af) (u:Value),cs[k]?=some x->vs[k]?=some u->R w I ρ x u cR:=by
 cases h with
 | @cr _ vs Fs _ ao av aV nK=>exact ⟨vs,rfl,ao,λk x u J hu=>(av k x u J hu).empty λc aa=>aP c ((nK c).2 ⟨k,(List.getElem?_eq_some_iff.1 J).1,aa⟩)⟩
 | ref J=>simp [af.isRef] at J
theorem R.node {y:af}{z n:Nat}{cs:List af}(h:R w I ρ y v F) (ay:y=.own z n cs\/y=.obj cs) {k:Nat}{x:af}(hk:cs[k]?=some x) :
  ∃ b u,addrOf v=some ⟨b,0,none⟩/\w.cell? ⟨b,k,none⟩=some u/\child w v k=some u/\u.oneCell'=true/\∃ bZ,R w I ρ x u bZ:=by
 rcases ay with rfl | rfl
 ·cases h with
  | @own _ _ _ _ e us Fs _ bd ao h1 av aV aF aP =>
   have a8:k<cs.length:=(List.getElem?_eq_some_iff.1 hk).1;have hu:us[k]?=some us[k]:=List.getElem?_eq_getElem (ao ▸ a8);have lA:=ns bd hu;obtain ⟨l8,ak⟩:=bd;rcases ak with ⟨rfl,rfl⟩ | ⟨b,cap,cur,rfl,aY,b_,rest⟩
   ·simp at l8; rw [l8] at ao; simp at ao; subst ao; simp at a8
   ·exact ⟨b,_,rfl,by simpa [child] using lA,lA,h1 k _ hu,Fs k,av k x _ hk hu⟩
  | ref J=>simp [af.isRef] at J
 ·cases h with
  | @obj _ b e arr Fs _ bd ao h1 av aV aF aP =>
   have a8:k<cs.length:=(List.getElem?_eq_some_iff.1 hk).1;have hu:arr[k]?=some arr[k]:=Array.getElem?_eq_getElem (ao ▸ a8);exact ⟨b,_,rfl,by simp [World.cell?,bd,hu],by simp [child,World.cell?,bd,hu],h1 k _ hu,Fs k,av k x _ hk hu⟩
  | ref J=>simp [af.isRef] at J
end
def n3 (g:aU) (d:Nat):Option Operand->Nat->Prop
 | none,ae=>ae=d
 | some o,ae=>∃ k,bI g o=some (.lit (.int k (ae:Int)))
inductive da (P:Program) (g:aU):Op->TypeId->af->Prop
 | move {x:Operand}{ty:TypeId}{y:af}(J:bI g x=some y):da P g (.move x) ty y
 | assign {x:Operand}{ty:TypeId}{y:af}(J:bI g x=some y):da P g (.assign x) ty y
 | pick {c a b:Operand}{ty:TypeId}{t:Bool}{r:af}(aa:bI g c=some (.lit (.bool t))) (av:bI g (if t then a else b)=some r):da P g (.pick c a b) ty r
 | Cx {x:Operand}{ty:TypeId}{p:Place}{k:Nat}(J:bI g x=some (.ptr p k)):da P g (.nilCheck x) ty (.ptr p k)
 | oT {x:Operand}{ty:TypeId}{cs:List af}(J:bI g x=some (.bs cs)):da P g (.nilCheck x) ty (.bs cs)
 | yB {x:Operand}{ty s t:TypeId}{f off:Nat}{p:Place}{k:Nat}(J:bI g x=some (.ptr p k)) (bh:dm P s f off t=true) (eA:gS g (.ptr p (k+off))):da P g (.fieldAddr s x f) ty (.ptr p (k+off))
 | BH {x:Operand}{ty s t:TypeId}{f off:Nat}{cs:List af}(J:bI g x=some (.bs cs)) (bh:dm P s f off t=true):da P g (.fieldAddr s x f) ty (.bs (cs.drop off))
 | BG {x:Operand}{ty s t:TypeId}{f off:Nat}{cs:List af}{y:af}(J:bI g x=some (.agg cs)) (bh:dm P s f off t=true) (aC:hh P t=true) (ay:cs[off]?=some y):da P g (.field s x f) ty y
 | Ec {x:Operand}{ty s t:TypeId}{f off k:Nat}{cs:List af}(J:bI g x=some (.agg cs)) (bh:dm P s f off t=true) (aC:iM P t k=true) (hk:off+k<=cs.length):da P g (.field s x f) ty (.agg ((cs.drop off).take k))
 | Cj {x i:Operand}{ty t e:TypeId}{z n:Nat}{cs:List af}{mA:IntKind}{ae:Nat}(J:bI g x=some (.aD z n cs)) (hi:bI g i=some (.lit (.int mA (ae:Int)))) (aC:e' P t e z=true) (ab:ae<n):da P g (.indexAddr t x i) ty (.bs (cs.drop (ae * z)))
 | Ci {x i:Operand}{ty t e:TypeId}{z n:Nat}{p:Place}{mA:IntKind}{ae:Nat}(J:bI g x=some (.bq z p n)) (hi:bI g i=some (.lit (.int mA (ae:Int)))) (aC:e' P t e z=true) (ab:ae<n) (eA:gS g (.ptr p (ae * z))):da P g (.indexAddr t x i) ty (.ptr p (ae * z))
 | FV {x i:Operand}{ty t e:TypeId}{z lo n:Nat}{p:Place}{mA:IntKind}{ae:Nat}(J:bI g x=some (.sub z p lo n)) (hi:bI g i=some (.lit (.int mA (ae:Int)))) (aC:e' P t e z=true) (ab:ae<n) (eA:gS g (.ptr p ((lo+ae) * z))):da P g (.indexAddr t x i) ty (.ptr p ((lo+ae) * z))
 | FU {x i:Operand}{ty t e:TypeId}{n z k:Nat}{p:Place}{mA:IntKind}{ae:Nat}(J:bI g x=some (.ptr p k)) (hi:bI g i=some (.lit (.int mA (ae:Int)))) (aC:A5 P t e n z=true) (ab:ae<n) (eA:gS g (.ptr p (k+ae * z))):da P g (.indexAddr t x i) ty (.ptr p (k+ae * z))
 | FT {x i:Operand}{ty t e:TypeId}{n z:Nat}{cs:List af}{mA:IntKind}{ae:Nat}(J:bI g x=some (.bs cs)) (hi:bI g i=some (.lit (.int mA (ae:Int)))) (aC:A5 P t e n z=true) (ab:ae<n):da P g (.indexAddr t x i) ty (.bs (cs.drop (ae * z)))
 | Ct {x:Operand}{ty t:TypeId}{c:af}{cs:List af}(J:bI g x=some (.bs (c::cs))) (aC:hh P t=true):da P g (.load t x) ty c
 | Cu {x:Operand}{ty t:TypeId}{k:Nat}{cs:List af}(J:bI g x=some (.bs cs)) (aC:iM P t k=true) (hk:k<=cs.length):da P g (.load t x) ty (.agg (cs.take k))
 | zx {x:Operand}{ty t:TypeId}{p:Place}{k:Nat}{y:af}(J:bI g x=some (.ptr p k)) (aC:hh P t=true) (ay:b9 g (p.push k)=some y):da P g (.load t x) ty (hX 0 (p.push k) y)
 | w4 {x:Operand}{ty t:TypeId}{p:Place}{k m z n:Nat}{y:af}{cs:List af}(J:bI g x=some (.ptr p k)) (aC:iM P t m=true) (ay:b9 g p=some y) (aa:y=.own z n cs\/y=.obj cs) (hm:k+m<=cs.length):da P g (.load t x) ty (.agg (((cs.drop k).take m).mapIdx λi x=>hX 0 (p.push (k+i)) x))
 | Ck {x i:Operand}{ty t:TypeId}{s:ByteArray}{mA:IntKind}{ae:Nat}{b:UInt8}(J:bI g x=some (.lit (.string s))) (hi:bI g i=some (.lit (.int mA (ae:Int)))) (aC:pJ P t=true) (aF:s[ae]?=some b):da P g (.index t x i) ty (.lit (.int .u8 b.toNat))
 | bin {op:BinOp}{x y:Operand}{ty t t2:TypeId}{a b v:Value}(J:bI g x=some (.lit a)) (ay:bI g y=some (.lit b)) (hv:v.oneCell'=true) (av:∀ w,(do eqGuard op t x y a b; binOp op t a b:Sem Value).run P w=.ok v w):da P g (.binOp op t x y t2) ty (.lit v)
 | x8 {op:BinOp}{x y:Operand}{ty t t2:TypeId}{dq dI:List Value}{v:Value}(J:bI g x=some (.agg (dq.map .lit))) (ay:bI g y=some (.agg (dI.map .lit))) (hv:v.oneCell'=true) (av:∀ w,(do eqGuard op t x y (.agg dq.toArray) (.agg dI.toArray); binOp op t (.agg dq.toArray) (.agg dI.toArray):Sem Value).run P w=.ok v w):da P g (.binOp op t x y t2) ty (.lit v)
 | un {op:UnOp}{x:Operand}{ty t:TypeId}{a v:Value}(J:bI g x=some (.lit a)) (hv:v.oneCell'=true) (av:∀ w,(Op.unary op a).run P w=.ok v w):da P g (.unOp op t x) ty (.lit v)
 | conv {x:Operand}{ty s d:TypeId}{a v:Value}(J:bI g x=some (.lit a)) (hv:v.oneCell'=true) (av:∀ w,(convert s d a).run P w=.ok v w):da P g (.convert s d x) ty (.lit v)
 | Bo {x:Operand}{ty s d:TypeId}{n N:Nat}{p:Place}{cs:List af}{xs:List Int}(J:bI g x=some (.bq 1 p n)) (aE:b9 g p=some (.own 1 N cs)) (aJ:n<=N) (hy:cs.take n=xs.map λb=>.lit (.int .u8 b)) (aC:tY P s d=true):da P g (.convert s d x) ty (.lit (.string (strOfNums xs)))
 | Bp {x:Operand}{ty s d:TypeId}{n:Nat}{xs:List Int}(J:bI g x=some (.aD 1 n (xs.map λb=>.lit (.int .u8 b)))) (aC:tY P s d=true):da P g (.convert s d x) ty (.lit (.string (strOfNums xs)))
 | D8 {xs:Array Operand}{ia:Array TypeId}{ty:TypeId}{f:FuncId}{vs:List Value}{v:Value}(J:xs.toList.map (bI g)=vs.map λv=>some (.lit v)) (hv:v.oneCell'=true)
   (av:∀ w,(callFunc f vs.toArray).run P w=.ok (.value v) w):da P g (.call { callee:=.value (.func f),args:=xs,argTypes:=ia }) ty (.lit v)
 | Bu {x:Operand}{ty:TypeId}{i:Nat}{cs:List af}{y:af}(J:bI g x=some (.cr cs)) (ay:cs[i]?=some y):da P g (.extract x i) ty y
 | Av {x:Operand}{lo hi:Option Operand}{ty t e:TypeId}{z n l h:Nat}{cs:List af}(J:bI g x=some (.aD z n cs)) (ao:n3 g 0 lo l) (b_:n3 g n hi h) (aC:e' P t e z=true) (qS:l<=h) (aJ:h<=n):da P g (.slice t x lo hi none) ty (.aD z (h - l) ((cs.drop (l * z)).take ((h - l) * z)))
 | C0 {x:Operand}{lo hi:Option Operand}{ty t e:TypeId}{z n h:Nat}{p:Place}(J:bI g x=some (.bq z p n)) (ao:n3 g 0 lo 0) (b_:n3 g n hi h) (aC:e' P t e z=true) (aJ:h<=n) (eA:gS g (.bq z p h)):da P g (.slice t x lo hi none) ty (.bq z p h)
 | CZ {x:Operand}{lo hi:Option Operand}{ty t e:TypeId}{z n l h:Nat}{p:Place}(J:bI g x=some (.bq z p n)) (ao:n3 g 0 lo l) (b_:n3 g n hi h) (aC:e' P t e z=true) (qS:l<=h) (aJ:h<=n) (eA:gS g (.sub z p l (h - l))):da P g (.slice t x lo hi none) ty (.sub z p l (h - l))
 | C1 {x:Operand}{lo hi:Option Operand}{ty t:TypeId}{l h:Nat}{s:ByteArray}(J:bI g x=some (.lit (.string s))) (ao:n3 g 0 lo l) (b_:n3 g s.size hi h) (aC:pJ P t=true) (qS:l<=h) (aJ:h<=s.size):da P g (.slice t x lo hi none) ty (.lit (.string (s.extract l h)))
 | zv {x:Operand}{ty t e:TypeId}{z cD n:Nat}{cs:List af}(J:bI g x=some (.aD z n cs)) (aC:e' P t e cD=true):da P g (.call { callee:=.builtin .len,args:=#[x],argTypes:=#[t] }) ty (.lit (.int .i64 n))
 | zu {x:Operand}{ty t e:TypeId}{z cD n:Nat}{p:Place}(J:bI g x=some (.bq z p n)) (aC:e' P t e cD=true):da P g (.call { callee:=.builtin .len,args:=#[x],argTypes:=#[t] }) ty (.lit (.int .i64 n))
 | Ga {x:Operand}{ty t e:TypeId}{z cD lo n:Nat}{p:Place}(J:bI g x=some (.sub z p lo n)) (aC:e' P t e cD=true):da P g (.call { callee:=.builtin .len,args:=#[x],argTypes:=#[t] }) ty (.lit (.int .i64 n))
 | F' {x:Operand}{ty t e:TypeId}{cD:Nat}(J:bI g x=some .aO) (aC:e' P t e cD=true):da P g (.call { callee:=.builtin .len,args:=#[x],argTypes:=#[t] }) ty (.lit (.int .i64 0))
 | lits {b:Builtin}{xs:Array Operand}{ia:Array TypeId}{ty:TypeId}{vs:List Value}{v:Value}(J:xs.toList.map (bI g)=vs.map λv=>some (.lit v)) (hv:v.oneCell'=true)
   (av:∀ w (cs:Array Bool),(builtin b ia ty cs vs.toArray).run P w=.ok (.value v) w):da P g (.call { callee:=.builtin b,args:=xs,argTypes:=ia }) ty (.lit v)
 | Gb {x y:Operand}{ty t:TypeId}{p:Place}{q:Array MapEntry->Nat->Prop}{ok:Bool}{Y X:af}{oR V:Value}(J:bI g x=some (.iD p)) (aE:b9 g p=some (.mp q)) (ay:bI g y=some Y)
   (ep:∀ (w:World) (I:bn) (ρ:af->Value->Prop) (v:Value),R w I ρ Y v cR->v=oR) (bg:∀ (w:World) (I:bn) (ρ:af->Value->Prop),R w I ρ X V cR)
   (av:∀ (w:World) (b:Nat) (es:Array MapEntry) (clock:Nat),w.heap[b]?=some (.map es clock)->q es clock->(Instr.lookup t (.map (some b)) oR ok).run P w=.ok V w):da P g (.lookup t x y ok) ty X
 | zw {x y:Operand}{ty t:TypeId}{q:Array MapEntry->Nat->Prop}{ok:Bool}{Y X:af}{oR V:Value}(J:bI g x=some (.imp q)) (ay:bI g y=some Y)
   (ep:∀ (w:World) (I:bn) (ρ:af->Value->Prop) (v:Value),R w I ρ Y v cR->v=oR) (bg:∀ (w:World) (I:bn) (ρ:af->Value->Prop),R w I ρ X V cR)
   (av:∀ (w:World) (b:Nat) (es:Array MapEntry) (clock:Nat),w.heap[b]?=some (.map es clock)->q es clock->(Instr.lookup t (.map (some b)) oR ok).run P w=.ok V w):da P g (.lookup t x y ok) ty X
theorem R.SV {w:World}{I:bn}{ρ:af->Value->Prop}{p:Place}{v:Value}{F:bn}(h:R w I ρ (.iD p) v F):ρ (.iD p) v:=by
 cases h with
 | ref _ h _=>exact h
theorem R.SU {w:World}{I:bn}{ρ:af->Value->Prop}{q:Array MapEntry->Nat->Prop}{v:Value}{F:bn}(h:R w I ρ (.mp q) v F):∃ b es clock,v=.map (some b)/\w.heap[b]?=some (.map es clock)/\q es clock/\∀ c,F c↔c=b:=by
 cases h with
 | ref J=>simp [af.isRef] at J
 | mp bd bK aP=>exact ⟨_,_,_,rfl,bd,bK,aP⟩
theorem R.SS {w:World}{I:bn}{ρ:af->Value->Prop}{q:Array MapEntry->Nat->Prop}{v:Value}{F:bn}(h:R w I ρ (.imp q) v F):∃ b es clock,v=.map (some b)/\w.heap[b]?=some (.map es clock)/\q es clock:=by
 cases h with
 | ref J=>simp [af.isRef] at J
 | imp _ _ bd bK=>exact ⟨_,_,_,rfl,bd,bK⟩
end Go.Own
namespace Go.Own
open Go
section
variable {P:Program}{w:World}{I:bn}{T:Array Value}{g:aU}{Fs:Nat->bn}
theorem n3.sound (h:cV w I T g Fs) {d:Nat}{x:Option Operand}{ae:Nat}(aF:n3 g d x ae) {a:Act}(bf:a.tmps=T):(x.map a.eval=none/\ae=d)\/∃ k,x.map a.eval=some (.int k (ae:Int)):=by
 cases x with
 | none=>exact .inl ⟨rfl,aF⟩
 | some o =>
  obtain ⟨k,hk⟩:=aF;exact .inr ⟨k,by rw [Option.map_some,(kK h hk bf).hV.1]⟩
theorem CU {len cap l h:Nat}{lo hi:Option Value}(ao:(lo=none/\l=0)\/∃ k,lo=some (.int k (l:Int))) (b_:(hi=none/\h=len)\/∃ k,hi=some (.int k (h:Int))) (b:Bool) (qS:l<=h) (aa:h<=cap) :
  (Instr.sliceBounds b len cap lo hi none).run P w=.ok (l,h,cap) w:=by
 rcases ao with ⟨rfl,rfl⟩ | ⟨k,rfl⟩ <;> rcases b_ with ⟨rfl,rfl⟩ | ⟨kZ,rfl⟩ <;> simp [Instr.sliceBounds,Instr.sliceBound,asIntOf,qS,aa]
theorem KU (h:cV w I T g Fs) {a:Act}(bf:a.tmps=T):∀ (xs:List Operand) (vs:List Value),xs.map (bI g)=vs.map (λv=>some (.lit v))->xs.map a.eval=vs
 | [],[],_=>rfl
 | [],_::_,h=>by simp at h
 | _::_,[],h=>by simp at h
 | x::xs,v::vs,J=>by
  simp only [List.map_cons,List.cons.injEq] at J;rw [List.map_cons,(kK h J.1 bf).hV.1,KU h bf xs vs J.2]
theorem HN {w:World}{I:bn}{ρ:af->Value->Prop}{v:Value}{dq:List Value}
  (h:∃ vs:Array Value,v=.agg vs/\(dq.map af.lit).length=vs.size/\(∀ (k:Nat) (u:Value),vs[k]?=some u->u.oneCell'=true)/\∀ (k:Nat) (x:af) (u:Value),(dq.map af.lit)[k]?=some x->vs[k]?=some u->R w I ρ x u cR):v=.agg dq.toArray:=by
 obtain ⟨vs,rfl,ao,-,av⟩:=h;congr 1;apply Array.ext (by simpa using ao.symm);intro i h1 ak;have aN:i<dq.length:=by simpa using ak
 have:=(av i (.lit dq[i]) vs[i] (by simp [aN]) (Array.getElem?_eq_getElem h1)).hV.1;simpa using this
theorem da.sound (h:cV w I T g Fs) {a:Act}(bf:a.tmps=T) {o:Oper}{jY:af}(aE:da P g o.op o.type jY) :
  ∃ v,(execOp a.eval o).run P w=.ok (.value v) w/\R w I (ed w T g) jY v cR:=by
 obtain ⟨dst,op,ty,pos,after,guard⟩:=o;simp only at aE;have fE:∀ {x:Operand}{y:af},bI g x=some y->R w I (ed w T g) y (a.eval x) cR:=λay=>kK h ay bf;have no:∀ c,¬ cR c:=λ_ h=>h;cases aE with
 | move J=>exact ⟨_,by simp [execOp],fE J⟩
 | assign J=>exact ⟨_,by simp [execOp],fE J⟩
 | @pick c x y _ t r aa av =>
  have sZ:=(fE aa).hV.1;refine ⟨_,?_,fE av⟩;simp [execOp,sZ,asBool];cases t <;> rfl
 | @Cx x _ p k J =>
  have av:=fE J;obtain ⟨⟨u,ad,h1,ak,aN⟩,bP⟩:=av.mz;exact ⟨_,by simp [execOp,aN],aN ▸ av⟩
 | @oT x _ cs J =>
  have av:=fE J;obtain ⟨ad,us,aN,_⟩:=av.uV;exact ⟨_,by simp [execOp,aN],aN ▸ av⟩
 | @yB x _ s t f off p k J bh eA =>
  obtain ⟨⟨u,ad,h1,ak,aN⟩,bP⟩:=(fE J).mz;refine ⟨.pointer (some ⟨ad.block,ad.off+k+off,none⟩),by simp [execOp,aN,LC bh],.ref rfl ⟨⟨u,ad,h1,ak,by rw [Nat.add_assoc]⟩,eA⟩ no⟩
 | @BH x _ s t f off cs J bh =>
  obtain ⟨ad,us,aN,bp,aL,gE,aa,av⟩:=(fE J).uV;obtain ⟨b,o,sp⟩:=ad;simp only at aL;subst aL;refine ⟨.pointer (some ⟨b,o+off,none⟩),by simp [execOp,aN,LC bh],.bs (us:=λk=>us (off+k)) no bp rfl (λk x hk=>gE _ x (by rwa [List.getElem?_drop] at hk)) (λk x hk=>?_) λk x hk=>?_⟩
  ·rw [List.getElem?_drop] at hk; simpa [Nat.add_assoc] using aa _ x hk
  ·rw [List.getElem?_drop] at hk; exact av _ x hk
 | @BG x _ s t f off cs y J bh aC ay =>
  obtain ⟨vs,aN,ao,gE,av⟩:=(fE J).zm no;obtain ⟨fs,fd,hu,E2,rfl,rfl,i,hi,ba⟩:=Ed bh;have hk:fd.offset<cs.length:=(List.getElem?_eq_some_iff.1 ay).1;have hv:vs[fd.offset]?=some vs[fd.offset]:=Array.getElem?_eq_getElem (ao ▸ hk);refine ⟨_,?_,av _ jY _ ay hv⟩;simp [execOp,aN,Instr.field,run_underlying hu,E2,asAgg,part,(DM (w:=w) aC).1,hv]
 | @Ec x _ s t f off k cs J bh aC hk =>
  obtain ⟨vs,aN,ao,gE,av⟩:=(fE J).zm no;obtain ⟨fs,fd,hu,E2,rfl,rfl,i,hi,ba⟩:=Ed bh;refine ⟨.agg (vs.extract fd.offset (fd.offset+k)),?_,.agg (Fs:=λ_=>cR) (by simp [ao]; omega) (λae u fw=>by
   rw [Array.getElem?_extract] at fw
   split at fw
   ·exact gE _ u fw
   ·cases fw) (λae y u ay fw=>?_) (λ_ _ _ _ _ h=>h.elim) (λc=>⟨λh=>h.elim,λ⟨_,_,h⟩=>h⟩)⟩
  ·simp [execOp,aN,Instr.field,run_underlying hu,E2,asAgg,part,(A2 (w:=w) aC).1,(A2 (w:=w) aC).2]
  ·rw [List.getElem?_take] at ay
   split at ay
   ·rw [List.getElem?_drop] at ay;rw [Array.getElem?_extract] at fw
    split at fw
    ·exact av _ y u ay fw
    ·cases fw
   ·cases ay
 | @Cj x i _ t e z n cs mA ae J hi aC ab =>
  obtain ⟨hu,he,bB⟩:=oZ (w:=w) aC;obtain ⟨kv,cap,aN,_,ao,hm⟩:=(fE J).w0;obtain ⟨ad,us,rfl,bp,aL,gE,aa,av⟩:=hm (.inr (by omega));obtain ⟨b,o,sp⟩:=ad;simp only at aL;subst aL;have p4:=(fE hi).hV.1;refine ⟨.pointer (some ⟨b,o+ae * z,none⟩),?_,.bs (us:=λk=>us (ae * z+k)) no bp rfl (λk x hk=>gE _ x (by rwa [List.getElem?_drop] at hk)) (λk x hk=>?_) λk x hk=>?_⟩
  ·simp [execOp,aN,p4,Instr.indexAt,run_underlying hu,asIntOf,ab,bB,add_eq]
  ·rw [List.getElem?_drop] at hk; simpa [Nat.add_assoc] using aa _ x hk
  ·rw [List.getElem?_drop] at hk; exact av _ x hk
 | @Ci x i _ t e z n p mA ae J hi aC ab eA =>
  obtain ⟨hu,he,bB⟩:=oZ (w:=w) aC;obtain ⟨⟨kv,N,cap,h1,ak,aN⟩,bP⟩:=(fE J).l_;have p4:=(fE hi).hV.1;obtain ⟨y,ay,iH,hF,cs,eu,a8⟩:=eA;obtain ⟨v,cG,hv,dL,_⟩:=h.part ay (by rcases eu with rfl | rfl <;> simp);rw [h1] at hv;cases hv;obtain ⟨b,u,fJ,k8,_,_⟩:=dL.node eu (List.getElem?_eq_getElem a8);cases kv with
  | none=>simp [addrOf] at fJ
  | some ad =>
   simp only [addrOf,Option.some.injEq] at fJ;subst fJ;refine ⟨.pointer (some ⟨b,ae * z,none⟩),?_,.ref rfl ⟨⟨_,_,h1,rfl,by simp⟩,y,ay,iH,hF,cs,eu,a8⟩ no⟩;simp [execOp,ak,p4,Instr.indexAt,run_underlying hu,asIntOf,ab,bB,add_eq]
 | @FV x i _ t e z lo n p mA ae J hi aC ab eA =>
  obtain ⟨hu,he,bB⟩:=oZ (w:=w) aC;obtain ⟨⟨kv,N,cap,cx,lr,h1,ak,_,aN,cZ⟩,bP⟩:=(fE J).uW;obtain ⟨ad,rfl,rfl⟩:=cZ (by omega);have p4:=(fE hi).hV.1;obtain ⟨y,ay,iH,hF,cs,eu,a8⟩:=eA;obtain ⟨v,cG,hv,dL,_⟩:=h.part ay (by rcases eu with rfl | rfl <;> simp);rw [h1] at hv;cases hv;obtain ⟨b,u,fJ,k8,_,_⟩:=dL.node eu (List.getElem?_eq_getElem a8);simp only [addrOf,Option.some.injEq] at fJ;subst fJ;refine ⟨.pointer (some ⟨b,(lo+ae) * z,none⟩),?_,.ref rfl ⟨⟨_,_,h1,rfl,by simp⟩,y,ay,iH,hF,cs,eu,a8⟩ no⟩;simp [execOp,ak,p4,Instr.indexAt,run_underlying hu,asIntOf,ab,bB,add_eq,Nat.add_mul]
 | @FU x i _ t e n z k p mA ae J hi aC ab eA =>
  obtain ⟨hu,bB⟩:=HW (w:=w) aC;obtain ⟨⟨u,ad,h1,ak,aN⟩,bP⟩:=(fE J).mz;have p4:=(fE hi).hV.1;refine ⟨.pointer (some ⟨ad.block,ad.off+k+ae * z,none⟩),?_,.ref rfl ⟨⟨u,ad,h1,ak,by rw [Nat.add_assoc]⟩,eA⟩ no⟩;simp [execOp,aN,p4,Instr.indexAt,run_underlying hu,Instr.sureAddr,asIntOf,ab,bB,add_eq]
 | @FT x i _ t e n z cs mA ae J hi aC ab =>
  obtain ⟨hu,bB⟩:=HW (w:=w) aC;obtain ⟨ad,us,aN,bp,aL,gE,aa,av⟩:=(fE J).uV;obtain ⟨b,o,sp⟩:=ad;simp only at aL;subst aL;have p4:=(fE hi).hV.1;refine ⟨.pointer (some ⟨b,o+ae * z,none⟩),?_,.bs (us:=λk=>us (ae * z+k)) no bp rfl (λk x hk=>gE _ x (by rwa [List.getElem?_drop] at hk)) (λk x hk=>?_) λk x hk=>?_⟩
  ·simp [execOp,aN,p4,Instr.indexAt,run_underlying hu,Instr.sureAddr,asIntOf,ab,bB,add_eq]
  ·rw [List.getElem?_drop] at hk; simpa [Nat.add_assoc] using aa _ x hk
  ·rw [List.getElem?_drop] at hk; exact av _ x hk
 | @Ct x _ t c cs J aC =>
  obtain ⟨ad,us,aN,bp,aL,gE,aa,av⟩:=(fE J).uV;obtain ⟨b,o,sp⟩:=ad;simp only at aL;subst aL;have ba:w.cell? ⟨b,o,none⟩=some (us 0):=by simpa using aa 0 jY rfl
  exact ⟨us 0,by simp [execOp,aN,LF aC ba],av 0 jY rfl⟩
 | @Cu x _ t k cs J aC hk =>
  obtain ⟨ad,us,aN,bp,aL,gE,aa,av⟩:=(fE J).uV;obtain ⟨b,o,sp⟩:=ad;simp only at aL;subst aL;have RB:∀ ae v,((List.range k).map us)[ae]?=some v->w.cell? ⟨b,o+ae,none⟩=some v:=by
   intro ae v ab;rw [List.getElem?_map] at ab;by_cases ez:ae<k
   ·rw [List.getElem?_range ez] at ab;simp only [Option.map_some,Option.some.injEq] at ab;rw [<- ab];exact aa ae _ (List.getElem?_eq_getElem (by omega))
   ·rw [List.getElem?_eq_none (by simp; omega)] at ab; cases ab
  refine ⟨.agg ((List.range k).map us).toArray,by simp [execOp,aN,LD aC (by simp) RB],.agg (Fs:=λ_=>cR) (by simp; omega) (λae u fw=>by
   simp only [List.getElem?_toArray,List.getElem?_map] at fw;by_cases ez:ae<k
   ·rw [List.getElem?_range ez] at fw;simp only [Option.map_some,Option.some.injEq] at fw;rw [<- fw];exact gE ae _ (List.getElem?_eq_getElem (by omega))
   ·rw [List.getElem?_eq_none (by simp; omega)] at fw; cases fw) (λae y u ay fw=>?_) (λ_ _ _ _ _ h=>h.elim) (λc=>⟨λh=>h.elim,λ⟨_,_,h⟩=>h⟩)⟩
  rw [List.getElem?_take] at ay
  split at ay
  ·rename_i ez;simp [ez] at fw;rw [<- fw];exact av ae y ay
  ·cases ay
 | @zx x _ t p k y J aC ay =>
  obtain ⟨⟨u,ad,h1,ak,aN⟩,bP⟩:=(fE J).mz;rw [rB] at ay;cases aJ:b9 g p with
  | none=>rw [aJ] at ay; cases ay
  | some nd =>
   rw [aJ] at ay;simp only [Option.bind_some] at ay;obtain ⟨y',l9,iH,hF,cs,eu,a8⟩:=bP;rw [aJ] at l9;cases l9;obtain ⟨v,cG,hv,dL,dt⟩:=h.part aJ (by rcases eu with rfl | rfl <;> simp);rw [h1] at hv;cases hv;have hJ:cs[k]?=some y:=by rcases eu with rfl | rfl <;> simpa [af.kids] using ay
   obtain ⟨b,gj,fJ,k8,lA,gE,bZ,jR⟩:=dL.node eu hJ;rw [fJ] at ak;cases ak;refine ⟨gj,by simp only [execOp,aN]; simp [LF aC k8],CQ 0 (by rw [rB,aJ]; exact ay) (by rw [vB,h1]; exact lA) jR⟩
 | @w4 x _ t p k m z n y cs J aC ay eu hm =>
  obtain ⟨⟨u,ad,h1,ak,aN⟩,bP⟩:=(fE J).mz;obtain ⟨v,cG,hv,dL,dt⟩:=h.part ay (by rcases eu with rfl | rfl <;> simp);rw [h1] at hv;cases hv;have sX:∃ b,ad=⟨b,0,none⟩:=by
   obtain ⟨y',l9,iH,hF,cs',KJ,a8⟩:=bP;rw [ay] at l9;cases l9;have:cs'=cs:=by rcases eu with rfl | rfl <;> rcases KJ with b_ | b_ <;> cases b_ <;> rfl
   subst this;obtain ⟨b,gj,fJ,_⟩:=dL.node KJ (List.getElem?_eq_getElem a8);rw [fJ] at ak;exact ⟨b,(Option.some.inj ak).symm⟩
  obtain ⟨b,rfl⟩:=sX;have E':y.kids=cs:=by rcases eu with rfl | rfl <;> rfl
  have cell:∀ ae,ae<m->∃ gj,w.cell? ⟨b,k+ae,none⟩=some gj/\gj.oneCell'=true/\∃ j_,cs[k+ae]?=some j_/\R w I (ed w T g) (hX 0 (p.push (k+ae)) j_) gj cR:=by
   intro ae ab;have f':cs[k+ae]?=some cs[k+ae]:=List.getElem?_eq_getElem (by omega);obtain ⟨iA,gj,fJ,k8,lA,gE,bZ,jR⟩:=dL.node eu f';rw [ak] at fJ;cases fJ;exact ⟨gj,k8,gE,_,f',CQ 0 (by rw [rB,ay]; simp [E']) (by rw [vB,h1]; exact lA) jR⟩
  have hex:∃ us:List Value,us.length=m/\∀ ae v,us[ae]?=some v->w.cell? ⟨b,k+ae,none⟩=some v:=by
   refine ⟨(List.range m).map λae=>(w.cell? ⟨b,k+ae,none⟩).getD undef,by simp,?_⟩;intro ae v ab;rw [List.getElem?_map] at ab;by_cases wM:ae<m
   ·rw [List.getElem?_range wM] at ab;simp only [Option.map_some,Option.some.injEq] at ab;obtain ⟨gj,aa,_⟩:=cell ae wM;rw [aa] at ab;simp only [Option.getD_some] at ab;rw [aa,ab]
   ·rw [List.getElem?_eq_none (by simp; omega)] at ab; cases ab
  obtain ⟨us,p9,FA⟩:=hex;refine ⟨.agg us.toArray,by simp only [execOp,aN]; simp [LD aC p9 (b:=b) (o:=k) FA],.agg (Fs:=λ_=>cR) (by simp; omega) (λae u fw=>by
   have ab:=FA ae u (by simpa using fw);have wM:ae<m:=by rw [<- p9]; exact (List.getElem?_eq_some_iff.1 (by simpa using fw:us[ae]?=some u)).1
   obtain ⟨gj,aa,yF,_⟩:=cell ae wM;rw [aa] at ab; cases ab; exact yF) (λae jB u my fw=>?_) (λ_ _ _ _ _ h=>h.elim) (λc=>⟨λh=>h.elim,λ⟨_,_,h⟩=>h⟩)⟩
  rw [List.getElem?_mapIdx,List.getElem?_take] at my
  split at my
  ·rename_i wM;rw [List.getElem?_drop] at my;obtain ⟨gj,aa,_,j_,SB,bg⟩:=cell ae wM;rw [SB] at my;simp only [Option.map_some,Option.some.injEq] at my;subst my;have:=FA ae u (by simpa using fw);rw [aa] at this;cases this;exact bg
  ·cases my
 | @Bo x _ s d n N p cs xs J aE aJ hy aC =>
  obtain ⟨e,aL,he,aV⟩:=Ib aC;obtain ⟨⟨kv,iK,cap,h1,ak,aN⟩,_⟩:=(fE J).l_;obtain ⟨v,cG,hv,dL,dt⟩:=h.part aE (by simp);rw [h1] at hv;cases hv;have hx:(cs.take n).length=n:=by
   obtain ⟨_,_,_,ao⟩:=dL.mb;rw [List.length_take]; omega
  have hlen:xs.length=n:=by rw [<- hx,hy,List.length_map]
  refine ⟨_,?_,.lit rfl no⟩;obtain ⟨_,_,jU,_,_,pn,qU⟩:=dL.mb;cases jU;cases kv with
  | none =>
   have ba:n=0:=by
    rcases Nat.eq_zero_or_pos N with h | h
    ·omega
    ·exact absurd (qU h) (by simp)
   have:xs=[]:=List.eq_nil_of_length_eq_zero (hlen.trans ba);subst this;have av:=run_convert_bytes_nil (P:=P) (w:=w) s e aL he n cap d aV;simp [execOp,ak,av];rfl
  | some ad =>
   obtain ⟨b,o,sp⟩:=ad;obtain ⟨rfl,rfl⟩:=pn _ rfl;have av:=run_convert_bytes_arg (P:=P) w s e aL he b 0 n cap xs hlen (λi hi=>by
    have yV:(cs.take n)[i]?=some (.lit (.int .u8 (xs.getD i 0))):=by
     rw [hy,List.getElem?_map,List.getElem?_eq_getElem (by omega)];simp [List.getD,List.getElem?_eq_getElem (show i<xs.length by omega)]
    have Rb:cs[i]?=some (.lit (.int .u8 (xs.getD i 0))):=by
     rw [List.getElem?_take] at yV;simpa [hi] using yV
    obtain ⟨iA,u,fJ,k8,_,_,bZ,jR⟩:=dL.node (.inl rfl) Rb;simp only [addrOf,Option.some.injEq,Addr.mk.injEq,and_true] at fJ;subst fJ;rw [Nat.zero_add,k8,jR.hV.1]) d aV
   simp [execOp,ak,av]
 | @Bp x _ s d n xs J aC =>
  obtain ⟨e,aL,he,aV⟩:=Ib aC;have bg:=fE J;generalize jf:a.eval x=v at bg;refine ⟨_,?_,.lit rfl no⟩;generalize hy:(xs.map λb=>af.lit (.int .u8 b))=cs at bg;cases bg with
  | ref J=>simp [af.isRef] at J
  | @hz _ cap kv _ aP =>
   have:xs=[]:=by simpa using hy
   subst this;cases kv with
   | none =>
    have av:=run_convert_bytes_nil (P:=P) (w:=w) s e aL he 0 cap d aV;simp [execOp,jf,av];rfl
   | some ad =>
    have ao:(loadCells ad 0).run P w=.ok (([]:List Int).map (Value.int .u8)).toArray w:=by
     have:=run_loadCells_list (P:=P) w ad [] (λae v ab=>by simp at ab);simpa using this
    have av:=run_bytesToString w ad 0 cap [] ao;have aa:=run_convert_bytes_string (P:=P) w s d e (some ad) 0 cap aL he aV;rw [av] at aa;simp [execOp,jf,aa];rfl
  | @aD _ _ cap _ ad us _ aP kC bp wV ao h1 aa av =>
   obtain ⟨b,o,sp⟩:=ad;simp only at wV;subst wV;have hlen:xs.length=n:=by rw [<- List.length_map (f:=λb=>af.lit (.int .u8 b)),hy,ao,Nat.mul_one]
   have eC:=run_convert_bytes_arg (P:=P) w s e aL he b o n cap xs hlen (λi hi=>by
    have yV:cs[i]?=some (.lit (.int .u8 (xs.getD i 0))):=by
     rw [<- hy,List.getElem?_map,List.getElem?_eq_getElem (by omega)];simp [List.getD,List.getElem?_eq_getElem (show i<xs.length by omega)]
    have:=aa i _ yV;simp only at this;rw [this,(av i _ yV).hV.1]) d aV
   simp [execOp,jf,eC]
 | @D8 xs ia _ f vs v J hv av =>
  refine ⟨v,?_,.lit hv no⟩;have wW:xs.map a.eval=vs.toArray:=by
   apply Array.toList_inj.1;apply List.ext_getElem?;intro k;have:=congrArg (·[k]?) J;simp only [List.getElem?_map] at this;rw [Array.toList_map,List.getElem?_map];cases hk:xs.toList[k]? with
   | none =>
    rw [hk] at this;cases hv:vs[k]? with
    | none=>simp
    | some v=>rw [hv] at this; cases this
   | some o =>
    rw [hk] at this;cases hv:vs[k]? with
    | none=>rw [hv] at this; cases this
    | some v =>
     rw [hv] at this;simp only [Option.map_some,Option.some.injEq] at this ⊢;rw [(fE this).hV.1]
  have bh:a.eval (.func f)=.func (.func f) #[] #[]:=rfl;simp [execOp,resolve,Deferred.ofValue,invoke,bh,wW,av]
 | @Ck x i _ t s mA ae b J hi aC aF =>
  have rX:=(fE J).hV.1;have p4:=(fE hi).hV.1;refine ⟨.int .u8 b.toNat,?_,.lit rfl no⟩;simp [execOp,rX,p4,Instr.index,run_underlying (GZ aC),asIntOf,aF]
 | @bin op x y _ t t2 cx b v J ay hv av =>
  have h1:=(fE J).hV.1;have ak:=(fE ay).hV.1;refine ⟨v,?_,.lit hv no⟩;simp only [execOp,h1,ak,Sem.run_bind (x:=do eqGuard op t x y cx b; binOp op t cx b),av,Result.andThen_ok,Sem.run_pure]
 | @x8 op x y _ t t2 dq dI v J ay hv av =>
  have h1:=HN ((fE J).zm no);have ak:=HN ((fE ay).zm no);refine ⟨v,?_,.lit hv no⟩;simp only [execOp,h1,ak,Sem.run_bind (x:=do eqGuard op t x y (.agg dq.toArray) (.agg dI.toArray); binOp op t (.agg dq.toArray) (.agg dI.toArray)),av,Result.andThen_ok,Sem.run_pure]
 | @un op x _ t cx v J hv av =>
  have h1:=(fE J).hV.1;exact ⟨v,by simp [execOp,h1,av],.lit hv no⟩
 | @conv x _ s d cx v J hv av =>
  have h1:=(fE J).hV.1;exact ⟨v,by simp [execOp,h1,av],.lit hv no⟩
 | @Bu x _ i cs y J ay =>
  obtain ⟨vs,aN,ao,av⟩:=(fE J).SX no;have hk:i<cs.length:=(List.getElem?_eq_some_iff.1 ay).1;have hv:vs[i]?=some vs[i]:=Array.getElem?_eq_getElem (ao ▸ hk);exact ⟨_,by simp [execOp,aN,Instr.extract,hv],av _ jY _ ay hv⟩
 | @Av x lo hi _ t e z n l b_ cs J ao s5 aC qS aJ =>
  obtain ⟨hu,he,bB⟩:=oZ (w:=w) aC;obtain ⟨kv,cap,aN,kC,hlen,hm⟩:=(fE J).w0;have aF:=CU (P:=P) (w:=w) (len:=n) (cap:=cap) (ao.sound h bf) (s5.sound h bf) true qS (by omega);have hU:(execOp a.eval { dst:=dst,op:=.slice t x lo hi none,type:=ty,pos:=pos,after:=after,guard:=guard }).run P w=.ok (.value (sliced kv l b_ cap z)) w:=by
   simp [execOp,aN,Instr.sliceAt,run_underlying hu,Instr.slice,aF,bB,sliced]
  refine ⟨_,hU,?_⟩;by_cases ba:b_ - l=0
  ·rw [ba];simp only [Nat.zero_mul,List.take_zero,sliced,ba];exact .hz no
  ·obtain ⟨ad,us,rfl,bp,aL,gE,aa,av⟩:=hm (.inr (by omega));obtain ⟨b,o,sp⟩:=ad;simp only at aL;subst aL;have hx:cap≠l:=by omega
   simp only [sliced,hx,if_false,Option.map_some,add_eq];have yZ:((cs.drop (l * z)).take ((b_ - l) * z)).length=(b_ - l) * z:=by
    rw [List.length_take,List.length_drop,hlen];have:(b_ - l) * z+l * z<=n * z:=by rw [<- Nat.add_mul]; exact Nat.mul_le_mul_right _ (by omega)
    omega
   refine .aD (us:=λk=>us (l * z+k)) no (by omega) bp rfl yZ (λk x hk=>gE (l * z+k) x (by
    rw [List.getElem?_take] at hk
    split at hk
    ·rwa [List.getElem?_drop] at hk
    ·cases hk)) (λk x hk=>?_) λk x hk=>?_
   ·rw [List.getElem?_take] at hk
    split at hk
    ·rw [List.getElem?_drop] at hk; simpa [Nat.add_assoc] using aa _ x hk
    ·cases hk
   ·rw [List.getElem?_take] at hk
    split at hk
    ·rw [List.getElem?_drop] at hk; exact av _ x hk
    ·cases hk
 | @C0 x lo hi _ t e z n b_ p J ao s5 aC aJ eA =>
  obtain ⟨hu,he,bB⟩:=oZ (w:=w) aC;obtain ⟨⟨kv,N,cap,h1,ak,aN⟩,bP⟩:=(fE J).l_;have kC:N<=cap:=by
   rcases bP with ⟨iK,cs,cZ,dv⟩ | ⟨ba,q,hf,m,new,cZ,dv⟩
   ·obtain ⟨v,cG,hv,dL,_⟩:=h.part cZ (by simp);rw [h1] at hv;obtain ⟨_,pS,E4,hle,_⟩:=dL.mb;rw [E4] at hv;cases hv;exact hle
   ·obtain ⟨v,hv,dL⟩:=h.rel _ _ cZ;simp only [ef,hv,ba,walk,Option.some.injEq] at h1;subst h1;obtain ⟨bv,cO,cX,us,news,dL⟩:=dL.tl;obtain ⟨_,l5⟩:=dL.l5;rcases l5 with ⟨b_,ba⟩ | ⟨b,c2,cur,b_,_,_,hle,_⟩
    ·cases b_; exact Nat.le_refl _
    ·cases b_; exact hle
  have aF:=CU (P:=P) (w:=w) (len:=n) (cap:=cap) (ao.sound h bf) (s5.sound h bf) true (Nat.zero_le _) (by omega);refine ⟨.slice kv b_ cap,?_,.ref rfl ⟨⟨kv,N,cap,h1,rfl,by omega⟩,eA⟩ no⟩;simp [execOp,ak,Instr.sliceAt,run_underlying hu,Instr.slice,aF,bB];cases kv with
  | none=>simp
  | some ad=>simp [Addr.add]
 | @CZ x lo hi _ t e z n l b_ p J ao s5 aC qS aJ eA =>
  obtain ⟨hu,he,bB⟩:=oZ (w:=w) aC;obtain ⟨⟨kv,N,cap,h1,ak,aN⟩,bP⟩:=(fE J).l_;obtain ⟨iK,cs,cZ,dv⟩:=eA;obtain ⟨v,cG,hv,dL,_⟩:=h.part cZ (by simp);rw [h1] at hv;obtain ⟨a2,pS,E4,hle,hlen,pn,qU⟩:=dL.mb;rw [E4] at hv;cases hv;have aF:=CU (P:=P) (w:=w) (len:=n) (cap:=cap) (ao.sound h bf) (s5.sound h bf) true qS (by omega);refine ⟨sliced kv l b_ cap z,?_,.ref rfl ⟨⟨kv,_,cap,_,_,h1,rfl,by omega,by omega,λuK=>?_⟩,_,cs,cZ,dv⟩ no⟩
  ·simp [execOp,ak,Instr.sliceAt,run_underlying hu,Instr.slice,aF,bB,sliced]
  ·have aL:=qU (by omega);cases kv with
   | none=>simp at aL
   | some ad =>
    obtain ⟨ba,kE⟩:=pn ad rfl;obtain ⟨b,o,sp⟩:=ad;simp only at ba kE;subst ba kE;exact ⟨_,rfl,by rw [if_neg (by omega)]; simp [add_eq]⟩
 | @C1 x lo hi _ t l b_ s J ao s5 aC qS aJ =>
  have rX:=(fE J).hV.1;have aF:=CU (P:=P) (w:=w) (len:=s.size) (cap:=s.size) (ao.sound h bf) (s5.sound h bf) false qS aJ;exact ⟨.string (s.extract l b_),by simp [execOp,rX,Instr.sliceAt,run_underlying (GZ aC),Instr.slice,aF],.lit rfl no⟩
 | @zv x _ t e z cD n cs J aC =>
  obtain ⟨hu,he,bB⟩:=oZ (w:=w) aC;obtain ⟨kv,cap,aN,_⟩:=(fE J).w0;exact ⟨_,by simp [execOp,resolve,invoke,builtin,aN,Builtin.len_,run_underlying hu,goInt],.lit rfl no⟩
 | @zu x _ t e z cD n p J aC =>
  obtain ⟨hu,he,bB⟩:=oZ (w:=w) aC;obtain ⟨⟨kv,N,cap,h1,ak,aN⟩,bP⟩:=(fE J).l_;exact ⟨_,by simp [execOp,resolve,invoke,builtin,ak,Builtin.len_,run_underlying hu,goInt],.lit rfl no⟩
 | @Ga x _ t e z cD lo n p J aC =>
  obtain ⟨hu,he,bB⟩:=oZ (w:=w) aC;obtain ⟨⟨kv,N,cap,cx,lr,h1,ak,_,aN,cZ⟩,bP⟩:=(fE J).uW;exact ⟨_,by simp [execOp,resolve,invoke,builtin,ak,Builtin.len_,run_underlying hu,goInt],.lit rfl no⟩
 | @F' x _ t e cD J aC =>
  obtain ⟨hu,he,bB⟩:=oZ (w:=w) aC;have ak:=(fE J).qe;exact ⟨_,by simp [execOp,resolve,invoke,builtin,ak,Builtin.len_,run_underlying hu,goInt],.lit rfl no⟩
 | @lits b xs ia _ vs v J hv av =>
  have nN:xs.map a.eval=vs.toArray:=by
   apply Array.ext';rw [Array.toList_map];exact KU h bf xs.toList vs J
  refine ⟨v,?_,.lit hv no⟩;simp [execOp,resolve,invoke,nN,av]
 | @Gb x y _ t p q ok Y _ oR V J aE ay ep bg av =>
  obtain ⟨⟨b,aF,hv⟩,_⟩:=(fE J).SV;obtain ⟨hA,cG,iS,dL,_⟩:=h.part aE (by simp);rw [aF] at iS;cases iS;obtain ⟨iA,es,clock,e,bd,bK,_⟩:=dL.SU;cases e;refine ⟨V,?_,bg _ _ _⟩;simp [execOp,hv,ep _ _ _ _ (fE ay),av w _ _ _ bd bK]
 | @zw x y _ t q ok Y _ oR V J ay ep bg av =>
  obtain ⟨b,es,clock,hv,bd,bK⟩:=(fE J).SS;refine ⟨V,?_,bg _ _ _⟩;simp [execOp,hv,ep _ _ _ _ (fE ay),av w _ _ _ bd bK]
end
end Go.Own
namespace Go.Own
open Go
structure Fr (w w':World) (U:bn):Prop where
 os:w'.os=w.os
 tape:w'.tape=w.tape
 output:w'.output=w.output
 size:w.heap.size<=w'.heap.size
 block:∀ b,b<w.heap.size->¬ U b->w'.heap[b]?=w.heap[b]?
 fI:∀ a,a.block<w.heap.size->w'.frozen? a=w.frozen? a
 wy:w.drawn<=w'.drawn
theorem Fr.refl (w:World) (U:bn):Fr w w U:=⟨rfl,rfl,rfl,Nat.le_refl _,λ_ _ _=>rfl,λ_ _=>rfl,Nat.le_refl _⟩
theorem Fr.mono {w w':World}{U AZ:bn}(h:Fr w w' U) (gA:∀ b,b<w.heap.size->U b->AZ b):Fr w w' AZ:=⟨h.os,h.tape,h.output,h.size,λb aF aJ=>h.block b aF λhu=>aJ (gA b aF hu),h.fI,h.wy⟩
theorem Fr.trans {w jm hZ:World}{U v_:bn}(h:Fr w jm U) (h1:Fr jm hZ v_) (gA:∀ b,b<w.heap.size->v_ b->U b):Fr w hZ U :=
 ⟨h1.os.trans h.os,h1.tape.trans h.tape,h1.output.trans h.output,Nat.le_trans h.size h1.size,λb aF aJ=>(h1.block b (Nat.lt_of_lt_of_le aF h.size) λhu=>aJ (gA b aF hu)).trans (h.block b aF aJ),λa bf=>(h1.fI a (Nat.lt_of_lt_of_le bf h.size)).trans (h.fI a bf),Nat.le_trans h.wy h1.wy⟩
theorem qE (w:World) (o:Obj) (k:Nat) (h:k<w.heap.size):(w.alloc o).heap[k]?=w.heap[k]?:=by
 show (w.heap.push o)[k]?=_;rw [Array.getElem?_push,if_neg (by omega)]
theorem rz (w:World) (o:Obj):(w.alloc o).heap[w.heap.size]?=some o:=by
 show (w.heap.push o)[w.heap.size]?=_;simp
theorem Ee (w:World) (arr:Array Value) (t:TypeId) (a:Addr):(w.alloc (.cells arr t (0,0))).frozen? a=w.frozen? a:=by
 unfold World.frozen?;by_cases h:a.block=w.heap.size
 ·rw [h,rz];have:w.heap[w.heap.size]?=none:=by simp
  rw [this];simp
 ·by_cases ak:a.block<w.heap.size
  ·rw [qE w _ _ ak]
  ·have aN:(w.alloc (.cells arr t (0,0))).heap[a.block]?=none:=by
    show (w.heap.push _)[a.block]?=_;rw [Array.getElem?_eq_none];simp; omega
   have bP:w.heap[a.block]?=none:=Array.getElem?_eq_none (by omega);rw [aN,bP]
theorem Eg (w:World) (g:Nat) (cs:Array Value) (a:Addr):(w.setRow g cs).frozen? a=w.frozen? a:=by
 unfold World.frozen? World.setRow;simp only [Array.getElem?_modify];by_cases h:g=a.block
 ·subst h;rw [if_pos rfl];cases b_:w.heap[a.block]? with
  | none=>rfl
  | some o=>cases o <;> rfl
 ·rw [if_neg h]
theorem P1 (w:World) (es:Array MapEntry) (n:Nat) (a:Addr):(w.alloc (.map es n)).frozen? a=w.frozen? a:=by
 unfold World.frozen?;by_cases h:a.block=w.heap.size
 ·rw [h,rz];have:w.heap[w.heap.size]?=none:=by simp
  rw [this]
 ·by_cases ak:a.block<w.heap.size
  ·rw [qE w _ _ ak]
  ·have aN:(w.alloc (.map es n)).heap[a.block]?=none:=by
    show (w.heap.push _)[a.block]?=_;rw [Array.getElem?_eq_none];simp; omega
   have bP:w.heap[a.block]?=none:=Array.getElem?_eq_none (by omega);rw [aN,bP]
def Ll (o:Obj):Prop:=(∃ arr e,o=.cells arr e (0,0))\/∃ es n,o=.map es n
theorem Fr.alloc (w:World) (o:Obj) (U:bn) (bd:Ll o):Fr w (w.alloc o) U:=by
 refine ⟨rfl,rfl,rfl,by simp,λb aF _=>qE w o b aF,λa _=>?_,Nat.le_refl _⟩;rcases bd with ⟨arr,e,rfl⟩ | ⟨es,n,rfl⟩
 ·exact Ee w arr e a
 ·exact P1 w es n a
theorem R.TD {w:World}{I:bn}{ρ:af->Value->Prop}{x:af}{v:Value}{F:bn}(h:R w I ρ x v F):∀ c,F c->∃ o,w.heap[c]?=some o/\Ll o:=by
 induction h with
 | mp bd _ aP =>
  intro c aa;cases (aP c).1 aa;exact ⟨_,bd,.inr ⟨_,_,rfl⟩⟩
 | lit _ aP | aO aP | dead aP | ref _ _ aP | hz aP | aD aP | bs aP | ea aP | imp aP=>exact λc aa=>absurd aa (aP c)
 | own bd ao h1 av aV aF aP aS =>
  intro c aa;rcases (aP c).1 aa with h | ⟨k,hk,h⟩
  ·obtain ⟨_,b_⟩:=bd;rcases b_ with ⟨rfl,_⟩ | ⟨b,cap,cur,rfl,_,fX,_⟩
   ·simp [Value.ownBlock] at h
   ·simp only [Value.ownBlock,Option.some.injEq] at h;subst h;exact ⟨_,fX,.inl ⟨_,_,rfl⟩⟩
  ·exact aS k _ _ (List.getElem?_eq_getElem hk) (List.getElem?_eq_getElem (ao ▸ hk)) c h
 | obj bd ao h1 av aV aF aP aS =>
  intro c aa;rcases (aP c).1 aa with rfl | ⟨k,hk,h⟩
  ·exact ⟨_,bd,.inl ⟨_,_,rfl⟩⟩
  ·exact aS k _ _ (List.getElem?_eq_getElem hk) (Array.getElem?_eq_getElem (ao ▸ hk)) c h
 | agg ao h1 av aV aP aS =>
  intro c aa;obtain ⟨k,hk,h⟩:=(aP c).1 aa;exact aS k _ _ (List.getElem?_eq_getElem hk) (Array.getElem?_eq_getElem (ao ▸ hk)) c h
 | cr ao av aV aP aS =>
  intro c aa;obtain ⟨k,hk,h⟩:=(aP c).1 aa;exact aS k _ _ (List.getElem?_eq_getElem hk) (Array.getElem?_eq_getElem (ao ▸ hk)) c h
theorem Fr.drew {w w':World}{U:bn}(h:Fr w w' U):Fr w w'.drew U:=⟨h.os,h.tape,h.output,h.size,h.block,h.fI,Nat.le_succ_of_le h.wy⟩
section
variable {w:World}{I:bn}{T:Array Value}{g:aU}{Fs:Nat->bn}
theorem cV.jL (h:cV w I T g Fs):∀ t c,Fs t c->c<w.heap.size:=by
 intro t c aa;cases J:g t with
 | none=>exact absurd aa (h.kk t J c)
 | some y=>obtain ⟨u,_,dL⟩:=h.rel t y J; exact dL.lt c aa
theorem cV.world (h:cV w I T g Fs) {w':World}(aP:∀ t c,Fs t c->w'.heap[c]?=w.heap[c]?) (bp:∀ c,I c->w'.heap[c]?=w.heap[c]?) (fZ:w.heap.size<=w'.heap.size):cV w' I T g Fs :=
  ⟨λt x J=>by
    obtain ⟨v,hv,bg⟩:=h.rel t x J;exact ⟨v,hv,h.uw (λ_ _=>rfl) aP bp (λ_ h=>h) (λ_ _ h=>h) bg λc aa=>aP t c aa⟩,
   h.kk,h.eT,h.aD,λc aa=>Nat.lt_of_lt_of_le (h.lt c aa) fZ,h.pE⟩
theorem cV.alloc (h:cV w I T g Fs) (o:Obj):cV (w.alloc o) I T g Fs :=
 h.world (λt c aa=>qE w o c (h.jL t c aa)) (λc aa=>qE w o c (h.lt c aa)) (by simp)
theorem cV.sa (h:cV w I T g Fs) {d:Nat}{x:af}{v:Value}{F:bn}(aV:g d=none) (Rg:d<T.size)
  (bg:js w I (ed w T g) x v F) (p6:∀ t c,F c->¬ Fs t c) (RJ:∀ c,F c->¬ I c)
  (aE:∀ z p n m new,x=.b3 z p n m new->∀ t cD cT b6 c7,g t≠some (.b3 cD p cT b6 c7)) :
  cV w I (T.setIfInBounds d v) (eM g d x) (sr Fs d F):=by
 have fv:∀ t,g t≠none->(T.setIfInBounds d v)[t]?=T[t]?:=by
  intro t aC;rw [Array.getElem?_setIfInBounds_ne];rintro rfl; exact aC aV
 refine ⟨?_,?_,?_,?_,h.lt,?_⟩
 ·intro t y ay;unfold eM at ay
  split at ay
  ·rename_i rY;subst rY;cases ay;exact ⟨v,by simp [Rg],by simpa [sr] using h.uw fv (λ_ _ _=>rfl) (λ_ _=>rfl) (λ_ h=>h) (Mm aV) bg λ_ _=>rfl⟩
  ·rename_i rY;obtain ⟨u,hu,dL⟩:=h.rel t y ay;exact ⟨u,by rw [fv t (by rw [ay]; simp)]; exact hu,by simpa [sr,rY] using h.uw fv (λ_ _ _=>rfl) (λ_ _=>rfl) (λ_ h=>h) (Mm aV) dL λ_ _=>rfl⟩
 ·intro t aC c;unfold eM at aC
  split at aC
  ·cases aC
  ·rename_i rY; simpa [sr,rY] using h.kk t aC c
 ·intro t c' c aa fa;by_cases h1:t=d <;> by_cases ak:c'=d <;> simp [sr,h1,ak] at aa fa
  ·rw [h1,ak]
  ·exact absurd fa (p6 c' c aa)
  ·exact absurd aa (p6 t c fa)
  ·exact h.eT t c' c aa fa
 ·intro t c aa hi;by_cases h1:t=d <;> simp [sr,h1] at aa
  ·exact RJ c aa hi
  ·exact h.aD t c aa hi
 ·intro t c' z p n m new cD cT b6 c7 h1 ak;unfold eM at h1 ak
  split at h1 <;> split at ak
  ·rename_i a b; rw [a,b]
  ·cases h1; exact absurd ak (aE z p n m new rfl c' cD cT b6 c7)
  ·cases ak; exact absurd h1 (aE cD p cT b6 c7 rfl t z n m new)
  ·exact h.pE _ _ _ _ _ _ _ _ _ _ _ h1 ak
end
def lp:af->Option (List af)
 | .agg cs=>some cs
 | .lit v=>some [.lit v]
 | .aO=>some [.aO]
 | .aD z n cs=>some [.aD z n cs]
 | .bs cs=>some [.bs cs]
 | .ptr p k=>some [.ptr p k]
 | .bq z p n=>some [.bq z p n]
 | .sub z p l n=>some [.sub z p l n]
 | .ea f a b=>some [.ea f a b]
 | _=>none
theorem R.lp {w:World}{I:bn}{ρ:af->Value->Prop}{y:af}{v:Value}{F:bn}(h:R w I ρ y v F) (aP:∀ c,¬ F c) (kX:∀ x v,x.isRef=true->ρ x v->v.oneCell'=true) {cs:List af}(aa:lp y=some cs) :
  cs.length=v.cells.size/\(∀ (k:Nat) (u:Value),v.cells[k]?=some u->u.oneCell'=true)/\(∀ (k:Nat) (x:af) (u:Value),cs[k]?=some x->v.cells[k]?=some u->R w I ρ x u cR):=by
 have one:∀ {y:af},R w I ρ y v F->v.oneCell'=true->[y].length=v.cells.size/\(∀ (k:Nat) (u:Value),v.cells[k]?=some u->u.oneCell'=true)/\(∀ (k:Nat) (x:af) (u:Value),[y][k]?=some x->v.cells[k]?=some u->R w I ρ x u cR):=by
  intro y h h1;have wL:v.cells=#[v]:=by cases v <;> first | rfl | (simp [Value.oneCell'] at h1)
  refine ⟨by simp [wL],λk u hu=>?_,λk x u J hu=>?_⟩
  ·rw [wL] at hu;cases k with
   | zero=>simp at hu; subst hu; exact h1
   | succ k=>simp at hu
  rw [wL] at hu;cases k with
  | zero=>simp at J hu; subst J hu; exact h.empty aP
  | succ k=>simp at J
 cases y <;> simp only [Go.Own.lp,Option.some.injEq,reduceCtorEq] at aa
 case agg l =>
  subst aa;obtain ⟨vs,rfl,ao,h1,av⟩:=h.zm aP;exact ⟨ao,h1,av⟩
 case lit a=>subst aa; exact one h (by obtain ⟨rfl,h1⟩:=h.hV; exact h1)
 case aO=>subst aa; exact one h (by rw [h.qe]; rfl)
 case aD z n l=>subst aa; exact one h (by obtain ⟨a,cap,rfl,_⟩:=h.w0; rfl)
 case bs l=>subst aa; exact one h (by obtain ⟨ad,us,rfl,_⟩:=h.uV; rfl)
 case ptr p k=>subst aa; exact one h (kX _ _ rfl h.mz)
 case bq z p n=>subst aa; exact one h (kX _ _ rfl h.l_)
 case sub z p l n=>subst aa; exact one h (kX _ _ rfl h.uW)
 case ea f a b =>
  subst aa;refine one h ?_;cases h with
  | ea=>rfl
  | ref J=>simp [af.isRef] at J
theorem ed.CC {w:World}{T:Array Value}{g:aU}{x:af}{v:Value}(J:x.isRef=true) (h:ed w T g x v):v.oneCell'=true:=by
 obtain ⟨h,_⟩:=h;cases x <;> simp [af.isRef] at J
 case ptr p k=>obtain ⟨_,_,_,_,rfl⟩:=h; rfl
 case bq z p n=>obtain ⟨_,_,_,_,rfl,_⟩:=h; rfl
 case sub z p lo n=>obtain ⟨_,_,_,_,_,_,rfl,_⟩:=h; rfl
 case iD p=>obtain ⟨_,_,rfl⟩:=h; rfl
def oh:List af->Option (List af)
 | []=>some []
 | y::ys =>
  match lp y,oh ys with
  | some a,some b=>some (a++b)
  | _,_=>none
def il (g:aU):List Operand->Option (List af)
 | []=>some []
 | x::xs =>
  match bI g x,il g xs with
  | some y,some ys=>some (y::ys)
  | _,_=>none
def wG (place:Nat->Option (Nat × Nat)) (cells:List af):List (Nat × List af)->Option (List af)
 | []=>some cells
 | (i,c)::rest =>
  match place i with
  | none=>none
  | some (off,size)=>if c.length=size/\off+c.length<=cells.length then wG place (cells.take off++c++cells.drop (off+c.length)) rest else none
def qk (g:aU):List (Nat × Operand)->Option (List (Nat × List af))
 | []=>some []
 | (i,x)::xs =>
  match bI g x,qk g xs with
  | some y,some ys=>(lp y).map λc=>(i,c)::ys
  | _,_=>none
def kM (P:Program) (t:TypeId) (pl:List (Nat × Nat)):Bool :=
 match P.underlying t with
 | some (.struct fs)=>fs.toList.map (λf=>(f.offset,(P.info? f.type).map (·.size))) == pl.map λ(a,b)=>(a,some b)
 | _=>false
inductive n5 (P:Program) (g:aU):Op->TypeId->af->Prop
 | box {e ty:TypeId}{x:Operand}{y:af}{cs:List af}(J:bI g x=some y) (aa:lp y=some cs):n5 P g (.box e x) ty (.obj cs)
 | alloc {e ty:TypeId}{z:Value}(bB:(P.info? e).bind (·.zero)=some z) (h1:z.cells.all Value.oneCell'=true):n5 P g (.alloc e) ty (.obj (z.cells.toList.map nr))
 | buildSlice {t e ty:TypeId}{z:Nat}{parts:Array (Nat × Operand)}{xs:List Operand}{ys:List af}{cs:List af}(aC:e' P t e z=true)
   (aE:parts.toList=xs.mapIdx (λi x=>(i,x))) (J:il g xs=some ys) (bB:∀ y∈ys,∃ c,lp y=some c/\c.length=z) (aa:oh ys=some cs) (aF:xs.length * z<=16777216) (aJ:xs.length<=16777216) (hzero:xs.length * z=0\/∃ v,(P.info? e).bind (·.zero)=some v/\v.cells.size=z) :
   n5 P g (.buildSlice t xs.length parts) ty (.own z xs.length cs)
 | makeSlice {t e ty:TypeId}{x y:Operand}{z n b:Nat}{zr r5:IntKind}{ec:Value}(aC:e' P t e z=true) (J:bI g x=some (.lit (.int zr (n:Int)))) (ay:bI g y=some (.lit (.int r5 (n:Int))))
   (hzero:(P.info? e).bind (·.zero)=some ec) (h1:ec.cells.all Value.oneCell'=true) (nm:ec.cells.size=z) (aF:(P.info? e).map (·.bytes)=some b) (aJ:n * b<=140737488355328) (nP:n<=4611686018427387904) {vF:List af}(r2:vF.length=ec.cells.size)
   (Ch:∀ (k:Nat) (u:Value) (x:af),ec.cells[k]?=some u->vF[k]?=some x->x=nr u\/(nr u=.aO/\∃ cD,x=.aD cD 0 [])) :
   n5 P g (.makeSlice t x y) ty (.own z n (List.replicate n vF).flatten)
 | makeMap {t ty:TypeId}{q:Array MapEntry->Nat->Prop}(bK:q #[] 0):n5 P g (.makeMap t none) ty (.mp q)
inductive sB (P:Program) (g:aU):Op->TypeId->af->Prop
 | build {t ty:TypeId}{parts:Array (Nat × Operand)}{pl:List (Nat × Nat)}{ec:Value}{ps:List (Nat × List af)}{cs:List af}(aC:kM P t pl=true) (bB:(P.info? t).bind (·.zero)=some ec) (h1:ec.cells.all Value.oneCell'=true)
   (aE:qk g parts.toList=some ps) (aa:wG (λi=>pl[i]?) (ec.cells.toList.map nr) ps=some cs):sB P g (.build t parts) ty (.agg cs)
 | makeFunc {fn:Fn}{first caps:Array Operand}{ty:TypeId}{a b:List af}(bf:il g first.toList=some a) (aF:il g caps.toList=some b):sB P g (.makeFunc fn first caps) ty (.ea fn a b)
section
variable {P:Program}{w:World}{I:bn}{T:Array Value}{g:aU}{Fs:Nat->bn}
theorem xb (h:cV w I T g Fs) {a:Act}(bf:a.tmps=T):∀ {xs:List Operand}{ys:List af},il g xs=some ys->ys.length=xs.length/\∀ (k:Nat) (y:af) (x:Operand),ys[k]?=some y->xs[k]?=some x->R w I (ed w T g) y (a.eval x) cR
 | [],ys,ay=>by simp only [il,Option.some.injEq] at ay; subst ay; simp
 | x::xs,ys,ay=>by
  simp only [il] at ay;cases J:bI g x with
  | none=>simp [J] at ay
  | some y =>
   cases qc:il g xs with
   | none=>simp [J,qc] at ay
   | some AF =>
    simp only [J,qc,Option.some.injEq] at ay;subst ay;obtain ⟨h1,ak⟩:=xb h bf qc;refine ⟨by simp [h1],λk y' x' l9 f'=>?_⟩;cases k with
    | zero=>simp at l9 f'; subst l9 f'; exact kK h J bf
    | succ k=>simp at l9 f'; exact ak k y' x' l9 f'
theorem R.alloc (h:cV w I T g Fs) (o:Obj) {x:af}{v:Value}{F:bn}(bg:R w I (ed w T g) x v F) (aP:∀ c,F c->c<w.heap.size):R (w.alloc o) I (ed (w.alloc o) T g) x v F :=
 h.frame (λ_ _=>rfl) (λt c aa=>qE w o c (h.jL t c aa)) (λc aa=>qE w o c (h.lt c aa)) (λ_ h=>h) (λ_ _ h=>h) bg λc aa=>qE w o c (aP c aa)
theorem K4 {ρ:af->Value->Prop}{vs:List Value}:∀ (k:Nat) (x:af) (u:Value),(vs.map nr)[k]?=some x->vs[k]?=some u->R w I ρ x u cR:=by
 intro k x u J hu;rw [List.getElem?_map,hu] at J;simp only [Option.map_some,Option.some.injEq] at J;subst J;exact zK u
theorem R.K3 {ρ:af->Value->Prop}{cs:List af}{b:Nat}{e:TypeId}{arr:Array Value}(bd:w.heap[b]?=some (.cells arr e (0,0))) (ao:cs.length=arr.size) (h1:∀ (k:Nat) (u:Value),arr[k]?=some u->u.oneCell'=true)
  (av:∀ (k:Nat) (x:af) (u:Value),cs[k]?=some x->arr[k]?=some u->R w I ρ x u cR):R w I ρ (.obj cs) (.pointer (some ⟨b,0,none⟩)) (λc=>c=b) :=
 .obj (Fs:=λ_=>cR) bd ao h1 av (λ_ _ _ _ _ h=>h.elim) (λ_ _ h=>h) (λ_=>⟨λh=>.inl h,λh=>h.elim id λ⟨_,_,h⟩=>h.elim⟩)
theorem R.La {ρ:af->Value->Prop}{z n:Nat}{cs:List af}{b cap:Nat}{e:TypeId}{arr:Array Value}(bd:w.heap[b]?=some (.cells arr e (0,0))) (aJ:n<=cap) (aa:cap<=maxLen) (aL:arr.size=cap * z) (ao:cs.length=n * z) (h1:∀ (k:Nat) (u:Value),arr[k]?=some u->u.oneCell'=true)
  (av:∀ (k:Nat) (x:af) (u:Value),cs[k]?=some x->arr[k]?=some u->R w I ρ x u cR):R w I ρ (.own z n cs) (.slice (some ⟨b,0,none⟩) n cap) (λc=>c=b):=by
 have hle:n * z<=arr.size:=by rw [aL]; exact Nat.mul_le_mul_right _ aJ
 refine .own (e:=e) (us:=arr.toList.take (n * z)) (Fs:=λ_=>cR) ⟨by simp; omega,.inr ⟨b,cap,arr,rfl,Nat.zero_le _,bd,aJ,aa,aL,rfl⟩⟩ (by simp; omega) (λk u hu=>?_) ?_ (λ_ _ _ _ _ h=>h.elim) (λ_ _ _ h=>h.elim) (λc=>?_)
 ·rw [List.getElem?_take] at hu
  split at hu
  ·exact h1 k u (by simpa using hu)
  ·cases hu
 ·intro k x u J hu;rw [List.getElem?_take] at hu
  split at hu
  ·exact av k x u J (by simpa using hu)
  ·cases hu
 ·simp only [Value.ownBlock,Option.some.injEq];exact ⟨λh=>.inl h.symm,λh=>h.elim Eq.symm λ⟨_,_,h⟩=>h.elim⟩
theorem H_ {ρ:af->Value->Prop}(kX:∀ x v,x.isRef=true->ρ x v->v.oneCell'=true):∀ {ys:List af}{vs:List Value}{cs:List af},ys.length=vs.length->(∀ (k:Nat) (y:af) (v:Value),ys[k]?=some y->vs[k]?=some v->R w I ρ y v cR)->oh ys=some cs ->
  cs.length=(vs.flatMap λv=>v.cells.toList).length/\(∀ (k:Nat) (u:Value),(vs.flatMap λv=>v.cells.toList)[k]?=some u->u.oneCell'=true)/\∀ (k:Nat) (x:af) (u:Value),cs[k]?=some x->(vs.flatMap λv=>v.cells.toList)[k]?=some u->R w I ρ x u cR
 | [],vs,cs,ao,av,aa=>by
  cases vs with
  | nil=>simp only [oh,Option.some.injEq] at aa; subst aa; simp
  | cons=>simp at ao
 | y::ys,vs,cs,ao,av,aa=>by
  cases vs with
  | nil=>simp at ao
  | cons v vs =>
   simp only [oh] at aa;cases bf:lp y with
   | none=>simp [bf] at aa
   | some a =>
    cases aF:oh ys with
    | none=>simp [bf,aF] at aa
    | some b =>
     simp only [bf,aF,Option.some.injEq] at aa;subst aa;obtain ⟨h1,yF,ak⟩:=(av 0 y v rfl rfl).lp (λ_ h=>h) kX bf;obtain ⟨aN,P5,bP⟩:=H_ kX (by simpa using ao) (λk y' hA ay hv=>av (k+1) y' hA ay hv) aF;refine ⟨by simp [h1,aN],λk u hu=>?_,λk x u J hu=>?_⟩
     ·simp only [List.flatMap_cons] at hu;by_cases hk:k<v.cells.toList.length
      ·rw [List.getElem?_append_left hk] at hu;exact yF k u (by simpa using hu)
      ·rw [List.getElem?_append_right (by omega)] at hu;exact P5 _ u hu
     simp only [List.flatMap_cons] at hu;by_cases hk:k<a.length
     ·rw [List.getElem?_append_left hk] at J;rw [List.getElem?_append_left (by simp; omega)] at hu;exact ak k x u J (by simpa using hu)
     ·rw [List.getElem?_append_right (by omega)] at J;rw [List.getElem?_append_right (by simp; omega)] at hu;refine bP (k - a.length) x u J ?_;rw [<- hu]; simp [h1]
end
end Go.Own
namespace Go.Own
open Go
theorem Jm (off:Nat):∀ (l:List Value) (s:Nat) (arr:Array Value),off+s+l.length<=arr.size ->
  ((l.zipIdx s).foldl (λcs (x:Value × Nat)=>cs.setIfInBounds (off+x.2) x.1) arr).toList=arr.toList.take (off+s)++l++arr.toList.drop (off+s+l.length)
 | [],s,arr,h=>by simp
 | v::l,s,arr,h=>by
  simp only [List.length_cons] at h;rw [List.zipIdx_cons,List.foldl_cons,Jm off l (s+1) _ (by simp; omega)];simp only [Array.toList_setIfInBounds,List.length_cons];have h1:(arr.toList.set (off+s) v).take (off+(s+1))=arr.toList.take (off+s)++[v]:=by
   rw [show off+(s+1)=off+s+1 by omega,List.take_succ_eq_append_getElem (by simp; omega)];rw [List.take_set_of_le (Nat.le_refl _)];simp
  have ak:(arr.toList.set (off+s) v).drop (off+(s+1)+l.length)=arr.toList.drop (off+s+(l.length+1)):=by
   rw [List.drop_set_of_lt (by omega)];congr 1; omega
  rw [h1,ak];simp
theorem Jk {place:Nat->Option (Nat × Nat)}{i off size:Nat}(aE:place i=some (off,size)) {arr:Array Value}{v:Value}(h1:v.cells.size=size) (ak:off+v.cells.size<=arr.size) (rest:List (Nat × Value)) :
  ∃ i':Array Value,Instr.fill place arr ((i,v)::rest)=Instr.fill place i' rest/\i'.toList=arr.toList.take off++v.cells.toList++arr.toList.drop (off+v.cells.size):=by
 refine ⟨_,by simp only [Instr.fill,aE]; rw [if_neg (by simp; omega)],?_⟩;have:=Jm off v.cells.toList 0 arr (by simpa using ak);rw [<- Array.foldl_toList,Array.toList_zipIdx];simpa using this
theorem Jj (z:Nat):∀ (vs:List Value) (k:Nat) (arr:Array Value) (done rest:List Value),(∀ v∈vs,v.cells.size=z)->arr.toList=done++rest->done.length=k * z->rest.length=vs.length * z ->
  ∃ i':Array Value,Instr.fill (λi=>some (i * z,z)) arr (vs.mapIdx λi v=>(k+i,v))=some i'/\i'.toList=done++vs.flatMap λv=>v.cells.toList
 | [],k,arr,done,rest,_,h1,ak,aN=>by
  have:rest=[]:=List.eq_nil_of_length_eq_zero (by simpa using aN);subst this;exact ⟨arr,rfl,by simpa using h1⟩
 | v::vs,k,arr,done,rest,bB,h1,ak,aN=>by
  have hv:=bB v (by simp);have hlen:arr.size=done.length+rest.length:=by rw [<- Array.length_toList,h1,List.length_append]
  simp only [List.length_cons,Nat.add_mul,Nat.one_mul] at aN;rw [List.mapIdx_cons];obtain ⟨A4,de,cX⟩:=Jk (place:=λi=>some (i * z,z)) (i:=k+0) (off:=k * z) (size:=z) (by simp) (arr:=arr) (v:=v) hv (by omega) ((vs.mapIdx λi v=>(k+(i+1),v)));have rH:A4.toList=(done++v.cells.toList)++rest.drop z:=by
   rw [cX,h1,<- ak,List.take_left,hv,List.drop_append];simp
  obtain ⟨i',iN,qN⟩:=Jj z vs (k+1) A4 (done++v.cells.toList) (rest.drop z) (λu hu=>bB u (by simp [hu])) rH (by simp [ak,hv,Nat.add_mul]) (by simp; omega);refine ⟨i',?_,by rw [qN]; simp⟩;rw [de,<- iN];congr 1;congr 1;funext i u;congr 1; omega
theorem Dp {vs:Array Value}(h:vs.all Value.oneCell'=true):∀ (k:Nat) (u:Value),vs[k]?=some u->u.oneCell'=true :=
 λ_ u hu=>Array.all_eq_true_iff_forall_mem.1 h u (Array.mem_of_getElem? hu)
theorem Dz {P:Program}{e:TypeId}{z:Value}(h:(P.info? e).bind (·.zero)=some z) (w:World):(zeroValue e).run P w=.ok z w:=by
 cases hi:P.info? e with
 | none=>simp [hi] at h
 | some i=>simp [hi] at h; simp [zeroValue,typeInfo,hi,h]
theorem Jq {α:Type}(l:List α):∀ (n k:Nat),k<n * l.length->(List.replicate n l).flatten[k]?=l[k % l.length]?
 | 0,k,h=>by simp at h
 | n+1,k,h=>by
  rw [List.replicate_succ,List.flatten_cons];by_cases hk:k<l.length
  ·rw [List.getElem?_append_left hk,Nat.mod_eq_of_lt hk]
  ·rw [List.getElem?_append_right (by omega),Jq l n (k - l.length) (by rw [Nat.add_mul] at h; omega)];rw [<- Nat.mod_eq_sub_mod (by omega)]
section
variable {P:Program}{w:World}{I:bn}{T:Array Value}{g:aU}{Fs:Nat->bn}
theorem NJ {ys cs:List af}{z:Nat}(bB:∀ y∈ys,∃ c,lp y=some c/\c.length=z) (aa:oh ys=some cs):cs.length=ys.length * z:=by
 induction ys generalizing cs with
 | nil=>simp [oh] at aa; subst aa; simp
 | cons y ys aS =>
  obtain ⟨c,h1,ak⟩:=bB y (by simp);simp only [oh,h1] at aa;cases aF:oh ys with
  | none=>simp [aF] at aa
  | some b =>
   simp only [aF,Option.some.injEq] at aa;subst aa;rw [List.length_append,aS (λy ay=>bB y (by simp [ay])) aF,ak,List.length_cons,Nat.add_mul];omega
theorem n5.sound (h:cV w I T g Fs) {a:Act}(bf:a.tmps=T) {o:Oper}{jY:af}(aE:n5 P g o.op o.type jY) :
  ∃ v qi,(execOp a.eval o).run P w=.ok (.value v) (w.alloc qi)/\R (w.alloc qi) I (ed (w.alloc qi) T g) jY v (λc=>c=w.heap.size):=by
 obtain ⟨dst,op,ty,pos,after,guard⟩:=o;simp only at aE;have lb:∀ (qi:Obj) {x:af}{v:Value},R w I (ed w T g) x v cR->R (w.alloc qi) I (ed (w.alloc qi) T g) x v cR:=λqi _ _ bg=>R.alloc h qi bg λ_ h=>h.elim;cases aE with
 | @box e _ x y cs J aa =>
  have ay:=kK h J bf;obtain ⟨h1,yF,ak⟩:=ay.lp (λ_ h=>h) (λ_ _ J av=>av.CC J) aa;refine ⟨_,.cells (a.eval x).cells e,by simp [execOp,Instr.box,newVar,newRow],R.K3 (e:=e) (rz w _) h1 yF λk x u J hu=>lb _ (ak k x u J hu)⟩
 | @alloc e _ z bB gE =>
  refine ⟨_,.cells z.cells e,by simp [execOp,Instr.alloc,newVar,newRow,Dz bB],R.K3 (e:=e) (rz w _) (by simp) (Dp gE) λk x u J hu=>lb _ (K4 k x u J (by simpa using hu))⟩
 | @makeMap t _ q bK =>
  have Fk:(Instr.makeMap t none).run P w=.ok (.map (some w.heap.size)) (w.alloc (.map #[] 0)):=rfl;exact ⟨.map (some w.heap.size),.map #[] 0,by simp [execOp,Fk],.mp (rz w _) bK λc=>Iff.rfl⟩
 | @buildSlice t e _ z parts xs ys cs aC aE J bB aa aF Fo hzero =>
  obtain ⟨hu,he,fZ⟩:=oZ (w:=w) aC;obtain ⟨ao,av⟩:=xb h bf J;have hx:=NJ bB aa;have Se:∀ v∈xs.map a.eval,v.cells.size=z:=by
   intro v hv;obtain ⟨x,FN,rfl⟩:=List.mem_map.1 hv;obtain ⟨k,hk,rfl⟩:=List.mem_iff_getElem.1 FN;have l9:ys[k]?=some (ys[k]'(by omega)):=List.getElem?_eq_getElem (by omega);obtain ⟨c,h1,ak⟩:=bB _ (List.getElem_mem (l:=ys) (n:=k) (by omega));obtain ⟨aN,_,_⟩:=(av k _ _ l9 (List.getElem?_eq_getElem hk)).lp (λ_ h=>h) (λ_ _ J av=>av.CC J) h1;rw [<- aN,ak]
  obtain ⟨ec,SH⟩:∃ ec:Array Value,(xs.length * z=0/\ec=#[])\/(xs.length * z≠0/\∃ v,ec=v.cells/\(zeroValue e).run P w=.ok v w):=by
   by_cases ba:xs.length * z=0
   ·exact ⟨#[],.inl ⟨ba,rfl⟩⟩
   ·rcases hzero with h1 | ⟨v,h1,ak⟩
    ·exact absurd h1 ba
    ·exact ⟨v.cells,.inr ⟨ba,v,rfl,Dz h1 w⟩⟩
  obtain ⟨arr,de,cX⟩:=Jj z (xs.map a.eval) 0 ((Array.range (xs.length * z)).map (ec[· % ec.size]!)) [] ((Array.range (xs.length * z)).map (ec[· % ec.size]!)).toList Se (by simp) (by simp) (by simp);have Kn:(parts.map λ(p:Nat × Operand)=>(p.1,a.eval p.2)).toList=(xs.map a.eval).mapIdx λi v=>(0+i,v):=by
   rw [Array.toList_map,aE];apply List.ext_getElem?;intro k;simp only [List.getElem?_map,List.getElem?_mapIdx];cases xs[k]? <;> simp
  obtain ⟨hy,nO,Rf⟩:=H_ (ρ:=ed w T g) (λ_ _ J av=>av.CC J) (ys:=ys) (vs:=xs.map a.eval) (by simp [ao]) (λk y v ay hv=>by
   rw [List.getElem?_map] at hv;cases oN:xs[k]? with
   | none=>simp [oN] at hv
   | some x=>simp [oN] at hv; subst hv; exact av k y x ay oN) aa
  have sU:arr.toList=(xs.map a.eval).flatMap λv=>v.cells.toList:=by simpa using cX
  have R2:arr.size=xs.length * z:=by rw [<- Array.length_toList,sU,<- hy,hx,ao]
  have hU:(execOp a.eval { dst:=dst,op:=.buildSlice t xs.length parts,type:=ty,pos:=pos,after:=after,guard:=guard }).run P w=.ok (.value (.slice (some ⟨w.heap.size,0,none⟩) xs.length xs.length)) (w.alloc (.cells arr e)):=by
   have hle:¬ (16777216<xs.length * z):=by omega
   rcases SH with ⟨ba,rfl⟩ | ⟨ba,v,rfl,SG⟩
   ·simp only [ba] at de;rw [<- Kn] at de;simp at de;simp [execOp,Instr.buildSlice,run_underlying hu,fZ,ba,de,newRow]
   ·rw [<- Kn] at de;simp at de;simp [execOp,Instr.buildSlice,run_underlying hu,fZ,ba,hle,SG,de,newRow]
  refine ⟨_,_,hU,R.La (e:=e) (arr:=arr) (rz w _) (Nat.le_refl _) ?_ R2 (by rw [hx,ao]) (λk u hu=>nO k u (by rw [<- sU]; simpa using hu)) λk x u J hu=>lb _ (Rf k x u J ?_)⟩
  ·unfold maxLen; omega
  ·rw [<- sU]; simpa using hu
 | @makeSlice t e _ x y z n b zr r5 ec aC J ay hzero gE nm aF aJ nP vF r2 Ch =>
  obtain ⟨hu,he,fZ⟩:=oZ (w:=w) aC;have h1:=(kK h J bf).hV.1;have ak:=(kK h ay bf).hV.1;cases hi:P.info? e with
  | none=>simp [hi] at aF
  | some i =>
   simp [hi] at aF hzero;have E5:i.size=z:=by
    unfold e' at aC;rw [hu] at aC;simp [hi] at aC;exact aC
   have BU:(i.bytes:Int) * (n:Int)<=281474976710656:=by
    have:((b * n:Nat):Int)<=281474976710656:=by have:=Nat.mul_comm n b; omega
    rw [aF,<- Int.natCast_mul]; exact this
   have av:=run_make (P:=P) w t e i ec hu hi hzero zr r5 n n (by omega) (Int.le_refl _) BU (by omega);simp only [Int.toNat_natCast] at av;refine ⟨_,.cells (madeCells ec.cells (n * i.size)) e,by simp [execOp,h1,ak,av],R.La (e:=e) (rz w _) (Nat.le_refl _) (by unfold maxLen; omega) (by rw [size_madeCells,E5]) (by simp [nm,r2]) (λk u hu=>?_) λk x u J hu=>?_⟩
   ·rw [madeCells,Array.getElem?_map,Array.getElem?_range] at hu
    split at hu
    ·rename_i hk;have ba:0<ec.cells.size:=by
      rcases Nat.eq_zero_or_pos ec.cells.size with h | h
      ·rw [E5,<- nm,h] at hk; simp at hk
      ·exact h
     have hm:k % ec.cells.size<ec.cells.size:=Nat.mod_lt _ ba;simp only [Option.map_some,Option.some.injEq] at hu;rw [<- hu,show ec.cells[k % ec.cells.size]! = ec.cells[k % ec.cells.size] by simp [hm]];exact Dp gE _ _ (Array.getElem?_eq_getElem hm)
    ·cases hu
   have hk:k<n * ec.cells.size:=by
    have:=(List.getElem?_eq_some_iff.1 J).1;simpa [Nat.mul_comm,r2] using this
   have ba:0<ec.cells.size:=by
    rcases Nat.eq_zero_or_pos ec.cells.size with h | h
    ·rw [h] at hk; simp at hk
    ·exact h
   have hm:k % ec.cells.size<ec.cells.size:=Nat.mod_lt _ ba;rw [Jq _ n k (by simpa [r2] using hk),r2] at J;rw [madeCells,Array.getElem?_map,Array.getElem?_range,if_pos (by rw [E5,<- nm]; exact hk)] at hu;simp only [Option.map_some,Option.some.injEq] at hu;have fw:ec.cells[k % ec.cells.size]! = ec.cells[k % ec.cells.size]:=by simp [hm]
   rw [fw] at hu;subst hu;rcases Ch _ _ x (Array.getElem?_eq_getElem hm) J with rfl | ⟨h1,cD,rfl⟩
   ·exact lb _ (zK _)
   ·have bg:=zK (w:=w) (I:=I) (ρ:=ed w T g) ec.cells[k % ec.cells.size];rw [h1] at bg;rw [bg.qe];exact .hz λ_ h=>h
def Cells (w:World) (I:bn) (ρ:af->Value->Prop) (cs:List af) (vs:List Value):Prop :=
 cs.length=vs.length/\(∀ (k:Nat) (u:Value),vs[k]?=some u->u.oneCell'=true)/\∀ (k:Nat) (x:af) (u:Value),cs[k]?=some x->vs[k]?=some u->R w I ρ x u cR
theorem Cells.append {ρ:af->Value->Prop}{a b:List af}{u v:List Value}(h:Cells w I ρ a u) (aR:Cells w I ρ b v):Cells w I ρ (a++b) (u++v):=by
 refine ⟨by simp [h.1,aR.1],λk y ay=>?_,λk x y J ay=>?_⟩
 ·by_cases hk:k<u.length
  ·rw [List.getElem?_append_left hk] at ay; exact h.2.1 k y ay
  ·rw [List.getElem?_append_right (by omega)] at ay; exact aR.2.1 _ y ay
 ·by_cases hk:k<a.length
  ·rw [List.getElem?_append_left hk] at J;rw [List.getElem?_append_left (by rw [<- h.1]; exact hk)] at ay;exact h.2.2 k x y J ay
  ·rw [List.getElem?_append_right (by omega)] at J;rw [List.getElem?_append_right (by rw [<- h.1]; omega)] at ay;exact aR.2.2 _ x y J (by rw [h.1]; exact ay)
theorem Cells.take {ρ:af->Value->Prop}{a:List af}{u:List Value}(h:Cells w I ρ a u) (n:Nat):Cells w I ρ (a.take n) (u.take n):=by
 refine ⟨by simp [h.1],λk y ay=>?_,λk x y J ay=>?_⟩
 ·rw [List.getElem?_take] at ay
  split at ay
  ·exact h.2.1 k y ay
  ·cases ay
 ·rw [List.getElem?_take] at J ay
  split at J
  ·rename_i hk; rw [if_pos hk] at ay; exact h.2.2 k x y J ay
  ·cases J
theorem Cells.drop {ρ:af->Value->Prop}{a:List af}{u:List Value}(h:Cells w I ρ a u) (n:Nat):Cells w I ρ (a.drop n) (u.drop n):=by
 refine ⟨by simp [h.1],λk y ay=>?_,λk x y J ay=>?_⟩
 ·rw [List.getElem?_drop] at ay; exact h.2.1 _ y ay
 ·rw [List.getElem?_drop] at J ay;exact h.2.2 _ x y J ay
theorem Ji {ρ:af->Value->Prop}{place:Nat->Option (Nat × Nat)}:∀ (ps:List (Nat × List af)) (ri:List (Nat × Value)) {cells cs:List af}{arr:Array Value},Cells w I ρ cells arr.toList ->
  ps.map (·.1)=ri.map (·.1)->(∀ (k:Nat) (p:Nat × List af) (q:Nat × Value),ps[k]?=some p->ri[k]?=some q->Cells w I ρ p.2 q.2.cells.toList)->wG place cells ps=some cs ->
  ∃ i':Array Value,Instr.fill place arr ri=some i'/\Cells w I ρ cs i'.toList
 | [],ri,cells,cs,arr,aa,hk,_,bh=>by
  cases ri with
  | nil=>simp only [wG,Option.some.injEq] at bh; subst bh; exact ⟨arr,rfl,aa⟩
  | cons=>simp at hk
 | (i,c)::ps,ri,cells,cs,arr,aa,hk,av,bh=>by
  cases ri with
  | nil=>simp at hk
  | cons q ri =>
   obtain ⟨ae,v⟩:=q;simp only [List.map_cons,List.cons.injEq] at hk;obtain ⟨rfl,hk⟩:=hk;have ba:=av 0 _ _ rfl rfl;simp only [wG] at bh;cases aE:place i with
   | none=>simp [aE] at bh
   | some os =>
    obtain ⟨off,size⟩:=os;simp only [aE] at bh
    split at bh
    ·rename_i VI;have hlen:v.cells.size=c.length:=by rw [<- Array.length_toList]; exact ba.1.symm
     have VV:arr.size=cells.length:=by rw [<- Array.length_toList]; exact aa.1.symm
     obtain ⟨A4,de,cX⟩:=Jk (arr:=arr) (v:=v) aE (by omega) (by omega) ri;have nO:Cells w I ρ (cells.take off++c++cells.drop (off+c.length)) A4.toList:=by
      rw [cX,hlen];exact ((aa.take off).append ba).append (aa.drop _)
     obtain ⟨i',iN,qN⟩:=Ji ps ri nO hk (λk p q aE bK=>av (k+1) p q aE bK) bh;exact ⟨i',by rw [de,iN],qN⟩
    ·cases bh
theorem Lc (h:cV w I T g Fs) {a:Act}(bf:a.tmps=T):∀ {l:List (Nat × Operand)}{ps:List (Nat × List af)},qk g l=some ps ->
  ps.map (·.1)=(l.map λp=>(p.1,a.eval p.2)).map (·.1)/\∀ (k:Nat) (p:Nat × List af) (q:Nat × Value),ps[k]?=some p->(l.map λp=>(p.1,a.eval p.2))[k]?=some q->Cells w I (ed w T g) p.2 q.2.cells.toList
 | [],ps,aE=>by simp only [qk,Option.some.injEq] at aE; subst aE; simp
 | (i,x)::l,ps,aE=>by
  simp only [qk] at aE;cases J:bI g x with
  | none=>simp [J] at aE
  | some y =>
   cases ao:qk g l with
   | none=>simp [J,ao] at aE
   | some Wj =>
    simp only [J,ao,Option.map_eq_some_iff] at aE;obtain ⟨c,aa,rfl⟩:=aE;obtain ⟨h1,ak⟩:=Lc h bf ao;refine ⟨by simp [h1],λk p q aE bK=>?_⟩;cases k with
    | zero =>
     simp at aE bK;subst aE bK;obtain ⟨aN,P3,bP⟩:=(kK h J bf).lp (λ_ h=>h) (λ_ _ J av=>av.CC J) aa;exact ⟨by simpa using aN,λk u hu=>P3 k u (by simpa using hu),λk x u J hu=>bP k x u J (by simpa using hu)⟩
    | succ k=>simp at aE bK; exact ak k p q aE (by simpa using bK)
theorem Uf {t:TypeId}{pl:List (Nat × Nat)}(h:kM P t pl=true):∃ fs,P.underlying t=some (.struct fs)/\fs.toList.mapM (λf=>(P.info? f.type).map λi=>(f.offset,i.size))=some pl:=by
 unfold kM at h;cases hu:P.underlying t with
 | none=>simp [hu] at h
 | some d =>
  cases d <;> simp only [hu,Bool.false_eq_true] at h;rename_i fs;refine ⟨fs,rfl,?_⟩;replace h:=LawfulBEq.eq_of_beq h;generalize fs.toList=l at h
  induction l generalizing pl with
  | nil=>cases pl with
   | nil=>rfl
   | cons=>simp at h
  | cons f l aS =>
   cases pl with
   | nil=>simp at h
   | cons p pl =>
    obtain ⟨o,s⟩:=p;simp only [List.map_cons,List.cons.injEq,Prod.mk.injEq] at h;obtain ⟨⟨rfl,h1⟩,ak⟩:=h;have:=aS ak;rw [List.mapM_cons,this];cases hi:P.info? f.type with
    | none=>simp [hi] at h1
    | some i=>simp [hi] at h1; subst h1; rfl
theorem sB.sound (h:cV w I T g Fs) {a:Act}(bf:a.tmps=T) {o:Oper}{jY:af}(aE:sB P g o.op o.type jY) :
  ∃ v,(execOp a.eval o).run P w=.ok (.value v) w/\R w I (ed w T g) jY v cR:=by
 obtain ⟨dst,op,ty,pos,after,guard⟩:=o;simp only at aE;cases aE with
 | @build t _ parts pl ec ps cs aC bB gE aE aa =>
  obtain ⟨fs,hu,uJ⟩:=Uf aC;obtain ⟨h1,ak⟩:=Lc h bf aE;obtain ⟨i',de,cX⟩:=Ji (w:=w) (I:=I) (ρ:=ed w T g) (place:=λi=>pl[i]?) ps _ (arr:=ec.cells) ⟨by simp,λk u hu=>Dp gE k u (by simpa using hu),λk x u J hu=>K4 k x u J hu⟩ h1 ak aa;refine ⟨.agg i',?_,.agg (Fs:=λ_=>cR) (by simpa using cX.1) (λk u hu=>cX.2.1 k u (by simpa using hu)) (λk x u J hu=>cX.2.2 k x u J (by simpa using hu)) (λ_ _ _ _ _ h=>h.elim) (λc=>⟨λh=>h.elim,λ⟨_,_,h⟩=>h⟩)⟩;have V4:=run_places (P:=P) w fs.toList pl uJ;have aF:P.built t ((parts.map λ(p:Nat × Operand)=>(p.1,a.eval p.2))).toList=some i':=by
   rw [Array.toList_map];cases hi:P.info? t with
   | none=>simp [hi] at bB
   | some it =>
    simp [hi] at bB;simp only [Program.built,hu,uJ,hi,bB];simpa using de
  have:=run_build (P:=P) w t _ _ aF;simp only [execOp,Sem.run_bind];have hm:(parts.map λ(x:Nat × Operand)=>match x with | (i,x)=>(i,a.eval x))=parts.map λ(p:Nat × Operand)=>(p.1,a.eval p.2):=rfl
  rw [hm,this];rfl
 | @makeFunc fn first caps _ V9 F_ h1 ak =>
  obtain ⟨ar,a2⟩:=xb h bf h1;obtain ⟨hq,h2⟩:=xb h bf ak;refine ⟨.func fn (first.map a.eval) (caps.map a.eval),by simp [execOp,Instr.makeFunc],.ea (λ_ h=>h) (by simpa using ar) (by simpa using hq) (λk x u J hu=>?_) (λk x u J hu=>?_)⟩
  ·rw [Array.getElem?_map] at hu;cases hk:first[k]? with
   | none=>simp [hk] at hu
   | some y=>simp [hk] at hu; subst hu; exact a2 k x y J (by simpa using hk)
  ·rw [Array.getElem?_map] at hu;cases hk:caps[k]? with
   | none=>simp [hk] at hu
   | some y=>simp [hk] at hu; subst hu; exact h2 k x y J (by simpa using hk)
end
end Go.Own
namespace Go.Own
open Go
structure AK (w w':World) (bv hA:Value) (e cX:TypeId) (z n m:Nat) (us news:List Value):Prop where
 lb:w'.ownsRow 0 e z bv n us
 new:w'.ownsRow 0 cX z hA (n+m) (us++news)
 fp:Fr w w' (λc=>bv.ownBlock=some c)
 A':∀ c,hA.ownBlock=some c->bv.ownBlock=some c\/w.heap.size<=c
 sp:∀ c,bv.ownBlock=some c->∃ arr i':Array Value,w.heap[c]?=some (.cells arr e (0,0))/\w'.heap[c]?=some (.cells i' e (0,0))/\i'.size=arr.size/\i'.toList.take (n * z)=arr.toList.take (n * z)
section
variable {P:Program}{w:World}
theorem AK.same {bv hA:Value}{e cX:TypeId}{z n m:Nat}{us news:List Value}{w':World}(kD:w.ownsRow 0 e z bv n us) (aF:∀ c,c<w.heap.size->w'.heap[c]?=w.heap[c]?) (aL:w.heap.size<=w'.heap.size)
  (h1:w'.os=w.os) (ak:w'.tape=w.tape) (aN:w'.output=w.output) (p6:w'.ownsRow 0 cX z hA (n+m) (us++news)) (hblk:∀ c,hA.ownBlock=some c->bv.ownBlock=some c\/w.heap.size<=c) (pk:∀ a,w'.frozen? a=w.frozen? a) (Ri:w.drawn<=w'.drawn:=by first | exact Nat.le_refl _ | exact Nat.le_succ _):AK w w' bv hA e cX z n m us news:=by
 have a8:=kD.lt;refine ⟨tq kD λc aa=>aF c (a8 c aa).2,p6,⟨h1,ak,aN,aL,λb ke _=>aF b ke,λa _=>pk a,Ri⟩,hblk,λc aa=>?_⟩;obtain ⟨_,b_⟩:=kD;rcases b_ with ⟨rfl,_⟩ | ⟨b,cap,cur,rfl,_,aY,_⟩
 ·simp [Value.ownBlock] at aa
 ·simp only [Value.ownBlock,Option.some.injEq] at aa;subst aa;exact ⟨cur,cur,aY,(aF _ (a8 b rfl).2).trans aY,rfl,rfl⟩
theorem TS (t ty e cO:TypeId) (i:TypeInfo) (aC:P.underlying t=some (.slice e)) (hi:P.info? e=some i)
  (b vu GM:Nat) (cur:Array Value) (aY:w.heap[b]?=some (.cells cur cO (0,0)))
  (a:Addr) (m c:Nat) (news:List Value) (ao:news.length=m * i.size) (rV:∀ ae u,news[ae]?=some u->w.cell? (a.add ae)=some u) (h1:∀ u∈news,u.oneCell'=true)
  (zd:vu+m<=GM) (E3:vu * i.size+news.length<=cur.size) :
  (Builtin.append_ #[t,t] ty #[.slice (some ⟨b,0,none⟩) vu GM,.slice (some a) m c]).run P w =
   .ok (.slice (some ⟨b,0,none⟩) (vu+m) GM) (w.setRow b (cur.toList.take (vu * i.size)++news++cur.toList.drop (vu * i.size+news.length)).toArray):=by
 have bh:=run_firstCells_some (P:=P) w i.size m a m c news ao rV;have cd:=run_storeCells_at P b (vu * i.size) cO news 0 cur w aY (by simpa using E3) h1;simp only [Nat.add_zero] at cd;simp [Builtin.append_,run_underlying aC,sizeOf,typeInfo,hi,Builtin.lenOf,zd,bh,Addr.add_lit,cd]
theorem LB (t ty e cO:TypeId) (i:TypeInfo) (ec:Value) (aC:P.underlying t=some (.slice e)) (hi:P.info? e=some i) (bB:i.zero=some ec) (nm:ec.cells.size=i.size) (_h0:0<i.size)
  {bv:Value}{n m c:Nat}{us news:List Value}(kD:w.ownsRow 0 cO i.size bv n us) {a:Option Addr}(bf:0<m->a.isSome=true)
  (ao:news.length=m * i.size) (rV:∀ ad,a=some ad->∀ (ae:Nat) (u:Value),news[ae]?=some u->w.cell? (ad.add ae)=some u) (h1:∀ u∈news,u.oneCell'=true)
  (pf:n+m<=maxLen) (BU:(n+m) * i.bytes<=140737488355328) :
  ∃ hA w' cX,(Builtin.append_ #[t,t] ty #[bv,.slice a m c]).run P w=.ok hA w'/\AK w w' bv hA cO cX i.size n m us news:=by
 have l8:=kD.1;by_cases hm:m=0
 ·subst hm;have aJ:news=[]:=List.eq_nil_of_length_eq_zero (by simpa using ao);subst aJ;refine ⟨bv,w,cO,?_,.same kD (λ_ _=>rfl) (Nat.le_refl _) rfl rfl rfl (by simpa using kD) (λc aa=>.inl aa) λ_=>rfl⟩;obtain ⟨_,b_⟩:=kD;rcases b_ with ⟨rfl,rfl⟩ | ⟨b,cap,cur,rfl,_,aY,hle,_⟩
  ·cases a <;> simp [Builtin.append_,run_underlying aC,sizeOf,typeInfo,hi,Builtin.lenOf,Builtin.firstCells,loadCells,loadCellsFrom]
  ·cases a <;> simp [Builtin.append_,run_underlying aC,sizeOf,typeInfo,hi,Builtin.lenOf,Builtin.firstCells,loadCells,loadCellsFrom,hle,storeCells]
 ·cases a with
  | none=>simp at bf; omega
  | some ad =>
   replace rV:=rV ad rfl;have V5:n+m<=9223372036854775807:=by simp only [maxLen] at pf; omega
   have grown:∀ (lb:Nat),lb<n+m ->
     (w.drew.alloc (.cells (us.toArray++news.toArray++Builtin.zeroCells ec.cells (grownCap w (n+m) lb e - (n+m))) e)).ownsRow 0 e i.size (.slice (some ⟨w.heap.size,0,none⟩) (n+m) (grownCap w (n+m) lb e)) (n+m) (us++news):=by
    intro lb bd;have dM:=grownCap_ge w (n+m) lb e;have hlen:(us++news).length=(n+m) * i.size:=by rw [List.length_append,l8,ao,Nat.add_mul]
    refine ⟨hlen,.inr ⟨w.heap.size,_,_,rfl,Nat.zero_le _,rz w.drew _,dM,grownCap_le_maxLen w (n+m) lb e pf,?_,?_⟩⟩
    ·simp only [Array.size_append,List.size_toArray,size_zeroCells,nm,l8,ao,<- Nat.add_mul];congr 1;omega
    ·simp only [Array.toList_append,List.append_assoc];rw [<- List.append_assoc,<- hlen];exact List.take_left
   have Fp:=kD;obtain ⟨_,b_⟩:=kD;rcases b_ with ⟨rfl,rfl⟩ | ⟨b,cap,cur,rfl,_,aY,hle,nh,hy,Kw⟩
   ·have J:us=[]:=List.eq_nil_of_length_eq_zero (by simpa using l8);subst J;have av:=run_append_nil (P:=P) w t ty e i ec aC hi bB ad m c news ao rV (by omega) (by omega) (by simp only [Nat.zero_add] at BU; omega);have p3:=grown 0 (by omega);simp only [Nat.zero_add,List.nil_append,Array.empty_append] at p3;exact ⟨_,_,e,av,.same Fp (λc aa=>qE w.drew _ c aa) (by simp) rfl rfl rfl (by simpa using p3) (λc aa=>.inr (by simp [Value.ownBlock] at aa; omega)) (λa=>Ee w.drew _ _ a)⟩
   ·by_cases zd:n+m<=cap
    ·have E3:n * i.size+news.length<=cur.size:=by rw [ao,hy,<- Nat.add_mul]; exact Nat.mul_le_mul_right _ zd
     have av:=TS (P:=P) (w:=w) t ty e cO i aC hi b n cap cur aY ad m c news ao rV h1 zd E3;have hlen:(us++news).length=(n+m) * i.size:=by rw [List.length_append,l8,ao,Nat.add_mul]
     have fZ:(cur.toList.take (n * i.size)++news++cur.toList.drop (n * i.size+news.length)).toArray.size=cur.size:=by
      simp only [List.size_toArray,List.length_append,List.length_take,List.length_drop,Array.length_toList];omega
     have fV:(cur.toList.take (n * i.size)++news++cur.toList.drop (n * i.size+news.length)).take (n * i.size)=cur.toList.take (n * i.size):=by
      rw [List.append_assoc];exact List.take_left' (by simp; omega)
     refine ⟨_,_,cO,av,⟨⟨l8,.inr ⟨b,cap,_,rfl,Nat.zero_le _,setRow_heap w b cur _ cO _ aY,hle,nh,fZ.trans hy,?_⟩⟩,⟨hlen,.inr ⟨b,cap,_,rfl,Nat.zero_le _,setRow_heap w b cur _ cO _ aY,zd,nh,fZ.trans hy,?_⟩⟩,
      ⟨rfl,rfl,rfl,by simp,λk _ hk=>setRow_other w b k _ (λe=>hk (by simp [Value.ownBlock,e])),λa _=>Eg w b _ a,Nat.le_refl _⟩,λc aa=>.inl aa,λc aa=>?_⟩⟩
     ·rw [<- Kw]; exact fV
     ·rw [Kw,<- hlen];exact List.take_left
     ·simp only [Value.ownBlock,Option.some.injEq] at aa;subst aa;exact ⟨cur,_,aY,setRow_heap w b cur _ cO _ aY,fZ,fV⟩
    ·have holds:∀ (ae:Nat) (u:Value),us[ae]?=some u->w.cell? ((⟨b,0,none⟩:Addr).add ae)=some u:=Fp.cells (g:=b) rfl;have av:=run_append_grow (P:=P) w t ty e i ec aC hi bB ⟨b,0,none⟩ n cap us l8 holds ad m c news ao rV (by omega) (by omega) (growslice_fits (by omega) BU);have p3:=grown cap (by omega);exact ⟨_,_,e,av,.same Fp (λc aa=>qE w.drew _ c aa) (by simp) rfl rfl rfl p3 (λc aa=>.inr (by simp [Value.ownBlock] at aa; omega)) (λa=>Ee w.drew _ _ a)⟩
end
end Go.Own
namespace Go.Own
open Go
section
variable {w w':World}{I:bn}{ρ ρ':af->Value->Prop}
theorem R.kids {x:af}{v:Value}{F:bn}(h:R w I ρ x v F) (J:x.kids≠[]):∃ Fs:Nat->bn,
  (∀ k y,x.kids[k]?=some y->∃ u,child w v k=some u/\R w I ρ y u (Fs k))/\(∀ (ae k c:Nat),ae<x.kids.length->k<x.kids.length->Fs ae c->Fs k c->ae=k) /\
  (∀ k c,k<x.kids.length->Fs k c->F c)/\(∀ z n cs,x=.own z n cs->∀ c,v.ownBlock=some c->∀ k,k<x.kids.length->¬ Fs k c):=by
 cases h with
 | @own z n cs _ e us Fs _ bd ao h1 av aV aF aP =>
  refine ⟨Fs,λk y hk=>?_,aV,λk c hk aa=>(aP c).2 (.inr ⟨k,hk,aa⟩),λ_ _ _ _ c aa k hk h=>aF k c hk h aa⟩;simp only [af.kids] at hk;have a8:k<cs.length:=(List.getElem?_eq_some_iff.1 hk).1;have hu:us[k]?=some us[k]:=List.getElem?_eq_getElem (ao ▸ a8);exact ⟨_,ns bd hu,av k y _ hk hu⟩
 | @obj cs b e arr Fs _ bd ao h1 av aV aF aP =>
  refine ⟨Fs,λk y hk=>?_,aV,λk c hk aa=>(aP c).2 (.inr ⟨k,hk,aa⟩),λ_ _ _ h=>by simp at h⟩;simp only [af.kids] at hk;have a8:k<cs.length:=(List.getElem?_eq_some_iff.1 hk).1;have hu:arr[k]?=some arr[k]:=Array.getElem?_eq_getElem (ao ▸ a8);exact ⟨_,by simp [child,World.cell?,bd,hu],av k y _ hk hu⟩
 | @agg cs vs Fs _ ao h1 av aV aP =>
  refine ⟨Fs,λk y hk=>?_,aV,λk c hk aa=>(aP c).2 ⟨k,hk,aa⟩,λ_ _ _ h=>by simp at h⟩;simp only [af.kids] at hk;have a8:k<cs.length:=(List.getElem?_eq_some_iff.1 hk).1;have hu:vs[k]?=some vs[k]:=Array.getElem?_eq_getElem (ao ▸ a8);exact ⟨_,by simp [child,hu],av k y _ hk hu⟩
 | @cr cs vs Fs _ ao av aV aP =>
  refine ⟨Fs,λk y hk=>?_,aV,λk c hk aa=>(aP c).2 ⟨k,hk,aa⟩,λ_ _ _ h=>by simp at h⟩;simp only [af.kids] at hk;have a8:k<cs.length:=(List.getElem?_eq_some_iff.1 hk).1;have hu:vs[k]?=some vs[k]:=Array.getElem?_eq_getElem (ao ▸ a8);exact ⟨_,by simp [child,hu],av k y _ hk hu⟩
 | ref f'=>cases x <;> simp [af.isRef,af.kids] at f' J
 | _=>simp [af.kids] at J
theorem af.sG {x y:af}{k:Nat}{p:List Nat}(h:x.at (k::p)=some y):∃ c,x.kids[k]?=some c/\c.at p=some y:=by
 simp only [af.at] at h;cases hk:x.kids[k]? with
 | none=>rw [hk] at h; cases h
 | some c=>rw [hk] at h; exact ⟨c,rfl,h⟩
theorem R.Gk {b:Nat}:∀ (q r:List Nat) {x:af}{v:Value}{F:bn}{z n cD cT:Nat}{cs cs':List af}{n1 Ay:Value},R w I ρ x v F->x.at q=some (.own z n cs)->x.at r=some (.own cD cT cs') ->
  walk w v q=some n1->walk w v r=some Ay->n1.ownBlock=some b->Ay.ownBlock=some b->q=r
 | [],[],_,_,_,_,_,_,_,_,_,_,_,_,_,_,_,_,_,_=>rfl
 | [],k::r,x,v,F,z,n,cD,cT,cs,cs',n1,Ay,h,bK,av,qv,wr,wg,wh=>by
  obtain ⟨c,hk,aa⟩:=af.sG av;simp only [af.at,Option.some.injEq] at bK;simp only [walk,Option.some.injEq] at qv;subst bK qv;have a8:k<(af.own z n cs).kids.length:=(List.getElem?_eq_some_iff.1 hk).1;obtain ⟨Fs,h1,ak,aN,bP⟩:=h.kids (by intro e; rw [e] at a8; simp at a8);obtain ⟨u,hu,lY⟩:=h1 k c hk;simp only [walk,hu] at wr;obtain ⟨ib,cG,hw,dL,dt,_⟩:=R.focus r lY aa;rw [hw] at wr;cases wr;exact absurd (dt b (dL.oV b wh)) (bP z n cs rfl b wg k a8)
 | ae::q,[],x,v,F,z,n,cD,cT,cs,cs',n1,Ay,h,bK,av,qv,wr,wg,wh=>by
  obtain ⟨c,hk,aa⟩:=af.sG bK;simp only [af.at,Option.some.injEq] at av;simp only [walk,Option.some.injEq] at wr;subst av wr;have a8:ae<(af.own cD cT cs').kids.length:=(List.getElem?_eq_some_iff.1 hk).1;obtain ⟨Fs,h1,ak,aN,bP⟩:=h.kids (by intro e; rw [e] at a8; simp at a8);obtain ⟨u,hu,lY⟩:=h1 ae c hk;simp only [walk,hu] at qv;obtain ⟨ib,cG,hw,dL,dt,_⟩:=R.focus q lY aa;rw [hw] at qv;cases qv;exact absurd (dt b (dL.oV b wg)) (bP cD cT cs' rfl b wh ae a8)
 | ae::q,k::r,x,v,F,z,n,cD,cT,cs,cs',n1,Ay,h,bK,av,qv,wr,wg,wh=>by
  obtain ⟨c,ab,aa⟩:=af.sG bK;obtain ⟨d,hk,aV⟩:=af.sG av;have e3:ae<x.kids.length:=(List.getElem?_eq_some_iff.1 ab).1;have dO:k<x.kids.length:=(List.getElem?_eq_some_iff.1 hk).1;obtain ⟨Fs,h1,ak,aN,bP⟩:=h.kids (by intro e; rw [e] at e3; simp at e3);obtain ⟨u,hu,lY⟩:=h1 ae c ab;obtain ⟨sq,fw,EF⟩:=h1 k d hk;simp only [walk,hu] at qv;simp only [walk,fw] at wr;by_cases ez:ae=k
  ·subst ez;rw [ab] at hk; cases hk;rw [hu] at fw; cases fw;rw [R.Gk q r lY aa aV qv wr wg wh]
  ·exfalso;obtain ⟨ib,cG,hw,dL,dt,_⟩:=R.focus q lY aa;obtain ⟨UM,iZ,uN,yM,Qo,_⟩:=R.focus r EF aV;rw [hw] at qv; cases qv;rw [uN] at wr; cases wr;exact ez (ak ae k b e3 dO (dt b (dL.oV b wg)) (Qo b (yM.oV b wh)))
theorem af.LR:∀ (q:List Nat) {x y:af},x.at q=some y->x.setAt q y=x
 | [],x,y,h=>by simp [af.at] at h; simp [af.setAt,h]
 | k::q,x,y,h=>by
  obtain ⟨c,hk,aa⟩:=af.sG h;simp only [af.setAt,hk,af.LR q aa];have:∀ (l:List af),l[k]?=some c->l.set k c=l:=by
   intro l ao;apply List.ext_getElem?;intro ae;by_cases ez:k=ae
   ·subst ez;have a8:k<l.length:=(List.getElem?_eq_some_iff.1 ao).1;rw [List.getElem?_set_self a8,ao]
   ·rw [List.getElem?_set_ne ez]
  cases x <;> simp [af.kids] at hk <;> simp [af.tD,this _ hk]
theorem AA (w:World):∀ (p:List Nat) (v:Value) (r:List Nat),walk w v (p++r)=(walk w v p).bind λu=>walk w u r
 | [],v,r=>rfl
 | k::p,v,r=>by
  simp only [List.cons_append,walk];cases child w v k with
  | none=>rfl
  | some u=>exact AA w p u r
theorem af.Dx:∀ (p:List Nat) (x:af) (r:List Nat),x.at (p++r)=(x.at p).bind λy=>y.at r
 | [],x,r=>rfl
 | k::p,x,r=>by
  simp only [List.cons_append,af.at];cases x.kids[k]? with
  | none=>rfl
  | some u=>exact af.Dx p u r
structure AY (w w':World) (b M:Nat):Prop where
 other:∀ c,c<w.heap.size->c≠b->w'.heap[c]?=w.heap[c]?
 here:∃ (arr i':Array Value) (e:TypeId),w.heap[b]?=some (.cells arr e (0,0))/\w'.heap[b]?=some (.cells i' e (0,0))/\i'.size=arr.size/\i'.toList.take M=arr.toList.take M
theorem AY.row {b M:Nat}(s:AY w w' b M) {e:TypeId}{z n:Nat}{v:Value}{us:List Value}(h:w.ownsRow 0 e z v n us) (aJ:v.ownBlock=some b->n * z<=M):w'.ownsRow 0 e z v n us:=by
 by_cases aF:v.ownBlock=some b
 ·obtain ⟨arr,i',de,h1,ak,aN,bP⟩:=s.here;obtain ⟨hu,b_⟩:=h;rcases b_ with ⟨rfl,rfl⟩ | ⟨g,cap,cur,rfl,aY,aa,sc,fX,tu,q6⟩
  ·simp [Value.ownBlock] at aF
  ·simp only [Value.ownBlock,Option.some.injEq] at aF;subst aF;rw [h1] at aa;cases aa;refine ⟨hu,.inr ⟨g,cap,i',rfl,aY,ak,sc,fX,by omega,?_⟩⟩;rw [<- q6];have:=congrArg (List.take (n * z)) bP
   rwa [List.take_take,List.take_take,Nat.min_eq_left (aJ rfl)] at this
 ·exact tq h λc aa=>s.other c (h.lt c aa).2 λe=>aF (e ▸ aa)
theorem R.spare {b M:Nat}(s:AY w w' b M) (bp:∀ c,I c->c<w.heap.size/\c≠b) (kX:∀ x v,ρ x v->ρ' x v) {x:af}{v:Value}{F:bn}(h:R w I ρ x v F) {q:List Nat}{z n:Nat}{cs:List af}{ib:Value}
  (fK:x.at q=some (.own z n cs)) (hw:walk w v q=some ib) (aF:ib.ownBlock=some b) (aJ:n * z<=M) :
  R w' I ρ' x v F/\∀ r y,x.at r=some y->walk w' v r=walk w v r:=by
 obtain ⟨UM,cG,uN,dL,dt,fN,kn⟩:=R.focus q h fK;rw [hw] at uN;cases uN;have ng:cG b:=dL.oV b aF;have a8:=h.lt;have same:∀ c,F c->c≠b->w'.heap[c]?=w.heap[c]?:=λc aa eh=>s.other c (a8 c aa) eh;have VD:=dL;cases dL with
 | ref J=>simp [af.isRef] at J
 | @own _ _ _ _ e us Fs _ bd ao h1 av aV jT aP =>
  have l4:=s.row bd λ_=>aJ;have eh:∀ k c,k<cs.length->Fs k c->c≠b:=λk c hk aa e=>jT k c hk aa (e ▸ aF);have jc:∀ k c,k<cs.length->Fs k c->F c:=λk c hk aa=>dt c ((aP c).2 (.inr ⟨k,hk,aa⟩));have p6:R w' I ρ' (.own z n cs) ib cG:=by
   refine .own l4 ao h1 (λk x u J hu=>?_) aV jT aP;have hk:k<cs.length:=(List.getElem?_eq_some_iff.1 J).1;exact (av k x u J hu).frame (λc aa=>s.other c (bp c aa).1 (bp c aa).2) (λ_ h=>h) kX λc aa=>same c (jc k c hk aa) (eh k c hk aa)
  constructor
  ·obtain ⟨fL,kd,nK⟩:=kn w' I ρ' _ cG ⟨λc aa=>s.other c (bp c aa).1 (bp c aa).2,λc aa aJ=>same c aa λe=>aJ (e ▸ ng),λ_ h=>h,kX⟩ p6 λc aa _=>aa;rw [af.LR q fK] at kd;refine kd.wo λc=>?_;rw [nK c];constructor
   ·rintro (⟨h,_⟩ | h)
    ·exact h
    ·exact dt c h
   ·intro h;by_cases aa:cG c
    ·exact .inr aa
    ·exact .inl ⟨h,aa⟩
  ·obtain ⟨jm,hZ⟩:=fN w' λc aa aJ=>same c aa λe=>aJ (e ▸ ng);intro r y eC;rcases hZ r y eC with ⟨eR,rfl⟩ | h
   ·rw [AA,AA,jm,hw];simp only [Option.bind_some];cases eR with
    | nil=>rfl
    | cons k eR =>
     rw [af.Dx,fK] at eC;obtain ⟨c,hk,aa⟩:=af.sG (x:=.own z n cs) eC;simp only [af.kids] at hk;have dO:k<cs.length:=(List.getElem?_eq_some_iff.1 hk).1;have hu:us[k]?=some us[k]:=List.getElem?_eq_getElem (ao ▸ dO);have:=R.n2 (w':=w') eR (av k c _ hk hu) aa λc aa=>same c (jc k c dO aa) (eh k c dO aa);simp [walk,ns bd hu,ns l4 hu,this]
   ·exact h
end
end Go.Own
namespace Go.Own
open Go
section
variable {w w':World}{I:bn}{T:Array Value}{g:aU}{Fs:Nat->bn}
theorem cV.GY (h:cV w I T g Fs) {t:Nat}{x:af}(J:g t=some x):∃ v,T[t]?=some v/\ef w T ⟨t,[]⟩=some v/\js w I (ed w T g) x v (Fs t):=by
 obtain ⟨v,hv,bg⟩:=h.rel t x J;exact ⟨v,hv,by simp [ef,hv,walk],bg⟩
theorem cV.app (h:cV w I T g Fs) {z n m:Nat}{p:Place}{bv hA:Value}{e cX:TypeId}{us news:List Value}(j4:ed w T g (.b3 z p n 0 []) bv)
  (gW:∀ t cD cT b6 c7,g t≠some (.b3 cD p cT b6 c7)) (A:AK w w' bv hA e cX z n m us news):cV w' I T g Fs/\∀ r v,ed w T g r v->ed w' T g r v:=by
 cases jT:bv.ownBlock with
 | none =>
  have same:∀ c,c<w.heap.size->w'.heap[c]?=w.heap[c]?:=λc aa=>A.fp.block c aa (by rw [jT]; simp);exact ⟨h.world (λt c aa=>same c (h.jL t c aa)) (λc aa=>same c (h.lt c aa)) A.fp.size,λr v av=>h.CR (λ_ _=>rfl) (λt c aa=>same c (h.jL t c aa)) (λ_ _ h=>h) av⟩
 | some b =>
  have s:AY w w' b (n * z):=by
   refine ⟨λc aa eh=>A.fp.block c aa (by rw [jT]; simpa using Ne.symm eh),?_⟩;obtain ⟨arr,i',h1,ak,aN,bP⟩:=A.sp b jT;exact ⟨arr,i',e,h1,ak,aN,bP⟩
  obtain ⟨t0,qV⟩:=h.A_ j4 b jT;have bp:∀ c,I c->c<w.heap.size/\c≠b:=λc aa=>⟨h.lt c aa,λe=>h.aD t0 b qV (e ▸ aa)⟩;obtain ⟨⟨tW,tX,EV,rfl⟩,eA⟩:=j4
  -- the home of the block
  have home:∃ N:Place->Prop,(∀ q cD cT cs' n1,b9 g q=some (.own cD cT cs')->ef w T q=some n1->n1.ownBlock=some b->N q) /\
    (∀ q,N q->∀ t cD cT b6 c7,g t=some (.b3 cD q cT b6 c7)->t=p.root/\p.path=[]) /\
    (∀ t cD gI cT b6 c7,Fs t b->g t=some (.b3 cD gI cT b6 c7)->t=p.root/\p.path=[]) /\
    (∀ cD gI cT b6 c7,p.path=[]->g p.root=some (.b3 cD gI cT b6 c7)->cD=z/\n=cT+b6) /\
    (∀ t x v,Fs t b->g t=some x->T[t]?=some v->R w I (ed w T g) x v (Fs t)->∃ q cD cT cs' ib,x.at q=some (.own cD cT cs')/\walk w v q=some ib/\ib.ownBlock=some b/\cT * cD<=n * z):=by
   rcases eA with ⟨cs,aE⟩ | ⟨jg,jN,lG,m1,Wd,cs,aE,aJ,y_⟩
   ·-- the base is a row of a tree
    obtain ⟨o0,o4,gF,ht,lx⟩:=h.part aE (by simp);rw [EV] at gF;cases gF;have l7:t0=p.root:=h.eT _ _ _ qV (lx b (ht.oV b jT));obtain ⟨fk,kF⟩:∃ fk,g p.root=some fk:=by
     unfold b9 at aE;cases J:g p.root with
     | none=>rw [J] at aE; cases aE
     | some x=>exact ⟨x,rfl⟩
    have p0:fk.at p.path=some (.own z n cs):=by simpa [b9,kF] using aE
    have kI:∀ cD gI cT b6 c7,g p.root≠some (.b3 cD gI cT b6 c7):=by
     intro cD gI cT b6 c7 b_;rw [kF] at b_;cases b_;have:=(af.rC p0).2;simp at this
    obtain ⟨v0,jh,gm⟩:=h.rel _ _ kF;have Ey:=gm.hE (λcD gI cT b6 c7 e=>kI cD gI cT b6 c7 (by rw [kF,e]));have zj:walk w v0 p.path=some (.slice tW n tX):=by simpa [ef,jh] using EV
    refine ⟨λq=>q=p,?_,?_,?_,?_,?_⟩
    ·intro q cD cT cs' n1 bK qX uC;obtain ⟨Mp,MN,tg,ED,Es⟩:=h.part bK (by simp);rw [qX] at tg;cases tg;have av:q.root=p.root:=(h.eT _ _ _ (Es b (ED.oV b uC)) qV).trans l7;have yP:fk.at q.path=some (.own cD cT cs'):=by simpa [b9,av,kF] using bK
     have FG:walk w v0 q.path=some n1:=by simpa [ef,av,jh] using qX
     have:=R.Gk q.path p.path Ey yP p0 FG zj uC jT;cases q; cases p; simp_all
    ·rintro q rfl t cD cT b6 c7 b_; exact absurd b_ (gW t cD cT b6 c7)
    ·intro t cD gI cT b6 c7 nS b_;have:t=p.root:=(h.eT _ _ _ nS qV).trans l7;rw [this] at b_;exact absurd b_ (kI _ _ _ _ _)
    ·intro cD gI cT b6 c7 _ b_; exact absurd b_ (kI _ _ _ _ _)
    ·intro t x v nS J hv bg;have:t=p.root:=(h.eT _ _ _ nS qV).trans l7;subst this;rw [kF] at J; cases J;rw [jh] at hv; cases hv;exact ⟨_,_,_,_,_,p0,zj,jT,Nat.le_refl _⟩
   ·-- the base is behind an append itself
    obtain ⟨v0,jh,zi,gm⟩:=h.GY aE;have R8:v0=.slice tW n tX:=by
     have:(⟨p.root,[]⟩:Place)=p:=by cases p; simp_all
     rw [this,EV] at zi;exact (Option.some.inj zi).symm
    subst R8;obtain ⟨NL,de,Vn,UH,Wf,gm⟩:=gm.tl;by_cases dh:NL.ownBlock=some b
    ·obtain ⟨⟨ar,Io,KC,rfl⟩,_⟩:=gm.j4;obtain ⟨n1,MN,qX,ED,Es⟩:=h.part y_ (by simp);rw [KC] at qX;cases qX;have l7:t0=jN.root:=h.eT _ _ _ qV (Es b (ED.oV b dh));obtain ⟨fk,kF⟩:∃ fk,g jN.root=some fk:=by
      unfold b9 at y_;cases J:g jN.root with
      | none=>rw [J] at y_; cases y_
      | some x=>exact ⟨x,rfl⟩
     have p0:fk.at jN.path=some (.own z lG cs):=by simpa [b9,kF] using y_
     have kI:∀ cD gI cT b6 c7,g jN.root≠some (.b3 cD gI cT b6 c7):=by
      intro cD gI cT b6 c7 b_;rw [kF] at b_;cases b_;have:=(af.rC p0).2;simp at this
     obtain ⟨v1,nU,Ez⟩:=h.rel _ _ kF;have QB:=Ez.hE (λcD gI cT b6 c7 e=>kI cD gI cT b6 c7 (by rw [kF,e]));have zj:walk w v1 jN.path=some (.slice ar lG Io):=by simpa [ef,nU] using KC
     refine ⟨λq=>q=jN,?_,?_,?_,?_,?_⟩
     ·intro q cD cT cs' n1 bK qX uC;obtain ⟨Mp,MO,tg,EE,Et⟩:=h.part bK (by simp);rw [qX] at tg;cases tg;have av:q.root=jN.root:=(h.eT _ _ _ (Et b (EE.oV b uC)) qV).trans l7;have yP:fk.at q.path=some (.own cD cT cs'):=by simpa [b9,av,kF] using bK
      have FG:walk w v1 q.path=some n1:=by simpa [ef,av,nU] using qX
      have:=R.Gk q.path jN.path QB yP p0 FG zj uC dh;cases q; cases jN; simp_all
     ·rintro q rfl t cD cT b6 c7 b_; exact ⟨h.pE _ _ _ _ _ _ _ _ _ _ _ b_ aE,jg⟩
     ·intro t cD gI cT b6 c7 nS b_;have:t=jN.root:=(h.eT _ _ _ nS qV).trans l7;rw [this] at b_;exact absurd b_ (kI _ _ _ _ _)
     ·intro cD gI cT b6 c7 _ b_;rw [aE] at b_; cases b_; exact ⟨rfl,aJ⟩
     ·intro t x v nS J hv bg;have:t=jN.root:=(h.eT _ _ _ nS qV).trans l7;subst this;rw [kF] at J; cases J;rw [nU] at hv; cases hv;exact ⟨_,_,_,_,_,p0,zj,dh,Nat.mul_le_mul_right _ (by omega)⟩
    ·have wJ:Fs p.root b:=(gm.aP b).2 ⟨jT,dh⟩;have l7:t0=p.root:=h.eT _ _ _ qV wJ;refine ⟨λ_=>False,?_,λ_ h=>h.elim,?_,?_,?_⟩
     ·intro q cD cT cs' n1 bK qX uC;obtain ⟨Mp,MO,tg,EE,Et⟩:=h.part bK (by simp);rw [qX] at tg;cases tg;have av:q.root=p.root:=h.eT _ _ _ (Et b (EE.oV b uC)) wJ;unfold b9 at bK;rw [av,aE] at bK;have:=(af.rC bK).2;simp at this
     ·intro t cD gI cT b6 c7 nS _; exact ⟨h.eT _ _ _ nS wJ,jg⟩
     ·intro cD gI cT b6 c7 _ b_;rw [aE] at b_; cases b_; exact ⟨rfl,aJ⟩
     ·intro t x v nS J hv bg;have:t=p.root:=h.eT _ _ _ nS wJ;subst this;rw [aE] at J; cases J;exact bg.kI.elim
  obtain ⟨N,JH,JI,JJ,Qy,Qz⟩:=home
  -- rows of pends
  have pends:∀ t cD gI cT b6 c7 v wi cO rH iu Cw,g t=some (.b3 cD gI cT b6 c7)->T[t]?=some v->Dk w I (ed w T g) cD gI cT b6 c7 v (Fs t) wi cO rH iu Cw ->
    (v.ownBlock=some b->(cT+b6) * cD<=n * z)/\(wi.ownBlock=some b->cT * cD<=n * z):=by
   intro t cD gI cT b6 c7 v wi cO rH iu Cw aY hv bg;by_cases aC:t=p.root/\p.path=[]
   ·obtain ⟨rfl,jg⟩:=aC;obtain ⟨rfl,rfl⟩:=Qy _ _ _ _ _ jg aY;exact ⟨λ_=>Nat.le_refl _,λ_=>Nat.mul_le_mul_right _ (by omega)⟩
   ·have sX:wi.ownBlock≠some b:=by
     intro ke;obtain ⟨⟨a2,pS,KD,rfl⟩,RM⟩:=bg.j4;rcases RM with ⟨cs2,ak⟩ | ⟨ba,Ai,S',m3,We,Vk,ak,aN,bP⟩
     ·exact aC (JI gI (JH gI _ _ _ _ ak KD ke) t _ _ _ _ aY)
     ·obtain ⟨v2,pr,KA,ly⟩:=h.GY ak;have B_:(⟨gI.root,[]⟩:Place)=gI:=by cases gI; simp_all
      rw [B_,KD] at KA;cases KA;have Kr:gI.root=p.root/\p.path=[]->False:=by
       rintro ⟨av,jg⟩;have:gI=p:=by cases gI; cases p; simp_all
       exact gW t cD cT b6 c7 (this ▸ aY)
      obtain ⟨NM,iN,Vo,Wm,Wg,ly⟩:=ly.tl;by_cases eX:NM.ownBlock=some b
      ·obtain ⟨⟨a4,Vj,Sa,rfl⟩,_⟩:=ly.j4;exact Kr (JI Ai (JH Ai _ _ _ _ bP Sa eX) _ _ _ _ _ ak)
      ·exact Kr (JJ _ _ _ _ _ _ ((ly.aP b).2 ⟨ke,eX⟩) ak)
    refine ⟨λSb=>?_,λke=>absurd ke sX⟩;exact absurd (JJ _ _ _ _ _ _ ((bg.aP b).2 ⟨Sb,sX⟩) aY) aC
  -- trees
  have a8:=h.jL;have trees:∀ t x v (ρ':af->Value->Prop),(∀ x v,ed w T g x v->ρ' x v)->g t=some x->T[t]?=some v->R w I (ed w T g) x v (Fs t)->R w' I ρ' x v (Fs t)/\∀ r y,x.at r=some y->walk w' v r=walk w v r:=by
   intro t x v ρ' kX J hv bg;by_cases nS:Fs t b
   ·obtain ⟨q,cD,cT,cs',ib,h1,ak,aN,bP⟩:=Qz t x v nS J hv bg;exact bg.spare s bp kX h1 ak aN bP
   ·have same:∀ c,Fs t c->w'.heap[c]?=w.heap[c]?:=λc aa=>s.other c (a8 t c aa) λe=>nS (e ▸ aa);exact ⟨bg.frame (λc aa=>s.other c (bp c aa).1 (bp c aa).2) (λ_ h=>h) kX same,λr y av=>R.n2 r bg av same⟩
  have val:∀ q y,b9 g q=some y->ef w' T q=ef w T q:=by
   intro q y bK;unfold b9 at bK;cases J:g q.root with
   | none=>rw [J] at bK; cases bK
   | some x =>
    rw [J] at bK;obtain ⟨v,hv,bg⟩:=h.rel _ _ J;cases bg with
    | tree bg=>have:=(trees _ x v _ (λ_ _ h=>h) J hv bg).2 q.path y bK; simp [ef,hv,this]
    | b3 bg=>simp [ef,hv,(af.rC bK).1,walk]
  have slot:∀ {q:Place}{x:af},q.path=[]->g q.root=some x->ef w' T q=ef w T q:=by
   intro q x bK J;obtain ⟨v,hv,_⟩:=h.rel _ _ J;simp [ef,bK,walk]
  have refs:∀ r v,ed w T g r v->ed w' T g r v:=by
   rintro r v ⟨h1,ak⟩;refine ⟨?_,ak⟩;cases r <;> simp only [fT,gS] at h1 ak ⊢
   case ptr q k=>obtain ⟨y,ay,_⟩:=ak; rw [val q y ay]; exact h1
   case bq cD q cT =>
    rcases ak with ⟨_,_,ak,_⟩ | ⟨ba,_,_,_,_,ak,_⟩
    ·rw [val q _ ak]; exact h1
    ·rw [slot ba ak]; exact h1
   case sub cD q lo cT=>obtain ⟨_,_,ak,_⟩:=ak; rw [val q _ ak]; exact h1
   case iD q=>obtain ⟨_,ak⟩:=ak; rw [val q _ ak]; exact h1
   case b3 cD q cT b6 c7 =>
    rcases ak with ⟨_,ak⟩ | ⟨ba,_,_,_,_,_,ak,_⟩
    ·rw [val q _ ak]; exact h1
    ·rw [slot ba ak]; exact h1
  refine ⟨⟨λt x J=>?_,h.kk,h.eT,h.aD,λc aa=>Nat.lt_of_lt_of_le (h.lt c aa) A.fp.size,h.pE⟩,refs⟩;obtain ⟨v,hv,bg⟩:=h.rel t x J;refine ⟨v,hv,?_⟩;cases bg with
  | tree bg=>exact .tree (trees t x v _ refs J hv bg).1
  | @b3 cD cT b6 gI c7 _ wi cO rH iu Cw _ bg =>
   obtain ⟨e9,qj⟩:=pends t _ _ _ _ _ v wi cO rH iu Cw J hv bg;refine .b3 ⟨refs _ _ bg.j4,s.row bg.kD qj,s.row bg.l5 e9,bg.ao,bg.h1,λk x u J hu=>?_,bg.aP⟩;exact (bg.av k x u J hu).frame (λc aa=>s.other c (bp c aa).1 (bp c aa).2) (λ_ h=>h) refs λc aa=>aa.elim
end
end Go.Own
namespace Go.Own
open Go
def sy (w:World) (I:bn) (T:Array Value) (g:aU) (Fs:Nat->bn) (x:af) (v:Value) (w':World):Prop :=
 ∃ F I',cV w' I' T g Fs/\js w' I' (ed w' T g) x v F/\(∀ t c,F c->¬ Fs t c)/\(∀ c,F c->w.heap.size<=c/\¬ I' c)/\(∀ c,I c->I' c)/\(∀ c,I' c->I c\/w.heap.size<=c)/\Fr w w' (λc=>∃ t,Fs t c)/\(∀ z p n m new,x=.b3 z p n m new->∀ t cD cT b6 c7,g t≠some (.b3 cD p cT b6 c7))
inductive Src (g:aU):af->Nat->Nat->List af->Prop
 | aD {z m:Nat}{cs:List af}:Src g (.aD z m cs) z m cs
 | aO {z:Nat}:Src g .aO z 0 []
 | bq {z m N:Nat}{q:Place}{cs:List af}(bK:b9 g q=some (.own z N cs)) (hm:m<=N):Src g (.bq z q m) z m ((cs.take (m * z)).mapIdx λi x=>hX 0 (q.push i) x)
 | sub {z lo m N:Nat}{q:Place}{cs:List af}(bK:b9 g q=some (.own z N cs)) (hm:lo+m<=N):Src g (.sub z q lo m) z m (((cs.drop (lo * z)).take (m * z)).mapIdx λi x=>hX 0 (q.push (lo * z+i)) x)
def jG (P:Program) (t e:TypeId) (z b:Nat):Bool :=
 match P.underlying t,P.info? e with
 | some (.slice cO),some i=>cO == e&&i.size == z&&i.bytes == b&&z != 0&&(match i.zero with | some v=>v.cells.size == z | none=>false)
 | _,_=>false
section
variable {P:Program}{w:World}{I:bn}{T:Array Value}{g:aU}{Fs:Nat->bn}
theorem HU {t e:TypeId}{z b:Nat}(h:jG P t e z b=true):∃ i ec,P.underlying t=some (.slice e)/\P.info? e=some i/\i.size=z/\i.bytes=b/\0<z/\i.zero=some ec/\ec.cells.size=z:=by
 unfold jG at h;cases hu:P.underlying t with
 | none=>simp [hu] at h
 | some d =>
  cases hi:P.info? e with
  | none=>cases d <;> simp [hu,hi] at h
  | some i =>
   cases d <;> simp [hu,hi] at h;obtain ⟨⟨⟨⟨rfl,h1⟩,ak⟩,aN⟩,bP⟩:=h;cases bB:i.zero with
   | none=>simp [bB] at bP
   | some ec=>simp [bB] at bP; exact ⟨i,ec,rfl,rfl,h1,ak,by omega,bB,bP⟩
theorem Src.sound (h:cV w I T g Fs) {y:af}{v:Value}{z m:Nat}{cells:List af}(aL:Src g y z m cells) (bg:R w I (ed w T g) y v cR) :
  ∃ (a:Option Addr) (c:Nat) (news:List Value),v=.slice a m c/\news.length=m * z/\(0<m->0<z->a.isSome=true)/\(∀ ad,a=some ad->∀ (ae:Nat) (u:Value),news[ae]?=some u->w.cell? (ad.add ae)=some u)/\Cells w I (ed w T g) cells news:=by
 have K5:∀ {q:Place}{N:Nat}{cs:List af}(lo:Nat) {a:Option Addr}{cap:Nat},b9 g q=some (.own z N cs)->ef w T q=some (.slice a N cap)->lo+m<=N ->
   ∃ news:List Value,news.length=m * z/\(∀ ad,a=some ad->∀ (ae:Nat) (u:Value),news[ae]?=some u->w.cell? ⟨ad.block,lo * z+ae,none⟩=some u)/\Cells w I (ed w T g) (((cs.drop (lo * z)).take (m * z)).mapIdx λi x=>hX 0 (q.push (lo * z+i)) x) news/\(0<m->0<z->∃ b,a=some ⟨b,0,none⟩):=by
  intro q N cs lo a cap bK hv hm;obtain ⟨hA,cG,iS,dL,_⟩:=h.part bK (by simp);rw [hv] at iS;cases iS;obtain ⟨cx,lr,jU,_,hlen,pn,_⟩:=dL.mb;cases jU;have VG:lo * z+m * z<=cs.length:=by rw [hlen,<- Nat.add_mul]; exact Nat.mul_le_mul_right _ hm
  have cell:∀ ae,ae<m * z->∃ b gj j_,a=some ⟨b,0,none⟩/\w.cell? ⟨b,lo * z+ae,none⟩=some gj/\gj.oneCell'=true/\cs[lo * z+ae]?=some j_/\R w I (ed w T g) (hX 0 (q.push (lo * z+ae)) j_) gj cR:=by
   intro ae ab;have f':cs[lo * z+ae]?=some cs[lo * z+ae]:=List.getElem?_eq_getElem (by omega);obtain ⟨b,gj,fJ,k8,lA,gE,bZ,jR⟩:=dL.node (.inl rfl) f';refine ⟨b,gj,_,?_,k8,gE,f',CQ 0 (by rw [rB,bK]; simp [af.kids]) (by rw [vB,hv]; exact lA) jR⟩;cases a with
   | none=>simp [addrOf] at fJ
   | some ad=>simp only [addrOf] at fJ; rw [Option.some.inj fJ]
  have rV:∃ news:List Value,news.length=m * z/\∀ ae,ae<m * z->∃ b gj j_,news[ae]?=some gj/\a=some ⟨b,0,none⟩/\w.cell? ⟨b,lo * z+ae,none⟩=some gj/\gj.oneCell'=true/\cs[lo * z+ae]?=some j_/\R w I (ed w T g) (hX 0 (q.push (lo * z+ae)) j_) gj cR:=by
   refine ⟨(List.range (m * z)).map λae=>(w.cell? ⟨(a.map (·.block)).getD 0,lo * z+ae,none⟩).getD undef,by simp,λae ab=>?_⟩;obtain ⟨b,gj,j_,h1,ak,aN,bP,cZ⟩:=cell ae ab;refine ⟨b,gj,j_,?_,h1,ak,aN,bP,cZ⟩;rw [List.getElem?_map,List.getElem?_range ab,h1];simp [ak]
  obtain ⟨news,ao,aJ⟩:=rV;refine ⟨news,ao,λad fJ ae u ab=>?_,⟨?_,λae u ab=>?_,λae x u J ab=>?_⟩,λFi FP=>?_⟩
  ·obtain ⟨b,gj,j_,h1,ak,aN,_⟩:=aJ ae (by rw [<- ao]; exact (List.getElem?_eq_some_iff.1 ab).1);rw [h1] at ab; cases ab;rw [fJ] at ak; cases ak;exact aN
  ·simp; omega
  ·obtain ⟨b,gj,j_,h1,ak,aN,bP,_⟩:=aJ ae (by rw [<- ao]; exact (List.getElem?_eq_some_iff.1 ab).1);rw [h1] at ab; cases ab; exact bP
  ·obtain ⟨b,gj,j_,h1,ak,aN,bP,cZ,dv⟩:=aJ ae (by rw [<- ao]; exact (List.getElem?_eq_some_iff.1 ab).1);rw [h1] at ab; cases ab;rw [List.getElem?_mapIdx,List.getElem?_take] at J
   split at J
   ·rw [List.getElem?_drop,cZ] at J;simp only [Option.map_some,Option.some.injEq] at J;rw [<- J]; exact dv
   ·cases J
  ·obtain ⟨b,_,_,h1,_⟩:=cell 0 (Nat.mul_pos Fi FP);exact ⟨b,h1⟩
 cases aL with
 | aD =>
  obtain ⟨a,cap,rfl,_,hlen,hm⟩:=bg.w0;by_cases ba:cells≠[]\/0<m
  ·obtain ⟨ad,us,rfl,bp,kE,gE,aa,av⟩:=hm ba;refine ⟨_,cap,(List.range cells.length).map us,rfl,by simp [hlen],by simp,λM4 fJ ae u ab=>?_,⟨by simp,λae u ab=>?_,λae x u J ab=>?_⟩⟩
   ·cases fJ;rw [List.getElem?_map] at ab;by_cases e3:ae<cells.length
    ·rw [List.getElem?_range e3] at ab;simp only [Option.map_some,Option.some.injEq] at ab;obtain ⟨b,o,sp⟩:=ad;simp only at kE;subst kE;rw [add_eq,<- ab];exact aa ae _ (List.getElem?_eq_getElem e3)
    ·rw [List.getElem?_eq_none (by simp; omega)] at ab; cases ab
   ·rw [List.getElem?_map] at ab;by_cases e3:ae<cells.length
    ·rw [List.getElem?_range e3] at ab;simp only [Option.map_some,Option.some.injEq] at ab;rw [<- ab];exact gE ae _ (List.getElem?_eq_getElem e3)
    ·rw [List.getElem?_eq_none (by simp; omega)] at ab; cases ab
   ·rw [List.getElem?_map] at ab;have e3:ae<cells.length:=(List.getElem?_eq_some_iff.1 J).1;rw [List.getElem?_range e3] at ab;simp only [Option.map_some,Option.some.injEq] at ab;rw [<- ab];exact av ae x J
  ·have Fi:m=0:=by omega
   have EW:cells=[]:=Classical.byContradiction λe=>ba (.inl e);subst Fi EW;exact ⟨a,cap,[],rfl,by simp,by simp,by simp,by simp [Cells]⟩
 | aO =>
  rw [bg.qe];exact ⟨none,0,[],rfl,by simp,by simp,by simp,by simp [Cells]⟩
 | @bq _ _ N q cs bK hm =>
  obtain ⟨⟨a,iK,cap,h1,rfl,aN⟩,bP⟩:=bg.l_;obtain ⟨hA,cG,iS,dL,_⟩:=h.part bK (by simp);obtain ⟨cx,lr,jU,_⟩:=dL.mb;rw [h1] at iS;cases iS;cases jU;obtain ⟨news,ao,aa,hy,bf⟩:=K5 0 bK h1 (by omega);simp only [Nat.zero_mul,List.drop_zero,Nat.zero_add] at hy aa;refine ⟨a,cap,news,rfl,ao,λba BK=>by obtain ⟨b,rfl⟩:=bf ba BK; rfl,λad fJ ae u ab=>?_,hy⟩;have s7:=aa ad fJ ae u ab;by_cases ba:0<m/\0<z
  ·obtain ⟨b,aF⟩:=bf ba.1 ba.2;rw [fJ] at aF; cases aF;rw [add_eq]; simpa using s7
  ·have:m * z=0:=by
    rcases Nat.eq_zero_or_pos m with h | h
    ·simp [h]
    ·rcases Nat.eq_zero_or_pos z with aR | aR
     ·simp [aR]
     ·exact absurd ⟨h,aR⟩ ba
   have:=(List.getElem?_eq_some_iff.1 ab).1;omega
 | @sub _ lo _ N q cs bK hm =>
  obtain ⟨⟨a,iK,cap,cx,lr,h1,rfl,_,aN,cZ⟩,bP⟩:=bg.uW;obtain ⟨hA,cG,iS,dL,_⟩:=h.part bK (by simp);obtain ⟨a2,pS,jU,_⟩:=dL.mb;rw [h1] at iS;cases iS;cases jU;obtain ⟨news,ao,aa,hy,bf⟩:=K5 lo bK h1 hm;refine ⟨cx,lr,news,rfl,ao,λba _=>by obtain ⟨ad,_,rfl⟩:=cZ ba; rfl,λad fJ ae u ab=>?_,hy⟩;have a8:=(List.getElem?_eq_some_iff.1 ab).1;have ba:0<m:=(Nat.eq_zero_or_pos m).elim (λh=>by rw [h] at ao; omega) id

  have bB:0<z:=(Nat.eq_zero_or_pos z).elim (λh=>by rw [h] at ao; omega) id

  obtain ⟨M4,dv,h7⟩:=cZ ba;obtain ⟨b,aF⟩:=bf ba bB;rw [dv] at aF; cases aF;rw [fJ] at h7; cases h7;have s7:=aa _ dv ae u ab;rw [add_eq]; simpa using s7
end
end Go.Own
namespace Go.Own
open Go
inductive xX (P:Program) (g:aU):Op->TypeId->af->Prop
 | grow {s x:Operand}{t e ty:TypeId}{z b n m:Nat}{p:Place}{y:af}{cells:List af}(aL:bI g s=some (.bq z p n)) (eA:gS g (.b3 z p n 0 [])) (gW:∀ t cD cT b6 c7,g t≠some (.b3 cD p cT b6 c7))
   (J:bI g x=some y) (p8:Src g y z m cells) (aC:jG P t e z b=true) (pf:n+m<=4611686018427387904) (aF:(n+m) * b<=140737488355328) :
   xX P g (.call { callee:=.builtin .append,args:=#[s,x],argTypes:=#[t,t] }) ty (.b3 z p n m cells)
 | nil {s x:Operand}{t e ty:TypeId}{z b m:Nat}{y:af}{cells:List af}(aL:bI g s=some .aO)
   (J:bI g x=some y) (p8:Src g y z m cells) (aC:jG P t e z b=true) (pf:m<=4611686018427387904) (aF:m * b<=140737488355328) :
   xX P g (.call { callee:=.builtin .append,args:=#[s,x],argTypes:=#[t,t] }) ty (.own z m cells)
inductive dg (P:Program) (g:aU):Op->TypeId->af->Prop
 | e9 {op:Op}{ty:TypeId}{x:af}(h:da P g op ty x):dg P g op ty x
 | qj {op:Op}{ty:TypeId}{x:af}(h:n5 P g op ty x):dg P g op ty x
 | CE {op:Op}{ty:TypeId}{x:af}(h:sB P g op ty x):dg P g op ty x
 | lf {op:Op}{ty:TypeId}{x:af}(h:xX P g op ty x):dg P g op ty x
section
variable {P:Program}{w:World}{I:bn}{T:Array Value}{g:aU}{Fs:Nat->bn}
theorem Cells.frame {w':World}{cells:List af}{news:List Value}(aa:Cells w I (ed w T g) cells news) (bp:∀ c,I c->w'.heap[c]?=w.heap[c]?) (av:∀ r v,ed w T g r v->ed w' T g r v):Cells w' I (ed w' T g) cells news :=
 ⟨aa.1,aa.2.1,λk x u J hu=>(aa.2.2 k x u J hu).frame bp (λ_ h=>h) av λ_ h=>h.elim⟩
theorem xX.sound (h:cV w I T g Fs) {a:Act}(bf:a.tmps=T) {o:Oper}{jY:af}(aE:xX P g o.op o.type jY) :
  ∃ v w',(execOp a.eval o).run P w=.ok (.value v) w'/\sy w I T g Fs jY v w':=by
 obtain ⟨dst,op,ty,pos,after,guard⟩:=o;simp only at aE;cases aE with
 | @grow s x t e _ z b n m p y cells aL eA gW J p8 aC pf aF =>
  obtain ⟨i,ec,hu,hi,rfl,rfl,ba,bB,nm⟩:=HU aC;obtain ⟨⟨tW,N,tX,h1,ak,aN⟩,bP⟩:=(kK h aL bf).l_;obtain ⟨An,GO,news,rX,ao,ze,Fy,hy⟩:=p8.sound h (kK h J bf)
  -- the row of the base
  have nQ:N=n/\∃ cO us,w.ownsRow 0 cO i.size (.slice tW n tX) n us:=by
   rcases eA with ⟨cs,aE⟩ | ⟨jg,q,hf,m0,new,cs,aE,rfl,_⟩
   ·obtain ⟨hA,cG,iS,dL,_⟩:=h.part aE (by simp);rw [h1] at iS;cases iS;obtain ⟨cx,lr,jU,_⟩:=dL.mb;cases jU;cases dL with
    | own bd=>exact ⟨rfl,_,_,bd⟩
    | ref J=>simp [af.isRef] at J
   ·obtain ⟨v0,jh,zi,gm⟩:=h.GY aE;have bK:(⟨p.root,[]⟩:Place)=p:=by cases p; simp_all
    rw [bK,h1] at zi;cases zi;obtain ⟨bv,de,cX,us,Wh,gm⟩:=gm.tl;have bU:N=hf+m0:=by
     obtain ⟨_,b_⟩:=gm.l5;rcases b_ with ⟨b_,aJ⟩ | ⟨g,cap,cur,b_,_⟩
     ·cases b_; omega
     ·cases b_; rfl
    subst bU;exact ⟨rfl,_,_,gm.l5⟩
  obtain ⟨rfl,cO,us,kD⟩:=nQ;have j4:ed w T g (.b3 i.size p N 0 []) (.slice tW N tX):=⟨⟨tW,tX,h1,rfl⟩,eA⟩;obtain ⟨hA,w',cX,hU,A⟩:=LB (P:=P) (w:=w) t ty e cO i ec hu hi bB nm ba kD (a:=An) (c:=GO) (m:=m) (news:=news) (λhm=>ze hm ba) ao Fy (λu hu=>by
   obtain ⟨k,hk,rfl⟩:=List.mem_iff_getElem.1 hu;exact hy.2.1 k _ (List.getElem?_eq_getElem hk)) (by unfold maxLen; omega) aF
  obtain ⟨bW,hrefs⟩:=h.app j4 gW A;refine ⟨hA,w',by simp [execOp,resolve,invoke,builtin,ak,rX,hU],(λc=>hA.ownBlock=some c/\(Value.slice tW N tX).ownBlock≠some c),I,bW,?_,?_,?_,λ_ h=>h,λ_ h=>.inl h,?_,?_⟩
  ·have bp:∀ c,I c->w'.heap[c]?=w.heap[c]?:=by
    intro c aa;refine A.fp.block c (h.lt c aa) λaF=>?_;obtain ⟨t,aC⟩:=h.A_ j4 c aF;exact h.aD t c aC aa
   have kW:=hy.frame bp hrefs;exact .b3 ⟨hrefs _ _ j4,A.lb,A.new,kW.1,kW.2.1,kW.2.2,λc=>Iff.rfl⟩
  ·rintro t c ⟨nO,uE⟩ bh;rcases A.A' c nO with h | aR
   ·exact uE h
   ·have:=h.jL t c bh; omega
  ·rintro c ⟨nO,uE⟩;rcases A.A' c nO with aR | aR
   ·exact absurd aR uE
   ·exact ⟨aR,λhi=>by have:=h.lt c hi; omega⟩
  ·exact A.fp.mono λc _ aa=>h.A_ j4 c aa
  ·intro cD Tt cT b6 c7 he;cases he;exact gW
 | @nil s x t e _ z b m y cells aL J p8 aC pf aF =>
  obtain ⟨i,ec,hu,hi,rfl,rfl,ba,bB,nm⟩:=HU aC;have ak:=(kK h aL bf).qe;obtain ⟨An,GO,news,rX,ao,ze,Fy,hy⟩:=p8.sound h (kK h J bf);obtain ⟨hA,w',cX,hU,A⟩:=LB (P:=P) (w:=w) t ty e e i ec hu hi bB nm ba (World.ownsRow_nil w 0 e i.size) (a:=An) (c:=GO) (m:=m) (news:=news) (λhm=>ze hm ba) ao Fy (λu hu=>by
   obtain ⟨k,hk,rfl⟩:=List.mem_iff_getElem.1 hu;exact hy.2.1 k _ (List.getElem?_eq_getElem hk)) (by unfold maxLen; omega) (by simpa using aF)
  have same:∀ c,c<w.heap.size->w'.heap[c]?=w.heap[c]?:=λc aa=>A.fp.block c aa (by simp [Value.ownBlock]);have p6:=A.new;simp only [Nat.zero_add,List.nil_append] at p6;have kW:=hy.frame (λc aa=>same c (h.lt c aa)) λr v av=>h.CR (λ_ _=>rfl) (λt c aa=>same c (h.jL t c aa)) (λ_ _ h=>h) av;have hblk:∀ c,hA.ownBlock=some c->w.heap.size<=c:=λc aa=>(A.A' c aa).elim (λh=>by simp [Value.ownBlock] at h) id;refine ⟨hA,w',by simp [execOp,resolve,invoke,builtin,ak,rX,hU],(λc=>hA.ownBlock=some c),I,h.world (λt c aa=>same c (h.jL t c aa)) (λc aa=>same c (h.lt c aa)) A.fp.size,?_,?_,λc aa=>⟨hblk c aa,λhi=>by have:=h.lt c hi; have:=hblk c aa; omega⟩,λ_ h=>h,λ_ h=>.inl h,?_,?_⟩
  ·exact .tree (.own (Fs:=λ_=>cR) p6 kW.1 kW.2.1 kW.2.2 (λ_ _ _ _ _ h=>h.elim) (λ_ _ _ h=>h.elim) λc=>⟨.inl,λh=>h.elim id λ⟨_,_,h⟩=>h.elim⟩)
  ·intro t c aa bh; have:=hblk c aa; have:=h.jL t c bh; omega
  ·exact A.fp.mono λc _ aa=>by simp [Value.ownBlock] at aa
  ·intro cD Tt cT b6 c7 he; cases he
theorem dg.sound (h:cV w I T g Fs) {a:Act}(bf:a.tmps=T) {o:Oper}{jY:af}(aE:dg P g o.op o.type jY) :
  ∃ v w',(execOp a.eval o).run P w=.ok (.value v) w'/\sy w I T g Fs jY v w':=by
 have zG:∀ {v:Value}{F:bn},R w I (ed w T g) jY v F->∀ z p n m new,jY=.b3 z p n m new->∀ t cD cT b6 c7,g t≠some (.b3 cD p cT b6 c7):=by
  rintro v F bg z p n m new rfl;exact bg.kI.elim
 cases aE with
 | e9 aE =>
  obtain ⟨v,av,bg⟩:=aE.sound h bf;exact ⟨v,w,av,cR,I,h,.tree bg,λ_ _ h=>h.elim,λ_ h=>h.elim,λ_ h=>h,λ_ h=>.inl h,Fr.refl _ _,zG bg⟩
 | CE aE =>
  obtain ⟨v,av,bg⟩:=aE.sound h bf;exact ⟨v,w,av,cR,I,h,.tree bg,λ_ _ h=>h.elim,λ_ h=>h.elim,λ_ h=>h,λ_ h=>.inl h,Fr.refl _ _,zG bg⟩
 | qj aE =>
  obtain ⟨v,qi,av,bg⟩:=aE.sound h bf;refine ⟨v,_,av,_,I,h.alloc qi,.tree bg,λt c aa bh=>?_,λc aa=>⟨by rw [aa]; exact Nat.le_refl _,λhi=>by have:=h.lt c hi; omega⟩,λ_ h=>h,λ_ h=>.inl h,Fr.alloc w qi _ (by
   obtain ⟨o,h1,ak⟩:=bg.TD w.heap.size rfl;rw [rz] at h1;cases h1;exact ak),?_⟩
  ·have:=h.jL t c bh; omega
  ·rintro z p n m new rfl; exact bg.kI.elim
 | lf aE=>exact aE.sound h bf
end
end Go.Own
namespace Go.Own
open Go
inductive c6:af->Prop
 | lit {v:Value}:c6 (.lit v)
 | aO:c6 .aO
 | dead:c6 .dead
 | aD {z n:Nat}{cs:List af}(h:∀ x∈cs,c6 x):c6 (.aD z n cs)
 | own {z n:Nat}{cs:List af}(h:∀ x∈cs,c6 x):c6 (.own z n cs)
 | obj {cs:List af}(h:∀ x∈cs,c6 x):c6 (.obj cs)
 | agg {cs:List af}(h:∀ x∈cs,c6 x):c6 (.agg cs)
 | cr {cs:List af}(h:∀ x∈cs,c6 x):c6 (.cr cs)
 | bs {cs:List af}(h:∀ x∈cs,c6 x):c6 (.bs cs)
 | ea {fn:Fn}{a b:List af}(h1:∀ x∈a,c6 x) (ak:∀ x∈b,c6 x):c6 (.ea fn a b)
 | mp {p:Array MapEntry->Nat->Prop}:c6 (.mp p)
 | imp {p:Array MapEntry->Nat->Prop}:c6 (.imp p)
inductive ka:af->Prop
 | lit {v:Value}:ka (.lit v)
 | aO:ka .aO
 | dead:ka .dead
 | own {z n:Nat}{cs:List af}(h:∀ x∈cs,ka x):ka (.own z n cs)
 | obj {cs:List af}(h:∀ x∈cs,ka x):ka (.obj cs)
 | agg {cs:List af}(h:∀ x∈cs,ka x):ka (.agg cs)
 | cr {cs:List af}(h:∀ x∈cs,ka x):ka (.cr cs)
 | mp {p:Array MapEntry->Nat->Prop}:ka (.mp p)
theorem ka.bE {x:af}(h:ka x):c6 x:=by
 induction h with
 | lit=>exact .lit
 | aO=>exact .aO
 | dead=>exact .dead
 | own _ aS=>exact .own aS
 | obj _ aS=>exact .obj aS
 | agg _ aS=>exact .agg aS
 | cr _ aS=>exact .cr aS
 | mp=>exact .mp
inductive Rows (g:aU):Place->Nat->Nat->List af->Prop
 | own {p:Place}{z n:Nat}{cs:List af}(aE:b9 g p=some (.own z n cs)):Rows g p z n cs
 | b3 {t z n m:Nat}{q:Place}{new cs:List af}(aC:g t=some (.b3 z q n m new)) (bK:Rows g q z n cs):Rows g ⟨t,[]⟩ z (n+m) (cs++new)
theorem Rows.mono {g g':aU}(h:∀ {p:Place}{y:af},b9 g p=some y->b9 g' p=some y) {p:Place}{z n:Nat}{cs:List af}(av:Rows g p z n cs) (ak:∀ t x,g t=some x->g' t=some x):Rows g' p z n cs:=by
 induction av with
 | own aE=>exact .own (h aE)
 | b3 aC _ aS=>exact .b3 (ak _ _ aC) aS
inductive View (g:aU):af->af->Prop
 | self {x:af}(h:c6 x) (J:∀ z n cs,x≠.own z n cs) (bd:∀ cs,x≠.obj cs) (bf:∀ cs,x≠.agg cs) (aC:∀ cs,x≠.cr cs) (hm:∀ p,x≠.mp p):View g x x
 | mp {p:Array MapEntry->Nat->Prop}:View g (.mp p) (.imp p)
 | iD {p:Place}{q:Array MapEntry->Nat->Prop}(aE:b9 g p=some (.mp q)):View g (.iD p) (.imp q)
 | oT {z:Nat}:View g .aO (.aD z 0 [])
 | agg {cs cs':List af}(ao:cs'.length=cs.length) (h:∀ (k:Nat) (x y:af),cs[k]?=some x->cs'[k]?=some y->View g x y):View g (.agg cs) (.agg cs')
 | own {z n:Nat}{cs cs':List af}(ao:cs'.length=cs.length) (h:∀ (k:Nat) (x y:af),cs[k]?=some x->cs'[k]?=some y->View g x y):View g (.own z n cs) (.aD z n cs')
 | obj {cs cs':List af}(ao:cs'.length=cs.length) (h:∀ (k:Nat) (x y:af),cs[k]?=some x->cs'[k]?=some y->View g x y):View g (.obj cs) (.bs cs')
 | bq {z n N:Nat}{p:Place}{cs cs':List af}(aE:b9 g p=some (.own z N cs)) (aJ:n<=N) (ao:cs'.length=(cs.take (n * z)).length) (h:∀ (k:Nat) (x y:af),(cs.take (n * z))[k]?=some x->cs'[k]?=some y->View g x y):View g (.bq z p n) (.aD z n cs')
 | sub {z lo n N:Nat}{p:Place}{cs cs':List af}(aE:b9 g p=some (.own z N cs)) (aJ:lo+n<=N) (ao:cs'.length=((cs.drop (lo * z)).take (n * z)).length) (h:∀ (k:Nat) (x y:af),((cs.drop (lo * z)).take (n * z))[k]?=some x->cs'[k]?=some y->View g x y):View g (.sub z p lo n) (.aD z n cs')
 | ptr {p:Place}{k z n:Nat}{y:af}{cs cs':List af}(aE:b9 g p=some y) (ay:y=.own z n cs\/y=.obj cs) (hk:k<cs.length) (ao:cs'.length=(cs.drop k).length) (h:∀ (ae:Nat) (x y:af),(cs.drop k)[ae]?=some x->cs'[ae]?=some y->View g x y):View g (.ptr p k) (.bs cs')
 | ea {fn:Fn}{cs cs':List af}(ao:cs'.length=cs.length) (h:∀ (k:Nat) (x y:af),cs[k]?=some x->cs'[k]?=some y->View g x y):View g (.ea fn [] cs) (.ea fn [] cs')
 | rows {z n:Nat}{p:Place}{cs cs':List af}(aE:Rows g p z n cs) (ao:cs'.length=cs.length) (h:∀ (k:Nat) (x y:af),cs[k]?=some x->cs'[k]?=some y->View g x y):View g (.bq z p n) (.aD z n cs')
section
variable {P:Program}{w:World}{I:bn}{T:Array Value}{g:aU}{Fs:Nat->bn}
theorem R.bE {ρ ρ':af->Value->Prop}{x:af}{v:Value}{F:bn}(h:R w I ρ x v F):c6 x->R w I ρ' x v F:=by
 induction h with
 | lit h aP=>exact λ_=>.lit h aP
 | aO aP=>exact λ_=>.aO aP
 | dead aP=>exact λ_=>.dead aP
 | @ref x _ _ J h aP=>intro aJ; cases aJ <;> simp [af.isRef] at J
 | hz aP=>exact λ_=>.hz aP
 | aD aP kC bp aL ao h1 aa av aS=>exact λaJ=>.aD aP kC bp aL ao h1 aa λk x J=>aS k x J (by cases aJ with | aD h=>exact h x (List.mem_of_getElem? J))
 | bs aP bp aL h1 aa av aS=>exact λaJ=>.bs aP bp aL h1 aa λk x J=>aS k x J (by cases aJ with | bs h=>exact h x (List.mem_of_getElem? J))
 | own bd ao h1 av aV aF aP aS=>exact λaJ=>.own bd ao h1 (λk x u J hu=>aS k x u J hu (by cases aJ with | own h=>exact h x (List.mem_of_getElem? J))) aV aF aP
 | obj bd ao h1 av aV aF aP aS=>exact λaJ=>.obj bd ao h1 (λk x u J hu=>aS k x u J hu (by cases aJ with | obj h=>exact h x (List.mem_of_getElem? J))) aV aF aP
 | agg ao h1 av aV aP aS=>exact λaJ=>.agg ao h1 (λk x u J hu=>aS k x u J hu (by cases aJ with | agg h=>exact h x (List.mem_of_getElem? J))) aV aP
 | cr ao av aV aP aS=>exact λaJ=>.cr ao (λk x u J hu=>aS k x u J hu (by cases aJ with | cr h=>exact h x (List.mem_of_getElem? J))) aV aP
 | mp bd aE aP=>exact λ_=>.mp bd aE aP
 | imp aP bp bd aE=>exact λ_=>.imp aP bp bd aE
 | ea aP h1 ak jI ik ga fW=>exact λaJ=>.ea aP h1 ak (λk x u J hu=>ga k x u J hu (by cases aJ with | ea h _=>exact h x (List.mem_of_getElem? J))) (λk x u J hu=>fW k x u J hu (by cases aJ with | ea _ h=>exact h x (List.mem_of_getElem? J)))
theorem R.mB {ρ:af->Value->Prop}{I':bn}{x:af}{v:Value}{F:bn}(h:R w I ρ x v F) (bp:∀ c,I c->I' c):R w I' ρ x v F :=
 h.frame (λ_ _=>rfl) bp (λ_ _ h=>h) λ_ _=>rfl
theorem R.kJ {ρ ρ':af->Value->Prop}{I':bn}{x:af}{v:Value}{F:bn}(h:R w I ρ x v F):ka x->R w I' ρ' x v F:=by
 induction h with
 | lit h aP=>exact λ_=>.lit h aP
 | aO aP=>exact λ_=>.aO aP
 | dead aP=>exact λ_=>.dead aP
 | @ref x _ _ J h aP=>intro aJ; cases aJ <;> simp [af.isRef] at J
 | hz=>intro aJ; cases aJ
 | aD=>intro aJ; cases aJ
 | bs=>intro aJ; cases aJ
 | own bd ao h1 av aV aF aP aS=>exact λaJ=>.own bd ao h1 (λk x u J hu=>aS k x u J hu (by cases aJ with | own h=>exact h x (List.mem_of_getElem? J))) aV aF aP
 | obj bd ao h1 av aV aF aP aS=>exact λaJ=>.obj bd ao h1 (λk x u J hu=>aS k x u J hu (by cases aJ with | obj h=>exact h x (List.mem_of_getElem? J))) aV aF aP
 | agg ao h1 av aV aP aS=>exact λaJ=>.agg ao h1 (λk x u J hu=>aS k x u J hu (by cases aJ with | agg h=>exact h x (List.mem_of_getElem? J))) aV aP
 | cr ao av aV aP aS=>exact λaJ=>.cr ao (λk x u J hu=>aS k x u J hu (by cases aJ with | cr h=>exact h x (List.mem_of_getElem? J))) aV aP
 | ea=>intro aJ; cases aJ
 | mp bd aE aP=>exact λ_=>.mp bd aE aP
 | imp=>intro aJ; cases aJ
theorem R.xd {ρ:af->Value->Prop}{z n:Nat}{cs:List af}{v:Value}{F:bn}(h:R w I ρ (.own z n cs) v F):∃ (a:Option Addr) (cap:Nat) (us:Nat->Value) (bZ:Nat->bn),v=.slice a n cap/\n<=cap/\cs.length=n * z /\
  (∀ ad,a=some ad->∃ b,ad=⟨b,0,none⟩/\F b)/\(∀ (k:Nat) (x:af),cs[k]?=some x->∃ b,a=some ⟨b,0,none⟩/\w.cell? ⟨b,k,none⟩=some (us k)/\(us k).oneCell'=true/\R w I ρ x (us k) (bZ k)/\∀ c,bZ k c->F c):=by
 have ba:=h;cases h with
 | ref J=>simp [af.isRef] at J
 | @own _ _ _ _ e us Fs _ bd ao h1 av aV aF aP =>
  obtain ⟨a,cap,rfl,aJ,hlen,pn,qU⟩:=ba.mb;refine ⟨a,cap,λk=>us.getD k undef,Fs,rfl,aJ,hlen,λad fJ=>?_,λk x hk=>?_⟩
  ·obtain ⟨y4,y5⟩:=pn ad fJ;obtain ⟨b,o,sp⟩:=ad;simp only at y4 y5;subst y4 y5;exact ⟨b,rfl,(aP b).2 (.inl (by rw [fJ]; rfl))⟩
  ·have a8:k<cs.length:=(List.getElem?_eq_some_iff.1 hk).1;have hu:us[k]?=some us[k]:=List.getElem?_eq_getElem (ao ▸ a8);obtain ⟨b,u,fJ,k8,lA,gE,_⟩:=ba.node (.inl rfl) hk;have:a=some ⟨b,0,none⟩:=by
    cases a with
    | none=>simp [addrOf] at fJ
    | some ad=>simp only [addrOf] at fJ; rw [Option.some.inj fJ]
   rw [ns bd hu] at lA;cases lA;refine ⟨b,this,?_,?_,?_,λc aa=>(aP c).2 (.inr ⟨k,a8,aa⟩)⟩
   ·simpa [List.getD,hu] using k8
   ·simpa [List.getD,hu] using gE
   ·simpa [List.getD,hu] using av k x _ hk hu
theorem R.Cy {ρ:af->Value->Prop}{y:af}{v:Value}{F:bn}{z n:Nat}{cs:List af}(h:R w I ρ y v F) (ay:y=.own z n cs\/y=.obj cs) {ad:Addr}(bf:addrOf v=some ad):F ad.block:=by
 rcases ay with rfl | rfl
 ·obtain ⟨a,cap,rfl,_⟩:=h.mb;refine h.oV _ ?_;cases a with
  | none=>simp [addrOf] at bf
  | some a=>simp only [addrOf,Option.some.injEq] at bf; subst bf; rfl
 ·cases h with
  | ref J=>simp [af.isRef] at J
  | obj bd ao h1 av aV aF aP=>simp only [addrOf,Option.some.injEq] at bf; subst bf; exact (aP _).2 (.inl rfl)
theorem Tr {w:World}{e cO:TypeId}{z n:Nat}{v:Value}{us iu:List Value}(h:w.ownsRow 0 e z v n us) (aR:w.ownsRow 0 cO z v n iu):us=iu:=by
 obtain ⟨h1,ak⟩:=h;obtain ⟨aN,bP⟩:=aR;rcases ak with ⟨rfl,rfl⟩ | ⟨b,cap,cur,rfl,_,b_,_,_,_,aC⟩
 ·have de:us=[]:=List.eq_nil_of_length_eq_zero (by simpa using h1);have cX:iu=[]:=List.eq_nil_of_length_eq_zero (by simpa using aN);rw [de,cX]
 ·rcases bP with ⟨de,_⟩ | ⟨iA,lr,O4,de,_,J7,_,_,_,po⟩
  ·cases de
  ·cases de;rw [b_] at J7;cases J7;rw [<- aC,<- po]
theorem Rows.sound {ρ:af->Value->Prop}(H1:∀ t z q n m new,g t=some (.b3 z q n m new)->∃ v,T[t]?=some v/\js w I ρ (.b3 z q n m new) v (Fs t))
  (MQ:∀ p z n cs,b9 g p=some (.own z n cs)->∃ v cG,ef w T p=some v/\R w I ρ (.own z n cs) v cG/\∀ c,cG c->Fs p.root c) (xU:∀ z p n v,ρ (.b3 z p n 0 []) v->ef w T p=some v) {p:Place}{z n:Nat}{cs:List af}(h:Rows g p z n cs) :
  ∃ v e us,ef w T p=some v/\w.ownsRow 0 e z v n us/\us.length=cs.length/\(∀ (k:Nat) (u:Value),us[k]?=some u->u.oneCell'=true)/\(∀ c,v.ownBlock=some c->∃ t,Fs t c) /\
   (∀ (k:Nat) (x:af) (u:Value),cs[k]?=some x->us[k]?=some u->∃ bZ,R w I ρ x u bZ/\∀ c,bZ c->∃ t,Fs t c):=by
 induction h with
 | @own p z n cs aE =>
  obtain ⟨v,cG,hv,bg,aP⟩:=MQ p z n cs aE;cases bg with
  | ref J=>simp [af.isRef] at J
  | @own _ _ _ _ e us bZ _ bd ao h1 av aV aF kB =>
   refine ⟨v,e,us,hv,bd,ao.symm,h1,λc aa=>⟨_,aP c ((kB c).2 (.inl aa))⟩,λk x u J hu=>⟨bZ k,av k x u J hu,λc aa=>⟨_,aP c ((kB c).2 (.inr ⟨k,(List.getElem?_eq_some_iff.1 J).1,aa⟩))⟩⟩⟩
 | @b3 t z n m q new cs aC _ aS =>
  obtain ⟨v,hv,bg⟩:=H1 t z q n m new aC;obtain ⟨v0,e,us,jh,bd,ao,h1,aF,av⟩:=aS;cases bg with
  | tree bg=>exact bg.kI.elim
  | @b3 _ _ _ _ _ _ bv de cX UH news _ bg =>
   have jH:=xU _ _ _ _ bg.j4;rw [jh] at jH;cases jH;have:=Tr bd bg.kD;subst this;refine ⟨v,cX,us++news,by simp [ef,hv,walk],bg.l5,by rw [List.length_append,List.length_append,ao,bg.ao],λk u hu=>?_,λc aa=>?_,λk x u J hu=>?_⟩
   ·by_cases hk:k<us.length
    ·rw [List.getElem?_append_left hk] at hu; exact h1 k u hu
    ·rw [List.getElem?_append_right (by omega)] at hu; exact bg.h1 _ u hu
   ·by_cases pj:v0.ownBlock=some c
    ·exact aF c pj
    ·exact ⟨t,(bg.aP c).2 ⟨aa,pj⟩⟩
   ·by_cases hk:k<us.length
    ·rw [List.getElem?_append_left (by omega)] at J;rw [List.getElem?_append_left hk] at hu;exact av k x u J hu
    ·rw [List.getElem?_append_right (by omega)] at J;rw [List.getElem?_append_right (by omega),ao] at hu;exact ⟨_,bg.av _ x u J hu,λc aa=>aa.elim⟩
theorem Lv {ρ':af->Value->Prop}{e:TypeId}{z n N cap:Nat}{a:Option Addr}{us:List Value}{cs cs':List af}(bd:w.ownsRow 0 e z (.slice a N cap) n us) (hlen:us.length=cs.length) (h1:∀ (k:Nat) (u:Value),us[k]?=some u->u.oneCell'=true) (aF:∀ c,(Value.slice a N cap).ownBlock=some c->∃ t,Fs t c) (ao:cs'.length=cs.length)
  (av:∀ (k:Nat) (x y:af) (u:Value),cs[k]?=some x->cs'[k]?=some y->us[k]?=some u->R w (λc=>I c\/∃ t,Fs t c) ρ' y u cR):R w (λc=>I c\/∃ t,Fs t c) ρ' (.aD z n cs') (.slice a n cap) cR:=by
 obtain ⟨Kd,bd⟩:=bd;rcases bd with ⟨jH,ba⟩ | ⟨b,pS,cur,de,_,b_,B6,aa,aL,aC⟩
 ·cases jH;subst ba;have kW:cs'=[]:=List.eq_nil_of_length_eq_zero (by rw [ao,<- hlen,Kd]; simp);subst kW;exact .hz λ_ h=>h
 ·cases de;refine .aD (us:=λk=>us.getD k undef) (λ_ h=>h) B6 (.inr (aF b rfl)) rfl (by rw [ao,<- hlen,Kd]) (λk y ay=>?_) (λk y ay=>?_) λk y ay=>?_
  all_goals
   have hk:k<us.length:=by rw [hlen,<- ao]; exact (List.getElem?_eq_some_iff.1 ay).1
   have hu:us[k]?=some us[k]:=List.getElem?_eq_getElem hk;have aY:us.getD k undef=us[k]:=by simp [List.getD,hu]
  ·rw [aY]; exact h1 k _ hu
  ·rw [aY];have td:∀ u,us[k]?=some u->w.cell? ⟨b,k,none⟩=some u:=λu td=>by
    rw [<- aC,List.getElem?_take] at td
    split at td
    ·simpa [World.cell?,b_] using td
    ·cases td
   simpa using td _ hu
  ·rw [aY];exact av k _ y _ (List.getElem?_eq_getElem (by omega)) ay hu
theorem View.sound (h:cV w I T g Fs) {x x':af}(hv:View g x x'):∀ {v:Value}{F:bn},R w I (ed w T g) x v F->(∀ c,F c->∃ t,Fs t c)->∀ ρ',R w (λc=>I c\/∃ t,Fs t c) ρ' x' v cR:=by
 induction hv with
 | oT =>
  intro v F bg aP ρ';have:=bg.qe;subst this;exact .hz λ_ h=>h
 | mp =>
  intro v F bg aP ρ';cases bg with
  | ref J=>simp [af.isRef] at J
  | mp bd aE aF=>exact .imp (λ_ h=>h) (.inr (aP _ ((aF _).2 rfl))) bd aE
 | iD aE =>
  intro v F bg aP ρ';cases bg with
  | ref _ av _ =>
   obtain ⟨⟨b,aF,rfl⟩,_⟩:=av;obtain ⟨hA,cG,iS,dL,dt⟩:=h.part aE (by simp);rw [aF] at iS;cases iS;cases dL with
   | ref J=>simp [af.isRef] at J
   | mp bd aE aF=>exact .imp (λ_ h=>h) (.inr ⟨_,dt _ ((aF _).2 rfl)⟩) bd aE
 | self aJ h1 ak aN bP cZ =>
  intro v F bg aP ρ';refine ((bg.bE aJ).mB λc aa=>.inl aa).empty ?_;cases bg with
  | mp=>exact absurd rfl (cZ _)
  | lit _ aP | aO aP | dead aP | ref _ _ aP | hz aP | aD aP | bs aP | ea aP | imp aP=>exact aP
  | own=>exact absurd rfl (h1 _ _ _)
  | obj=>exact absurd rfl (ak _)
  | agg=>exact absurd rfl (aN _)
  | cr=>exact absurd rfl (bP _)
 | @agg cs cs' ao _ aS =>
  intro v F bg aP ρ';cases bg with
  | ref J=>simp [af.isRef] at J
  | @agg _ vs bZ _ hK h1 av aV kB =>
   refine .agg (Fs:=λ_=>cR) (by rw [ao,hK]) h1 (λk y u ay hu=>?_) (λ_ _ _ _ _ h=>h.elim) (λc=>⟨λh=>h.elim,λ⟨_,_,h⟩=>h⟩);have hk:k<cs.length:=by rw [<- ao]; exact (List.getElem?_eq_some_iff.1 ay).1
   have J:=List.getElem?_eq_getElem hk;exact aS k _ y J ay (av k _ u J hu) (λc aa=>aP c ((kB c).2 ⟨k,hk,aa⟩)) ρ'
 | @ea fn cs cs' ao _ aS =>
  intro v F bg aP ρ';cases bg with
  | ref J=>simp [af.isRef] at J
  | @ea _ _ _ v1 v2 _ wJ h1 ak jI ik =>
   refine .ea (λ_ h=>h) h1 (by rw [ao,ak]) (λk x u J=>by simp at J) (λk y u ay hu=>?_);have hk:k<cs.length:=by rw [<- ao]; exact (List.getElem?_eq_some_iff.1 ay).1
   have J:=List.getElem?_eq_getElem hk;exact aS k _ y J ay (ik k _ u J hu) (λc aa=>aa.elim) ρ'
 | @own z n cs cs' ao _ aS =>
  intro v F bg aP ρ';obtain ⟨a,cap,us,bZ,rfl,aJ,hlen,bf,aa⟩:=bg.xd;cases a with
  | none =>
   have hy:cs=[]:=by
    cases cs with
    | nil=>rfl
    | cons c cs=>obtain ⟨b,aF,_⟩:=aa 0 c rfl; cases aF
   subst hy;have kW:cs'=[]:=List.eq_nil_of_length_eq_zero (by simpa using ao);subst kW;have oF:n=0:=by
    cases bg with
    | ref J=>simp [af.isRef] at J
    | own bd =>
     obtain ⟨_,b_⟩:=bd;rcases b_ with ⟨b_,ba⟩ | ⟨b,c2,cur,b_,_⟩
     ·exact ba
     ·cases b_
   subst oF;exact .hz λ_ h=>h
  | some ad =>
   obtain ⟨b,rfl,pY⟩:=bf ad rfl;refine .aD (us:=us) (λ_ h=>h) aJ (.inr (aP b pY)) rfl (by rw [ao,hlen]) (λk y ay=>?_) (λk y ay=>?_) λk y ay=>?_
   all_goals
    have hk:k<cs.length:=by rw [<- ao]; exact (List.getElem?_eq_some_iff.1 ay).1
    have J:=List.getElem?_eq_getElem hk;obtain ⟨iA,ke,h1,ak,aN,bP⟩:=aa k _ J;cases ke
   ·exact ak
   ·simpa using h1
   ·exact aS k _ y J ay aN (λc aa=>aP c (bP c aa)) ρ'
 | @obj cs cs' ao _ aS =>
  intro v F bg aP ρ';cases bg with
  | ref J=>simp [af.isRef] at J
  | @obj _ b e arr bZ _ bd hK h1 av aV aF kB =>
   refine .bs (us:=λk=>arr.getD k undef) (λ_ h=>h) (.inr (aP b ((kB b).2 (.inl rfl)))) rfl (λk y ay=>?_) (λk y ay=>?_) λk y ay=>?_
   all_goals
    have hk:k<cs.length:=by rw [<- ao]; exact (List.getElem?_eq_some_iff.1 ay).1
    have J:=List.getElem?_eq_getElem hk;have hu:arr[k]?=some arr[k]:=Array.getElem?_eq_getElem (hK ▸ hk)
   ·simpa [hu] using h1 k _ hu
   ·simp [World.cell?,bd,hu]
   ·simpa [hu] using aS k _ y J ay (av k _ _ J hu) (λc aa=>aP c ((kB c).2 (.inr ⟨k,hk,aa⟩))) ρ'
 | @bq z n N p cs cs' aE aJ ao _ aS =>
  intro v F bg aP ρ';obtain ⟨⟨a,iK,cap,h1,rfl,aN⟩,_⟩:=bg.l_;obtain ⟨o0,o4,gF,ht,lx⟩:=h.part aE (by simp);rw [h1] at gF;cases gF;obtain ⟨a2,pS,us,bZ,jU,kC,hlen,bf,aa⟩:=ht.xd;cases jU;have hle:n * z<=N * z:=Nat.mul_le_mul_right _ aJ;have cell:∀ k,k<cs'.length->∃ x b,(cs.take (n * z))[k]?=some x/\a=some ⟨b,0,none⟩/\w.cell? ⟨b,k,none⟩=some (us k)/\(us k).oneCell'=true/\R w I (ed w T g) x (us k) (bZ k)/\∀ c,bZ k c->o4 c:=by
   intro k hk;rw [ao,List.length_take] at hk;have J:cs[k]?=some cs[k]:=List.getElem?_eq_getElem (by omega);obtain ⟨b,r⟩:=aa k _ J;exact ⟨_,b,by rw [List.getElem?_take,if_pos (by omega)]; exact J,r⟩
  cases a with
  | none =>
   have kW:cs'=[]:=by
    cases cs' with
    | nil=>rfl
    | cons c l=>obtain ⟨_,b,_,aF,_⟩:=cell 0 (by simp); cases aF
   subst kW;obtain ⟨_,_,jU,_,_,_,qU⟩:=ht.mb;cases jU;have oF:n=0:=by
    rcases Nat.eq_zero_or_pos n with ba | ba
    ·exact ba
    ·have:=qU (by omega); simp at this
   subst oF;exact .hz λ_ h=>h
  | some ad =>
   obtain ⟨b,rfl,pY⟩:=bf ad rfl;refine .aD (us:=us) (λ_ h=>h) (by omega) (.inr ⟨_,lx b pY⟩) rfl (by rw [ao,List.length_take,hlen]; omega) (λk y ay=>?_) (λk y ay=>?_) λk y ay=>?_
   all_goals
    obtain ⟨x,iA,J,ke,bP,cZ,dv,h7⟩:=cell k (List.getElem?_eq_some_iff.1 ay).1;cases ke
   ·exact cZ
   ·simpa using bP
   ·exact aS k x y J ay dv (λc aa=>⟨_,lx c (h7 c aa)⟩) ρ'
 | @sub z lo n N p cs cs' aE aJ ao _ aS =>
  intro v F bg aP ρ';obtain ⟨⟨a,iK,cap,cx,lr,h1,rfl,Fl,aN,cZ⟩,_⟩:=bg.uW;obtain ⟨o0,o4,gF,ht,lx⟩:=h.part aE (by simp);rw [h1] at gF;cases gF;obtain ⟨a2,pS,us,bZ,jU,kC,hlen,bf,aa⟩:=ht.xd;cases jU;have hle:lo * z+n * z<=N * z:=by rw [<- Nat.add_mul]; exact Nat.mul_le_mul_right _ aJ
  have hK:cs'.length=n * z:=by rw [ao,List.length_take,List.length_drop,hlen]; omega
  have cell:∀ k,k<cs'.length->∃ x b,((cs.drop (lo * z)).take (n * z))[k]?=some x/\a=some ⟨b,0,none⟩/\w.cell? ⟨b,lo * z+k,none⟩=some (us (lo * z+k))/\(us (lo * z+k)).oneCell'=true/\R w I (ed w T g) x (us (lo * z+k)) (bZ (lo * z+k))/\∀ c,bZ (lo * z+k) c->o4 c:=by
   intro k hk;have J:cs[lo * z+k]?=some cs[lo * z+k]:=List.getElem?_eq_getElem (by omega);obtain ⟨b,r⟩:=aa _ _ J;exact ⟨_,b,by rw [List.getElem?_take,if_pos (by omega),List.getElem?_drop]; exact J,r⟩
  by_cases oF:n=0
  ·subst oF;have kW:cs'=[]:=List.eq_nil_of_length_eq_zero (by simpa using hK);subst kW;exact .hz λ_ h=>h
  ·obtain ⟨ad,rfl,rfl⟩:=cZ (by omega);obtain ⟨b,rfl,pY⟩:=bf ad rfl;refine .aD (us:=λk=>us (lo * z+k)) (λ_ h=>h) Fl (.inr ⟨_,lx b pY⟩) rfl hK (λk y ay=>?_) (λk y ay=>?_) λk y ay=>?_
   all_goals
    obtain ⟨x,iA,J,ke,bP,Em,dv,h7⟩:=cell k (List.getElem?_eq_some_iff.1 ay).1;cases ke
   ·exact Em
   ·simpa using bP
   ·exact aS k x y J ay dv (λc aa=>⟨_,lx c (h7 c aa)⟩) ρ'
 | @ptr p k z n y cs cs' aE ay hk ao _ aS =>
  intro v F bg aP ρ';obtain ⟨⟨u,ad,h1,ak,rfl⟩,_⟩:=bg.mz;obtain ⟨o0,o4,gF,ht,lx⟩:=h.part aE (by rcases ay with rfl | rfl <;> simp);rw [h1] at gF;cases gF;have cell:∀ ae,ae<cs'.length->∃ gj j_ tM,w.cell? ⟨ad.block,k+ae,none⟩=some gj/\gj.oneCell'=true/\(cs.drop k)[ae]?=some j_/\R w I (ed w T g) j_ gj tM/\(∀ c,tM c->∃ t,Fs t c):=by
   intro ae ab;rw [ao,List.length_drop] at ab;have f':cs[k+ae]?=some cs[k+ae]:=List.getElem?_eq_getElem (by omega);obtain ⟨b,gj,fJ,k8,lA,gE,_⟩:=ht.node ay f';rw [ak] at fJ;cases fJ;have fK:b9 g (p.push (k+ae))=some cs[k+ae]:=by rw [rB,aE]; rcases ay with rfl | rfl <;> simp [af.kids]
   by_cases hD:∃ cD gI cT b6 c7,cs[k+ae]=.b3 cD gI cT b6 c7
   ·obtain ⟨cD,gI,cT,b6,c7,hD⟩:=hD;obtain ⟨b,UJ,_,_,yU,_,bZ,jR⟩:=ht.node ay f';rw [hD] at jR;exact jR.kI.elim
   ·obtain ⟨nA,Df,p',EB,kB⟩:=h.part fK (λcD gI cT b6 c7 e=>hD ⟨_,_,_,_,_,e⟩);rw [vB,h1] at p';simp only [Option.bind_some] at p';rw [lA] at p';cases p';exact ⟨gj,_,Df,k8,gE,by rw [List.getElem?_drop]; exact f',EB,λc aa=>⟨_,kB c aa⟩⟩
  obtain ⟨b,gj,fJ,_⟩:=ht.node ay (List.getElem?_eq_getElem hk);rw [ak] at fJ;cases fJ;have hblk:∃ t,Fs t b:=⟨_,lx b (ht.Cy ay ak)⟩;refine .bs (us:=λae=>(w.cell? ⟨b,k+ae,none⟩).getD undef) (λ_ h=>h) (.inr hblk) rfl (λae jB my=>?_) (λae jB my=>?_) λae jB my=>?_
  all_goals
   obtain ⟨gj,j_,tM,c1,c2,lV,c4,lq⟩:=cell ae (List.getElem?_eq_some_iff.1 my).1
  ·simpa [c1] using c2
  ·simp [c1]
  ·simpa [c1] using aS ae j_ jB lV my c4 lq ρ'
 | @rows z n p cs cs' aE ao _ aS =>
  intro v F bg aP ρ';obtain ⟨a,iK,cap,h1,rfl,aN⟩:=bg.l_.1;obtain ⟨v0,e,us,jh,bd,hlen,mJ,aF,av⟩:=Rows.sound (w:=w) (I:=I) (T:=T) (Fs:=Fs) (λt z q n m new aC=>h.rel t _ aC) (λp z n cs aE=>h.part aE (by simp)) (λz p n v hv=>by obtain ⟨⟨a,cap,h1,rfl⟩,_⟩:=hv; exact h1) aE;rw [h1] at jh;cases jh;refine Lv bd hlen mJ aF ao λk x y u J ay hu=>?_;obtain ⟨bZ,jR,eV⟩:=av k x u J hu;exact aS k x y J ay jR eV ρ'
end
end Go.Own
namespace Go.Own
open Go
def oe (args:List af):aU:=λt=>args[t]?
def nZ (outs:List (Option af)) (res:af):aU:=λt=>if t=outs.length then some res else (outs[t]?).join
structure kt (w:World) (I U:bn) (w':World) (I' AZ:bn):Prop where
 fp:Fr w w' U
 more:∀ c,I c->I' c
 new:∀ c,I' c->I c\/U c\/w.heap.size<=c
 own:∀ c,AZ c->U c\/w.heap.size<=c
def cf (P:Program) (f:FuncId) (args:List af) (outs:List (Option af)) (res:af):Prop :=
 outs.length=args.length/\∀ (w:World) (I:bn) (vs:List Value) (Fs:Nat->bn),vs.length=args.length->cV w I vs.toArray (oe args) Fs ->
  Calls P f vs.toArray w λe w'=>∃ v I' cn,e=.returned v/\cV w' I' (vs++[v]).toArray (nZ outs res) cn/\kt w I (λc=>∃ t,Fs t c) w' I' (λc=>∃ t,cn t c)
def dD (P:Program) (f:FuncId):Bool :=
 match P.funcs[f]? with
 | some fn => fn.name != "runtime.NumGoroutine" && fn.body.isSome
 | none=>false
inductive cw (P:Program) (g:aU):Op->af->Prop
 | plain {c:Operand}{xs:Array Operand}{ia:Array TypeId}{f:FuncId}{first caps ys:List af}{res:af}(aa:bI g c=some (.ea (.func f) first caps)) (J:il g xs.toList=some ys) (bh:dD P f=true)
   (aJ:∀ y∈first++ys++caps,c6 y) (iR:cf P f (first++ys++caps) ((first++ys++caps).map λ_=>none) res) (av:c6 res):cw P g (.call { callee:=.value c,args:=xs,argTypes:=ia }) res
 | Cs {c:Operand}{xs:Array Operand}{ia:Array TypeId}{f:FuncId}{first caps ys args:List af}{res:af}(aa:bI g c=some (.ea (.func f) first caps)) (J:il g xs.toList=some ys) (bh:dD P f=true)
   (ao:args.length=(first++ys++caps).length) (hv:∀ (k:Nat) (x y:af),(first++ys++caps)[k]?=some x->args[k]?=some y->View g x y) (iR:cf P f args (args.map λ_=>none) res) (av:ka res) :
   cw P g (.call { callee:=.value c,args:=xs,argTypes:=ia }) res
section
variable {P:Program}{w:World}{I:bn}{T:Array Value}{g:aU}{Fs:Nat->bn}
theorem DK {f:FuncId}(h:dD P f=true) (args:Array Value):(callFunc f args).run P w=.ok (.enter f args) w:=by
 unfold dD at h;cases bh:P.funcs[f]? with
 | none=>simp [bh] at h
 | some fn =>
  simp [bh] at h;obtain ⟨h1,ak⟩:=h;cases aF:fn.body with
  | none=>simp [aF] at ak
  | some c=>simp [callFunc,bh,h1,aF]
theorem DJ (h:cV w I T g Fs) {a:Act}(bf:a.tmps=T) {c:Operand}{xs:Array Operand}{f:FuncId}{first caps ys:List af}(aa:bI g c=some (.ea (.func f) first caps)) (J:il g xs.toList=some ys) :
  ∃ v1 v2:Array Value,a.eval c=.func (.func f) v1 v2/\(first++ys++caps).length=(v1++xs.map a.eval++v2).toList.length /\
   ∀ (k:Nat) (x:af) (u:Value),(first++ys++caps)[k]?=some x->(v1++xs.map a.eval++v2).toList[k]?=some u->R w I (ed w T g) x u cR:=by
 have JL:=kK h aa bf;obtain ⟨ao,av⟩:=xb h bf J;generalize sZ:a.eval c=Wn at JL;cases JL with
 | ref J=>simp [af.isRef] at J
 | @ea _ _ _ v1 v2 _ _ h1 ak jI ik =>
  have hlen:xs.size=ys.length:=by rw [<- Array.length_toList,ao]
  refine ⟨v1,v2,rfl,by simp [h1,ak,hlen],λk x u oN nT=>?_⟩;simp only [Array.toList_append,Array.toList_map] at nT;by_cases hc:k<first.length
  ·rw [List.append_assoc,List.getElem?_append_left hc] at oN;rw [List.append_assoc,List.getElem?_append_left (by simp; omega)] at nT;exact jI k x u oN (by simpa using nT)
  ·rw [List.append_assoc,List.getElem?_append_right (by omega)] at oN;rw [List.append_assoc,List.getElem?_append_right (by simp; omega)] at nT;simp only [Array.length_toList,<- h1] at nT;by_cases gD:k - first.length<ys.length
   ·rw [List.getElem?_append_left gD] at oN;rw [List.getElem?_append_left (by simp; omega),List.getElem?_map] at nT;cases FO:xs.toList[k - first.length]? with
    | none=>rw [FO] at nT; cases nT
    | some o=>rw [FO] at nT; cases nT; exact av _ x o oN FO
   ·rw [List.getElem?_append_right (by omega)] at oN;rw [List.getElem?_append_right (by simp; omega)] at nT;simp only [List.length_map,Array.length_toList] at nT;rw [hlen] at nT;exact ik _ x u oN (by simpa using nT)
theorem cV.args {I':bn}(h:cV w I T g Fs) (bp:∀ c,I' c->I c\/∃ t,Fs t c) {args:List af}{vs:List Value}(ao:args.length=vs.length)
  (av:∀ (ρ':af->Value->Prop) (k:Nat) (x:af) (u:Value),args[k]?=some x->vs[k]?=some u->R w I' ρ' x u cR):cV w I' vs.toArray (oe args) (λ_=>cR):=by
 refine ⟨λt x J=>?_,λ_ _ _ h=>h,λ_ _ _ h=>h.elim,λ_ _ h=>h.elim,λc aa=>?_,λt c' z p n m new cD cT b6 c7 h1 ak=>?_⟩
 ·have aC:t<args.length:=(List.getElem?_eq_some_iff.1 J).1;have hu:vs[t]?=some vs[t]:=List.getElem?_eq_getElem (ao ▸ aC);exact ⟨vs[t],by rw [List.getElem?_toArray]; exact hu,.tree (av _ t x _ J hu)⟩
 ·rcases bp c aa with aR | ⟨t,aR⟩
  ·exact h.lt c aR
  ·exact h.jL t c aR
 ·have aC:t<args.length:=(List.getElem?_eq_some_iff.1 h1).1;exact (av (λ_ _=>False) t _ _ h1 (List.getElem?_eq_getElem (ao ▸ aC))).kI.elim
theorem cw.sound (h:cV w I T g Fs) {a:Act}(bf:a.tmps=T) {o:Oper}{jY:af}(aE:cw P g o.op jY) {K:Act->World->Prop}{Q:Exit->Act->World->Prop}
  (ep:∀ v w',sy w I T g Fs jY v w'->K (a.put o.dst v) w'):o.wp P a w K Q:=by
 obtain ⟨dst,op,ty,pos,after,guard⟩:=o;simp only at aE ep;have zG:c6 jY->∀ z p n m new,jY=.b3 z p n m new->∀ t cD cT b6 c7,g t≠some (.b3 cD p cT b6 c7):=by
  rintro aJ z p n m new rfl;cases aJ
 have last:∀ {args:List af}{res:af}{v:Value}{vs:List Value}{w':World}{I':bn}{cn:Nat->bn},vs.length=args.length->cV w' I' (vs++[v]).toArray (nZ (args.map λ_=>none) res) cn->js w' I' (ed w' (vs++[v]).toArray (nZ (args.map λ_=>none) res)) res v (cn args.length)/\∀ t,t≠args.length->∀ c,¬ cn t c:=by
  intro args res v vs w' I' cn ao bW;constructor
  ·obtain ⟨u,hu,bg⟩:=bW.rel args.length res (by simp [nZ]);have:u=v:=by
    rw [<- ao] at hu;simpa using hu.symm
   subst this; exact bg
  ·intro t aC c aa;refine bW.kk t ?_ c aa;have po:t≠(args.map λ_=>(none:Option af)).length:=by simpa using aC
   simp only [nZ,if_neg po,List.getElem?_map];cases args[t]? <;> rfl
 cases aE with
 | @plain c xs ia f first caps ys _ aa J bh aJ iR av =>
  obtain ⟨v1,v2,sZ,ao,nN⟩:=DJ h bf aa J;have hU:(execOp a.eval { dst:=dst,op:=.call { callee:=.value c,args:=xs,argTypes:=ia },type:=ty,pos:=pos,after:=after,guard:=guard }).run P w=.ok (.enter f (v1++xs.map a.eval++v2)) w:=by
   simp [execOp,resolve,Deferred.ofValue,sZ,invoke,DK bh]
  have bW:=h.args (I':=I) (λc aa=>.inl aa) ao λρ' k x u J hu=>(nN k x u J hu).bE (aJ x (List.mem_of_getElem? J));have sY:=iR.2 w I (v1++xs.map a.eval++v2).toList _ ao.symm bW;unfold Oper.wp Oper.upon;simp only [hU];rw [Array.toArray_toList] at sY;refine Calls.mono sY ?_;rintro e w' ⟨v,I',cn,rfl,er,cd⟩;obtain ⟨wU,gW⟩:=last ao.symm er;have rT:Fr w w' (λ_=>False):=cd.fp.mono λb _ ⟨_,aF⟩=>aF;refine ep v w' ⟨cn (first++ys++caps).length,I',?_,?_,?_,?_,cd.more,?_,rT.mono λ_ _ h=>h.elim,zG av⟩
  ·have:=h.world (w':=w') (λt c aa=>rT.block c (h.jL t c aa) (λh=>h)) (λc aa=>rT.block c (h.lt c aa) λh=>h) rT.size;refine ⟨λt x J=>?_,this.kk,this.eT,λt c aa hi=>?_,er.lt,this.pE⟩
   ·obtain ⟨v,hv,bg⟩:=this.rel t x J;exact ⟨v,hv,bg.frame (λ_ _=>rfl) cd.more (λ_ _ h=>h) (λ_ _ _ _ _ _ _=>rfl) λ_ _=>rfl⟩
   ·rcases cd.new c hi with aR | ⟨_,aR⟩ | aR
    ·exact h.aD t c aa aR
    ·exact aR
    ·have:=h.jL t c aa; omega
  ·exact .tree ((wU.hE (by rintro z p n m new rfl; cases av)).bE av)
  ·intro t c aa s3;rcases cd.own c ⟨_,aa⟩ with ⟨_,aR⟩ | aR
   ·exact aR
   ·have:=h.jL t c s3; omega
  ·intro c aa;rcases cd.own c ⟨_,aa⟩ with ⟨_,aR⟩ | aR
   ·exact aR.elim
   ·exact ⟨aR,er.aD _ c aa⟩
  ·intro c aa;rcases cd.new c aa with aR | ⟨_,aR⟩ | aR
   ·exact .inl aR
   ·exact aR.elim
   ·exact .inr aR
 | @Cs c xs ia f first caps ys args _ aa J bh Fb hv iR av =>
  obtain ⟨v1,v2,sZ,ao,nN⟩:=DJ h bf aa J;have hU:(execOp a.eval { dst:=dst,op:=.call { callee:=.value c,args:=xs,argTypes:=ia },type:=ty,pos:=pos,after:=after,guard:=guard }).run P w=.ok (.enter f (v1++xs.map a.eval++v2)) w:=by
   simp [execOp,resolve,Deferred.ofValue,sZ,invoke,DK bh]
  have hK:args.length=(v1++xs.map a.eval++v2).toList.length:=by rw [Fb,ao]
  have bW:=h.args (I':=λc=>I c\/∃ t,Fs t c) (λc aa=>aa) hK λρ' k x u J hu=>by
   have hk:k<(first++ys++caps).length:=by rw [<- Fb]; exact (List.getElem?_eq_some_iff.1 J).1
   have kF:=List.getElem?_eq_getElem hk;exact (hv k _ x kF J).sound h (nN k _ u kF hu) (λ_ h=>h.elim) ρ'
  have sY:=iR.2 w _ (v1++xs.map a.eval++v2).toList _ hK.symm bW;unfold Oper.wp Oper.upon;simp only [hU];rw [Array.toArray_toList] at sY;refine Calls.mono sY ?_;rintro e w' ⟨v,I',cn,rfl,er,cd⟩;obtain ⟨wU,gW⟩:=last hK.symm er;have rT:Fr w w' (λ_=>False):=cd.fp.mono λb _ ⟨_,aF⟩=>aF;refine ep v w' ⟨cn args.length,I,?_,?_,?_,?_,λ_ h=>h,λ_ h=>.inl h,rT.mono λ_ _ h=>h.elim,zG av.bE⟩
  ·exact h.world (w':=w') (λt c aa=>rT.block c (h.jL t c aa) (λh=>h)) (λc aa=>rT.block c (h.lt c aa) λh=>h) rT.size
  ·exact .tree ((wU.hE (by rintro z p n m new rfl; cases av)).kJ av)
  ·intro t c aa s3;rcases cd.own c ⟨_,aa⟩ with ⟨_,aR⟩ | aR
   ·exact aR
   ·have:=h.jL t c s3; omega
  ·intro c aa;rcases cd.own c ⟨_,aa⟩ with ⟨_,aR⟩ | aR
   ·exact aR.elim
   ·exact ⟨aR,λhi=>by have:=h.lt c hi; omega⟩
end
end Go.Own
namespace Go.Own
open Go
structure jt (w:World) (I:bn) (T:Array Value) (g:aU) (Fs:Nat->bn):Prop where
 rel:∀ t x,g t=some x->∃ v,T[t]?=some v/\js w I (fT w T) x v (Fs t)
 kk:∀ t,g t=none->∀ c,¬ Fs t c
 eT:∀ t c' c,Fs t c->Fs c' c->t=c'
 aD:∀ t c,Fs t c->¬ I c
 lt:∀ c,I c->c<w.heap.size
def c0 (g:aU) (p:Place) (y:af):aU:=λt=>if t=p.root then (g t).map λx=>x.setAt p.path y else g t
inductive eK (g:aU):af->Prop
 | bE {x:af}(h:c6 x):eK g x
 | ref {x:af}(J:x.isRef=true) (h:gS g x):eK g x
 | own {z n:Nat}{cs:List af}(h:∀ x∈cs,eK g x):eK g (.own z n cs)
 | obj {cs:List af}(h:∀ x∈cs,eK g x):eK g (.obj cs)
 | agg {cs:List af}(h:∀ x∈cs,eK g x):eK g (.agg cs)
 | cr {cs:List af}(h:∀ x∈cs,eK g x):eK g (.cr cs)
 | ea {fn:Fn}{a b:List af}(h1:∀ x∈a,eK g x) (ak:∀ x∈b,eK g x):eK g (.ea fn a b)
 | b3 {z n m:Nat}{p:Place}{new:List af}(aE:gS g (.b3 z p n 0 [])) (h:∀ x∈new,eK g x):eK g (.b3 z p n m new)
section
variable {w:World}{I:bn}{T:Array Value}{g:aU}{Fs:Nat->bn}
theorem R.br {x:af}{v:Value}{F:bn}(h:R w I (fT w T) x v F):eK g x->R w I (ed w T g) x v F:=by
 induction h with
 | lit h aP=>exact λ_=>.lit h aP
 | aO aP=>exact λ_=>.aO aP
 | dead aP=>exact λ_=>.dead aP
 | @ref x _ _ J h aP =>
  intro hk;refine .ref J ⟨h,?_⟩ aP;cases hk with
  | ref _ h=>exact h
  | bE h=>cases h <;> simp [af.isRef] at J
  | _=>simp [af.isRef] at J
 | hz aP=>exact λ_=>.hz aP
 | mp bd aE aP=>exact λ_=>.mp bd aE aP
 | imp aP bp bd aE=>exact λ_=>.imp aP bp bd aE
 | aD aP kC bp aL ao h1 aa av aS =>
  intro hk;cases hk with
  | ref J=>simp [af.isRef] at J
  | bE h=>cases h with | aD h=>exact .aD aP kC bp aL ao h1 aa λk x J=>aS k x J (.bE (h x (List.mem_of_getElem? J)))
 | bs aP bp aL h1 aa av aS =>
  intro hk;cases hk with
  | ref J=>simp [af.isRef] at J
  | bE h=>cases h with | bs h=>exact .bs aP bp aL h1 aa λk x J=>aS k x J (.bE (h x (List.mem_of_getElem? J)))
 | own bd ao h1 av aV aF aP aS =>
  intro hk;refine .own bd ao h1 (λk x u J hu=>aS k x u J hu ?_) aV aF aP;cases hk with
  | ref J=>simp [af.isRef] at J
  | bE h=>cases h with | own h=>exact .bE (h x (List.mem_of_getElem? J))
  | own h=>exact h x (List.mem_of_getElem? J)
 | obj bd ao h1 av aV aF aP aS =>
  intro hk;refine .obj bd ao h1 (λk x u J hu=>aS k x u J hu ?_) aV aF aP;cases hk with
  | ref J=>simp [af.isRef] at J
  | bE h=>cases h with | obj h=>exact .bE (h x (List.mem_of_getElem? J))
  | obj h=>exact h x (List.mem_of_getElem? J)
 | agg ao h1 av aV aP aS =>
  intro hk;refine .agg ao h1 (λk x u J hu=>aS k x u J hu ?_) aV aP;cases hk with
  | ref J=>simp [af.isRef] at J
  | bE h=>cases h with | agg h=>exact .bE (h x (List.mem_of_getElem? J))
  | agg h=>exact h x (List.mem_of_getElem? J)
 | cr ao av aV aP aS =>
  intro hk;refine .cr ao (λk x u J hu=>aS k x u J hu ?_) aV aP;cases hk with
  | ref J=>simp [af.isRef] at J
  | bE h=>cases h with | cr h=>exact .bE (h x (List.mem_of_getElem? J))
  | cr h=>exact h x (List.mem_of_getElem? J)
 | @ea fn first caps v1 v2 F aP h1 ak jI ik ga fW =>
  intro hk;have:(∀ x∈first,eK g x)/\∀ x∈caps,eK g x:=by
   cases hk with
   | ref J=>simp [af.isRef] at J
   | bE h=>cases h with | ea h1 ak=>exact ⟨λx J=>.bE (h1 x J),λx J=>.bE (ak x J)⟩
   | ea h1 ak=>exact ⟨h1,ak⟩
  exact .ea aP h1 ak (λk x u J hu=>ga k x u J hu (this.1 x (List.mem_of_getElem? J))) (λk x u J hu=>fW k x u J hu (this.2 x (List.mem_of_getElem? J)))
theorem js.br {x:af}{v:Value}{F:bn}(h:js w I (fT w T) x v F) (hk:eK g x):js w I (ed w T g) x v F:=by
 cases h with
 | tree h=>exact .tree (h.br hk)
 | b3 h =>
  cases hk with
  | bE h=>cases h
  | ref J=>simp [af.isRef] at J
  | b3 aE aJ=>exact .b3 ⟨⟨h.j4,aE⟩,h.kD,h.l5,h.ao,h.h1,λk x u J hu=>(h.av k x u J hu).br (aJ x (List.mem_of_getElem? J)),h.aP⟩
theorem cV.lP (h:cV w I T g Fs):jt w I T g Fs :=
  ⟨λt x J=>by
    obtain ⟨v,hv,bg⟩:=h.rel t x J;refine ⟨v,hv,?_⟩;cases bg with
    | tree bg=>exact .tree (bg.frame (λ_ _=>rfl) (λ_ h=>h) (λ_ _ h=>h.1) λ_ _=>rfl)
    | b3 bg=>exact .b3 ⟨bg.j4.1,bg.kD,bg.l5,bg.ao,bg.h1,λk x u J hu=>(bg.av k x u J hu).frame (λ_ _=>rfl) (λ_ h=>h) (λ_ _ h=>h.1) λ_ _=>rfl,bg.aP⟩,
   h.kk,h.eT,h.aD,h.lt⟩
theorem jt.UD (h:jt w I T g Fs) {g':aU}(aY:∀ t x,g' t=some x->g t=some x) (hk:∀ t x,g' t=some x->eK g' x)
  (aE:∀ t c' z p n m new cD cT b6 c7,g' t=some (.b3 z p n m new)->g' c'=some (.b3 cD p cT b6 c7)->t=c'):cV w I T g' (λt c=>g' t≠none/\Fs t c):=by
 refine ⟨λt x J=>?_,λt aC c aa=>aa.1 aC,λt c' c aa fa=>h.eT t c' c aa.2 fa.2,λt c aa=>h.aD t c aa.2,h.lt,aE⟩;obtain ⟨v,hv,bg⟩:=h.rel t x (aY t x J);have:Fs t=λc=>g' t≠none/\Fs t c:=by
  funext c;exact propext ⟨λaa=>⟨by rw [J]; simp,aa⟩,λaa=>aa.2⟩
 refine ⟨v,hv,?_⟩;rw [<- this];exact bg.br (hk t x J)
theorem jt.part (h:jt w I T g Fs) {p:Place}{y:af}(aE:b9 g p=some y) (ay:∀ z q n m new,y≠.b3 z q n m new):∃ v cG,ef w T p=some v/\R w I (fT w T) y v cG/\(∀ c,cG c->Fs p.root c) /\
  ∀ (y':af) (iZ:bn),R w I (fT w T) y' v iZ->(∀ c,iZ c->Fs p.root c->cG c)->(∀ c,iZ c->¬ I c)->(∀ t c,t≠p.root->iZ c->¬ Fs t c) ->
   ∃ cn,jt w I T (c0 g p y') cn/\(∀ c,cn p.root c↔(Fs p.root c/\¬ cG c)\/iZ c)/\∀ t,t≠p.root->cn t=Fs t:=by
 unfold b9 at aE;cases J:g p.root with
 | none=>rw [J] at aE; cases aE
 | some x =>
  rw [J] at aE;obtain ⟨v,hv,bg⟩:=h.rel _ _ J;replace bg:=bg.hE (by
   rintro z q n m new rfl;exact ay _ _ _ _ _ (af.rC aE).2)
  obtain ⟨ib,cG,hw,dL,dt,fN,kn⟩:=R.focus p.path bg aE;refine ⟨ib,cG,by simp [ef,hv,hw],dL,dt,λy' iZ kd lZ bp Kl=>?_⟩;obtain ⟨fL,EA,nK⟩:=kn w I (fT w T) y' iZ ⟨λ_ _=>rfl,λ_ _ _=>rfl,λ_ h=>h,λ_ _ h=>h⟩ kd lZ;refine ⟨λt=>if t=p.root then fL else Fs t,⟨λt x' f'=>?_,λt aC c=>?_,λt c' c aa fa=>?_,λt c aa=>?_,h.lt⟩,λc=>by simp [nK c],λt aC=>by simp [aC]⟩
  ·by_cases hL:t=p.root
   ·subst hL;have Sf:x.setAt p.path y'=x':=by simpa [c0,J] using f'
    subst Sf;exact ⟨v,hv,.tree (by simpa using EA)⟩
   ·simp only [c0,if_neg hL] at f';simpa [hL] using h.rel t x' f'
  ·by_cases hL:t=p.root
   ·subst hL; simp [c0,J] at aC
   ·simp only [c0,if_neg hL] at aC; simpa [hL] using h.kk t aC c
  ·by_cases h1:t=p.root <;> by_cases ak:c'=p.root <;> simp only [h1,ak,if_true,if_false] at aa fa
   ·rw [h1,ak]
   ·rcases (nK c).1 aa with ⟨aN,_⟩ | aN
    ·rw [h1]; exact h.eT _ _ _ aN fa
    ·exact absurd fa (Kl c' c ak aN)
   ·rcases (nK c).1 fa with ⟨aN,_⟩ | aN
    ·rw [ak]; exact h.eT _ _ _ aa aN
    ·exact absurd aa (Kl t c h1 aN)
   ·exact h.eT _ _ _ aa fa
  ·by_cases h1:t=p.root <;> simp only [h1,if_true,if_false] at aa
   ·rcases (nK c).1 aa with ⟨aN,_⟩ | aN
    ·exact h.aD _ c aN
    ·exact bp c aN
   ·exact h.aD t c aa
end
end Go.Own
namespace Go.Own
open Go
inductive Take:aU->List af->List af->aU->Prop
 | bE {g:aU}{xs:List af}(h:∀ x∈xs,c6 x):Take g xs xs g
 | cons {g g':aU}{x:af}{xs xs':List af}(h:c6 x) (aC:Take g xs xs' g'):Take g (x::xs) (x::xs') g'
 | bq {g g1 g':aU}{z n N:Nat}{p:Place}{cs cs' xs xs':List af}(aE:b9 g p=some (.own z N cs)) (aJ:n<=N) (h1:Take (c0 g p .dead) (cs.take (n * z)) cs' g1) (ak:Take g1 xs xs' g') :
   Take g (.bq z p n::xs) (.own z n cs'::xs') g'
 | b3 {g g1 g':aU}{z n m t:Nat}{q:Place}{cs new cs' xs xs':List af}(aC:g t=some (.b3 z q n m new)) (aE:b9 g q=some (.own z n cs)) (bK:q.root≠t) (h1:Take (c0 (c0 g ⟨t,[]⟩ .dead) q .dead) (cs++new) cs' g1) (ak:Take g1 xs xs' g') :
   Take g (.bq z ⟨t,[]⟩ (n+m)::xs) (.own z (n+m) cs'::xs') g'
 | CF {g g1 g':aU}{z n m t pA m2 t2:Nat}{q:Place}{cs new w8 cs' xs xs':List af}(aC:g t=some (.b3 z ⟨t2,[]⟩ n m new)) (Kv:g t2=some (.b3 z q pA m2 w8)) (aJ:n=pA+m2) (aE:b9 g q=some (.own z pA cs)) (bK:q.root≠t) (qT:q.root≠t2) (R6:t≠t2)
   (h1:Take (c0 (c0 (c0 g ⟨t,[]⟩ .dead) ⟨t2,[]⟩ .dead) q .dead) (cs++w8++new) cs' g1) (ak:Take g1 xs xs' g') :
   Take g (.bq z ⟨t,[]⟩ (n+m)::xs) (.own z (n+m) cs'::xs') g'
 | obj {g g1 g':aU}{p:Place}{cs cs' xs xs':List af}(aE:b9 g p=some (.obj cs)) (h1:Take (c0 g p .dead) cs cs' g1) (ak:Take g1 xs xs' g'):Take g (.ptr p 0::xs) (.obj cs'::xs') g'
 | mp {g g1 g':aU}{p:Place}{q:Array MapEntry->Nat->Prop}{xs xs':List af}(aE:b9 g p=some (.mp q)) (h1:Take (c0 g p .dead) [] [] g1) (ak:Take g1 xs xs' g'):Take g (.iD p::xs) (.mp q::xs') g'
 | agg {g g1 g':aU}{cs cs' xs xs':List af}(h1:Take g cs cs' g1) (ak:Take g1 xs xs' g'):Take g (.agg cs::xs) (.agg cs'::xs') g'
 | cr {g g1 g':aU}{cs cs' xs xs':List af}(h1:Take g cs cs' g1) (ak:Take g1 xs xs' g'):Take g (.cr cs::xs) (.cr cs'::xs') g'
structure Hand (w:World) (I:bn) (ρ:af->Value->Prop) (Fs:Nat->bn) (xs:List af) (vs:List Value) (dx:Nat->bn):Prop where
 len:xs.length=vs.length
 rel:∀ (k:Nat) (x:af) (u:Value),xs[k]?=some x->vs[k]?=some u->R w I ρ x u (dx k)
 eT:∀ (ae k c:Nat),ae<xs.length->k<xs.length->dx ae c->dx k c->ae=k
 off:∀ (k t c:Nat),k<xs.length->dx k c->¬ Fs t c
 aD:∀ (k c:Nat),k<xs.length->dx k c->¬ I c
def kO (Fs:Nat->bn) (n:Nat) (dx:Nat->bn):bn:=λc=>(∃ t,Fs t c)\/∃ k,k<n/\dx k c
section
variable {w:World}{I:bn}{T:Array Value}
theorem Take.length {g g':aU}{xs xs':List af}(h:Take g xs xs' g'):xs'.length=xs.length:=by
 induction h with
 | bE=>rfl
 | cons _ _ aS=>simp [aS]
 | bq _ _ _ _ _ aS=>simp [aS]
 | b3 _ _ _ _ _ _ aS=>simp [aS]
 | CF _ _ _ _ _ _ _ _ _ _ aS=>simp [aS]
 | obj _ _ _ _ aS=>simp [aS]
 | mp _ _ _ _ aS=>simp [aS]
 | agg _ _ _ aS=>simp [aS]
 | cr _ _ _ aS=>simp [aS]
theorem Hand.cons {ρ:af->Value->Prop}{Fs:Nat->bn}{x:af}{v:Value}{F:bn}{xs:List af}{vs:List Value}{dx:Nat->bn}(h:Hand w I ρ Fs xs vs dx) (J:R w I ρ x v F)
  (aV:∀ k c,k<xs.length->F c->¬ dx k c) (bd:∀ t c,F c->¬ Fs t c) (hi:∀ c,F c->¬ I c):Hand w I ρ Fs (x::xs) (v::vs) (λk=>match k with | 0=>F | k+1=>dx k):=by
 refine ⟨by simp [h.len],λk y u ay hu=>?_,λae k c ab hk h1 ak=>?_,λk t c hk aa=>?_,λk c hk aa=>?_⟩
 ·cases k with
  | zero=>simp at ay hu; subst ay hu; exact J
  | succ k=>simp at ay hu; exact h.rel k y u ay hu
 ·cases ae <;> cases k
  ·rfl
  ·exact absurd ak (aV _ c (by simpa using hk) h1)
  ·exact absurd h1 (aV _ c (by simpa using ab) ak)
  ·rw [h.eT _ _ c (by simpa using ab) (by simpa using hk) h1 ak]
 ·cases k with
  | zero=>exact bd t c aa
  | succ k=>exact h.off k t c (by simpa using hk) aa
 ·cases k with
  | zero=>exact hi c aa
  | succ k=>exact h.aD k c (by simpa using hk) aa
theorem Hand.tail {ρ:af->Value->Prop}{Fs:Nat->bn}{x:af}{v:Value}{xs:List af}{vs:List Value}{dx:Nat->bn}(h:Hand w I ρ Fs (x::xs) (v::vs) dx):Hand w I ρ Fs xs vs (λk=>dx (k+1)) :=
  ⟨by simpa using h.len,λk y u ay hu=>h.rel (k+1) y u ay hu,λae k c ab hk h1 ak=>by have:=h.eT (ae+1) (k+1) c (by simpa using ab) (by simpa using hk) h1 ak; omega,
   λk t c hk aa=>h.off (k+1) t c (by simpa using hk) aa,λk c hk aa=>h.aD (k+1) c (by simpa using hk) aa⟩
theorem nY {x:af}{xs:List af}(h:c6 x) (aS:∀ y∈xs,c6 y):∀ y∈x::xs,c6 y:=by
 intro y ay;rcases List.mem_cons.1 ay with rfl | ay
 ·exact h
 ·exact aS y ay
theorem Take.zJ {g g':aU}{xs xs':List af}(h:Take g xs xs' g'):∀ x∈xs',c6 x:=by
 induction h with
 | bE h=>exact h
 | cons h _ aS=>exact nY h aS
 | bq _ _ _ _ ga fW=>exact nY (.own ga) fW
 | b3 _ _ _ _ _ ga fW=>exact nY (.own ga) fW
 | CF _ _ _ _ _ _ _ _ _ ga fW=>exact nY (.own ga) fW
 | obj _ _ _ ga fW=>exact nY (.obj ga) fW
 | mp _ _ _ _ fW=>exact nY .mp fW
 | agg _ _ ga fW=>exact nY (.agg ga) fW
 | cr _ _ ga fW=>exact nY (.cr ga) fW
def Dn (w:World) (I:bn) (T:Array Value) (g:aU) (xs xs':List af) (g':aU):Prop :=
 ∀ {Fs:Nat->bn}{vs:List Value}{dx:Nat->bn},jt w I T g Fs->Hand w I (fT w T) Fs xs vs dx ->
  ∃ cn jq,jt w I T g' cn/\Hand w I (fT w T) cn xs' vs jq/\∀ c,kO cn xs'.length jq c->kO Fs xs.length dx c
theorem Gp {w:World}{e cO:TypeId}{z n:Nat}{v:Value}{us iu:List Value}(h:w.ownsRow 0 e z v n us) (aR:w.ownsRow 0 cO z v n iu):us=iu:=by
 obtain ⟨h1,ak⟩:=h;obtain ⟨mJ,uy⟩:=aR;rcases ak with ⟨rfl,rfl⟩ | ⟨b,cap,cur,rfl,_,aY,_,_,_,aC⟩
 ·simp at h1 mJ; rw [h1,mJ]
 ·rcases uy with ⟨b_,_⟩ | ⟨iA,lr,O4,b_,_,J3,_,_,_,po⟩
  ·cases b_
  ·cases b_;rw [aY] at J3;cases J3;rw [<- aC,<- po]
theorem Take.node {g1 g2 g':aU}{Fs fS:Nat->bn}{B H0:bn}{cs cs' xs xs':List af}{us vs:List Value}{bZ dx:Nat->bn}{X:af}{v0:Value}
  (bW:jt w I T g1 fS) (hH:Hand w I (fT w T) fS cs us bZ) (jb:∀ c,B c->(∃ t,Fs t c)/\(∀ t,¬ fS t c)/\(∀ k,k<cs.length->¬ bZ k c)/\¬ I c)
  (gr:∀ c,kO fS cs.length bZ c->(∃ t,Fs t c)\/H0 c) (fv:Hand w I (fT w T) Fs xs vs dx) (sS:∀ c,H0 c->(∀ t,¬ Fs t c)/\∀ k,k<xs.length->¬ dx k c)
  (ga:Dn w I T g1 cs cs' g2) (fW:Dn w I T g2 xs xs' g')
  (build:∀ jq:Nat->bn,(∀ (k:Nat) (x:af) (u:Value),cs'[k]?=some x->us[k]?=some u->R w I (fT w T) x u (jq k))->(∀ (ae k c:Nat),ae<cs'.length->k<cs'.length->jq ae c->jq k c->ae=k) ->
   (∀ k c,k<cs'.length->jq k c->¬ B c)->R w I (fT w T) X v0 (λc=>B c\/∃ k,k<cs'.length/\jq k c)) :
  ∃ cn jq,jt w I T g' cn/\Hand w I (fT w T) cn (X::xs') (v0::vs) jq/\∀ c,kO cn (X::xs').length jq c->(∃ t,Fs t c)\/H0 c\/∃ k,k<xs.length/\dx k c:=by
 obtain ⟨iI,H1,hS,BP,yO⟩:=ga bW hH;have Tk:∀ k t c,k<xs.length->dx k c->¬ iI t c:=by
  intro k t c hk aa bh;rcases gr c (yO c (.inl ⟨t,bh⟩)) with ⟨c',h⟩ | h
  ·exact fv.off k c' c hk aa h
  ·exact (sS c h).2 k hk aa
 obtain ⟨vO,xU,EH,Qr,JO⟩:=fW hS (⟨fv.len,fv.rel,fv.eT,Tk,fv.aD⟩:Hand w I (fT w T) iI xs vs dx);have Qh:∀ k c,k<cs'.length->H1 k c->¬ B c:=by
  intro k c hk aa aF;obtain ⟨_,h1,ak,_⟩:=jb c aF;rcases yO c (.inr ⟨k,hk,aa⟩) with ⟨t,h⟩ | ⟨ae,ab,h⟩
  ·exact h1 t h
  ·exact ak ae ab h
 have EK:=build H1 BP.rel BP.eT Qh
 -- the node's blocks: apart from all else
 have key:∀ c,(B c\/∃ k,k<cs'.length/\H1 k c)->(∀ t,¬ iI t c)/\(∀ k,k<xs.length->¬ dx k c)/\¬ I c/\((∃ t,Fs t c)\/H0 c):=by
  rintro c (aF | ⟨k,hk,aa⟩)
  ·obtain ⟨⟨t0,ba⟩,h1,ak,aN⟩:=jb c aF;refine ⟨λt bh=>?_,λk hk aa=>fv.off k t0 c hk aa ba,aN,.inl ⟨t0,ba⟩⟩;rcases yO c (.inl ⟨t,bh⟩) with ⟨c',h⟩ | ⟨ae,ab,h⟩
   ·exact h1 c' h
   ·exact ak ae ab h
  ·have aL:=gr c (yO c (.inr ⟨k,hk,aa⟩));refine ⟨λt bh=>BP.off k t c hk aa bh,λae ab uF=>?_,BP.aD k c hk aa,aL⟩;rcases aL with ⟨t,h⟩ | h
   ·exact fv.off ae t c ab uF h
   ·exact (sS c h).2 ae ab uF
 have fin:∀ c,(B c\/∃ k,k<cs'.length/\H1 k c)->(∀ t,¬ vO t c)/\∀ k,k<xs'.length->¬ xU k c:=by
  intro c aa;obtain ⟨h1,ak,_,_⟩:=key c aa;have none:¬ kO vO xs'.length xU c:=by
   intro h;rcases JO c h with ⟨t,h⟩ | ⟨k,hk,h⟩
   ·exact h1 t h
   ·exact ak k hk h
  exact ⟨λt h=>none (.inl ⟨t,h⟩),λk hk h=>none (.inr ⟨k,hk,h⟩)⟩
 refine ⟨vO,_,EH,Qr.cons EK (λk c hk aa=>(fin c aa).2 k hk) (λt c aa=>(fin c aa).1 t) (λc aa=>(key c aa).2.2.1),?_⟩;have back:∀ c,kO vO xs'.length xU c->(∃ t,Fs t c)\/H0 c\/∃ k,k<xs.length/\dx k c:=by
  intro c h;rcases JO c h with ⟨t,h⟩ | h
  ·rcases gr c (yO c (.inl ⟨t,h⟩)) with h | h
   ·exact .inl h
   ·exact .inr (.inl h)
  ·exact .inr (.inr h)
 rintro c (h | ⟨k,hk,aa⟩)
 ·exact back c (.inl h)
 ·cases k with
  | zero =>
   rcases (key c aa).2.2.2 with h | h
   ·exact .inl h
   ·exact .inr (.inl h)
  | succ k=>exact back c (.inr ⟨k,by simpa using hk,aa⟩)
end
end Go.Own
namespace Go.Own
open Go
section
variable {w:World}{I:bn}{T:Array Value}
theorem jt.kill {g:aU}{Fs:Nat->bn}(h:jt w I T g Fs) (t:Nat):∃ cn,jt w I T (c0 g ⟨t,[]⟩ .dead) cn/\(∀ c,¬ cn t c)/\∀ s,s≠t->cn s=Fs s:=by
 refine ⟨λs=>if s=t then cR else Fs s,⟨λs x J=>?_,λs aL c=>?_,λs eL c aa fa=>?_,λs c aa=>?_,h.lt⟩,λc=>by simp,λs aL=>by simp [aL]⟩
 ·by_cases cd:s=t
  ·subst cd;simp only [c0,if_pos] at J;cases aY:g s with
   | none=>rw [aY] at J; cases J
   | some y =>
    rw [aY] at J;have:x=.dead:=by simpa [af.setAt] using J.symm
    subst this;obtain ⟨v,hv,_⟩:=h.rel s y aY;exact ⟨v,hv,.tree (.dead (by simp))⟩
  ·simp only [c0,if_neg cd] at J; simpa [cd] using h.rel s x J
 ·by_cases cd:s=t
  ·simp [cd]
  ·simp only [c0,if_neg cd] at aL; simpa [cd] using h.kk s aL c
 ·by_cases h1:s=t <;> by_cases ak:eL=t <;> simp [h1,ak,cR] at aa fa;exact h.eT _ _ _ aa fa
 ·by_cases h1:s=t <;> simp [h1,cR] at aa;exact h.aD _ _ aa
theorem R.s0 {ρ:af->Value->Prop}{Fs:Nat->bn}{x:af}{v:Value}{xs:List af}{vs:List Value}{dx:Nat->bn}(h:Hand w I ρ Fs (x::xs) (v::vs) dx):∀ c,dx 0 c->(∀ t,¬ Fs t c)/\∀ k,k<xs.length->¬ dx (k+1) c:=by
 intro c aa;refine ⟨λt=>h.off 0 t c (by simp) aa,λk hk hJ=>?_⟩;have:=h.eT 0 (k+1) c (by simp) (by simpa using hk) aa hJ;omega
theorem kO.head {Fs:Nat->bn}{x:af}{xs:List af}{dx:Nat->bn}{c:Nat}(h:(∃ t,Fs t c)\/dx 0 c\/∃ k,k<xs.length/\dx (k+1) c):kO Fs (x::xs).length dx c:=by
 rcases h with h | h | ⟨k,hk,h⟩
 ·exact .inl h
 ·exact .inr ⟨0,by simp,h⟩
 ·exact .inr ⟨k+1,by simpa using hk,h⟩
theorem CY {g:aU}{p:Place}{y:af}{q:Place}(h:q.root≠p.root):b9 (c0 g p y) q=b9 g q:=by
 simp [b9,c0,h]
theorem si {g:aU}{p:Place}{y:af}{t:Nat}(h:t≠p.root):c0 g p y t=g t:=by
 simp [c0,h]
theorem K' {a:Option Addr}{n cap cT lr:Nat}:(Value.slice a n cap).ownBlock=(Value.slice a cT lr).ownBlock:=by cases a <;> rfl
theorem Ts {e:TypeId}{z n N:Nat}{a:Option Addr}{cap:Nat}{us:List Value}(h:w.ownsRow 0 e z (.slice a N cap) N us) (aJ:n<=N):w.ownsRow 0 e z (.slice a n cap) n (us.take (n * z)):=by
 have hle:n * z<=N * z:=Nat.mul_le_mul_right _ aJ;obtain ⟨hu,b_⟩:=h;refine ⟨by rw [List.length_take,hu]; omega,?_⟩;rcases b_ with ⟨b_,ba⟩ | ⟨b,c2,cur,b_,sc,fX,tu,q6,tv,sd⟩
 ·cases b_; exact .inl ⟨by simp; omega,by omega⟩
 ·cases b_;refine .inr ⟨b,cap,cur,rfl,sc,fX,by omega,q6,tv,?_⟩;rw [<- sd,List.take_take,Nat.min_eq_left hle]
theorem Take.sound {g g':aU}{xs xs':List af}(h:Take g xs xs' g'):Dn w I T g xs xs' g':=by
 induction h with
 | bE h=>exact λ{Fs vs dx} bW hH=>⟨Fs,dx,bW,hH,λ_ h=>h⟩
 | @cons g g' x xs xs' J _ aS =>
  intro Fs vs dx bW hH;cases vs with
  | nil=>have:=hH.len; simp at this
  | cons v vs =>
   obtain ⟨cn,jq,er,Qq,gU⟩:=aS bW hH.tail;have ba:=R.s0 hH;have off:∀ c,dx 0 c->¬ kO cn xs'.length jq c:=by
    intro c aa aF;rcases gU c aF with ⟨t,h⟩ | ⟨k,hk,h⟩
    ·exact (ba c aa).1 t h
    ·exact (ba c aa).2 k hk h
   refine ⟨cn,_,er,Qq.cons (hH.rel 0 x v rfl rfl) (λk c hk aa h=>off c aa (.inr ⟨k,hk,h⟩)) (λt c aa h=>off c aa (.inl ⟨t,h⟩)) (λc aa=>hH.aD 0 c (by simp) aa),?_⟩;rintro c (h | ⟨k,hk,h⟩)
   ·rcases gU c (.inl h) with h | ⟨ae,ab,h⟩
    ·exact .inl h
    ·exact .inr ⟨ae+1,by simpa using ab,h⟩
   ·cases k with
    | zero=>exact .inr ⟨0,by simp,h⟩
    | succ k =>
     rcases gU c (.inr ⟨k,by simpa using hk,h⟩) with h | ⟨ae,ab,h⟩
     ·exact .inl h
     ·exact .inr ⟨ae+1,by simpa using ab,h⟩
 | @bq g g1 g' z n N p cs cs' xs xs' aE aJ t1 _ ga fW =>
  intro Fs vs dx bW hH;cases vs with
  | nil=>have:=hH.len; simp at this
  | cons v vs =>
   obtain ⟨o0,cG,gF,ht,dt,kn⟩:=bW.part aE (by simp);obtain ⟨a,iK,cap,h1,rfl,aN⟩:=(hH.rel 0 _ v rfl rfl).l_;rw [h1] at gF;cases gF;obtain ⟨a2,pS,jU,_⟩:=ht.mb;cases jU;obtain ⟨fS,iO,jI,ik⟩:=kn .dead cR (.dead λ_ h=>h) (λ_ h=>h.elim) (λ_ h=>h.elim) (λ_ _ _ h=>h.elim);have kR:∀ t c,fS t c->Fs t c/\¬ cG c:=by
    intro t c aa;by_cases aC:t=p.root
    ·subst aC;rcases (jI c).1 aa with h | h
     ·exact h
     ·exact h.elim
    ·rw [ik t aC] at aa;exact ⟨aa,λeu=>aC (bW.eT _ _ _ aa (dt c eu))⟩
   cases ht with
   | ref J=>simp [af.isRef] at J
   | @own _ _ _ _ e us bZ _ bd ao mJ av aV aF aP =>
    have Cb:∀ k,k<(cs.take (n * z)).length->k<cs.length:=λk hk=>by rw [List.length_take] at hk; omega
    have eV:∀ k c,k<(cs.take (n * z)).length->bZ k c->cG c:=λk c hk aa=>(aP c).2 (.inr ⟨k,Cb k hk,aa⟩);have ih:Hand w I (fT w T) fS (cs.take (n * z)) (us.take (n * z)) bZ:=by
     refine ⟨by simp [ao],λk x u J hu=>?_,λae k c ab hk=>aV ae k c (Cb ae ab) (Cb k hk),λk t c hk aa bh=>(kR t c bh).2 (eV k c hk aa),λk c hk aa=>bW.aD _ c (dt c (eV k c hk aa))⟩;rw [List.getElem?_take] at J hu
     split at J
     ·rename_i dO; rw [if_pos dO] at hu; exact av k x u J hu
     ·cases J
    have nQ:=Ts bd aJ;obtain ⟨cn,jq,ar,a2,a3⟩:=Take.node (g1:=c0 g p .dead) (Fs:=Fs) (B:=λc=>(Value.slice a n cap).ownBlock=some c) (H0:=dx 0) (X:=.own z n cs') (v0:=.slice a n cap) iO ih
     (λc aa=>by
      have eu:cG c:=(aP c).2 (.inl (by rw [<- aa]; exact K'));exact ⟨⟨_,dt c eu⟩,λt bh=>(kR t c bh).2 eu,λk hk hJ=>aF k c (Cb k hk) hJ (by rw [<- aa]; exact K'),bW.aD _ c (dt c eu)⟩)
     (λc aa=>by
      rcases aa with ⟨t,h⟩ | ⟨k,hk,h⟩
      ·exact .inl ⟨t,(kR t c h).1⟩
      ·exact .inl ⟨_,dt c (eV k c hk h)⟩)
     hH.tail (R.s0 hH) ga fW (λvQ hq h2 kQ=>by
      refine .own nQ (by rw [t1.length]; simp [ao]) (λk u hu=>?_) hq h2 (λk c hk aa h=>kQ k c hk aa h) λc=>Iff.rfl;rw [List.getElem?_take] at hu
      split at hu
      ·exact mJ k u hu
      ·cases hu)
    exact ⟨cn,jq,ar,a2,λc aa=>kO.head (a3 c aa)⟩
 | @b3 g g1 g' z n m t q cs new cs' xs xs' aC aE bK t1 _ ga fW =>
  intro Fs vs dx bW hH;cases vs with
  | nil=>have:=hH.len; simp at this
  | cons v vs =>
   obtain ⟨a,iK,cap,h1,rfl,aN⟩:=(hH.rel 0 _ v rfl rfl).l_;obtain ⟨v0,jh,gm⟩:=bW.rel t _ aC;simp only [ef,jh,walk,Option.some.injEq] at h1;subst h1;obtain ⟨bv,e,cX,us,news,gm⟩:=gm.tl;have bU:iK=n+m:=by
    obtain ⟨_,b_⟩:=gm.l5;rcases b_ with ⟨b_,ba⟩ | ⟨_,_,_,b_,_⟩
    ·cases b_; omega
    ·cases b_; rfl
   subst bU;obtain ⟨MP,EJ,hc,gD⟩:=bW.kill t;have Ft:b9 (c0 g ⟨t,[]⟩ .dead) q=some (.own z n cs):=by rw [CY (by simpa using bK)]; exact aE
   obtain ⟨o0,cG,gF,ht,dt,kn⟩:=EJ.part Ft (by simp);obtain ⟨cx,lr,bP,rfl⟩:=gm.j4;rw [bP] at gF;cases gF;obtain ⟨fS,iO,jI,ik⟩:=kn .dead cR (.dead λ_ h=>h) (λ_ h=>h.elim) (λ_ h=>h.elim) (λ_ _ _ h=>h.elim);have oz:∀ c,cG c->Fs q.root c:=λc aa=>by have:=dt c aa; rwa [gD _ bK] at this
   have kR:∀ s c,fS s c->Fs s c/\¬ cG c/\s≠t:=by
    intro s c aa;have cd:s≠t:=by
     rintro rfl;by_cases tb:s=q.root
     ·exact bK tb.symm
     ·rw [ik s tb] at aa; exact hc c aa
    by_cases aL:s=q.root
    ·subst aL;rcases (jI c).1 aa with h | h
     ·exact ⟨by have:=h.1; rwa [gD _ bK] at this,h.2,cd⟩
     ·exact h.elim
    ·rw [ik s aL,gD s cd] at aa;exact ⟨aa,λeu=>aL (bW.eT _ _ _ aa (oz c eu)),cd⟩
   cases ht with
   | ref J=>simp [af.isRef] at J
   | @own _ _ _ _ cO iu bZ _ bd ao mJ av aV aF aP =>
    have:=Gp bd gm.kD;subst this;have eV:∀ k c,k<cs.length->bZ k c->cG c:=λk c hk aa=>(aP c).2 (.inr ⟨k,hk,aa⟩);have ih:Hand w I (fT w T) fS (cs++new) (iu++news) (λk=>if k<cs.length then bZ k else cR):=by
     refine ⟨by simp [ao,gm.ao],λk x u J hu=>?_,λae k c ab hk aa fa=>?_,λk s c hk aa bh=>?_,λk c hk aa=>?_⟩
     ·by_cases dO:k<cs.length
      ·rw [List.getElem?_append_left dO] at J;rw [List.getElem?_append_left (by omega)] at hu;simpa [dO] using av k x u J hu
      ·rw [List.getElem?_append_right (by omega)] at J;rw [List.getElem?_append_right (by omega),<- ao] at hu;simpa [dO] using gm.av _ x u J hu
     ·by_cases e3:ae<cs.length <;> by_cases dO:k<cs.length <;> simp [e3,dO,cR] at aa fa;exact aV ae k c e3 dO aa fa
     ·by_cases dO:k<cs.length <;> simp [dO,cR] at aa;exact (kR s c bh).2.1 (eV k c dO aa)
     ·by_cases dO:k<cs.length <;> simp [dO,cR] at aa;exact bW.aD _ c (oz c (eV k c dO aa))
    obtain ⟨cn,jq,ar,a2,a3⟩:=Take.node (g1:=c0 (c0 g ⟨t,[]⟩ .dead) q .dead) (Fs:=Fs) (B:=λc=>(Value.slice a (n+m) cap).ownBlock=some c) (H0:=dx 0) (X:=.own z (n+m) cs') (v0:=.slice a (n+m) cap) iO ih
     (λc aa=>by
      by_cases pj:(Value.slice cx n lr).ownBlock=some c
      ·have eu:cG c:=(aP c).2 (.inl pj);refine ⟨⟨_,oz c eu⟩,λs bh=>(kR s c bh).2.1 eu,λk hk hJ=>?_,bW.aD _ c (oz c eu)⟩;by_cases dO:k<cs.length <;> simp [dO,cR] at hJ;exact aF k c dO hJ pj
      ·have Cc:Fs t c:=(gm.aP c).2 ⟨aa,pj⟩;refine ⟨⟨_,Cc⟩,λs bh=>(kR s c bh).2.2 (bW.eT _ _ _ (kR s c bh).1 Cc),λk hk hJ=>?_,bW.aD _ c Cc⟩;by_cases dO:k<cs.length <;> simp [dO,cR] at hJ;exact bK (bW.eT _ _ _ (oz c (eV k c dO hJ)) Cc))
     (λc aa=>by
      rcases aa with ⟨s,h⟩ | ⟨k,hk,h⟩
      ·exact .inl ⟨s,(kR s c h).1⟩
      ·by_cases dO:k<cs.length <;> simp [dO,cR] at h;exact .inl ⟨_,oz c (eV k c dO h)⟩)
     hH.tail (R.s0 hH) ga fW (λvQ hq h2 kQ=>by
      refine .own gm.l5 (by rw [t1.length]; simp [ao,gm.ao]) (λk u hu=>?_) hq h2 (λk c hk aa h=>kQ k c hk aa h) λc=>Iff.rfl;by_cases dO:k<iu.length
      ·rw [List.getElem?_append_left dO] at hu; exact mJ k u hu
      ·rw [List.getElem?_append_right (by omega)] at hu; exact gm.h1 _ u hu)
    exact ⟨cn,jq,ar,a2,λc aa=>kO.head (a3 c aa)⟩
 | @CF g g1 g' z n m t pA m2 t2 q cs new w8 cs' xs xs' aC Kv aJ aE bK qT R6 t1 _ ga fW =>
  subst aJ;intro Fs vs dx bW hH;cases vs with
  | nil=>have:=hH.len; simp at this
  | cons v vs =>
   obtain ⟨a,iK,cap,h1,rfl,aN⟩:=(hH.rel 0 _ v rfl rfl).l_;obtain ⟨v0,jh,gm⟩:=bW.rel t _ aC;simp only [ef,jh,walk,Option.some.injEq] at h1;subst h1;obtain ⟨bv,e,cX,us,news,gm⟩:=gm.tl;have bU:iK=pA+m2+m:=by
    obtain ⟨_,b_⟩:=gm.l5;rcases b_ with ⟨b_,ba⟩ | ⟨_,_,_,b_,_⟩
    ·cases b_; omega
    ·cases b_; rfl
   subst bU;obtain ⟨v2,pr,ly⟩:=bW.rel t2 _ Kv;obtain ⟨H',cO,rH,UI,Gi,ly⟩:=ly.tl;have j4:bv=v2:=by
    obtain ⟨ar,Io,cZ,rfl⟩:=gm.j4;simp only [ef,pr,walk,Option.some.injEq] at cZ;exact cZ.symm
   subst j4;have l8:us=UI++Gi:=Gp gm.kD ly.l5;subst l8;obtain ⟨Vc,QI,Rx,E8⟩:=bW.kill t;obtain ⟨MP,EJ,hc,gD⟩:=QI.kill t2;have Ft:b9 (c0 (c0 g ⟨t,[]⟩ .dead) ⟨t2,[]⟩ .dead) q=some (.own z pA cs):=by rw [CY (by simpa using qT),CY (by simpa using bK)]; exact aE
   obtain ⟨o0,cG,gF,ht,dt,kn⟩:=EJ.part Ft (by simp);obtain ⟨cx,lr,bP,rfl⟩:=ly.j4;rw [bP] at gF;cases gF;obtain ⟨fS,iO,jI,ik⟩:=kn .dead cR (.dead λ_ h=>h) (λ_ h=>h.elim) (λ_ h=>h.elim) (λ_ _ _ h=>h.elim);have oz:∀ c,cG c->Fs q.root c:=λc aa=>by have:=dt c aa; rwa [gD _ qT,E8 _ bK] at this
   have kR:∀ s c,fS s c->Fs s c/\¬ cG c/\s≠t/\s≠t2:=by
    intro s c aa;have mK:s≠t2:=by
     rintro rfl;by_cases tb:s=q.root
     ·exact qT tb.symm
     ·rw [ik s tb] at aa; exact hc c aa
    have cd:s≠t:=by
     rintro rfl;by_cases tb:s=q.root
     ·exact bK tb.symm
     ·rw [ik s tb,gD s mK] at aa; exact Rx c aa
    by_cases aL:s=q.root
    ·subst aL;rcases (jI c).1 aa with h | h
     ·exact ⟨by have:=h.1; rwa [gD _ qT,E8 _ bK] at this,h.2,cd,mK⟩
     ·exact h.elim
    ·rw [ik s aL,gD s mK,E8 s cd] at aa;exact ⟨aa,λeu=>aL (bW.eT _ _ _ aa (oz c eu)),cd,mK⟩
   cases ht with
   | ref J=>simp [af.isRef] at J
   | @own _ _ _ _ iN iu bZ _ bd ao mJ av aV aF aP =>
    have:=Gp bd ly.kD;subst this;have eV:∀ k c,k<cs.length->bZ k c->cG c:=λk c hk aa=>(aP c).2 (.inr ⟨k,hk,aa⟩);have ih:Hand w I (fT w T) fS (cs++w8++new) (iu++Gi++news) (λk=>if k<cs.length then bZ k else cR):=by
     have F_:=ly.ao;have zt:=gm.ao;refine ⟨by simp [ao,F_,zt],λk x u J hu=>?_,λae k c ab hk aa fa=>?_,λk s c hk aa bh=>?_,λk c hk aa=>?_⟩
     ·rw [List.append_assoc] at J hu;by_cases dO:k<cs.length
      ·rw [List.getElem?_append_left dO] at J;rw [List.getElem?_append_left (by omega)] at hu;simpa [dO] using av k x u J hu
      ·rw [List.getElem?_append_right (by omega)] at J;rw [List.getElem?_append_right (by omega),<- ao] at hu;simp only [dO,if_false];by_cases Fa:k - cs.length<w8.length
       ·rw [List.getElem?_append_left Fa] at J;rw [List.getElem?_append_left (by omega)] at hu;exact ly.av _ x u J hu
       ·rw [List.getElem?_append_right (by omega)] at J;rw [List.getElem?_append_right (by omega),<- F_] at hu;exact gm.av _ x u J hu
     ·by_cases e3:ae<cs.length <;> by_cases dO:k<cs.length <;> simp [e3,dO,cR] at aa fa;exact aV ae k c e3 dO aa fa
     ·by_cases dO:k<cs.length <;> simp [dO,cR] at aa;exact (kR s c bh).2.1 (eV k c dO aa)
     ·by_cases dO:k<cs.length <;> simp [dO,cR] at aa;exact bW.aD _ c (oz c (eV k c dO aa))
    have LY:∀ s c,Fs s c->s=t\/s=t2->(∃ s,Fs s c)/\(∀ s,¬ fS s c)/\(∀ k,k<(cs++w8++new).length->¬ (if k<cs.length then bZ k else cR) c)/\¬ I c:=by
     intro s c aa aL;refine ⟨⟨_,aa⟩,λeL bh=>?_,λk hk hJ=>?_,bW.aD _ c aa⟩
     ·obtain ⟨f1,_,f2,f3⟩:=kR eL c bh;have:=bW.eT _ _ _ f1 aa;rcases aL with rfl | rfl
      ·exact f2 this
      ·exact f3 this
     ·by_cases dO:k<cs.length <;> simp [dO,cR] at hJ;have:=bW.eT _ _ _ (oz c (eV k c dO hJ)) aa;rcases aL with rfl | rfl
      ·exact bK this
      ·exact qT this
    obtain ⟨cn,jq,ar,a2,a3⟩:=Take.node (g1:=c0 (c0 (c0 g ⟨t,[]⟩ .dead) ⟨t2,[]⟩ .dead) q .dead) (Fs:=Fs) (B:=λc=>(Value.slice a (pA+m2+m) cap).ownBlock=some c) (H0:=dx 0) (X:=.own z (pA+m2+m) cs') (v0:=.slice a (pA+m2+m) cap) iO ih
     (λc aa=>by
      by_cases pj:bv.ownBlock=some c
      ·by_cases ET:(Value.slice cx pA lr).ownBlock=some c
       ·have eu:cG c:=(aP c).2 (.inl ET);refine ⟨⟨_,oz c eu⟩,λs bh=>(kR s c bh).2.1 eu,λk hk hJ=>?_,bW.aD _ c (oz c eu)⟩;by_cases dO:k<cs.length <;> simp [dO,cR] at hJ;exact aF k c dO hJ ET
       ·exact LY t2 c ((ly.aP c).2 ⟨pj,ET⟩) (.inr rfl)
      ·exact LY t c ((gm.aP c).2 ⟨aa,pj⟩) (.inl rfl))
     (λc aa=>by
      rcases aa with ⟨s,h⟩ | ⟨k,hk,h⟩
      ·exact .inl ⟨s,(kR s c h).1⟩
      ·by_cases dO:k<cs.length <;> simp [dO,cR] at h;exact .inl ⟨_,oz c (eV k c dO h)⟩)
     hH.tail (R.s0 hH) ga fW (λvQ hq h2 kQ=>by
      refine .own gm.l5 (by rw [t1.length]; simp [ao,ly.ao,gm.ao]) (λk u hu=>?_) hq h2 (λk c hk aa h=>kQ k c hk aa h) λc=>Iff.rfl;rw [List.append_assoc] at hu;by_cases dO:k<iu.length
      ·rw [List.getElem?_append_left dO] at hu; exact mJ k u hu
      ·rw [List.getElem?_append_right (by omega)] at hu;by_cases Fa:k - iu.length<Gi.length
       ·rw [List.getElem?_append_left Fa] at hu; exact ly.h1 _ u hu
       ·rw [List.getElem?_append_right (by omega)] at hu; exact gm.h1 _ u hu)
    exact ⟨cn,jq,ar,a2,λc aa=>kO.head (a3 c aa)⟩
 | @obj g g1 g' p cs cs' xs xs' aE t1 _ ga fW =>
  intro Fs vs dx bW hH;cases vs with
  | nil=>have:=hH.len; simp at this
  | cons v vs =>
   obtain ⟨o0,cG,gF,ht,dt,kn⟩:=bW.part aE (by simp);obtain ⟨u,ad,h1,ak,rfl⟩:=(hH.rel 0 _ v rfl rfl).mz;rw [h1] at gF;cases gF;obtain ⟨fS,iO,jI,ik⟩:=kn .dead cR (.dead λ_ h=>h) (λ_ h=>h.elim) (λ_ h=>h.elim) (λ_ _ _ h=>h.elim);have kR:∀ t c,fS t c->Fs t c/\¬ cG c:=by
    intro t c aa;by_cases aC:t=p.root
    ·subst aC;rcases (jI c).1 aa with h | h
     ·exact h
     ·exact h.elim
    ·rw [ik t aC] at aa;exact ⟨aa,λeu=>aC (bW.eT _ _ _ aa (dt c eu))⟩
   cases ht with
   | ref J=>simp [af.isRef] at J
   | @obj _ b e arr bZ _ bd ao mJ av aV aF aP =>
    simp only [addrOf,Option.some.injEq] at ak;subst ak;have eV:∀ k c,k<cs.length->bZ k c->cG c:=λk c hk aa=>(aP c).2 (.inr ⟨k,hk,aa⟩);have ih:Hand w I (fT w T) fS cs arr.toList bZ :=
     ⟨by simp [ao],λk x u J hu=>av k x u J (by simpa using hu),aV,λk t c hk aa bh=>(kR t c bh).2 (eV k c hk aa),λk c hk aa=>bW.aD _ c (dt c (eV k c hk aa))⟩
    obtain ⟨cn,jq,ar,a2,a3⟩:=Take.node (g1:=c0 g p .dead) (Fs:=Fs) (B:=λc=>c=b) (H0:=dx 0) (X:=.obj cs') (v0:=.pointer (some ⟨b,0,none⟩)) iO ih
     (λc aa=>by
      subst aa;have eu:cG c:=(aP c).2 (.inl rfl);exact ⟨⟨_,dt c eu⟩,λt bh=>(kR t c bh).2 eu,λk hk hJ=>aF k hk hJ,bW.aD _ c (dt c eu)⟩)
     (λc aa=>by
      rcases aa with ⟨t,h⟩ | ⟨k,hk,h⟩
      ·exact .inl ⟨t,(kR t c h).1⟩
      ·exact .inl ⟨_,dt c (eV k c hk h)⟩)
     hH.tail (R.s0 hH) ga fW (λvQ hq h2 kQ=>by
      refine .obj bd (by rw [t1.length,ao]) mJ (λk x u J hu=>hq k x u J (by simpa using hu)) h2 (λk hk h=>kQ k b hk h rfl) λc=>Iff.rfl)
    exact ⟨cn,jq,ar,a2,λc aa=>kO.head (a3 c aa)⟩
 | @mp g g1 g' p q xs xs' aE t1 _ ga fW =>
  intro Fs vs dx bW hH;cases vs with
  | nil=>have:=hH.len; simp at this
  | cons v vs =>
   obtain ⟨o0,cG,gF,ht,dt,kn⟩:=bW.part aE (by simp);have hm:=hH.rel 0 _ v rfl rfl;cases hm with
   | ref _ hm _ =>
   obtain ⟨Dy,h1,rfl⟩:=hm;rw [h1] at gF;cases gF;obtain ⟨fS,iO,jI,ik⟩:=kn .dead cR (.dead λ_ h=>h) (λ_ h=>h.elim) (λ_ h=>h.elim) (λ_ _ _ h=>h.elim);have kR:∀ t c,fS t c->Fs t c/\¬ cG c:=by
    intro t c aa;by_cases aC:t=p.root
    ·subst aC;rcases (jI c).1 aa with h | h
     ·exact h
     ·exact h.elim
    ·rw [ik t aC] at aa;exact ⟨aa,λeu=>aC (bW.eT _ _ _ aa (dt c eu))⟩
   cases ht with
   | ref J=>simp [af.isRef] at J
   | @mp _ b es clock _ bd bK aP =>
    have ih:Hand w I (fT w T) fS [] [] (λ_=>cR) :=
     ⟨rfl,λk x u J=>by simp at J,λ_ _ _ _ _ h=>h.elim,λ_ _ _ _ h=>h.elim,λ_ _ _ h=>h.elim⟩
    obtain ⟨cn,jq,ar,a2,a3⟩:=Take.node (g1:=c0 g p .dead) (Fs:=Fs) (B:=λc=>c=b) (H0:=dx 0) (X:=.mp q) (v0:=.map (some b)) iO ih
     (λc aa=>by
      subst aa;have eu:cG c:=(aP c).2 rfl;exact ⟨⟨_,dt c eu⟩,λt bh=>(kR t c bh).2 eu,λk hk _=>by simp at hk,bW.aD _ c (dt c eu)⟩)
     (λc aa=>by
      rcases aa with ⟨t,h⟩ | ⟨k,hk,h⟩
      ·exact .inl ⟨t,(kR t c h).1⟩
      ·exact h.elim)
     hH.tail (R.s0 hH) ga fW (λvQ hq h2 kQ=>by
      refine .mp bd bK λc=>⟨λh=>h.elim id λ⟨_,hk,_⟩=>by simp at hk,.inl⟩)
    exact ⟨cn,jq,ar,a2,λc aa=>kO.head (a3 c aa)⟩
 | @agg g g1 g' cs cs' xs xs' t1 _ ga fW =>
  intro Fs vs dx bW hH;cases vs with
  | nil=>have:=hH.len; simp at this
  | cons v vs =>
   have J:=hH.rel 0 _ v rfl rfl;have ba:=R.s0 hH;cases J with
   | ref J=>simp [af.isRef] at J
   | @agg _ us bZ _ ao mJ av aV aP =>
    have eV:∀ k c,k<cs.length->bZ k c->dx 0 c:=λk c hk aa=>(aP c).2 ⟨k,hk,aa⟩;obtain ⟨cn,jq,ar,a2,a3⟩:=Take.node (g1:=g) (Fs:=Fs) (B:=cR) (H0:=dx 0) (X:=.agg cs') (v0:=.agg us) bW
     (⟨by simp [ao],λk x u J hu=>av k x u J (by simpa using hu),aV,λk t c hk aa=>(ba c (eV k c hk aa)).1 t,λk c hk aa=>hH.aD 0 c (by simp) (eV k c hk aa)⟩:Hand w I (fT w T) Fs cs us.toList bZ)
     (λc aa=>aa.elim)
     (λc aa=>by
      rcases aa with h | ⟨k,hk,h⟩
      ·exact .inl h
      ·exact .inr (eV k c hk h))
     hH.tail ba ga fW (λvQ hq h2 kQ=>by
      refine .agg (by rw [t1.length,ao]) mJ (λk x u J hu=>hq k x u J (by simpa using hu)) h2 λc=>⟨λh=>h.elim (λh=>h.elim) id,.inr⟩)
    exact ⟨cn,jq,ar,a2,λc aa=>kO.head (a3 c aa)⟩
 | @cr g g1 g' cs cs' xs xs' t1 _ ga fW =>
  intro Fs vs dx bW hH;cases vs with
  | nil=>have:=hH.len; simp at this
  | cons v vs =>
   have J:=hH.rel 0 _ v rfl rfl;have ba:=R.s0 hH;cases J with
   | ref J=>simp [af.isRef] at J
   | @cr _ us bZ _ ao av aV aP =>
    have eV:∀ k c,k<cs.length->bZ k c->dx 0 c:=λk c hk aa=>(aP c).2 ⟨k,hk,aa⟩;obtain ⟨cn,jq,ar,a2,a3⟩:=Take.node (g1:=g) (Fs:=Fs) (B:=cR) (H0:=dx 0) (X:=.cr cs') (v0:=.tuple us) bW
     (⟨by simp [ao],λk x u J hu=>av k x u J (by simpa using hu),aV,λk t c hk aa=>(ba c (eV k c hk aa)).1 t,λk c hk aa=>hH.aD 0 c (by simp) (eV k c hk aa)⟩:Hand w I (fT w T) Fs cs us.toList bZ)
     (λc aa=>aa.elim)
     (λc aa=>by
      rcases aa with h | ⟨k,hk,h⟩
      ·exact .inl h
      ·exact .inr (eV k c hk h))
     hH.tail ba ga fW (λvQ hq h2 kQ=>by
      refine .cr (by rw [t1.length,ao]) (λk x u J hu=>hq k x u J (by simpa using hu)) h2 λc=>⟨λh=>h.elim (λh=>h.elim) id,.inr⟩)
    exact ⟨cn,jq,ar,a2,λc aa=>kO.head (a3 c aa)⟩
end
end Go.Own
namespace Go.Own
open Go
inductive j0 (lR:af->Prop):af->Prop
 | bE {x:af}(h:c6 x):j0 lR x
 | ref {x:af}(J:x.isRef=true) (h:lR x):j0 lR x
 | own {z n:Nat}{cs:List af}(h:∀ x∈cs,j0 lR x):j0 lR (.own z n cs)
 | obj {cs:List af}(h:∀ x∈cs,j0 lR x):j0 lR (.obj cs)
 | agg {cs:List af}(h:∀ x∈cs,j0 lR x):j0 lR (.agg cs)
 | cr {cs:List af}(h:∀ x∈cs,j0 lR x):j0 lR (.cr cs)
 | ea {fn:Fn}{a b:List af}(h1:∀ x∈a,j0 lR x) (ak:∀ x∈b,j0 lR x):j0 lR (.ea fn a b)
def xy:af->Option Place
 | .ptr p _=>some p
 | .bq _ p _=>some p
 | .sub _ p _ _=>some p
 | .b3 _ p _ _ _=>some p
 | .iD p=>some p
 | _=>none
def Clear (p:Place) (k m:Nat) (r:af):Prop:=∀ q,xy r=some q->q.root=p.root->∀ ae eR,q.path=p.path++ae::eR->ae<k\/k+m<=ae
def fu {α:Type}(l:List α) (k:Nat) (c:List α):List α:=l.take k++c++l.drop (k+c.length)
theorem pI {α:Type}{l:List α}{k:Nat}{c:List α}(h:k+c.length<=l.length):(fu l k c).length=l.length:=by
 simp [fu]; omega
theorem re {α:Type}{l:List α}{k:Nat}{c:List α}(h:k+c.length<=l.length) (ae:Nat):(fu l k c)[ae]?=if k<=ae/\ae<k+c.length then c[ae - k]? else l[ae]?:=by
 unfold fu;rw [List.append_assoc];by_cases h1:ae<k
 ·rw [List.getElem?_append_left (by simp; omega),List.getElem?_take,if_pos h1,if_neg (by omega)]
 ·rw [List.getElem?_append_right (by simp; omega)];have:(l.take k).length=k:=by simp; omega
  rw [this];by_cases ak:ae<k+c.length
  ·rw [List.getElem?_append_left (by omega),if_pos ⟨by omega,ak⟩]
  ·rw [List.getElem?_append_right (by omega),List.getElem?_drop,if_neg (by omega)];congr 1; omega
theorem Ub {α:Type}{l:List α}{k:Nat}{c:List α}{m:Nat}(h:k+c.length<=m) (hm:m<=l.length):(fu l k c).take m=fu (l.take m) k c:=by
 have h1:k+c.length<=(l.take m).length:=by rw [List.length_take]; omega
 apply List.ext_getElem?;intro ae;rw [List.getElem?_take,re h1,re (l:=l) (by omega),List.getElem?_take];by_cases ab:ae<m
 ·rw [if_pos ab,if_pos ab]
 ·rw [if_neg ab,if_neg ab,if_neg (by omega)]
def af.fu (x:af) (k:Nat) (c:List af):af :=
 match x with
 | .own z n cs=>.own z n (Own.fu cs k c)
 | .obj cs=>.obj (Own.fu cs k c)
 | x=>x
section
variable {w:World}{I:bn}{T:Array Value}{g:aU}{Fs:Nat->bn}
theorem R.Al {ρ:af->Value->Prop}{lR:af->Prop}{x:af}{v:Value}{F:bn}(h:R w I ρ x v F):j0 lR x->R w I (λr u=>ρ r u/\lR r) x v F:=by
 induction h with
 | lit h aP=>exact λ_=>.lit h aP
 | aO aP=>exact λ_=>.aO aP
 | dead aP=>exact λ_=>.dead aP
 | @ref x _ _ J h aP =>
  intro hk;refine .ref J ⟨h,?_⟩ aP;cases hk with
  | ref _ h=>exact h
  | bE h=>cases h <;> simp [af.isRef] at J
  | _=>simp [af.isRef] at J
 | hz aP=>exact λ_=>.hz aP
 | mp bd aE aP=>exact λ_=>.mp bd aE aP
 | imp aP bp bd aE=>exact λ_=>.imp aP bp bd aE
 | aD aP kC bp aL ao h1 aa av aS =>
  intro hk;cases hk with
  | ref J=>simp [af.isRef] at J
  | bE h=>cases h with | aD h=>exact .aD aP kC bp aL ao h1 aa λk x J=>aS k x J (.bE (h x (List.mem_of_getElem? J)))
 | bs aP bp aL h1 aa av aS =>
  intro hk;cases hk with
  | ref J=>simp [af.isRef] at J
  | bE h=>cases h with | bs h=>exact .bs aP bp aL h1 aa λk x J=>aS k x J (.bE (h x (List.mem_of_getElem? J)))
 | own bd ao h1 av aV aF aP aS =>
  intro hk;refine .own bd ao h1 (λk x u J hu=>aS k x u J hu ?_) aV aF aP;cases hk with
  | ref J=>simp [af.isRef] at J
  | bE h=>cases h with | own h=>exact .bE (h x (List.mem_of_getElem? J))
  | own h=>exact h x (List.mem_of_getElem? J)
 | obj bd ao h1 av aV aF aP aS =>
  intro hk;refine .obj bd ao h1 (λk x u J hu=>aS k x u J hu ?_) aV aF aP;cases hk with
  | ref J=>simp [af.isRef] at J
  | bE h=>cases h with | obj h=>exact .bE (h x (List.mem_of_getElem? J))
  | obj h=>exact h x (List.mem_of_getElem? J)
 | agg ao h1 av aV aP aS =>
  intro hk;refine .agg ao h1 (λk x u J hu=>aS k x u J hu ?_) aV aP;cases hk with
  | ref J=>simp [af.isRef] at J
  | bE h=>cases h with | agg h=>exact .bE (h x (List.mem_of_getElem? J))
  | agg h=>exact h x (List.mem_of_getElem? J)
 | cr ao av aV aP aS =>
  intro hk;refine .cr ao (λk x u J hu=>aS k x u J hu ?_) aV aP;cases hk with
  | ref J=>simp [af.isRef] at J
  | bE h=>cases h with | cr h=>exact .bE (h x (List.mem_of_getElem? J))
  | cr h=>exact h x (List.mem_of_getElem? J)
 | @ea fn first caps v1 v2 F aP h1 ak jI ik ga fW =>
  intro hk;have:(∀ x∈first,j0 lR x)/\∀ x∈caps,j0 lR x:=by
   cases hk with
   | ref J=>simp [af.isRef] at J
   | bE h=>cases h with | ea h1 ak=>exact ⟨λx J=>.bE (h1 x J),λx J=>.bE (ak x J)⟩
   | ea h1 ak=>exact ⟨h1,ak⟩
  exact .ea aP h1 ak (λk x u J hu=>ga k x u J hu (this.1 x (List.mem_of_getElem? J))) (λk x u J hu=>fW k x u J hu (this.2 x (List.mem_of_getElem? J)))
theorem jt.store (bW:jt w I T g Fs) {p:Place}{nd:af}{z n:Nat}{cs:List af}(aE:b9 g p=some nd) (fU:nd=.own z n cs\/nd=.obj cs) {k:Nat}{cs':List af}(hk:k+cs'.length<=cs.length)
  {iu:List Value}{dx:Nat->bn}(hH:Hand w I (fT w T) Fs cs' iu dx) (l3:∀ x∈cs',c6 x) (gE:∀ (ae:Nat) (u:Value),iu[ae]?=some u->u.oneCell'=true)
  {g2:aU}(BY:∀ t x,g2 t=some x->c0 g p (nd.fu k cs') t=some x)
  (zc:∀ t x,g2 t=some x->∀ y,g t=some y->j0 (λr=>gS g r/\Clear p k cs'.length r/\gS g2 r) y) (lB:∀ t z q n m new,g2 t≠some (.b3 z q n m new)) (l7:g2 p.root≠none) {b:Nat}{v:Value}
  (hv:ef w T p=some v) (aF:addrOf v=some ⟨b,0,none⟩) {e:TypeId}{arr:Array Value}(kS:w.heap[b]?=some (.cells arr e (0,0))) :
  ∃ cn,cV (w.setRow b (fu arr.toList k iu).toArray) I T g2 cn/\∀ t c,cn t c->Fs t c\/∃ ae,ae<cs'.length/\dx ae c:=by
 have kI:∀ z q n m new,nd≠.b3 z q n m new:=by rcases fU with rfl | rfl <;> simp
 have hlen:=hH.len;have qu:∀ c,c≠b->(w.setRow b (fu arr.toList k iu).toArray).heap[c]?=w.heap[c]?:=λc aa=>setRow_other w b c _ aa;have Hc:(w.setRow b (fu arr.toList k iu).toArray).heap[b]?=some (.cells (fu arr.toList k iu).toArray e (0,0)):=setRow_heap w b arr _ e (0,0) kS;have Wp:(w.setRow b (fu arr.toList k iu).toArray).heap.size=w.heap.size:=by simp
 generalize uN:w.setRow b (fu arr.toList k iu).toArray=w' at *
 -- the slot of the node
 obtain ⟨fk,kF⟩:∃ fk,g p.root=some fk:=by
  unfold b9 at aE;cases J:g p.root with
  | none=>rw [J] at aE; cases aE
  | some x=>exact ⟨x,rfl⟩
 have p0:fk.at p.path=some nd:=by simpa [b9,kF] using aE
 obtain ⟨v0,jh,gm⟩:=bW.rel _ _ kF;have Ey:=gm.hE (by rintro z q n m new rfl; exact kI _ _ _ _ _ (af.rC p0).2);have wO:j0 (λr=>gS g r/\Clear p k cs'.length r/\gS g2 r) fk:=by
  cases ak:g2 p.root with
  | none=>exact absurd ak l7
  | some y=>exact zc _ _ ak _ kF
 let Ht:af->Value->Prop:=λr u=>fT w T r u/\gS g r/\Clear p k cs'.length r/\gS g2 r;have Ez:R w I Ht fk v0 (Fs p.root):=Ey.Al wO;obtain ⟨ib,cG,hw,dL,dt,fN,kn⟩:=R.focus p.path Ez p0;have Sd:ib=v:=by simp only [ef,jh,hw,Option.some.injEq] at hv; exact hv
 subst Sd;have ng:cG b:=dL.Cy (z:=z) (n:=n) fU aF;have same:∀ t c,Fs t c->c≠b->w'.heap[c]?=w.heap[c]?:=λ_ c _ aa=>qu c aa;have yK:∀ c,I c->w'.heap[c]?=w.heap[c]?:=λc aa=>qu c λe=>bW.aD _ b (dt b ng) (e ▸ aa);have Km:∀ t,t≠p.root->¬ Fs t b:=λt aC h=>aC (bW.eT _ _ _ h (dt b ng))
 -- ways that are clear of the cells
 obtain ⟨UR,US⟩:=fN w' λc aa aJ=>qu c λe=>aJ (e ▸ ng);have KR:∀ (ρ':af->Value->Prop),(∀ x v,Ht x v->ρ' x v)->(∃ fL,R w' I ρ' (nd.fu k cs') ib fL/\∀ c,fL c->cG c\/∃ ae,ae<cs'.length/\dx ae c)/\∀ ae eR y,(ae<k\/k+cs'.length<=ae)->nd.at (ae::eR)=some y->walk w' ib (ae::eR)=walk w ib (ae::eR):=by
  intro ρ' kX;have new:∀ (ae:Nat) (x:af) (u:Value),cs'[ae]?=some x->iu[ae]?=some u->R w' I ρ' x u (dx ae):=by
   intro ae x u J hu;have ab:ae<cs'.length:=(List.getElem?_eq_some_iff.1 J).1;have:=(hH.rel ae x u J hu).bE (ρ':=ρ') (l3 x (List.mem_of_getElem? J));exact this.frame yK (λ_ h=>h) (λ_ _ h=>h) λc aa=>qu c λe=>hH.off ae p.root b ab (e ▸ aa) (dt b ng)
  rcases fU with rfl | rfl
  ·cases dL with
   | ref J=>simp [af.isRef] at J
   | @own _ _ _ _ cO us bZ _ bd ao h1 av aV jT aP =>
    obtain ⟨l8,b_⟩:=bd;rcases b_ with ⟨rfl,_⟩ | ⟨iA,cap,cur,rfl,sc,fX,tu,q6,tv,sd⟩
    ·simp [addrOf] at aF
    ·simp only [addrOf,Option.some.injEq,Addr.mk.injEq,and_true] at aF;subst aF;rw [kS] at fX;cases fX;have JV:n * z<=arr.toList.length:=by
      rw [<- l8,<- sd,List.length_take] ; simp; omega
     have V6:us.length=cs.length:=ao.symm;have l4:w'.ownsRow 0 e z (.slice (some ⟨iA,0,none⟩) n cap) n (fu us k iu):=by
      refine ⟨by rw [pI (by omega),l8],.inr ⟨iA,cap,_,rfl,sc,Hc,tu,q6,?_,?_⟩⟩
      ·rw [List.size_toArray,pI (by omega),Array.length_toList,tv]
      ·show (fu arr.toList k iu).take (n * z)=_;rw [Ub (by omega) JV,sd]
     have JC:∀ ae,ae<cs.length->¬ bZ ae iA:=λae ab h=>jT ae iA ab h rfl;have eV:∀ ae c,ae<cs.length->bZ ae c->Fs p.root c:=λae c ab aa=>dt c ((aP c).2 (.inr ⟨ae,ab,aa⟩));refine ⟨⟨_,.own (Fs:=λae=>if k<=ae/\ae<k+cs'.length then dx (ae - k) else bZ ae) l4 (by rw [pI hk,pI (by omega),ao]) (λae u hu=>?_) (λae x u J hu=>?_) (λi ae c hi ab aa fa=>?_) (λae c ab aa tf=>?_) (λc=>Iff.rfl),λc aa=>?_⟩,λae eR y ab ay=>?_⟩
     ·rw [re (by omega)] at hu
      split at hu
      ·exact gE _ u hu
      ·exact h1 ae u hu
     ·rw [re hk] at J;rw [re (by omega),<- hlen] at hu;by_cases ez:k<=ae/\ae<k+cs'.length
      ·rw [if_pos ez] at J hu;simpa [ez] using new (ae - k) x u J hu
      ·rw [if_neg ez] at J hu;have e3:ae<cs.length:=(List.getElem?_eq_some_iff.1 J).1;rw [if_neg ez];exact (av ae x u J hu).frame yK (λ_ h=>h) kX λc aa=>qu c λe=>JC ae e3 (e ▸ aa)
     ·rw [pI hk] at hi ab;by_cases h1:k<=i/\i<k+cs'.length <;> by_cases ak:k<=ae/\ae<k+cs'.length <;> simp only [h1,ak,if_false] at aa fa
      ·have:=hH.eT (i - k) (ae - k) c (by omega) (by omega) (by simpa using aa) (by simpa using fa);omega
      ·exact absurd (eV ae c ab fa) (hH.off (i - k) _ c (by omega) (by simpa using aa))
      ·exact absurd (eV i c hi aa) (hH.off (ae - k) _ c (by omega) (by simpa using fa))
      ·exact aV i ae c hi ab aa fa
     ·rw [pI hk] at ab;by_cases h1:k<=ae/\ae<k+cs'.length
      ·rw [if_pos h1] at aa;simp only [Value.ownBlock,Option.some.injEq] at tf;subst tf;exact hH.off (ae - k) p.root iA (by omega) aa (dt iA ng)
      ·rw [if_neg h1] at aa; exact jT ae c ab aa tf
     ·rcases aa with aa | ⟨ae,ab,aa⟩
      ·exact .inl ((aP c).2 (.inl aa))
      ·rw [pI hk] at ab;by_cases h1:k<=ae/\ae<k+cs'.length
       ·rw [if_pos h1] at aa; exact .inr ⟨ae - k,by omega,aa⟩
       ·rw [if_neg h1] at aa; exact .inl ((aP c).2 (.inr ⟨ae,ab,aa⟩))
     ·obtain ⟨c,ni,aa⟩:=af.sG ay;simp only [af.kids] at ni;have e3:ae<cs.length:=(List.getElem?_eq_some_iff.1 ni).1;have hu:us[ae]?=some us[ae]:=List.getElem?_eq_getElem (by omega);have lA:child w (.slice (some ⟨iA,0,none⟩) n cap) ae=some us[ae]:=by
       refine ns (e:=e) (z:=z) (n:=n) (us:=us) ⟨l8,.inr ⟨iA,cap,arr,rfl,sc,kS,tu,q6,tv,sd⟩⟩ hu
      have yU:child w' (.slice (some ⟨iA,0,none⟩) n cap) ae=some us[ae]:=by
       refine ns l4 ?_;rw [re (by omega),if_neg (by omega)]; exact hu
      have:=R.n2 (w':=w') eR (av ae c _ ni hu) aa λc aa=>qu c λe=>JC ae e3 (e ▸ aa);simp [walk,lA,yU,this]
  ·cases dL with
   | ref J=>simp [af.isRef] at J
   | @obj _ iA cO i' bZ _ bd ao h1 av aV jT aP =>
    simp only [addrOf,Option.some.injEq,Addr.mk.injEq,and_true] at aF;subst aF;rw [kS] at bd;cases bd;have sU:cs.length=arr.toList.length:=by simp [ao]
    have eV:∀ ae c,ae<cs.length->bZ ae c->Fs p.root c:=λae c ab aa=>dt c ((aP c).2 (.inr ⟨ae,ab,aa⟩));refine ⟨⟨_,.obj (Fs:=λae=>if k<=ae/\ae<k+cs'.length then dx (ae - k) else bZ ae) Hc (by rw [pI hk,List.size_toArray,pI (by omega),sU]) (λae u hu=>?_) (λae x u J hu=>?_) (λi ae c hi ab aa fa=>?_) (λae ab aa=>?_) (λc=>Iff.rfl),λc aa=>?_⟩,λae eR y ab ay=>?_⟩
    ·rw [List.getElem?_toArray,re (by omega)] at hu
     split at hu
     ·exact gE _ u hu
     ·exact h1 ae u (by simpa using hu)
    ·rw [re hk] at J;rw [List.getElem?_toArray,re (by omega),<- hlen] at hu;by_cases ez:k<=ae/\ae<k+cs'.length
     ·rw [if_pos ez] at J hu;simpa [ez] using new (ae - k) x u J hu
     ·rw [if_neg ez] at J hu;have e3:ae<cs.length:=(List.getElem?_eq_some_iff.1 J).1;rw [if_neg ez];exact (av ae x u J (by simpa using hu)).frame yK (λ_ h=>h) kX λc aa=>qu c λe=>jT ae e3 (e ▸ aa)
    ·rw [pI hk] at hi ab;by_cases h1:k<=i/\i<k+cs'.length <;> by_cases ak:k<=ae/\ae<k+cs'.length <;> simp only [h1,ak,if_false] at aa fa
     ·have:=hH.eT (i - k) (ae - k) c (by omega) (by omega) (by simpa using aa) (by simpa using fa);omega
     ·exact absurd (eV ae c ab fa) (hH.off (i - k) _ c (by omega) (by simpa using aa))
     ·exact absurd (eV i c hi aa) (hH.off (ae - k) _ c (by omega) (by simpa using fa))
     ·exact aV i ae c hi ab aa fa
    ·rw [pI hk] at ab;by_cases h1:k<=ae/\ae<k+cs'.length
     ·rw [if_pos h1] at aa;exact hH.off (ae - k) p.root iA (by omega) aa (dt iA ng)
     ·rw [if_neg h1] at aa; exact jT ae ab aa
    ·rcases aa with aa | ⟨ae,ab,aa⟩
     ·exact .inl ((aP c).2 (.inl aa))
     ·rw [pI hk] at ab;by_cases h1:k<=ae/\ae<k+cs'.length
      ·rw [if_pos h1] at aa; exact .inr ⟨ae - k,by omega,aa⟩
      ·rw [if_neg h1] at aa; exact .inl ((aP c).2 (.inr ⟨ae,ab,aa⟩))
    ·obtain ⟨c,ni,aa⟩:=af.sG ay;simp only [af.kids] at ni;have e3:ae<cs.length:=(List.getElem?_eq_some_iff.1 ni).1;have hu:arr[ae]?=some arr[ae]:=Array.getElem?_eq_getElem (by omega);have lA:child w (.pointer (some ⟨iA,0,none⟩)) ae=some arr[ae]:=by simp [child,World.cell?,kS,hu]
     have yU:child w' (.pointer (some ⟨iA,0,none⟩)) ae=some arr[ae]:=by
      have aN:(fu arr.toList k iu)[ae]?=some arr[ae]:=by
       rw [re (by omega),if_neg (by omega)]; simp
      simp [child,World.cell?,Hc,aN]
     have:=R.n2 (w':=w') eR (av ae c _ ni hu) aa λc aa=>qu c λe=>jT ae e3 (e ▸ aa);simp [walk,lA,yU,this]
 have val:∀ q y,b9 g q=some y->(q.root=p.root->∀ ae eR,q.path=p.path++ae::eR->ae<k\/k+cs'.length<=ae)->ef w' T q=ef w T q:=by
  intro q y bK hx;by_cases av:q.root=p.root
  ·have fK:fk.at q.path=some y:=by simpa [b9,av,kF] using bK
   rcases US q.path y fK with ⟨eR,eC⟩ | h
   ·have uN:walk w' v0 q.path=walk w v0 q.path:=by
     rw [eC,AA,AA,UR,hw];simp only [Option.bind_some];cases eR with
     | nil=>rfl
     | cons ae eR =>
      rw [eC,af.Dx,p0] at fK;exact (KR (λ_ _=>True) (λ_ _ _=>trivial)).2 ae eR y (hx av ae eR eC) fK
    simp [ef,av,jh,uN]
   ·simp [ef,av,jh,h]
  ·unfold b9 at bK;cases J:g q.root with
   | none=>rw [J] at bK; cases bK
   | some x =>
    rw [J] at bK;obtain ⟨u,hu,bg⟩:=bW.rel _ _ J;cases bg with
    | tree bg =>
     have:=R.n2 (w':=w') q.path bg bK λc aa=>qu c λe=>Km _ av (e ▸ aa);simp [ef,hu,this]
    | b3 bg=>simp [ef,hu,(af.rC bK).1,walk]
 have slot:∀ {q:Place}{x:af},q.path=[]->g q.root=some x->ef w' T q=ef w T q:=by
  intro q x bK J;obtain ⟨u,hu,_⟩:=bW.rel _ _ J;simp [ef,bK,walk]
 have refs:∀ r u,Ht r u->ed w' T g2 r u:=by
  rintro r u ⟨h1,ak,aN,bP⟩;refine ⟨?_,bP⟩;cases r <;> simp only [fT,gS] at h1 ak ⊢
  case ptr q ae=>obtain ⟨y,ay,_⟩:=ak; rw [val q y ay (aN q rfl)]; exact h1
  case bq cD q cT =>
   rcases ak with ⟨_,_,ak,_⟩ | ⟨ba,_,_,_,_,ak,_⟩
   ·rw [val q _ ak (aN q rfl)]; exact h1
   ·rw [slot ba ak]; exact h1
  case sub cD q lo cT=>obtain ⟨_,_,ak,_⟩:=ak; rw [val q _ ak (aN q rfl)]; exact h1
  case iD q=>obtain ⟨_,ak⟩:=ak; rw [val q _ ak (aN q rfl)]; exact h1
  case b3 cD q cT b6 c7 =>
   rcases ak with ⟨_,ak⟩ | ⟨ba,_,_,_,_,_,ak,_⟩
   ·rw [val q _ ak (aN q rfl)]; exact h1
   ·rw [slot ba ak]; exact h1
 obtain ⟨⟨Fn,QD,JD⟩,_⟩:=KR (ed w' T g2) refs;obtain ⟨fL,EA,nK⟩:=kn w' I (ed w' T g2) _ Fn ⟨yK,λc aa aJ=>qu c λe=>aJ (e ▸ ng),λ_ h=>h,refs⟩ QD λc aa fa=>by
  rcases JD c aa with h | ⟨ae,ab,h⟩
  ·exact h
  ·exact absurd fa (hH.off ae _ c ab h)
 have En:∀ c,fL c->Fs p.root c\/∃ ae,ae<cs'.length/\dx ae c:=by
  intro c aa;rcases (nK c).1 aa with h | h
  ·exact .inl h.1
  ·rcases JD c h with h | h
   ·exact .inl (dt c h)
   ·exact .inr h
 let cn:Nat->bn:=λt c=>if t=p.root then fL c else g2 t≠none/\Fs t c
 have rO:∀ t c,cn t c->Fs t c\/∃ ae,ae<cs'.length/\dx ae c:=by
  intro t c aa;by_cases aC:t=p.root
  ·simp only [cn,if_pos aC] at aa; rw [aC]; exact En c aa
  ·simp only [cn,if_neg aC] at aa; exact .inl aa.2
 refine ⟨cn,⟨λt x J=>?_,λt aC c aa=>?_,λt c' c aa fa=>?_,λt c aa hi=>?_,λc aa=>by have:=bW.lt c aa; omega,λt c' z q n m new cD cT b6 c7 h1=>absurd h1 (lB _ _ _ _ _ _)⟩,rO⟩
 ·have f':=BY t x J;by_cases aC:t=p.root
  ·subst aC;have FL:fk.setAt p.path (nd.fu k cs')=x:=by simpa [c0,kF] using f'
   refine ⟨v0,jh,.tree ?_⟩;have Er:cn p.root=fL:=by funext c; simp [cn]
   rw [<- FL,Er]; exact EA
  ·rw [si aC] at f';obtain ⟨u,hu,bg⟩:=bW.rel t x f';replace bg:=bg.hE (by rintro z q n m new rfl; exact lB _ _ _ _ _ _ J);have Er:cn t=Fs t:=by
    funext c;exact propext ⟨λh=>by simp only [cn,if_neg aC] at h; exact h.2,λh=>by simp only [cn,if_neg aC]; exact ⟨by rw [J]; simp,h⟩⟩
   refine ⟨u,hu,.tree ?_⟩;rw [Er];exact (bg.Al (zc t x J x f')).frame yK (λ_ h=>h) refs λc aa=>qu c λe=>Km t aC (e ▸ aa)
 ·by_cases hL:t=p.root
  ·exact l7 (hL ▸ aC)
  ·simp only [cn,if_neg hL] at aa; exact aa.1 aC
 ·by_cases h1:t=p.root <;> by_cases ak:c'=p.root
  ·rw [h1,ak]
  ·simp only [cn,if_pos h1] at aa; simp only [cn,if_neg ak] at fa;rcases En c aa with h | ⟨ae,ab,h⟩
   ·exact absurd (bW.eT _ _ _ h fa.2) (Ne.symm ak)
   ·exact absurd fa.2 (hH.off ae _ c ab h)
  ·simp only [cn,if_neg h1] at aa; simp only [cn,if_pos ak] at fa;rcases En c fa with h | ⟨ae,ab,h⟩
   ·exact absurd (bW.eT _ _ _ aa.2 h) h1
   ·exact absurd aa.2 (hH.off ae _ c ab h)
  ·simp only [cn,if_neg h1] at aa; simp only [cn,if_neg ak] at fa;exact bW.eT _ _ _ aa.2 fa.2
 ·rcases rO t c aa with h | ⟨ae,ab,h⟩
  ·exact bW.aD _ c h hi
  ·exact hH.aD ae c ab h hi
end
end Go.Own
namespace Go.Own
open Go
section
variable {P:Program}{w:World}{I:bn}{T:Array Value}{g:aU}{Fs:Nat->bn}
theorem View.LZ (h:jt w I T g Fs) {x x':af}(hv:View g x x'):∀ {v:Value}{F:bn},R w I (fT w T) x v F->(∀ c,F c->∃ t,Fs t c)->∀ ρ',R w (λc=>I c\/∃ t,Fs t c) ρ' x' v cR:=by
 induction hv with
 | oT =>
  intro v F bg aP ρ';have:=bg.qe;subst this;exact .hz λ_ h=>h
 | mp =>
  intro v F bg aP ρ';cases bg with
  | ref J=>simp [af.isRef] at J
  | mp bd aE aF=>exact .imp (λ_ h=>h) (.inr (aP _ ((aF _).2 rfl))) bd aE
 | iD aE =>
  intro v F bg aP ρ';cases bg with
  | ref _ av _ =>
   obtain ⟨b,aF,rfl⟩:=av;obtain ⟨hA,cG,iS,dL,dt,_⟩:=h.part aE (by simp);rw [aF] at iS;cases iS;cases dL with
   | ref J=>simp [af.isRef] at J
   | mp bd aE aF=>exact .imp (λ_ h=>h) (.inr ⟨_,dt _ ((aF _).2 rfl)⟩) bd aE
 | self aJ h1 ak aN bP cZ =>
  intro v F bg aP ρ';refine ((bg.bE aJ).mB λc aa=>.inl aa).empty ?_;cases bg with
  | mp=>exact absurd rfl (cZ _)
  | lit _ aP | aO aP | dead aP | ref _ _ aP | hz aP | aD aP | bs aP | ea aP | imp aP=>exact aP
  | own=>exact absurd rfl (h1 _ _ _)
  | obj=>exact absurd rfl (ak _)
  | agg=>exact absurd rfl (aN _)
  | cr=>exact absurd rfl (bP _)
 | @agg cs cs' ao _ aS =>
  intro v F bg aP ρ';cases bg with
  | ref J=>simp [af.isRef] at J
  | @agg _ vs bZ _ hK h1 av aV kB =>
   refine .agg (Fs:=λ_=>cR) (by rw [ao,hK]) h1 (λk y u ay hu=>?_) (λ_ _ _ _ _ h=>h.elim) (λc=>⟨λh=>h.elim,λ⟨_,_,h⟩=>h⟩);have hk:k<cs.length:=by rw [<- ao]; exact (List.getElem?_eq_some_iff.1 ay).1
   have J:=List.getElem?_eq_getElem hk;exact aS k _ y J ay (av k _ u J hu) (λc aa=>aP c ((kB c).2 ⟨k,hk,aa⟩)) ρ'
 | @ea fn cs cs' ao _ aS =>
  intro v F bg aP ρ';cases bg with
  | ref J=>simp [af.isRef] at J
  | @ea _ _ _ v1 v2 _ wJ h1 ak jI ik =>
   refine .ea (λ_ h=>h) h1 (by rw [ao,ak]) (λk x u J=>by simp at J) (λk y u ay hu=>?_);have hk:k<cs.length:=by rw [<- ao]; exact (List.getElem?_eq_some_iff.1 ay).1
   have J:=List.getElem?_eq_getElem hk;exact aS k _ y J ay (ik k _ u J hu) (λc aa=>aa.elim) ρ'
 | @own z n cs cs' ao _ aS =>
  intro v F bg aP ρ';obtain ⟨a,cap,us,bZ,rfl,aJ,hlen,bf,aa⟩:=bg.xd;cases a with
  | none =>
   have hy:cs=[]:=by
    cases cs with
    | nil=>rfl
    | cons c cs=>obtain ⟨b,aF,_⟩:=aa 0 c rfl; cases aF
   subst hy;have kW:cs'=[]:=List.eq_nil_of_length_eq_zero (by simpa using ao);subst kW;have oF:n=0:=by
    cases bg with
    | ref J=>simp [af.isRef] at J
    | own bd =>
     obtain ⟨_,b_⟩:=bd;rcases b_ with ⟨b_,ba⟩ | ⟨b,c2,cur,b_,_⟩
     ·exact ba
     ·cases b_
   subst oF;exact .hz λ_ h=>h
  | some ad =>
   obtain ⟨b,rfl,pY⟩:=bf ad rfl;refine .aD (us:=us) (λ_ h=>h) aJ (.inr (aP b pY)) rfl (by rw [ao,hlen]) (λk y ay=>?_) (λk y ay=>?_) λk y ay=>?_
   all_goals
    have hk:k<cs.length:=by rw [<- ao]; exact (List.getElem?_eq_some_iff.1 ay).1
    have J:=List.getElem?_eq_getElem hk;obtain ⟨iA,ke,h1,ak,aN,bP⟩:=aa k _ J;cases ke
   ·exact ak
   ·simpa using h1
   ·exact aS k _ y J ay aN (λc aa=>aP c (bP c aa)) ρ'
 | @obj cs cs' ao _ aS =>
  intro v F bg aP ρ';cases bg with
  | ref J=>simp [af.isRef] at J
  | @obj _ b e arr bZ _ bd hK h1 av aV aF kB =>
   refine .bs (us:=λk=>arr.getD k undef) (λ_ h=>h) (.inr (aP b ((kB b).2 (.inl rfl)))) rfl (λk y ay=>?_) (λk y ay=>?_) λk y ay=>?_
   all_goals
    have hk:k<cs.length:=by rw [<- ao]; exact (List.getElem?_eq_some_iff.1 ay).1
    have J:=List.getElem?_eq_getElem hk;have hu:arr[k]?=some arr[k]:=Array.getElem?_eq_getElem (hK ▸ hk)
   ·simpa [hu] using h1 k _ hu
   ·simp [World.cell?,bd,hu]
   ·simpa [hu] using aS k _ y J ay (av k _ _ J hu) (λc aa=>aP c ((kB c).2 (.inr ⟨k,hk,aa⟩))) ρ'
 | @bq z n N p cs cs' aE aJ ao _ aS =>
  intro v F bg aP ρ';obtain ⟨a,iK,cap,h1,rfl,aN⟩:=bg.l_;obtain ⟨o0,o4,gF,ht,lx,_⟩:=h.part aE (by simp);rw [h1] at gF;cases gF;obtain ⟨a2,pS,us,bZ,jU,kC,hlen,bf,aa⟩:=ht.xd;cases jU;have hle:n * z<=N * z:=Nat.mul_le_mul_right _ aJ;have cell:∀ k,k<cs'.length->∃ x b,(cs.take (n * z))[k]?=some x/\a=some ⟨b,0,none⟩/\w.cell? ⟨b,k,none⟩=some (us k)/\(us k).oneCell'=true/\R w I (fT w T) x (us k) (bZ k)/\∀ c,bZ k c->o4 c:=by
   intro k hk;rw [ao,List.length_take] at hk;have J:cs[k]?=some cs[k]:=List.getElem?_eq_getElem (by omega);obtain ⟨b,r⟩:=aa k _ J;exact ⟨_,b,by rw [List.getElem?_take,if_pos (by omega)]; exact J,r⟩
  cases a with
  | none =>
   have kW:cs'=[]:=by
    cases cs' with
    | nil=>rfl
    | cons c l=>obtain ⟨_,b,_,aF,_⟩:=cell 0 (by simp); cases aF
   subst kW;obtain ⟨_,_,jU,_,_,_,qU⟩:=ht.mb;cases jU;have oF:n=0:=by
    rcases Nat.eq_zero_or_pos n with ba | ba
    ·exact ba
    ·have:=qU (by omega); simp at this
   subst oF;exact .hz λ_ h=>h
  | some ad =>
   obtain ⟨b,rfl,pY⟩:=bf ad rfl;refine .aD (us:=us) (λ_ h=>h) (by omega) (.inr ⟨_,lx b pY⟩) rfl (by rw [ao,List.length_take,hlen]; omega) (λk y ay=>?_) (λk y ay=>?_) λk y ay=>?_
   all_goals
    obtain ⟨x,iA,J,ke,bP,cZ,dv,h7⟩:=cell k (List.getElem?_eq_some_iff.1 ay).1;cases ke
   ·exact cZ
   ·simpa using bP
   ·exact aS k x y J ay dv (λc aa=>⟨_,lx c (h7 c aa)⟩) ρ'
 | @sub z lo n N p cs cs' aE aJ ao _ aS =>
  intro v F bg aP ρ';obtain ⟨a,iK,cap,cx,lr,h1,rfl,Fl,aN,cZ⟩:=bg.uW;obtain ⟨o0,o4,gF,ht,lx,_⟩:=h.part aE (by simp);rw [h1] at gF;cases gF;obtain ⟨a2,pS,us,bZ,jU,kC,hlen,bf,aa⟩:=ht.xd;cases jU;have hle:lo * z+n * z<=N * z:=by rw [<- Nat.add_mul]; exact Nat.mul_le_mul_right _ aJ
  have hK:cs'.length=n * z:=by rw [ao,List.length_take,List.length_drop,hlen]; omega
  have cell:∀ k,k<cs'.length->∃ x b,((cs.drop (lo * z)).take (n * z))[k]?=some x/\a=some ⟨b,0,none⟩/\w.cell? ⟨b,lo * z+k,none⟩=some (us (lo * z+k))/\(us (lo * z+k)).oneCell'=true/\R w I (fT w T) x (us (lo * z+k)) (bZ (lo * z+k))/\∀ c,bZ (lo * z+k) c->o4 c:=by
   intro k hk;have J:cs[lo * z+k]?=some cs[lo * z+k]:=List.getElem?_eq_getElem (by omega);obtain ⟨b,r⟩:=aa _ _ J;exact ⟨_,b,by rw [List.getElem?_take,if_pos (by omega),List.getElem?_drop]; exact J,r⟩
  by_cases oF:n=0
  ·subst oF;have kW:cs'=[]:=List.eq_nil_of_length_eq_zero (by simpa using hK);subst kW;exact .hz λ_ h=>h
  ·obtain ⟨ad,rfl,rfl⟩:=cZ (by omega);obtain ⟨b,rfl,pY⟩:=bf ad rfl;refine .aD (us:=λk=>us (lo * z+k)) (λ_ h=>h) Fl (.inr ⟨_,lx b pY⟩) rfl hK (λk y ay=>?_) (λk y ay=>?_) λk y ay=>?_
   all_goals
    obtain ⟨x,iA,J,ke,bP,Em,dv,h7⟩:=cell k (List.getElem?_eq_some_iff.1 ay).1;cases ke
   ·exact Em
   ·simpa using bP
   ·exact aS k x y J ay dv (λc aa=>⟨_,lx c (h7 c aa)⟩) ρ'
 | @rows z n p cs cs' aE ao _ aS =>
  intro v F bg aP ρ';obtain ⟨a,iK,cap,h1,rfl,aN⟩:=bg.l_;obtain ⟨v0,e,us,jh,bd,hlen,mJ,aF,av⟩:=Rows.sound (w:=w) (I:=I) (T:=T) (Fs:=Fs) (λt z q n m new aC=>h.rel t _ aC) (λp z n cs aE=>by obtain ⟨v,cG,h1,ak,aN,_⟩:=h.part aE (by simp); exact ⟨v,cG,h1,ak,aN⟩) (λz p n v hv=>by obtain ⟨a,cap,h1,rfl⟩:=hv; exact h1) aE;rw [h1] at jh;cases jh;refine Lv bd hlen mJ aF ao λk x y u J ay hu=>?_;obtain ⟨bZ,jR,eV⟩:=av k x u J hu;exact aS k x y J ay jR eV ρ'
 | @ptr p k z n y cs cs' aE ay hk ao _ aS =>
  intro v F bg aP ρ';obtain ⟨u,ad,h1,ak,rfl⟩:=bg.mz;obtain ⟨o0,o4,gF,ht,lx,_⟩:=h.part aE (by rcases ay with rfl | rfl <;> simp);rw [h1] at gF;cases gF;have cell:∀ ae,ae<cs'.length->∃ gj j_ tM,w.cell? ⟨ad.block,k+ae,none⟩=some gj/\gj.oneCell'=true/\(cs.drop k)[ae]?=some j_/\R w I (fT w T) j_ gj tM/\(∀ c,tM c->∃ t,Fs t c):=by
   intro ae ab;rw [ao,List.length_drop] at ab;have f':cs[k+ae]?=some cs[k+ae]:=List.getElem?_eq_getElem (by omega);obtain ⟨b,gj,fJ,k8,lA,gE,_⟩:=ht.node ay f';rw [ak] at fJ;cases fJ;have fK:b9 g (p.push (k+ae))=some cs[k+ae]:=by rw [rB,aE]; rcases ay with rfl | rfl <;> simp [af.kids]
   by_cases hD:∃ cD gI cT b6 c7,cs[k+ae]=.b3 cD gI cT b6 c7
   ·obtain ⟨cD,gI,cT,b6,c7,hD⟩:=hD;obtain ⟨b,UJ,_,_,yU,_,bZ,jR⟩:=ht.node ay f';rw [hD] at jR;exact jR.kI.elim
   ·obtain ⟨nA,Df,p',EB,kB,_⟩:=h.part fK (λcD gI cT b6 c7 e=>hD ⟨_,_,_,_,_,e⟩);rw [vB,h1] at p';simp only [Option.bind_some] at p';rw [lA] at p';cases p';exact ⟨gj,_,Df,k8,gE,by rw [List.getElem?_drop]; exact f',EB,λc aa=>⟨_,kB c aa⟩⟩
  obtain ⟨b,gj,fJ,_⟩:=ht.node ay (List.getElem?_eq_getElem hk);rw [ak] at fJ;cases fJ;have hblk:∃ t,Fs t b:=⟨_,lx b (ht.Cy ay ak)⟩;refine .bs (us:=λae=>(w.cell? ⟨b,k+ae,none⟩).getD undef) (λ_ h=>h) (.inr hblk) rfl (λae jB my=>?_) (λae jB my=>?_) λae jB my=>?_
  all_goals
   obtain ⟨gj,j_,tM,c1,c2,lV,c4,lq⟩:=cell ae (List.getElem?_eq_some_iff.1 my).1
  ·simpa [c1] using c2
  ·simp [c1]
  ·simpa [c1] using aS ae j_ jB lV my c4 lq ρ'
end
end Go.Own
namespace Go.Own
open Go
def oY (g:aU):List (Place × af)->aU
 | []=>g
 | (p,x)::l=>oY (c0 g p x) l
structure MR (g g2:aU) (all:List af) (outs:List (Option af)) (k:Nat) (p:Place) (x:af):Prop where
 out:outs[k]?=some (some x)
 H3:b9 g2 p=some .dead
 arg:(∃ z n cs,all[k]?=some (.bq z p n)/\b9 g p=some (.own z n cs))\/(∃ cs,all[k]?=some (.ptr p 0)/\b9 g p=some (.obj cs))
section
variable {P:Program}{w:World}{I:bn}{T:Array Value}{g:aU}{Fs:Nat->bn}
theorem Nk (h:cV w I T g Fs) {z n:Nat}{p:Place}{cs:List af}{v:Value}{F:bn}(bg:R w I (ed w T g) (.bq z p n) v F) (aE:b9 g p=some (.own z n cs)):ef w T p=some v:=by
 obtain ⟨⟨a,iK,cap,h1,rfl,aN⟩,_⟩:=bg.l_;obtain ⟨o0,o4,gF,ht,lx⟩:=h.part aE (by simp);rw [h1] at gF;cases gF;obtain ⟨a2,pS,jU,_⟩:=ht.mb;cases jU;exact h1
theorem Nj (h:cV w I T g Fs) {p:Place}{cs:List af}{v:Value}{F:bn}(bg:R w I (ed w T g) (.ptr p 0) v F) (aE:b9 g p=some (.obj cs)):ef w T p=some v:=by
 obtain ⟨⟨u,ad,h1,ak,rfl⟩,_⟩:=bg.mz;obtain ⟨o0,o4,gF,ht,lx⟩:=h.part aE (by simp);rw [h1] at gF;cases gF;cases ht with
 | ref J=>simp [af.isRef] at J
 | obj=>simp only [addrOf,Option.some.injEq] at ak; subst ak; exact h1
theorem T4 {g:aU}{p q:Place}{y:af}(bK:b9 g q=some .dead) (aE:b9 g p=some .dead) (eh:p≠q):b9 (c0 g p y) q=some .dead:=by
 by_cases av:q.root=p.root
 ·obtain ⟨r,pp⟩:=p;obtain ⟨eR,q5⟩:=q;simp only at av;subst av;have B9:pp≠q5:=λe=>eh (by rw [e]);simp only [b9,c0,if_true] at *;cases J:g eR with
  | none=>rw [J] at aE; cases aE
  | some x =>
   rw [J] at aE bK;simp only [Option.map_some];have:∀ (pp q5:List Nat) (x:af),pp≠q5->x.at pp=some .dead->x.at q5=some .dead->(x.setAt pp y).at q5=some .dead:=by
    intro pp
    induction pp with
    | nil =>
     intro q5 x eh h1 ak;simp only [af.at,Option.some.injEq] at h1;subst h1;cases q5 with
     | nil=>exact absurd rfl eh
     | cons k q=>simp [af.at,af.kids] at ak
    | cons k pp aS =>
     intro q5 x eh h1 ak;cases q5 with
     | nil =>
      simp only [af.at,Option.some.injEq] at ak;subst ak;simp [af.at,af.kids] at h1
     | cons ae q =>
      simp only [af.at] at h1 ak;cases hk:x.kids[k]? with
      | none=>rw [hk] at h1; cases h1
      | some c =>
       rw [hk] at h1;simp only at h1;have ta:x.setAt (k::pp) y=x.tD k (c.setAt pp y):=by simp only [af.setAt,hk]
       rw [ta];have dO:k<x.kids.length:=(List.getElem?_eq_some_iff.1 hk).1;have E':(x.tD k (c.setAt pp y)).kids=x.kids.set k (c.setAt pp y):=by
        cases x <;> simp [af.tD,af.kids] at dO ⊢
       simp only [af.at,E'];by_cases ez:ae=k
       ·subst ez;rw [List.getElem?_set_self dO];rw [hk] at ak;exact aS q c (λe=>eh (by rw [e])) h1 ak
       ·rw [List.getElem?_set_ne (Ne.symm ez)];exact ak
   exact this pp q5 x B9 aE bK
 ·rw [CY av]; exact bK
theorem jt.oY:∀ (l:List (Place × af)) (dx:Nat->bn) (vs:Nat->Value) {g:aU}{Fs:Nat->bn},jt w I T g Fs->(l.map (·.1)).Nodup->(∀ (ae:Nat) (p:Place) (x:af),l[ae]?=some (p,x)->b9 g p=some .dead/\ef w T p=some (vs ae)/\R w I (fT w T) x (vs ae) (dx ae)) ->
  (∀ (ae t c:Nat),ae<l.length->dx ae c->¬ Fs t c)->(∀ (ae c:Nat),ae<l.length->dx ae c->¬ I c)->(∀ (i ae c:Nat),i<l.length->ae<l.length->dx i c->dx ae c->i=ae) ->
  ∃ cn,jt w I T (oY g l) cn/\∀ t c,cn t c->Fs t c\/∃ ae,ae<l.length/\dx ae c
 | [],_,_,g,Fs,bW,_,_,_,_,_=>⟨Fs,bW,λ_ _ h=>.inl h⟩
 | (p,x)::l,dx,vs,g,Fs,bW,fU,ao,pn,J8,lZ=>by
  obtain ⟨h1,ak,aN⟩:=ao 0 p x rfl;obtain ⟨v,cG,hv,dL,dt,put⟩:=bW.part h1 (by simp);rw [ak] at hv;cases hv;obtain ⟨fS,iO,yG,yH⟩:=put x (dx 0) aN (λc aa bh=>absurd bh (pn 0 _ c (by simp) aa)) (λc aa=>J8 0 c (by simp) aa) (λt c _ aa=>pn 0 t c (by simp) aa);have gr:∀ t c,fS t c->Fs t c\/dx 0 c:=by
   intro t c aa;by_cases aC:t=p.root
   ·subst aC;rcases (yG c).1 aa with ⟨h,_⟩ | h
    ·exact .inl h
    ·exact .inr h
   ·rw [yH t aC] at aa; exact .inl aa
  simp only [List.map_cons,List.nodup_cons] at fU;obtain ⟨iI,hS,BO⟩:=jt.oY l (λae=>dx (ae+1)) (λae=>vs (ae+1)) iO fU.2 (λae q y ab=>by
    obtain ⟨ar,a2,a3⟩:=ao (ae+1) q y (by simpa using ab);refine ⟨T4 ar h1 ?_,a2,a3⟩;rintro rfl;exact fU.1 (List.mem_map.2 ⟨(p,y),List.mem_of_getElem? ab,rfl⟩))
   (λae t c ab aa bh=>by
    rcases gr t c bh with h | h
    ·exact pn (ae+1) t c (by simpa using ab) aa h
    ·have:=lZ (ae+1) 0 c (by simpa using ab) (by simp) aa h; omega)
   (λae c ab aa=>J8 (ae+1) c (by simpa using ab) aa)
   (λi ae c hi ab h1 ak=>by have:=lZ (i+1) (ae+1) c (by simpa using hi) (by simpa using ab) h1 ak; omega)
  refine ⟨iI,hS,λt c aa=>?_⟩;rcases BO t c aa with h | ⟨ae,ab,h⟩
  ·rcases gr t c h with h | h
   ·exact .inl h
   ·exact .inr ⟨0,by simp,h⟩
  ·exact .inr ⟨ae+1,by simpa using ab,h⟩
end
end Go.Own
namespace Go.Own
open Go
inductive jo:af->af->Prop
 | refl {x:af}:jo x x
 | Gj {z:Nat}:jo .aO (.own z 0 [])
 | qd {x y:af}(aJ:c6 x) (h:View (λ_=>none) x y):jo x y
 | own {z n:Nat}{cs cs':List af}(ao:cs'.length=cs.length) (h:∀ (k:Nat) (x y:af),cs[k]?=some x->cs'[k]?=some y->jo x y):jo (.own z n cs) (.own z n cs')
 | obj {cs cs':List af}(ao:cs'.length=cs.length) (h:∀ (k:Nat) (x y:af),cs[k]?=some x->cs'[k]?=some y->jo x y):jo (.obj cs) (.obj cs')
 | agg {cs cs':List af}(ao:cs'.length=cs.length) (h:∀ (k:Nat) (x y:af),cs[k]?=some x->cs'[k]?=some y->jo x y):jo (.agg cs) (.agg cs')
theorem View.up {g g':aU}(h:∀ t x,g t=some x->g' t=some x) {x y:af}(hv:View g x y):View g' x y:=by
 induction hv with
 | oT=>exact .oT
 | self h1 ak aN bP cZ dv=>exact .self h1 ak aN bP cZ dv
 | mp=>exact .mp
 | iD aE=>exact .iD (kc h aE)
 | agg ao _ aS=>exact .agg ao aS
 | own ao _ aS=>exact .own ao aS
 | obj ao _ aS=>exact .obj ao aS
 | ea ao _ aS=>exact .ea ao aS
 | bq aE aJ ao _ aS=>exact .bq (kc h aE) aJ ao aS
 | sub aE aJ ao _ aS=>exact .sub (kc h aE) aJ ao aS
 | ptr aE ay hk ao _ aS=>exact .ptr (kc h aE) ay hk ao aS
 | rows aE ao _ aS=>exact .rows (aE.mono (λaE=>kc h aE) h) ao aS
theorem u4 {cs cs':List af}(ao:cs'.length=cs.length) (aJ:∀ x∈cs,c6 x) (aS:∀ (k:Nat) (x y:af),cs[k]?=some x->cs'[k]?=some y->c6 x->c6 y):∀ y∈cs',c6 y:=by
 intro y ay;obtain ⟨k,hk⟩:=List.getElem?_of_mem ay;have dO:=(List.getElem?_eq_some_iff.1 hk).1;have J:=List.getElem?_eq_getElem (ao ▸ dO:k<cs.length);exact aS k _ y J hk (aJ _ (List.mem_of_getElem? J))
section
variable {w:World}{I:bn}
theorem R.qd {ρ:af->Value->Prop}{x y:af}{v:Value}{F:bn}(bg:R w I ρ x v F) (aJ:c6 x) (h:View (λ_=>none) x y) (bp:∀ c,F c->¬ I c) (a8:∀ c,I c->c<w.heap.size):R w (λc=>I c\/F c) ρ y v cR:=by
 have bW:jt w I #[v] (λt=>if t=0 then some x else none) (λt c=>t=0/\F c):=by
  refine ⟨λt z bB=>?_,λt aC c aa=>?_,λt c' c aa fa=>aa.1.trans fa.1.symm,λt c aa=>bp c aa.2,a8⟩
  ·by_cases ba:t=0
   ·subst ba;rw [if_pos rfl] at bB;cases bB;exact ⟨v,rfl,.tree ((bg.bE aJ).wo λc=>⟨λh=>⟨rfl,h⟩,λh=>h.2⟩)⟩
   ·rw [if_neg ba] at bB; cases bB
  ·rw [if_pos aa.1] at aC; cases aC
 have:=View.LZ bW (h.up λ_ _ h=>by cases h) (bg.bE aJ) (λc aa=>⟨0,rfl,aa⟩) ρ;exact this.mB λc aa=>by
  rcases aa with h | ⟨t,_,h⟩
  ·exact .inl h
  ·exact .inr h
theorem jo.bE {x y:af}(h:jo x y):c6 x->c6 y:=by
 induction h with
 | refl=>exact id
 | Gj=>exact λ_=>.own (by simp)
 | qd aJ h =>
  intro _;have key:∀ {x y:af},View (λ_=>none) x y->c6 x->c6 y:=by
   intro x y h
   induction h with
   | oT=>exact λ_=>.aD (by simp)
   | self h=>exact λ_=>h
   | mp=>exact λ_=>.imp
   | iD aE=>simp [b9] at aE
   | agg ao _ aS=>intro aJ; cases aJ with | agg aJ=>exact .agg (u4 ao aJ aS)
   | own ao _ aS=>intro aJ; cases aJ with | own aJ=>exact .aD (u4 ao aJ aS)
   | obj ao _ aS=>intro aJ; cases aJ with | obj aJ=>exact .bs (u4 ao aJ aS)
   | ea ao _ aS=>intro aJ; cases aJ with | ea h1 ak=>exact .ea h1 (u4 ao ak aS)
   | bq aE=>simp [b9] at aE
   | sub aE=>simp [b9] at aE
   | ptr aE=>simp [b9] at aE
   | rows aE =>
    cases aE with
    | own aE=>simp [b9] at aE
    | b3 aC=>cases aC
  exact key h aJ
 | own ao _ aS=>intro aJ; cases aJ with | own aJ=>exact .own (u4 ao aJ aS)
 | obj ao _ aS=>intro aJ; cases aJ with | obj aJ=>exact .obj (u4 ao aJ aS)
 | agg ao _ aS=>intro aJ; cases aJ with | agg aJ=>exact .agg (u4 ao aJ aS)
theorem Ef {ρ:af->Value->Prop}{cs cs':List af}{get:Nat->Option Value}{Fs:Nat->bn}{F B:bn}(ao:cs'.length=cs.length)
  (aY:∀ k,k<cs.length->∃ u,get k=some u)
  (aV:∀ (ae k c:Nat),ae<cs.length->k<cs.length->Fs ae c->Fs k c->ae=k) (aF:∀ k c,k<cs.length->Fs k c->¬ B c) (aP:∀ c,F c↔B c\/∃ k,k<cs.length/\Fs k c)
  (aS:∀ (k:Nat) (x y:af),cs[k]?=some x->cs'[k]?=some y->∀ u,get k=some u->∃ fL,(∀ c,fL c->Fs k c)/\R w (λc=>I c\/(Fs k c/\¬ fL c)) ρ y u fL) :
  ∃ qA:Nat->bn,(∀ k c,k<cs'.length->qA k c->Fs k c)/\(∀ (k:Nat) (y:af) (u:Value),cs'[k]?=some y->get k=some u->R w (λc=>I c\/(F c/\¬ (B c\/∃ ae,ae<cs'.length/\qA ae c))) ρ y u (qA k)):=by
 have:∀ k,∃ G:bn,k<cs.length->(∀ c,G c->Fs k c)/\∀ (y:af) (u:Value),cs'[k]?=some y->get k=some u->R w (λc=>I c\/(Fs k c/\¬ G c)) ρ y u G:=by
  intro k;by_cases hk:k<cs.length
  ·have J:=List.getElem?_eq_getElem hk;have ay:=List.getElem?_eq_getElem (ao ▸ hk:k<cs'.length);obtain ⟨u,hu⟩:=aY k hk;obtain ⟨G,h1,ak⟩:=aS k _ _ J ay u hu;refine ⟨G,λ_=>⟨h1,λy sq l9 fw=>?_⟩⟩;rw [ay] at l9; cases l9;rw [hu] at fw; cases fw;exact ak
  ·exact ⟨cR,λh=>absurd h hk⟩
 obtain ⟨qA,Ev⟩:=Classical.axiomOfChoice this;refine ⟨qA,λk c hk=>(Ev k (ao ▸ hk)).1 c,λk y u ay hu=>?_⟩;have hk:k<cs'.length:=(List.getElem?_eq_some_iff.1 ay).1;have hJ:k<cs.length:=ao ▸ hk;refine ((Ev k hJ).2 y u ay hu).mB λc aa=>?_;rcases aa with h | ⟨h1,ak⟩
 ·exact .inl h
 ·refine .inr ⟨(aP c).2 (.inr ⟨k,hJ,h1⟩),?_⟩;rintro (h | ⟨ae,ab,h⟩)
  ·exact aF k c hJ h1 h
  ·have s7:ae<cs.length:=ao ▸ ab;have:=aV ae k c s7 hJ ((Ev ae s7).1 c h) h1;subst this;exact ak h
theorem R.fI {ρ:af->Value->Prop}{x y:af}(h:jo x y):∀ {v:Value}{F:bn},R w I ρ x v F->c6 x->(∀ c,F c->¬ I c)->(∀ c,I c->c<w.heap.size)->∃ fL,(∀ c,fL c->F c)/\R w (λc=>I c\/(F c/\¬ fL c)) ρ y v fL:=by
 induction h with
 | refl=>exact λbg _ _ _=>⟨_,λ_ h=>h,bg.mB λ_ h=>.inl h⟩
 | Gj =>
  intro v F bg _ _ _;have:=bg.qe;subst this;refine ⟨cR,λ_ h=>h.elim,.own (e:=0) (us:=[]) (Fs:=λ_=>cR) ⟨by simp,.inl ⟨rfl,rfl⟩⟩ rfl (by simp) (by simp) (λ_ _ _ _ _ h=>h.elim) (λ_ _ _ h=>h.elim) λc=>⟨λh=>h.elim,λh=>?_⟩⟩;rcases h with h | ⟨_,_,h⟩
  ·cases h
  ·exact h
 | qd aJ h=>exact λbg _ bp a8=>⟨cR,λ_ h=>h.elim,(bg.qd aJ h bp a8).mB λc aa=>aa.elim .inl λh=>.inr ⟨h,λh=>h⟩⟩
 | @own z n cs cs' ao _ aS =>
  intro v F bg aJ bp a8;cases bg with
  | ref J=>simp [af.isRef] at J
  | @own _ _ _ _ e us Fs _ bd hK h1 av aV aF aP =>
   cases aJ with
   | own aJ =>
    obtain ⟨qA,oA,yI⟩:=Ef (get:=λk=>us[k]?) (B:=λc=>v.ownBlock=some c) ao (λk hk=>⟨_,List.getElem?_eq_getElem (hK ▸ hk)⟩) aV (λk c hk aa e=>aF k c hk aa e) aP (λk x y J ay u hu=>aS k x y J ay (av k x u J hu) (aJ x (List.mem_of_getElem? J)) (λc aa=>bp c ((aP c).2 (.inr ⟨k,(List.getElem?_eq_some_iff.1 J).1,aa⟩))) a8);exact ⟨_,λc aa=>(aP c).2 (aa.imp id λ⟨k,hk,h⟩=>⟨k,ao ▸ hk,oA k c hk h⟩),
     .own bd (by rw [ao,hK]) h1 (λk y u ay hu=>yI k y u ay hu) (λae k c ab hk ak aN=>aV ae k c (ao ▸ ab) (ao ▸ hk) (oA ae c ab ak) (oA k c hk aN)) (λk c hk aa=>aF k c (ao ▸ hk) (oA k c hk aa)) (λc=>Iff.rfl)⟩
 | @obj cs cs' ao _ aS =>
  intro v F bg aJ bp a8;cases bg with
  | ref J=>simp [af.isRef] at J
  | @obj _ b e arr Fs _ bd hK h1 av aV aF aP =>
   cases aJ with
   | obj aJ =>
    obtain ⟨qA,oA,yI⟩:=Ef (get:=λk=>arr[k]?) (B:=λc=>c=b) ao (λk hk=>⟨_,Array.getElem?_eq_getElem (hK ▸ hk)⟩) aV (λk c hk aa e=>aF k hk (e ▸ aa)) aP (λk x y J ay u hu=>aS k x y J ay (av k x u J hu) (aJ x (List.mem_of_getElem? J)) (λc aa=>bp c ((aP c).2 (.inr ⟨k,(List.getElem?_eq_some_iff.1 J).1,aa⟩))) a8);exact ⟨_,λc aa=>(aP c).2 (aa.imp id λ⟨k,hk,h⟩=>⟨k,ao ▸ hk,oA k c hk h⟩),
     .obj bd (by rw [ao,hK]) h1 (λk y u ay hu=>yI k y u ay hu) (λae k c ab hk ak aN=>aV ae k c (ao ▸ ab) (ao ▸ hk) (oA ae c ab ak) (oA k c hk aN)) (λk hk aa=>aF k (ao ▸ hk) (oA k b hk aa)) (λc=>Iff.rfl)⟩
 | @agg cs cs' ao _ aS =>
  intro v F bg aJ bp a8;cases bg with
  | ref J=>simp [af.isRef] at J
  | @agg _ vs Fs _ hK h1 av aV aP =>
   cases aJ with
   | agg aJ =>
    obtain ⟨qA,oA,yI⟩:=Ef (get:=λk=>vs[k]?) (B:=λ_=>False) ao (λk hk=>⟨_,Array.getElem?_eq_getElem (hK ▸ hk)⟩) aV (λk c hk aa e=>e) (λc=>(aP c).trans ⟨.inr,λh=>h.elim (λh=>h.elim) id⟩) (λk x y J ay u hu=>aS k x y J ay (av k x u J hu) (aJ x (List.mem_of_getElem? J)) (λc aa=>bp c ((aP c).2 ⟨k,(List.getElem?_eq_some_iff.1 J).1,aa⟩)) a8);refine ⟨λc=>∃ k,k<cs'.length/\qA k c,λc ⟨k,hk,h⟩=>(aP c).2 ⟨k,ao ▸ hk,oA k c hk h⟩,
     .agg (Fs:=qA) (by rw [ao,hK]) h1 (λk y u ay hu=>(yI k y u ay hu).mB λc aa=>aa.imp id λ⟨h1,ak⟩=>⟨h1,λh=>ak (.inr h)⟩) (λae k c ab hk ak aN=>aV ae k c (ao ▸ ab) (ao ▸ hk) (oA ae c ab ak) (oA k c hk aN)) (λc=>Iff.rfl)⟩
end
end Go.Own
