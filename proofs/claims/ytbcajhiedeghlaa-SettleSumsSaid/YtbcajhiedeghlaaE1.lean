/-
  What is proved here: parts of the proof that the last text states: rules for walks through code, and of this program's functions what they answer. No condition of their own.
-/
import Derived.Orders
import Derived.WalkKit
namespace Go.Own
open Go
structure Place where
 root:Nat
 path:List Nat
 deriving DecidableEq,Repr
def Place.push (p:Place) (k:Nat):Place:=⟨p.root,p.path++[k]⟩
inductive ag where
 | lit (v:Value)
 | aN
 | aF (z n:Nat) (cs:List ag)
 | own (z n:Nat) (cs:List ag)
 | obj (cs:List ag)
 | agg (cs:List ag)
 | cC (cs:List ag)
 | bk (cs:List ag)
 | ptr (p:Place) (k:Nat)
 | bo (z:Nat) (p:Place) (n:Nat)
 | sub (z:Nat) (p:Place) (lo n:Nat)
 | b8 (z:Nat) (p:Place) (n m:Nat) (new:List ag)
 | et (fn:Fn) (first caps:List ag)
 | mp (p:Array MapEntry->Nat->Prop)
 | iR (p:Place)
 | imp (p:Array MapEntry->Nat->Prop)
 | dead
 deriving Inhabited
abbrev bz:=Nat->Prop
def ag.isRef:ag->Bool
 | .ptr .. | .bo .. | .sub .. | .iR ..=>true
 | _=>false
inductive R (w:World) (I:bz) (ρ:ag->Value->Prop):ag->Value->bz->Prop
 | lit {v:Value}{F:bz}(hv:v.oneCell'=true) (aT:∀ c,¬ F c):R w I ρ (.lit v) v F
 | aN {F:bz}(aT:∀ c,¬ F c):R w I ρ .aN (.slice none 0 0) F
 | dead {v:Value}{F:bz}(aT:∀ c,¬ F c):R w I ρ .dead v F
 | ref {x:ag}{v:Value}{F:bz}(J:x.isRef=true) (h:ρ x v) (aT:∀ c,¬ F c):R w I ρ x v F
 | hS {z cap:Nat}{a:Option Addr}{F:bz}(aT:∀ c,¬ F c):R w I ρ (.aF z 0 []) (.slice a 0 cap) F
 | aF {z n cap:Nat}{cs:List ag}{ad:Addr}{us:Nat->Value}{F:bz}(aT:∀ c,¬ F c) (k2:n<=cap) (bw:I ad.block) (aL:ad.spot=none) (ao:cs.length=n * z) (h1:∀ (k:Nat) (x:ag),cs[k]?=some x->(us k).oneCell'=true)
   (ab:∀ (k:Nat) (x:ag),cs[k]?=some x->w.cell? ⟨ad.block,ad.off+k,none⟩=some (us k)) (aw:∀ (k:Nat) (x:ag),cs[k]?=some x->R w I ρ x (us k) (λ_=>False)) :
   R w I ρ (.aF z n cs) (.slice (some ad) n cap) F
 | bk {cs:List ag}{ad:Addr}{us:Nat->Value}{F:bz}(aT:∀ c,¬ F c) (bw:I ad.block) (aL:ad.spot=none) (h1:∀ (k:Nat) (x:ag),cs[k]?=some x->(us k).oneCell'=true)
   (ab:∀ (k:Nat) (x:ag),cs[k]?=some x->w.cell? ⟨ad.block,ad.off+k,none⟩=some (us k)) (aw:∀ (k:Nat) (x:ag),cs[k]?=some x->R w I ρ x (us k) (λ_=>False)) :
   R w I ρ (.bk cs) (.pointer (some ad)) F
 | own {z n:Nat}{cs:List ag}{v:Value}{e:TypeId}{us:List Value}{Fs:Nat->bz}{F:bz}
   (bh:w.ownsRow 0 e z v n us) (ao:cs.length=us.length) (h1:∀ (k:Nat) (u:Value),us[k]?=some u->u.oneCell'=true)
   (aw:∀ (k:Nat) (x:ag) (u:Value),cs[k]?=some x->us[k]?=some u->R w I ρ x u (Fs k))
   (aU:∀ (ae k c:Nat),ae<cs.length->k<cs.length->Fs ae c->Fs k c->ae=k) (aK:∀ (k c:Nat),k<cs.length->Fs k c->v.ownBlock≠some c)
   (aT:∀ c,F c↔v.ownBlock=some c\/∃ k,k<cs.length/\Fs k c):R w I ρ (.own z n cs) v F
 | obj {cs:List ag}{b:Nat}{e:TypeId}{arr:Array Value}{Fs:Nat->bz}{F:bz}
   (bh:w.heap[b]?=some (.cells arr e (0,0))) (ao:cs.length=arr.size) (h1:∀ (k:Nat) (u:Value),arr[k]?=some u->u.oneCell'=true)
   (aw:∀ (k:Nat) (x:ag) (u:Value),cs[k]?=some x->arr[k]?=some u->R w I ρ x u (Fs k))
   (aU:∀ (ae k c:Nat),ae<cs.length->k<cs.length->Fs ae c->Fs k c->ae=k) (aK:∀ (k:Nat),k<cs.length->¬ Fs k b)
   (aT:∀ c,F c↔c=b\/∃ k,k<cs.length/\Fs k c):R w I ρ (.obj cs) (.pointer (some ⟨b,0,none⟩)) F
 | agg {cs:List ag}{vs:Array Value}{Fs:Nat->bz}{F:bz}(ao:cs.length=vs.size) (h1:∀ (k:Nat) (u:Value),vs[k]?=some u->u.oneCell'=true)
   (aw:∀ (k:Nat) (x:ag) (u:Value),cs[k]?=some x->vs[k]?=some u->R w I ρ x u (Fs k))
   (aU:∀ (ae k c:Nat),ae<cs.length->k<cs.length->Fs ae c->Fs k c->ae=k)
   (aT:∀ c,F c↔∃ k,k<cs.length/\Fs k c):R w I ρ (.agg cs) (.agg vs) F
 | cC {cs:List ag}{vs:Array Value}{Fs:Nat->bz}{F:bz}(ao:cs.length=vs.size)
   (aw:∀ (k:Nat) (x:ag) (u:Value),cs[k]?=some x->vs[k]?=some u->R w I ρ x u (Fs k))
   (aU:∀ (ae k c:Nat),ae<cs.length->k<cs.length->Fs ae c->Fs k c->ae=k)
   (aT:∀ c,F c↔∃ k,k<cs.length/\Fs k c):R w I ρ (.cC cs) (.tuple vs) F
 | et {fn:Fn}{first caps:List ag}{v1 v2:Array Value}{F:bz}(aT:∀ c,¬ F c) (h1:first.length=v1.size) (al:caps.length=v2.size)
   (j0:∀ (k:Nat) (x:ag) (u:Value),first[k]?=some x->v1[k]?=some u->R w I ρ x u (λ_=>False))
   (iG:∀ (k:Nat) (x:ag) (u:Value),caps[k]?=some x->v2[k]?=some u->R w I ρ x u (λ_=>False)):R w I ρ (.et fn first caps) (.func fn v1 v2) F
 | mp {p:Array MapEntry->Nat->Prop}{b:Nat}{es:Array MapEntry}{clock:Nat}{F:bz}(bh:w.heap[b]?=some (.map es clock)) (aG:p es clock) (aT:∀ c,F c↔c=b):R w I ρ (.mp p) (.map (some b)) F
 | imp {p:Array MapEntry->Nat->Prop}{b:Nat}{es:Array MapEntry}{clock:Nat}{F:bz}(aT:∀ c,¬ F c) (bw:I b) (bh:w.heap[b]?=some (.map es clock)) (aG:p es clock):R w I ρ (.imp p) (.map (some b)) F
theorem R.xK {w:World}{I:bz}{ρ:ag->Value->Prop}{x:ag}{v:Value}{F f':bz}(h:R w I ρ x v F) (aT:∀ c,F c↔f' c):R w I ρ x v f':=by
 have:F=f':=funext λc=>propext (aT c);exact this ▸ h
theorem R.lt {w:World}{I:bz}{ρ:ag->Value->Prop}{x:ag}{v:Value}{F:bz}(h:R w I ρ x v F):∀ c,F c->c<w.heap.size:=by
 induction h with
 | lit _ aT | aN aT | dead aT | ref _ _ aT | hS aT | aF aT | bk aT | et aT | imp aT=>exact λc ab=>absurd ab (aT c)
 | mp bh _ aT=>exact λc ab=>by rw [(aT c).1 ab]; exact (Array.getElem?_eq_some_iff.1 bh).1
 | own bh ao h1 aw aU aK aT aS =>
  intro c ab;rcases (aT c).1 ab with h | ⟨k,hk,h⟩
  ·exact (bh.lt c h).2
  ·exact aS k _ _ (List.getElem?_eq_getElem hk) (List.getElem?_eq_getElem (ao ▸ hk)) c h
 | obj bh ao h1 aw aU aK aT aS =>
  intro c ab;rcases (aT c).1 ab with rfl | ⟨k,hk,h⟩
  ·exact (Array.getElem?_eq_some_iff.1 bh).1
  ·exact aS k _ _ (List.getElem?_eq_getElem hk) (Array.getElem?_eq_getElem (ao ▸ hk)) c h
 | agg ao h1 aw aU aT aS =>
  intro c ab;obtain ⟨k,hk,h⟩:=(aT c).1 ab;exact aS k _ _ (List.getElem?_eq_getElem hk) (Array.getElem?_eq_getElem (ao ▸ hk)) c h
 | cC ao aw aU aT aS =>
  intro c ab;obtain ⟨k,hk,h⟩:=(aT c).1 ab;exact aS k _ _ (List.getElem?_eq_getElem hk) (Array.getElem?_eq_getElem (ao ▸ hk)) c h
theorem uL {w w':World}{e:TypeId}{z n:Nat}{v:Value}{us:List Value}(h:w.ownsRow 0 e z v n us) (aK:∀ c,v.ownBlock=some c->w'.heap[c]?=w.heap[c]?):w'.ownsRow 0 e z v n us:=by
 obtain ⟨h1,al⟩:=h;refine ⟨h1,?_⟩;rcases al with al | ⟨g,cap,cur,rfl,ba,ca,rest⟩
 ·exact .inl al
 ·exact .inr ⟨g,cap,cur,rfl,ba,by rw [aK g rfl]; exact ca,rest⟩
theorem R.frame {w w':World}{I I':bz}{ρ ρ':ag->Value->Prop}{x:ag}{v:Value}{F:bz}(h:R w I ρ x v F)
  (bw:∀ c,I c->w'.heap[c]?=w.heap[c]?) (oD:∀ c,I c->I' c) (lu:∀ x v,ρ x v->ρ' x v) :
  (∀ c,F c->w'.heap[c]?=w.heap[c]?)->R w' I' ρ' x v F:=by
 induction h with
 | lit hv aT=>exact λ_=>.lit hv aT
 | aN aT=>exact λ_=>.aN aT
 | dead aT=>exact λ_=>.dead aT
 | ref J h aT=>exact λ_=>.ref J (lu _ _ h) aT
 | hS aT=>exact λ_=>.hS aT
 | aF aT k2 hi aL ao h1 ab aw aS =>
  exact λ_=>.aF aT k2 (oD _ hi) aL ao h1 (λk x hk=>(World.cell?_of_block (a:=⟨_,_,none⟩) (bw _ hi)).trans (ab k x hk)) λk x hk=>aS k x hk (λc ab=>ab.elim)
 | bk aT hi aL h1 ab aw aS =>
  exact λ_=>.bk aT (oD _ hi) aL h1 (λk x hk=>(World.cell?_of_block (a:=⟨_,_,none⟩) (bw _ hi)).trans (ab k x hk)) λk x hk=>aS k x hk (λc ab=>ab.elim)
 | own bh ao h1 aw aU aK aT aS =>
  intro bn;refine .own (uL bh λc ab=>bn c ((aT c).2 (.inl ab))) ao h1 (λk x u J hu=>aS k x u J hu λc ab=>bn c ((aT c).2 (.inr ⟨k,?_,ab⟩))) aU aK aT;exact (List.getElem?_eq_some_iff.1 J).1
 | obj bh ao h1 aw aU aK aT aS =>
  intro bn;refine .obj ((bn _ ((aT _).2 (.inl rfl))).trans bh) ao h1 (λk x u J hu=>aS k x u J hu λc ab=>bn c ((aT c).2 (.inr ⟨k,?_,ab⟩))) aU aK aT;exact (List.getElem?_eq_some_iff.1 J).1
 | agg ao h1 aw aU aT aS =>
  intro bn;refine .agg ao h1 (λk x u J hu=>aS k x u J hu λc ab=>bn c ((aT c).2 ⟨k,?_,ab⟩)) aU aT;exact (List.getElem?_eq_some_iff.1 J).1
 | cC ao aw aU aT aS =>
  intro bn;refine .cC ao (λk x u J hu=>aS k x u J hu λc ab=>bn c ((aT c).2 ⟨k,?_,ab⟩)) aU aT;exact (List.getElem?_eq_some_iff.1 J).1
 | imp aT hi bh aG=>exact λ_=>.imp aT (oD _ hi) ((bw _ hi).trans bh) aG
 | mp bh aG aT=>exact λbn=>.mp ((bn _ ((aT _).2 rfl)).trans bh) aG aT
 | et aT h1 al j0 iG gx gq=>exact λ_=>.et aT h1 al (λk x u J hu=>gx k x u J hu λc ab=>ab.elim) (λk x u J hu=>gq k x u J hu λc ab=>ab.elim)
def ag.kids:ag->List ag
 | .own _ _ cs=>cs
 | .obj cs=>cs
 | .agg cs=>cs
 | .cC cs=>cs
 | _=>[]
def ag.u0 (x:ag) (k:Nat) (y:ag):ag :=
 match x with
 | .own z n cs=>.own z n (cs.set k y)
 | .obj cs=>.obj (cs.set k y)
 | .agg cs=>.agg (cs.set k y)
 | .cC cs=>.cC (cs.set k y)
 | x=>x
def ag.at:ag->List Nat->Option ag
 | x,[]=>some x
 | x,k::p =>
  match x.kids[k]? with
  | some c=>c.at p
  | none=>none
def ag.setAt:ag->List Nat->ag->ag
 | _,[],y=>y
 | x,k::p,y =>
  match x.kids[k]? with
  | some c=>x.u0 k (c.setAt p y)
  | none=>x
def child (w:World) (v:Value) (k:Nat):Option Value :=
 match v with
 | .agg cs=>cs[k]?
 | .tuple cs=>cs[k]?
 | .slice (some a) _ _=>w.cell? ⟨a.block,a.off+k,none⟩
 | .pointer (some a)=>w.cell? ⟨a.block,a.off+k,none⟩
 | _=>none
def walk (w:World):Value->List Nat->Option Value
 | v,[]=>some v
 | v,k::p =>
  match child w v k with
  | some u=>walk w u p
  | none=>none
theorem oa {w:World}{e:TypeId}{z n:Nat}{v:Value}{us:List Value}(h:w.ownsRow 0 e z v n us) {k:Nat}{u:Value}(hu:us[k]?=some u):child w v k=some u:=by
 obtain ⟨h1,al⟩:=h;rcases al with ⟨rfl,rfl⟩ | ⟨g,cap,cur,rfl,ba,ca,aP,ab,aL,aJ⟩
 ·simp at h1; subst h1; simp at hu
 ·rw [<- aJ] at hu;rw [List.getElem?_take] at hu
  split at hu
  ·simpa [child,World.cell?,ca] using hu
  ·cases hu
theorem Vh {α:Type}{l:List α}{k ae:Nat}{y x:α}(h:(l.set k y)[ae]?=some x):(ae=k/\x=y/\k<l.length)\/(ae≠k/\l[ae]?=some x):=by
 by_cases eQ:ae=k
 ·subst eQ;by_cases a_:ae<l.length
  ·rw [List.getElem?_set_self a_] at h; exact .inl ⟨rfl,(Option.some.inj h).symm,a_⟩
  ·rw [List.set_eq_of_length_le (by omega)] at h; rw [List.getElem?_eq_none (by omega)] at h; cases h
 ·rw [List.getElem?_set_ne (Ne.symm eQ)] at h; exact .inr ⟨eQ,h⟩
structure Out (w w':World) (I I':bz) (ρ ρ':ag->Value->Prop) (F cN:bz):Prop where
 aF:∀ c,I c->w'.heap[c]?=w.heap[c]?
 rest:∀ c,F c->¬ cN c->w'.heap[c]?=w.heap[c]?
 more:∀ c,I c->I' c
 ref:∀ x v,ρ x v->ρ' x v
theorem Out.mono {w w':World}{I I':bz}{ρ ρ':ag->Value->Prop}{F cN f' jk:bz}(h:Out w w' I I' ρ ρ' F cN) (h1:∀ c,f' c->F c) (al:∀ c,f' c->¬ jk c->¬ cN c):Out w w' I I' ρ ρ' f' jk :=
 ⟨h.aF,λc ab aP=>h.rest c (h1 c ab) (al c ab aP),h.more,h.ref⟩
theorem R.outside {w w':World}{I I':bz}{ρ ρ':ag->Value->Prop}{F cN:bz}(o:Out w w' I I' ρ ρ' F cN) {x:ag}{v:Value}{G:bz}(h:R w I ρ x v G) (eu:∀ c,G c->F c/\¬ cN c):R w' I' ρ' x v G :=
 h.frame o.aF o.more o.ref λc ab=>o.rest c (eu c ab).1 (eu c ab).2
theorem Dw {w w':World}{I I':bz}{ρ ρ':ag->Value->Prop}{cs:List ag}{get:Nat->Option Value}{Fs:Nat->bz}{F cN:bz}
  (aw:∀ (k:Nat) (x:ag) (u:Value),cs[k]?=some x->get k=some u->R w I ρ x u (Fs k))
  (aU:∀ (ae k c:Nat),ae<cs.length->k<cs.length->Fs ae c->Fs k c->ae=k)
  (aT:∀ k c,k<cs.length->Fs k c->F c) {k:Nat}(hk:k<cs.length) (az:∀ c,cN c->Fs k c) (o:Out w w' I I' ρ ρ' F cN)
  {y:ag}{u:Value}{b3:bz}(hu:get k=some u) (bl:R w' I' ρ' y u b3) (e':∀ c,b3 c↔(Fs k c/\¬ cN c)\/(b3 c/\¬ (F c/\¬ cN c))) :
  (∀ (ae:Nat) (x:ag) (u:Value),(cs.set k y)[ae]?=some x->get ae=some u->R w' I' ρ' x u (if ae=k then b3 else Fs ae)) /\
  (∀ (i ae c:Nat),i<(cs.set k y).length->ae<(cs.set k y).length->(if i=k then b3 else Fs i) c->(if ae=k then b3 else Fs ae) c->i=ae):=by
 constructor
 ·intro ae x tu J fN;rcases Vh J with ⟨rfl,rfl,a_⟩ | ⟨ek,J⟩
  ·rw [if_pos rfl]; rw [hu] at fN; cases fN; exact bl
  ·rw [if_neg ek];have aa:ae<cs.length:=(List.getElem?_eq_some_iff.1 J).1;exact (aw ae x tu J fN).outside o λc ab=>⟨aT ae c aa ab,λeO=>ek (aU ae k c aa hk ab (az c eO))⟩
 ·intro i ae c hi aa h1 al;rw [List.length_set] at hi aa;by_cases uq:i=k <;> by_cases eQ:ae=k
  ·exact uq.trans eQ.symm
  ·rw [if_pos uq] at h1; rw [if_neg eQ] at al;exfalso;have eO:¬ cN c:=λh=>eQ (aU ae k c aa hk al (az c h));rcases (e' c).1 h1 with ⟨h,_⟩ | ⟨_,h⟩
   ·exact eQ (aU ae k c aa hk al h)
   ·exact h ⟨aT ae c aa al,eO⟩
  ·rw [if_neg uq] at h1; rw [if_pos eQ] at al;exfalso;have eO:¬ cN c:=λh=>uq (aU i k c hi hk h1 (az c h));rcases (e' c).1 al with ⟨h,_⟩ | ⟨_,h⟩
   ·exact uq (aU i k c hi hk h1 h)
   ·exact h ⟨aT i c hi h1,eO⟩
  ·rw [if_neg uq] at h1; rw [if_neg eQ] at al;exact aU i ae c hi aa h1 al
theorem Dx {m:Nat}{Fs:Nat->bz}{b3 cN jk:bz}{k:Nat}(hk:k<m)
  (aU:∀ (ae k c:Nat),ae<m->k<m->Fs ae c->Fs k c->ae=k) (az:∀ c,cN c->Fs k c) (e':∀ c,b3 c↔(Fs k c/\¬ cN c)\/jk c) (c:Nat) :
  (∃ ae,ae<m/\(if ae=k then b3 else Fs ae) c)↔((∃ ae,ae<m/\Fs ae c)/\¬ cN c)\/jk c:=by
 constructor
 ·rintro ⟨ae,aa,h⟩;by_cases eQ:ae=k
  ·rw [if_pos eQ] at h;rcases (e' c).1 h with ⟨h1,al⟩ | h1
   ·exact .inl ⟨⟨k,hk,h1⟩,al⟩
   ·exact .inr h1
  ·rw [if_neg eQ] at h;exact .inl ⟨⟨ae,aa,h⟩,λeO=>eQ (aU ae k c aa hk h (az c eO))⟩
 ·rintro (⟨⟨ae,aa,h⟩,aP⟩ | h)
  ·by_cases eQ:ae=k
   ·subst eQ; exact ⟨ae,aa,by rw [if_pos rfl]; exact (e' c).2 (.inl ⟨h,aP⟩)⟩
   ·exact ⟨ae,aa,by rw [if_neg eQ]; exact h⟩
  ·exact ⟨k,hk,by rw [if_pos rfl]; exact (e' c).2 (.inr h)⟩
theorem R.oV {w w':World}{I:bz}{ρ:ag->Value->Prop}:∀ (r:List Nat) {x:ag}{v:Value}{F:bz}{y:ag},R w I ρ x v F->x.at r=some y ->
  (∀ c,F c->w'.heap[c]?=w.heap[c]?)->walk w' v r=walk w v r
 | [],_,_,_,_,_,_,_=>rfl
 | k::p,x,v,F,y,h,fW,bn=>by
  simp only [ag.at] at fW;cases hC:x.kids[k]? with
  | none=>rw [hC] at fW; cases fW
  | some rS =>
   rw [hC] at fW;simp only at fW;cases h with
   | @own z n cs _ e us Fs _ bh ao h1 aw aU aK aT =>
    simp only [ag.kids] at hC;have hk:k<cs.length:=(List.getElem?_eq_some_iff.1 hC).1;have hu:us[k]?=some us[k]:=List.getElem?_eq_getElem (ao ▸ hk);have mF:=uL (w':=w') bh λc ab=>bn c ((aT c).2 (.inl ab));have:=R.oV (w':=w') p (aw k rS _ hC hu) fW λc ab=>bn c ((aT c).2 (.inr ⟨k,hk,ab⟩));simp [walk,oa bh hu,oa mF hu,this]
   | @obj cs b e arr Fs _ bh ao h1 aw aU aK aT =>
    simp only [ag.kids] at hC;have hk:k<cs.length:=(List.getElem?_eq_some_iff.1 hC).1;have hu:arr[k]?=some arr[k]:=Array.getElem?_eq_getElem (ao ▸ hk);have mF:=(bn b ((aT b).2 (.inl rfl))).trans bh;have:=R.oV (w':=w') p (aw k rS _ hC hu) fW λc ab=>bn c ((aT c).2 (.inr ⟨k,hk,ab⟩));simp [walk,child,World.cell?,bh,mF,hu,this]
   | @agg cs vs Fs _ ao h1 aw aU aT =>
    simp only [ag.kids] at hC;have hk:k<cs.length:=(List.getElem?_eq_some_iff.1 hC).1;have hu:vs[k]?=some vs[k]:=Array.getElem?_eq_getElem (ao ▸ hk);have:=R.oV (w':=w') p (aw k rS _ hC hu) fW λc ab=>bn c ((aT c).2 ⟨k,hk,ab⟩);simp [walk,child,hu,this]
   | @cC cs vs Fs _ ao aw aU aT =>
    simp only [ag.kids] at hC;have hk:k<cs.length:=(List.getElem?_eq_some_iff.1 hC).1;have hu:vs[k]?=some vs[k]:=Array.getElem?_eq_getElem (ao ▸ hk);have:=R.oV (w':=w') p (aw k rS _ hC hu) fW λc ab=>bn c ((aT c).2 ⟨k,hk,ab⟩);simp [walk,child,hu,this]
   | ref J _ _=>cases x <;> simp [ag.isRef,ag.kids] at J hC
   | _=>simp [ag.kids] at hC
theorem R.focus {w:World}{I:bz}{ρ:ag->Value->Prop}:∀ (q:List Nat) {x:ag}{v:Value}{F:bz}{y:ag},R w I ρ x v F->x.at q=some y ->
  ∃ iD cN,walk w v q=some iD/\R w I ρ y iD cN/\(∀ c,cN c->F c) /\
   (∀ (w':World),(∀ c,F c->¬ cN c->w'.heap[c]?=w.heap[c]?)->walk w' v q=some iD/\∀ r tA,x.at r=some tA->(∃ e8,r=q++e8)\/walk w' v r=walk w v r) /\
   ∀ (w':World) (I':bz) (ρ':ag->Value->Prop) (y':ag) (jk:bz),Out w w' I I' ρ ρ' F cN->R w' I' ρ' y' iD jk->(∀ c,jk c->F c->cN c) ->
    ∃ f',R w' I' ρ' (x.setAt q y') v f'/\∀ c,f' c↔(F c/\¬ cN c)\/jk c
 | [],x,v,F,y,h,fW=>by
  simp only [ag.at,Option.some.injEq] at fW;subst fW;exact ⟨v,F,rfl,h,λ_ h=>h,λ_ _=>⟨rfl,λr _ _=>.inl ⟨r,rfl⟩⟩,λw' I' ρ' y' jk _ bl _=>⟨jk,bl,λc=>by simp⟩⟩
 | k::p,x,v,F,y,h,fW=>by
  simp only [ag.at] at fW;cases hC:x.kids[k]? with
  | none=>rw [hC] at fW; cases fW
  | some rS =>
   rw [hC] at fW;simp only at fW;have uA:∀ y',x.setAt (k::p) y'=x.u0 k (rS.setAt p y'):=λy'=>by simp [ag.setAt,hC]
   cases h with
   | @own z n cs _ e us Fs _ bh ao h1 aw aU aK aT =>
    simp only [ag.kids] at hC;have hk:k<cs.length:=(List.getElem?_eq_some_iff.1 hC).1;have hu:us[k]?=some us[k]:=List.getElem?_eq_getElem (ao ▸ hk);obtain ⟨iD,cN,hw,dZ,dE,gd,kK⟩:=R.focus p (aw k rS _ hC hu) fW;refine ⟨iD,cN,by simp [walk,oa bh hu,hw],dZ,λc ab=>(aT c).2 (.inr ⟨k,hk,dE c ab⟩),?_,?_⟩
    ·intro w' aL;have oH:∀ ae c,ae<cs.length->Fs ae c->¬ cN c->w'.heap[c]?=w.heap[c]?:=λae c aa ab aP=>aL c ((aT c).2 (.inr ⟨ae,aa,ab⟩)) aP;obtain ⟨jD,ir⟩:=gd w' λc ab aP=>oH k c hk ab aP;have mF:=uL (w':=w') bh λc ab=>aL c ((aT c).2 (.inl ab)) λeO=>aK k c hk (dE c eO) ab;refine ⟨by simp [walk,oa mF hu,jD],?_⟩;intro r tA eT;cases r with
     | nil=>exact .inr rfl
     | cons ae r =>
      simp only [ag.at,ag.kids] at eT;cases aa:cs[ae]? with
      | none=>rw [aa] at eT; cases eT
      | some vn =>
       rw [aa] at eT;simp only at eT;have fj:ae<cs.length:=(List.getElem?_eq_some_iff.1 aa).1;have qg:us[ae]?=some us[ae]:=List.getElem?_eq_getElem (ao ▸ fj);by_cases eQ:ae=k
       ·subst eQ;rw [hC] at aa;cases aa;rcases ir r tA eT with ⟨e8,rfl⟩ | h
        ·exact .inl ⟨e8,rfl⟩
        ·exact .inr (by simp [walk,oa bh hu,oa mF hu,h])
       ·have h:=R.oV (w':=w') r (aw ae vn _ aa qg) eT λc ab=>oH ae c fj ab λeO=>eQ (aU ae k c fj hk ab (dE c eO));exact .inr (by simp [walk,oa bh qg,oa mF qg,h])
    intro w' I' ρ' y' jk o jr mB;have jq:∀ ae c,ae<cs.length->Fs ae c->F c:=λae c aa ab=>(aT c).2 (.inr ⟨ae,aa,ab⟩);obtain ⟨b3,j8,e'⟩:=kK w' I' ρ' y' jk (o.mono (λc ab=>jq k c hk ab) λc _ h=>h) jr λc ab nx=>mB c ab (jq k c hk nx);obtain ⟨eT,nZ⟩:=Dw (get:=λae=>us[ae]?) aw aU jq hk dE o hu j8 λc=>by
     constructor
     ·intro h;rcases (e' c).1 h with h1 | h1
      ·exact .inl h1
      ·exact .inr ⟨h,λ⟨al,aQ⟩=>aQ (mB c h1 al)⟩
     ·rintro (h1 | ⟨h1,_⟩)
      ·exact (e' c).2 (.inl h1)
      ·exact h1
    rw [uA];refine ⟨_,.own (Fs:=λae=>if ae=k then b3 else Fs ae) (uL bh λc ab=>o.rest c ((aT c).2 (.inl ab)) λeO=>aK k c hk (dE c eO) ab) (by simpa using ao) h1 eT nZ ?_ (λc=>Iff.rfl),λc=>?_⟩
    ·intro ae c aa ab uD;rw [List.length_set] at aa;by_cases eQ:ae=k
     ·rw [if_pos eQ] at ab;rcases (e' c).1 ab with ⟨h1,_⟩ | h1
      ·exact aK k c hk h1 uD
      ·exact aK k c hk (dE c (mB c h1 ((aT c).2 (.inl uD)))) uD
     ·rw [if_neg eQ] at ab; exact aK ae c aa ab uD
    ·have hu:=Dx hk aU dE e' c;simp only [List.length_set];rw [hu,aT c];have ht:v.ownBlock=some c->¬ cN c:=λh1 al=>aK k c hk (dE c al) h1;constructor
     ·rintro (h1 | ⟨h1,al⟩ | h1)
      ·exact .inl ⟨.inl h1,ht h1⟩
      ·exact .inl ⟨.inr h1,al⟩
      ·exact .inr h1
     ·rintro (⟨h1 | h1,al⟩ | h1)
      ·exact .inl h1
      ·exact .inr (.inl ⟨h1,al⟩)
      ·exact .inr (.inr h1)
   | @obj cs b e arr Fs _ bh ao h1 aw aU aK aT =>
    simp only [ag.kids] at hC;have hk:k<cs.length:=(List.getElem?_eq_some_iff.1 hC).1;have hu:arr[k]?=some arr[k]:=Array.getElem?_eq_getElem (ao ▸ hk);obtain ⟨iD,cN,hw,dZ,dE,gd,kK⟩:=R.focus p (aw k rS _ hC hu) fW;refine ⟨iD,cN,by simp [walk,child,World.cell?,bh,hu,hw],dZ,λc ab=>(aT c).2 (.inr ⟨k,hk,dE c ab⟩),?_,?_⟩
    ·intro w' aL;have oH:∀ ae c,ae<cs.length->Fs ae c->¬ cN c->w'.heap[c]?=w.heap[c]?:=λae c aa ab aP=>aL c ((aT c).2 (.inr ⟨ae,aa,ab⟩)) aP;obtain ⟨jD,ir⟩:=gd w' λc ab aP=>oH k c hk ab aP;have mF:=(aL b ((aT b).2 (.inl rfl)) λeO=>aK k hk (dE b eO)).trans bh;refine ⟨by simp [walk,child,World.cell?,mF,hu,jD],?_⟩;intro r tA eT;cases r with
     | nil=>exact .inr rfl
     | cons ae r =>
      simp only [ag.at,ag.kids] at eT;cases aa:cs[ae]? with
      | none=>rw [aa] at eT; cases eT
      | some vn =>
       rw [aa] at eT;simp only at eT;have fj:ae<cs.length:=(List.getElem?_eq_some_iff.1 aa).1;have qg:arr[ae]?=some arr[ae]:=Array.getElem?_eq_getElem (ao ▸ fj);by_cases eQ:ae=k
       ·subst eQ;rw [hC] at aa;cases aa;rcases ir r tA eT with ⟨e8,rfl⟩ | h
        ·exact .inl ⟨e8,rfl⟩
        ·exact .inr (by simp [walk,child,World.cell?,bh,mF,hu,h])
       ·have h:=R.oV (w':=w') r (aw ae vn _ aa qg) eT λc ab=>oH ae c fj ab λeO=>eQ (aU ae k c fj hk ab (dE c eO));exact .inr (by simp [walk,child,World.cell?,bh,mF,qg,h])
    intro w' I' ρ' y' jk o jr mB;have jq:∀ ae c,ae<cs.length->Fs ae c->F c:=λae c aa ab=>(aT c).2 (.inr ⟨ae,aa,ab⟩);obtain ⟨b3,j8,e'⟩:=kK w' I' ρ' y' jk (o.mono (λc ab=>jq k c hk ab) λc _ h=>h) jr λc ab nx=>mB c ab (jq k c hk nx);obtain ⟨eT,nZ⟩:=Dw (get:=λae=>arr[ae]?) aw aU jq hk dE o hu j8 λc=>by
     constructor
     ·intro h;rcases (e' c).1 h with h1 | h1
      ·exact .inl h1
      ·exact .inr ⟨h,λ⟨al,aQ⟩=>aQ (mB c h1 al)⟩
     ·rintro (h1 | ⟨h1,_⟩)
      ·exact (e' c).2 (.inl h1)
      ·exact h1
    rw [uA];have nY:F b:=(aT b).2 (.inl rfl);have Gc:¬ cN b:=λh=>aK k hk (dE b h);refine ⟨_,.obj (Fs:=λae=>if ae=k then b3 else Fs ae) ((o.rest b nY Gc).trans bh) (by simpa using ao) h1 eT nZ ?_ (λc=>Iff.rfl),λc=>?_⟩
    ·intro ae aa ab;rw [List.length_set] at aa;by_cases eQ:ae=k
     ·rw [if_pos eQ] at ab;rcases (e' b).1 ab with ⟨h1,_⟩ | h1
      ·exact aK k hk h1
      ·exact Gc (mB b h1 nY)
     ·rw [if_neg eQ] at ab; exact aK ae aa ab
    ·have hu:=Dx hk aU dE e' c;simp only [List.length_set];rw [hu,aT c];constructor
     ·rintro (rfl | ⟨h1,al⟩ | h1)
      ·exact .inl ⟨.inl rfl,Gc⟩
      ·exact .inl ⟨.inr h1,al⟩
      ·exact .inr h1
     ·rintro (⟨h1 | h1,al⟩ | h1)
      ·exact .inl h1
      ·exact .inr (.inl ⟨h1,al⟩)
      ·exact .inr (.inr h1)
   | @agg cs vs Fs _ ao h1 aw aU aT =>
    simp only [ag.kids] at hC;have hk:k<cs.length:=(List.getElem?_eq_some_iff.1 hC).1;have hu:vs[k]?=some vs[k]:=Array.getElem?_eq_getElem (ao ▸ hk);obtain ⟨iD,cN,hw,dZ,dE,gd,kK⟩:=R.focus p (aw k rS _ hC hu) fW;refine ⟨iD,cN,by simp [walk,child,hu,hw],dZ,λc ab=>(aT c).2 ⟨k,hk,dE c ab⟩,?_,?_⟩
    ·intro w' aL;have oH:∀ ae c,ae<cs.length->Fs ae c->¬ cN c->w'.heap[c]?=w.heap[c]?:=λae c aa ab aP=>aL c ((aT c).2 ⟨ae,aa,ab⟩) aP;obtain ⟨jD,ir⟩:=gd w' λc ab aP=>oH k c hk ab aP
     
     refine ⟨by simp [walk,child,hu,jD],?_⟩;intro r tA eT;cases r with
     | nil=>exact .inr rfl
     | cons ae r =>
      simp only [ag.at,ag.kids] at eT;cases aa:cs[ae]? with
      | none=>rw [aa] at eT; cases eT
      | some vn =>
       rw [aa] at eT;simp only at eT;have fj:ae<cs.length:=(List.getElem?_eq_some_iff.1 aa).1;have qg:vs[ae]?=some vs[ae]:=Array.getElem?_eq_getElem (ao ▸ fj);by_cases eQ:ae=k
       ·subst eQ;rw [hC] at aa;cases aa;rcases ir r tA eT with ⟨e8,rfl⟩ | h
        ·exact .inl ⟨e8,rfl⟩
        ·exact .inr (by simp [walk,child,hu,h])
       ·have h:=R.oV (w':=w') r (aw ae vn _ aa qg) eT λc ab=>oH ae c fj ab λeO=>eQ (aU ae k c fj hk ab (dE c eO));exact .inr (by simp [walk,child,qg,h])
    intro w' I' ρ' y' jk o jr mB;have jq:∀ ae c,ae<cs.length->Fs ae c->F c:=λae c aa ab=>(aT c).2 ⟨ae,aa,ab⟩;obtain ⟨b3,j8,e'⟩:=kK w' I' ρ' y' jk (o.mono (λc ab=>jq k c hk ab) λc _ h=>h) jr λc ab nx=>mB c ab (jq k c hk nx);obtain ⟨eT,nZ⟩:=Dw (get:=λae=>vs[ae]?) aw aU jq hk dE o hu j8 λc=>by
     constructor
     ·intro h;rcases (e' c).1 h with h1 | h1
      ·exact .inl h1
      ·exact .inr ⟨h,λ⟨al,aQ⟩=>aQ (mB c h1 al)⟩
     ·rintro (h1 | ⟨h1,_⟩)
      ·exact (e' c).2 (.inl h1)
      ·exact h1
    rw [uA];refine ⟨_,.agg (Fs:=λae=>if ae=k then b3 else Fs ae) (by simpa using ao) h1 eT nZ (λc=>Iff.rfl),λc=>?_⟩;have hu:=Dx hk aU dE e' c;simp only [List.length_set];rw [hu,aT c]
   | @cC cs vs Fs _ ao aw aU aT =>
    simp only [ag.kids] at hC;have hk:k<cs.length:=(List.getElem?_eq_some_iff.1 hC).1;have hu:vs[k]?=some vs[k]:=Array.getElem?_eq_getElem (ao ▸ hk);obtain ⟨iD,cN,hw,dZ,dE,gd,kK⟩:=R.focus p (aw k rS _ hC hu) fW;refine ⟨iD,cN,by simp [walk,child,hu,hw],dZ,λc ab=>(aT c).2 ⟨k,hk,dE c ab⟩,?_,?_⟩
    ·intro w' aL;have oH:∀ ae c,ae<cs.length->Fs ae c->¬ cN c->w'.heap[c]?=w.heap[c]?:=λae c aa ab aP=>aL c ((aT c).2 ⟨ae,aa,ab⟩) aP;obtain ⟨jD,ir⟩:=gd w' λc ab aP=>oH k c hk ab aP
     
     refine ⟨by simp [walk,child,hu,jD],?_⟩;intro r tA eT;cases r with
     | nil=>exact .inr rfl
     | cons ae r =>
      simp only [ag.at,ag.kids] at eT;cases aa:cs[ae]? with
      | none=>rw [aa] at eT; cases eT
      | some vn =>
       rw [aa] at eT;simp only at eT;have fj:ae<cs.length:=(List.getElem?_eq_some_iff.1 aa).1;have qg:vs[ae]?=some vs[ae]:=Array.getElem?_eq_getElem (ao ▸ fj);by_cases eQ:ae=k
       ·subst eQ;rw [hC] at aa;cases aa;rcases ir r tA eT with ⟨e8,rfl⟩ | h
        ·exact .inl ⟨e8,rfl⟩
        ·exact .inr (by simp [walk,child,hu,h])
       ·have h:=R.oV (w':=w') r (aw ae vn _ aa qg) eT λc ab=>oH ae c fj ab λeO=>eQ (aU ae k c fj hk ab (dE c eO));exact .inr (by simp [walk,child,qg,h])
    intro w' I' ρ' y' jk o jr mB;have jq:∀ ae c,ae<cs.length->Fs ae c->F c:=λae c aa ab=>(aT c).2 ⟨ae,aa,ab⟩;obtain ⟨b3,j8,e'⟩:=kK w' I' ρ' y' jk (o.mono (λc ab=>jq k c hk ab) λc _ h=>h) jr λc ab nx=>mB c ab (jq k c hk nx);obtain ⟨eT,nZ⟩:=Dw (get:=λae=>vs[ae]?) aw aU jq hk dE o hu j8 λc=>by
     constructor
     ·intro h;rcases (e' c).1 h with h1 | h1
      ·exact .inl h1
      ·exact .inr ⟨h,λ⟨al,aQ⟩=>aQ (mB c h1 al)⟩
     ·rintro (h1 | ⟨h1,_⟩)
      ·exact (e' c).2 (.inl h1)
      ·exact h1
    rw [uA];refine ⟨_,.cC (Fs:=λae=>if ae=k then b3 else Fs ae) (by simpa using ao) eT nZ (λc=>Iff.rfl),λc=>?_⟩;have hu:=Dx hk aU dE e' c;simp only [List.length_set];rw [hu,aT c]
   | ref J _ _=>cases x <;> simp [ag.isRef,ag.kids] at J hC
   | _=>simp [ag.kids] at hC
end Go.Own
namespace Go.Own
open Go
abbrev aW:=Nat->Option ag
def b' (g:aW) (p:Place):Option ag :=
 match g p.root with
 | some x=>x.at p.path
 | none=>none
def eB (w:World) (T:Array Value) (p:Place):Option Value :=
 match T[p.root]? with
 | some v=>walk w v p.path
 | none=>none
def addrOf:Value->Option Addr
 | .slice (some a) _ _=>some a
 | .pointer (some a)=>some a
 | _=>none
def gl (w:World) (T:Array Value):ag->Value->Prop
 | .ptr p k,v=>∃ u a,eB w T p=some u/\addrOf u=some a/\v=.pointer (some ⟨a.block,a.off+k,none⟩)
 | .bo _ p n,v=>∃ a N cap,eB w T p=some (.slice a N cap)/\v=.slice a n cap/\n<=N
 | .sub z p lo n,v=>∃ a N cap cF lV,eB w T p=some (.slice a N cap)/\v=.slice cF n lV/\n<=lV/\lo+n<=N/\(0<n->∃ ad,a=some ad/\cF=some ⟨ad.block,ad.off+lo * z,none⟩)
 | .b8 _ p n _ _,v=>∃ a cap,eB w T p=some (.slice a n cap)/\v=.slice a n cap
 | .iR p,v=>∃ b,eB w T p=some (.map b)/\v=.map b
 | _,_=>False
def hn (g:aW):ag->Prop
 | .ptr p k=>∃ y,b' g p=some y/\(∃ z n cs,(y=.own z n cs\/y=.obj cs)/\k<cs.length)
 | .bo z p n=>(∃ N cs,b' g p=some (.own z N cs)/\n<=N)\/(p.path=[]/\∃ q hG m new,g p.root=some (.b8 z q hG m new)/\n=hG+m)
 | .sub z p lo n=>∃ N cs,b' g p=some (.own z N cs)/\lo+n<=N
 | .b8 z p n _ _=>(∃ cs,b' g p=some (.own z n cs))\/(p.path=[]/\∃ q hG m new cs,g p.root=some (.b8 z q hG m new)/\n=hG+m/\b' g q=some (.own z hG cs))
 | .iR p=>∃ q,b' g p=some (.mp q)
 | _=>False
def ew (w:World) (T:Array Value) (g:aW) (r:ag) (v:Value):Prop:=gl w T r v/\hn g r
structure Er (w:World) (I:bz) (ρ:ag->Value->Prop) (z:Nat) (p:Place) (n m:Nat) (new:List ag) (v:Value) (F:bz) (bv:Value) (e c5:TypeId) (us news:List Value):Prop where
 km:ρ (.b8 z p n 0 []) bv
 k3:w.ownsRow 0 e z bv n us
 mG:w.ownsRow 0 c5 z v (n+m) (us++news)
 ao:new.length=news.length
 h1:∀ (k:Nat) (u:Value),news[k]?=some u->u.oneCell'=true
 aw:∀ (k:Nat) (x:ag) (u:Value),new[k]?=some x->news[k]?=some u->R w I ρ x u (λ_=>False)
 aT:∀ c,F c↔v.ownBlock=some c/\bv.ownBlock≠some c
inductive jK (w:World) (I:bz) (ρ:ag->Value->Prop):ag->Value->bz->Prop
 | tree {x:ag}{v:Value}{F:bz}(h:R w I ρ x v F):jK w I ρ x v F
 | b8 {z n m:Nat}{p:Place}{new:List ag}{v bv:Value}{e c5:TypeId}{us news:List Value}{F:bz}(h:Er w I ρ z p n m new v F bv e c5 us news):jK w I ρ (.b8 z p n m new) v F
theorem R.k7 {w:World}{I:bz}{ρ:ag->Value->Prop}{z n m:Nat}{p:Place}{new:List ag}{v:Value}{F:bz}(h:R w I ρ (.b8 z p n m new) v F):False:=by
 cases h with
 | ref J=>simp [ag.isRef] at J
theorem jK.h0 {w:World}{I:bz}{ρ:ag->Value->Prop}{x:ag}{v:Value}{F:bz}(h:jK w I ρ x v F) (J:∀ z p n m new,x≠.b8 z p n m new):R w I ρ x v F:=by
 cases h with
 | tree h=>exact h
 | b8=>exact absurd rfl (J _ _ _ _ _)
theorem jK.uH {w:World}{I:bz}{ρ:ag->Value->Prop}{z n m:Nat}{p:Place}{new:List ag}{v:Value}{F:bz}(h:jK w I ρ (.b8 z p n m new) v F):∃ bv e c5 us news,Er w I ρ z p n m new v F bv e c5 us news:=by
 cases h with
 | tree h=>exact h.k7.elim
 | b8 h=>exact ⟨_,_,_,_,_,h⟩
theorem jK.lt {w:World}{I:bz}{ρ:ag->Value->Prop}{x:ag}{v:Value}{F:bz}(h:jK w I ρ x v F):∀ c,F c->c<w.heap.size:=by
 cases h with
 | tree h=>exact h.lt
 | b8 h=>exact λc ab=>(h.mG.lt c ((h.aT c).1 ab).1).2
theorem jK.frame {w w':World}{I I':bz}{ρ ρ':ag->Value->Prop}{x:ag}{v:Value}{F:bz}(h:jK w I ρ x v F)
  (bw:∀ c,I c->w'.heap[c]?=w.heap[c]?) (oD:∀ c,I c->I' c) (lu:∀ x v,ρ x v->ρ' x v)
  (cT:∀ z p n bv,ρ (.b8 z p n 0 []) bv->∀ c,bv.ownBlock=some c->w'.heap[c]?=w.heap[c]?)
  (bn:∀ c,F c->w'.heap[c]?=w.heap[c]?):jK w' I' ρ' x v F:=by
 cases h with
 | tree h=>exact .tree (h.frame bw oD lu bn)
 | @b8 z n m p new v bv e c5 us news F h =>
  have aK:=cT _ _ _ _ h.km;refine .b8 ⟨lu _ _ h.km,uL h.k3 aK,uL h.mG λc ab=>?_,h.ao,h.h1,λk x u J hu=>(h.aw k x u J hu).frame bw oD lu λc ab=>ab.elim,h.aT⟩;by_cases qb:bv.ownBlock=some c
  ·exact aK c qb
  ·exact bn c ((h.aT c).2 ⟨ab,qb⟩)
theorem ag.sB {z n m:Nat}{p:Place}{new:List ag}{q:List Nat}{y:ag}(h:(ag.b8 z p n m new).at q=some y):q=[]/\y=.b8 z p n m new:=by
 cases q with
 | nil=>simp [ag.at] at h; exact ⟨rfl,h.symm⟩
 | cons k q=>simp [ag.at,ag.kids] at h
structure c7 (w:World) (I:bz) (T:Array Value) (g:aW) (Fs:Nat->bz):Prop where
 rel:∀ t x,g t=some x->∃ v,T[t]?=some v/\jK w I (ew w T g) x v (Fs t)
 kH:∀ t,g t=none->∀ c,¬ Fs t c
 e_:∀ t t' c,Fs t c->Fs t' c->t=t'
 aF:∀ t c,Fs t c->¬ I c
 lt:∀ c,I c->c<w.heap.size
 qt:∀ t t' z p n m new cK cY bS di,g t=some (.b8 z p n m new)->g t'=some (.b8 cK p cY bS di)->t=t'
section
variable {w:World}{I:bz}{T:Array Value}{g:aW}{Fs:Nat->bz}
theorem c7.part (h:c7 w I T g Fs) {p:Place}{y:ag}(aG:b' g p=some y) (az:∀ z q n m new,y≠.b8 z q n m new):∃ v cN,eB w T p=some v/\R w I (ew w T g) y v cN/\(∀ c,cN c->Fs p.root c):=by
 unfold b' at aG;cases J:g p.root with
 | none=>rw [J] at aG; cases aG
 | some x =>
  rw [J] at aG;obtain ⟨v,hv,bl⟩:=h.rel _ _ J;replace bl:=bl.h0 (by
   rintro z q n m new rfl;exact az _ _ _ _ _ (ag.sB aG).2)
  obtain ⟨iD,cN,hw,dZ,dE,_⟩:=R.focus p.path bl aG;exact ⟨iD,cN,by simp [eB,hv,hw],dZ,dE⟩
theorem R.pK {ρ:ag->Value->Prop}{z n:Nat}{cs:List ag}{v:Value}{F:bz}(h:R w I ρ (.own z n cs) v F):∀ c,v.ownBlock=some c->F c:=by
 cases h with
 | own bh ao h1 aw aU aK aT=>exact λc ab=>(aT c).2 (.inl ab)
 | ref J=>simp [ag.isRef] at J
theorem R.mS {ρ:ag->Value->Prop}{z n:Nat}{cs:List ag}{v:Value}{F:bz}(h:R w I ρ (.own z n cs) v F) :
  ∃ a cap,v=.slice a n cap/\n<=cap/\cs.length=n * z/\(∀ ad,a=some ad->ad.off=0/\ad.spot=none)/\(0<n->a.isSome=true):=by
 cases h with
 | own bh ao h1 aw aU aK aT =>
  obtain ⟨h1,al⟩:=bh;rcases al with ⟨rfl,rfl⟩ | ⟨b,cap,cur,rfl,_,_,aP,_⟩
  ·exact ⟨none,0,rfl,Nat.le_refl _,by simp [ao,h1],by simp,by simp⟩
  ·exact ⟨_,cap,rfl,aP,by simp [ao,h1],by rintro ad ⟨⟩; exact ⟨rfl,rfl⟩,by simp⟩
 | ref J=>simp [ag.isRef] at J
theorem c7.w8 (h:c7 w I T g Fs) {w':World}{T':Array Value}(fG:∀ t,g t≠none->T'[t]?=T[t]?) (aT:∀ t c,Fs t c->w'.heap[c]?=w.heap[c]?) {p:Place}{y:ag}(aG:b' g p=some y) :
  eB w' T' p=eB w T p:=by
 unfold b' at aG;cases J:g p.root with
 | none=>rw [J] at aG; cases aG
 | some x =>
  rw [J] at aG;obtain ⟨v,hv,bl⟩:=h.rel _ _ J;have jc:T'[p.root]?=some v:=by rw [fG _ (by rw [J]; simp),hv]
  cases bl with
  | tree bl =>
   have:=R.oV (w':=w') p.path bl aG λc ab=>aT _ c ab;simp [eB,hv,jc,this]
  | b8 bl=>simp [eB,hv,jc,(ag.sB aG).1,walk]
theorem kz {g g':aW}(ba:∀ t x,g t=some x->g' t=some x) {p:Place}{y:ag}(aG:b' g p=some y):b' g' p=some y:=by
 unfold b' at *;cases J:g p.root with
 | none=>rw [J] at aG; cases aG
 | some x=>rw [J] at aG; rw [ba _ _ J]; exact aG
theorem hn.mono {g g':aW}(ba:∀ t x,g t=some x->g' t=some x) {r:ag}(h:hn g r):hn g' r:=by
 cases r <;> simp only [hn] at h ⊢
 case ptr p k=>obtain ⟨y,az,h⟩:=h; exact ⟨y,kz ba az,h⟩
 case bo z p n =>
  rcases h with ⟨N,cs,h1,al⟩ | ⟨bd,q,hG,m,new,h1,al⟩
  ·exact .inl ⟨N,cs,kz ba h1,al⟩
  ·exact .inr ⟨bd,q,hG,m,new,ba _ _ h1,al⟩
 case sub z p lo n=>obtain ⟨N,cs,h1,al⟩:=h; exact ⟨N,cs,kz ba h1,al⟩
 case b8 z p n m new =>
  rcases h with ⟨cs,h1⟩ | ⟨bd,q,hG,bS,di,cs,h1,al,aQ⟩
  ·exact .inl ⟨cs,kz ba h1⟩
  ·exact .inr ⟨bd,q,hG,bS,di,cs,ba _ _ h1,al,kz ba aQ⟩
 case iR p=>obtain ⟨q,h⟩:=h; exact ⟨q,kz ba h⟩
theorem c7.DX (h:c7 w I T g Fs) {w':World}{T':Array Value}{g':aW}(fG:∀ t,g t≠none->T'[t]?=T[t]?) (aT:∀ t c,Fs t c->w'.heap[c]?=w.heap[c]?)
  (ba:∀ t x,g t=some x->g' t=some x) {r:ag}{v:Value}(aw:ew w T g r v):ew w' T' g' r v:=by
 obtain ⟨h1,al⟩:=aw;refine ⟨?_,al.mono ba⟩;have slot:∀ {p:Place}{x:ag},p.path=[]->g p.root=some x->eB w' T' p=eB w T p:=by
  intro p x aG J;obtain ⟨v,hv,_⟩:=h.rel _ _ J;simp [eB,aG,walk,fG p.root (by rw [J]; simp)]
 cases r <;> simp only [gl,hn] at h1 al ⊢
 case ptr p k =>
  obtain ⟨y,az,_⟩:=al;rw [h.w8 fG aT az]; exact h1
 case bo z p n =>
  rcases al with ⟨N,cs,al,_⟩ | ⟨bd,q,hG,m,new,al,_⟩
  ·rw [h.w8 fG aT al]; exact h1
  ·rw [slot bd al]; exact h1
 case sub z p lo n =>
  obtain ⟨N,cs,al,_⟩:=al;rw [h.w8 fG aT al]; exact h1
 case b8 z p n m new =>
  rcases al with ⟨cs,al⟩ | ⟨bd,q,hG,bS,di,cs,al,_⟩
  ·rw [h.w8 fG aT al]; exact h1
  ·rw [slot bd al]; exact h1
 case iR p =>
  obtain ⟨q,al⟩:=al;rw [h.w8 fG aT al]; exact h1
theorem c7.Ce (h:c7 w I T g Fs) {z n:Nat}{p:Place}{bv:Value}(aw:ew w T g (.b8 z p n 0 []) bv):∀ c,bv.ownBlock=some c->∃ t,Fs t c:=by
 obtain ⟨⟨a,cap,h1,rfl⟩,al⟩:=aw;intro c ab;have own:∀ {q:Place}{hG:Nat}{cs:List ag}{v:Value},b' g q=some (.own z hG cs)->eB w T q=some v->v.ownBlock=some c->∃ t,Fs t c:=by
  intro q hG cs v bR hv ab;obtain ⟨hT,cN,jc,bl,dE⟩:=h.part bR (by simp);rw [hv] at jc;cases jc;exact ⟨_,dE c (bl.pK c ab)⟩
 rcases al with ⟨cs,al⟩ | ⟨bd,q,hG,m,new,cs,al,rfl,aQ⟩
 ·exact own al h1 ab
 ·obtain ⟨v,hv,bl⟩:=h.rel _ _ al;have q9:v=.slice a (hG+m) cap:=by
   simp only [eB,hv,bd,walk,Option.some.injEq] at h1;exact h1
  obtain ⟨JJ,e,c5,us,news,bl⟩:=bl.uH;by_cases c6:JJ.ownBlock=some c
  ·obtain ⟨⟨a2,qP,bW,rfl⟩,_⟩:=bl.km;exact own aQ bW c6
  ·exact ⟨_,(bl.aT c).2 ⟨by rw [q9]; exact ab,c6⟩⟩
theorem c7.frame (h:c7 w I T g Fs) {w':World}{I':bz}{T':Array Value}{g':aW}(fG:∀ t,g t≠none->T'[t]?=T[t]?) (aT:∀ t c,Fs t c->w'.heap[c]?=w.heap[c]?)
  (bw:∀ c,I c->w'.heap[c]?=w.heap[c]?) (oD:∀ c,I c->I' c) (ba:∀ t x,g t=some x->g' t=some x) {x:ag}{v:Value}{F:bz}(bl:R w I (ew w T g) x v F)
  (kZ:∀ c,F c->w'.heap[c]?=w.heap[c]?):R w' I' (ew w' T' g') x v F :=
 bl.frame bw oD (λ_ _ aw=>h.DX fG aT ba aw) kZ
theorem c7.vG (h:c7 w I T g Fs) {w':World}{I':bz}{T':Array Value}{g':aW}(fG:∀ t,g t≠none->T'[t]?=T[t]?) (aT:∀ t c,Fs t c->w'.heap[c]?=w.heap[c]?)
  (bw:∀ c,I c->w'.heap[c]?=w.heap[c]?) (oD:∀ c,I c->I' c) (ba:∀ t x,g t=some x->g' t=some x) {x:ag}{v:Value}{F:bz}(bl:jK w I (ew w T g) x v F)
  (kZ:∀ c,F c->w'.heap[c]?=w.heap[c]?):jK w' I' (ew w' T' g') x v F :=
 bl.frame bw oD (λ_ _ aw=>h.DX fG aT ba aw) (λ_ _ _ _ aw c ab=>by obtain ⟨t,aJ⟩:=h.Ce aw c ab; exact aT t c aJ) kZ
def e5 (g:aW) (d:Nat) (x:ag):aW:=λt=>if t=d then some x else g t
def tv (Fs:Nat->bz) (d:Nat) (F:bz):Nat->bz:=λt=>if t=d then F else Fs t
theorem NZ {d:Nat}{x:ag}(aU:g d=none):∀ t y,g t=some y->e5 g d x t=some y:=by
 intro t y az;unfold e5;split
 ·rename_i h; subst h; rw [aU] at az; cases az
 ·exact az
end
end Go.Own
namespace Go.Own
open Go
theorem N5 (w:World):∀ (p:List Nat) (v:Value) (k:Nat),walk w v (p++[k])=(walk w v p).bind λu=>child w u k
 | [],v,k=>by simp [walk]; cases child w v k <;> rfl
 | ae::p,v,k=>by
  simp only [List.cons_append,walk];cases child w v ae with
  | none=>rfl
  | some u=>exact N5 w p u k
theorem JF:∀ (p:List Nat) (x:ag) (k:Nat),x.at (p++[k])=(x.at p).bind λy=>y.kids[k]?
 | [],x,k=>by simp [ag.at]; cases x.kids[k]? <;> rfl
 | ae::p,x,k=>by
  simp only [List.cons_append,ag.at];cases x.kids[ae]? with
  | none=>rfl
  | some u=>exact JF p u k
theorem sA (g:aW) (p:Place) (k:Nat):b' g (p.push k)=(b' g p).bind λy=>y.kids[k]?:=by
 unfold b' Place.push;cases g p.root with
 | none=>rfl
 | some x=>simp [JF]
theorem w7 (w:World) (T:Array Value) (p:Place) (k:Nat):eB w T (p.push k)=(eB w T p).bind λu=>child w u k:=by
 unfold eB Place.push;cases T[p.root]? with
 | none=>rfl
 | some x=>simp [N5]
def im:Nat->Place->ag->ag
 | _,p,.own z n _=>.bo z p n
 | _,p,.obj (_::_)=>.ptr p 0
 | _,_,.obj []=>.dead
 | _,_,.b8 ..=>.dead
 | _,p,.mp _=>.iR p
 | d+1,p,.agg cs=>.agg (cs.mapIdx λi x=>im d (p.push i) x)
 | d+1,p,.cC cs=>.cC (cs.mapIdx λi x=>im d (p.push i) x)
 | 0,_,.agg _=>.dead
 | 0,_,.cC _=>.dead
 | _,_,x=>x
def rn (t:Nat):ag->ag
 | .b8 z _ n m _=>.bo z ⟨t,[]⟩ (n+m)
 | x=>im 2 ⟨t,[]⟩ x
def n':Value->ag
 | .slice none 0 0=>.aN
 | .agg _=>.dead
 | .tuple _=>.dead
 | v=>.lit v
def ofConst:Value->ag
 | .agg vs=>if vs.all Value.oneCell' then .agg (vs.toList.map n') else .dead
 | .tuple _=>.dead
 | v=>n' v
def bT (g:aW):Operand->Option ag
 | .tmp t=>(g t).map (rn t)
 | .const v=>some (ofConst v)
 | .func f=>some (.et (.func f) [] [])
 | .global _=>none
abbrev cW:bz:=λ_=>False
section
variable {w:World}{I:bz}{T:Array Value}{g:aW}{Fs:Nat->bz}
theorem R.empty {ρ:ag->Value->Prop}{x:ag}{v:Value}{F:bz}(h:R w I ρ x v F) (aT:∀ c,¬ F c):R w I ρ x v cW:=h.xK λc=>⟨λab=>aT c ab,λab=>ab.elim⟩
theorem DW:∀ (d:Nat) {p:Place}{x:ag}{v:Value}{F:bz},b' g p=some x->eB w T p=some v->R w I (ew w T g) x v F->R w I (ew w T g) (im d p x) v cW:=by
 intro d
 induction d with
 | zero =>
  intro p x v F aG hv bl;cases bl with
  | lit ao aT=>exact .lit ao λ_ h=>h
  | aN aT=>exact .aN λ_ h=>h
  | dead aT=>exact .dead λ_ h=>h
  | ref J aw aT=>cases x <;> simp [ag.isRef] at J <;> exact .ref rfl aw λ_ h=>h
  | mp=>exact .ref rfl ⟨⟨_,hv,rfl⟩,⟨_,aG⟩⟩ λ_ h=>h
  | imp aT bw bh bR=>exact .imp (λ_ h=>h) bw bh bR
  | hS aT=>exact .hS λ_ h=>h
  | aF aT k2 bw aL ao h1 ab aw=>exact .aF (λ_ h=>h) k2 bw aL ao h1 ab aw
  | bk aT bw aL h1 ab aw=>exact .bk (λ_ h=>h) bw aL h1 ab aw
  | own bh ao h1 aw aU aK aT =>
   have GI:=R.own (I:=I) (ρ:=ew w T g) bh ao h1 aw aU aK aT;obtain ⟨a,cap,rfl,aP,_⟩:=GI.mS;exact .ref rfl ⟨⟨a,_,cap,hv,rfl,Nat.le_refl _⟩,.inl ⟨_,_,aG,Nat.le_refl _⟩⟩ λ_ h=>h
  | @obj cs b e arr cz _ bh ao h1 aw aU aK aT =>
   cases cs with
   | nil=>exact .dead λ_ h=>h
   | cons c cs=>exact .ref rfl ⟨⟨_,_,hv,rfl,rfl⟩,⟨_,aG,0,0,_,.inr rfl,by simp⟩⟩ λ_ h=>h
  | agg=>exact .dead λ_ h=>h
  | cC=>exact .dead λ_ h=>h
  | et aT h1 al j0 iG=>exact .et (λ_ h=>h) h1 al j0 iG
 | succ d aS =>
  intro p x v F aG hv bl;cases bl with
  | lit ao aT=>exact .lit ao λ_ h=>h
  | aN aT=>exact .aN λ_ h=>h
  | dead aT=>exact .dead λ_ h=>h
  | ref J aw aT=>cases x <;> simp [ag.isRef] at J <;> exact .ref rfl aw λ_ h=>h
  | mp=>exact .ref rfl ⟨⟨_,hv,rfl⟩,⟨_,aG⟩⟩ λ_ h=>h
  | imp aT bw bh bR=>exact .imp (λ_ h=>h) bw bh bR
  | hS aT=>exact .hS λ_ h=>h
  | aF aT k2 bw aL ao h1 ab aw=>exact .aF (λ_ h=>h) k2 bw aL ao h1 ab aw
  | bk aT bw aL h1 ab aw=>exact .bk (λ_ h=>h) bw aL h1 ab aw
  | own bh ao h1 aw aU aK aT =>
   have GI:=R.own (I:=I) (ρ:=ew w T g) bh ao h1 aw aU aK aT;obtain ⟨a,cap,rfl,aP,_⟩:=GI.mS;exact .ref rfl ⟨⟨a,_,cap,hv,rfl,Nat.le_refl _⟩,.inl ⟨_,_,aG,Nat.le_refl _⟩⟩ λ_ h=>h
  | @obj cs b e arr cz _ bh ao h1 aw aU aK aT =>
   cases cs with
   | nil=>exact .dead λ_ h=>h
   | cons c cs=>exact .ref rfl ⟨⟨_,_,hv,rfl,rfl⟩,⟨_,aG,0,0,_,.inr rfl,by simp⟩⟩ λ_ h=>h
  | @agg cs vs cz _ ao h1 aw aU aT =>
   refine .agg (Fs:=λ_=>cW) (by simpa using ao) h1 ?_ (λ_ _ _ _ _ h=>h.elim) (λc=>⟨λh=>h.elim,λ⟨_,_,h⟩=>h⟩);intro k y u az hu;rw [List.getElem?_mapIdx] at az;cases hk:cs[k]? with
   | none=>rw [hk] at az; cases az
   | some z =>
    rw [hk] at az;cases az;exact aS (by rw [sA,aG]; exact hk) (by rw [w7,hv]; exact hu) (aw k z u hk hu)
  | @cC cs vs cz _ ao aw aU aT =>
   refine .cC (Fs:=λ_=>cW) (by simpa using ao) ?_ (λ_ _ _ _ _ h=>h.elim) (λc=>⟨λh=>h.elim,λ⟨_,_,h⟩=>h⟩);intro k y u az hu;rw [List.getElem?_mapIdx] at az;cases hk:cs[k]? with
   | none=>rw [hk] at az; cases az
   | some z =>
    rw [hk] at az;cases az;exact aS (by rw [sA,aG]; exact hk) (by rw [w7,hv]; exact hu) (aw k z u hk hu)
  | et aT h1 al j0 iG=>exact .et (λ_ h=>h) h1 al j0 iG
theorem AX {ρ:ag->Value->Prop}(v:Value):R w I ρ (n' v) v cW:=by
 unfold n';split
 ·exact .aN λ_ h=>h
 ·exact .dead λ_ h=>h
 ·exact .dead λ_ h=>h
 ·rename_i h1 al aQ;refine .lit ?_ λ_ h=>h;cases v <;> first | rfl | (exact absurd rfl (al _)) | (exact absurd rfl (aQ _))
theorem Ut {ρ:ag->Value->Prop}(v:Value):R w I ρ (ofConst v) v cW:=by
 unfold ofConst;split
 ·rename_i vs;split
  ·rename_i gV;refine .agg (Fs:=λ_=>cW) (by simp) (λk u hu=>?_) ?_ (λ_ _ _ _ _ h=>h.elim) (λc=>⟨λh=>h.elim,λ⟨_,_,h⟩=>h⟩)
   ·exact Array.all_eq_true_iff_forall_mem.1 gV u (Array.mem_of_getElem? hu)
   ·intro k x u J hu;simp only [List.getElem?_map,Array.getElem?_toList,hu,Option.map_some,Option.some.injEq] at J;subst J;exact AX u
  ·exact .dead λ_ h=>h
 ·exact .dead λ_ h=>h
 ·exact AX v
theorem k9 (h:c7 w I T g Fs) {x:Operand}{y:ag}(az:bT g x=some y) {a:Act}(bf:a.tmps=T):R w I (ew w T g) y (a.eval x) cW:=by
 cases x with
 | tmp t =>
  simp only [bT] at az;cases J:g t with
  | none=>rw [J] at az; cases az
  | some z =>
   rw [J] at az;simp only [Option.map_some,Option.some.injEq] at az;obtain ⟨v,hv,bl⟩:=h.rel t z J;have qc:a.eval (.tmp t)=v:=by simp [Act.eval,bf,hv]
   rw [qc];have aG:b' g ⟨t,[]⟩=some z:=by simp [b',J,ag.at]
   have L7:eB w T ⟨t,[]⟩=some v:=by simp [eB,hv,walk]
   subst az;cases bl with
   | tree bl =>
    cases z with
    | b8=>exact bl.k7.elim
    | _=>exact DW 2 aG L7 bl
   | @b8 jF n m p new v bv e c5 us news _ bl =>
    simp only [rn];have:∃ a cap,v=.slice a (n+m) cap:=by
     obtain ⟨_,al⟩:=bl.mG;rcases al with ⟨al,aQ⟩ | ⟨b,cap,cur,al,_⟩
     ·exact ⟨none,0,by rw [al]; congr 1; omega⟩
     ·exact ⟨_,cap,al⟩
    obtain ⟨cF,cap,rfl⟩:=this;exact .ref rfl ⟨⟨cF,_,cap,L7,rfl,Nat.le_refl _⟩,.inr ⟨rfl,p,n,m,new,J,rfl⟩⟩ λ_ h=>h
 | const v=>simp only [bT,Option.some.injEq] at az; subst az; exact Ut v
 | global n=>simp [bT] at az
 | func f =>
  simp only [bT,Option.some.injEq] at az;subst az;exact .et (λ_ h=>h) rfl rfl (by simp) (by simp)
end
end Go.Own
namespace Go.Own
open Go
def hI (P:Program) (t:TypeId):Bool :=
 match P.underlying t,P.info? t with
 | some (.struct _),_=>false
 | some (.array ..),_=>false
 | some _,some i=>i.size == 1
 | _,_=>false
def iP (P:Program) (t:TypeId) (k:Nat):Bool :=
 match P.underlying t,P.info? t with
 | some (.struct _),some i=>i.size == k
 | some (.array ..),some i=>i.size == k
 | _,_=>false
def ft (P:Program) (t e:TypeId) (z:Nat):Bool :=
 match P.underlying t,P.info? e with
 | some (.slice cU),some i=>cU == e&&i.size == z
 | _,_=>false
def B' (P:Program) (t e:TypeId) (n z:Nat):Bool :=
 match P.underlying t,P.info? e with
 | some (.array cY cU),some i=>cY == n&&cU == e&&i.size == z
 | _,_=>false
def qz (P:Program) (t:TypeId):Bool :=
 match P.underlying t with
 | some .string=>true
 | _=>false
def vj (P:Program) (s d:TypeId):Bool :=
 match P.underlying s,P.underlying d with
 | some (.slice e),some .string=>match P.underlying e with
  | some (.int .u8)=>true
  | _=>false
 | _,_=>false
def dy (P:Program) (s:TypeId) (f off:Nat) (t:TypeId):Bool :=
 match P.underlying s with
 | some (.struct fs) =>
  match fs[f]? with
  | some fd=>fd.offset == off&&fd.type == t&&(match P.info? t with | some i=>i.size != 0 | none=>false)
  | none=>false
 | _=>false
section
variable {P:Program}{w:World}
theorem E2 {t:TypeId}(h:hI P t=true):(isAgg t).run P w=.ok false w/\(sizeOf t).run P w=.ok 1 w:=by
 unfold hI at h;cases hu:P.underlying t with
 | none=>simp [hu] at h
 | some d =>
  cases hi:P.info? t with
  | none=>cases d <;> simp [hu,hi] at h
  | some i=>cases d <;> simp [hu,hi] at h <;> simp [isAgg,run_underlying hu,sizeOf,typeInfo,hi,h]
theorem B8 {t:TypeId}{k:Nat}(h:iP P t k=true):(isAgg t).run P w=.ok true w/\(sizeOf t).run P w=.ok k w:=by
 unfold iP at h;cases hu:P.underlying t with
 | none=>simp [hu] at h
 | some d =>
  cases hi:P.info? t with
  | none=>cases d <;> simp [hu,hi] at h
  | some i=>cases d <;> simp [hu,hi] at h <;> simp [isAgg,run_underlying hu,sizeOf,typeInfo,hi,h]
theorem pQ {t e:TypeId}{z:Nat}(h:ft P t e z=true):P.underlying t=some (.slice e)/\P.elem t=e/\(sizeOf e).run P w=.ok z w:=by
 unfold ft at h;cases hu:P.underlying t with
 | none=>simp [hu] at h
 | some d =>
  cases hi:P.info? e with
  | none=>cases d <;> simp [hu,hi] at h
  | some i =>
   cases d <;> simp [hu,hi] at h;obtain ⟨rfl,h⟩:=h;exact ⟨rfl,by simp [Program.elem,hu],by simp [sizeOf,typeInfo,hi,h]⟩
theorem Jw {t e:TypeId}{n z:Nat}(h:B' P t e n z=true):P.underlying t=some (.array n e)/\(sizeOf e).run P w=.ok z w:=by
 unfold B' at h;cases hu:P.underlying t with
 | none=>simp [hu] at h
 | some d =>
  cases hi:P.info? e with
  | none=>cases d <;> simp [hu,hi] at h
  | some i =>
   cases d <;> simp [hu,hi] at h;obtain ⟨⟨rfl,rfl⟩,h⟩:=h;exact ⟨rfl,by simp [sizeOf,typeInfo,hi,h]⟩
theorem JL {s d:TypeId}(h:vj P s d=true):∃ e,P.underlying s=some (.slice e)/\P.underlying e=some (.int .u8)/\P.underlying d=some .string:=by
 unfold vj at h
 split at h
 ·rename_i e h1 al
  split at h
  ·rename_i aQ;exact ⟨e,h1,aQ,al⟩
  ·cases h
 ·cases h
theorem Iu {t:TypeId}(h:qz P t=true):P.underlying t=some .string:=by
 unfold qz at h;cases hu:P.underlying t with
 | none=>simp [hu] at h
 | some d=>cases d <;> simp [hu] at h; rfl
theorem Fv {s:TypeId}{f off:Nat}{t:TypeId}(h:dy P s f off t=true):∃ fs fd,P.underlying s=some (.struct fs)/\fs[f]?=some fd/\fd.offset=off/\fd.type=t/\∃ i,P.info? t=some i/\i.size≠0:=by
 unfold dy at h;cases hu:P.underlying s with
 | none=>simp [hu] at h
 | some d =>
  cases d <;> simp [hu] at h;rename_i fs;cases bn:fs[f]? with
  | none=>simp [bn] at h
  | some fd =>
   simp [bn] at h;obtain ⟨⟨h1,al⟩,aQ⟩:=h;cases hi:P.info? t with
   | none=>simp [hi] at aQ
   | some i=>simp [hi] at aQ; exact ⟨fs,fd,rfl,bn,h1,al,i,rfl,aQ⟩
theorem add_eq (b o k:Nat):(⟨b,o,none⟩:Addr).add k=⟨b,o+k,none⟩:=by
 unfold Addr.add;split
 ·rename_i h; subst h; rfl
 ·rfl
theorem Nl {s:TypeId}{f off:Nat}{t:TypeId}(h:dy P s f off t=true) (b o:Nat):(Instr.fieldAt s (.pointer (some ⟨b,o,none⟩)) f).run P w=.ok (.pointer (some ⟨b,o+off,none⟩)) w:=by
 obtain ⟨fs,fd,hu,bn,rfl,rfl,i,hi,bd⟩:=Fv h;simp [Instr.fieldAt,run_underlying hu,bn,Instr.sureAddr,fieldPlace,sizeOf,typeInfo,hi,bd,add_eq]
theorem Np {t:TypeId}(h:hI P t=true) {a:Addr}{v:Value}(ab:w.cell? a=some v):(Instr.loadAt t (.pointer (some a))).run P w=.ok v w:=by
 obtain ⟨h1,al⟩:=E2 (w:=w) h;simp [Instr.loadAt,Instr.sureAddr,loadVar,h1,ab]
theorem Nn {t:TypeId}{k:Nat}(h:iP P t k=true) {b o:Nat}{vs:List Value}(ao:vs.length=k) (ab:∀ ae v,vs[ae]?=some v->w.cell? ⟨b,o+ae,none⟩=some v) :
  (Instr.loadAt t (.pointer (some ⟨b,o,none⟩))).run P w=.ok (.agg vs.toArray) w:=by
 obtain ⟨h1,al⟩:=B8 (w:=w) h;have:=run_loadCells_list (P:=P) w ⟨b,o,none⟩ vs (λae v aa=>by rw [add_eq]; exact ab ae v aa);rw [ao] at this;simp [Instr.loadAt,Instr.sureAddr,loadVar,h1,al,this]
end
end Go.Own
namespace Go.Own
open Go
section
variable {w:World}{I:bz}{ρ:ag->Value->Prop}{v:Value}{F:bz}
theorem R.il {a:Value}(h:R w I ρ (.lit a) v F):v=a/\a.oneCell'=true:=by
 cases h with
 | lit hv=>exact ⟨rfl,hv⟩
 | ref J=>simp [ag.isRef] at J
theorem R.rf (h:R w I ρ .aN v F):v=.slice none 0 0:=by
 cases h with
 | aN=>rfl
 | ref J=>simp [ag.isRef] at J
theorem R.ni {p:Place}{k:Nat}(h:R w I ρ (.ptr p k) v F):ρ (.ptr p k) v:=by
 cases h with
 | ref J h=>exact h
theorem R.mN {z:Nat}{p:Place}{n:Nat}(h:R w I ρ (.bo z p n) v F):ρ (.bo z p n) v:=by
 cases h with
 | ref J h=>exact h
theorem R.wb {z:Nat}{p:Place}{lo n:Nat}(h:R w I ρ (.sub z p lo n) v F):ρ (.sub z p lo n) v:=by
 cases h with
 | ref J h=>exact h
theorem R.yf {z n:Nat}{cs:List ag}(h:R w I ρ (.aF z n cs) v F):∃ a cap,v=.slice a n cap/\n<=cap/\cs.length=n * z /\
  (cs≠[]\/0<n->∃ (ad:Addr) (us:Nat->Value),a=some ad/\I ad.block/\ad.spot=none/\(∀ (k:Nat) (x:ag),cs[k]?=some x->(us k).oneCell'=true)/\(∀ (k:Nat) (x:ag),cs[k]?=some x->w.cell? ⟨ad.block,ad.off+k,none⟩=some (us k))/\∀ (k:Nat) (x:ag),cs[k]?=some x->R w I ρ x (us k) cW):=by
 cases h with
 | @hS _ cap a=>exact ⟨a,cap,rfl,Nat.zero_le _,by simp,λh=>by simp at h⟩
 | @aF _ _ cap _ ad us _ aT k2 bw aL ao h1 ab aw=>exact ⟨_,cap,rfl,k2,ao,λ_=>⟨ad,us,rfl,bw,aL,h1,ab,aw⟩⟩
 | ref J=>simp [ag.isRef] at J
theorem R.wa {cs:List ag}(h:R w I ρ (.bk cs) v F):∃ (ad:Addr) (us:Nat->Value),v=.pointer (some ad)/\I ad.block/\ad.spot=none/\(∀ (k:Nat) (x:ag),cs[k]?=some x->(us k).oneCell'=true)/\(∀ (k:Nat) (x:ag),cs[k]?=some x->w.cell? ⟨ad.block,ad.off+k,none⟩=some (us k))/\∀ (k:Nat) (x:ag),cs[k]?=some x->R w I ρ x (us k) cW:=by
 cases h with
 | @bk _ ad us _ aT bw aL h1 ab aw=>exact ⟨ad,us,rfl,bw,aL,h1,ab,aw⟩
 | ref J=>simp [ag.isRef] at J
theorem R.AD {cs:List ag}(h:R w I ρ (.agg cs) v F) (aT:∀ c,¬ F c):∃ vs:Array Value,v=.agg vs/\cs.length=vs.size/\(∀ (k:Nat) (u:Value),vs[k]?=some u->u.oneCell'=true)/\∀ (k:Nat) (x:ag) (u:Value),cs[k]?=some x->vs[k]?=some u->R w I ρ x u cW:=by
 cases h with
 | @agg _ vs Fs _ ao h1 aw aU oC=>exact ⟨vs,rfl,ao,h1,λk x u J hu=>(aw k x u J hu).empty λc ab=>aT c ((oC c).2 ⟨k,(List.getElem?_eq_some_iff.1 J).1,ab⟩)⟩
 | ref J=>simp [ag.isRef] at J
theorem R.T4 {cs:List ag}(h:R w I ρ (.cC cs) v F) (aT:∀ c,¬ F c):∃ vs:Array Value,v=.tuple vs/\cs.length=vs.size/\∀ (k:Nat) (x:ag) (u:Value),cs[k]?=some x->vs[k]?=some u->R w I ρ x u cW:=by
 cases h with
 | @cC _ vs Fs _ ao aw aU oC=>exact ⟨vs,rfl,ao,λk x u J hu=>(aw k x u J hu).empty λc ab=>aT c ((oC c).2 ⟨k,(List.getElem?_eq_some_iff.1 J).1,ab⟩)⟩
 | ref J=>simp [ag.isRef] at J
theorem R.node {y:ag}{z n:Nat}{cs:List ag}(h:R w I ρ y v F) (az:y=.own z n cs\/y=.obj cs) {k:Nat}{x:ag}(hk:cs[k]?=some x) :
  ∃ b u,addrOf v=some ⟨b,0,none⟩/\w.cell? ⟨b,k,none⟩=some u/\child w v k=some u/\u.oneCell'=true/\∃ b3,R w I ρ x u b3:=by
 rcases az with rfl | rfl
 ·cases h with
  | @own _ _ _ _ e us Fs _ bh ao h1 aw aU aK aT =>
   have a_:k<cs.length:=(List.getElem?_eq_some_iff.1 hk).1;have hu:us[k]?=some us[k]:=List.getElem?_eq_getElem (ao ▸ a_);have l7:=oa bh hu;obtain ⟨mJ,al⟩:=bh;rcases al with ⟨rfl,rfl⟩ | ⟨b,cap,cur,rfl,ba,ca,rest⟩
   ·simp at mJ; rw [mJ] at ao; simp at ao; subst ao; simp at a_
   ·exact ⟨b,_,rfl,by simpa [child] using l7,l7,h1 k _ hu,Fs k,aw k x _ hk hu⟩
  | ref J=>simp [ag.isRef] at J
 ·cases h with
  | @obj _ b e arr Fs _ bh ao h1 aw aU aK aT =>
   have a_:k<cs.length:=(List.getElem?_eq_some_iff.1 hk).1;have hu:arr[k]?=some arr[k]:=Array.getElem?_eq_getElem (ao ▸ a_);exact ⟨b,_,rfl,by simp [World.cell?,bh,hu],by simp [child,World.cell?,bh,hu],h1 k _ hu,Fs k,aw k x _ hk hu⟩
  | ref J=>simp [ag.isRef] at J
end
def oY (g:aW) (d:Nat):Option Operand->Nat->Prop
 | none,ae=>ae=d
 | some o,ae=>∃ k,bT g o=some (.lit (.int k (ae:Int)))
inductive dp (P:Program) (g:aW):Op->TypeId->ag->Prop
 | move {x:Operand}{ty:TypeId}{y:ag}(J:bT g x=some y):dp P g (.move x) ty y
 | assign {x:Operand}{ty:TypeId}{y:ag}(J:bT g x=some y):dp P g (.assign x) ty y
 | pick {c a b:Operand}{ty:TypeId}{t:Bool}{r:ag}(ab:bT g c=some (.lit (.bool t))) (aw:bT g (if t then a else b)=some r):dp P g (.pick c a b) ty r
 | DE {x:Operand}{ty:TypeId}{p:Place}{k:Nat}(J:bT g x=some (.ptr p k)):dp P g (.nilCheck x) ty (.ptr p k)
 | pI {x:Operand}{ty:TypeId}{cs:List ag}(J:bT g x=some (.bk cs)):dp P g (.nilCheck x) ty (.bk cs)
 | zO {x:Operand}{ty s t:TypeId}{f off:Nat}{p:Place}{k:Nat}(J:bT g x=some (.ptr p k)) (bn:dy P s f off t=true) (eo:hn g (.ptr p (k+off))):dp P g (.fieldAddr s x f) ty (.ptr p (k+off))
 | CL {x:Operand}{ty s t:TypeId}{f off:Nat}{cs:List ag}(J:bT g x=some (.bk cs)) (bn:dy P s f off t=true):dp P g (.fieldAddr s x f) ty (.bk (cs.drop off))
 | CK {x:Operand}{ty s t:TypeId}{f off:Nat}{cs:List ag}{y:ag}(J:bT g x=some (.agg cs)) (bn:dy P s f off t=true) (aJ:hI P t=true) (az:cs[off]?=some y):dp P g (.field s x f) ty y
 | Fu {x:Operand}{ty s t:TypeId}{f off k:Nat}{cs:List ag}(J:bT g x=some (.agg cs)) (bn:dy P s f off t=true) (aJ:iP P t k=true) (hk:off+k<=cs.length):dp P g (.field s x f) ty (.agg ((cs.drop off).take k))
 | Dp {x i:Operand}{ty t e:TypeId}{z n:Nat}{cs:List ag}{nk:IntKind}{ae:Nat}(J:bT g x=some (.aF z n cs)) (hi:bT g i=some (.lit (.int nk (ae:Int)))) (aJ:ft P t e z=true) (aa:ae<n):dp P g (.indexAddr t x i) ty (.bk (cs.drop (ae * z)))
 | Dn {x i:Operand}{ty t e:TypeId}{z n:Nat}{p:Place}{nk:IntKind}{ae:Nat}(J:bT g x=some (.bo z p n)) (hi:bT g i=some (.lit (.int nk (ae:Int)))) (aJ:ft P t e z=true) (aa:ae<n) (eo:hn g (.ptr p (ae * z))):dp P g (.indexAddr t x i) ty (.ptr p (ae * z))
 | Hh {x i:Operand}{ty t e:TypeId}{z lo n:Nat}{p:Place}{nk:IntKind}{ae:Nat}(J:bT g x=some (.sub z p lo n)) (hi:bT g i=some (.lit (.int nk (ae:Int)))) (aJ:ft P t e z=true) (aa:ae<n) (eo:hn g (.ptr p ((lo+ae) * z))):dp P g (.indexAddr t x i) ty (.ptr p ((lo+ae) * z))
 | Hg {x i:Operand}{ty t e:TypeId}{n z k:Nat}{p:Place}{nk:IntKind}{ae:Nat}(J:bT g x=some (.ptr p k)) (hi:bT g i=some (.lit (.int nk (ae:Int)))) (aJ:B' P t e n z=true) (aa:ae<n) (eo:hn g (.ptr p (k+ae * z))):dp P g (.indexAddr t x i) ty (.ptr p (k+ae * z))
 | Hf {x i:Operand}{ty t e:TypeId}{n z:Nat}{cs:List ag}{nk:IntKind}{ae:Nat}(J:bT g x=some (.bk cs)) (hi:bT g i=some (.lit (.int nk (ae:Int)))) (aJ:B' P t e n z=true) (aa:ae<n):dp P g (.indexAddr t x i) ty (.bk (cs.drop (ae * z)))
 | DA {x:Operand}{ty t:TypeId}{c:ag}{cs:List ag}(J:bT g x=some (.bk (c::cs))) (aJ:hI P t=true):dp P g (.load t x) ty c
 | DB {x:Operand}{ty t:TypeId}{k:Nat}{cs:List ag}(J:bT g x=some (.bk cs)) (aJ:iP P t k=true) (hk:k<=cs.length):dp P g (.load t x) ty (.agg (cs.take k))
 | AN {x:Operand}{ty t:TypeId}{p:Place}{k:Nat}{y:ag}(J:bT g x=some (.ptr p k)) (aJ:hI P t=true) (az:b' g (p.push k)=some y):dp P g (.load t x) ty (im 0 (p.push k) y)
 | yj {x:Operand}{ty t:TypeId}{p:Place}{k m z n:Nat}{y:ag}{cs:List ag}(J:bT g x=some (.ptr p k)) (aJ:iP P t m=true) (az:b' g p=some y) (ab:y=.own z n cs\/y=.obj cs) (hm:k+m<=cs.length):dp P g (.load t x) ty (.agg (((cs.drop k).take m).mapIdx λi x=>im 0 (p.push (k+i)) x))
 | Dq {x i:Operand}{ty t:TypeId}{s:ByteArray}{nk:IntKind}{ae:Nat}{b:UInt8}(J:bT g x=some (.lit (.string s))) (hi:bT g i=some (.lit (.int nk (ae:Int)))) (aJ:qz P t=true) (aK:s[ae]?=some b):dp P g (.index t x i) ty (.lit (.int .u8 b.toNat))
 | bin {op:BinOp}{x y:Operand}{ty t t2:TypeId}{a b v:Value}(J:bT g x=some (.lit a)) (az:bT g y=some (.lit b)) (hv:v.oneCell'=true) (aw:∀ w,(do eqGuard op t x y a b; binOp op t a b:Sem Value).run P w=.ok v w):dp P g (.binOp op t x y t2) ty (.lit v)
 | zg {op:BinOp}{x y:Operand}{ty t t2:TypeId}{dz dM:List Value}{v:Value}(J:bT g x=some (.agg (dz.map .lit))) (az:bT g y=some (.agg (dM.map .lit))) (hv:v.oneCell'=true) (aw:∀ w,(do eqGuard op t x y (.agg dz.toArray) (.agg dM.toArray); binOp op t (.agg dz.toArray) (.agg dM.toArray):Sem Value).run P w=.ok v w):dp P g (.binOp op t x y t2) ty (.lit v)
 | un {op:UnOp}{x:Operand}{ty t:TypeId}{a v:Value}(J:bT g x=some (.lit a)) (hv:v.oneCell'=true) (aw:∀ w,(Op.unary op a).run P w=.ok v w):dp P g (.unOp op t x) ty (.lit v)
 | conv {x:Operand}{ty s d:TypeId}{a v:Value}(J:bT g x=some (.lit a)) (hv:v.oneCell'=true) (aw:∀ w,(convert s d a).run P w=.ok v w):dp P g (.convert s d x) ty (.lit v)
 | Ct {x:Operand}{ty s d:TypeId}{n N:Nat}{p:Place}{cs:List ag}{xs:List Int}(J:bT g x=some (.bo 1 p n)) (aG:b' g p=some (.own 1 N cs)) (aP:n<=N) (hs:cs.take n=xs.map λb=>.lit (.int .u8 b)) (aJ:vj P s d=true):dp P g (.convert s d x) ty (.lit (.string (strOfNums xs)))
 | Cu {x:Operand}{ty s d:TypeId}{n:Nat}{xs:List Int}(J:bT g x=some (.aF 1 n (xs.map λb=>.lit (.int .u8 b)))) (aJ:vj P s d=true):dp P g (.convert s d x) ty (.lit (.string (strOfNums xs)))
 | Fk {xs:Array Operand}{iC:Array TypeId}{ty:TypeId}{f:FuncId}{vs:List Value}{v:Value}(J:xs.toList.map (bT g)=vs.map λv=>some (.lit v)) (hv:v.oneCell'=true)
   (aw:∀ w,(callFunc f vs.toArray).run P w=.ok (.value v) w):dp P g (.call { callee:=.value (.func f),args:=xs,argTypes:=iC }) ty (.lit v)
 | CA {x:Operand}{ty:TypeId}{i:Nat}{cs:List ag}{y:ag}(J:bT g x=some (.cC cs)) (az:cs[i]?=some y):dp P g (.extract x i) ty y
 | Bz {x:Operand}{lo hi:Option Operand}{ty t e:TypeId}{z n l h:Nat}{cs:List ag}(J:bT g x=some (.aF z n cs)) (ao:oY g 0 lo l) (ca:oY g n hi h) (aJ:ft P t e z=true) (r3:l<=h) (aP:h<=n):dp P g (.slice t x lo hi none) ty (.aF z (h - l) ((cs.drop (l * z)).take ((h - l) * z)))
 | D7 {x:Operand}{lo hi:Option Operand}{ty t e:TypeId}{z n h:Nat}{p:Place}(J:bT g x=some (.bo z p n)) (ao:oY g 0 lo 0) (ca:oY g n hi h) (aJ:ft P t e z=true) (aP:h<=n) (eo:hn g (.bo z p h)):dp P g (.slice t x lo hi none) ty (.bo z p h)
 | D6 {x:Operand}{lo hi:Option Operand}{ty t e:TypeId}{z n l h:Nat}{p:Place}(J:bT g x=some (.bo z p n)) (ao:oY g 0 lo l) (ca:oY g n hi h) (aJ:ft P t e z=true) (r3:l<=h) (aP:h<=n) (eo:hn g (.sub z p l (h - l))):dp P g (.slice t x lo hi none) ty (.sub z p l (h - l))
 | D8 {x:Operand}{lo hi:Option Operand}{ty t:TypeId}{l h:Nat}{s:ByteArray}(J:bT g x=some (.lit (.string s))) (ao:oY g 0 lo l) (ca:oY g s.size hi h) (aJ:qz P t=true) (r3:l<=h) (aP:h<=s.size):dp P g (.slice t x lo hi none) ty (.lit (.string (s.extract l h)))
 | AL {x:Operand}{ty t e:TypeId}{z cK n:Nat}{cs:List ag}(J:bT g x=some (.aF z n cs)) (aJ:ft P t e cK=true):dp P g (.call { callee:=.builtin .len,args:=#[x],argTypes:=#[t] }) ty (.lit (.int .i64 n))
 | AK {x:Operand}{ty t e:TypeId}{z cK n:Nat}{p:Place}(J:bT g x=some (.bo z p n)) (aJ:ft P t e cK=true):dp P g (.call { callee:=.builtin .len,args:=#[x],argTypes:=#[t] }) ty (.lit (.int .i64 n))
 | HA {x:Operand}{ty t e:TypeId}{z cK lo n:Nat}{p:Place}(J:bT g x=some (.sub z p lo n)) (aJ:ft P t e cK=true):dp P g (.call { callee:=.builtin .len,args:=#[x],argTypes:=#[t] }) ty (.lit (.int .i64 n))
 | Hz {x:Operand}{ty t e:TypeId}{cK:Nat}(J:bT g x=some .aN) (aJ:ft P t e cK=true):dp P g (.call { callee:=.builtin .len,args:=#[x],argTypes:=#[t] }) ty (.lit (.int .i64 0))
 | lits {b:Builtin}{xs:Array Operand}{iC:Array TypeId}{ty:TypeId}{vs:List Value}{v:Value}(J:xs.toList.map (bT g)=vs.map λv=>some (.lit v)) (hv:v.oneCell'=true)
   (aw:∀ w (cs:Array Bool),(builtin b iC ty cs vs.toArray).run P w=.ok (.value v) w):dp P g (.call { callee:=.builtin b,args:=xs,argTypes:=iC }) ty (.lit v)
 | HB {x y:Operand}{ty t:TypeId}{p:Place}{q:Array MapEntry->Nat->Prop}{ok:Bool}{Y X:ag}{pG V:Value}(J:bT g x=some (.iR p)) (aG:b' g p=some (.mp q)) (az:bT g y=some Y)
   (eK:∀ (w:World) (I:bz) (ρ:ag->Value->Prop) (v:Value),R w I ρ Y v cW->v=pG) (bl:∀ (w:World) (I:bz) (ρ:ag->Value->Prop),R w I ρ X V cW)
   (aw:∀ (w:World) (b:Nat) (es:Array MapEntry) (clock:Nat),w.heap[b]?=some (.map es clock)->q es clock->(Instr.lookup t (.map (some b)) pG ok).run P w=.ok V w):dp P g (.lookup t x y ok) ty X
 | AM {x y:Operand}{ty t:TypeId}{q:Array MapEntry->Nat->Prop}{ok:Bool}{Y X:ag}{pG V:Value}(J:bT g x=some (.imp q)) (az:bT g y=some Y)
   (eK:∀ (w:World) (I:bz) (ρ:ag->Value->Prop) (v:Value),R w I ρ Y v cW->v=pG) (bl:∀ (w:World) (I:bz) (ρ:ag->Value->Prop),R w I ρ X V cW)
   (aw:∀ (w:World) (b:Nat) (es:Array MapEntry) (clock:Nat),w.heap[b]?=some (.map es clock)->q es clock->(Instr.lookup t (.map (some b)) pG ok).run P w=.ok V w):dp P g (.lookup t x y ok) ty X
theorem R.T3 {w:World}{I:bz}{ρ:ag->Value->Prop}{p:Place}{v:Value}{F:bz}(h:R w I ρ (.iR p) v F):ρ (.iR p) v:=by
 cases h with
 | ref _ h _=>exact h
theorem R.T2 {w:World}{I:bz}{ρ:ag->Value->Prop}{q:Array MapEntry->Nat->Prop}{v:Value}{F:bz}(h:R w I ρ (.mp q) v F):∃ b es clock,v=.map (some b)/\w.heap[b]?=some (.map es clock)/\q es clock/\∀ c,F c↔c=b:=by
 cases h with
 | ref J=>simp [ag.isRef] at J
 | mp bh bR aT=>exact ⟨_,_,_,rfl,bh,bR,aT⟩
theorem R.T1 {w:World}{I:bz}{ρ:ag->Value->Prop}{q:Array MapEntry->Nat->Prop}{v:Value}{F:bz}(h:R w I ρ (.imp q) v F):∃ b es clock,v=.map (some b)/\w.heap[b]?=some (.map es clock)/\q es clock:=by
 cases h with
 | ref J=>simp [ag.isRef] at J
 | imp _ _ bh bR=>exact ⟨_,_,_,rfl,bh,bR⟩
end Go.Own
namespace Go.Own
open Go
section
variable {P:Program}{w:World}{I:bz}{T:Array Value}{g:aW}{Fs:Nat->bz}
theorem oY.sound (h:c7 w I T g Fs) {d:Nat}{x:Option Operand}{ae:Nat}(aK:oY g d x ae) {a:Act}(bf:a.tmps=T):(x.map a.eval=none/\ae=d)\/∃ k,x.map a.eval=some (.int k (ae:Int)):=by
 cases x with
 | none=>exact .inl ⟨rfl,aK⟩
 | some o =>
  obtain ⟨k,hk⟩:=aK;exact .inr ⟨k,by rw [Option.map_some,(k9 h hk bf).il.1]⟩
theorem D0 {len cap l h:Nat}{lo hi:Option Value}(ao:(lo=none/\l=0)\/∃ k,lo=some (.int k (l:Int))) (ca:(hi=none/\h=len)\/∃ k,hi=some (.int k (h:Int))) (b:Bool) (r3:l<=h) (ab:h<=cap) :
  (Instr.sliceBounds b len cap lo hi none).run P w=.ok (l,h,cap) w:=by
 rcases ao with ⟨rfl,rfl⟩ | ⟨k,rfl⟩ <;> rcases ca with ⟨rfl,rfl⟩ | ⟨lv,rfl⟩ <;> simp [Instr.sliceBounds,Instr.sliceBound,asIntOf,r3,ab]
theorem Ms (h:c7 w I T g Fs) {a:Act}(bf:a.tmps=T):∀ (xs:List Operand) (vs:List Value),xs.map (bT g)=vs.map (λv=>some (.lit v))->xs.map a.eval=vs
 | [],[],_=>rfl
 | [],_::_,h=>by simp at h
 | _::_,[],h=>by simp at h
 | x::xs,v::vs,J=>by
  simp only [List.map_cons,List.cons.injEq] at J;rw [List.map_cons,(k9 h J.1 bf).il.1,Ms h bf xs vs J.2]
theorem Jk {w:World}{I:bz}{ρ:ag->Value->Prop}{v:Value}{dz:List Value}
  (h:∃ vs:Array Value,v=.agg vs/\(dz.map ag.lit).length=vs.size/\(∀ (k:Nat) (u:Value),vs[k]?=some u->u.oneCell'=true)/\∀ (k:Nat) (x:ag) (u:Value),(dz.map ag.lit)[k]?=some x->vs[k]?=some u->R w I ρ x u cW):v=.agg dz.toArray:=by
 obtain ⟨vs,rfl,ao,-,aw⟩:=h;congr 1;apply Array.ext (by simpa using ao.symm);intro i h1 al;have aQ:i<dz.length:=by simpa using al
 have:=(aw i (.lit dz[i]) vs[i] (by simp [aQ]) (Array.getElem?_eq_getElem h1)).il.1;simpa using this
theorem dp.sound (h:c7 w I T g Fs) {a:Act}(bf:a.tmps=T) {o:Oper}{kg:ag}(aG:dp P g o.op o.type kg) :
  ∃ v,(execOp a.eval o).run P w=.ok (.value v) w/\R w I (ew w T g) kg v cW:=by
 obtain ⟨dst,op,ty,pos,after,guard⟩:=o;simp only at aG;have gp:∀ {x:Operand}{y:ag},bT g x=some y->R w I (ew w T g) y (a.eval x) cW:=λaz=>k9 h az bf;have no:∀ c,¬ cW c:=λ_ h=>h;cases aG with
 | move J=>exact ⟨_,by simp [execOp],gp J⟩
 | assign J=>exact ⟨_,by simp [execOp],gp J⟩
 | @pick c x y _ t r ab aw =>
  have uh:=(gp ab).il.1;refine ⟨_,?_,gp aw⟩;simp [execOp,uh,asBool];cases t <;> rfl
 | @DE x _ p k J =>
  have aw:=gp J;obtain ⟨⟨u,ad,h1,al,aQ⟩,bW⟩:=aw.ni;exact ⟨_,by simp [execOp,aQ],aQ ▸ aw⟩
 | @pI x _ cs J =>
  have aw:=gp J;obtain ⟨ad,us,aQ,_⟩:=aw.wa;exact ⟨_,by simp [execOp,aQ],aQ ▸ aw⟩
 | @zO x _ s t f off p k J bn eo =>
  obtain ⟨⟨u,ad,h1,al,aQ⟩,bW⟩:=(gp J).ni;refine ⟨.pointer (some ⟨ad.block,ad.off+k+off,none⟩),by simp [execOp,aQ,Nl bn],.ref rfl ⟨⟨u,ad,h1,al,by rw [Nat.add_assoc]⟩,eo⟩ no⟩
 | @CL x _ s t f off cs J bn =>
  obtain ⟨ad,us,aQ,bw,aL,gY,ab,aw⟩:=(gp J).wa;obtain ⟨b,o,sp⟩:=ad;simp only at aL;subst aL;refine ⟨.pointer (some ⟨b,o+off,none⟩),by simp [execOp,aQ,Nl bn],.bk (us:=λk=>us (off+k)) no bw rfl (λk x hk=>gY _ x (by rwa [List.getElem?_drop] at hk)) (λk x hk=>?_) λk x hk=>?_⟩
  ·rw [List.getElem?_drop] at hk; simpa [Nat.add_assoc] using ab _ x hk
  ·rw [List.getElem?_drop] at hk; exact aw _ x hk
 | @CK x _ s t f off cs y J bn aJ az =>
  obtain ⟨vs,aQ,ao,gY,aw⟩:=(gp J).AD no;obtain ⟨fs,fd,hu,Gi,rfl,rfl,i,hi,bd⟩:=Fv bn;have hk:fd.offset<cs.length:=(List.getElem?_eq_some_iff.1 az).1;have hv:vs[fd.offset]?=some vs[fd.offset]:=Array.getElem?_eq_getElem (ao ▸ hk);refine ⟨_,?_,aw _ kg _ az hv⟩;simp [execOp,aQ,Instr.field,run_underlying hu,Gi,asAgg,part,(E2 (w:=w) aJ).1,hv]
 | @Fu x _ s t f off k cs J bn aJ hk =>
  obtain ⟨vs,aQ,ao,gY,aw⟩:=(gp J).AD no;obtain ⟨fs,fd,hu,Gi,rfl,rfl,i,hi,bd⟩:=Fv bn;refine ⟨.agg (vs.extract fd.offset (fd.offset+k)),?_,.agg (Fs:=λ_=>cW) (by simp [ao]; omega) (λae u fN=>by
   rw [Array.getElem?_extract] at fN
   split at fN
   ·exact gY _ u fN
   ·cases fN) (λae y u az fN=>?_) (λ_ _ _ _ _ h=>h.elim) (λc=>⟨λh=>h.elim,λ⟨_,_,h⟩=>h⟩)⟩
  ·simp [execOp,aQ,Instr.field,run_underlying hu,Gi,asAgg,part,(B8 (w:=w) aJ).1,(B8 (w:=w) aJ).2]
  ·rw [List.getElem?_take] at az
   split at az
   ·rw [List.getElem?_drop] at az;rw [Array.getElem?_extract] at fN
    split at fN
    ·exact aw _ y u az fN
    ·cases fN
   ·cases az
 | @Dp x i _ t e z n cs nk ae J hi aJ aa =>
  obtain ⟨hu,he,bA⟩:=pQ (w:=w) aJ;obtain ⟨kU,cap,aQ,_,ao,hm⟩:=(gp J).yf;obtain ⟨ad,us,rfl,bw,aL,gY,ab,aw⟩:=hm (.inr (by omega));obtain ⟨b,o,sp⟩:=ad;simp only at aL;subst aL;have q1:=(gp hi).il.1;refine ⟨.pointer (some ⟨b,o+ae * z,none⟩),?_,.bk (us:=λk=>us (ae * z+k)) no bw rfl (λk x hk=>gY _ x (by rwa [List.getElem?_drop] at hk)) (λk x hk=>?_) λk x hk=>?_⟩
  ·simp [execOp,aQ,q1,Instr.indexAt,run_underlying hu,asIntOf,aa,bA,add_eq]
  ·rw [List.getElem?_drop] at hk; simpa [Nat.add_assoc] using ab _ x hk
  ·rw [List.getElem?_drop] at hk; exact aw _ x hk
 | @Dn x i _ t e z n p nk ae J hi aJ aa eo =>
  obtain ⟨hu,he,bA⟩:=pQ (w:=w) aJ;obtain ⟨⟨kU,N,cap,h1,al,aQ⟩,bW⟩:=(gp J).mN;have q1:=(gp hi).il.1;obtain ⟨y,az,jF,h2,cs,eO,a_⟩:=eo;obtain ⟨v,cN,hv,dZ,_⟩:=h.part az (by rcases eO with rfl | rfl <;> simp);rw [h1] at hv;cases hv;obtain ⟨b,u,fV,lF,_,_⟩:=dZ.node eO (List.getElem?_eq_getElem a_);cases kU with
  | none=>simp [addrOf] at fV
  | some ad =>
   simp only [addrOf,Option.some.injEq] at fV;subst fV;refine ⟨.pointer (some ⟨b,ae * z,none⟩),?_,.ref rfl ⟨⟨_,_,h1,rfl,by simp⟩,y,az,jF,h2,cs,eO,a_⟩ no⟩;simp [execOp,al,q1,Instr.indexAt,run_underlying hu,asIntOf,aa,bA,add_eq]
 | @Hh x i _ t e z lo n p nk ae J hi aJ aa eo =>
  obtain ⟨hu,he,bA⟩:=pQ (w:=w) aJ;obtain ⟨⟨kU,N,cap,cF,lV,h1,al,_,aQ,da⟩,bW⟩:=(gp J).wb;obtain ⟨ad,rfl,rfl⟩:=da (by omega);have q1:=(gp hi).il.1;obtain ⟨y,az,jF,h2,cs,eO,a_⟩:=eo;obtain ⟨v,cN,hv,dZ,_⟩:=h.part az (by rcases eO with rfl | rfl <;> simp);rw [h1] at hv;cases hv;obtain ⟨b,u,fV,lF,_,_⟩:=dZ.node eO (List.getElem?_eq_getElem a_);simp only [addrOf,Option.some.injEq] at fV;subst fV;refine ⟨.pointer (some ⟨b,(lo+ae) * z,none⟩),?_,.ref rfl ⟨⟨_,_,h1,rfl,by simp⟩,y,az,jF,h2,cs,eO,a_⟩ no⟩;simp [execOp,al,q1,Instr.indexAt,run_underlying hu,asIntOf,aa,bA,add_eq,Nat.add_mul]
 | @Hg x i _ t e n z k p nk ae J hi aJ aa eo =>
  obtain ⟨hu,bA⟩:=Jw (w:=w) aJ;obtain ⟨⟨u,ad,h1,al,aQ⟩,bW⟩:=(gp J).ni;have q1:=(gp hi).il.1;refine ⟨.pointer (some ⟨ad.block,ad.off+k+ae * z,none⟩),?_,.ref rfl ⟨⟨u,ad,h1,al,by rw [Nat.add_assoc]⟩,eo⟩ no⟩;simp [execOp,aQ,q1,Instr.indexAt,run_underlying hu,Instr.sureAddr,asIntOf,aa,bA,add_eq]
 | @Hf x i _ t e n z cs nk ae J hi aJ aa =>
  obtain ⟨hu,bA⟩:=Jw (w:=w) aJ;obtain ⟨ad,us,aQ,bw,aL,gY,ab,aw⟩:=(gp J).wa;obtain ⟨b,o,sp⟩:=ad;simp only at aL;subst aL;have q1:=(gp hi).il.1;refine ⟨.pointer (some ⟨b,o+ae * z,none⟩),?_,.bk (us:=λk=>us (ae * z+k)) no bw rfl (λk x hk=>gY _ x (by rwa [List.getElem?_drop] at hk)) (λk x hk=>?_) λk x hk=>?_⟩
  ·simp [execOp,aQ,q1,Instr.indexAt,run_underlying hu,Instr.sureAddr,asIntOf,aa,bA,add_eq]
  ·rw [List.getElem?_drop] at hk; simpa [Nat.add_assoc] using ab _ x hk
  ·rw [List.getElem?_drop] at hk; exact aw _ x hk
 | @DA x _ t c cs J aJ =>
  obtain ⟨ad,us,aQ,bw,aL,gY,ab,aw⟩:=(gp J).wa;obtain ⟨b,o,sp⟩:=ad;simp only at aL;subst aL;have bd:w.cell? ⟨b,o,none⟩=some (us 0):=by simpa using ab 0 kg rfl
  exact ⟨us 0,by simp [execOp,aQ,Np aJ bd],aw 0 kg rfl⟩
 | @DB x _ t k cs J aJ hk =>
  obtain ⟨ad,us,aQ,bw,aL,gY,ab,aw⟩:=(gp J).wa;obtain ⟨b,o,sp⟩:=ad;simp only at aL;subst aL;have SK:∀ ae v,((List.range k).map us)[ae]?=some v->w.cell? ⟨b,o+ae,none⟩=some v:=by
   intro ae v aa;rw [List.getElem?_map] at aa;by_cases eQ:ae<k
   ·rw [List.getElem?_range eQ] at aa;simp only [Option.map_some,Option.some.injEq] at aa;rw [<- aa];exact ab ae _ (List.getElem?_eq_getElem (by omega))
   ·rw [List.getElem?_eq_none (by simp; omega)] at aa; cases aa
  refine ⟨.agg ((List.range k).map us).toArray,by simp [execOp,aQ,Nn aJ (by simp) SK],.agg (Fs:=λ_=>cW) (by simp; omega) (λae u fN=>by
   simp only [List.getElem?_toArray,List.getElem?_map] at fN;by_cases eQ:ae<k
   ·rw [List.getElem?_range eQ] at fN;simp only [Option.map_some,Option.some.injEq] at fN;rw [<- fN];exact gY ae _ (List.getElem?_eq_getElem (by omega))
   ·rw [List.getElem?_eq_none (by simp; omega)] at fN; cases fN) (λae y u az fN=>?_) (λ_ _ _ _ _ h=>h.elim) (λc=>⟨λh=>h.elim,λ⟨_,_,h⟩=>h⟩)⟩
  rw [List.getElem?_take] at az
  split at az
  ·rename_i eQ;simp [eQ] at fN;rw [<- fN];exact aw ae y az
  ·cases az
 | @AN x _ t p k y J aJ az =>
  obtain ⟨⟨u,ad,h1,al,aQ⟩,bW⟩:=(gp J).ni;rw [sA] at az;cases aP:b' g p with
  | none=>rw [aP] at az; cases az
  | some nd =>
   rw [aP] at az;simp only [Option.bind_some] at az;obtain ⟨y',mM,jF,h2,cs,eO,a_⟩:=bW;rw [aP] at mM;cases mM;obtain ⟨v,cN,hv,dZ,dE⟩:=h.part aP (by rcases eO with rfl | rfl <;> simp);rw [h1] at hv;cases hv;have iy:cs[k]?=some y:=by rcases eO with rfl | rfl <;> simpa [ag.kids] using az
   obtain ⟨b,gG,fV,lF,l7,gY,b3,j8⟩:=dZ.node eO iy;rw [fV] at al;cases al;refine ⟨gG,by simp only [execOp,aQ]; simp [Np aJ lF],DW 0 (by rw [sA,aP]; exact az) (by rw [w7,h1]; exact l7) j8⟩
 | @yj x _ t p k m z n y cs J aJ az eO hm =>
  obtain ⟨⟨u,ad,h1,al,aQ⟩,bW⟩:=(gp J).ni;obtain ⟨v,cN,hv,dZ,dE⟩:=h.part az (by rcases eO with rfl | rfl <;> simp);rw [h1] at hv;cases hv;have uf:∃ b,ad=⟨b,0,none⟩:=by
   obtain ⟨y',mM,jF,h2,cs',Mg,a_⟩:=bW;rw [az] at mM;cases mM;have:cs'=cs:=by rcases eO with rfl | rfl <;> rcases Mg with ca | ca <;> cases ca <;> rfl
   subst this;obtain ⟨b,gG,fV,_⟩:=dZ.node Mg (List.getElem?_eq_getElem a_);rw [fV] at al;exact ⟨b,(Option.some.inj al).symm⟩
  obtain ⟨b,rfl⟩:=uf;have Gt:y.kids=cs:=by rcases eO with rfl | rfl <;> rfl
  have cell:∀ ae,ae<m->∃ gG,w.cell? ⟨b,k+ae,none⟩=some gG/\gG.oneCell'=true/\∃ ku,cs[k+ae]?=some ku/\R w I (ew w T g) (im 0 (p.push (k+ae)) ku) gG cW:=by
   intro ae aa;have gw:cs[k+ae]?=some cs[k+ae]:=List.getElem?_eq_getElem (by omega);obtain ⟨iQ,gG,fV,lF,l7,gY,b3,j8⟩:=dZ.node eO gw;rw [al] at fV;cases fV;exact ⟨gG,lF,gY,_,gw,DW 0 (by rw [sA,az]; simp [Gt]) (by rw [w7,h1]; exact l7) j8⟩
  have hex:∃ us:List Value,us.length=m/\∀ ae v,us[ae]?=some v->w.cell? ⟨b,k+ae,none⟩=some v:=by
   refine ⟨(List.range m).map λae=>(w.cell? ⟨b,k+ae,none⟩).getD undef,by simp,?_⟩;intro ae v aa;rw [List.getElem?_map] at aa;by_cases xZ:ae<m
   ·rw [List.getElem?_range xZ] at aa;simp only [Option.map_some,Option.some.injEq] at aa;obtain ⟨gG,ab,_⟩:=cell ae xZ;rw [ab] at aa;simp only [Option.getD_some] at aa;rw [ab,aa]
   ·rw [List.getElem?_eq_none (by simp; omega)] at aa; cases aa
  obtain ⟨us,q6,GR⟩:=hex;refine ⟨.agg us.toArray,by simp only [execOp,aQ]; simp [Nn aJ q6 (b:=b) (o:=k) GR],.agg (Fs:=λ_=>cW) (by simp; omega) (λae u fN=>by
   have aa:=GR ae u (by simpa using fN);have xZ:ae<m:=by rw [<- q6]; exact (List.getElem?_eq_some_iff.1 (by simpa using fN:us[ae]?=some u)).1
   obtain ⟨gG,ab,zS,_⟩:=cell ae xZ;rw [ab] at aa; cases aa; exact zS) (λae jU u nh fN=>?_) (λ_ _ _ _ _ h=>h.elim) (λc=>⟨λh=>h.elim,λ⟨_,_,h⟩=>h⟩)⟩
  rw [List.getElem?_mapIdx,List.getElem?_take] at nh
  split at nh
  ·rename_i xZ;rw [List.getElem?_drop] at nh;obtain ⟨gG,ab,_,ku,TK,bl⟩:=cell ae xZ;rw [TK] at nh;simp only [Option.map_some,Option.some.injEq] at nh;subst nh;have:=GR ae u (by simpa using fN);rw [ab] at this;cases this;exact bl
  ·cases nh
 | @Ct x _ s d n N p cs xs J aG aP hs aJ =>
  obtain ⟨e,aL,he,aU⟩:=JL aJ;obtain ⟨⟨kU,iW,cap,h1,al,aQ⟩,_⟩:=(gp J).mN;obtain ⟨v,cN,hv,dZ,dE⟩:=h.part aG (by simp);rw [h1] at hv;cases hv;have hr:(cs.take n).length=n:=by
   obtain ⟨_,_,_,ao⟩:=dZ.mS;rw [List.length_take]; omega
  have hlen:xs.length=n:=by rw [<- hr,hs,List.length_map]
  refine ⟨_,?_,.lit rfl no⟩;obtain ⟨_,_,kb,_,_,qd,r5⟩:=dZ.mS;cases kb;cases kU with
  | none =>
   have bd:n=0:=by
    rcases Nat.eq_zero_or_pos N with h | h
    ·omega
    ·exact absurd (r5 h) (by simp)
   have:xs=[]:=List.eq_nil_of_length_eq_zero (hlen.trans bd);subst this;have aw:=run_convert_bytes_nil (P:=P) (w:=w) s e aL he n cap d aU;simp [execOp,al,aw];rfl
  | some ad =>
   obtain ⟨b,o,sp⟩:=ad;obtain ⟨rfl,rfl⟩:=qd _ rfl;have aw:=run_convert_bytes_arg (P:=P) w s e aL he b 0 n cap xs hlen (λi hi=>by
    have Ab:(cs.take n)[i]?=some (.lit (.int .u8 (xs.getD i 0))):=by
     rw [hs,List.getElem?_map,List.getElem?_eq_getElem (by omega)];simp [List.getD,List.getElem?_eq_getElem (show i<xs.length by omega)]
    have Sj:cs[i]?=some (.lit (.int .u8 (xs.getD i 0))):=by
     rw [List.getElem?_take] at Ab;simpa [hi] using Ab
    obtain ⟨iQ,u,fV,lF,_,_,b3,j8⟩:=dZ.node (.inl rfl) Sj;simp only [addrOf,Option.some.injEq,Addr.mk.injEq,and_true] at fV;subst fV;rw [Nat.zero_add,lF,j8.il.1]) d aU
   simp [execOp,al,aw]
 | @Cu x _ s d n xs J aJ =>
  obtain ⟨e,aL,he,aU⟩:=JL aJ;have bl:=gp J;generalize qc:a.eval x=v at bl;refine ⟨_,?_,.lit rfl no⟩;generalize hs:(xs.map λb=>ag.lit (.int .u8 b))=cs at bl;cases bl with
  | ref J=>simp [ag.isRef] at J
  | @hS _ cap kU _ aT =>
   have:xs=[]:=by simpa using hs
   subst this;cases kU with
   | none =>
    have aw:=run_convert_bytes_nil (P:=P) (w:=w) s e aL he 0 cap d aU;simp [execOp,qc,aw];rfl
   | some ad =>
    have ao:(loadCells ad 0).run P w=.ok (([]:List Int).map (Value.int .u8)).toArray w:=by
     have:=run_loadCells_list (P:=P) w ad [] (λae v aa=>by simp at aa);simpa using this
    have aw:=run_bytesToString w ad 0 cap [] ao;have ab:=run_convert_bytes_string (P:=P) w s d e (some ad) 0 cap aL he aU;rw [aw] at ab;simp [execOp,qc,ab];rfl
  | @aF _ _ cap _ ad us _ aT k2 bw ya ao h1 ab aw =>
   obtain ⟨b,o,sp⟩:=ad;simp only at ya;subst ya;have hlen:xs.length=n:=by rw [<- List.length_map (f:=λb=>ag.lit (.int .u8 b)),hs,ao,Nat.mul_one]
   have eT:=run_convert_bytes_arg (P:=P) w s e aL he b o n cap xs hlen (λi hi=>by
    have Ab:cs[i]?=some (.lit (.int .u8 (xs.getD i 0))):=by
     rw [<- hs,List.getElem?_map,List.getElem?_eq_getElem (by omega)];simp [List.getD,List.getElem?_eq_getElem (show i<xs.length by omega)]
    have:=ab i _ Ab;simp only at this;rw [this,(aw i _ Ab).il.1]) d aU
   simp [execOp,qc,eT]
 | @Fk xs iC _ f vs v J hv aw =>
  refine ⟨v,?_,.lit hv no⟩;have yb:xs.map a.eval=vs.toArray:=by
   apply Array.toList_inj.1;apply List.ext_getElem?;intro k;have:=congrArg (·[k]?) J;simp only [List.getElem?_map] at this;rw [Array.toList_map,List.getElem?_map];cases hk:xs.toList[k]? with
   | none =>
    rw [hk] at this;cases hv:vs[k]? with
    | none=>simp
    | some v=>rw [hv] at this; cases this
   | some o =>
    rw [hk] at this;cases hv:vs[k]? with
    | none=>rw [hv] at this; cases this
    | some v =>
     rw [hv] at this;simp only [Option.map_some,Option.some.injEq] at this ⊢;rw [(gp this).il.1]
  have bn:a.eval (.func f)=.func (.func f) #[] #[]:=rfl;simp [execOp,resolve,Deferred.ofValue,invoke,bn,yb,aw]
 | @Dq x i _ t s nk ae b J hi aJ aK =>
  have s3:=(gp J).il.1;have q1:=(gp hi).il.1;refine ⟨.int .u8 b.toNat,?_,.lit rfl no⟩;simp [execOp,s3,q1,Instr.index,run_underlying (Iu aJ),asIntOf,aK]
 | @bin op x y _ t t2 cF b v J az hv aw =>
  have h1:=(gp J).il.1;have al:=(gp az).il.1;refine ⟨v,?_,.lit hv no⟩;simp only [execOp,h1,al,Sem.run_bind (x:=do eqGuard op t x y cF b; binOp op t cF b),aw,Result.andThen_ok,Sem.run_pure]
 | @zg op x y _ t t2 dz dM v J az hv aw =>
  have h1:=Jk ((gp J).AD no);have al:=Jk ((gp az).AD no);refine ⟨v,?_,.lit hv no⟩;simp only [execOp,h1,al,Sem.run_bind (x:=do eqGuard op t x y (.agg dz.toArray) (.agg dM.toArray); binOp op t (.agg dz.toArray) (.agg dM.toArray)),aw,Result.andThen_ok,Sem.run_pure]
 | @un op x _ t cF v J hv aw =>
  have h1:=(gp J).il.1;exact ⟨v,by simp [execOp,h1,aw],.lit hv no⟩
 | @conv x _ s d cF v J hv aw =>
  have h1:=(gp J).il.1;exact ⟨v,by simp [execOp,h1,aw],.lit hv no⟩
 | @CA x _ i cs y J az =>
  obtain ⟨vs,aQ,ao,aw⟩:=(gp J).T4 no;have hk:i<cs.length:=(List.getElem?_eq_some_iff.1 az).1;have hv:vs[i]?=some vs[i]:=Array.getElem?_eq_getElem (ao ▸ hk);exact ⟨_,by simp [execOp,aQ,Instr.extract,hv],aw _ kg _ az hv⟩
 | @Bz x lo hi _ t e z n l ca cs J ao uo aJ r3 aP =>
  obtain ⟨hu,he,bA⟩:=pQ (w:=w) aJ;obtain ⟨kU,cap,aQ,k2,hlen,hm⟩:=(gp J).yf;have aK:=D0 (P:=P) (w:=w) (len:=n) (cap:=cap) (ao.sound h bf) (uo.sound h bf) true r3 (by omega);have ij:(execOp a.eval { dst:=dst,op:=.slice t x lo hi none,type:=ty,pos:=pos,after:=after,guard:=guard }).run P w=.ok (.value (sliced kU l ca cap z)) w:=by
   simp [execOp,aQ,Instr.sliceAt,run_underlying hu,Instr.slice,aK,bA,sliced]
  refine ⟨_,ij,?_⟩;by_cases bd:ca - l=0
  ·rw [bd];simp only [Nat.zero_mul,List.take_zero,sliced,bd];exact .hS no
  ·obtain ⟨ad,us,rfl,bw,aL,gY,ab,aw⟩:=hm (.inr (by omega));obtain ⟨b,o,sp⟩:=ad;simp only at aL;subst aL;have hr:cap≠l:=by omega
   simp only [sliced,hr,if_false,Option.map_some,add_eq];have Ae:((cs.drop (l * z)).take ((ca - l) * z)).length=(ca - l) * z:=by
    rw [List.length_take,List.length_drop,hlen];have:(ca - l) * z+l * z<=n * z:=by rw [<- Nat.add_mul]; exact Nat.mul_le_mul_right _ (by omega)
    omega
   refine .aF (us:=λk=>us (l * z+k)) no (by omega) bw rfl Ae (λk x hk=>gY (l * z+k) x (by
    rw [List.getElem?_take] at hk
    split at hk
    ·rwa [List.getElem?_drop] at hk
    ·cases hk)) (λk x hk=>?_) λk x hk=>?_
   ·rw [List.getElem?_take] at hk
    split at hk
    ·rw [List.getElem?_drop] at hk; simpa [Nat.add_assoc] using ab _ x hk
    ·cases hk
   ·rw [List.getElem?_take] at hk
    split at hk
    ·rw [List.getElem?_drop] at hk; exact aw _ x hk
    ·cases hk
 | @D7 x lo hi _ t e z n ca p J ao uo aJ aP eo =>
  obtain ⟨hu,he,bA⟩:=pQ (w:=w) aJ;obtain ⟨⟨kU,N,cap,h1,al,aQ⟩,bW⟩:=(gp J).mN;have k2:N<=cap:=by
   rcases bW with ⟨iW,cs,da,eb⟩ | ⟨bd,q,hG,m,new,da,eb⟩
   ·obtain ⟨v,cN,hv,dZ,_⟩:=h.part da (by simp);rw [h1] at hv;obtain ⟨_,qP,Gk,hle,_⟩:=dZ.mS;rw [Gk] at hv;cases hv;exact hle
   ·obtain ⟨v,hv,dZ⟩:=h.rel _ _ da;simp only [eB,hv,bd,walk,Option.some.injEq] at h1;subst h1;obtain ⟨bv,cU,c5,us,news,dZ⟩:=dZ.uH;obtain ⟨_,mG⟩:=dZ.mG;rcases mG with ⟨ca,bd⟩ | ⟨b,c2,cur,ca,_,_,hle,_⟩
    ·cases ca; exact Nat.le_refl _
    ·cases ca; exact hle
  have aK:=D0 (P:=P) (w:=w) (len:=n) (cap:=cap) (ao.sound h bf) (uo.sound h bf) true (Nat.zero_le _) (by omega);refine ⟨.slice kU ca cap,?_,.ref rfl ⟨⟨kU,N,cap,h1,rfl,by omega⟩,eo⟩ no⟩;simp [execOp,al,Instr.sliceAt,run_underlying hu,Instr.slice,aK,bA];cases kU with
  | none=>simp
  | some ad=>simp [Addr.add]
 | @D6 x lo hi _ t e z n l ca p J ao uo aJ r3 aP eo =>
  obtain ⟨hu,he,bA⟩:=pQ (w:=w) aJ;obtain ⟨⟨kU,N,cap,h1,al,aQ⟩,bW⟩:=(gp J).mN;obtain ⟨iW,cs,da,eb⟩:=eo;obtain ⟨v,cN,hv,dZ,_⟩:=h.part da (by simp);rw [h1] at hv;obtain ⟨a2,qP,Gk,hle,hlen,qd,r5⟩:=dZ.mS;rw [Gk] at hv;cases hv;have aK:=D0 (P:=P) (w:=w) (len:=n) (cap:=cap) (ao.sound h bf) (uo.sound h bf) true r3 (by omega);refine ⟨sliced kU l ca cap z,?_,.ref rfl ⟨⟨kU,_,cap,_,_,h1,rfl,by omega,by omega,λsZ=>?_⟩,_,cs,da,eb⟩ no⟩
  ·simp [execOp,al,Instr.sliceAt,run_underlying hu,Instr.slice,aK,bA,sliced]
  ·have aL:=r5 (by omega);cases kU with
   | none=>simp at aL
   | some ad =>
    obtain ⟨bd,ko⟩:=qd ad rfl;obtain ⟨b,o,sp⟩:=ad;simp only at bd ko;subst bd ko;exact ⟨_,rfl,by rw [if_neg (by omega)]; simp [add_eq]⟩
 | @D8 x lo hi _ t l ca s J ao uo aJ r3 aP =>
  have s3:=(gp J).il.1;have aK:=D0 (P:=P) (w:=w) (len:=s.size) (cap:=s.size) (ao.sound h bf) (uo.sound h bf) false r3 aP;exact ⟨.string (s.extract l ca),by simp [execOp,s3,Instr.sliceAt,run_underlying (Iu aJ),Instr.slice,aK],.lit rfl no⟩
 | @AL x _ t e z cK n cs J aJ =>
  obtain ⟨hu,he,bA⟩:=pQ (w:=w) aJ;obtain ⟨kU,cap,aQ,_⟩:=(gp J).yf;exact ⟨_,by simp [execOp,resolve,invoke,builtin,aQ,Builtin.len_,run_underlying hu,goInt],.lit rfl no⟩
 | @AK x _ t e z cK n p J aJ =>
  obtain ⟨hu,he,bA⟩:=pQ (w:=w) aJ;obtain ⟨⟨kU,N,cap,h1,al,aQ⟩,bW⟩:=(gp J).mN;exact ⟨_,by simp [execOp,resolve,invoke,builtin,al,Builtin.len_,run_underlying hu,goInt],.lit rfl no⟩
 | @HA x _ t e z cK lo n p J aJ =>
  obtain ⟨hu,he,bA⟩:=pQ (w:=w) aJ;obtain ⟨⟨kU,N,cap,cF,lV,h1,al,_,aQ,da⟩,bW⟩:=(gp J).wb;exact ⟨_,by simp [execOp,resolve,invoke,builtin,al,Builtin.len_,run_underlying hu,goInt],.lit rfl no⟩
 | @Hz x _ t e cK J aJ =>
  obtain ⟨hu,he,bA⟩:=pQ (w:=w) aJ;have al:=(gp J).rf;exact ⟨_,by simp [execOp,resolve,invoke,builtin,al,Builtin.len_,run_underlying hu,goInt],.lit rfl no⟩
 | @lits b xs iC _ vs v J hv aw =>
  have nW:xs.map a.eval=vs.toArray:=by
   apply Array.ext';rw [Array.toList_map];exact Ms h bf xs.toList vs J
  refine ⟨v,?_,.lit hv no⟩;simp [execOp,resolve,invoke,nW,aw]
 | @HB x y _ t p q ok Y _ pG V J aG az eK bl aw =>
  obtain ⟨⟨b,aK,hv⟩,_⟩:=(gp J).T3;obtain ⟨hT,cN,jc,dZ,_⟩:=h.part aG (by simp);rw [aK] at jc;cases jc;obtain ⟨iQ,es,clock,e,bh,bR,_⟩:=dZ.T2;cases e;refine ⟨V,?_,bl _ _ _⟩;simp [execOp,hv,eK _ _ _ _ (gp az),aw w _ _ _ bh bR]
 | @AM x y _ t q ok Y _ pG V J az eK bl aw =>
  obtain ⟨b,es,clock,hv,bh,bR⟩:=(gp J).T1;refine ⟨V,?_,bl _ _ _⟩;simp [execOp,hv,eK _ _ _ _ (gp az),aw w _ _ _ bh bR]
end
end Go.Own
namespace Go.Own
open Go
structure Fr (w w':World) (U:bz):Prop where
 os:w'.os=w.os
 tape:w'.tape=w.tape
 output:w'.output=w.output
 size:w.heap.size<=w'.heap.size
 block:∀ b,b<w.heap.size->¬ U b->w'.heap[b]?=w.heap[b]?
 fM:∀ a,a.block<w.heap.size->w'.frozen? a=w.frozen? a
 xN:w.drawn<=w'.drawn
theorem Fr.refl (w:World) (U:bz):Fr w w U:=⟨rfl,rfl,rfl,Nat.le_refl _,λ_ _ _=>rfl,λ_ _=>rfl,Nat.le_refl _⟩
theorem Fr.mono {w w':World}{U B6:bz}(h:Fr w w' U) (gU:∀ b,b<w.heap.size->U b->B6 b):Fr w w' B6:=⟨h.os,h.tape,h.output,h.size,λb aK aP=>h.block b aK λhu=>aP (gU b aK hu),h.fM,h.xN⟩
theorem Fr.trans {w jD ir:World}{U xx:bz}(h:Fr w jD U) (h1:Fr jD ir xx) (gU:∀ b,b<w.heap.size->xx b->U b):Fr w ir U :=
 ⟨h1.os.trans h.os,h1.tape.trans h.tape,h1.output.trans h.output,Nat.le_trans h.size h1.size,λb aK aP=>(h1.block b (Nat.lt_of_lt_of_le aK h.size) λhu=>aP (gU b aK hu)).trans (h.block b aK aP),λa bf=>(h1.fM a (Nat.lt_of_lt_of_le bf h.size)).trans (h.fM a bf),Nat.le_trans h.xN h1.xN⟩
theorem rI (w:World) (o:Obj) (k:Nat) (h:k<w.heap.size):(w.alloc o).heap[k]?=w.heap[k]?:=by
 show (w.heap.push o)[k]?=_;rw [Array.getElem?_push,if_neg (by omega)]
theorem sy (w:World) (o:Obj):(w.alloc o).heap[w.heap.size]?=some o:=by
 show (w.heap.push o)[w.heap.size]?=_;simp
theorem Fw (w:World) (arr:Array Value) (t:TypeId) (a:Addr):(w.alloc (.cells arr t (0,0))).frozen? a=w.frozen? a:=by
 unfold World.frozen?;by_cases h:a.block=w.heap.size
 ·rw [h,sy];have:w.heap[w.heap.size]?=none:=by simp
  rw [this];simp
 ·by_cases al:a.block<w.heap.size
  ·rw [rI w _ _ al]
  ·have aQ:(w.alloc (.cells arr t (0,0))).heap[a.block]?=none:=by
    show (w.heap.push _)[a.block]?=_;rw [Array.getElem?_eq_none];simp; omega
   have bW:w.heap[a.block]?=none:=Array.getElem?_eq_none (by omega);rw [aQ,bW]
theorem Fy (w:World) (g:Nat) (cs:Array Value) (a:Addr):(w.setRow g cs).frozen? a=w.frozen? a:=by
 unfold World.frozen? World.setRow;simp only [Array.getElem?_modify];by_cases h:g=a.block
 ·subst h;rw [if_pos rfl];cases ca:w.heap[a.block]? with
  | none=>rfl
  | some o=>cases o <;> rfl
 ·rw [if_neg h]
theorem Q1 (w:World) (es:Array MapEntry) (n:Nat) (a:Addr):(w.alloc (.map es n)).frozen? a=w.frozen? a:=by
 unfold World.frozen?;by_cases h:a.block=w.heap.size
 ·rw [h,sy];have:w.heap[w.heap.size]?=none:=by simp
  rw [this]
 ·by_cases al:a.block<w.heap.size
  ·rw [rI w _ _ al]
  ·have aQ:(w.alloc (.map es n)).heap[a.block]?=none:=by
    show (w.heap.push _)[a.block]?=_;rw [Array.getElem?_eq_none];simp; omega
   have bW:w.heap[a.block]?=none:=Array.getElem?_eq_none (by omega);rw [aQ,bW]
def M5 (o:Obj):Prop:=(∃ arr e,o=.cells arr e (0,0))\/∃ es n,o=.map es n
theorem Fr.alloc (w:World) (o:Obj) (U:bz) (bh:M5 o):Fr w (w.alloc o) U:=by
 refine ⟨rfl,rfl,rfl,by simp,λb aK _=>rI w o b aK,λa _=>?_,Nat.le_refl _⟩;rcases bh with ⟨arr,e,rfl⟩ | ⟨es,n,rfl⟩
 ·exact Fw w arr e a
 ·exact Q1 w es n a
theorem R.UW {w:World}{I:bz}{ρ:ag->Value->Prop}{x:ag}{v:Value}{F:bz}(h:R w I ρ x v F):∀ c,F c->∃ o,w.heap[c]?=some o/\M5 o:=by
 induction h with
 | mp bh _ aT =>
  intro c ab;cases (aT c).1 ab;exact ⟨_,bh,.inr ⟨_,_,rfl⟩⟩
 | lit _ aT | aN aT | dead aT | ref _ _ aT | hS aT | aF aT | bk aT | et aT | imp aT=>exact λc ab=>absurd ab (aT c)
 | own bh ao h1 aw aU aK aT aS =>
  intro c ab;rcases (aT c).1 ab with h | ⟨k,hk,h⟩
  ·obtain ⟨_,ca⟩:=bh;rcases ca with ⟨rfl,_⟩ | ⟨b,cap,cur,rfl,_,fY,_⟩
   ·simp [Value.ownBlock] at h
   ·simp only [Value.ownBlock,Option.some.injEq] at h;subst h;exact ⟨_,fY,.inl ⟨_,_,rfl⟩⟩
  ·exact aS k _ _ (List.getElem?_eq_getElem hk) (List.getElem?_eq_getElem (ao ▸ hk)) c h
 | obj bh ao h1 aw aU aK aT aS =>
  intro c ab;rcases (aT c).1 ab with rfl | ⟨k,hk,h⟩
  ·exact ⟨_,bh,.inl ⟨_,_,rfl⟩⟩
  ·exact aS k _ _ (List.getElem?_eq_getElem hk) (Array.getElem?_eq_getElem (ao ▸ hk)) c h
 | agg ao h1 aw aU aT aS =>
  intro c ab;obtain ⟨k,hk,h⟩:=(aT c).1 ab;exact aS k _ _ (List.getElem?_eq_getElem hk) (Array.getElem?_eq_getElem (ao ▸ hk)) c h
 | cC ao aw aU aT aS =>
  intro c ab;obtain ⟨k,hk,h⟩:=(aT c).1 ab;exact aS k _ _ (List.getElem?_eq_getElem hk) (Array.getElem?_eq_getElem (ao ▸ hk)) c h
theorem Fr.drew {w w':World}{U:bz}(h:Fr w w' U):Fr w w'.drew U:=⟨h.os,h.tape,h.output,h.size,h.block,h.fM,Nat.le_succ_of_le h.xN⟩
section
variable {w:World}{I:bz}{T:Array Value}{g:aW}{Fs:Nat->bz}
theorem c7.j2 (h:c7 w I T g Fs):∀ t c,Fs t c->c<w.heap.size:=by
 intro t c ab;cases J:g t with
 | none=>exact absurd ab (h.kH t J c)
 | some y=>obtain ⟨u,_,dZ⟩:=h.rel t y J; exact dZ.lt c ab
theorem c7.world (h:c7 w I T g Fs) {w':World}(aT:∀ t c,Fs t c->w'.heap[c]?=w.heap[c]?) (bw:∀ c,I c->w'.heap[c]?=w.heap[c]?) (gr:w.heap.size<=w'.heap.size):c7 w' I T g Fs :=
  ⟨λt x J=>by
    obtain ⟨v,hv,bl⟩:=h.rel t x J;exact ⟨v,hv,h.vG (λ_ _=>rfl) aT bw (λ_ h=>h) (λ_ _ h=>h) bl λc ab=>aT t c ab⟩,
   h.kH,h.e_,h.aF,λc ab=>Nat.lt_of_lt_of_le (h.lt c ab) gr,h.qt⟩
theorem c7.alloc (h:c7 w I T g Fs) (o:Obj):c7 (w.alloc o) I T g Fs :=
 h.world (λt c ab=>rI w o c (h.j2 t c ab)) (λc ab=>rI w o c (h.lt c ab)) (by simp)
theorem c7.td (h:c7 w I T g Fs) {d:Nat}{x:ag}{v:Value}{F:bz}(aU:g d=none) (Sq:d<T.size)
  (bl:jK w I (ew w T g) x v F) (q3:∀ t c,F c->¬ Fs t c) (SQ:∀ c,F c->¬ I c)
  (aG:∀ z p n m new,x=.b8 z p n m new->∀ t cK cY bS di,g t≠some (.b8 cK p cY bS di)) :
  c7 w I (T.setIfInBounds d v) (e5 g d x) (tv Fs d F):=by
 have fG:∀ t,g t≠none->(T.setIfInBounds d v)[t]?=T[t]?:=by
  intro t aJ;rw [Array.getElem?_setIfInBounds_ne];rintro rfl; exact aJ aU
 refine ⟨?_,?_,?_,?_,h.lt,?_⟩
 ·intro t y az;unfold e5 at az
  split at az
  ·rename_i s4;subst s4;cases az;exact ⟨v,by simp [Sq],by simpa [tv] using h.vG fG (λ_ _ _=>rfl) (λ_ _=>rfl) (λ_ h=>h) (NZ aU) bl λ_ _=>rfl⟩
  ·rename_i s4;obtain ⟨u,hu,dZ⟩:=h.rel t y az;exact ⟨u,by rw [fG t (by rw [az]; simp)]; exact hu,by simpa [tv,s4] using h.vG fG (λ_ _ _=>rfl) (λ_ _=>rfl) (λ_ h=>h) (NZ aU) dZ λ_ _=>rfl⟩
 ·intro t aJ c;unfold e5 at aJ
  split at aJ
  ·cases aJ
  ·rename_i s4; simpa [tv,s4] using h.kH t aJ c
 ·intro t t' c ab fy;by_cases h1:t=d <;> by_cases al:t'=d <;> simp [tv,h1,al] at ab fy
  ·rw [h1,al]
  ·exact absurd fy (q3 t' c ab)
  ·exact absurd ab (q3 t c fy)
  ·exact h.e_ t t' c ab fy
 ·intro t c ab hi;by_cases h1:t=d <;> simp [tv,h1] at ab
  ·exact SQ c ab hi
  ·exact h.aF t c ab hi
 ·intro t t' z p n m new cK cY bS di h1 al;unfold e5 at h1 al
  split at h1 <;> split at al
  ·rename_i a b; rw [a,b]
  ·cases h1; exact absurd al (aG z p n m new rfl t' cK cY bS di)
  ·cases al; exact absurd h1 (aG cK p cY bS di rfl t z n m new)
  ·exact h.qt _ _ _ _ _ _ _ _ _ _ _ h1 al
end
def lU:ag->Option (List ag)
 | .agg cs=>some cs
 | .lit v=>some [.lit v]
 | .aN=>some [.aN]
 | .aF z n cs=>some [.aF z n cs]
 | .bk cs=>some [.bk cs]
 | .ptr p k=>some [.ptr p k]
 | .bo z p n=>some [.bo z p n]
 | .sub z p l n=>some [.sub z p l n]
 | .et f a b=>some [.et f a b]
 | _=>none
theorem R.lU {w:World}{I:bz}{ρ:ag->Value->Prop}{y:ag}{v:Value}{F:bz}(h:R w I ρ y v F) (aT:∀ c,¬ F c) (lu:∀ x v,x.isRef=true->ρ x v->v.oneCell'=true) {cs:List ag}(ab:lU y=some cs) :
  cs.length=v.cells.size/\(∀ (k:Nat) (u:Value),v.cells[k]?=some u->u.oneCell'=true)/\(∀ (k:Nat) (x:ag) (u:Value),cs[k]?=some x->v.cells[k]?=some u->R w I ρ x u cW):=by
 have one:∀ {y:ag},R w I ρ y v F->v.oneCell'=true->[y].length=v.cells.size/\(∀ (k:Nat) (u:Value),v.cells[k]?=some u->u.oneCell'=true)/\(∀ (k:Nat) (x:ag) (u:Value),[y][k]?=some x->v.cells[k]?=some u->R w I ρ x u cW):=by
  intro y h h1;have xX:v.cells=#[v]:=by cases v <;> first | rfl | (simp [Value.oneCell'] at h1)
  refine ⟨by simp [xX],λk u hu=>?_,λk x u J hu=>?_⟩
  ·rw [xX] at hu;cases k with
   | zero=>simp at hu; subst hu; exact h1
   | succ k=>simp at hu
  rw [xX] at hu;cases k with
  | zero=>simp at J hu; subst J hu; exact h.empty aT
  | succ k=>simp at J
 cases y <;> simp only [Go.Own.lU,Option.some.injEq,reduceCtorEq] at ab
 case agg l =>
  subst ab;obtain ⟨vs,rfl,ao,h1,aw⟩:=h.AD aT;exact ⟨ao,h1,aw⟩
 case lit a=>subst ab; exact one h (by obtain ⟨rfl,h1⟩:=h.il; exact h1)
 case aN=>subst ab; exact one h (by rw [h.rf]; rfl)
 case aF z n l=>subst ab; exact one h (by obtain ⟨a,cap,rfl,_⟩:=h.yf; rfl)
 case bk l=>subst ab; exact one h (by obtain ⟨ad,us,rfl,_⟩:=h.wa; rfl)
 case ptr p k=>subst ab; exact one h (lu _ _ rfl h.ni)
 case bo z p n=>subst ab; exact one h (lu _ _ rfl h.mN)
 case sub z p l n=>subst ab; exact one h (lu _ _ rfl h.wb)
 case et f a b =>
  subst ab;refine one h ?_;cases h with
  | et=>rfl
  | ref J=>simp [ag.isRef] at J
theorem ew.DJ {w:World}{T:Array Value}{g:aW}{x:ag}{v:Value}(J:x.isRef=true) (h:ew w T g x v):v.oneCell'=true:=by
 obtain ⟨h,_⟩:=h;cases x <;> simp [ag.isRef] at J
 case ptr p k=>obtain ⟨_,_,_,_,rfl⟩:=h; rfl
 case bo z p n=>obtain ⟨_,_,_,_,rfl,_⟩:=h; rfl
 case sub z p lo n=>obtain ⟨_,_,_,_,_,_,rfl,_⟩:=h; rfl
 case iR p=>obtain ⟨_,_,rfl⟩:=h; rfl
def o_:List ag->Option (List ag)
 | []=>some []
 | y::ys =>
  match lU y,o_ ys with
  | some a,some b=>some (a++b)
  | _,_=>none
def iH (g:aW):List Operand->Option (List ag)
 | []=>some []
 | x::xs =>
  match bT g x,iH g xs with
  | some y,some ys=>some (y::ys)
  | _,_=>none
def xS (place:Nat->Option (Nat × Nat)) (cells:List ag):List (Nat × List ag)->Option (List ag)
 | []=>some cells
 | (i,c)::rest =>
  match place i with
  | none=>none
  | some (off,size)=>if c.length=size/\off+c.length<=cells.length then xS place (cells.take off++c++cells.drop (off+c.length)) rest else none
def rl (g:aW):List (Nat × Operand)->Option (List (Nat × List ag))
 | []=>some []
 | (i,x)::xs =>
  match bT g x,rl g xs with
  | some y,some ys=>(lU y).map λc=>(i,c)::ys
  | _,_=>none
def kN (P:Program) (t:TypeId) (pl:List (Nat × Nat)):Bool :=
 match P.underlying t with
 | some (.struct fs)=>fs.toList.map (λf=>(f.offset,(P.info? f.type).map (·.size))) == pl.map λ(a,b)=>(a,some b)
 | _=>false
inductive o1 (P:Program) (g:aW):Op->TypeId->ag->Prop
 | box {e ty:TypeId}{x:Operand}{y:ag}{cs:List ag}(J:bT g x=some y) (ab:lU y=some cs):o1 P g (.box e x) ty (.obj cs)
 | alloc {e ty:TypeId}{z:Value}(bA:(P.info? e).bind (·.zero)=some z) (h1:z.cells.all Value.oneCell'=true):o1 P g (.alloc e) ty (.obj (z.cells.toList.map n'))
 | buildSlice {t e ty:TypeId}{z:Nat}{parts:Array (Nat × Operand)}{xs:List Operand}{ys:List ag}{cs:List ag}(aJ:ft P t e z=true)
   (aG:parts.toList=xs.mapIdx (λi x=>(i,x))) (J:iH g xs=some ys) (bA:∀ y∈ys,∃ c,lU y=some c/\c.length=z) (ab:o_ ys=some cs) (aK:xs.length * z<=16777216) (aP:xs.length<=16777216) (hzero:xs.length * z=0\/∃ v,(P.info? e).bind (·.zero)=some v/\v.cells.size=z) :
   o1 P g (.buildSlice t xs.length parts) ty (.own z xs.length cs)
 | makeSlice {t e ty:TypeId}{x y:Operand}{z n b:Nat}{oN pE:IntKind}{ev:Value}(aJ:ft P t e z=true) (J:bT g x=some (.lit (.int oN (n:Int)))) (az:bT g y=some (.lit (.int pE (n:Int))))
   (hzero:(P.info? e).bind (·.zero)=some ev) (h1:ev.cells.all Value.oneCell'=true) (n5:ev.cells.size=z) (aK:(P.info? e).map (·.bytes)=some b) (aP:n * b<=140737488355328) (oF:n<=4611686018427387904) {xa:List ag}(s7:xa.length=ev.cells.size)
   (Dm:∀ (k:Nat) (u:Value) (x:ag),ev.cells[k]?=some u->xa[k]?=some x->x=n' u\/(n' u=.aN/\∃ cK,x=.aF cK 0 [])) :
   o1 P g (.makeSlice t x y) ty (.own z n (List.replicate n xa).flatten)
 | makeMap {t ty:TypeId}{q:Array MapEntry->Nat->Prop}(bR:q #[] 0):o1 P g (.makeMap t none) ty (.mp q)
inductive tH (P:Program) (g:aW):Op->TypeId->ag->Prop
 | build {t ty:TypeId}{parts:Array (Nat × Operand)}{pl:List (Nat × Nat)}{ev:Value}{ps:List (Nat × List ag)}{cs:List ag}(aJ:kN P t pl=true) (bA:(P.info? t).bind (·.zero)=some ev) (h1:ev.cells.all Value.oneCell'=true)
   (aG:rl g parts.toList=some ps) (ab:xS (λi=>pl[i]?) (ev.cells.toList.map n') ps=some cs):tH P g (.build t parts) ty (.agg cs)
 | makeFunc {fn:Fn}{first caps:Array Operand}{ty:TypeId}{a b:List ag}(bf:iH g first.toList=some a) (aK:iH g caps.toList=some b):tH P g (.makeFunc fn first caps) ty (.et fn a b)
section
variable {P:Program}{w:World}{I:bz}{T:Array Value}{g:aW}{Fs:Nat->bz}
theorem yq (h:c7 w I T g Fs) {a:Act}(bf:a.tmps=T):∀ {xs:List Operand}{ys:List ag},iH g xs=some ys->ys.length=xs.length/\∀ (k:Nat) (y:ag) (x:Operand),ys[k]?=some y->xs[k]?=some x->R w I (ew w T g) y (a.eval x) cW
 | [],ys,az=>by simp only [iH,Option.some.injEq] at az; subst az; simp
 | x::xs,ys,az=>by
  simp only [iH] at az;cases J:bT g x with
  | none=>simp [J] at az
  | some y =>
   cases rb:iH g xs with
   | none=>simp [J,rb] at az
   | some BK =>
    simp only [J,rb,Option.some.injEq] at az;subst az;obtain ⟨h1,al⟩:=yq h bf rb;refine ⟨by simp [h1],λk y' x' mM gw=>?_⟩;cases k with
    | zero=>simp at mM gw; subst mM gw; exact k9 h J bf
    | succ k=>simp at mM gw; exact al k y' x' mM gw
theorem R.alloc (h:c7 w I T g Fs) (o:Obj) {x:ag}{v:Value}{F:bz}(bl:R w I (ew w T g) x v F) (aT:∀ c,F c->c<w.heap.size):R (w.alloc o) I (ew (w.alloc o) T g) x v F :=
 h.frame (λ_ _=>rfl) (λt c ab=>rI w o c (h.j2 t c ab)) (λc ab=>rI w o c (h.lt c ab)) (λ_ h=>h) (λ_ _ h=>h) bl λc ab=>rI w o c (aT c ab)
theorem MB {ρ:ag->Value->Prop}{vs:List Value}:∀ (k:Nat) (x:ag) (u:Value),(vs.map n')[k]?=some x->vs[k]?=some u->R w I ρ x u cW:=by
 intro k x u J hu;rw [List.getElem?_map,hu] at J;simp only [Option.map_some,Option.some.injEq] at J;subst J;exact AX u
theorem R.MA {ρ:ag->Value->Prop}{cs:List ag}{b:Nat}{e:TypeId}{arr:Array Value}(bh:w.heap[b]?=some (.cells arr e (0,0))) (ao:cs.length=arr.size) (h1:∀ (k:Nat) (u:Value),arr[k]?=some u->u.oneCell'=true)
  (aw:∀ (k:Nat) (x:ag) (u:Value),cs[k]?=some x->arr[k]?=some u->R w I ρ x u cW):R w I ρ (.obj cs) (.pointer (some ⟨b,0,none⟩)) (λc=>c=b) :=
 .obj (Fs:=λ_=>cW) bh ao h1 aw (λ_ _ _ _ _ h=>h.elim) (λ_ _ h=>h) (λ_=>⟨λh=>.inl h,λh=>h.elim id λ⟨_,_,h⟩=>h.elim⟩)
theorem R.MJ {ρ:ag->Value->Prop}{z n:Nat}{cs:List ag}{b cap:Nat}{e:TypeId}{arr:Array Value}(bh:w.heap[b]?=some (.cells arr e (0,0))) (aP:n<=cap) (ab:cap<=maxLen) (aL:arr.size=cap * z) (ao:cs.length=n * z) (h1:∀ (k:Nat) (u:Value),arr[k]?=some u->u.oneCell'=true)
  (aw:∀ (k:Nat) (x:ag) (u:Value),cs[k]?=some x->arr[k]?=some u->R w I ρ x u cW):R w I ρ (.own z n cs) (.slice (some ⟨b,0,none⟩) n cap) (λc=>c=b):=by
 have hle:n * z<=arr.size:=by rw [aL]; exact Nat.mul_le_mul_right _ aP
 refine .own (e:=e) (us:=arr.toList.take (n * z)) (Fs:=λ_=>cW) ⟨by simp; omega,.inr ⟨b,cap,arr,rfl,Nat.zero_le _,bh,aP,ab,aL,rfl⟩⟩ (by simp; omega) (λk u hu=>?_) ?_ (λ_ _ _ _ _ h=>h.elim) (λ_ _ _ h=>h.elim) (λc=>?_)
 ·rw [List.getElem?_take] at hu
  split at hu
  ·exact h1 k u (by simpa using hu)
  ·cases hu
 ·intro k x u J hu;rw [List.getElem?_take] at hu
  split at hu
  ·exact aw k x u J (by simpa using hu)
  ·cases hu
 ·simp only [Value.ownBlock,Option.some.injEq];exact ⟨λh=>.inl h.symm,λh=>h.elim Eq.symm λ⟨_,_,h⟩=>h.elim⟩
theorem JI {ρ:ag->Value->Prop}(lu:∀ x v,x.isRef=true->ρ x v->v.oneCell'=true):∀ {ys:List ag}{vs:List Value}{cs:List ag},ys.length=vs.length->(∀ (k:Nat) (y:ag) (v:Value),ys[k]?=some y->vs[k]?=some v->R w I ρ y v cW)->o_ ys=some cs ->
  cs.length=(vs.flatMap λv=>v.cells.toList).length/\(∀ (k:Nat) (u:Value),(vs.flatMap λv=>v.cells.toList)[k]?=some u->u.oneCell'=true)/\∀ (k:Nat) (x:ag) (u:Value),cs[k]?=some x->(vs.flatMap λv=>v.cells.toList)[k]?=some u->R w I ρ x u cW
 | [],vs,cs,ao,aw,ab=>by
  cases vs with
  | nil=>simp only [o_,Option.some.injEq] at ab; subst ab; simp
  | cons=>simp at ao
 | y::ys,vs,cs,ao,aw,ab=>by
  cases vs with
  | nil=>simp at ao
  | cons v vs =>
   simp only [o_] at ab;cases bf:lU y with
   | none=>simp [bf] at ab
   | some a =>
    cases aK:o_ ys with
    | none=>simp [bf,aK] at ab
    | some b =>
     simp only [bf,aK,Option.some.injEq] at ab;subst ab;obtain ⟨h1,zS,al⟩:=(aw 0 y v rfl rfl).lU (λ_ h=>h) lu bf;obtain ⟨aQ,Q8,bW⟩:=JI lu (by simpa using ao) (λk y' hT az hv=>aw (k+1) y' hT az hv) aK;refine ⟨by simp [h1,aQ],λk u hu=>?_,λk x u J hu=>?_⟩
     ·simp only [List.flatMap_cons] at hu;by_cases hk:k<v.cells.toList.length
      ·rw [List.getElem?_append_left hk] at hu;exact zS k u (by simpa using hu)
      ·rw [List.getElem?_append_right (by omega)] at hu;exact Q8 _ u hu
     simp only [List.flatMap_cons] at hu;by_cases hk:k<a.length
     ·rw [List.getElem?_append_left hk] at J;rw [List.getElem?_append_left (by simp; omega)] at hu;exact al k x u J (by simpa using hu)
     ·rw [List.getElem?_append_right (by omega)] at J;rw [List.getElem?_append_right (by simp; omega)] at hu;refine bW (k - a.length) x u J ?_;rw [<- hu]; simp [h1]
end
end Go.Own
namespace Go.Own
open Go
theorem KU (off:Nat):∀ (l:List Value) (s:Nat) (arr:Array Value),off+s+l.length<=arr.size ->
  ((l.zipIdx s).foldl (λcs (x:Value × Nat)=>cs.setIfInBounds (off+x.2) x.1) arr).toList=arr.toList.take (off+s)++l++arr.toList.drop (off+s+l.length)
 | [],s,arr,h=>by simp
 | v::l,s,arr,h=>by
  simp only [List.length_cons] at h;rw [List.zipIdx_cons,List.foldl_cons,KU off l (s+1) _ (by simp; omega)];simp only [Array.toList_setIfInBounds,List.length_cons];have h1:(arr.toList.set (off+s) v).take (off+(s+1))=arr.toList.take (off+s)++[v]:=by
   rw [show off+(s+1)=off+s+1 by omega,List.take_succ_eq_append_getElem (by simp; omega)];rw [List.take_set_of_le (Nat.le_refl _)];simp
  have al:(arr.toList.set (off+s) v).drop (off+(s+1)+l.length)=arr.toList.drop (off+s+(l.length+1)):=by
   rw [List.drop_set_of_lt (by omega)];congr 1; omega
  rw [h1,al];simp
theorem KS {place:Nat->Option (Nat × Nat)}{i off size:Nat}(aG:place i=some (off,size)) {arr:Array Value}{v:Value}(h1:v.cells.size=size) (al:off+v.cells.size<=arr.size) (rest:List (Nat × Value)) :
  ∃ jm:Array Value,Instr.fill place arr ((i,v)::rest)=Instr.fill place jm rest/\jm.toList=arr.toList.take off++v.cells.toList++arr.toList.drop (off+v.cells.size):=by
 refine ⟨_,by simp only [Instr.fill,aG]; rw [if_neg (by simp; omega)],?_⟩;have:=KU off v.cells.toList 0 arr (by simpa using al);rw [<- Array.foldl_toList,Array.toList_zipIdx];simpa using this
theorem KR (z:Nat):∀ (vs:List Value) (k:Nat) (arr:Array Value) (done rest:List Value),(∀ v∈vs,v.cells.size=z)->arr.toList=done++rest->done.length=k * z->rest.length=vs.length * z ->
  ∃ jm:Array Value,Instr.fill (λi=>some (i * z,z)) arr (vs.mapIdx λi v=>(k+i,v))=some jm/\jm.toList=done++vs.flatMap λv=>v.cells.toList
 | [],k,arr,done,rest,_,h1,al,aQ=>by
  have:rest=[]:=List.eq_nil_of_length_eq_zero (by simpa using aQ);subst this;exact ⟨arr,rfl,by simpa using h1⟩
 | v::vs,k,arr,done,rest,bA,h1,al,aQ=>by
  have hv:=bA v (by simp);have hlen:arr.size=done.length+rest.length:=by rw [<- Array.length_toList,h1,List.length_append]
  simp only [List.length_cons,Nat.add_mul,Nat.one_mul] at aQ;rw [List.mapIdx_cons];obtain ⟨B_,dg,c5⟩:=KS (place:=λi=>some (i * z,z)) (i:=k+0) (off:=k * z) (size:=z) (by simp) (arr:=arr) (v:=v) hv (by omega) ((vs.mapIdx λi v=>(k+(i+1),v)));have sH:B_.toList=(done++v.cells.toList)++rest.drop z:=by
   rw [c5,h1,<- al,List.take_left,hv,List.drop_append];simp
  obtain ⟨jm,jo,pa⟩:=KR z vs (k+1) B_ (done++v.cells.toList) (rest.drop z) (λu hu=>bA u (by simp [hu])) sH (by simp [al,hv,Nat.add_mul]) (by simp; omega);refine ⟨jm,?_,by rw [pa]; simp⟩;rw [dg,<- jo];congr 1;congr 1;funext i u;congr 1; omega
theorem Ey {vs:Array Value}(h:vs.all Value.oneCell'=true):∀ (k:Nat) (u:Value),vs[k]?=some u->u.oneCell'=true :=
 λ_ u hu=>Array.all_eq_true_iff_forall_mem.1 h u (Array.mem_of_getElem? hu)
theorem EL {P:Program}{e:TypeId}{z:Value}(h:(P.info? e).bind (·.zero)=some z) (w:World):(zeroValue e).run P w=.ok z w:=by
 cases hi:P.info? e with
 | none=>simp [hi] at h
 | some i=>simp [hi] at h; simp [zeroValue,typeInfo,hi,h]
theorem KY {α:Type}(l:List α):∀ (n k:Nat),k<n * l.length->(List.replicate n l).flatten[k]?=l[k % l.length]?
 | 0,k,h=>by simp at h
 | n+1,k,h=>by
  rw [List.replicate_succ,List.flatten_cons];by_cases hk:k<l.length
  ·rw [List.getElem?_append_left hk,Nat.mod_eq_of_lt hk]
  ·rw [List.getElem?_append_right (by omega),KY l n (k - l.length) (by rw [Nat.add_mul] at h; omega)];rw [<- Nat.mod_eq_sub_mod (by omega)]
section
variable {P:Program}{w:World}{I:bz}{T:Array Value}{g:aW}{Fs:Nat->bz}
theorem O' {ys cs:List ag}{z:Nat}(bA:∀ y∈ys,∃ c,lU y=some c/\c.length=z) (ab:o_ ys=some cs):cs.length=ys.length * z:=by
 induction ys generalizing cs with
 | nil=>simp [o_] at ab; subst ab; simp
 | cons y ys aS =>
  obtain ⟨c,h1,al⟩:=bA y (by simp);simp only [o_,h1] at ab;cases aK:o_ ys with
  | none=>simp [aK] at ab
  | some b =>
   simp only [aK,Option.some.injEq] at ab;subst ab;rw [List.length_append,aS (λy az=>bA y (by simp [az])) aK,al,List.length_cons,Nat.add_mul];omega
theorem o1.sound (h:c7 w I T g Fs) {a:Act}(bf:a.tmps=T) {o:Oper}{kg:ag}(aG:o1 P g o.op o.type kg) :
  ∃ v rj,(execOp a.eval o).run P w=.ok (.value v) (w.alloc rj)/\R (w.alloc rj) I (ew (w.alloc rj) T g) kg v (λc=>c=w.heap.size):=by
 obtain ⟨dst,op,ty,pos,after,guard⟩:=o;simp only at aG;have lL:∀ (rj:Obj) {x:ag}{v:Value},R w I (ew w T g) x v cW->R (w.alloc rj) I (ew (w.alloc rj) T g) x v cW:=λrj _ _ bl=>R.alloc h rj bl λ_ h=>h.elim;cases aG with
 | @box e _ x y cs J ab =>
  have az:=k9 h J bf;obtain ⟨h1,zS,al⟩:=az.lU (λ_ h=>h) (λ_ _ J aw=>aw.DJ J) ab;refine ⟨_,.cells (a.eval x).cells e,by simp [execOp,Instr.box,newVar,newRow],R.MA (e:=e) (sy w _) h1 zS λk x u J hu=>lL _ (al k x u J hu)⟩
 | @alloc e _ z bA gY =>
  refine ⟨_,.cells z.cells e,by simp [execOp,Instr.alloc,newVar,newRow,EL bA],R.MA (e:=e) (sy w _) (by simp) (Ey gY) λk x u J hu=>lL _ (MB k x u J (by simpa using hu))⟩
 | @makeMap t _ q bR =>
  have GC:(Instr.makeMap t none).run P w=.ok (.map (some w.heap.size)) (w.alloc (.map #[] 0)):=rfl;exact ⟨.map (some w.heap.size),.map #[] 0,by simp [execOp,GC],.mp (sy w _) bR λc=>Iff.rfl⟩
 | @buildSlice t e _ z parts xs ys cs aJ aG J bA ab aK GG hzero =>
  obtain ⟨hu,he,gr⟩:=pQ (w:=w) aJ;obtain ⟨ao,aw⟩:=yq h bf J;have hr:=O' bA ab;have Tl:∀ v∈xs.map a.eval,v.cells.size=z:=by
   intro v hv;obtain ⟨x,Hb,rfl⟩:=List.mem_map.1 hv;obtain ⟨k,hk,rfl⟩:=List.mem_iff_getElem.1 Hb;have mM:ys[k]?=some (ys[k]'(by omega)):=List.getElem?_eq_getElem (by omega);obtain ⟨c,h1,al⟩:=bA _ (List.getElem_mem (l:=ys) (n:=k) (by omega));obtain ⟨aQ,_,_⟩:=(aw k _ _ mM (List.getElem?_eq_getElem hk)).lU (λ_ h=>h) (λ_ _ J aw=>aw.DJ J) h1;rw [<- aQ,al]
  obtain ⟨ev,TR⟩:∃ ev:Array Value,(xs.length * z=0/\ev=#[])\/(xs.length * z≠0/\∃ v,ev=v.cells/\(zeroValue e).run P w=.ok v w):=by
   by_cases bd:xs.length * z=0
   ·exact ⟨#[],.inl ⟨bd,rfl⟩⟩
   ·rcases hzero with h1 | ⟨v,h1,al⟩
    ·exact absurd h1 bd
    ·exact ⟨v.cells,.inr ⟨bd,v,rfl,EL h1 w⟩⟩
  obtain ⟨arr,dg,c5⟩:=KR z (xs.map a.eval) 0 ((Array.range (xs.length * z)).map (ev[· % ev.size]!)) [] ((Array.range (xs.length * z)).map (ev[· % ev.size]!)).toList Tl (by simp) (by simp) (by simp);have LW:(parts.map λ(p:Nat × Operand)=>(p.1,a.eval p.2)).toList=(xs.map a.eval).mapIdx λi v=>(0+i,v):=by
   rw [Array.toList_map,aG];apply List.ext_getElem?;intro k;simp only [List.getElem?_map,List.getElem?_mapIdx];cases xs[k]? <;> simp
  obtain ⟨hs,k1,Sp⟩:=JI (ρ:=ew w T g) (λ_ _ J aw=>aw.DJ J) (ys:=ys) (vs:=xs.map a.eval) (by simp [ao]) (λk y v az hv=>by
   rw [List.getElem?_map] at hv;cases pC:xs[k]? with
   | none=>simp [pC] at hv
   | some x=>simp [pC] at hv; subst hv; exact aw k y x az pC) ab
  have sT:arr.toList=(xs.map a.eval).flatMap λv=>v.cells.toList:=by simpa using c5
  have S_:arr.size=xs.length * z:=by rw [<- Array.length_toList,sT,<- hs,hr,ao]
  have ij:(execOp a.eval { dst:=dst,op:=.buildSlice t xs.length parts,type:=ty,pos:=pos,after:=after,guard:=guard }).run P w=.ok (.value (.slice (some ⟨w.heap.size,0,none⟩) xs.length xs.length)) (w.alloc (.cells arr e)):=by
   have hle:¬ (16777216<xs.length * z):=by omega
   rcases TR with ⟨bd,rfl⟩ | ⟨bd,v,rfl,TQ⟩
   ·simp only [bd] at dg;rw [<- LW] at dg;simp at dg;simp [execOp,Instr.buildSlice,run_underlying hu,gr,bd,dg,newRow]
   ·rw [<- LW] at dg;simp at dg;simp [execOp,Instr.buildSlice,run_underlying hu,gr,bd,hle,TQ,dg,newRow]
  refine ⟨_,_,ij,R.MJ (e:=e) (arr:=arr) (sy w _) (Nat.le_refl _) ?_ S_ (by rw [hr,ao]) (λk u hu=>k1 k u (by rw [<- sT]; simpa using hu)) λk x u J hu=>lL _ (Sp k x u J ?_)⟩
  ·unfold maxLen; omega
  ·rw [<- sT]; simpa using hu
 | @makeSlice t e _ x y z n b oN pE ev aJ J az hzero gY n5 aK aP oF xa s7 Dm =>
  obtain ⟨hu,he,gr⟩:=pQ (w:=w) aJ;have h1:=(k9 h J bf).il.1;have al:=(k9 h az bf).il.1;cases hi:P.info? e with
  | none=>simp [hi] at aK
  | some i =>
   simp [hi] at aK hzero;have Gm:i.size=z:=by
    unfold ft at aJ;rw [hu] at aJ;simp [hi] at aJ;exact aJ
   have CX:(i.bytes:Int) * (n:Int)<=281474976710656:=by
    have:((b * n:Nat):Int)<=281474976710656:=by have:=Nat.mul_comm n b; omega
    rw [aK,<- Int.natCast_mul]; exact this
   have aw:=run_make (P:=P) w t e i ev hu hi hzero oN pE n n (by omega) (Int.le_refl _) CX (by omega);simp only [Int.toNat_natCast] at aw;refine ⟨_,.cells (madeCells ev.cells (n * i.size)) e,by simp [execOp,h1,al,aw],R.MJ (e:=e) (sy w _) (Nat.le_refl _) (by unfold maxLen; omega) (by rw [size_madeCells,Gm]) (by simp [n5,s7]) (λk u hu=>?_) λk x u J hu=>?_⟩
   ·rw [madeCells,Array.getElem?_map,Array.getElem?_range] at hu
    split at hu
    ·rename_i hk;have bd:0<ev.cells.size:=by
      rcases Nat.eq_zero_or_pos ev.cells.size with h | h
      ·rw [Gm,<- n5,h] at hk; simp at hk
      ·exact h
     have hm:k % ev.cells.size<ev.cells.size:=Nat.mod_lt _ bd;simp only [Option.map_some,Option.some.injEq] at hu;rw [<- hu,show ev.cells[k % ev.cells.size]! = ev.cells[k % ev.cells.size] by simp [hm]];exact Ey gY _ _ (Array.getElem?_eq_getElem hm)
    ·cases hu
   have hk:k<n * ev.cells.size:=by
    have:=(List.getElem?_eq_some_iff.1 J).1;simpa [Nat.mul_comm,s7] using this
   have bd:0<ev.cells.size:=by
    rcases Nat.eq_zero_or_pos ev.cells.size with h | h
    ·rw [h] at hk; simp at hk
    ·exact h
   have hm:k % ev.cells.size<ev.cells.size:=Nat.mod_lt _ bd;rw [KY _ n k (by simpa [s7] using hk),s7] at J;rw [madeCells,Array.getElem?_map,Array.getElem?_range,if_pos (by rw [Gm,<- n5]; exact hk)] at hu;simp only [Option.map_some,Option.some.injEq] at hu;have fN:ev.cells[k % ev.cells.size]! = ev.cells[k % ev.cells.size]:=by simp [hm]
   rw [fN] at hu;subst hu;rcases Dm _ _ x (Array.getElem?_eq_getElem hm) J with rfl | ⟨h1,cK,rfl⟩
   ·exact lL _ (AX _)
   ·have bl:=AX (w:=w) (I:=I) (ρ:=ew w T g) ev.cells[k % ev.cells.size];rw [h1] at bl;rw [bl.rf];exact .hS λ_ h=>h
def Cells (w:World) (I:bz) (ρ:ag->Value->Prop) (cs:List ag) (vs:List Value):Prop :=
 cs.length=vs.length/\(∀ (k:Nat) (u:Value),vs[k]?=some u->u.oneCell'=true)/\∀ (k:Nat) (x:ag) (u:Value),cs[k]?=some x->vs[k]?=some u->R w I ρ x u cW
theorem Cells.append {ρ:ag->Value->Prop}{a b:List ag}{u v:List Value}(h:Cells w I ρ a u) (aR:Cells w I ρ b v):Cells w I ρ (a++b) (u++v):=by
 refine ⟨by simp [h.1,aR.1],λk y az=>?_,λk x y J az=>?_⟩
 ·by_cases hk:k<u.length
  ·rw [List.getElem?_append_left hk] at az; exact h.2.1 k y az
  ·rw [List.getElem?_append_right (by omega)] at az; exact aR.2.1 _ y az
 ·by_cases hk:k<a.length
  ·rw [List.getElem?_append_left hk] at J;rw [List.getElem?_append_left (by rw [<- h.1]; exact hk)] at az;exact h.2.2 k x y J az
  ·rw [List.getElem?_append_right (by omega)] at J;rw [List.getElem?_append_right (by rw [<- h.1]; omega)] at az;exact aR.2.2 _ x y J (by rw [h.1]; exact az)
theorem Cells.take {ρ:ag->Value->Prop}{a:List ag}{u:List Value}(h:Cells w I ρ a u) (n:Nat):Cells w I ρ (a.take n) (u.take n):=by
 refine ⟨by simp [h.1],λk y az=>?_,λk x y J az=>?_⟩
 ·rw [List.getElem?_take] at az
  split at az
  ·exact h.2.1 k y az
  ·cases az
 ·rw [List.getElem?_take] at J az
  split at J
  ·rename_i hk; rw [if_pos hk] at az; exact h.2.2 k x y J az
  ·cases J
theorem Cells.drop {ρ:ag->Value->Prop}{a:List ag}{u:List Value}(h:Cells w I ρ a u) (n:Nat):Cells w I ρ (a.drop n) (u.drop n):=by
 refine ⟨by simp [h.1],λk y az=>?_,λk x y J az=>?_⟩
 ·rw [List.getElem?_drop] at az; exact h.2.1 _ y az
 ·rw [List.getElem?_drop] at J az;exact h.2.2 _ x y J az
theorem KQ {ρ:ag->Value->Prop}{place:Nat->Option (Nat × Nat)}:∀ (ps:List (Nat × List ag)) (sj:List (Nat × Value)) {cells cs:List ag}{arr:Array Value},Cells w I ρ cells arr.toList ->
  ps.map (·.1)=sj.map (·.1)->(∀ (k:Nat) (p:Nat × List ag) (q:Nat × Value),ps[k]?=some p->sj[k]?=some q->Cells w I ρ p.2 q.2.cells.toList)->xS place cells ps=some cs ->
  ∃ jm:Array Value,Instr.fill place arr sj=some jm/\Cells w I ρ cs jm.toList
 | [],sj,cells,cs,arr,ab,hk,_,bn=>by
  cases sj with
  | nil=>simp only [xS,Option.some.injEq] at bn; subst bn; exact ⟨arr,rfl,ab⟩
  | cons=>simp at hk
 | (i,c)::ps,sj,cells,cs,arr,ab,hk,aw,bn=>by
  cases sj with
  | nil=>simp at hk
  | cons q sj =>
   obtain ⟨ae,v⟩:=q;simp only [List.map_cons,List.cons.injEq] at hk;obtain ⟨rfl,hk⟩:=hk;have bd:=aw 0 _ _ rfl rfl;simp only [xS] at bn;cases aG:place i with
   | none=>simp [aG] at bn
   | some os =>
    obtain ⟨off,size⟩:=os;simp only [aG] at bn
    split at bn
    ·rename_i WR;have hlen:v.cells.size=c.length:=by rw [<- Array.length_toList]; exact bd.1.symm
     have W7:arr.size=cells.length:=by rw [<- Array.length_toList]; exact ab.1.symm
     obtain ⟨B_,dg,c5⟩:=KS (arr:=arr) (v:=v) aG (by omega) (by omega) sj;have k1:Cells w I ρ (cells.take off++c++cells.drop (off+c.length)) B_.toList:=by
      rw [c5,hlen];exact ((ab.take off).append bd).append (ab.drop _)
     obtain ⟨jm,jo,pa⟩:=KQ ps sj k1 hk (λk p q aG bR=>aw (k+1) p q aG bR) bn;exact ⟨jm,by rw [dg,jo],pa⟩
    ·cases bn
theorem MT (h:c7 w I T g Fs) {a:Act}(bf:a.tmps=T):∀ {l:List (Nat × Operand)}{ps:List (Nat × List ag)},rl g l=some ps ->
  ps.map (·.1)=(l.map λp=>(p.1,a.eval p.2)).map (·.1)/\∀ (k:Nat) (p:Nat × List ag) (q:Nat × Value),ps[k]?=some p->(l.map λp=>(p.1,a.eval p.2))[k]?=some q->Cells w I (ew w T g) p.2 q.2.cells.toList
 | [],ps,aG=>by simp only [rl,Option.some.injEq] at aG; subst aG; simp
 | (i,x)::l,ps,aG=>by
  simp only [rl] at aG;cases J:bT g x with
  | none=>simp [J] at aG
  | some y =>
   cases ao:rl g l with
   | none=>simp [J,ao] at aG
   | some Xu =>
    simp only [J,ao,Option.map_eq_some_iff] at aG;obtain ⟨c,ab,rfl⟩:=aG;obtain ⟨h1,al⟩:=MT h bf ao;refine ⟨by simp [h1],λk p q aG bR=>?_⟩;cases k with
    | zero =>
     simp at aG bR;subst aG bR;obtain ⟨aQ,Q7,bW⟩:=(k9 h J bf).lU (λ_ h=>h) (λ_ _ J aw=>aw.DJ J) ab;exact ⟨by simpa using aQ,λk u hu=>Q7 k u (by simpa using hu),λk x u J hu=>bW k x u J (by simpa using hu)⟩
    | succ k=>simp at aG bR; exact al k p q aG (by simpa using bR)
theorem Vr {t:TypeId}{pl:List (Nat × Nat)}(h:kN P t pl=true):∃ fs,P.underlying t=some (.struct fs)/\fs.toList.mapM (λf=>(P.info? f.type).map λi=>(f.offset,i.size))=some pl:=by
 unfold kN at h;cases hu:P.underlying t with
 | none=>simp [hu] at h
 | some d =>
  cases d <;> simp only [hu,Bool.false_eq_true] at h;rename_i fs;refine ⟨fs,rfl,?_⟩;replace h:=LawfulBEq.eq_of_beq h;generalize fs.toList=l at h
  induction l generalizing pl with
  | nil=>cases pl with
   | nil=>rfl
   | cons=>simp at h
  | cons f l aS =>
   cases pl with
   | nil=>simp at h
   | cons p pl =>
    obtain ⟨o,s⟩:=p;simp only [List.map_cons,List.cons.injEq,Prod.mk.injEq] at h;obtain ⟨⟨rfl,h1⟩,al⟩:=h;have:=aS al;rw [List.mapM_cons,this];cases hi:P.info? f.type with
    | none=>simp [hi] at h1
    | some i=>simp [hi] at h1; subst h1; rfl
theorem tH.sound (h:c7 w I T g Fs) {a:Act}(bf:a.tmps=T) {o:Oper}{kg:ag}(aG:tH P g o.op o.type kg) :
  ∃ v,(execOp a.eval o).run P w=.ok (.value v) w/\R w I (ew w T g) kg v cW:=by
 obtain ⟨dst,op,ty,pos,after,guard⟩:=o;simp only at aG;cases aG with
 | @build t _ parts pl ev ps cs aJ bA gY aG ab =>
  obtain ⟨fs,hu,vR⟩:=Vr aJ;obtain ⟨h1,al⟩:=MT h bf aG;obtain ⟨jm,dg,c5⟩:=KQ (w:=w) (I:=I) (ρ:=ew w T g) (place:=λi=>pl[i]?) ps _ (arr:=ev.cells) ⟨by simp,λk u hu=>Ey gY k u (by simpa using hu),λk x u J hu=>MB k x u J hu⟩ h1 al ab;refine ⟨.agg jm,?_,.agg (Fs:=λ_=>cW) (by simpa using c5.1) (λk u hu=>c5.2.1 k u (by simpa using hu)) (λk x u J hu=>c5.2.2 k x u J (by simpa using hu)) (λ_ _ _ _ _ h=>h.elim) (λc=>⟨λh=>h.elim,λ⟨_,_,h⟩=>h⟩)⟩;have Xf:=run_places (P:=P) w fs.toList pl vR;have aK:P.built t ((parts.map λ(p:Nat × Operand)=>(p.1,a.eval p.2))).toList=some jm:=by
   rw [Array.toList_map];cases hi:P.info? t with
   | none=>simp [hi] at bA
   | some it =>
    simp [hi] at bA;simp only [Program.built,hu,vR,hi,bA];simpa using dg
  have:=run_build (P:=P) w t _ _ aK;simp only [execOp,Sem.run_bind];have hm:(parts.map λ(x:Nat × Operand)=>match x with | (i,x)=>(i,a.eval x))=parts.map λ(p:Nat × Operand)=>(p.1,a.eval p.2):=rfl
  rw [hm,this];rfl
 | @makeFunc fn first caps _ Xj Hy h1 al =>
  obtain ⟨ay,a2⟩:=yq h bf h1;obtain ⟨hN,iu⟩:=yq h bf al;refine ⟨.func fn (first.map a.eval) (caps.map a.eval),by simp [execOp,Instr.makeFunc],.et (λ_ h=>h) (by simpa using ay) (by simpa using hN) (λk x u J hu=>?_) (λk x u J hu=>?_)⟩
  ·rw [Array.getElem?_map] at hu;cases hk:first[k]? with
   | none=>simp [hk] at hu
   | some y=>simp [hk] at hu; subst hu; exact a2 k x y J (by simpa using hk)
  ·rw [Array.getElem?_map] at hu;cases hk:caps[k]? with
   | none=>simp [hk] at hu
   | some y=>simp [hk] at hu; subst hu; exact iu k x y J (by simpa using hk)
end
end Go.Own
namespace Go.Own
open Go
structure BQ (w w':World) (bv hT:Value) (e c5:TypeId) (z n m:Nat) (us news:List Value):Prop where
 lL:w'.ownsRow 0 e z bv n us
 new:w'.ownsRow 0 c5 z hT (n+m) (us++news)
 fF:Fr w w' (λc=>bv.ownBlock=some c)
 Cf:∀ c,hT.ownBlock=some c->bv.ownBlock=some c\/w.heap.size<=c
 sp:∀ c,bv.ownBlock=some c->∃ arr jm:Array Value,w.heap[c]?=some (.cells arr e (0,0))/\w'.heap[c]?=some (.cells jm e (0,0))/\jm.size=arr.size/\jm.toList.take (n * z)=arr.toList.take (n * z)
section
variable {P:Program}{w:World}
theorem BQ.same {bv hT:Value}{e c5:TypeId}{z n m:Nat}{us news:List Value}{w':World}(k3:w.ownsRow 0 e z bv n us) (aK:∀ c,c<w.heap.size->w'.heap[c]?=w.heap[c]?) (aL:w.heap.size<=w'.heap.size)
  (h1:w'.os=w.os) (al:w'.tape=w.tape) (aQ:w'.output=w.output) (q3:w'.ownsRow 0 c5 z hT (n+m) (us++news)) (hblk:∀ c,hT.ownBlock=some c->bv.ownBlock=some c\/w.heap.size<=c) (po:∀ a,w'.frozen? a=w.frozen? a) (St:w.drawn<=w'.drawn:=by first | exact Nat.le_refl _ | exact Nat.le_succ _):BQ w w' bv hT e c5 z n m us news:=by
 have a_:=k3.lt;refine ⟨uL k3 λc ab=>aK c (a_ c ab).2,q3,⟨h1,al,aQ,aL,λb kD _=>aK b kD,λa _=>po a,St⟩,hblk,λc ab=>?_⟩;obtain ⟨_,ca⟩:=k3;rcases ca with ⟨rfl,_⟩ | ⟨b,cap,cur,rfl,_,ba,_⟩
 ·simp [Value.ownBlock] at ab
 ·simp only [Value.ownBlock,Option.some.injEq] at ab;subst ab;exact ⟨cur,cur,ba,(aK _ (a_ b rfl).2).trans ba,rfl,rfl⟩
theorem U7 (t ty e cU:TypeId) (i:TypeInfo) (aJ:P.underlying t=some (.slice e)) (hi:P.info? e=some i)
  (b wY Ie:Nat) (cur:Array Value) (ba:w.heap[b]?=some (.cells cur cU (0,0)))
  (a:Addr) (m c:Nat) (news:List Value) (ao:news.length=m * i.size) (sY:∀ ae u,news[ae]?=some u->w.cell? (a.add ae)=some u) (h1:∀ u∈news,u.oneCell'=true)
  (Aq:wY+m<=Ie) (Gj:wY * i.size+news.length<=cur.size) :
  (Builtin.append_ #[t,t] ty #[.slice (some ⟨b,0,none⟩) wY Ie,.slice (some a) m c]).run P w =
   .ok (.slice (some ⟨b,0,none⟩) (wY+m) Ie) (w.setRow b (cur.toList.take (wY * i.size)++news++cur.toList.drop (wY * i.size+news.length)).toArray):=by
 have bn:=run_firstCells_some (P:=P) w i.size m a m c news ao sY;have cf:=run_storeCells_at P b (wY * i.size) cU news 0 cur w ba (by simpa using Gj) h1;simp only [Nat.add_zero] at cf;simp [Builtin.append_,run_underlying aJ,sizeOf,typeInfo,hi,Builtin.lenOf,Aq,bn,Addr.add_lit,cf]
theorem Nk (t ty e cU:TypeId) (i:TypeInfo) (ev:Value) (aJ:P.underlying t=some (.slice e)) (hi:P.info? e=some i) (bA:i.zero=some ev) (n5:ev.cells.size=i.size) (_h0:0<i.size)
  {bv:Value}{n m c:Nat}{us news:List Value}(k3:w.ownsRow 0 cU i.size bv n us) {a:Option Addr}(bf:0<m->a.isSome=true)
  (ao:news.length=m * i.size) (sY:∀ ad,a=some ad->∀ (ae:Nat) (u:Value),news[ae]?=some u->w.cell? (ad.add ae)=some u) (h1:∀ u∈news,u.oneCell'=true)
  (pf:n+m<=maxLen) (CX:(n+m) * i.bytes<=140737488355328) :
  ∃ hT w' c5,(Builtin.append_ #[t,t] ty #[bv,.slice a m c]).run P w=.ok hT w'/\BQ w w' bv hT cU c5 i.size n m us news:=by
 have mJ:=k3.1;by_cases hm:m=0
 ·subst hm;have aP:news=[]:=List.eq_nil_of_length_eq_zero (by simpa using ao);subst aP;refine ⟨bv,w,cU,?_,.same k3 (λ_ _=>rfl) (Nat.le_refl _) rfl rfl rfl (by simpa using k3) (λc ab=>.inl ab) λ_=>rfl⟩;obtain ⟨_,ca⟩:=k3;rcases ca with ⟨rfl,rfl⟩ | ⟨b,cap,cur,rfl,_,ba,hle,_⟩
  ·cases a <;> simp [Builtin.append_,run_underlying aJ,sizeOf,typeInfo,hi,Builtin.lenOf,Builtin.firstCells,loadCells,loadCellsFrom]
  ·cases a <;> simp [Builtin.append_,run_underlying aJ,sizeOf,typeInfo,hi,Builtin.lenOf,Builtin.firstCells,loadCells,loadCellsFrom,hle,storeCells]
 ·cases a with
  | none=>simp at bf; omega
  | some ad =>
   replace sY:=sY ad rfl;have Xg:n+m<=9223372036854775807:=by simp only [maxLen] at pf; omega
   have grown:∀ (lL:Nat),lL<n+m ->
     (w.drew.alloc (.cells (us.toArray++news.toArray++Builtin.zeroCells ev.cells (grownCap w (n+m) lL e - (n+m))) e)).ownsRow 0 e i.size (.slice (some ⟨w.heap.size,0,none⟩) (n+m) (grownCap w (n+m) lL e)) (n+m) (us++news):=by
    intro lL bh;have ec:=grownCap_ge w (n+m) lL e;have hlen:(us++news).length=(n+m) * i.size:=by rw [List.length_append,mJ,ao,Nat.add_mul]
    refine ⟨hlen,.inr ⟨w.heap.size,_,_,rfl,Nat.zero_le _,sy w.drew _,ec,grownCap_le_maxLen w (n+m) lL e pf,?_,?_⟩⟩
    ·simp only [Array.size_append,List.size_toArray,size_zeroCells,n5,mJ,ao,<- Nat.add_mul];congr 1;omega
    ·simp only [Array.toList_append,List.append_assoc];rw [<- List.append_assoc,<- hlen];exact List.take_left
   have GH:=k3;obtain ⟨_,ca⟩:=k3;rcases ca with ⟨rfl,rfl⟩ | ⟨b,cap,cur,rfl,_,ba,hle,ja,hs,L5⟩
   ·have J:us=[]:=List.eq_nil_of_length_eq_zero (by simpa using mJ);subst J;have aw:=run_append_nil (P:=P) w t ty e i ev aJ hi bA ad m c news ao sY (by omega) (by omega) (by simp only [Nat.zero_add] at CX; omega);have q0:=grown 0 (by omega);simp only [Nat.zero_add,List.nil_append,Array.empty_append] at q0;exact ⟨_,_,e,aw,.same GH (λc ab=>rI w.drew _ c ab) (by simp) rfl rfl rfl (by simpa using q0) (λc ab=>.inr (by simp [Value.ownBlock] at ab; omega)) (λa=>Fw w.drew _ _ a)⟩
   ·by_cases Aq:n+m<=cap
    ·have Gj:n * i.size+news.length<=cur.size:=by rw [ao,hs,<- Nat.add_mul]; exact Nat.mul_le_mul_right _ Aq
     have aw:=U7 (P:=P) (w:=w) t ty e cU i aJ hi b n cap cur ba ad m c news ao sY h1 Aq Gj;have hlen:(us++news).length=(n+m) * i.size:=by rw [List.length_append,mJ,ao,Nat.add_mul]
     have gr:(cur.toList.take (n * i.size)++news++cur.toList.drop (n * i.size+news.length)).toArray.size=cur.size:=by
      simp only [List.size_toArray,List.length_append,List.length_take,List.length_drop,Array.length_toList];omega
     have gb:(cur.toList.take (n * i.size)++news++cur.toList.drop (n * i.size+news.length)).take (n * i.size)=cur.toList.take (n * i.size):=by
      rw [List.append_assoc];exact List.take_left' (by simp; omega)
     refine ⟨_,_,cU,aw,⟨⟨mJ,.inr ⟨b,cap,_,rfl,Nat.zero_le _,setRow_heap w b cur _ cU _ ba,hle,ja,gr.trans hs,?_⟩⟩,⟨hlen,.inr ⟨b,cap,_,rfl,Nat.zero_le _,setRow_heap w b cur _ cU _ ba,Aq,ja,gr.trans hs,?_⟩⟩,
      ⟨rfl,rfl,rfl,by simp,λk _ hk=>setRow_other w b k _ (λe=>hk (by simp [Value.ownBlock,e])),λa _=>Fy w b _ a,Nat.le_refl _⟩,λc ab=>.inl ab,λc ab=>?_⟩⟩
     ·rw [<- L5]; exact gb
     ·rw [L5,<- hlen];exact List.take_left
     ·simp only [Value.ownBlock,Option.some.injEq] at ab;subst ab;exact ⟨cur,_,ba,setRow_heap w b cur _ cU _ ba,gr,gb⟩
    ·have holds:∀ (ae:Nat) (u:Value),us[ae]?=some u->w.cell? ((⟨b,0,none⟩:Addr).add ae)=some u:=GH.cells (g:=b) rfl;have aw:=run_append_grow (P:=P) w t ty e i ev aJ hi bA ⟨b,0,none⟩ n cap us mJ holds ad m c news ao sY (by omega) (by omega) (growslice_fits (by omega) CX);have q0:=grown cap (by omega);exact ⟨_,_,e,aw,.same GH (λc ab=>rI w.drew _ c ab) (by simp) rfl rfl rfl q0 (λc ab=>.inr (by simp [Value.ownBlock] at ab; omega)) (λa=>Fw w.drew _ _ a)⟩
end
end Go.Own
namespace Go.Own
open Go
section
variable {w w':World}{I:bz}{ρ ρ':ag->Value->Prop}
theorem R.kids {x:ag}{v:Value}{F:bz}(h:R w I ρ x v F) (J:x.kids≠[]):∃ Fs:Nat->bz,
  (∀ k y,x.kids[k]?=some y->∃ u,child w v k=some u/\R w I ρ y u (Fs k))/\(∀ (ae k c:Nat),ae<x.kids.length->k<x.kids.length->Fs ae c->Fs k c->ae=k) /\
  (∀ k c,k<x.kids.length->Fs k c->F c)/\(∀ z n cs,x=.own z n cs->∀ c,v.ownBlock=some c->∀ k,k<x.kids.length->¬ Fs k c):=by
 cases h with
 | @own z n cs _ e us Fs _ bh ao h1 aw aU aK aT =>
  refine ⟨Fs,λk y hk=>?_,aU,λk c hk ab=>(aT c).2 (.inr ⟨k,hk,ab⟩),λ_ _ _ _ c ab k hk h=>aK k c hk h ab⟩;simp only [ag.kids] at hk;have a_:k<cs.length:=(List.getElem?_eq_some_iff.1 hk).1;have hu:us[k]?=some us[k]:=List.getElem?_eq_getElem (ao ▸ a_);exact ⟨_,oa bh hu,aw k y _ hk hu⟩
 | @obj cs b e arr Fs _ bh ao h1 aw aU aK aT =>
  refine ⟨Fs,λk y hk=>?_,aU,λk c hk ab=>(aT c).2 (.inr ⟨k,hk,ab⟩),λ_ _ _ h=>by simp at h⟩;simp only [ag.kids] at hk;have a_:k<cs.length:=(List.getElem?_eq_some_iff.1 hk).1;have hu:arr[k]?=some arr[k]:=Array.getElem?_eq_getElem (ao ▸ a_);exact ⟨_,by simp [child,World.cell?,bh,hu],aw k y _ hk hu⟩
 | @agg cs vs Fs _ ao h1 aw aU aT =>
  refine ⟨Fs,λk y hk=>?_,aU,λk c hk ab=>(aT c).2 ⟨k,hk,ab⟩,λ_ _ _ h=>by simp at h⟩;simp only [ag.kids] at hk;have a_:k<cs.length:=(List.getElem?_eq_some_iff.1 hk).1;have hu:vs[k]?=some vs[k]:=Array.getElem?_eq_getElem (ao ▸ a_);exact ⟨_,by simp [child,hu],aw k y _ hk hu⟩
 | @cC cs vs Fs _ ao aw aU aT =>
  refine ⟨Fs,λk y hk=>?_,aU,λk c hk ab=>(aT c).2 ⟨k,hk,ab⟩,λ_ _ _ h=>by simp at h⟩;simp only [ag.kids] at hk;have a_:k<cs.length:=(List.getElem?_eq_some_iff.1 hk).1;have hu:vs[k]?=some vs[k]:=Array.getElem?_eq_getElem (ao ▸ a_);exact ⟨_,by simp [child,hu],aw k y _ hk hu⟩
 | ref gw=>cases x <;> simp [ag.isRef,ag.kids] at gw J
 | _=>simp [ag.kids] at J
theorem ag.tM {x y:ag}{k:Nat}{p:List Nat}(h:x.at (k::p)=some y):∃ c,x.kids[k]?=some c/\c.at p=some y:=by
 simp only [ag.at] at h;cases hk:x.kids[k]? with
 | none=>rw [hk] at h; cases h
 | some c=>rw [hk] at h; exact ⟨c,rfl,h⟩
theorem R.HL {b:Nat}:∀ (q r:List Nat) {x:ag}{v:Value}{F:bz}{z n cK cY:Nat}{cs cs':List ag}{oU BF:Value},R w I ρ x v F->x.at q=some (.own z n cs)->x.at r=some (.own cK cY cs') ->
  walk w v q=some oU->walk w v r=some BF->oU.ownBlock=some b->BF.ownBlock=some b->q=r
 | [],[],_,_,_,_,_,_,_,_,_,_,_,_,_,_,_,_,_,_=>rfl
 | [],k::r,x,v,F,z,n,cK,cY,cs,cs',oU,BF,h,bR,aw,rA,wr,xE,xF=>by
  obtain ⟨c,hk,ab⟩:=ag.tM aw;simp only [ag.at,Option.some.injEq] at bR;simp only [walk,Option.some.injEq] at rA;subst bR rA;have a_:k<(ag.own z n cs).kids.length:=(List.getElem?_eq_some_iff.1 hk).1;obtain ⟨Fs,h1,al,aQ,bW⟩:=h.kids (by intro e; rw [e] at a_; simp at a_);obtain ⟨u,hu,mA⟩:=h1 k c hk;simp only [walk,hu] at wr;obtain ⟨iD,cN,hw,dZ,dE,_⟩:=R.focus r mA ab;rw [hw] at wr;cases wr;exact absurd (dE b (dZ.pK b xF)) (bW z n cs rfl b xE k a_)
 | ae::q,[],x,v,F,z,n,cK,cY,cs,cs',oU,BF,h,bR,aw,rA,wr,xE,xF=>by
  obtain ⟨c,hk,ab⟩:=ag.tM bR;simp only [ag.at,Option.some.injEq] at aw;simp only [walk,Option.some.injEq] at wr;subst aw wr;have a_:ae<(ag.own cK cY cs').kids.length:=(List.getElem?_eq_some_iff.1 hk).1;obtain ⟨Fs,h1,al,aQ,bW⟩:=h.kids (by intro e; rw [e] at a_; simp at a_);obtain ⟨u,hu,mA⟩:=h1 ae c hk;simp only [walk,hu] at rA;obtain ⟨iD,cN,hw,dZ,dE,_⟩:=R.focus q mA ab;rw [hw] at rA;cases rA;exact absurd (dE b (dZ.pK b xE)) (bW cK cY cs' rfl b xF ae a_)
 | ae::q,k::r,x,v,F,z,n,cK,cY,cs,cs',oU,BF,h,bR,aw,rA,wr,xE,xF=>by
  obtain ⟨c,aa,ab⟩:=ag.tM bR;obtain ⟨d,hk,aU⟩:=ag.tM aw;have fj:ae<x.kids.length:=(List.getElem?_eq_some_iff.1 aa).1;have dW:k<x.kids.length:=(List.getElem?_eq_some_iff.1 hk).1;obtain ⟨Fs,h1,al,aQ,bW⟩:=h.kids (by intro e; rw [e] at fj; simp at fj);obtain ⟨u,hu,mA⟩:=h1 ae c aa;obtain ⟨tu,fN,FW⟩:=h1 k d hk;simp only [walk,hu] at rA;simp only [walk,fN] at wr;by_cases eQ:ae=k
  ·subst eQ;rw [aa] at hk; cases hk;rw [hu] at fN; cases fN;rw [R.HL q r mA ab aU rA wr xE xF]
  ·exfalso;obtain ⟨iD,cN,hw,dZ,dE,_⟩:=R.focus q mA ab;obtain ⟨V0,jk,vU,z6,Rv,_⟩:=R.focus r FW aU;rw [hw] at rA; cases rA;rw [vU] at wr; cases wr;exact eQ (al ae k b fj dW (dE b (dZ.pK b xE)) (Rv b (z6.pK b xF)))
theorem ag.NB:∀ (q:List Nat) {x y:ag},x.at q=some y->x.setAt q y=x
 | [],x,y,h=>by simp [ag.at] at h; simp [ag.setAt,h]
 | k::q,x,y,h=>by
  obtain ⟨c,hk,ab⟩:=ag.tM h;simp only [ag.setAt,hk,ag.NB q ab];have:∀ (l:List ag),l[k]?=some c->l.set k c=l:=by
   intro l ao;apply List.ext_getElem?;intro ae;by_cases eQ:k=ae
   ·subst eQ;have a_:k<l.length:=(List.getElem?_eq_some_iff.1 ao).1;rw [List.getElem?_set_self a_,ao]
   ·rw [List.getElem?_set_ne eQ]
  cases x <;> simp [ag.kids] at hk <;> simp [ag.u0,this _ hk]
theorem BH (w:World):∀ (p:List Nat) (v:Value) (r:List Nat),walk w v (p++r)=(walk w v p).bind λu=>walk w u r
 | [],v,r=>rfl
 | k::p,v,r=>by
  simp only [List.cons_append,walk];cases child w v k with
  | none=>rfl
  | some u=>exact BH w p u r
theorem ag.EI:∀ (p:List Nat) (x:ag) (r:List Nat),x.at (p++r)=(x.at p).bind λy=>y.at r
 | [],x,r=>rfl
 | k::p,x,r=>by
  simp only [List.cons_append,ag.at];cases x.kids[k]? with
  | none=>rfl
  | some u=>exact ag.EI p u r
structure B5 (w w':World) (b M:Nat):Prop where
 other:∀ c,c<w.heap.size->c≠b->w'.heap[c]?=w.heap[c]?
 here:∃ (arr jm:Array Value) (e:TypeId),w.heap[b]?=some (.cells arr e (0,0))/\w'.heap[b]?=some (.cells jm e (0,0))/\jm.size=arr.size/\jm.toList.take M=arr.toList.take M
theorem B5.row {b M:Nat}(s:B5 w w' b M) {e:TypeId}{z n:Nat}{v:Value}{us:List Value}(h:w.ownsRow 0 e z v n us) (aP:v.ownBlock=some b->n * z<=M):w'.ownsRow 0 e z v n us:=by
 by_cases aK:v.ownBlock=some b
 ·obtain ⟨arr,jm,dg,h1,al,aQ,bW⟩:=s.here;obtain ⟨hu,ca⟩:=h;rcases ca with ⟨rfl,rfl⟩ | ⟨g,cap,cur,rfl,ba,ab,tg,fY,uS,sf⟩
  ·simp [Value.ownBlock] at aK
  ·simp only [Value.ownBlock,Option.some.injEq] at aK;subst aK;rw [h1] at ab;cases ab;refine ⟨hu,.inr ⟨g,cap,jm,rfl,ba,al,tg,fY,by omega,?_⟩⟩;rw [<- sf];have:=congrArg (List.take (n * z)) bW
   rwa [List.take_take,List.take_take,Nat.min_eq_left (aP rfl)] at this
 ·exact uL h λc ab=>s.other c (h.lt c ab).2 λe=>aK (e ▸ ab)
theorem R.spare {b M:Nat}(s:B5 w w' b M) (bw:∀ c,I c->c<w.heap.size/\c≠b) (lu:∀ x v,ρ x v->ρ' x v) {x:ag}{v:Value}{F:bz}(h:R w I ρ x v F) {q:List Nat}{z n:Nat}{cs:List ag}{iD:Value}
  (fW:x.at q=some (.own z n cs)) (hw:walk w v q=some iD) (aK:iD.ownBlock=some b) (aP:n * z<=M) :
  R w' I ρ' x v F/\∀ r y,x.at r=some y->walk w' v r=walk w v r:=by
 obtain ⟨V0,cN,vU,dZ,dE,gd,kK⟩:=R.focus q h fW;rw [hw] at vU;cases vU;have nY:cN b:=dZ.pK b aK;have a_:=h.lt;have same:∀ c,F c->c≠b->w'.heap[c]?=w.heap[c]?:=λc ab ek=>s.other c (a_ c ab) ek;have WM:=dZ;cases dZ with
 | ref J=>simp [ag.isRef] at J
 | @own _ _ _ _ e us Fs _ bh ao h1 aw aU ka aT =>
  have mF:=s.row bh λ_=>aP;have ek:∀ k c,k<cs.length->Fs k c->c≠b:=λk c hk ab e=>ka k c hk ab (e ▸ aK);have jq:∀ k c,k<cs.length->Fs k c->F c:=λk c hk ab=>dE c ((aT c).2 (.inr ⟨k,hk,ab⟩));have q3:R w' I ρ' (.own z n cs) iD cN:=by
   refine .own mF ao h1 (λk x u J hu=>?_) aU ka aT;have hk:k<cs.length:=(List.getElem?_eq_some_iff.1 J).1;exact (aw k x u J hu).frame (λc ab=>s.other c (bw c ab).1 (bw c ab).2) (λ_ h=>h) lu λc ab=>same c (jq k c hk ab) (ek k c hk ab)
  constructor
  ·obtain ⟨f',jr,oC⟩:=kK w' I ρ' _ cN ⟨λc ab=>s.other c (bw c ab).1 (bw c ab).2,λc ab aP=>same c ab λe=>aP (e ▸ nY),λ_ h=>h,lu⟩ q3 λc ab _=>ab;rw [ag.NB q fW] at jr;refine jr.xK λc=>?_;rw [oC c];constructor
   ·rintro (⟨h,_⟩ | h)
    ·exact h
    ·exact dE c h
   ·intro h;by_cases ab:cN c
    ·exact .inr ab
    ·exact .inl ⟨h,ab⟩
  ·obtain ⟨jD,ir⟩:=gd w' λc ab aP=>same c ab λe=>aP (e ▸ nY);intro r y eT;rcases ir r y eT with ⟨e8,rfl⟩ | h
   ·rw [BH,BH,jD,hw];simp only [Option.bind_some];cases e8 with
    | nil=>rfl
    | cons k e8 =>
     rw [ag.EI,fW] at eT;obtain ⟨c,hk,ab⟩:=ag.tM (x:=.own z n cs) eT;simp only [ag.kids] at hk;have dW:k<cs.length:=(List.getElem?_eq_some_iff.1 hk).1;have hu:us[k]?=some us[k]:=List.getElem?_eq_getElem (ao ▸ dW);have:=R.oV (w':=w') e8 (aw k c _ hk hu) ab λc ab=>same c (jq k c dW ab) (ek k c dW ab);simp [walk,oa bh hu,oa mF hu,this]
   ·exact h
end
end Go.Own
namespace Go.Own
open Go
section
variable {w w':World}{I:bz}{T:Array Value}{g:aW}{Fs:Nat->bz}
theorem c7.It (h:c7 w I T g Fs) {t:Nat}{x:ag}(J:g t=some x):∃ v,T[t]?=some v/\eB w T ⟨t,[]⟩=some v/\jK w I (ew w T g) x v (Fs t):=by
 obtain ⟨v,hv,bl⟩:=h.rel t x J;exact ⟨v,hv,by simp [eB,hv,walk],bl⟩
theorem c7.app (h:c7 w I T g Fs) {z n m:Nat}{p:Place}{bv hT:Value}{e c5:TypeId}{us news:List Value}(km:ew w T g (.b8 z p n 0 []) bv)
  (ht:∀ t cK cY bS di,g t≠some (.b8 cK p cY bS di)) (A:BQ w w' bv hT e c5 z n m us news):c7 w' I T g Fs/\∀ r v,ew w T g r v->ew w' T g r v:=by
 cases ka:bv.ownBlock with
 | none =>
  have same:∀ c,c<w.heap.size->w'.heap[c]?=w.heap[c]?:=λc ab=>A.fF.block c ab (by rw [ka]; simp);exact ⟨h.world (λt c ab=>same c (h.j2 t c ab)) (λc ab=>same c (h.lt c ab)) A.fF.size,λr v aw=>h.DX (λ_ _=>rfl) (λt c ab=>same c (h.j2 t c ab)) (λ_ _ h=>h) aw⟩
 | some b =>
  have s:B5 w w' b (n * z):=by
   refine ⟨λc ab ek=>A.fF.block c ab (by rw [ka]; simpa using Ne.symm ek),?_⟩;obtain ⟨arr,jm,h1,al,aQ,bW⟩:=A.sp b ka;exact ⟨arr,jm,e,h1,al,aQ,bW⟩
  obtain ⟨t0,r6⟩:=h.Ce km b ka;have bw:∀ c,I c->c<w.heap.size/\c≠b:=λc ab=>⟨h.lt c ab,λe=>h.aF t0 b r6 (e ▸ ab)⟩;obtain ⟨⟨vh,vi,Gd,rfl⟩,eo⟩:=km
  -- the home of the block
  have home:∃ N:Place->Prop,(∀ q cK cY cs' oU,b' g q=some (.own cK cY cs')->eB w T q=some oU->oU.ownBlock=some b->N q) /\
    (∀ q,N q->∀ t cK cY bS di,g t=some (.b8 cK q cY bS di)->t=p.root/\p.path=[]) /\
    (∀ t cK hb cY bS di,Fs t b->g t=some (.b8 cK hb cY bS di)->t=p.root/\p.path=[]) /\
    (∀ cK hb cY bS di,p.path=[]->g p.root=some (.b8 cK hb cY bS di)->cK=z/\n=cY+bS) /\
    (∀ t x v,Fs t b->g t=some x->T[t]?=some v->R w I (ew w T g) x v (Fs t)->∃ q cK cY cs' iD,x.at q=some (.own cK cY cs')/\walk w v q=some iD/\iD.ownBlock=some b/\cY * cK<=n * z):=by
   rcases eo with ⟨cs,aG⟩ | ⟨jt,j4,lK,m1,Xo,cs,aG,aP,Am⟩
   ·-- the base is a row of a tree
    obtain ⟨pT,pW,gZ,hR,lZ⟩:=h.part aG (by simp);rw [Gd] at gZ;cases gZ;have mI:t0=p.root:=h.e_ _ _ _ r6 (lZ b (hR.pK b ka));obtain ⟨fB,k4⟩:∃ fB,g p.root=some fB:=by
     unfold b' at aG;cases J:g p.root with
     | none=>rw [J] at aG; cases aG
     | some x=>exact ⟨x,rfl⟩
    have qW:fB.at p.path=some (.own z n cs):=by simpa [b',k4] using aG
    have k7:∀ cK hb cY bS di,g p.root≠some (.b8 cK hb cY bS di):=by
     intro cK hb cY bS di ca;rw [k4] at ca;cases ca;have:=(ag.sB qW).2;simp at this
    obtain ⟨v0,ju,gK⟩:=h.rel _ _ k4;have FO:=gK.h0 (λcK hb cY bS di e=>k7 cK hb cY bS di (by rw [k4,e]));have Az:walk w v0 p.path=some (.slice vh n vi):=by simpa [eB,ju] using Gd
    refine ⟨λq=>q=p,?_,?_,?_,?_,?_⟩
    ·intro q cK cY cs' oU bR r7 vM;obtain ⟨N2,Oh,uE,FU,FI⟩:=h.part bR (by simp);rw [r7] at uE;cases uE;have aw:q.root=p.root:=(h.e_ _ _ _ (FI b (FU.pK b vM)) r6).trans mI;have z_:fB.at q.path=some (.own cK cY cs'):=by simpa [b',aw,k4] using bR
     have GY:walk w v0 q.path=some oU:=by simpa [eB,aw,ju] using r7
     have:=R.HL q.path p.path FO z_ qW GY Az vM ka;cases q; cases p; simp_all
    ·rintro q rfl t cK cY bS di ca; exact absurd ca (ht t cK cY bS di)
    ·intro t cK hb cY bS di oI ca;have:t=p.root:=(h.e_ _ _ _ oI r6).trans mI;rw [this] at ca;exact absurd ca (k7 _ _ _ _ _)
    ·intro cK hb cY bS di _ ca; exact absurd ca (k7 _ _ _ _ _)
    ·intro t x v oI J hv bl;have:t=p.root:=(h.e_ _ _ _ oI r6).trans mI;subst this;rw [k4] at J; cases J;rw [ju] at hv; cases hv;exact ⟨_,_,_,_,_,qW,Az,ka,Nat.le_refl _⟩
   ·-- the base is behind an append itself
    obtain ⟨v0,ju,Ax,gK⟩:=h.It aG;have Te:v0=.slice vh n vi:=by
     have:(⟨p.root,[]⟩:Place)=p:=by cases p; simp_all
     rw [this,Gd] at Ax;exact (Option.some.inj Ax).symm
    subst Te;obtain ⟨Pb,dg,Wr,VU,Xq,gK⟩:=gK.uH;by_cases dw:Pb.ownBlock=some b
    ·obtain ⟨⟨ay,JY,L9,rfl⟩,_⟩:=gK.km;obtain ⟨oU,Oh,r7,FU,FI⟩:=h.part Am (by simp);rw [L9] at r7;cases r7;have mI:t0=j4.root:=h.e_ _ _ _ r6 (FI b (FU.pK b dw));obtain ⟨fB,k4⟩:∃ fB,g j4.root=some fB:=by
      unfold b' at Am;cases J:g j4.root with
      | none=>rw [J] at Am; cases Am
      | some x=>exact ⟨x,rfl⟩
     have qW:fB.at j4.path=some (.own z lK cs):=by simpa [b',k4] using Am
     have k7:∀ cK hb cY bS di,g j4.root≠some (.b8 cK hb cY bS di):=by
      intro cK hb cY bS di ca;rw [k4] at ca;cases ca;have:=(ag.sB qW).2;simp at this
     obtain ⟨v1,oK,FP⟩:=h.rel _ _ k4;have RI:=FP.h0 (λcK hb cY bS di e=>k7 cK hb cY bS di (by rw [k4,e]));have Az:walk w v1 j4.path=some (.slice ay lK JY):=by simpa [eB,oK] using L9
     refine ⟨λq=>q=j4,?_,?_,?_,?_,?_⟩
     ·intro q cK cY cs' oU bR r7 vM;obtain ⟨N2,Oi,uE,FV,FJ⟩:=h.part bR (by simp);rw [r7] at uE;cases uE;have aw:q.root=j4.root:=(h.e_ _ _ _ (FJ b (FV.pK b vM)) r6).trans mI;have z_:fB.at q.path=some (.own cK cY cs'):=by simpa [b',aw,k4] using bR
      have GY:walk w v1 q.path=some oU:=by simpa [eB,aw,oK] using r7
      have:=R.HL q.path j4.path RI z_ qW GY Az vM dw;cases q; cases j4; simp_all
     ·rintro q rfl t cK cY bS di ca; exact ⟨h.qt _ _ _ _ _ _ _ _ _ _ _ ca aG,jt⟩
     ·intro t cK hb cY bS di oI ca;have:t=j4.root:=(h.e_ _ _ _ oI r6).trans mI;rw [this] at ca;exact absurd ca (k7 _ _ _ _ _)
     ·intro cK hb cY bS di _ ca;rw [aG] at ca; cases ca; exact ⟨rfl,aP⟩
     ·intro t x v oI J hv bl;have:t=j4.root:=(h.e_ _ _ _ oI r6).trans mI;subst this;rw [k4] at J; cases J;rw [oK] at hv; cases hv;exact ⟨_,_,_,_,_,qW,Az,dw,Nat.mul_le_mul_right _ (by omega)⟩
    ·have xV:Fs p.root b:=(gK.aT b).2 ⟨ka,dw⟩;have mI:t0=p.root:=h.e_ _ _ _ r6 xV;refine ⟨λ_=>False,?_,λ_ h=>h.elim,?_,?_,?_⟩
     ·intro q cK cY cs' oU bR r7 vM;obtain ⟨N2,Oi,uE,FV,FJ⟩:=h.part bR (by simp);rw [r7] at uE;cases uE;have aw:q.root=p.root:=h.e_ _ _ _ (FJ b (FV.pK b vM)) xV;unfold b' at bR;rw [aw,aG] at bR;have:=(ag.sB bR).2;simp at this
     ·intro t cK hb cY bS di oI _; exact ⟨h.e_ _ _ _ oI xV,jt⟩
     ·intro cK hb cY bS di _ ca;rw [aG] at ca; cases ca; exact ⟨rfl,aP⟩
     ·intro t x v oI J hv bl;have:t=p.root:=h.e_ _ _ _ oI xV;subst this;rw [aG] at J; cases J;exact bl.k7.elim
  obtain ⟨N,Lb,Lc,Ld,RF,RG⟩:=home
  -- rows of pends
  have pends:∀ t cK hb cY bS di v xG cU sH iK DD,g t=some (.b8 cK hb cY bS di)->T[t]?=some v->Er w I (ew w T g) cK hb cY bS di v (Fs t) xG cU sH iK DD ->
    (v.ownBlock=some b->(cY+bS) * cK<=n * z)/\(xG.ownBlock=some b->cY * cK<=n * z):=by
   intro t cK hb cY bS di v xG cU sH iK DD ba hv bl;by_cases aJ:t=p.root/\p.path=[]
   ·obtain ⟨rfl,jt⟩:=aJ;obtain ⟨rfl,rfl⟩:=RF _ _ _ _ _ jt ba;exact ⟨λ_=>Nat.le_refl _,λ_=>Nat.mul_le_mul_right _ (by omega)⟩
   ·have uf:xG.ownBlock≠some b:=by
     intro kD;obtain ⟨⟨a2,qP,L_,rfl⟩,SS⟩:=bl.km;rcases SS with ⟨cs2,al⟩ | ⟨bd,Br,Uj,m3,Xp,Wq,al,aQ,bW⟩
     ·exact aJ (Lc hb (Lb hb _ _ _ _ al L_ kD) t _ _ _ _ ba)
     ·obtain ⟨v2,qh,L8,l0⟩:=h.It al;have Da:(⟨hb.root,[]⟩:Place)=hb:=by cases hb; simp_all
      rw [Da,L_] at L8;cases L8;have L0:hb.root=p.root/\p.path=[]->False:=by
       rintro ⟨aw,jt⟩;have:hb=p:=by cases hb; cases p; simp_all
       exact ht t cK cY bS di (this ▸ ba)
      obtain ⟨Pc,jo,Ws,Xy,Xr,l0⟩:=l0.uH;by_cases fe:Pc.ownBlock=some b
      ·obtain ⟨⟨a4,Wp,Th,rfl⟩,_⟩:=l0.km;exact L0 (Lc Br (Lb Br _ _ _ _ bW Th fe) _ _ _ _ _ al)
      ·exact L0 (Ld _ _ _ _ _ _ ((l0.aT b).2 ⟨kD,fe⟩) al)
    refine ⟨λTi=>?_,λkD=>absurd kD uf⟩;exact absurd (Ld _ _ _ _ _ _ ((bl.aT b).2 ⟨Ti,uf⟩) ba) aJ
  -- trees
  have a_:=h.j2;have trees:∀ t x v (ρ':ag->Value->Prop),(∀ x v,ew w T g x v->ρ' x v)->g t=some x->T[t]?=some v->R w I (ew w T g) x v (Fs t)->R w' I ρ' x v (Fs t)/\∀ r y,x.at r=some y->walk w' v r=walk w v r:=by
   intro t x v ρ' lu J hv bl;by_cases oI:Fs t b
   ·obtain ⟨q,cK,cY,cs',iD,h1,al,aQ,bW⟩:=RG t x v oI J hv bl;exact bl.spare s bw lu h1 al aQ bW
   ·have same:∀ c,Fs t c->w'.heap[c]?=w.heap[c]?:=λc ab=>s.other c (a_ t c ab) λe=>oI (e ▸ ab);exact ⟨bl.frame (λc ab=>s.other c (bw c ab).1 (bw c ab).2) (λ_ h=>h) lu same,λr y aw=>R.oV r bl aw same⟩
  have val:∀ q y,b' g q=some y->eB w' T q=eB w T q:=by
   intro q y bR;unfold b' at bR;cases J:g q.root with
   | none=>rw [J] at bR; cases bR
   | some x =>
    rw [J] at bR;obtain ⟨v,hv,bl⟩:=h.rel _ _ J;cases bl with
    | tree bl=>have:=(trees _ x v _ (λ_ _ h=>h) J hv bl).2 q.path y bR; simp [eB,hv,this]
    | b8 bl=>simp [eB,hv,(ag.sB bR).1,walk]
  have slot:∀ {q:Place}{x:ag},q.path=[]->g q.root=some x->eB w' T q=eB w T q:=by
   intro q x bR J;obtain ⟨v,hv,_⟩:=h.rel _ _ J;simp [eB,bR,walk]
  have refs:∀ r v,ew w T g r v->ew w' T g r v:=by
   rintro r v ⟨h1,al⟩;refine ⟨?_,al⟩;cases r <;> simp only [gl,hn] at h1 al ⊢
   case ptr q k=>obtain ⟨y,az,_⟩:=al; rw [val q y az]; exact h1
   case bo cK q cY =>
    rcases al with ⟨_,_,al,_⟩ | ⟨bd,_,_,_,_,al,_⟩
    ·rw [val q _ al]; exact h1
    ·rw [slot bd al]; exact h1
   case sub cK q lo cY=>obtain ⟨_,_,al,_⟩:=al; rw [val q _ al]; exact h1
   case iR q=>obtain ⟨_,al⟩:=al; rw [val q _ al]; exact h1
   case b8 cK q cY bS di =>
    rcases al with ⟨_,al⟩ | ⟨bd,_,_,_,_,_,al,_⟩
    ·rw [val q _ al]; exact h1
    ·rw [slot bd al]; exact h1
  refine ⟨⟨λt x J=>?_,h.kH,h.e_,h.aF,λc ab=>Nat.lt_of_lt_of_le (h.lt c ab) A.fF.size,h.qt⟩,refs⟩;obtain ⟨v,hv,bl⟩:=h.rel t x J;refine ⟨v,hv,?_⟩;cases bl with
  | tree bl=>exact .tree (trees t x v _ refs J hv bl).1
  | @b8 cK cY bS hb di _ xG cU sH iK DD _ bl =>
   obtain ⟨fq,rk⟩:=pends t _ _ _ _ _ v xG cU sH iK DD J hv bl;refine .b8 ⟨refs _ _ bl.km,s.row bl.k3 rk,s.row bl.mG fq,bl.ao,bl.h1,λk x u J hu=>?_,bl.aT⟩;exact (bl.aw k x u J hu).frame (λc ab=>s.other c (bw c ab).1 (bw c ab).2) (λ_ h=>h) refs λc ab=>ab.elim
end
end Go.Own
namespace Go.Own
open Go
def tE (w:World) (I:bz) (T:Array Value) (g:aW) (Fs:Nat->bz) (x:ag) (v:Value) (w':World):Prop :=
 ∃ F I',c7 w' I' T g Fs/\jK w' I' (ew w' T g) x v F/\(∀ t c,F c->¬ Fs t c)/\(∀ c,F c->w.heap.size<=c/\¬ I' c)/\(∀ c,I c->I' c)/\(∀ c,I' c->I c\/w.heap.size<=c)/\Fr w w' (λc=>∃ t,Fs t c)/\(∀ z p n m new,x=.b8 z p n m new->∀ t cK cY bS di,g t≠some (.b8 cK p cY bS di))
inductive Src (g:aW):ag->Nat->Nat->List ag->Prop
 | aF {z m:Nat}{cs:List ag}:Src g (.aF z m cs) z m cs
 | aN {z:Nat}:Src g .aN z 0 []
 | bo {z m N:Nat}{q:Place}{cs:List ag}(bR:b' g q=some (.own z N cs)) (hm:m<=N):Src g (.bo z q m) z m ((cs.take (m * z)).mapIdx λi x=>im 0 (q.push i) x)
 | sub {z lo m N:Nat}{q:Place}{cs:List ag}(bR:b' g q=some (.own z N cs)) (hm:lo+m<=N):Src g (.sub z q lo m) z m (((cs.drop (lo * z)).take (m * z)).mapIdx λi x=>im 0 (q.push (lo * z+i)) x)
def iY (P:Program) (t e:TypeId) (z b:Nat):Bool :=
 match P.underlying t,P.info? e with
 | some (.slice cU),some i=>cU == e&&i.size == z&&i.bytes == b&&z != 0&&(match i.zero with | some v=>v.cells.size == z | none=>false)
 | _,_=>false
section
variable {P:Program}{w:World}{I:bz}{T:Array Value}{g:aW}{Fs:Nat->bz}
theorem Ju {t e:TypeId}{z b:Nat}(h:iY P t e z b=true):∃ i ev,P.underlying t=some (.slice e)/\P.info? e=some i/\i.size=z/\i.bytes=b/\0<z/\i.zero=some ev/\ev.cells.size=z:=by
 unfold iY at h;cases hu:P.underlying t with
 | none=>simp [hu] at h
 | some d =>
  cases hi:P.info? e with
  | none=>cases d <;> simp [hu,hi] at h
  | some i =>
   cases d <;> simp [hu,hi] at h;obtain ⟨⟨⟨⟨rfl,h1⟩,al⟩,aQ⟩,bW⟩:=h;cases bA:i.zero with
   | none=>simp [bA] at bW
   | some ev=>simp [bA] at bW; exact ⟨i,ev,rfl,rfl,h1,al,by omega,bA,bW⟩
theorem Src.sound (h:c7 w I T g Fs) {y:ag}{v:Value}{z m:Nat}{cells:List ag}(aL:Src g y z m cells) (bl:R w I (ew w T g) y v cW) :
  ∃ (a:Option Addr) (c:Nat) (news:List Value),v=.slice a m c/\news.length=m * z/\(0<m->0<z->a.isSome=true)/\(∀ ad,a=some ad->∀ (ae:Nat) (u:Value),news[ae]?=some u->w.cell? (ad.add ae)=some u)/\Cells w I (ew w T g) cells news:=by
 have MC:∀ {q:Place}{N:Nat}{cs:List ag}(lo:Nat) {a:Option Addr}{cap:Nat},b' g q=some (.own z N cs)->eB w T q=some (.slice a N cap)->lo+m<=N ->
   ∃ news:List Value,news.length=m * z/\(∀ ad,a=some ad->∀ (ae:Nat) (u:Value),news[ae]?=some u->w.cell? ⟨ad.block,lo * z+ae,none⟩=some u)/\Cells w I (ew w T g) (((cs.drop (lo * z)).take (m * z)).mapIdx λi x=>im 0 (q.push (lo * z+i)) x) news/\(0<m->0<z->∃ b,a=some ⟨b,0,none⟩):=by
  intro q N cs lo a cap bR hv hm;obtain ⟨hT,cN,jc,dZ,_⟩:=h.part bR (by simp);rw [hv] at jc;cases jc;obtain ⟨cF,lV,kb,_,hlen,qd,_⟩:=dZ.mS;cases kb;have z':lo * z+m * z<=cs.length:=by rw [hlen,<- Nat.add_mul]; exact Nat.mul_le_mul_right _ hm
  have cell:∀ ae,ae<m * z->∃ b gG ku,a=some ⟨b,0,none⟩/\w.cell? ⟨b,lo * z+ae,none⟩=some gG/\gG.oneCell'=true/\cs[lo * z+ae]?=some ku/\R w I (ew w T g) (im 0 (q.push (lo * z+ae)) ku) gG cW:=by
   intro ae aa;have gw:cs[lo * z+ae]?=some cs[lo * z+ae]:=List.getElem?_eq_getElem (by omega);obtain ⟨b,gG,fV,lF,l7,gY,b3,j8⟩:=dZ.node (.inl rfl) gw;refine ⟨b,gG,_,?_,lF,gY,gw,DW 0 (by rw [sA,bR]; simp [ag.kids]) (by rw [w7,hv]; exact l7) j8⟩;cases a with
   | none=>simp [addrOf] at fV
   | some ad=>simp only [addrOf] at fV; rw [Option.some.inj fV]
  have sY:∃ news:List Value,news.length=m * z/\∀ ae,ae<m * z->∃ b gG ku,news[ae]?=some gG/\a=some ⟨b,0,none⟩/\w.cell? ⟨b,lo * z+ae,none⟩=some gG/\gG.oneCell'=true/\cs[lo * z+ae]?=some ku/\R w I (ew w T g) (im 0 (q.push (lo * z+ae)) ku) gG cW:=by
   refine ⟨(List.range (m * z)).map λae=>(w.cell? ⟨(a.map (·.block)).getD 0,lo * z+ae,none⟩).getD undef,by simp,λae aa=>?_⟩;obtain ⟨b,gG,ku,h1,al,aQ,bW,da⟩:=cell ae aa;refine ⟨b,gG,ku,?_,h1,al,aQ,bW,da⟩;rw [List.getElem?_map,List.getElem?_range aa,h1];simp [al]
  obtain ⟨news,ao,aP⟩:=sY;refine ⟨news,ao,λad fV ae u aa=>?_,⟨?_,λae u aa=>?_,λae x u J aa=>?_⟩,λGA Dl=>?_⟩
  ·obtain ⟨b,gG,ku,h1,al,aQ,_⟩:=aP ae (by rw [<- ao]; exact (List.getElem?_eq_some_iff.1 aa).1);rw [h1] at aa; cases aa;rw [fV] at al; cases al;exact aQ
  ·simp; omega
  ·obtain ⟨b,gG,ku,h1,al,aQ,bW,_⟩:=aP ae (by rw [<- ao]; exact (List.getElem?_eq_some_iff.1 aa).1);rw [h1] at aa; cases aa; exact bW
  ·obtain ⟨b,gG,ku,h1,al,aQ,bW,da,eb⟩:=aP ae (by rw [<- ao]; exact (List.getElem?_eq_some_iff.1 aa).1);rw [h1] at aa; cases aa;rw [List.getElem?_mapIdx,List.getElem?_take] at J
   split at J
   ·rw [List.getElem?_drop,da] at J;simp only [Option.map_some,Option.some.injEq] at J;rw [<- J]; exact eb
   ·cases J
  ·obtain ⟨b,_,_,h1,_⟩:=cell 0 (Nat.mul_pos GA Dl);exact ⟨b,h1⟩
 cases aL with
 | aF =>
  obtain ⟨a,cap,rfl,_,hlen,hm⟩:=bl.yf;by_cases bd:cells≠[]\/0<m
  ·obtain ⟨ad,us,rfl,bw,ko,gY,ab,aw⟩:=hm bd;refine ⟨_,cap,(List.range cells.length).map us,rfl,by simp [hlen],by simp,λOB fV ae u aa=>?_,⟨by simp,λae u aa=>?_,λae x u J aa=>?_⟩⟩
   ·cases fV;rw [List.getElem?_map] at aa;by_cases fj:ae<cells.length
    ·rw [List.getElem?_range fj] at aa;simp only [Option.map_some,Option.some.injEq] at aa;obtain ⟨b,o,sp⟩:=ad;simp only at ko;subst ko;rw [add_eq,<- aa];exact ab ae _ (List.getElem?_eq_getElem fj)
    ·rw [List.getElem?_eq_none (by simp; omega)] at aa; cases aa
   ·rw [List.getElem?_map] at aa;by_cases fj:ae<cells.length
    ·rw [List.getElem?_range fj] at aa;simp only [Option.map_some,Option.some.injEq] at aa;rw [<- aa];exact gY ae _ (List.getElem?_eq_getElem fj)
    ·rw [List.getElem?_eq_none (by simp; omega)] at aa; cases aa
   ·rw [List.getElem?_map] at aa;have fj:ae<cells.length:=(List.getElem?_eq_some_iff.1 J).1;rw [List.getElem?_range fj] at aa;simp only [Option.map_some,Option.some.injEq] at aa;rw [<- aa];exact aw ae x J
  ·have GA:m=0:=by omega
   have Sh:cells=[]:=Classical.byContradiction λe=>bd (.inl e);subst GA Sh;exact ⟨a,cap,[],rfl,by simp,by simp,by simp,by simp [Cells]⟩
 | aN =>
  rw [bl.rf];exact ⟨none,0,[],rfl,by simp,by simp,by simp,by simp [Cells]⟩
 | @bo _ _ N q cs bR hm =>
  obtain ⟨⟨a,iW,cap,h1,rfl,aQ⟩,bW⟩:=bl.mN;obtain ⟨hT,cN,jc,dZ,_⟩:=h.part bR (by simp);obtain ⟨cF,lV,kb,_⟩:=dZ.mS;rw [h1] at jc;cases jc;cases kb;obtain ⟨news,ao,ab,hs,bf⟩:=MC 0 bR h1 (by omega);simp only [Nat.zero_mul,List.drop_zero,Nat.zero_add] at hs ab;refine ⟨a,cap,news,rfl,ao,λbd CO=>by obtain ⟨b,rfl⟩:=bf bd CO; rfl,λad fV ae u aa=>?_,hs⟩;have ur:=ab ad fV ae u aa;by_cases bd:0<m/\0<z
  ·obtain ⟨b,aK⟩:=bf bd.1 bd.2;rw [fV] at aK; cases aK;rw [add_eq]; simpa using ur
  ·have:m * z=0:=by
    rcases Nat.eq_zero_or_pos m with h | h
    ·simp [h]
    ·rcases Nat.eq_zero_or_pos z with aR | aR
     ·simp [aR]
     ·exact absurd ⟨h,aR⟩ bd
   have:=(List.getElem?_eq_some_iff.1 aa).1;omega
 | @sub _ lo _ N q cs bR hm =>
  obtain ⟨⟨a,iW,cap,cF,lV,h1,rfl,_,aQ,da⟩,bW⟩:=bl.wb;obtain ⟨hT,cN,jc,dZ,_⟩:=h.part bR (by simp);obtain ⟨a2,qP,kb,_⟩:=dZ.mS;rw [h1] at jc;cases jc;cases kb;obtain ⟨news,ao,ab,hs,bf⟩:=MC lo bR h1 hm;refine ⟨cF,lV,news,rfl,ao,λbd _=>by obtain ⟨ad,_,rfl⟩:=da bd; rfl,λad fV ae u aa=>?_,hs⟩;have a_:=(List.getElem?_eq_some_iff.1 aa).1;have bd:0<m:=(Nat.eq_zero_or_pos m).elim (λh=>by rw [h] at ao; omega) id

  have bA:0<z:=(Nat.eq_zero_or_pos z).elim (λh=>by rw [h] at ao; omega) id

  obtain ⟨OB,eb,kC⟩:=da bd;obtain ⟨b,aK⟩:=bf bd bA;rw [eb] at aK; cases aK;rw [fV] at kC; cases kC;have ur:=ab _ eb ae u aa;rw [add_eq]; simpa using ur
end
end Go.Own
namespace Go.Own
open Go
inductive y7 (P:Program) (g:aW):Op->TypeId->ag->Prop
 | grow {s x:Operand}{t e ty:TypeId}{z b n m:Nat}{p:Place}{y:ag}{cells:List ag}(aL:bT g s=some (.bo z p n)) (eo:hn g (.b8 z p n 0 [])) (ht:∀ t cK cY bS di,g t≠some (.b8 cK p cY bS di))
   (J:bT g x=some y) (q5:Src g y z m cells) (aJ:iY P t e z b=true) (pf:n+m<=4611686018427387904) (aK:(n+m) * b<=140737488355328) :
   y7 P g (.call { callee:=.builtin .append,args:=#[s,x],argTypes:=#[t,t] }) ty (.b8 z p n m cells)
 | nil {s x:Operand}{t e ty:TypeId}{z b m:Nat}{y:ag}{cells:List ag}(aL:bT g s=some .aN)
   (J:bT g x=some y) (q5:Src g y z m cells) (aJ:iY P t e z b=true) (pf:m<=4611686018427387904) (aK:m * b<=140737488355328) :
   y7 P g (.call { callee:=.builtin .append,args:=#[s,x],argTypes:=#[t,t] }) ty (.own z m cells)
inductive dv (P:Program) (g:aW):Op->TypeId->ag->Prop
 | fq {op:Op}{ty:TypeId}{x:ag}(h:dp P g op ty x):dv P g op ty x
 | rk {op:Op}{ty:TypeId}{x:ag}(h:o1 P g op ty x):dv P g op ty x
 | DL {op:Op}{ty:TypeId}{x:ag}(h:tH P g op ty x):dv P g op ty x
 | lM {op:Op}{ty:TypeId}{x:ag}(h:y7 P g op ty x):dv P g op ty x
section
variable {P:Program}{w:World}{I:bz}{T:Array Value}{g:aW}{Fs:Nat->bz}
theorem Cells.frame {w':World}{cells:List ag}{news:List Value}(ab:Cells w I (ew w T g) cells news) (bw:∀ c,I c->w'.heap[c]?=w.heap[c]?) (aw:∀ r v,ew w T g r v->ew w' T g r v):Cells w' I (ew w' T g) cells news :=
 ⟨ab.1,ab.2.1,λk x u J hu=>(ab.2.2 k x u J hu).frame bw (λ_ h=>h) aw λ_ h=>h.elim⟩
theorem y7.sound (h:c7 w I T g Fs) {a:Act}(bf:a.tmps=T) {o:Oper}{kg:ag}(aG:y7 P g o.op o.type kg) :
  ∃ v w',(execOp a.eval o).run P w=.ok (.value v) w'/\tE w I T g Fs kg v w':=by
 obtain ⟨dst,op,ty,pos,after,guard⟩:=o;simp only at aG;cases aG with
 | @grow s x t e _ z b n m p y cells aL eo ht J q5 aJ pf aK =>
  obtain ⟨i,ev,hu,hi,rfl,rfl,bd,bA,n5⟩:=Ju aJ;obtain ⟨⟨vh,N,vi,h1,al,aQ⟩,bW⟩:=(k9 h aL bf).mN;obtain ⟨Bv,Ii,news,s3,ao,As,Au,hs⟩:=q5.sound h (k9 h J bf)
  -- the row of the base
  have oG:N=n/\∃ cU us,w.ownsRow 0 cU i.size (.slice vh n vi) n us:=by
   rcases eo with ⟨cs,aG⟩ | ⟨jt,q,hG,m0,new,cs,aG,rfl,_⟩
   ·obtain ⟨hT,cN,jc,dZ,_⟩:=h.part aG (by simp);rw [h1] at jc;cases jc;obtain ⟨cF,lV,kb,_⟩:=dZ.mS;cases kb;cases dZ with
    | own bh=>exact ⟨rfl,_,_,bh⟩
    | ref J=>simp [ag.isRef] at J
   ·obtain ⟨v0,ju,Ax,gK⟩:=h.It aG;have bR:(⟨p.root,[]⟩:Place)=p:=by cases p; simp_all
    rw [bR,h1] at Ax;cases Ax;obtain ⟨bv,dg,c5,us,Xs,gK⟩:=gK.uH;have b5:N=hG+m0:=by
     obtain ⟨_,ca⟩:=gK.mG;rcases ca with ⟨ca,aP⟩ | ⟨g,cap,cur,ca,_⟩
     ·cases ca; omega
     ·cases ca; rfl
    subst b5;exact ⟨rfl,_,_,gK.mG⟩
  obtain ⟨rfl,cU,us,k3⟩:=oG;have km:ew w T g (.b8 i.size p N 0 []) (.slice vh N vi):=⟨⟨vh,vi,h1,rfl⟩,eo⟩;obtain ⟨hT,w',c5,ij,A⟩:=Nk (P:=P) (w:=w) t ty e cU i ev hu hi bA n5 bd k3 (a:=Bv) (c:=Ii) (m:=m) (news:=news) (λhm=>As hm bd) ao Au (λu hu=>by
   obtain ⟨k,hk,rfl⟩:=List.mem_iff_getElem.1 hu;exact hs.2.1 k _ (List.getElem?_eq_getElem hk)) (by unfold maxLen; omega) aK
  obtain ⟨b6,hrefs⟩:=h.app km ht A;refine ⟨hT,w',by simp [execOp,resolve,invoke,builtin,al,s3,ij],(λc=>hT.ownBlock=some c/\(Value.slice vh N vi).ownBlock≠some c),I,b6,?_,?_,?_,λ_ h=>h,λ_ h=>.inl h,?_,?_⟩
  ·have bw:∀ c,I c->w'.heap[c]?=w.heap[c]?:=by
    intro c ab;refine A.fF.block c (h.lt c ab) λaK=>?_;obtain ⟨t,aJ⟩:=h.Ce km c aK;exact h.aF t c aJ ab
   have lq:=hs.frame bw hrefs;exact .b8 ⟨hrefs _ _ km,A.lL,A.new,lq.1,lq.2.1,lq.2.2,λc=>Iff.rfl⟩
  ·rintro t c ⟨k1,sV⟩ bn;rcases A.Cf c k1 with h | aR
   ·exact sV h
   ·have:=h.j2 t c bn; omega
  ·rintro c ⟨k1,sV⟩;rcases A.Cf c k1 with aR | aR
   ·exact absurd aR sV
   ·exact ⟨aR,λhi=>by have:=h.lt c hi; omega⟩
  ·exact A.fF.mono λc _ ab=>h.Ce km c ab
  ·intro cK UC cY bS di he;cases he;exact ht
 | @nil s x t e _ z b m y cells aL J q5 aJ pf aK =>
  obtain ⟨i,ev,hu,hi,rfl,rfl,bd,bA,n5⟩:=Ju aJ;have al:=(k9 h aL bf).rf;obtain ⟨Bv,Ii,news,s3,ao,As,Au,hs⟩:=q5.sound h (k9 h J bf);obtain ⟨hT,w',c5,ij,A⟩:=Nk (P:=P) (w:=w) t ty e e i ev hu hi bA n5 bd (World.ownsRow_nil w 0 e i.size) (a:=Bv) (c:=Ii) (m:=m) (news:=news) (λhm=>As hm bd) ao Au (λu hu=>by
   obtain ⟨k,hk,rfl⟩:=List.mem_iff_getElem.1 hu;exact hs.2.1 k _ (List.getElem?_eq_getElem hk)) (by unfold maxLen; omega) (by simpa using aK)
  have same:∀ c,c<w.heap.size->w'.heap[c]?=w.heap[c]?:=λc ab=>A.fF.block c ab (by simp [Value.ownBlock]);have q3:=A.new;simp only [Nat.zero_add,List.nil_append] at q3;have lq:=hs.frame (λc ab=>same c (h.lt c ab)) λr v aw=>h.DX (λ_ _=>rfl) (λt c ab=>same c (h.j2 t c ab)) (λ_ _ h=>h) aw;have hblk:∀ c,hT.ownBlock=some c->w.heap.size<=c:=λc ab=>(A.Cf c ab).elim (λh=>by simp [Value.ownBlock] at h) id;refine ⟨hT,w',by simp [execOp,resolve,invoke,builtin,al,s3,ij],(λc=>hT.ownBlock=some c),I,h.world (λt c ab=>same c (h.j2 t c ab)) (λc ab=>same c (h.lt c ab)) A.fF.size,?_,?_,λc ab=>⟨hblk c ab,λhi=>by have:=h.lt c hi; have:=hblk c ab; omega⟩,λ_ h=>h,λ_ h=>.inl h,?_,?_⟩
  ·exact .tree (.own (Fs:=λ_=>cW) q3 lq.1 lq.2.1 lq.2.2 (λ_ _ _ _ _ h=>h.elim) (λ_ _ _ h=>h.elim) λc=>⟨.inl,λh=>h.elim id λ⟨_,_,h⟩=>h.elim⟩)
  ·intro t c ab bn; have:=hblk c ab; have:=h.j2 t c bn; omega
  ·exact A.fF.mono λc _ ab=>by simp [Value.ownBlock] at ab
  ·intro cK UC cY bS di he; cases he
theorem dv.sound (h:c7 w I T g Fs) {a:Act}(bf:a.tmps=T) {o:Oper}{kg:ag}(aG:dv P g o.op o.type kg) :
  ∃ v w',(execOp a.eval o).run P w=.ok (.value v) w'/\tE w I T g Fs kg v w':=by
 have AT:∀ {v:Value}{F:bz},R w I (ew w T g) kg v F->∀ z p n m new,kg=.b8 z p n m new->∀ t cK cY bS di,g t≠some (.b8 cK p cY bS di):=by
  rintro v F bl z p n m new rfl;exact bl.k7.elim
 cases aG with
 | fq aG =>
  obtain ⟨v,aw,bl⟩:=aG.sound h bf;exact ⟨v,w,aw,cW,I,h,.tree bl,λ_ _ h=>h.elim,λ_ h=>h.elim,λ_ h=>h,λ_ h=>.inl h,Fr.refl _ _,AT bl⟩
 | DL aG =>
  obtain ⟨v,aw,bl⟩:=aG.sound h bf;exact ⟨v,w,aw,cW,I,h,.tree bl,λ_ _ h=>h.elim,λ_ h=>h.elim,λ_ h=>h,λ_ h=>.inl h,Fr.refl _ _,AT bl⟩
 | rk aG =>
  obtain ⟨v,rj,aw,bl⟩:=aG.sound h bf;refine ⟨v,_,aw,_,I,h.alloc rj,.tree bl,λt c ab bn=>?_,λc ab=>⟨by rw [ab]; exact Nat.le_refl _,λhi=>by have:=h.lt c hi; omega⟩,λ_ h=>h,λ_ h=>.inl h,Fr.alloc w rj _ (by
   obtain ⟨o,h1,al⟩:=bl.UW w.heap.size rfl;rw [sy] at h1;cases h1;exact al),?_⟩
  ·have:=h.j2 t c bn; omega
  ·rintro z p n m new rfl; exact bl.k7.elim
 | lM aG=>exact aG.sound h bf
end
end Go.Own
namespace Go.Own
open Go
inductive dc:ag->Prop
 | lit {v:Value}:dc (.lit v)
 | aN:dc .aN
 | dead:dc .dead
 | aF {z n:Nat}{cs:List ag}(h:∀ x∈cs,dc x):dc (.aF z n cs)
 | own {z n:Nat}{cs:List ag}(h:∀ x∈cs,dc x):dc (.own z n cs)
 | obj {cs:List ag}(h:∀ x∈cs,dc x):dc (.obj cs)
 | agg {cs:List ag}(h:∀ x∈cs,dc x):dc (.agg cs)
 | cC {cs:List ag}(h:∀ x∈cs,dc x):dc (.cC cs)
 | bk {cs:List ag}(h:∀ x∈cs,dc x):dc (.bk cs)
 | et {fn:Fn}{a b:List ag}(h1:∀ x∈a,dc x) (al:∀ x∈b,dc x):dc (.et fn a b)
 | mp {p:Array MapEntry->Nat->Prop}:dc (.mp p)
 | imp {p:Array MapEntry->Nat->Prop}:dc (.imp p)
inductive kx:ag->Prop
 | lit {v:Value}:kx (.lit v)
 | aN:kx .aN
 | dead:kx .dead
 | own {z n:Nat}{cs:List ag}(h:∀ x∈cs,kx x):kx (.own z n cs)
 | obj {cs:List ag}(h:∀ x∈cs,kx x):kx (.obj cs)
 | agg {cs:List ag}(h:∀ x∈cs,kx x):kx (.agg cs)
 | cC {cs:List ag}(h:∀ x∈cs,kx x):kx (.cC cs)
 | mp {p:Array MapEntry->Nat->Prop}:kx (.mp p)
theorem kx.bL {x:ag}(h:kx x):dc x:=by
 induction h with
 | lit=>exact .lit
 | aN=>exact .aN
 | dead=>exact .dead
 | own _ aS=>exact .own aS
 | obj _ aS=>exact .obj aS
 | agg _ aS=>exact .agg aS
 | cC _ aS=>exact .cC aS
 | mp=>exact .mp
inductive Rows (g:aW):Place->Nat->Nat->List ag->Prop
 | own {p:Place}{z n:Nat}{cs:List ag}(aG:b' g p=some (.own z n cs)):Rows g p z n cs
 | b8 {t z n m:Nat}{q:Place}{new cs:List ag}(aJ:g t=some (.b8 z q n m new)) (bR:Rows g q z n cs):Rows g ⟨t,[]⟩ z (n+m) (cs++new)
theorem Rows.mono {g g':aW}(h:∀ {p:Place}{y:ag},b' g p=some y->b' g' p=some y) {p:Place}{z n:Nat}{cs:List ag}(aw:Rows g p z n cs) (al:∀ t x,g t=some x->g' t=some x):Rows g' p z n cs:=by
 induction aw with
 | own aG=>exact .own (h aG)
 | b8 aJ _ aS=>exact .b8 (al _ _ aJ) aS
inductive View (g:aW):ag->ag->Prop
 | self {x:ag}(h:dc x) (J:∀ z n cs,x≠.own z n cs) (bh:∀ cs,x≠.obj cs) (bf:∀ cs,x≠.agg cs) (aJ:∀ cs,x≠.cC cs) (hm:∀ p,x≠.mp p):View g x x
 | mp {p:Array MapEntry->Nat->Prop}:View g (.mp p) (.imp p)
 | iR {p:Place}{q:Array MapEntry->Nat->Prop}(aG:b' g p=some (.mp q)):View g (.iR p) (.imp q)
 | pI {z:Nat}:View g .aN (.aF z 0 [])
 | agg {cs cs':List ag}(ao:cs'.length=cs.length) (h:∀ (k:Nat) (x y:ag),cs[k]?=some x->cs'[k]?=some y->View g x y):View g (.agg cs) (.agg cs')
 | own {z n:Nat}{cs cs':List ag}(ao:cs'.length=cs.length) (h:∀ (k:Nat) (x y:ag),cs[k]?=some x->cs'[k]?=some y->View g x y):View g (.own z n cs) (.aF z n cs')
 | obj {cs cs':List ag}(ao:cs'.length=cs.length) (h:∀ (k:Nat) (x y:ag),cs[k]?=some x->cs'[k]?=some y->View g x y):View g (.obj cs) (.bk cs')
 | bo {z n N:Nat}{p:Place}{cs cs':List ag}(aG:b' g p=some (.own z N cs)) (aP:n<=N) (ao:cs'.length=(cs.take (n * z)).length) (h:∀ (k:Nat) (x y:ag),(cs.take (n * z))[k]?=some x->cs'[k]?=some y->View g x y):View g (.bo z p n) (.aF z n cs')
 | sub {z lo n N:Nat}{p:Place}{cs cs':List ag}(aG:b' g p=some (.own z N cs)) (aP:lo+n<=N) (ao:cs'.length=((cs.drop (lo * z)).take (n * z)).length) (h:∀ (k:Nat) (x y:ag),((cs.drop (lo * z)).take (n * z))[k]?=some x->cs'[k]?=some y->View g x y):View g (.sub z p lo n) (.aF z n cs')
 | ptr {p:Place}{k z n:Nat}{y:ag}{cs cs':List ag}(aG:b' g p=some y) (az:y=.own z n cs\/y=.obj cs) (hk:k<cs.length) (ao:cs'.length=(cs.drop k).length) (h:∀ (ae:Nat) (x y:ag),(cs.drop k)[ae]?=some x->cs'[ae]?=some y->View g x y):View g (.ptr p k) (.bk cs')
 | et {fn:Fn}{cs cs':List ag}(ao:cs'.length=cs.length) (h:∀ (k:Nat) (x y:ag),cs[k]?=some x->cs'[k]?=some y->View g x y):View g (.et fn [] cs) (.et fn [] cs')
 | rows {z n:Nat}{p:Place}{cs cs':List ag}(aG:Rows g p z n cs) (ao:cs'.length=cs.length) (h:∀ (k:Nat) (x y:ag),cs[k]?=some x->cs'[k]?=some y->View g x y):View g (.bo z p n) (.aF z n cs')
section
variable {P:Program}{w:World}{I:bz}{T:Array Value}{g:aW}{Fs:Nat->bz}
theorem R.bL {ρ ρ':ag->Value->Prop}{x:ag}{v:Value}{F:bz}(h:R w I ρ x v F):dc x->R w I ρ' x v F:=by
 induction h with
 | lit h aT=>exact λ_=>.lit h aT
 | aN aT=>exact λ_=>.aN aT
 | dead aT=>exact λ_=>.dead aT
 | @ref x _ _ J h aT=>intro aP; cases aP <;> simp [ag.isRef] at J
 | hS aT=>exact λ_=>.hS aT
 | aF aT k2 bw aL ao h1 ab aw aS=>exact λaP=>.aF aT k2 bw aL ao h1 ab λk x J=>aS k x J (by cases aP with | aF h=>exact h x (List.mem_of_getElem? J))
 | bk aT bw aL h1 ab aw aS=>exact λaP=>.bk aT bw aL h1 ab λk x J=>aS k x J (by cases aP with | bk h=>exact h x (List.mem_of_getElem? J))
 | own bh ao h1 aw aU aK aT aS=>exact λaP=>.own bh ao h1 (λk x u J hu=>aS k x u J hu (by cases aP with | own h=>exact h x (List.mem_of_getElem? J))) aU aK aT
 | obj bh ao h1 aw aU aK aT aS=>exact λaP=>.obj bh ao h1 (λk x u J hu=>aS k x u J hu (by cases aP with | obj h=>exact h x (List.mem_of_getElem? J))) aU aK aT
 | agg ao h1 aw aU aT aS=>exact λaP=>.agg ao h1 (λk x u J hu=>aS k x u J hu (by cases aP with | agg h=>exact h x (List.mem_of_getElem? J))) aU aT
 | cC ao aw aU aT aS=>exact λaP=>.cC ao (λk x u J hu=>aS k x u J hu (by cases aP with | cC h=>exact h x (List.mem_of_getElem? J))) aU aT
 | mp bh aG aT=>exact λ_=>.mp bh aG aT
 | imp aT bw bh aG=>exact λ_=>.imp aT bw bh aG
 | et aT h1 al j0 iG gx gq=>exact λaP=>.et aT h1 al (λk x u J hu=>gx k x u J hu (by cases aP with | et h _=>exact h x (List.mem_of_getElem? J))) (λk x u J hu=>gq k x u J hu (by cases aP with | et _ h=>exact h x (List.mem_of_getElem? J)))
theorem R.nm {ρ:ag->Value->Prop}{I':bz}{x:ag}{v:Value}{F:bz}(h:R w I ρ x v F) (bw:∀ c,I c->I' c):R w I' ρ x v F :=
 h.frame (λ_ _=>rfl) bw (λ_ _ h=>h) λ_ _=>rfl
theorem R.k8 {ρ ρ':ag->Value->Prop}{I':bz}{x:ag}{v:Value}{F:bz}(h:R w I ρ x v F):kx x->R w I' ρ' x v F:=by
 induction h with
 | lit h aT=>exact λ_=>.lit h aT
 | aN aT=>exact λ_=>.aN aT
 | dead aT=>exact λ_=>.dead aT
 | @ref x _ _ J h aT=>intro aP; cases aP <;> simp [ag.isRef] at J
 | hS=>intro aP; cases aP
 | aF=>intro aP; cases aP
 | bk=>intro aP; cases aP
 | own bh ao h1 aw aU aK aT aS=>exact λaP=>.own bh ao h1 (λk x u J hu=>aS k x u J hu (by cases aP with | own h=>exact h x (List.mem_of_getElem? J))) aU aK aT
 | obj bh ao h1 aw aU aK aT aS=>exact λaP=>.obj bh ao h1 (λk x u J hu=>aS k x u J hu (by cases aP with | obj h=>exact h x (List.mem_of_getElem? J))) aU aK aT
 | agg ao h1 aw aU aT aS=>exact λaP=>.agg ao h1 (λk x u J hu=>aS k x u J hu (by cases aP with | agg h=>exact h x (List.mem_of_getElem? J))) aU aT
 | cC ao aw aU aT aS=>exact λaP=>.cC ao (λk x u J hu=>aS k x u J hu (by cases aP with | cC h=>exact h x (List.mem_of_getElem? J))) aU aT
 | et=>intro aP; cases aP
 | mp bh aG aT=>exact λ_=>.mp bh aG aT
 | imp=>intro aP; cases aP
theorem R.yt {ρ:ag->Value->Prop}{z n:Nat}{cs:List ag}{v:Value}{F:bz}(h:R w I ρ (.own z n cs) v F):∃ (a:Option Addr) (cap:Nat) (us:Nat->Value) (b3:Nat->bz),v=.slice a n cap/\n<=cap/\cs.length=n * z /\
  (∀ ad,a=some ad->∃ b,ad=⟨b,0,none⟩/\F b)/\(∀ (k:Nat) (x:ag),cs[k]?=some x->∃ b,a=some ⟨b,0,none⟩/\w.cell? ⟨b,k,none⟩=some (us k)/\(us k).oneCell'=true/\R w I ρ x (us k) (b3 k)/\∀ c,b3 k c->F c):=by
 have bd:=h;cases h with
 | ref J=>simp [ag.isRef] at J
 | @own _ _ _ _ e us Fs _ bh ao h1 aw aU aK aT =>
  obtain ⟨a,cap,rfl,aP,hlen,qd,r5⟩:=bd.mS;refine ⟨a,cap,λk=>us.getD k undef,Fs,rfl,aP,hlen,λad fV=>?_,λk x hk=>?_⟩
  ·obtain ⟨Ag,Ah⟩:=qd ad fV;obtain ⟨b,o,sp⟩:=ad;simp only at Ag Ah;subst Ag Ah;exact ⟨b,rfl,(aT b).2 (.inl (by rw [fV]; rfl))⟩
  ·have a_:k<cs.length:=(List.getElem?_eq_some_iff.1 hk).1;have hu:us[k]?=some us[k]:=List.getElem?_eq_getElem (ao ▸ a_);obtain ⟨b,u,fV,lF,l7,gY,_⟩:=bd.node (.inl rfl) hk;have:a=some ⟨b,0,none⟩:=by
    cases a with
    | none=>simp [addrOf] at fV
    | some ad=>simp only [addrOf] at fV; rw [Option.some.inj fV]
   rw [oa bh hu] at l7;cases l7;refine ⟨b,this,?_,?_,?_,λc ab=>(aT c).2 (.inr ⟨k,a_,ab⟩)⟩
   ·simpa [List.getD,hu] using lF
   ·simpa [List.getD,hu] using gY
   ·simpa [List.getD,hu] using aw k x _ hk hu
theorem R.DF {ρ:ag->Value->Prop}{y:ag}{v:Value}{F:bz}{z n:Nat}{cs:List ag}(h:R w I ρ y v F) (az:y=.own z n cs\/y=.obj cs) {ad:Addr}(bf:addrOf v=some ad):F ad.block:=by
 rcases az with rfl | rfl
 ·obtain ⟨a,cap,rfl,_⟩:=h.mS;refine h.pK _ ?_;cases a with
  | none=>simp [addrOf] at bf
  | some a=>simp only [addrOf,Option.some.injEq] at bf; subst bf; rfl
 ·cases h with
  | ref J=>simp [ag.isRef] at J
  | obj bh ao h1 aw aU aK aT=>simp only [addrOf,Option.some.injEq] at bf; subst bf; exact (aT _).2 (.inl rfl)
theorem UA {w:World}{e cU:TypeId}{z n:Nat}{v:Value}{us iK:List Value}(h:w.ownsRow 0 e z v n us) (aR:w.ownsRow 0 cU z v n iK):us=iK:=by
 obtain ⟨h1,al⟩:=h;obtain ⟨aQ,bW⟩:=aR;rcases al with ⟨rfl,rfl⟩ | ⟨b,cap,cur,rfl,_,ca,_,_,_,aJ⟩
 ·have dg:us=[]:=List.eq_nil_of_length_eq_zero (by simpa using h1);have c5:iK=[]:=List.eq_nil_of_length_eq_zero (by simpa using aQ);rw [dg,c5]
 ·rcases bW with ⟨dg,_⟩ | ⟨iQ,lV,Qq,dg,_,LD,_,_,_,qe⟩
  ·cases dg
  ·cases dg;rw [ca] at LD;cases LD;rw [<- aJ,<- qe]
theorem Rows.sound {ρ:ag->Value->Prop}(H1:∀ t z q n m new,g t=some (.b8 z q n m new)->∃ v,T[t]?=some v/\jK w I ρ (.b8 z q n m new) v (Fs t))
  (Ol:∀ p z n cs,b' g p=some (.own z n cs)->∃ v cN,eB w T p=some v/\R w I ρ (.own z n cs) v cN/\∀ c,cN c->Fs p.root c) (y4:∀ z p n v,ρ (.b8 z p n 0 []) v->eB w T p=some v) {p:Place}{z n:Nat}{cs:List ag}(h:Rows g p z n cs) :
  ∃ v e us,eB w T p=some v/\w.ownsRow 0 e z v n us/\us.length=cs.length/\(∀ (k:Nat) (u:Value),us[k]?=some u->u.oneCell'=true)/\(∀ c,v.ownBlock=some c->∃ t,Fs t c) /\
   (∀ (k:Nat) (x:ag) (u:Value),cs[k]?=some x->us[k]?=some u->∃ b3,R w I ρ x u b3/\∀ c,b3 c->∃ t,Fs t c):=by
 induction h with
 | @own p z n cs aG =>
  obtain ⟨v,cN,hv,bl,aT⟩:=Ol p z n cs aG;cases bl with
  | ref J=>simp [ag.isRef] at J
  | @own _ _ _ _ e us b3 _ bh ao h1 aw aU aK kZ =>
   refine ⟨v,e,us,hv,bh,ao.symm,h1,λc ab=>⟨_,aT c ((kZ c).2 (.inl ab))⟩,λk x u J hu=>⟨b3 k,aw k x u J hu,λc ab=>⟨_,aT c ((kZ c).2 (.inr ⟨k,(List.getElem?_eq_some_iff.1 J).1,ab⟩))⟩⟩⟩
 | @b8 t z n m q new cs aJ _ aS =>
  obtain ⟨v,hv,bl⟩:=H1 t z q n m new aJ;obtain ⟨v0,e,us,ju,bh,ao,h1,aK,aw⟩:=aS;cases bl with
  | tree bl=>exact bl.k7.elim
  | @b8 _ _ _ _ _ _ bv dg c5 VU news _ bl =>
   have jN:=y4 _ _ _ _ bl.km;rw [ju] at jN;cases jN;have:=UA bh bl.k3;subst this;refine ⟨v,c5,us++news,by simp [eB,hv,walk],bl.mG,by rw [List.length_append,List.length_append,ao,bl.ao],λk u hu=>?_,λc ab=>?_,λk x u J hu=>?_⟩
   ·by_cases hk:k<us.length
    ·rw [List.getElem?_append_left hk] at hu; exact h1 k u hu
    ·rw [List.getElem?_append_right (by omega)] at hu; exact bl.h1 _ u hu
   ·by_cases qb:v0.ownBlock=some c
    ·exact aK c qb
    ·exact ⟨t,(bl.aT c).2 ⟨ab,qb⟩⟩
   ·by_cases hk:k<us.length
    ·rw [List.getElem?_append_left (by omega)] at J;rw [List.getElem?_append_left hk] at hu;exact aw k x u J hu
    ·rw [List.getElem?_append_right (by omega)] at J;rw [List.getElem?_append_right (by omega),ao] at hu;exact ⟨_,bl.aw _ x u J hu,λc ab=>ab.elim⟩
theorem Nd {ρ':ag->Value->Prop}{e:TypeId}{z n N cap:Nat}{a:Option Addr}{us:List Value}{cs cs':List ag}(bh:w.ownsRow 0 e z (.slice a N cap) n us) (hlen:us.length=cs.length) (h1:∀ (k:Nat) (u:Value),us[k]?=some u->u.oneCell'=true) (aK:∀ c,(Value.slice a N cap).ownBlock=some c->∃ t,Fs t c) (ao:cs'.length=cs.length)
  (aw:∀ (k:Nat) (x y:ag) (u:Value),cs[k]?=some x->cs'[k]?=some y->us[k]?=some u->R w (λc=>I c\/∃ t,Fs t c) ρ' y u cW):R w (λc=>I c\/∃ t,Fs t c) ρ' (.aF z n cs') (.slice a n cap) cW:=by
 obtain ⟨LN,bh⟩:=bh;rcases bh with ⟨jN,bd⟩ | ⟨b,qP,cur,dg,_,ca,C8,ab,aL,aJ⟩
 ·cases jN;subst bd;have lq:cs'=[]:=List.eq_nil_of_length_eq_zero (by rw [ao,<- hlen,LN]; simp);subst lq;exact .hS λ_ h=>h
 ·cases dg;refine .aF (us:=λk=>us.getD k undef) (λ_ h=>h) C8 (.inr (aK b rfl)) rfl (by rw [ao,<- hlen,LN]) (λk y az=>?_) (λk y az=>?_) λk y az=>?_
  all_goals
   have hk:k<us.length:=by rw [hlen,<- ao]; exact (List.getElem?_eq_some_iff.1 az).1
   have hu:us[k]?=some us[k]:=List.getElem?_eq_getElem hk;have ba:us.getD k undef=us[k]:=by simp [List.getD,hu]
  ·rw [ba]; exact h1 k _ hu
  ·rw [ba];have uC:∀ u,us[k]?=some u->w.cell? ⟨b,k,none⟩=some u:=λu uC=>by
    rw [<- aJ,List.getElem?_take] at uC
    split at uC
    ·simpa [World.cell?,ca] using uC
    ·cases uC
   simpa using uC _ hu
  ·rw [ba];exact aw k _ y _ (List.getElem?_eq_getElem (by omega)) az hu
theorem View.sound (h:c7 w I T g Fs) {x x':ag}(hv:View g x x'):∀ {v:Value}{F:bz},R w I (ew w T g) x v F->(∀ c,F c->∃ t,Fs t c)->∀ ρ',R w (λc=>I c\/∃ t,Fs t c) ρ' x' v cW:=by
 induction hv with
 | pI =>
  intro v F bl aT ρ';have:=bl.rf;subst this;exact .hS λ_ h=>h
 | mp =>
  intro v F bl aT ρ';cases bl with
  | ref J=>simp [ag.isRef] at J
  | mp bh aG aK=>exact .imp (λ_ h=>h) (.inr (aT _ ((aK _).2 rfl))) bh aG
 | iR aG =>
  intro v F bl aT ρ';cases bl with
  | ref _ aw _ =>
   obtain ⟨⟨b,aK,rfl⟩,_⟩:=aw;obtain ⟨hT,cN,jc,dZ,dE⟩:=h.part aG (by simp);rw [aK] at jc;cases jc;cases dZ with
   | ref J=>simp [ag.isRef] at J
   | mp bh aG aK=>exact .imp (λ_ h=>h) (.inr ⟨_,dE _ ((aK _).2 rfl)⟩) bh aG
 | self aP h1 al aQ bW da =>
  intro v F bl aT ρ';refine ((bl.bL aP).nm λc ab=>.inl ab).empty ?_;cases bl with
  | mp=>exact absurd rfl (da _)
  | lit _ aT | aN aT | dead aT | ref _ _ aT | hS aT | aF aT | bk aT | et aT | imp aT=>exact aT
  | own=>exact absurd rfl (h1 _ _ _)
  | obj=>exact absurd rfl (al _)
  | agg=>exact absurd rfl (aQ _)
  | cC=>exact absurd rfl (bW _)
 | @agg cs cs' ao _ aS =>
  intro v F bl aT ρ';cases bl with
  | ref J=>simp [ag.isRef] at J
  | @agg _ vs b3 _ h_ h1 aw aU kZ =>
   refine .agg (Fs:=λ_=>cW) (by rw [ao,h_]) h1 (λk y u az hu=>?_) (λ_ _ _ _ _ h=>h.elim) (λc=>⟨λh=>h.elim,λ⟨_,_,h⟩=>h⟩);have hk:k<cs.length:=by rw [<- ao]; exact (List.getElem?_eq_some_iff.1 az).1
   have J:=List.getElem?_eq_getElem hk;exact aS k _ y J az (aw k _ u J hu) (λc ab=>aT c ((kZ c).2 ⟨k,hk,ab⟩)) ρ'
 | @et fn cs cs' ao _ aS =>
  intro v F bl aT ρ';cases bl with
  | ref J=>simp [ag.isRef] at J
  | @et _ _ _ v1 v2 _ xV h1 al j0 iG =>
   refine .et (λ_ h=>h) h1 (by rw [ao,al]) (λk x u J=>by simp at J) (λk y u az hu=>?_);have hk:k<cs.length:=by rw [<- ao]; exact (List.getElem?_eq_some_iff.1 az).1
   have J:=List.getElem?_eq_getElem hk;exact aS k _ y J az (iG k _ u J hu) (λc ab=>ab.elim) ρ'
 | @own z n cs cs' ao _ aS =>
  intro v F bl aT ρ';obtain ⟨a,cap,us,b3,rfl,aP,hlen,bf,ab⟩:=bl.yt;cases a with
  | none =>
   have hs:cs=[]:=by
    cases cs with
    | nil=>rfl
    | cons c cs=>obtain ⟨b,aK,_⟩:=ab 0 c rfl; cases aK
   subst hs;have lq:cs'=[]:=List.eq_nil_of_length_eq_zero (by simpa using ao);subst lq;have pt:n=0:=by
    cases bl with
    | ref J=>simp [ag.isRef] at J
    | own bh =>
     obtain ⟨_,ca⟩:=bh;rcases ca with ⟨ca,bd⟩ | ⟨b,c2,cur,ca,_⟩
     ·exact bd
     ·cases ca
   subst pt;exact .hS λ_ h=>h
  | some ad =>
   obtain ⟨b,rfl,qU⟩:=bf ad rfl;refine .aF (us:=us) (λ_ h=>h) aP (.inr (aT b qU)) rfl (by rw [ao,hlen]) (λk y az=>?_) (λk y az=>?_) λk y az=>?_
   all_goals
    have hk:k<cs.length:=by rw [<- ao]; exact (List.getElem?_eq_some_iff.1 az).1
    have J:=List.getElem?_eq_getElem hk;obtain ⟨iQ,kD,h1,al,aQ,bW⟩:=ab k _ J;cases kD
   ·exact al
   ·simpa using h1
   ·exact aS k _ y J az aQ (λc ab=>aT c (bW c ab)) ρ'
 | @obj cs cs' ao _ aS =>
  intro v F bl aT ρ';cases bl with
  | ref J=>simp [ag.isRef] at J
  | @obj _ b e arr b3 _ bh h_ h1 aw aU aK kZ =>
   refine .bk (us:=λk=>arr.getD k undef) (λ_ h=>h) (.inr (aT b ((kZ b).2 (.inl rfl)))) rfl (λk y az=>?_) (λk y az=>?_) λk y az=>?_
   all_goals
    have hk:k<cs.length:=by rw [<- ao]; exact (List.getElem?_eq_some_iff.1 az).1
    have J:=List.getElem?_eq_getElem hk;have hu:arr[k]?=some arr[k]:=Array.getElem?_eq_getElem (h_ ▸ hk)
   ·simpa [hu] using h1 k _ hu
   ·simp [World.cell?,bh,hu]
   ·simpa [hu] using aS k _ y J az (aw k _ _ J hu) (λc ab=>aT c ((kZ c).2 (.inr ⟨k,hk,ab⟩))) ρ'
 | @bo z n N p cs cs' aG aP ao _ aS =>
  intro v F bl aT ρ';obtain ⟨⟨a,iW,cap,h1,rfl,aQ⟩,_⟩:=bl.mN;obtain ⟨pT,pW,gZ,hR,lZ⟩:=h.part aG (by simp);rw [h1] at gZ;cases gZ;obtain ⟨a2,qP,us,b3,kb,k2,hlen,bf,ab⟩:=hR.yt;cases kb;have hle:n * z<=N * z:=Nat.mul_le_mul_right _ aP;have cell:∀ k,k<cs'.length->∃ x b,(cs.take (n * z))[k]?=some x/\a=some ⟨b,0,none⟩/\w.cell? ⟨b,k,none⟩=some (us k)/\(us k).oneCell'=true/\R w I (ew w T g) x (us k) (b3 k)/\∀ c,b3 k c->pW c:=by
   intro k hk;rw [ao,List.length_take] at hk;have J:cs[k]?=some cs[k]:=List.getElem?_eq_getElem (by omega);obtain ⟨b,r⟩:=ab k _ J;exact ⟨_,b,by rw [List.getElem?_take,if_pos (by omega)]; exact J,r⟩
  cases a with
  | none =>
   have lq:cs'=[]:=by
    cases cs' with
    | nil=>rfl
    | cons c l=>obtain ⟨_,b,_,aK,_⟩:=cell 0 (by simp); cases aK
   subst lq;obtain ⟨_,_,kb,_,_,_,r5⟩:=hR.mS;cases kb;have pt:n=0:=by
    rcases Nat.eq_zero_or_pos n with bd | bd
    ·exact bd
    ·have:=r5 (by omega); simp at this
   subst pt;exact .hS λ_ h=>h
  | some ad =>
   obtain ⟨b,rfl,qU⟩:=bf ad rfl;refine .aF (us:=us) (λ_ h=>h) (by omega) (.inr ⟨_,lZ b qU⟩) rfl (by rw [ao,List.length_take,hlen]; omega) (λk y az=>?_) (λk y az=>?_) λk y az=>?_
   all_goals
    obtain ⟨x,iQ,J,kD,bW,da,eb,kC⟩:=cell k (List.getElem?_eq_some_iff.1 az).1;cases kD
   ·exact da
   ·simpa using bW
   ·exact aS k x y J az eb (λc ab=>⟨_,lZ c (kC c ab)⟩) ρ'
 | @sub z lo n N p cs cs' aG aP ao _ aS =>
  intro v F bl aT ρ';obtain ⟨⟨a,iW,cap,cF,lV,h1,rfl,GD,aQ,da⟩,_⟩:=bl.wb;obtain ⟨pT,pW,gZ,hR,lZ⟩:=h.part aG (by simp);rw [h1] at gZ;cases gZ;obtain ⟨a2,qP,us,b3,kb,k2,hlen,bf,ab⟩:=hR.yt;cases kb;have hle:lo * z+n * z<=N * z:=by rw [<- Nat.add_mul]; exact Nat.mul_le_mul_right _ aP
  have h_:cs'.length=n * z:=by rw [ao,List.length_take,List.length_drop,hlen]; omega
  have cell:∀ k,k<cs'.length->∃ x b,((cs.drop (lo * z)).take (n * z))[k]?=some x/\a=some ⟨b,0,none⟩/\w.cell? ⟨b,lo * z+k,none⟩=some (us (lo * z+k))/\(us (lo * z+k)).oneCell'=true/\R w I (ew w T g) x (us (lo * z+k)) (b3 (lo * z+k))/\∀ c,b3 (lo * z+k) c->pW c:=by
   intro k hk;have J:cs[lo * z+k]?=some cs[lo * z+k]:=List.getElem?_eq_getElem (by omega);obtain ⟨b,r⟩:=ab _ _ J;exact ⟨_,b,by rw [List.getElem?_take,if_pos (by omega),List.getElem?_drop]; exact J,r⟩
  by_cases pt:n=0
  ·subst pt;have lq:cs'=[]:=List.eq_nil_of_length_eq_zero (by simpa using h_);subst lq;exact .hS λ_ h=>h
  ·obtain ⟨ad,rfl,rfl⟩:=da (by omega);obtain ⟨b,rfl,qU⟩:=bf ad rfl;refine .aF (us:=λk=>us (lo * z+k)) (λ_ h=>h) GD (.inr ⟨_,lZ b qU⟩) rfl h_ (λk y az=>?_) (λk y az=>?_) λk y az=>?_
   all_goals
    obtain ⟨x,iQ,J,kD,bW,FB,eb,kC⟩:=cell k (List.getElem?_eq_some_iff.1 az).1;cases kD
   ·exact FB
   ·simpa using bW
   ·exact aS k x y J az eb (λc ab=>⟨_,lZ c (kC c ab)⟩) ρ'
 | @ptr p k z n y cs cs' aG az hk ao _ aS =>
  intro v F bl aT ρ';obtain ⟨⟨u,ad,h1,al,rfl⟩,_⟩:=bl.ni;obtain ⟨pT,pW,gZ,hR,lZ⟩:=h.part aG (by rcases az with rfl | rfl <;> simp);rw [h1] at gZ;cases gZ;have cell:∀ ae,ae<cs'.length->∃ gG ku vc,w.cell? ⟨ad.block,k+ae,none⟩=some gG/\gG.oneCell'=true/\(cs.drop k)[ae]?=some ku/\R w I (ew w T g) ku gG vc/\(∀ c,vc c->∃ t,Fs t c):=by
   intro ae aa;rw [ao,List.length_drop] at aa;have gw:cs[k+ae]?=some cs[k+ae]:=List.getElem?_eq_getElem (by omega);obtain ⟨b,gG,fV,lF,l7,gY,_⟩:=hR.node az gw;rw [al] at fV;cases fV;have fW:b' g (p.push (k+ae))=some cs[k+ae]:=by rw [sA,aG]; rcases az with rfl | rfl <;> simp [ag.kids]
   by_cases hZ:∃ cK hb cY bS di,cs[k+ae]=.b8 cK hb cY bS di
   ·obtain ⟨cK,hb,cY,bS,di,hZ⟩:=hZ;obtain ⟨b,VW,_,_,Aa,_,b3,j8⟩:=hR.node az gw;rw [hZ] at j8;exact j8.k7.elim
   ·obtain ⟨oj,En,q9,FR,kZ⟩:=h.part fW (λcK hb cY bS di e=>hZ ⟨_,_,_,_,_,e⟩);rw [w7,h1] at q9;simp only [Option.bind_some] at q9;rw [l7] at q9;cases q9;exact ⟨gG,_,En,lF,gY,by rw [List.getElem?_drop]; exact gw,FR,λc ab=>⟨_,kZ c ab⟩⟩
  obtain ⟨b,gG,fV,_⟩:=hR.node az (List.getElem?_eq_getElem hk);rw [al] at fV;cases fV;have hblk:∃ t,Fs t b:=⟨_,lZ b (hR.DF az al)⟩;refine .bk (us:=λae=>(w.cell? ⟨b,k+ae,none⟩).getD undef) (λ_ h=>h) (.inr hblk) rfl (λae jU nh=>?_) (λae jU nh=>?_) λae jU nh=>?_
  all_goals
   obtain ⟨gG,ku,vc,c1,c2,mw,c4,kA⟩:=cell ae (List.getElem?_eq_some_iff.1 nh).1
  ·simpa [c1] using c2
  ·simp [c1]
  ·simpa [c1] using aS ae ku jU mw nh c4 kA ρ'
 | @rows z n p cs cs' aG ao _ aS =>
  intro v F bl aT ρ';obtain ⟨a,iW,cap,h1,rfl,aQ⟩:=bl.mN.1;obtain ⟨v0,e,us,ju,bh,hlen,lX,aK,aw⟩:=Rows.sound (w:=w) (I:=I) (T:=T) (Fs:=Fs) (λt z q n m new aJ=>h.rel t _ aJ) (λp z n cs aG=>h.part aG (by simp)) (λz p n v hv=>by obtain ⟨⟨a,cap,h1,rfl⟩,_⟩:=hv; exact h1) aG;rw [h1] at ju;cases ju;refine Nd bh hlen lX aK ao λk x y u J az hu=>?_;obtain ⟨b3,j8,e'⟩:=aw k x u J hu;exact aS k x y J az j8 e' ρ'
end
end Go.Own
namespace Go.Own
open Go
def o9 (args:List ag):aW:=λt=>args[t]?
def oR (outs:List (Option ag)) (res:ag):aW:=λt=>if t=outs.length then some res else (outs[t]?).join
structure kR (w:World) (I U:bz) (w':World) (I' B6:bz):Prop where
 fF:Fr w w' U
 more:∀ c,I c->I' c
 new:∀ c,I' c->I c\/U c\/w.heap.size<=c
 own:∀ c,B6 c->U c\/w.heap.size<=c
def cc (P:Program) (f:FuncId) (args:List ag) (outs:List (Option ag)) (res:ag):Prop :=
 outs.length=args.length/\∀ (w:World) (I:bz) (vs:List Value) (Fs:Nat->bz),vs.length=args.length->c7 w I vs.toArray (o9 args) Fs ->
  Calls P f vs.toArray w λe w'=>∃ v I' cz,e=.returned v/\c7 w' I' (vs++[v]).toArray (oR outs res) cz/\kR w I (λc=>∃ t,Fs t c) w' I' (λc=>∃ t,cz t c)
def dB (P:Program) (f:FuncId):Bool :=
 match P.funcs[f]? with
 | some fn => fn.name != "runtime.NumGoroutine" && fn.body.isSome
 | none=>false
inductive cu (P:Program) (g:aW):Op->ag->Prop
 | plain {c:Operand}{xs:Array Operand}{iC:Array TypeId}{f:FuncId}{first caps ys:List ag}{res:ag}(ab:bT g c=some (.et (.func f) first caps)) (J:iH g xs.toList=some ys) (bn:dB P f=true)
   (aP:∀ y∈first++ys++caps,dc y) (jb:cc P f (first++ys++caps) ((first++ys++caps).map λ_=>none) res) (aw:dc res):cu P g (.call { callee:=.value c,args:=xs,argTypes:=iC }) res
 | Dz {c:Operand}{xs:Array Operand}{iC:Array TypeId}{f:FuncId}{first caps ys args:List ag}{res:ag}(ab:bT g c=some (.et (.func f) first caps)) (J:iH g xs.toList=some ys) (bn:dB P f=true)
   (ao:args.length=(first++ys++caps).length) (hv:∀ (k:Nat) (x y:ag),(first++ys++caps)[k]?=some x->args[k]?=some y->View g x y) (jb:cc P f args (args.map λ_=>none) res) (aw:kx res) :
   cu P g (.call { callee:=.value c,args:=xs,argTypes:=iC }) res
section
variable {P:Program}{w:World}{I:bz}{T:Array Value}{g:aW}{Fs:Nat->bz}
theorem E0 {f:FuncId}(h:dB P f=true) (args:Array Value):(callFunc f args).run P w=.ok (.enter f args) w:=by
 unfold dB at h;cases bn:P.funcs[f]? with
 | none=>simp [bn] at h
 | some fn =>
  simp [bn] at h;obtain ⟨h1,al⟩:=h;cases aK:fn.body with
  | none=>simp [aK] at al
  | some c=>simp [callFunc,bn,h1,aK]
theorem EZ (h:c7 w I T g Fs) {a:Act}(bf:a.tmps=T) {c:Operand}{xs:Array Operand}{f:FuncId}{first caps ys:List ag}(ab:bT g c=some (.et (.func f) first caps)) (J:iH g xs.toList=some ys) :
  ∃ v1 v2:Array Value,a.eval c=.func (.func f) v1 v2/\(first++ys++caps).length=(v1++xs.map a.eval++v2).toList.length /\
   ∀ (k:Nat) (x:ag) (u:Value),(first++ys++caps)[k]?=some x->(v1++xs.map a.eval++v2).toList[k]?=some u->R w I (ew w T g) x u cW:=by
 have Lg:=k9 h ab bf;obtain ⟨ao,aw⟩:=yq h bf J;generalize uh:a.eval c=Xz at Lg;cases Lg with
 | ref J=>simp [ag.isRef] at J
 | @et _ _ _ v1 v2 _ _ h1 al j0 iG =>
  have hlen:xs.size=ys.length:=by rw [<- Array.length_toList,ao]
  refine ⟨v1,v2,rfl,by simp [h1,al,hlen],λk x u pC oJ=>?_⟩;simp only [Array.toList_append,Array.toList_map] at oJ;by_cases hd:k<first.length
  ·rw [List.append_assoc,List.getElem?_append_left hd] at pC;rw [List.append_assoc,List.getElem?_append_left (by simp; omega)] at oJ;exact j0 k x u pC (by simpa using oJ)
  ·rw [List.append_assoc,List.getElem?_append_right (by omega)] at pC;rw [List.append_assoc,List.getElem?_append_right (by simp; omega)] at oJ;simp only [Array.length_toList,<- h1] at oJ;by_cases gX:k - first.length<ys.length
   ·rw [List.getElem?_append_left gX] at pC;rw [List.getElem?_append_left (by simp; omega),List.getElem?_map] at oJ;cases Hc:xs.toList[k - first.length]? with
    | none=>rw [Hc] at oJ; cases oJ
    | some o=>rw [Hc] at oJ; cases oJ; exact aw _ x o pC Hc
   ·rw [List.getElem?_append_right (by omega)] at pC;rw [List.getElem?_append_right (by simp; omega)] at oJ;simp only [List.length_map,Array.length_toList] at oJ;rw [hlen] at oJ;exact iG _ x u pC (by simpa using oJ)
theorem c7.args {I':bz}(h:c7 w I T g Fs) (bw:∀ c,I' c->I c\/∃ t,Fs t c) {args:List ag}{vs:List Value}(ao:args.length=vs.length)
  (aw:∀ (ρ':ag->Value->Prop) (k:Nat) (x:ag) (u:Value),args[k]?=some x->vs[k]?=some u->R w I' ρ' x u cW):c7 w I' vs.toArray (o9 args) (λ_=>cW):=by
 refine ⟨λt x J=>?_,λ_ _ _ h=>h,λ_ _ _ h=>h.elim,λ_ _ h=>h.elim,λc ab=>?_,λt t' z p n m new cK cY bS di h1 al=>?_⟩
 ·have aJ:t<args.length:=(List.getElem?_eq_some_iff.1 J).1;have hu:vs[t]?=some vs[t]:=List.getElem?_eq_getElem (ao ▸ aJ);exact ⟨vs[t],by rw [List.getElem?_toArray]; exact hu,.tree (aw _ t x _ J hu)⟩
 ·rcases bw c ab with aR | ⟨t,aR⟩
  ·exact h.lt c aR
  ·exact h.j2 t c aR
 ·have aJ:t<args.length:=(List.getElem?_eq_some_iff.1 h1).1;exact (aw (λ_ _=>False) t _ _ h1 (List.getElem?_eq_getElem (ao ▸ aJ))).k7.elim
theorem cu.sound (h:c7 w I T g Fs) {a:Act}(bf:a.tmps=T) {o:Oper}{kg:ag}(aG:cu P g o.op kg) {K:Act->World->Prop}{Q:Exit->Act->World->Prop}
  (eK:∀ v w',tE w I T g Fs kg v w'->K (a.put o.dst v) w'):o.wp P a w K Q:=by
 obtain ⟨dst,op,ty,pos,after,guard⟩:=o;simp only at aG eK;have AT:dc kg->∀ z p n m new,kg=.b8 z p n m new->∀ t cK cY bS di,g t≠some (.b8 cK p cY bS di):=by
  rintro aP z p n m new rfl;cases aP
 have last:∀ {args:List ag}{res:ag}{v:Value}{vs:List Value}{w':World}{I':bz}{cz:Nat->bz},vs.length=args.length->c7 w' I' (vs++[v]).toArray (oR (args.map λ_=>none) res) cz->jK w' I' (ew w' (vs++[v]).toArray (oR (args.map λ_=>none) res)) res v (cz args.length)/\∀ t,t≠args.length->∀ c,¬ cz t c:=by
  intro args res v vs w' I' cz ao b6;constructor
  ·obtain ⟨u,hu,bl⟩:=b6.rel args.length res (by simp [oR]);have:u=v:=by
    rw [<- ao] at hu;simpa using hu.symm
   subst this; exact bl
  ·intro t aJ c ab;refine b6.kH t ?_ c ab;have qe:t≠(args.map λ_=>(none:Option ag)).length:=by simpa using aJ
   simp only [oR,if_neg qe,List.getElem?_map];cases args[t]? <;> rfl
 cases aG with
 | @plain c xs iC f first caps ys _ ab J bn aP jb aw =>
  obtain ⟨v1,v2,uh,ao,nW⟩:=EZ h bf ab J;have ij:(execOp a.eval { dst:=dst,op:=.call { callee:=.value c,args:=xs,argTypes:=iC },type:=ty,pos:=pos,after:=after,guard:=guard }).run P w=.ok (.enter f (v1++xs.map a.eval++v2)) w:=by
   simp [execOp,resolve,Deferred.ofValue,uh,invoke,E0 bn]
  have b6:=h.args (I':=I) (λc ab=>.inl ab) ao λρ' k x u J hu=>(nW k x u J hu).bL (aP x (List.mem_of_getElem? J));have ug:=jb.2 w I (v1++xs.map a.eval++v2).toList _ ao.symm b6;unfold Oper.wp Oper.upon;simp only [ij];rw [Array.toArray_toList] at ug;refine Calls.mono ug ?_;rintro e w' ⟨v,I',cz,rfl,eL,cf⟩;obtain ⟨x_,ht⟩:=last ao.symm eL;have sW:Fr w w' (λ_=>False):=cf.fF.mono λb _ ⟨_,aK⟩=>aK;refine eK v w' ⟨cz (first++ys++caps).length,I',?_,?_,?_,?_,cf.more,?_,sW.mono λ_ _ h=>h.elim,AT aw⟩
  ·have:=h.world (w':=w') (λt c ab=>sW.block c (h.j2 t c ab) (λh=>h)) (λc ab=>sW.block c (h.lt c ab) λh=>h) sW.size;refine ⟨λt x J=>?_,this.kH,this.e_,λt c ab hi=>?_,eL.lt,this.qt⟩
   ·obtain ⟨v,hv,bl⟩:=this.rel t x J;exact ⟨v,hv,bl.frame (λ_ _=>rfl) cf.more (λ_ _ h=>h) (λ_ _ _ _ _ _ _=>rfl) λ_ _=>rfl⟩
   ·rcases cf.new c hi with aR | ⟨_,aR⟩ | aR
    ·exact h.aF t c ab aR
    ·exact aR
    ·have:=h.j2 t c ab; omega
  ·exact .tree ((x_.h0 (by rintro z p n m new rfl; cases aw)).bL aw)
  ·intro t c ab uj;rcases cf.own c ⟨_,ab⟩ with ⟨_,aR⟩ | aR
   ·exact aR
   ·have:=h.j2 t c uj; omega
  ·intro c ab;rcases cf.own c ⟨_,ab⟩ with ⟨_,aR⟩ | aR
   ·exact aR.elim
   ·exact ⟨aR,eL.aF _ c ab⟩
  ·intro c ab;rcases cf.new c ab with aR | ⟨_,aR⟩ | aR
   ·exact .inl aR
   ·exact aR.elim
   ·exact .inr aR
 | @Dz c xs iC f first caps ys args _ ab J bn Gv hv jb aw =>
  obtain ⟨v1,v2,uh,ao,nW⟩:=EZ h bf ab J;have ij:(execOp a.eval { dst:=dst,op:=.call { callee:=.value c,args:=xs,argTypes:=iC },type:=ty,pos:=pos,after:=after,guard:=guard }).run P w=.ok (.enter f (v1++xs.map a.eval++v2)) w:=by
   simp [execOp,resolve,Deferred.ofValue,uh,invoke,E0 bn]
  have h_:args.length=(v1++xs.map a.eval++v2).toList.length:=by rw [Gv,ao]
  have b6:=h.args (I':=λc=>I c\/∃ t,Fs t c) (λc ab=>ab) h_ λρ' k x u J hu=>by
   have hk:k<(first++ys++caps).length:=by rw [<- Gv]; exact (List.getElem?_eq_some_iff.1 J).1
   have k4:=List.getElem?_eq_getElem hk;exact (hv k _ x k4 J).sound h (nW k _ u k4 hu) (λ_ h=>h.elim) ρ'
  have ug:=jb.2 w _ (v1++xs.map a.eval++v2).toList _ h_.symm b6;unfold Oper.wp Oper.upon;simp only [ij];rw [Array.toArray_toList] at ug;refine Calls.mono ug ?_;rintro e w' ⟨v,I',cz,rfl,eL,cf⟩;obtain ⟨x_,ht⟩:=last h_.symm eL;have sW:Fr w w' (λ_=>False):=cf.fF.mono λb _ ⟨_,aK⟩=>aK;refine eK v w' ⟨cz args.length,I,?_,?_,?_,?_,λ_ h=>h,λ_ h=>.inl h,sW.mono λ_ _ h=>h.elim,AT aw.bL⟩
  ·exact h.world (w':=w') (λt c ab=>sW.block c (h.j2 t c ab) (λh=>h)) (λc ab=>sW.block c (h.lt c ab) λh=>h) sW.size
  ·exact .tree ((x_.h0 (by rintro z p n m new rfl; cases aw)).k8 aw)
  ·intro t c ab uj;rcases cf.own c ⟨_,ab⟩ with ⟨_,aR⟩ | aR
   ·exact aR
   ·have:=h.j2 t c uj; omega
  ·intro c ab;rcases cf.own c ⟨_,ab⟩ with ⟨_,aR⟩ | aR
   ·exact aR.elim
   ·exact ⟨aR,λhi=>by have:=h.lt c hi; omega⟩
end
end Go.Own
namespace Go.Own
open Go
structure jL (w:World) (I:bz) (T:Array Value) (g:aW) (Fs:Nat->bz):Prop where
 rel:∀ t x,g t=some x->∃ v,T[t]?=some v/\jK w I (gl w T) x v (Fs t)
 kH:∀ t,g t=none->∀ c,¬ Fs t c
 e_:∀ t t' c,Fs t c->Fs t' c->t=t'
 aF:∀ t c,Fs t c->¬ I c
 lt:∀ c,I c->c<w.heap.size
def db (g:aW) (p:Place) (y:ag):aW:=λt=>if t=p.root then (g t).map λx=>x.setAt p.path y else g t
inductive e3 (g:aW):ag->Prop
 | bL {x:ag}(h:dc x):e3 g x
 | ref {x:ag}(J:x.isRef=true) (h:hn g x):e3 g x
 | own {z n:Nat}{cs:List ag}(h:∀ x∈cs,e3 g x):e3 g (.own z n cs)
 | obj {cs:List ag}(h:∀ x∈cs,e3 g x):e3 g (.obj cs)
 | agg {cs:List ag}(h:∀ x∈cs,e3 g x):e3 g (.agg cs)
 | cC {cs:List ag}(h:∀ x∈cs,e3 g x):e3 g (.cC cs)
 | et {fn:Fn}{a b:List ag}(h1:∀ x∈a,e3 g x) (al:∀ x∈b,e3 g x):e3 g (.et fn a b)
 | b8 {z n m:Nat}{p:Place}{new:List ag}(aG:hn g (.b8 z p n 0 [])) (h:∀ x∈new,e3 g x):e3 g (.b8 z p n m new)
section
variable {w:World}{I:bz}{T:Array Value}{g:aW}{Fs:Nat->bz}
theorem R.bq {x:ag}{v:Value}{F:bz}(h:R w I (gl w T) x v F):e3 g x->R w I (ew w T g) x v F:=by
 induction h with
 | lit h aT=>exact λ_=>.lit h aT
 | aN aT=>exact λ_=>.aN aT
 | dead aT=>exact λ_=>.dead aT
 | @ref x _ _ J h aT =>
  intro hk;refine .ref J ⟨h,?_⟩ aT;cases hk with
  | ref _ h=>exact h
  | bL h=>cases h <;> simp [ag.isRef] at J
  | _=>simp [ag.isRef] at J
 | hS aT=>exact λ_=>.hS aT
 | mp bh aG aT=>exact λ_=>.mp bh aG aT
 | imp aT bw bh aG=>exact λ_=>.imp aT bw bh aG
 | aF aT k2 bw aL ao h1 ab aw aS =>
  intro hk;cases hk with
  | ref J=>simp [ag.isRef] at J
  | bL h=>cases h with | aF h=>exact .aF aT k2 bw aL ao h1 ab λk x J=>aS k x J (.bL (h x (List.mem_of_getElem? J)))
 | bk aT bw aL h1 ab aw aS =>
  intro hk;cases hk with
  | ref J=>simp [ag.isRef] at J
  | bL h=>cases h with | bk h=>exact .bk aT bw aL h1 ab λk x J=>aS k x J (.bL (h x (List.mem_of_getElem? J)))
 | own bh ao h1 aw aU aK aT aS =>
  intro hk;refine .own bh ao h1 (λk x u J hu=>aS k x u J hu ?_) aU aK aT;cases hk with
  | ref J=>simp [ag.isRef] at J
  | bL h=>cases h with | own h=>exact .bL (h x (List.mem_of_getElem? J))
  | own h=>exact h x (List.mem_of_getElem? J)
 | obj bh ao h1 aw aU aK aT aS =>
  intro hk;refine .obj bh ao h1 (λk x u J hu=>aS k x u J hu ?_) aU aK aT;cases hk with
  | ref J=>simp [ag.isRef] at J
  | bL h=>cases h with | obj h=>exact .bL (h x (List.mem_of_getElem? J))
  | obj h=>exact h x (List.mem_of_getElem? J)
 | agg ao h1 aw aU aT aS =>
  intro hk;refine .agg ao h1 (λk x u J hu=>aS k x u J hu ?_) aU aT;cases hk with
  | ref J=>simp [ag.isRef] at J
  | bL h=>cases h with | agg h=>exact .bL (h x (List.mem_of_getElem? J))
  | agg h=>exact h x (List.mem_of_getElem? J)
 | cC ao aw aU aT aS =>
  intro hk;refine .cC ao (λk x u J hu=>aS k x u J hu ?_) aU aT;cases hk with
  | ref J=>simp [ag.isRef] at J
  | bL h=>cases h with | cC h=>exact .bL (h x (List.mem_of_getElem? J))
  | cC h=>exact h x (List.mem_of_getElem? J)
 | @et fn first caps v1 v2 F aT h1 al j0 iG gx gq =>
  intro hk;have:(∀ x∈first,e3 g x)/\∀ x∈caps,e3 g x:=by
   cases hk with
   | ref J=>simp [ag.isRef] at J
   | bL h=>cases h with | et h1 al=>exact ⟨λx J=>.bL (h1 x J),λx J=>.bL (al x J)⟩
   | et h1 al=>exact ⟨h1,al⟩
  exact .et aT h1 al (λk x u J hu=>gx k x u J hu (this.1 x (List.mem_of_getElem? J))) (λk x u J hu=>gq k x u J hu (this.2 x (List.mem_of_getElem? J)))
theorem jK.bq {x:ag}{v:Value}{F:bz}(h:jK w I (gl w T) x v F) (hk:e3 g x):jK w I (ew w T g) x v F:=by
 cases h with
 | tree h=>exact .tree (h.bq hk)
 | b8 h =>
  cases hk with
  | bL h=>cases h
  | ref J=>simp [ag.isRef] at J
  | b8 aG aP=>exact .b8 ⟨⟨h.km,aG⟩,h.k3,h.mG,h.ao,h.h1,λk x u J hu=>(h.aw k x u J hu).bq (aP x (List.mem_of_getElem? J)),h.aT⟩
theorem c7.mn (h:c7 w I T g Fs):jL w I T g Fs :=
  ⟨λt x J=>by
    obtain ⟨v,hv,bl⟩:=h.rel t x J;refine ⟨v,hv,?_⟩;cases bl with
    | tree bl=>exact .tree (bl.frame (λ_ _=>rfl) (λ_ h=>h) (λ_ _ h=>h.1) λ_ _=>rfl)
    | b8 bl=>exact .b8 ⟨bl.km.1,bl.k3,bl.mG,bl.ao,bl.h1,λk x u J hu=>(bl.aw k x u J hu).frame (λ_ _=>rfl) (λ_ h=>h) (λ_ _ h=>h.1) λ_ _=>rfl,bl.aT⟩,
   h.kH,h.e_,h.aF,h.lt⟩
theorem jL.VO (h:jL w I T g Fs) {g':aW}(ba:∀ t x,g' t=some x->g t=some x) (hk:∀ t x,g' t=some x->e3 g' x)
  (aG:∀ t t' z p n m new cK cY bS di,g' t=some (.b8 z p n m new)->g' t'=some (.b8 cK p cY bS di)->t=t'):c7 w I T g' (λt c=>g' t≠none/\Fs t c):=by
 refine ⟨λt x J=>?_,λt aJ c ab=>ab.1 aJ,λt t' c ab fy=>h.e_ t t' c ab.2 fy.2,λt c ab=>h.aF t c ab.2,h.lt,aG⟩;obtain ⟨v,hv,bl⟩:=h.rel t x (ba t x J);have:Fs t=λc=>g' t≠none/\Fs t c:=by
  funext c;exact propext ⟨λab=>⟨by rw [J]; simp,ab⟩,λab=>ab.2⟩
 refine ⟨v,hv,?_⟩;rw [<- this];exact bl.bq (hk t x J)
theorem jL.part (h:jL w I T g Fs) {p:Place}{y:ag}(aG:b' g p=some y) (az:∀ z q n m new,y≠.b8 z q n m new):∃ v cN,eB w T p=some v/\R w I (gl w T) y v cN/\(∀ c,cN c->Fs p.root c) /\
  ∀ (y':ag) (jk:bz),R w I (gl w T) y' v jk->(∀ c,jk c->Fs p.root c->cN c)->(∀ c,jk c->¬ I c)->(∀ t c,t≠p.root->jk c->¬ Fs t c) ->
   ∃ cz,jL w I T (db g p y') cz/\(∀ c,cz p.root c↔(Fs p.root c/\¬ cN c)\/jk c)/\∀ t,t≠p.root->cz t=Fs t:=by
 unfold b' at aG;cases J:g p.root with
 | none=>rw [J] at aG; cases aG
 | some x =>
  rw [J] at aG;obtain ⟨v,hv,bl⟩:=h.rel _ _ J;replace bl:=bl.h0 (by
   rintro z q n m new rfl;exact az _ _ _ _ _ (ag.sB aG).2)
  obtain ⟨iD,cN,hw,dZ,dE,gd,kK⟩:=R.focus p.path bl aG;refine ⟨iD,cN,by simp [eB,hv,hw],dZ,dE,λy' jk jr mB bw LU=>?_⟩;obtain ⟨f',FQ,oC⟩:=kK w I (gl w T) y' jk ⟨λ_ _=>rfl,λ_ _ _=>rfl,λ_ h=>h,λ_ _ h=>h⟩ jr mB;refine ⟨λt=>if t=p.root then f' else Fs t,⟨λt x' gw=>?_,λt aJ c=>?_,λt t' c ab fy=>?_,λt c ab=>?_,h.lt⟩,λc=>by simp [oC c],λt aJ=>by simp [aJ]⟩
  ·by_cases h':t=p.root
   ·subst h';have Tn:x.setAt p.path y'=x':=by simpa [db,J] using gw
    subst Tn;exact ⟨v,hv,.tree (by simpa using FQ)⟩
   ·simp only [db,if_neg h'] at gw;simpa [h'] using h.rel t x' gw
  ·by_cases h':t=p.root
   ·subst h'; simp [db,J] at aJ
   ·simp only [db,if_neg h'] at aJ; simpa [h'] using h.kH t aJ c
  ·by_cases h1:t=p.root <;> by_cases al:t'=p.root <;> simp only [h1,al,if_true,if_false] at ab fy
   ·rw [h1,al]
   ·rcases (oC c).1 ab with ⟨aQ,_⟩ | aQ
    ·rw [h1]; exact h.e_ _ _ _ aQ fy
    ·exact absurd fy (LU t' c al aQ)
   ·rcases (oC c).1 fy with ⟨aQ,_⟩ | aQ
    ·rw [al]; exact h.e_ _ _ _ ab aQ
    ·exact absurd ab (LU t c h1 aQ)
   ·exact h.e_ _ _ _ ab fy
  ·by_cases h1:t=p.root <;> simp only [h1,if_true,if_false] at ab
   ·rcases (oC c).1 ab with ⟨aQ,_⟩ | aQ
    ·exact h.aF _ c aQ
    ·exact bw c aQ
   ·exact h.aF t c ab
end
end Go.Own
namespace Go.Own
open Go
inductive Take:aW->List ag->List ag->aW->Prop
 | bL {g:aW}{xs:List ag}(h:∀ x∈xs,dc x):Take g xs xs g
 | cons {g g':aW}{x:ag}{xs xs':List ag}(h:dc x) (aJ:Take g xs xs' g'):Take g (x::xs) (x::xs') g'
 | bo {g g1 g':aW}{z n N:Nat}{p:Place}{cs cs' xs xs':List ag}(aG:b' g p=some (.own z N cs)) (aP:n<=N) (h1:Take (db g p .dead) (cs.take (n * z)) cs' g1) (al:Take g1 xs xs' g') :
   Take g (.bo z p n::xs) (.own z n cs'::xs') g'
 | b8 {g g1 g':aW}{z n m t:Nat}{q:Place}{cs new cs' xs xs':List ag}(aJ:g t=some (.b8 z q n m new)) (aG:b' g q=some (.own z n cs)) (bR:q.root≠t) (h1:Take (db (db g ⟨t,[]⟩ .dead) q .dead) (cs++new) cs' g1) (al:Take g1 xs xs' g') :
   Take g (.bo z ⟨t,[]⟩ (n+m)::xs) (.own z (n+m) cs'::xs') g'
 | DM {g g1 g':aW}{z n m t qp m2 t2:Nat}{q:Place}{cs new ym cs' xs xs':List ag}(aJ:g t=some (.b8 z ⟨t2,[]⟩ n m new)) (L4:g t2=some (.b8 z q qp m2 ym)) (aP:n=qp+m2) (aG:b' g q=some (.own z qp cs)) (bR:q.root≠t) (r4:q.root≠t2) (Tc:t≠t2)
   (h1:Take (db (db (db g ⟨t,[]⟩ .dead) ⟨t2,[]⟩ .dead) q .dead) (cs++ym++new) cs' g1) (al:Take g1 xs xs' g') :
   Take g (.bo z ⟨t,[]⟩ (n+m)::xs) (.own z (n+m) cs'::xs') g'
 | obj {g g1 g':aW}{p:Place}{cs cs' xs xs':List ag}(aG:b' g p=some (.obj cs)) (h1:Take (db g p .dead) cs cs' g1) (al:Take g1 xs xs' g'):Take g (.ptr p 0::xs) (.obj cs'::xs') g'
 | mp {g g1 g':aW}{p:Place}{q:Array MapEntry->Nat->Prop}{xs xs':List ag}(aG:b' g p=some (.mp q)) (h1:Take (db g p .dead) [] [] g1) (al:Take g1 xs xs' g'):Take g (.iR p::xs) (.mp q::xs') g'
 | agg {g g1 g':aW}{cs cs' xs xs':List ag}(h1:Take g cs cs' g1) (al:Take g1 xs xs' g'):Take g (.agg cs::xs) (.agg cs'::xs') g'
 | cC {g g1 g':aW}{cs cs' xs xs':List ag}(h1:Take g cs cs' g1) (al:Take g1 xs xs' g'):Take g (.cC cs::xs) (.cC cs'::xs') g'
structure Hand (w:World) (I:bz) (ρ:ag->Value->Prop) (Fs:Nat->bz) (xs:List ag) (vs:List Value) (dI:Nat->bz):Prop where
 len:xs.length=vs.length
 rel:∀ (k:Nat) (x:ag) (u:Value),xs[k]?=some x->vs[k]?=some u->R w I ρ x u (dI k)
 e_:∀ (ae k c:Nat),ae<xs.length->k<xs.length->dI ae c->dI k c->ae=k
 off:∀ (k t c:Nat),k<xs.length->dI k c->¬ Fs t c
 aF:∀ (k c:Nat),k<xs.length->dI k c->¬ I c
def lb (Fs:Nat->bz) (n:Nat) (dI:Nat->bz):bz:=λc=>(∃ t,Fs t c)\/∃ k,k<n/\dI k c
section
variable {w:World}{I:bz}{T:Array Value}
theorem Take.length {g g':aW}{xs xs':List ag}(h:Take g xs xs' g'):xs'.length=xs.length:=by
 induction h with
 | bL=>rfl
 | cons _ _ aS=>simp [aS]
 | bo _ _ _ _ _ aS=>simp [aS]
 | b8 _ _ _ _ _ _ aS=>simp [aS]
 | DM _ _ _ _ _ _ _ _ _ _ aS=>simp [aS]
 | obj _ _ _ _ aS=>simp [aS]
 | mp _ _ _ _ aS=>simp [aS]
 | agg _ _ _ aS=>simp [aS]
 | cC _ _ _ aS=>simp [aS]
theorem Hand.cons {ρ:ag->Value->Prop}{Fs:Nat->bz}{x:ag}{v:Value}{F:bz}{xs:List ag}{vs:List Value}{dI:Nat->bz}(h:Hand w I ρ Fs xs vs dI) (J:R w I ρ x v F)
  (aU:∀ k c,k<xs.length->F c->¬ dI k c) (bh:∀ t c,F c->¬ Fs t c) (hi:∀ c,F c->¬ I c):Hand w I ρ Fs (x::xs) (v::vs) (λk=>match k with | 0=>F | k+1=>dI k):=by
 refine ⟨by simp [h.len],λk y u az hu=>?_,λae k c aa hk h1 al=>?_,λk t c hk ab=>?_,λk c hk ab=>?_⟩
 ·cases k with
  | zero=>simp at az hu; subst az hu; exact J
  | succ k=>simp at az hu; exact h.rel k y u az hu
 ·cases ae <;> cases k
  ·rfl
  ·exact absurd al (aU _ c (by simpa using hk) h1)
  ·exact absurd h1 (aU _ c (by simpa using aa) al)
  ·rw [h.e_ _ _ c (by simpa using aa) (by simpa using hk) h1 al]
 ·cases k with
  | zero=>exact bh t c ab
  | succ k=>exact h.off k t c (by simpa using hk) ab
 ·cases k with
  | zero=>exact hi c ab
  | succ k=>exact h.aF k c (by simpa using hk) ab
theorem Hand.tail {ρ:ag->Value->Prop}{Fs:Nat->bz}{x:ag}{v:Value}{xs:List ag}{vs:List Value}{dI:Nat->bz}(h:Hand w I ρ Fs (x::xs) (v::vs) dI):Hand w I ρ Fs xs vs (λk=>dI (k+1)) :=
  ⟨by simpa using h.len,λk y u az hu=>h.rel (k+1) y u az hu,λae k c aa hk h1 al=>by have:=h.e_ (ae+1) (k+1) c (by simpa using aa) (by simpa using hk) h1 al; omega,
   λk t c hk ab=>h.off (k+1) t c (by simpa using hk) ab,λk c hk ab=>h.aF (k+1) c (by simpa using hk) ab⟩
theorem oP {x:ag}{xs:List ag}(h:dc x) (aS:∀ y∈xs,dc y):∀ y∈x::xs,dc y:=by
 intro y az;rcases List.mem_cons.1 az with rfl | az
 ·exact h
 ·exact aS y az
theorem Take.AW {g g':aW}{xs xs':List ag}(h:Take g xs xs' g'):∀ x∈xs',dc x:=by
 induction h with
 | bL h=>exact h
 | cons h _ aS=>exact oP h aS
 | bo _ _ _ _ gx gq=>exact oP (.own gx) gq
 | b8 _ _ _ _ _ gx gq=>exact oP (.own gx) gq
 | DM _ _ _ _ _ _ _ _ _ gx gq=>exact oP (.own gx) gq
 | obj _ _ _ gx gq=>exact oP (.obj gx) gq
 | mp _ _ _ _ gq=>exact oP .mp gq
 | agg _ _ gx gq=>exact oP (.agg gx) gq
 | cC _ _ gx gq=>exact oP (.cC gx) gq
def Eu (w:World) (I:bz) (T:Array Value) (g:aW) (xs xs':List ag) (g':aW):Prop :=
 ∀ {Fs:Nat->bz}{vs:List Value}{dI:Nat->bz},jL w I T g Fs->Hand w I (gl w T) Fs xs vs dI ->
  ∃ cz jI,jL w I T g' cz/\Hand w I (gl w T) cz xs' vs jI/\∀ c,lb cz xs'.length jI c->lb Fs xs.length dI c
theorem HQ {w:World}{e cU:TypeId}{z n:Nat}{v:Value}{us iK:List Value}(h:w.ownsRow 0 e z v n us) (aR:w.ownsRow 0 cU z v n iK):us=iK:=by
 obtain ⟨h1,al⟩:=h;obtain ⟨lX,Q6⟩:=aR;rcases al with ⟨rfl,rfl⟩ | ⟨b,cap,cur,rfl,_,ba,_,_,_,aJ⟩
 ·simp at h1 lX; rw [h1,lX]
 ·rcases Q6 with ⟨ca,_⟩ | ⟨iQ,lV,Qq,ca,_,Ly,_,_,_,qe⟩
  ·cases ca
  ·cases ca;rw [ba] at Ly;cases Ly;rw [<- aJ,<- qe]
theorem Take.node {g1 g2 g':aW}{Fs gj:Nat->bz}{B H0:bz}{cs cs' xs xs':List ag}{us vs:List Value}{b3 dI:Nat->bz}{X:ag}{v0:Value}
  (b6:jL w I T g1 gj) (hH:Hand w I (gl w T) gj cs us b3) (ix:∀ c,B c->(∃ t,Fs t c)/\(∀ t,¬ gj t c)/\(∀ k,k<cs.length->¬ b3 k c)/\¬ I c)
  (gO:∀ c,lb gj cs.length b3 c->(∃ t,Fs t c)\/H0 c) (fG:Hand w I (gl w T) Fs xs vs dI) (uc:∀ c,H0 c->(∀ t,¬ Fs t c)/\∀ k,k<xs.length->¬ dI k c)
  (gx:Eu w I T g1 cs cs' g2) (gq:Eu w I T g2 xs xs' g')
  (build:∀ jI:Nat->bz,(∀ (k:Nat) (x:ag) (u:Value),cs'[k]?=some x->us[k]?=some u->R w I (gl w T) x u (jI k))->(∀ (ae k c:Nat),ae<cs'.length->k<cs'.length->jI ae c->jI k c->ae=k) ->
   (∀ k c,k<cs'.length->jI k c->¬ B c)->R w I (gl w T) X v0 (λc=>B c\/∃ k,k<cs'.length/\jI k c)) :
  ∃ cz jI,jL w I T g' cz/\Hand w I (gl w T) cz (X::xs') (v0::vs) jI/\∀ c,lb cz (X::xs').length jI c->(∃ t,Fs t c)\/H0 c\/∃ k,k<xs.length/\dI k c:=by
 obtain ⟨iV,H1,ih,CS,z8⟩:=gx b6 hH;have Uv:∀ k t c,k<xs.length->dI k c->¬ iV t c:=by
  intro k t c hk ab bn;rcases gO c (z8 c (.inl ⟨t,bn⟩)) with ⟨t',h⟩ | h
  ·exact fG.off k t' c hk ab h
  ·exact (uc c h).2 k hk ab
 obtain ⟨xl,y4,FY,Ry,Lj⟩:=gq ih (⟨fG.len,fG.rel,fG.e_,Uv,fG.aF⟩:Hand w I (gl w T) iV xs vs dI);have Ro:∀ k c,k<cs'.length->H1 k c->¬ B c:=by
  intro k c hk ab aK;obtain ⟨_,h1,al,_⟩:=ix c aK;rcases z8 c (.inr ⟨k,hk,ab⟩) with ⟨t,h⟩ | ⟨ae,aa,h⟩
  ·exact h1 t h
  ·exact al ae aa h
 have F3:=build H1 CS.rel CS.e_ Ro
 -- the node's blocks: apart from all else
 have key:∀ c,(B c\/∃ k,k<cs'.length/\H1 k c)->(∀ t,¬ iV t c)/\(∀ k,k<xs.length->¬ dI k c)/\¬ I c/\((∃ t,Fs t c)\/H0 c):=by
  rintro c (aK | ⟨k,hk,ab⟩)
  ·obtain ⟨⟨t0,bd⟩,h1,al,aQ⟩:=ix c aK;refine ⟨λt bn=>?_,λk hk ab=>fG.off k t0 c hk ab bd,aQ,.inl ⟨t0,bd⟩⟩;rcases z8 c (.inl ⟨t,bn⟩) with ⟨t',h⟩ | ⟨ae,aa,h⟩
   ·exact h1 t' h
   ·exact al ae aa h
  ·have aL:=gO c (z8 c (.inr ⟨k,hk,ab⟩));refine ⟨λt bn=>CS.off k t c hk ab bn,λae aa vO=>?_,CS.aF k c hk ab,aL⟩;rcases aL with ⟨t,h⟩ | h
   ·exact fG.off ae t c aa vO h
   ·exact (uc c h).2 ae aa vO
 have fin:∀ c,(B c\/∃ k,k<cs'.length/\H1 k c)->(∀ t,¬ xl t c)/\∀ k,k<xs'.length->¬ y4 k c:=by
  intro c ab;obtain ⟨h1,al,_,_⟩:=key c ab;have none:¬ lb xl xs'.length y4 c:=by
   intro h;rcases Lj c h with ⟨t,h⟩ | ⟨k,hk,h⟩
   ·exact h1 t h
   ·exact al k hk h
  exact ⟨λt h=>none (.inl ⟨t,h⟩),λk hk h=>none (.inr ⟨k,hk,h⟩)⟩
 refine ⟨xl,_,FY,Ry.cons F3 (λk c hk ab=>(fin c ab).2 k hk) (λt c ab=>(fin c ab).1 t) (λc ab=>(key c ab).2.2.1),?_⟩;have back:∀ c,lb xl xs'.length y4 c->(∃ t,Fs t c)\/H0 c\/∃ k,k<xs.length/\dI k c:=by
  intro c h;rcases Lj c h with ⟨t,h⟩ | h
  ·rcases gO c (z8 c (.inl ⟨t,h⟩)) with h | h
   ·exact .inl h
   ·exact .inr (.inl h)
  ·exact .inr (.inr h)
 rintro c (h | ⟨k,hk,ab⟩)
 ·exact back c (.inl h)
 ·cases k with
  | zero =>
   rcases (key c ab).2.2.2 with h | h
   ·exact .inl h
   ·exact .inr (.inl h)
  | succ k=>exact back c (.inr ⟨k,by simpa using hk,ab⟩)
end
end Go.Own
namespace Go.Own
open Go
section
variable {w:World}{I:bz}{T:Array Value}
theorem jL.kill {g:aW}{Fs:Nat->bz}(h:jL w I T g Fs) (t:Nat):∃ cz,jL w I T (db g ⟨t,[]⟩ .dead) cz/\(∀ c,¬ cz t c)/\∀ s,s≠t->cz s=Fs s:=by
 refine ⟨λs=>if s=t then cW else Fs s,⟨λs x J=>?_,λs aL c=>?_,λs eV c ab fy=>?_,λs c ab=>?_,h.lt⟩,λc=>by simp,λs aL=>by simp [aL]⟩
 ·by_cases cf:s=t
  ·subst cf;simp only [db,if_pos] at J;cases ba:g s with
   | none=>rw [ba] at J; cases J
   | some y =>
    rw [ba] at J;have:x=.dead:=by simpa [ag.setAt] using J.symm
    subst this;obtain ⟨v,hv,_⟩:=h.rel s y ba;exact ⟨v,hv,.tree (.dead (by simp))⟩
  ·simp only [db,if_neg cf] at J; simpa [cf] using h.rel s x J
 ·by_cases cf:s=t
  ·simp [cf]
  ·simp only [db,if_neg cf] at aL; simpa [cf] using h.kH s aL c
 ·by_cases h1:s=t <;> by_cases al:eV=t <;> simp [h1,al,cW] at ab fy;exact h.e_ _ _ _ ab fy
 ·by_cases h1:s=t <;> simp [h1,cW] at ab;exact h.aF _ _ ab
theorem R.ui {ρ:ag->Value->Prop}{Fs:Nat->bz}{x:ag}{v:Value}{xs:List ag}{vs:List Value}{dI:Nat->bz}(h:Hand w I ρ Fs (x::xs) (v::vs) dI):∀ c,dI 0 c->(∀ t,¬ Fs t c)/\∀ k,k<xs.length->¬ dI (k+1) c:=by
 intro c ab;refine ⟨λt=>h.off 0 t c (by simp) ab,λk hk iy=>?_⟩;have:=h.e_ 0 (k+1) c (by simp) (by simpa using hk) ab iy;omega
theorem lb.head {Fs:Nat->bz}{x:ag}{xs:List ag}{dI:Nat->bz}{c:Nat}(h:(∃ t,Fs t c)\/dI 0 c\/∃ k,k<xs.length/\dI (k+1) c):lb Fs (x::xs).length dI c:=by
 rcases h with h | h | ⟨k,hk,h⟩
 ·exact .inl h
 ·exact .inr ⟨0,by simp,h⟩
 ·exact .inr ⟨k+1,by simpa using hk,h⟩
theorem D3 {g:aW}{p:Place}{y:ag}{q:Place}(h:q.root≠p.root):b' (db g p y) q=b' g q:=by
 simp [b',db,h]
theorem tm {g:aW}{p:Place}{y:ag}{t:Nat}(h:t≠p.root):db g p y t=g t:=by
 simp [db,h]
theorem MI {a:Option Addr}{n cap cY lV:Nat}:(Value.slice a n cap).ownBlock=(Value.slice a cY lV).ownBlock:=by cases a <;> rfl
theorem UB {e:TypeId}{z n N:Nat}{a:Option Addr}{cap:Nat}{us:List Value}(h:w.ownsRow 0 e z (.slice a N cap) N us) (aP:n<=N):w.ownsRow 0 e z (.slice a n cap) n (us.take (n * z)):=by
 have hle:n * z<=N * z:=Nat.mul_le_mul_right _ aP;obtain ⟨hu,ca⟩:=h;refine ⟨by rw [List.length_take,hu]; omega,?_⟩;rcases ca with ⟨ca,bd⟩ | ⟨b,c2,cur,ca,tg,fY,uS,sf,uT,th⟩
 ·cases ca; exact .inl ⟨by simp; omega,by omega⟩
 ·cases ca;refine .inr ⟨b,cap,cur,rfl,tg,fY,by omega,sf,uT,?_⟩;rw [<- th,List.take_take,Nat.min_eq_left hle]
theorem Take.sound {g g':aW}{xs xs':List ag}(h:Take g xs xs' g'):Eu w I T g xs xs' g':=by
 induction h with
 | bL h=>exact λ{Fs vs dI} b6 hH=>⟨Fs,dI,b6,hH,λ_ h=>h⟩
 | @cons g g' x xs xs' J _ aS =>
  intro Fs vs dI b6 hH;cases vs with
  | nil=>have:=hH.len; simp at this
  | cons v vs =>
   obtain ⟨cz,jI,eL,Rx,gV⟩:=aS b6 hH.tail;have bd:=R.ui hH;have off:∀ c,dI 0 c->¬ lb cz xs'.length jI c:=by
    intro c ab aK;rcases gV c aK with ⟨t,h⟩ | ⟨k,hk,h⟩
    ·exact (bd c ab).1 t h
    ·exact (bd c ab).2 k hk h
   refine ⟨cz,_,eL,Rx.cons (hH.rel 0 x v rfl rfl) (λk c hk ab h=>off c ab (.inr ⟨k,hk,h⟩)) (λt c ab h=>off c ab (.inl ⟨t,h⟩)) (λc ab=>hH.aF 0 c (by simp) ab),?_⟩;rintro c (h | ⟨k,hk,h⟩)
   ·rcases gV c (.inl h) with h | ⟨ae,aa,h⟩
    ·exact .inl h
    ·exact .inr ⟨ae+1,by simpa using aa,h⟩
   ·cases k with
    | zero=>exact .inr ⟨0,by simp,h⟩
    | succ k =>
     rcases gV c (.inr ⟨k,by simpa using hk,h⟩) with h | ⟨ae,aa,h⟩
     ·exact .inl h
     ·exact .inr ⟨ae+1,by simpa using aa,h⟩
 | @bo g g1 g' z n N p cs cs' xs xs' aG aP t1 _ gx gq =>
  intro Fs vs dI b6 hH;cases vs with
  | nil=>have:=hH.len; simp at this
  | cons v vs =>
   obtain ⟨pT,cN,gZ,hR,dE,kK⟩:=b6.part aG (by simp);obtain ⟨a,iW,cap,h1,rfl,aQ⟩:=(hH.rel 0 _ v rfl rfl).mN;rw [h1] at gZ;cases gZ;obtain ⟨a2,qP,kb,_⟩:=hR.mS;cases kb;obtain ⟨gj,i_,j0,iG⟩:=kK .dead cW (.dead λ_ h=>h) (λ_ h=>h.elim) (λ_ h=>h.elim) (λ_ _ _ h=>h.elim);have ll:∀ t c,gj t c->Fs t c/\¬ cN c:=by
    intro t c ab;by_cases aJ:t=p.root
    ·subst aJ;rcases (j0 c).1 ab with h | h
     ·exact h
     ·exact h.elim
    ·rw [iG t aJ] at ab;exact ⟨ab,λeO=>aJ (b6.e_ _ _ _ ab (dE c eO))⟩
   cases hR with
   | ref J=>simp [ag.isRef] at J
   | @own _ _ _ _ e us b3 _ bh ao lX aw aU aK aT =>
    have Dd:∀ k,k<(cs.take (n * z)).length->k<cs.length:=λk hk=>by rw [List.length_take] at hk; omega
    have e':∀ k c,k<(cs.take (n * z)).length->b3 k c->cN c:=λk c hk ab=>(aT c).2 (.inr ⟨k,Dd k hk,ab⟩);have iE:Hand w I (gl w T) gj (cs.take (n * z)) (us.take (n * z)) b3:=by
     refine ⟨by simp [ao],λk x u J hu=>?_,λae k c aa hk=>aU ae k c (Dd ae aa) (Dd k hk),λk t c hk ab bn=>(ll t c bn).2 (e' k c hk ab),λk c hk ab=>b6.aF _ c (dE c (e' k c hk ab))⟩;rw [List.getElem?_take] at J hu
     split at J
     ·rename_i dW; rw [if_pos dW] at hu; exact aw k x u J hu
     ·cases J
    have oG:=UB bh aP;obtain ⟨cz,jI,ay,a2,a3⟩:=Take.node (g1:=db g p .dead) (Fs:=Fs) (B:=λc=>(Value.slice a n cap).ownBlock=some c) (H0:=dI 0) (X:=.own z n cs') (v0:=.slice a n cap) i_ iE
     (λc ab=>by
      have eO:cN c:=(aT c).2 (.inl (by rw [<- ab]; exact MI));exact ⟨⟨_,dE c eO⟩,λt bn=>(ll t c bn).2 eO,λk hk iy=>aK k c (Dd k hk) iy (by rw [<- ab]; exact MI),b6.aF _ c (dE c eO)⟩)
     (λc ab=>by
      rcases ab with ⟨t,h⟩ | ⟨k,hk,h⟩
      ·exact .inl ⟨t,(ll t c h).1⟩
      ·exact .inl ⟨_,dE c (e' k c hk h)⟩)
     hH.tail (R.ui hH) gx gq (λxo hN iu lk=>by
      refine .own oG (by rw [t1.length]; simp [ao]) (λk u hu=>?_) hN iu (λk c hk ab h=>lk k c hk ab h) λc=>Iff.rfl;rw [List.getElem?_take] at hu
      split at hu
      ·exact lX k u hu
      ·cases hu)
    exact ⟨cz,jI,ay,a2,λc ab=>lb.head (a3 c ab)⟩
 | @b8 g g1 g' z n m t q cs new cs' xs xs' aJ aG bR t1 _ gx gq =>
  intro Fs vs dI b6 hH;cases vs with
  | nil=>have:=hH.len; simp at this
  | cons v vs =>
   obtain ⟨a,iW,cap,h1,rfl,aQ⟩:=(hH.rel 0 _ v rfl rfl).mN;obtain ⟨v0,ju,gK⟩:=b6.rel t _ aJ;simp only [eB,ju,walk,Option.some.injEq] at h1;subst h1;obtain ⟨bv,e,c5,us,news,gK⟩:=gK.uH;have b5:iW=n+m:=by
    obtain ⟨_,ca⟩:=gK.mG;rcases ca with ⟨ca,bd⟩ | ⟨_,_,_,ca,_⟩
    ·cases ca; omega
    ·cases ca; rfl
   subst b5;obtain ⟨Oj,F0,hd,gX⟩:=b6.kill t;have GJ:b' (db g ⟨t,[]⟩ .dead) q=some (.own z n cs):=by rw [D3 (by simpa using bR)]; exact aG
   obtain ⟨pT,cN,gZ,hR,dE,kK⟩:=F0.part GJ (by simp);obtain ⟨cF,lV,bW,rfl⟩:=gK.km;rw [bW] at gZ;cases gZ;obtain ⟨gj,i_,j0,iG⟩:=kK .dead cW (.dead λ_ h=>h) (λ_ h=>h.elim) (λ_ h=>h.elim) (λ_ _ _ h=>h.elim);have ph:∀ c,cN c->Fs q.root c:=λc ab=>by have:=dE c ab; rwa [gX _ bR] at this
   have ll:∀ s c,gj s c->Fs s c/\¬ cN c/\s≠t:=by
    intro s c ab;have cf:s≠t:=by
     rintro rfl;by_cases uB:s=q.root
     ·exact bR uB.symm
     ·rw [iG s uB] at ab; exact hd c ab
    by_cases aL:s=q.root
    ·subst aL;rcases (j0 c).1 ab with h | h
     ·exact ⟨by have:=h.1; rwa [gX _ bR] at this,h.2,cf⟩
     ·exact h.elim
    ·rw [iG s aL,gX s cf] at ab;exact ⟨ab,λeO=>aL (b6.e_ _ _ _ ab (ph c eO)),cf⟩
   cases hR with
   | ref J=>simp [ag.isRef] at J
   | @own _ _ _ _ cU iK b3 _ bh ao lX aw aU aK aT =>
    have:=HQ bh gK.k3;subst this;have e':∀ k c,k<cs.length->b3 k c->cN c:=λk c hk ab=>(aT c).2 (.inr ⟨k,hk,ab⟩);have iE:Hand w I (gl w T) gj (cs++new) (iK++news) (λk=>if k<cs.length then b3 k else cW):=by
     refine ⟨by simp [ao,gK.ao],λk x u J hu=>?_,λae k c aa hk ab fy=>?_,λk s c hk ab bn=>?_,λk c hk ab=>?_⟩
     ·by_cases dW:k<cs.length
      ·rw [List.getElem?_append_left dW] at J;rw [List.getElem?_append_left (by omega)] at hu;simpa [dW] using aw k x u J hu
      ·rw [List.getElem?_append_right (by omega)] at J;rw [List.getElem?_append_right (by omega),<- ao] at hu;simpa [dW] using gK.aw _ x u J hu
     ·by_cases fj:ae<cs.length <;> by_cases dW:k<cs.length <;> simp [fj,dW,cW] at ab fy;exact aU ae k c fj dW ab fy
     ·by_cases dW:k<cs.length <;> simp [dW,cW] at ab;exact (ll s c bn).2.1 (e' k c dW ab)
     ·by_cases dW:k<cs.length <;> simp [dW,cW] at ab;exact b6.aF _ c (ph c (e' k c dW ab))
    obtain ⟨cz,jI,ay,a2,a3⟩:=Take.node (g1:=db (db g ⟨t,[]⟩ .dead) q .dead) (Fs:=Fs) (B:=λc=>(Value.slice a (n+m) cap).ownBlock=some c) (H0:=dI 0) (X:=.own z (n+m) cs') (v0:=.slice a (n+m) cap) i_ iE
     (λc ab=>by
      by_cases qb:(Value.slice cF n lV).ownBlock=some c
      ·have eO:cN c:=(aT c).2 (.inl qb);refine ⟨⟨_,ph c eO⟩,λs bn=>(ll s c bn).2.1 eO,λk hk iy=>?_,b6.aF _ c (ph c eO)⟩;by_cases dW:k<cs.length <;> simp [dW,cW] at iy;exact aK k c dW iy qb
      ·have De:Fs t c:=(gK.aT c).2 ⟨ab,qb⟩;refine ⟨⟨_,De⟩,λs bn=>(ll s c bn).2.2 (b6.e_ _ _ _ (ll s c bn).1 De),λk hk iy=>?_,b6.aF _ c De⟩;by_cases dW:k<cs.length <;> simp [dW,cW] at iy;exact bR (b6.e_ _ _ _ (ph c (e' k c dW iy)) De))
     (λc ab=>by
      rcases ab with ⟨s,h⟩ | ⟨k,hk,h⟩
      ·exact .inl ⟨s,(ll s c h).1⟩
      ·by_cases dW:k<cs.length <;> simp [dW,cW] at h;exact .inl ⟨_,ph c (e' k c dW h)⟩)
     hH.tail (R.ui hH) gx gq (λxo hN iu lk=>by
      refine .own gK.mG (by rw [t1.length]; simp [ao,gK.ao]) (λk u hu=>?_) hN iu (λk c hk ab h=>lk k c hk ab h) λc=>Iff.rfl;by_cases dW:k<iK.length
      ·rw [List.getElem?_append_left dW] at hu; exact lX k u hu
      ·rw [List.getElem?_append_right (by omega)] at hu; exact gK.h1 _ u hu)
    exact ⟨cz,jI,ay,a2,λc ab=>lb.head (a3 c ab)⟩
 | @DM g g1 g' z n m t qp m2 t2 q cs new ym cs' xs xs' aJ L4 aP aG bR r4 Tc t1 _ gx gq =>
  subst aP;intro Fs vs dI b6 hH;cases vs with
  | nil=>have:=hH.len; simp at this
  | cons v vs =>
   obtain ⟨a,iW,cap,h1,rfl,aQ⟩:=(hH.rel 0 _ v rfl rfl).mN;obtain ⟨v0,ju,gK⟩:=b6.rel t _ aJ;simp only [eB,ju,walk,Option.some.injEq] at h1;subst h1;obtain ⟨bv,e,c5,us,news,gK⟩:=gK.uH;have b5:iW=qp+m2+m:=by
    obtain ⟨_,ca⟩:=gK.mG;rcases ca with ⟨ca,bd⟩ | ⟨_,_,_,ca,_⟩
    ·cases ca; omega
    ·cases ca; rfl
   subst b5;obtain ⟨v2,qh,l0⟩:=b6.rel t2 _ L4;obtain ⟨JJ,cU,sH,VV,HJ,l0⟩:=l0.uH;have km:bv=v2:=by
    obtain ⟨ay,JY,da,rfl⟩:=gK.km;simp only [eB,qh,walk,Option.some.injEq] at da;exact da.symm
   subst km;have mJ:us=VV++HJ:=HQ gK.k3 l0.mG;subst mJ;obtain ⟨Wh,RP,SI,Gq⟩:=b6.kill t;obtain ⟨Oj,F0,hd,gX⟩:=RP.kill t2;have GJ:b' (db (db g ⟨t,[]⟩ .dead) ⟨t2,[]⟩ .dead) q=some (.own z qp cs):=by rw [D3 (by simpa using r4),D3 (by simpa using bR)]; exact aG
   obtain ⟨pT,cN,gZ,hR,dE,kK⟩:=F0.part GJ (by simp);obtain ⟨cF,lV,bW,rfl⟩:=l0.km;rw [bW] at gZ;cases gZ;obtain ⟨gj,i_,j0,iG⟩:=kK .dead cW (.dead λ_ h=>h) (λ_ h=>h.elim) (λ_ h=>h.elim) (λ_ _ _ h=>h.elim);have ph:∀ c,cN c->Fs q.root c:=λc ab=>by have:=dE c ab; rwa [gX _ r4,Gq _ bR] at this
   have ll:∀ s c,gj s c->Fs s c/\¬ cN c/\s≠t/\s≠t2:=by
    intro s c ab;have ny:s≠t2:=by
     rintro rfl;by_cases uB:s=q.root
     ·exact r4 uB.symm
     ·rw [iG s uB] at ab; exact hd c ab
    have cf:s≠t:=by
     rintro rfl;by_cases uB:s=q.root
     ·exact bR uB.symm
     ·rw [iG s uB,gX s ny] at ab; exact SI c ab
    by_cases aL:s=q.root
    ·subst aL;rcases (j0 c).1 ab with h | h
     ·exact ⟨by have:=h.1; rwa [gX _ r4,Gq _ bR] at this,h.2,cf,ny⟩
     ·exact h.elim
    ·rw [iG s aL,gX s ny,Gq s cf] at ab;exact ⟨ab,λeO=>aL (b6.e_ _ _ _ ab (ph c eO)),cf,ny⟩
   cases hR with
   | ref J=>simp [ag.isRef] at J
   | @own _ _ _ _ jo iK b3 _ bh ao lX aw aU aK aT =>
    have:=HQ bh l0.k3;subst this;have e':∀ k c,k<cs.length->b3 k c->cN c:=λk c hk ab=>(aT c).2 (.inr ⟨k,hk,ab⟩);have iE:Hand w I (gl w T) gj (cs++ym++new) (iK++HJ++news) (λk=>if k<cs.length then b3 k else cW):=by
     have Hy:=l0.ao;have AJ:=gK.ao;refine ⟨by simp [ao,Hy,AJ],λk x u J hu=>?_,λae k c aa hk ab fy=>?_,λk s c hk ab bn=>?_,λk c hk ab=>?_⟩
     ·rw [List.append_assoc] at J hu;by_cases dW:k<cs.length
      ·rw [List.getElem?_append_left dW] at J;rw [List.getElem?_append_left (by omega)] at hu;simpa [dW] using aw k x u J hu
      ·rw [List.getElem?_append_right (by omega)] at J;rw [List.getElem?_append_right (by omega),<- ao] at hu;simp only [dW,if_false];by_cases Gu:k - cs.length<ym.length
       ·rw [List.getElem?_append_left Gu] at J;rw [List.getElem?_append_left (by omega)] at hu;exact l0.aw _ x u J hu
       ·rw [List.getElem?_append_right (by omega)] at J;rw [List.getElem?_append_right (by omega),<- Hy] at hu;exact gK.aw _ x u J hu
     ·by_cases fj:ae<cs.length <;> by_cases dW:k<cs.length <;> simp [fj,dW,cW] at ab fy;exact aU ae k c fj dW ab fy
     ·by_cases dW:k<cs.length <;> simp [dW,cW] at ab;exact (ll s c bn).2.1 (e' k c dW ab)
     ·by_cases dW:k<cs.length <;> simp [dW,cW] at ab;exact b6.aF _ c (ph c (e' k c dW ab))
    have NH:∀ s c,Fs s c->s=t\/s=t2->(∃ s,Fs s c)/\(∀ s,¬ gj s c)/\(∀ k,k<(cs++ym++new).length->¬ (if k<cs.length then b3 k else cW) c)/\¬ I c:=by
     intro s c ab aL;refine ⟨⟨_,ab⟩,λeV bn=>?_,λk hk iy=>?_,b6.aF _ c ab⟩
     ·obtain ⟨f1,_,f2,f3⟩:=ll eV c bn;have:=b6.e_ _ _ _ f1 ab;rcases aL with rfl | rfl
      ·exact f2 this
      ·exact f3 this
     ·by_cases dW:k<cs.length <;> simp [dW,cW] at iy;have:=b6.e_ _ _ _ (ph c (e' k c dW iy)) ab;rcases aL with rfl | rfl
      ·exact bR this
      ·exact r4 this
    obtain ⟨cz,jI,ay,a2,a3⟩:=Take.node (g1:=db (db (db g ⟨t,[]⟩ .dead) ⟨t2,[]⟩ .dead) q .dead) (Fs:=Fs) (B:=λc=>(Value.slice a (qp+m2+m) cap).ownBlock=some c) (H0:=dI 0) (X:=.own z (qp+m2+m) cs') (v0:=.slice a (qp+m2+m) cap) i_ iE
     (λc ab=>by
      by_cases qb:bv.ownBlock=some c
      ·by_cases Gb:(Value.slice cF qp lV).ownBlock=some c
       ·have eO:cN c:=(aT c).2 (.inl Gb);refine ⟨⟨_,ph c eO⟩,λs bn=>(ll s c bn).2.1 eO,λk hk iy=>?_,b6.aF _ c (ph c eO)⟩;by_cases dW:k<cs.length <;> simp [dW,cW] at iy;exact aK k c dW iy Gb
       ·exact NH t2 c ((l0.aT c).2 ⟨qb,Gb⟩) (.inr rfl)
      ·exact NH t c ((gK.aT c).2 ⟨ab,qb⟩) (.inl rfl))
     (λc ab=>by
      rcases ab with ⟨s,h⟩ | ⟨k,hk,h⟩
      ·exact .inl ⟨s,(ll s c h).1⟩
      ·by_cases dW:k<cs.length <;> simp [dW,cW] at h;exact .inl ⟨_,ph c (e' k c dW h)⟩)
     hH.tail (R.ui hH) gx gq (λxo hN iu lk=>by
      refine .own gK.mG (by rw [t1.length]; simp [ao,l0.ao,gK.ao]) (λk u hu=>?_) hN iu (λk c hk ab h=>lk k c hk ab h) λc=>Iff.rfl;rw [List.append_assoc] at hu;by_cases dW:k<iK.length
      ·rw [List.getElem?_append_left dW] at hu; exact lX k u hu
      ·rw [List.getElem?_append_right (by omega)] at hu;by_cases Gu:k - iK.length<HJ.length
       ·rw [List.getElem?_append_left Gu] at hu; exact l0.h1 _ u hu
       ·rw [List.getElem?_append_right (by omega)] at hu; exact gK.h1 _ u hu)
    exact ⟨cz,jI,ay,a2,λc ab=>lb.head (a3 c ab)⟩
 | @obj g g1 g' p cs cs' xs xs' aG t1 _ gx gq =>
  intro Fs vs dI b6 hH;cases vs with
  | nil=>have:=hH.len; simp at this
  | cons v vs =>
   obtain ⟨pT,cN,gZ,hR,dE,kK⟩:=b6.part aG (by simp);obtain ⟨u,ad,h1,al,rfl⟩:=(hH.rel 0 _ v rfl rfl).ni;rw [h1] at gZ;cases gZ;obtain ⟨gj,i_,j0,iG⟩:=kK .dead cW (.dead λ_ h=>h) (λ_ h=>h.elim) (λ_ h=>h.elim) (λ_ _ _ h=>h.elim);have ll:∀ t c,gj t c->Fs t c/\¬ cN c:=by
    intro t c ab;by_cases aJ:t=p.root
    ·subst aJ;rcases (j0 c).1 ab with h | h
     ·exact h
     ·exact h.elim
    ·rw [iG t aJ] at ab;exact ⟨ab,λeO=>aJ (b6.e_ _ _ _ ab (dE c eO))⟩
   cases hR with
   | ref J=>simp [ag.isRef] at J
   | @obj _ b e arr b3 _ bh ao lX aw aU aK aT =>
    simp only [addrOf,Option.some.injEq] at al;subst al;have e':∀ k c,k<cs.length->b3 k c->cN c:=λk c hk ab=>(aT c).2 (.inr ⟨k,hk,ab⟩);have iE:Hand w I (gl w T) gj cs arr.toList b3 :=
     ⟨by simp [ao],λk x u J hu=>aw k x u J (by simpa using hu),aU,λk t c hk ab bn=>(ll t c bn).2 (e' k c hk ab),λk c hk ab=>b6.aF _ c (dE c (e' k c hk ab))⟩
    obtain ⟨cz,jI,ay,a2,a3⟩:=Take.node (g1:=db g p .dead) (Fs:=Fs) (B:=λc=>c=b) (H0:=dI 0) (X:=.obj cs') (v0:=.pointer (some ⟨b,0,none⟩)) i_ iE
     (λc ab=>by
      subst ab;have eO:cN c:=(aT c).2 (.inl rfl);exact ⟨⟨_,dE c eO⟩,λt bn=>(ll t c bn).2 eO,λk hk iy=>aK k hk iy,b6.aF _ c (dE c eO)⟩)
     (λc ab=>by
      rcases ab with ⟨t,h⟩ | ⟨k,hk,h⟩
      ·exact .inl ⟨t,(ll t c h).1⟩
      ·exact .inl ⟨_,dE c (e' k c hk h)⟩)
     hH.tail (R.ui hH) gx gq (λxo hN iu lk=>by
      refine .obj bh (by rw [t1.length,ao]) lX (λk x u J hu=>hN k x u J (by simpa using hu)) iu (λk hk h=>lk k b hk h rfl) λc=>Iff.rfl)
    exact ⟨cz,jI,ay,a2,λc ab=>lb.head (a3 c ab)⟩
 | @mp g g1 g' p q xs xs' aG t1 _ gx gq =>
  intro Fs vs dI b6 hH;cases vs with
  | nil=>have:=hH.len; simp at this
  | cons v vs =>
   obtain ⟨pT,cN,gZ,hR,dE,kK⟩:=b6.part aG (by simp);have hm:=hH.rel 0 _ v rfl rfl;cases hm with
   | ref _ hm _ =>
   obtain ⟨EJ,h1,rfl⟩:=hm;rw [h1] at gZ;cases gZ;obtain ⟨gj,i_,j0,iG⟩:=kK .dead cW (.dead λ_ h=>h) (λ_ h=>h.elim) (λ_ h=>h.elim) (λ_ _ _ h=>h.elim);have ll:∀ t c,gj t c->Fs t c/\¬ cN c:=by
    intro t c ab;by_cases aJ:t=p.root
    ·subst aJ;rcases (j0 c).1 ab with h | h
     ·exact h
     ·exact h.elim
    ·rw [iG t aJ] at ab;exact ⟨ab,λeO=>aJ (b6.e_ _ _ _ ab (dE c eO))⟩
   cases hR with
   | ref J=>simp [ag.isRef] at J
   | @mp _ b es clock _ bh bR aT =>
    have iE:Hand w I (gl w T) gj [] [] (λ_=>cW) :=
     ⟨rfl,λk x u J=>by simp at J,λ_ _ _ _ _ h=>h.elim,λ_ _ _ _ h=>h.elim,λ_ _ _ h=>h.elim⟩
    obtain ⟨cz,jI,ay,a2,a3⟩:=Take.node (g1:=db g p .dead) (Fs:=Fs) (B:=λc=>c=b) (H0:=dI 0) (X:=.mp q) (v0:=.map (some b)) i_ iE
     (λc ab=>by
      subst ab;have eO:cN c:=(aT c).2 rfl;exact ⟨⟨_,dE c eO⟩,λt bn=>(ll t c bn).2 eO,λk hk _=>by simp at hk,b6.aF _ c (dE c eO)⟩)
     (λc ab=>by
      rcases ab with ⟨t,h⟩ | ⟨k,hk,h⟩
      ·exact .inl ⟨t,(ll t c h).1⟩
      ·exact h.elim)
     hH.tail (R.ui hH) gx gq (λxo hN iu lk=>by
      refine .mp bh bR λc=>⟨λh=>h.elim id λ⟨_,hk,_⟩=>by simp at hk,.inl⟩)
    exact ⟨cz,jI,ay,a2,λc ab=>lb.head (a3 c ab)⟩
 | @agg g g1 g' cs cs' xs xs' t1 _ gx gq =>
  intro Fs vs dI b6 hH;cases vs with
  | nil=>have:=hH.len; simp at this
  | cons v vs =>
   have J:=hH.rel 0 _ v rfl rfl;have bd:=R.ui hH;cases J with
   | ref J=>simp [ag.isRef] at J
   | @agg _ us b3 _ ao lX aw aU aT =>
    have e':∀ k c,k<cs.length->b3 k c->dI 0 c:=λk c hk ab=>(aT c).2 ⟨k,hk,ab⟩;obtain ⟨cz,jI,ay,a2,a3⟩:=Take.node (g1:=g) (Fs:=Fs) (B:=cW) (H0:=dI 0) (X:=.agg cs') (v0:=.agg us) b6
     (⟨by simp [ao],λk x u J hu=>aw k x u J (by simpa using hu),aU,λk t c hk ab=>(bd c (e' k c hk ab)).1 t,λk c hk ab=>hH.aF 0 c (by simp) (e' k c hk ab)⟩:Hand w I (gl w T) Fs cs us.toList b3)
     (λc ab=>ab.elim)
     (λc ab=>by
      rcases ab with h | ⟨k,hk,h⟩
      ·exact .inl h
      ·exact .inr (e' k c hk h))
     hH.tail bd gx gq (λxo hN iu lk=>by
      refine .agg (by rw [t1.length,ao]) lX (λk x u J hu=>hN k x u J (by simpa using hu)) iu λc=>⟨λh=>h.elim (λh=>h.elim) id,.inr⟩)
    exact ⟨cz,jI,ay,a2,λc ab=>lb.head (a3 c ab)⟩
 | @cC g g1 g' cs cs' xs xs' t1 _ gx gq =>
  intro Fs vs dI b6 hH;cases vs with
  | nil=>have:=hH.len; simp at this
  | cons v vs =>
   have J:=hH.rel 0 _ v rfl rfl;have bd:=R.ui hH;cases J with
   | ref J=>simp [ag.isRef] at J
   | @cC _ us b3 _ ao aw aU aT =>
    have e':∀ k c,k<cs.length->b3 k c->dI 0 c:=λk c hk ab=>(aT c).2 ⟨k,hk,ab⟩;obtain ⟨cz,jI,ay,a2,a3⟩:=Take.node (g1:=g) (Fs:=Fs) (B:=cW) (H0:=dI 0) (X:=.cC cs') (v0:=.tuple us) b6
     (⟨by simp [ao],λk x u J hu=>aw k x u J (by simpa using hu),aU,λk t c hk ab=>(bd c (e' k c hk ab)).1 t,λk c hk ab=>hH.aF 0 c (by simp) (e' k c hk ab)⟩:Hand w I (gl w T) Fs cs us.toList b3)
     (λc ab=>ab.elim)
     (λc ab=>by
      rcases ab with h | ⟨k,hk,h⟩
      ·exact .inl h
      ·exact .inr (e' k c hk h))
     hH.tail bd gx gq (λxo hN iu lk=>by
      refine .cC (by rw [t1.length,ao]) (λk x u J hu=>hN k x u J (by simpa using hu)) iu λc=>⟨λh=>h.elim (λh=>h.elim) id,.inr⟩)
    exact ⟨cz,jI,ay,a2,λc ab=>lb.head (a3 c ab)⟩
end
end Go.Own
namespace Go.Own
open Go
inductive ki (mr:ag->Prop):ag->Prop
 | bL {x:ag}(h:dc x):ki mr x
 | ref {x:ag}(J:x.isRef=true) (h:mr x):ki mr x
 | own {z n:Nat}{cs:List ag}(h:∀ x∈cs,ki mr x):ki mr (.own z n cs)
 | obj {cs:List ag}(h:∀ x∈cs,ki mr x):ki mr (.obj cs)
 | agg {cs:List ag}(h:∀ x∈cs,ki mr x):ki mr (.agg cs)
 | cC {cs:List ag}(h:∀ x∈cs,ki mr x):ki mr (.cC cs)
 | et {fn:Fn}{a b:List ag}(h1:∀ x∈a,ki mr x) (al:∀ x∈b,ki mr x):ki mr (.et fn a b)
def yL:ag->Option Place
 | .ptr p _=>some p
 | .bo _ p _=>some p
 | .sub _ p _ _=>some p
 | .b8 _ p _ _ _=>some p
 | .iR p=>some p
 | _=>none
def Clear (p:Place) (k m:Nat) (r:ag):Prop:=∀ q,yL r=some q->q.root=p.root->∀ ae e8,q.path=p.path++ae::e8->ae<k\/k+m<=ae
def fL {α:Type}(l:List α) (k:Nat) (c:List α):List α:=l.take k++c++l.drop (k+c.length)
theorem qy {α:Type}{l:List α}{k:Nat}{c:List α}(h:k+c.length<=l.length):(fL l k c).length=l.length:=by
 simp [fL]; omega
theorem sh {α:Type}{l:List α}{k:Nat}{c:List α}(h:k+c.length<=l.length) (ae:Nat):(fL l k c)[ae]?=if k<=ae/\ae<k+c.length then c[ae - k]? else l[ae]?:=by
 unfold fL;rw [List.append_assoc];by_cases h1:ae<k
 ·rw [List.getElem?_append_left (by simp; omega),List.getElem?_take,if_pos h1,if_neg (by omega)]
 ·rw [List.getElem?_append_right (by simp; omega)];have:(l.take k).length=k:=by simp; omega
  rw [this];by_cases al:ae<k+c.length
  ·rw [List.getElem?_append_left (by omega),if_pos ⟨by omega,al⟩]
  ·rw [List.getElem?_append_right (by omega),List.getElem?_drop,if_neg (by omega)];congr 1; omega
theorem Vo {α:Type}{l:List α}{k:Nat}{c:List α}{m:Nat}(h:k+c.length<=m) (hm:m<=l.length):(fL l k c).take m=fL (l.take m) k c:=by
 have h1:k+c.length<=(l.take m).length:=by rw [List.length_take]; omega
 apply List.ext_getElem?;intro ae;rw [List.getElem?_take,sh h1,sh (l:=l) (by omega),List.getElem?_take];by_cases aa:ae<m
 ·rw [if_pos aa,if_pos aa]
 ·rw [if_neg aa,if_neg aa,if_neg (by omega)]
def ag.fL (x:ag) (k:Nat) (c:List ag):ag :=
 match x with
 | .own z n cs=>.own z n (Own.fL cs k c)
 | .obj cs=>.obj (Own.fL cs k c)
 | x=>x
section
variable {w:World}{I:bz}{T:Array Value}{g:aW}{Fs:Nat->bz}
theorem R.Bt {ρ:ag->Value->Prop}{mr:ag->Prop}{x:ag}{v:Value}{F:bz}(h:R w I ρ x v F):ki mr x->R w I (λr u=>ρ r u/\mr r) x v F:=by
 induction h with
 | lit h aT=>exact λ_=>.lit h aT
 | aN aT=>exact λ_=>.aN aT
 | dead aT=>exact λ_=>.dead aT
 | @ref x _ _ J h aT =>
  intro hk;refine .ref J ⟨h,?_⟩ aT;cases hk with
  | ref _ h=>exact h
  | bL h=>cases h <;> simp [ag.isRef] at J
  | _=>simp [ag.isRef] at J
 | hS aT=>exact λ_=>.hS aT
 | mp bh aG aT=>exact λ_=>.mp bh aG aT
 | imp aT bw bh aG=>exact λ_=>.imp aT bw bh aG
 | aF aT k2 bw aL ao h1 ab aw aS =>
  intro hk;cases hk with
  | ref J=>simp [ag.isRef] at J
  | bL h=>cases h with | aF h=>exact .aF aT k2 bw aL ao h1 ab λk x J=>aS k x J (.bL (h x (List.mem_of_getElem? J)))
 | bk aT bw aL h1 ab aw aS =>
  intro hk;cases hk with
  | ref J=>simp [ag.isRef] at J
  | bL h=>cases h with | bk h=>exact .bk aT bw aL h1 ab λk x J=>aS k x J (.bL (h x (List.mem_of_getElem? J)))
 | own bh ao h1 aw aU aK aT aS =>
  intro hk;refine .own bh ao h1 (λk x u J hu=>aS k x u J hu ?_) aU aK aT;cases hk with
  | ref J=>simp [ag.isRef] at J
  | bL h=>cases h with | own h=>exact .bL (h x (List.mem_of_getElem? J))
  | own h=>exact h x (List.mem_of_getElem? J)
 | obj bh ao h1 aw aU aK aT aS =>
  intro hk;refine .obj bh ao h1 (λk x u J hu=>aS k x u J hu ?_) aU aK aT;cases hk with
  | ref J=>simp [ag.isRef] at J
  | bL h=>cases h with | obj h=>exact .bL (h x (List.mem_of_getElem? J))
  | obj h=>exact h x (List.mem_of_getElem? J)
 | agg ao h1 aw aU aT aS =>
  intro hk;refine .agg ao h1 (λk x u J hu=>aS k x u J hu ?_) aU aT;cases hk with
  | ref J=>simp [ag.isRef] at J
  | bL h=>cases h with | agg h=>exact .bL (h x (List.mem_of_getElem? J))
  | agg h=>exact h x (List.mem_of_getElem? J)
 | cC ao aw aU aT aS =>
  intro hk;refine .cC ao (λk x u J hu=>aS k x u J hu ?_) aU aT;cases hk with
  | ref J=>simp [ag.isRef] at J
  | bL h=>cases h with | cC h=>exact .bL (h x (List.mem_of_getElem? J))
  | cC h=>exact h x (List.mem_of_getElem? J)
 | @et fn first caps v1 v2 F aT h1 al j0 iG gx gq =>
  intro hk;have:(∀ x∈first,ki mr x)/\∀ x∈caps,ki mr x:=by
   cases hk with
   | ref J=>simp [ag.isRef] at J
   | bL h=>cases h with | et h1 al=>exact ⟨λx J=>.bL (h1 x J),λx J=>.bL (al x J)⟩
   | et h1 al=>exact ⟨h1,al⟩
  exact .et aT h1 al (λk x u J hu=>gx k x u J hu (this.1 x (List.mem_of_getElem? J))) (λk x u J hu=>gq k x u J hu (this.2 x (List.mem_of_getElem? J)))
theorem jL.store (b6:jL w I T g Fs) {p:Place}{nd:ag}{z n:Nat}{cs:List ag}(aG:b' g p=some nd) (gg:nd=.own z n cs\/nd=.obj cs) {k:Nat}{cs':List ag}(hk:k+cs'.length<=cs.length)
  {iK:List Value}{dI:Nat->bz}(hH:Hand w I (gl w T) Fs cs' iK dI) (mE:∀ x∈cs',dc x) (gY:∀ (ae:Nat) (u:Value),iK[ae]?=some u->u.oneCell'=true)
  {g2:aW}(C1:∀ t x,g2 t=some x->db g p (nd.fL k cs') t=some x)
  (Ap:∀ t x,g2 t=some x->∀ y,g t=some y->ki (λr=>hn g r/\Clear p k cs'.length r/\hn g2 r) y) (l8:∀ t z q n m new,g2 t≠some (.b8 z q n m new)) (mI:g2 p.root≠none) {b:Nat}{v:Value}
  (hv:eB w T p=some v) (aK:addrOf v=some ⟨b,0,none⟩) {e:TypeId}{arr:Array Value}(ln:w.heap[b]?=some (.cells arr e (0,0))) :
  ∃ cz,c7 (w.setRow b (fL arr.toList k iK).toArray) I T g2 cz/\∀ t c,cz t c->Fs t c\/∃ ae,ae<cs'.length/\dI ae c:=by
 have k7:∀ z q n m new,nd≠.b8 z q n m new:=by rcases gg with rfl | rfl <;> simp
 have hlen:=hH.len;have rz:∀ c,c≠b->(w.setRow b (fL arr.toList k iK).toArray).heap[c]?=w.heap[c]?:=λc ab=>setRow_other w b c _ ab;have IE:(w.setRow b (fL arr.toList k iK).toArray).heap[b]?=some (.cells (fL arr.toList k iK).toArray e (0,0)):=setRow_heap w b arr _ e (0,0) ln;have XA:(w.setRow b (fL arr.toList k iK).toArray).heap.size=w.heap.size:=by simp
 generalize vU:w.setRow b (fL arr.toList k iK).toArray=w' at *
 -- the slot of the node
 obtain ⟨fB,k4⟩:∃ fB,g p.root=some fB:=by
  unfold b' at aG;cases J:g p.root with
  | none=>rw [J] at aG; cases aG
  | some x=>exact ⟨x,rfl⟩
 have qW:fB.at p.path=some nd:=by simpa [b',k4] using aG
 obtain ⟨v0,ju,gK⟩:=b6.rel _ _ k4;have FO:=gK.h0 (by rintro z q n m new rfl; exact k7 _ _ _ _ _ (ag.sB qW).2);have x1:ki (λr=>hn g r/\Clear p k cs'.length r/\hn g2 r) fB:=by
  cases al:g2 p.root with
  | none=>exact absurd al mI
  | some y=>exact Ap _ _ al _ k4
 let I2:ag->Value->Prop:=λr u=>gl w T r u/\hn g r/\Clear p k cs'.length r/\hn g2 r;have FP:R w I I2 fB v0 (Fs p.root):=FO.Bt x1;obtain ⟨iD,cN,hw,dZ,dE,gd,kK⟩:=R.focus p.path FP qW;have Tk:iD=v:=by simp only [eB,ju,hw,Option.some.injEq] at hv; exact hv
 subst Tk;have nY:cN b:=dZ.DF (z:=z) (n:=n) gg aK;have same:∀ t c,Fs t c->c≠b->w'.heap[c]?=w.heap[c]?:=λ_ c _ ab=>rz c ab;have zZ:∀ c,I c->w'.heap[c]?=w.heap[c]?:=λc ab=>rz c λe=>b6.aF _ b (dE b nY) (e ▸ ab);have LV:∀ t,t≠p.root->¬ Fs t b:=λt aJ h=>aJ (b6.e_ _ _ _ h (dE b nY))
 -- ways that are clear of the cells
 obtain ⟨V3,V4⟩:=gd w' λc ab aP=>rz c λe=>aP (e ▸ nY);have Mn:∀ (ρ':ag->Value->Prop),(∀ x v,I2 x v->ρ' x v)->(∃ f',R w' I ρ' (nd.fL k cs') iD f'/\∀ c,f' c->cN c\/∃ ae,ae<cs'.length/\dI ae c)/\∀ ae e8 y,(ae<k\/k+cs'.length<=ae)->nd.at (ae::e8)=some y->walk w' iD (ae::e8)=walk w iD (ae::e8):=by
  intro ρ' lu;have new:∀ (ae:Nat) (x:ag) (u:Value),cs'[ae]?=some x->iK[ae]?=some u->R w' I ρ' x u (dI ae):=by
   intro ae x u J hu;have aa:ae<cs'.length:=(List.getElem?_eq_some_iff.1 J).1;have:=(hH.rel ae x u J hu).bL (ρ':=ρ') (mE x (List.mem_of_getElem? J));exact this.frame zZ (λ_ h=>h) (λ_ _ h=>h) λc ab=>rz c λe=>hH.off ae p.root b aa (e ▸ ab) (dE b nY)
  rcases gg with rfl | rfl
  ·cases dZ with
   | ref J=>simp [ag.isRef] at J
   | @own _ _ _ _ cU us b3 _ bh ao h1 aw aU ka aT =>
    obtain ⟨mJ,ca⟩:=bh;rcases ca with ⟨rfl,_⟩ | ⟨iQ,cap,cur,rfl,tg,fY,uS,sf,uT,th⟩
    ·simp [addrOf] at aK
    ·simp only [addrOf,Option.some.injEq,Addr.mk.injEq,and_true] at aK;subst aK;rw [ln] at fY;cases fY;have Lq:n * z<=arr.toList.length:=by
      rw [<- mJ,<- th,List.length_take] ; simp; omega
     have Xh:us.length=cs.length:=ao.symm;have mF:w'.ownsRow 0 e z (.slice (some ⟨iQ,0,none⟩) n cap) n (fL us k iK):=by
      refine ⟨by rw [qy (by omega),mJ],.inr ⟨iQ,cap,_,rfl,tg,IE,uS,sf,?_,?_⟩⟩
      ·rw [List.size_toArray,qy (by omega),Array.length_toList,uT]
      ·show (fL arr.toList k iK).take (n * z)=_;rw [Vo (by omega) Lq,th]
     have K7:∀ ae,ae<cs.length->¬ b3 ae iQ:=λae aa h=>ka ae iQ aa h rfl;have e':∀ ae c,ae<cs.length->b3 ae c->Fs p.root c:=λae c aa ab=>dE c ((aT c).2 (.inr ⟨ae,aa,ab⟩));refine ⟨⟨_,.own (Fs:=λae=>if k<=ae/\ae<k+cs'.length then dI (ae - k) else b3 ae) mF (by rw [qy hk,qy (by omega),ao]) (λae u hu=>?_) (λae x u J hu=>?_) (λi ae c hi aa ab fy=>?_) (λae c aa ab uD=>?_) (λc=>Iff.rfl),λc ab=>?_⟩,λae e8 y aa az=>?_⟩
     ·rw [sh (by omega)] at hu
      split at hu
      ·exact gY _ u hu
      ·exact h1 ae u hu
     ·rw [sh hk] at J;rw [sh (by omega),<- hlen] at hu;by_cases eQ:k<=ae/\ae<k+cs'.length
      ·rw [if_pos eQ] at J hu;simpa [eQ] using new (ae - k) x u J hu
      ·rw [if_neg eQ] at J hu;have fj:ae<cs.length:=(List.getElem?_eq_some_iff.1 J).1;rw [if_neg eQ];exact (aw ae x u J hu).frame zZ (λ_ h=>h) lu λc ab=>rz c λe=>K7 ae fj (e ▸ ab)
     ·rw [qy hk] at hi aa;by_cases h1:k<=i/\i<k+cs'.length <;> by_cases al:k<=ae/\ae<k+cs'.length <;> simp only [h1,al,if_false] at ab fy
      ·have:=hH.e_ (i - k) (ae - k) c (by omega) (by omega) (by simpa using ab) (by simpa using fy);omega
      ·exact absurd (e' ae c aa fy) (hH.off (i - k) _ c (by omega) (by simpa using ab))
      ·exact absurd (e' i c hi ab) (hH.off (ae - k) _ c (by omega) (by simpa using fy))
      ·exact aU i ae c hi aa ab fy
     ·rw [qy hk] at aa;by_cases h1:k<=ae/\ae<k+cs'.length
      ·rw [if_pos h1] at ab;simp only [Value.ownBlock,Option.some.injEq] at uD;subst uD;exact hH.off (ae - k) p.root iQ (by omega) ab (dE iQ nY)
      ·rw [if_neg h1] at ab; exact ka ae c aa ab uD
     ·rcases ab with ab | ⟨ae,aa,ab⟩
      ·exact .inl ((aT c).2 (.inl ab))
      ·rw [qy hk] at aa;by_cases h1:k<=ae/\ae<k+cs'.length
       ·rw [if_pos h1] at ab; exact .inr ⟨ae - k,by omega,ab⟩
       ·rw [if_neg h1] at ab; exact .inl ((aT c).2 (.inr ⟨ae,aa,ab⟩))
     ·obtain ⟨c,nx,ab⟩:=ag.tM az;simp only [ag.kids] at nx;have fj:ae<cs.length:=(List.getElem?_eq_some_iff.1 nx).1;have hu:us[ae]?=some us[ae]:=List.getElem?_eq_getElem (by omega);have l7:child w (.slice (some ⟨iQ,0,none⟩) n cap) ae=some us[ae]:=by
       refine oa (e:=e) (z:=z) (n:=n) (us:=us) ⟨mJ,.inr ⟨iQ,cap,arr,rfl,tg,ln,uS,sf,uT,th⟩⟩ hu
      have Aa:child w' (.slice (some ⟨iQ,0,none⟩) n cap) ae=some us[ae]:=by
       refine oa mF ?_;rw [sh (by omega),if_neg (by omega)]; exact hu
      have:=R.oV (w':=w') e8 (aw ae c _ nx hu) ab λc ab=>rz c λe=>K7 ae fj (e ▸ ab);simp [walk,l7,Aa,this]
  ·cases dZ with
   | ref J=>simp [ag.isRef] at J
   | @obj _ iQ cU jm b3 _ bh ao h1 aw aU ka aT =>
    simp only [addrOf,Option.some.injEq,Addr.mk.injEq,and_true] at aK;subst aK;rw [ln] at bh;cases bh;have sT:cs.length=arr.toList.length:=by simp [ao]
    have e':∀ ae c,ae<cs.length->b3 ae c->Fs p.root c:=λae c aa ab=>dE c ((aT c).2 (.inr ⟨ae,aa,ab⟩));refine ⟨⟨_,.obj (Fs:=λae=>if k<=ae/\ae<k+cs'.length then dI (ae - k) else b3 ae) IE (by rw [qy hk,List.size_toArray,qy (by omega),sT]) (λae u hu=>?_) (λae x u J hu=>?_) (λi ae c hi aa ab fy=>?_) (λae aa ab=>?_) (λc=>Iff.rfl),λc ab=>?_⟩,λae e8 y aa az=>?_⟩
    ·rw [List.getElem?_toArray,sh (by omega)] at hu
     split at hu
     ·exact gY _ u hu
     ·exact h1 ae u (by simpa using hu)
    ·rw [sh hk] at J;rw [List.getElem?_toArray,sh (by omega),<- hlen] at hu;by_cases eQ:k<=ae/\ae<k+cs'.length
     ·rw [if_pos eQ] at J hu;simpa [eQ] using new (ae - k) x u J hu
     ·rw [if_neg eQ] at J hu;have fj:ae<cs.length:=(List.getElem?_eq_some_iff.1 J).1;rw [if_neg eQ];exact (aw ae x u J (by simpa using hu)).frame zZ (λ_ h=>h) lu λc ab=>rz c λe=>ka ae fj (e ▸ ab)
    ·rw [qy hk] at hi aa;by_cases h1:k<=i/\i<k+cs'.length <;> by_cases al:k<=ae/\ae<k+cs'.length <;> simp only [h1,al,if_false] at ab fy
     ·have:=hH.e_ (i - k) (ae - k) c (by omega) (by omega) (by simpa using ab) (by simpa using fy);omega
     ·exact absurd (e' ae c aa fy) (hH.off (i - k) _ c (by omega) (by simpa using ab))
     ·exact absurd (e' i c hi ab) (hH.off (ae - k) _ c (by omega) (by simpa using fy))
     ·exact aU i ae c hi aa ab fy
    ·rw [qy hk] at aa;by_cases h1:k<=ae/\ae<k+cs'.length
     ·rw [if_pos h1] at ab;exact hH.off (ae - k) p.root iQ (by omega) ab (dE iQ nY)
     ·rw [if_neg h1] at ab; exact ka ae aa ab
    ·rcases ab with ab | ⟨ae,aa,ab⟩
     ·exact .inl ((aT c).2 (.inl ab))
     ·rw [qy hk] at aa;by_cases h1:k<=ae/\ae<k+cs'.length
      ·rw [if_pos h1] at ab; exact .inr ⟨ae - k,by omega,ab⟩
      ·rw [if_neg h1] at ab; exact .inl ((aT c).2 (.inr ⟨ae,aa,ab⟩))
    ·obtain ⟨c,nx,ab⟩:=ag.tM az;simp only [ag.kids] at nx;have fj:ae<cs.length:=(List.getElem?_eq_some_iff.1 nx).1;have hu:arr[ae]?=some arr[ae]:=Array.getElem?_eq_getElem (by omega);have l7:child w (.pointer (some ⟨iQ,0,none⟩)) ae=some arr[ae]:=by simp [child,World.cell?,ln,hu]
     have Aa:child w' (.pointer (some ⟨iQ,0,none⟩)) ae=some arr[ae]:=by
      have aQ:(fL arr.toList k iK)[ae]?=some arr[ae]:=by
       rw [sh (by omega),if_neg (by omega)]; simp
      simp [child,World.cell?,IE,aQ]
     have:=R.oV (w':=w') e8 (aw ae c _ nx hu) ab λc ab=>rz c λe=>ka ae fj (e ▸ ab);simp [walk,l7,Aa,this]
 have val:∀ q y,b' g q=some y->(q.root=p.root->∀ ae e8,q.path=p.path++ae::e8->ae<k\/k+cs'.length<=ae)->eB w' T q=eB w T q:=by
  intro q y bR hr;by_cases aw:q.root=p.root
  ·have fW:fB.at q.path=some y:=by simpa [b',aw,k4] using bR
   rcases V4 q.path y fW with ⟨e8,eT⟩ | h
   ·have vU:walk w' v0 q.path=walk w v0 q.path:=by
     rw [eT,BH,BH,V3,hw];simp only [Option.bind_some];cases e8 with
     | nil=>rfl
     | cons ae e8 =>
      rw [eT,ag.EI,qW] at fW;exact (Mn (λ_ _=>True) (λ_ _ _=>trivial)).2 ae e8 y (hr aw ae e8 eT) fW
    simp [eB,aw,ju,vU]
   ·simp [eB,aw,ju,h]
  ·unfold b' at bR;cases J:g q.root with
   | none=>rw [J] at bR; cases bR
   | some x =>
    rw [J] at bR;obtain ⟨u,hu,bl⟩:=b6.rel _ _ J;cases bl with
    | tree bl =>
     have:=R.oV (w':=w') q.path bl bR λc ab=>rz c λe=>LV _ aw (e ▸ ab);simp [eB,hu,this]
    | b8 bl=>simp [eB,hu,(ag.sB bR).1,walk]
 have slot:∀ {q:Place}{x:ag},q.path=[]->g q.root=some x->eB w' T q=eB w T q:=by
  intro q x bR J;obtain ⟨u,hu,_⟩:=b6.rel _ _ J;simp [eB,bR,walk]
 have refs:∀ r u,I2 r u->ew w' T g2 r u:=by
  rintro r u ⟨h1,al,aQ,bW⟩;refine ⟨?_,bW⟩;cases r <;> simp only [gl,hn] at h1 al ⊢
  case ptr q ae=>obtain ⟨y,az,_⟩:=al; rw [val q y az (aQ q rfl)]; exact h1
  case bo cK q cY =>
   rcases al with ⟨_,_,al,_⟩ | ⟨bd,_,_,_,_,al,_⟩
   ·rw [val q _ al (aQ q rfl)]; exact h1
   ·rw [slot bd al]; exact h1
  case sub cK q lo cY=>obtain ⟨_,_,al,_⟩:=al; rw [val q _ al (aQ q rfl)]; exact h1
  case iR q=>obtain ⟨_,al⟩:=al; rw [val q _ al (aQ q rfl)]; exact h1
  case b8 cK q cY bS di =>
   rcases al with ⟨_,al⟩ | ⟨bd,_,_,_,_,_,al,_⟩
   ·rw [val q _ al (aQ q rfl)]; exact h1
   ·rw [slot bd al]; exact h1
 obtain ⟨⟨Fn,RK,K8⟩,_⟩:=Mn (ew w' T g2) refs;obtain ⟨f',FQ,oC⟩:=kK w' I (ew w' T g2) _ Fn ⟨zZ,λc ab aP=>rz c λe=>aP (e ▸ nY),λ_ h=>h,refs⟩ RK λc ab fy=>by
  rcases K8 c ab with h | ⟨ae,aa,h⟩
  ·exact h
  ·exact absurd fy (hH.off ae _ c aa h)
 have FE:∀ c,f' c->Fs p.root c\/∃ ae,ae<cs'.length/\dI ae c:=by
  intro c ab;rcases (oC c).1 ab with h | h
  ·exact .inl h.1
  ·rcases K8 c h with h | h
   ·exact .inl (dE c h)
   ·exact .inr h
 let cz:Nat->bz:=λt c=>if t=p.root then f' c else g2 t≠none/\Fs t c
 have sP:∀ t c,cz t c->Fs t c\/∃ ae,ae<cs'.length/\dI ae c:=by
  intro t c ab;by_cases aJ:t=p.root
  ·simp only [cz,if_pos aJ] at ab; rw [aJ]; exact FE c ab
  ·simp only [cz,if_neg aJ] at ab; exact .inl ab.2
 refine ⟨cz,⟨λt x J=>?_,λt aJ c ab=>?_,λt t' c ab fy=>?_,λt c ab hi=>?_,λc ab=>by have:=b6.lt c ab; omega,λt t' z q n m new cK cY bS di h1=>absurd h1 (l8 _ _ _ _ _ _)⟩,sP⟩
 ·have gw:=C1 t x J;by_cases aJ:t=p.root
  ·subst aJ;have G':fB.setAt p.path (nd.fL k cs')=x:=by simpa [db,k4] using gw
   refine ⟨v0,ju,.tree ?_⟩;have FH:cz p.root=f':=by funext c; simp [cz]
   rw [<- G',FH]; exact FQ
  ·rw [tm aJ] at gw;obtain ⟨u,hu,bl⟩:=b6.rel t x gw;replace bl:=bl.h0 (by rintro z q n m new rfl; exact l8 _ _ _ _ _ _ J);have FH:cz t=Fs t:=by
    funext c;exact propext ⟨λh=>by simp only [cz,if_neg aJ] at h; exact h.2,λh=>by simp only [cz,if_neg aJ]; exact ⟨by rw [J]; simp,h⟩⟩
   refine ⟨u,hu,.tree ?_⟩;rw [FH];exact (bl.Bt (Ap t x J x gw)).frame zZ (λ_ h=>h) refs λc ab=>rz c λe=>LV t aJ (e ▸ ab)
 ·by_cases h':t=p.root
  ·exact mI (h' ▸ aJ)
  ·simp only [cz,if_neg h'] at ab; exact ab.1 aJ
 ·by_cases h1:t=p.root <;> by_cases al:t'=p.root
  ·rw [h1,al]
  ·simp only [cz,if_pos h1] at ab; simp only [cz,if_neg al] at fy;rcases FE c ab with h | ⟨ae,aa,h⟩
   ·exact absurd (b6.e_ _ _ _ h fy.2) (Ne.symm al)
   ·exact absurd fy.2 (hH.off ae _ c aa h)
  ·simp only [cz,if_neg h1] at ab; simp only [cz,if_pos al] at fy;rcases FE c fy with h | ⟨ae,aa,h⟩
   ·exact absurd (b6.e_ _ _ _ ab.2 h) h1
   ·exact absurd ab.2 (hH.off ae _ c aa h)
  ·simp only [cz,if_neg h1] at ab; simp only [cz,if_neg al] at fy;exact b6.e_ _ _ _ ab.2 fy.2
 ·rcases sP t c ab with h | ⟨ae,aa,h⟩
  ·exact b6.aF _ c h hi
  ·exact hH.aF ae c aa h hi
end
end Go.Own
namespace Go.Own
open Go
section
variable {P:Program}{w:World}{I:bz}{T:Array Value}{g:aW}{Fs:Nat->bz}
theorem View.NI (h:jL w I T g Fs) {x x':ag}(hv:View g x x'):∀ {v:Value}{F:bz},R w I (gl w T) x v F->(∀ c,F c->∃ t,Fs t c)->∀ ρ',R w (λc=>I c\/∃ t,Fs t c) ρ' x' v cW:=by
 induction hv with
 | pI =>
  intro v F bl aT ρ';have:=bl.rf;subst this;exact .hS λ_ h=>h
 | mp =>
  intro v F bl aT ρ';cases bl with
  | ref J=>simp [ag.isRef] at J
  | mp bh aG aK=>exact .imp (λ_ h=>h) (.inr (aT _ ((aK _).2 rfl))) bh aG
 | iR aG =>
  intro v F bl aT ρ';cases bl with
  | ref _ aw _ =>
   obtain ⟨b,aK,rfl⟩:=aw;obtain ⟨hT,cN,jc,dZ,dE,_⟩:=h.part aG (by simp);rw [aK] at jc;cases jc;cases dZ with
   | ref J=>simp [ag.isRef] at J
   | mp bh aG aK=>exact .imp (λ_ h=>h) (.inr ⟨_,dE _ ((aK _).2 rfl)⟩) bh aG
 | self aP h1 al aQ bW da =>
  intro v F bl aT ρ';refine ((bl.bL aP).nm λc ab=>.inl ab).empty ?_;cases bl with
  | mp=>exact absurd rfl (da _)
  | lit _ aT | aN aT | dead aT | ref _ _ aT | hS aT | aF aT | bk aT | et aT | imp aT=>exact aT
  | own=>exact absurd rfl (h1 _ _ _)
  | obj=>exact absurd rfl (al _)
  | agg=>exact absurd rfl (aQ _)
  | cC=>exact absurd rfl (bW _)
 | @agg cs cs' ao _ aS =>
  intro v F bl aT ρ';cases bl with
  | ref J=>simp [ag.isRef] at J
  | @agg _ vs b3 _ h_ h1 aw aU kZ =>
   refine .agg (Fs:=λ_=>cW) (by rw [ao,h_]) h1 (λk y u az hu=>?_) (λ_ _ _ _ _ h=>h.elim) (λc=>⟨λh=>h.elim,λ⟨_,_,h⟩=>h⟩);have hk:k<cs.length:=by rw [<- ao]; exact (List.getElem?_eq_some_iff.1 az).1
   have J:=List.getElem?_eq_getElem hk;exact aS k _ y J az (aw k _ u J hu) (λc ab=>aT c ((kZ c).2 ⟨k,hk,ab⟩)) ρ'
 | @et fn cs cs' ao _ aS =>
  intro v F bl aT ρ';cases bl with
  | ref J=>simp [ag.isRef] at J
  | @et _ _ _ v1 v2 _ xV h1 al j0 iG =>
   refine .et (λ_ h=>h) h1 (by rw [ao,al]) (λk x u J=>by simp at J) (λk y u az hu=>?_);have hk:k<cs.length:=by rw [<- ao]; exact (List.getElem?_eq_some_iff.1 az).1
   have J:=List.getElem?_eq_getElem hk;exact aS k _ y J az (iG k _ u J hu) (λc ab=>ab.elim) ρ'
 | @own z n cs cs' ao _ aS =>
  intro v F bl aT ρ';obtain ⟨a,cap,us,b3,rfl,aP,hlen,bf,ab⟩:=bl.yt;cases a with
  | none =>
   have hs:cs=[]:=by
    cases cs with
    | nil=>rfl
    | cons c cs=>obtain ⟨b,aK,_⟩:=ab 0 c rfl; cases aK
   subst hs;have lq:cs'=[]:=List.eq_nil_of_length_eq_zero (by simpa using ao);subst lq;have pt:n=0:=by
    cases bl with
    | ref J=>simp [ag.isRef] at J
    | own bh =>
     obtain ⟨_,ca⟩:=bh;rcases ca with ⟨ca,bd⟩ | ⟨b,c2,cur,ca,_⟩
     ·exact bd
     ·cases ca
   subst pt;exact .hS λ_ h=>h
  | some ad =>
   obtain ⟨b,rfl,qU⟩:=bf ad rfl;refine .aF (us:=us) (λ_ h=>h) aP (.inr (aT b qU)) rfl (by rw [ao,hlen]) (λk y az=>?_) (λk y az=>?_) λk y az=>?_
   all_goals
    have hk:k<cs.length:=by rw [<- ao]; exact (List.getElem?_eq_some_iff.1 az).1
    have J:=List.getElem?_eq_getElem hk;obtain ⟨iQ,kD,h1,al,aQ,bW⟩:=ab k _ J;cases kD
   ·exact al
   ·simpa using h1
   ·exact aS k _ y J az aQ (λc ab=>aT c (bW c ab)) ρ'
 | @obj cs cs' ao _ aS =>
  intro v F bl aT ρ';cases bl with
  | ref J=>simp [ag.isRef] at J
  | @obj _ b e arr b3 _ bh h_ h1 aw aU aK kZ =>
   refine .bk (us:=λk=>arr.getD k undef) (λ_ h=>h) (.inr (aT b ((kZ b).2 (.inl rfl)))) rfl (λk y az=>?_) (λk y az=>?_) λk y az=>?_
   all_goals
    have hk:k<cs.length:=by rw [<- ao]; exact (List.getElem?_eq_some_iff.1 az).1
    have J:=List.getElem?_eq_getElem hk;have hu:arr[k]?=some arr[k]:=Array.getElem?_eq_getElem (h_ ▸ hk)
   ·simpa [hu] using h1 k _ hu
   ·simp [World.cell?,bh,hu]
   ·simpa [hu] using aS k _ y J az (aw k _ _ J hu) (λc ab=>aT c ((kZ c).2 (.inr ⟨k,hk,ab⟩))) ρ'
 | @bo z n N p cs cs' aG aP ao _ aS =>
  intro v F bl aT ρ';obtain ⟨a,iW,cap,h1,rfl,aQ⟩:=bl.mN;obtain ⟨pT,pW,gZ,hR,lZ,_⟩:=h.part aG (by simp);rw [h1] at gZ;cases gZ;obtain ⟨a2,qP,us,b3,kb,k2,hlen,bf,ab⟩:=hR.yt;cases kb;have hle:n * z<=N * z:=Nat.mul_le_mul_right _ aP;have cell:∀ k,k<cs'.length->∃ x b,(cs.take (n * z))[k]?=some x/\a=some ⟨b,0,none⟩/\w.cell? ⟨b,k,none⟩=some (us k)/\(us k).oneCell'=true/\R w I (gl w T) x (us k) (b3 k)/\∀ c,b3 k c->pW c:=by
   intro k hk;rw [ao,List.length_take] at hk;have J:cs[k]?=some cs[k]:=List.getElem?_eq_getElem (by omega);obtain ⟨b,r⟩:=ab k _ J;exact ⟨_,b,by rw [List.getElem?_take,if_pos (by omega)]; exact J,r⟩
  cases a with
  | none =>
   have lq:cs'=[]:=by
    cases cs' with
    | nil=>rfl
    | cons c l=>obtain ⟨_,b,_,aK,_⟩:=cell 0 (by simp); cases aK
   subst lq;obtain ⟨_,_,kb,_,_,_,r5⟩:=hR.mS;cases kb;have pt:n=0:=by
    rcases Nat.eq_zero_or_pos n with bd | bd
    ·exact bd
    ·have:=r5 (by omega); simp at this
   subst pt;exact .hS λ_ h=>h
  | some ad =>
   obtain ⟨b,rfl,qU⟩:=bf ad rfl;refine .aF (us:=us) (λ_ h=>h) (by omega) (.inr ⟨_,lZ b qU⟩) rfl (by rw [ao,List.length_take,hlen]; omega) (λk y az=>?_) (λk y az=>?_) λk y az=>?_
   all_goals
    obtain ⟨x,iQ,J,kD,bW,da,eb,kC⟩:=cell k (List.getElem?_eq_some_iff.1 az).1;cases kD
   ·exact da
   ·simpa using bW
   ·exact aS k x y J az eb (λc ab=>⟨_,lZ c (kC c ab)⟩) ρ'
 | @sub z lo n N p cs cs' aG aP ao _ aS =>
  intro v F bl aT ρ';obtain ⟨a,iW,cap,cF,lV,h1,rfl,GD,aQ,da⟩:=bl.wb;obtain ⟨pT,pW,gZ,hR,lZ,_⟩:=h.part aG (by simp);rw [h1] at gZ;cases gZ;obtain ⟨a2,qP,us,b3,kb,k2,hlen,bf,ab⟩:=hR.yt;cases kb;have hle:lo * z+n * z<=N * z:=by rw [<- Nat.add_mul]; exact Nat.mul_le_mul_right _ aP
  have h_:cs'.length=n * z:=by rw [ao,List.length_take,List.length_drop,hlen]; omega
  have cell:∀ k,k<cs'.length->∃ x b,((cs.drop (lo * z)).take (n * z))[k]?=some x/\a=some ⟨b,0,none⟩/\w.cell? ⟨b,lo * z+k,none⟩=some (us (lo * z+k))/\(us (lo * z+k)).oneCell'=true/\R w I (gl w T) x (us (lo * z+k)) (b3 (lo * z+k))/\∀ c,b3 (lo * z+k) c->pW c:=by
   intro k hk;have J:cs[lo * z+k]?=some cs[lo * z+k]:=List.getElem?_eq_getElem (by omega);obtain ⟨b,r⟩:=ab _ _ J;exact ⟨_,b,by rw [List.getElem?_take,if_pos (by omega),List.getElem?_drop]; exact J,r⟩
  by_cases pt:n=0
  ·subst pt;have lq:cs'=[]:=List.eq_nil_of_length_eq_zero (by simpa using h_);subst lq;exact .hS λ_ h=>h
  ·obtain ⟨ad,rfl,rfl⟩:=da (by omega);obtain ⟨b,rfl,qU⟩:=bf ad rfl;refine .aF (us:=λk=>us (lo * z+k)) (λ_ h=>h) GD (.inr ⟨_,lZ b qU⟩) rfl h_ (λk y az=>?_) (λk y az=>?_) λk y az=>?_
   all_goals
    obtain ⟨x,iQ,J,kD,bW,FB,eb,kC⟩:=cell k (List.getElem?_eq_some_iff.1 az).1;cases kD
   ·exact FB
   ·simpa using bW
   ·exact aS k x y J az eb (λc ab=>⟨_,lZ c (kC c ab)⟩) ρ'
 | @rows z n p cs cs' aG ao _ aS =>
  intro v F bl aT ρ';obtain ⟨a,iW,cap,h1,rfl,aQ⟩:=bl.mN;obtain ⟨v0,e,us,ju,bh,hlen,lX,aK,aw⟩:=Rows.sound (w:=w) (I:=I) (T:=T) (Fs:=Fs) (λt z q n m new aJ=>h.rel t _ aJ) (λp z n cs aG=>by obtain ⟨v,cN,h1,al,aQ,_⟩:=h.part aG (by simp); exact ⟨v,cN,h1,al,aQ⟩) (λz p n v hv=>by obtain ⟨a,cap,h1,rfl⟩:=hv; exact h1) aG;rw [h1] at ju;cases ju;refine Nd bh hlen lX aK ao λk x y u J az hu=>?_;obtain ⟨b3,j8,e'⟩:=aw k x u J hu;exact aS k x y J az j8 e' ρ'
 | @ptr p k z n y cs cs' aG az hk ao _ aS =>
  intro v F bl aT ρ';obtain ⟨u,ad,h1,al,rfl⟩:=bl.ni;obtain ⟨pT,pW,gZ,hR,lZ,_⟩:=h.part aG (by rcases az with rfl | rfl <;> simp);rw [h1] at gZ;cases gZ;have cell:∀ ae,ae<cs'.length->∃ gG ku vc,w.cell? ⟨ad.block,k+ae,none⟩=some gG/\gG.oneCell'=true/\(cs.drop k)[ae]?=some ku/\R w I (gl w T) ku gG vc/\(∀ c,vc c->∃ t,Fs t c):=by
   intro ae aa;rw [ao,List.length_drop] at aa;have gw:cs[k+ae]?=some cs[k+ae]:=List.getElem?_eq_getElem (by omega);obtain ⟨b,gG,fV,lF,l7,gY,_⟩:=hR.node az gw;rw [al] at fV;cases fV;have fW:b' g (p.push (k+ae))=some cs[k+ae]:=by rw [sA,aG]; rcases az with rfl | rfl <;> simp [ag.kids]
   by_cases hZ:∃ cK hb cY bS di,cs[k+ae]=.b8 cK hb cY bS di
   ·obtain ⟨cK,hb,cY,bS,di,hZ⟩:=hZ;obtain ⟨b,VW,_,_,Aa,_,b3,j8⟩:=hR.node az gw;rw [hZ] at j8;exact j8.k7.elim
   ·obtain ⟨oj,En,q9,FR,kZ,_⟩:=h.part fW (λcK hb cY bS di e=>hZ ⟨_,_,_,_,_,e⟩);rw [w7,h1] at q9;simp only [Option.bind_some] at q9;rw [l7] at q9;cases q9;exact ⟨gG,_,En,lF,gY,by rw [List.getElem?_drop]; exact gw,FR,λc ab=>⟨_,kZ c ab⟩⟩
  obtain ⟨b,gG,fV,_⟩:=hR.node az (List.getElem?_eq_getElem hk);rw [al] at fV;cases fV;have hblk:∃ t,Fs t b:=⟨_,lZ b (hR.DF az al)⟩;refine .bk (us:=λae=>(w.cell? ⟨b,k+ae,none⟩).getD undef) (λ_ h=>h) (.inr hblk) rfl (λae jU nh=>?_) (λae jU nh=>?_) λae jU nh=>?_
  all_goals
   obtain ⟨gG,ku,vc,c1,c2,mw,c4,kA⟩:=cell ae (List.getElem?_eq_some_iff.1 nh).1
  ·simpa [c1] using c2
  ·simp [c1]
  ·simpa [c1] using aS ae ku jU mw nh c4 kA ρ'
end
end Go.Own
namespace Go.Own
open Go
def pM (g:aW):List (Place × ag)->aW
 | []=>g
 | (p,x)::l=>pM (db g p x) l
structure Om (g g2:aW) (all:List ag) (outs:List (Option ag)) (k:Nat) (p:Place) (x:ag):Prop where
 out:outs[k]?=some (some x)
 JB:b' g2 p=some .dead
 arg:(∃ z n cs,all[k]?=some (.bo z p n)/\b' g p=some (.own z n cs))\/(∃ cs,all[k]?=some (.ptr p 0)/\b' g p=some (.obj cs))
section
variable {P:Program}{w:World}{I:bz}{T:Array Value}{g:aW}{Fs:Nat->bz}
theorem OQ (h:c7 w I T g Fs) {z n:Nat}{p:Place}{cs:List ag}{v:Value}{F:bz}(bl:R w I (ew w T g) (.bo z p n) v F) (aG:b' g p=some (.own z n cs)):eB w T p=some v:=by
 obtain ⟨⟨a,iW,cap,h1,rfl,aQ⟩,_⟩:=bl.mN;obtain ⟨pT,pW,gZ,hR,lZ⟩:=h.part aG (by simp);rw [h1] at gZ;cases gZ;obtain ⟨a2,qP,kb,_⟩:=hR.mS;cases kb;exact h1
theorem OP (h:c7 w I T g Fs) {p:Place}{cs:List ag}{v:Value}{F:bz}(bl:R w I (ew w T g) (.ptr p 0) v F) (aG:b' g p=some (.obj cs)):eB w T p=some v:=by
 obtain ⟨⟨u,ad,h1,al,rfl⟩,_⟩:=bl.ni;obtain ⟨pT,pW,gZ,hR,lZ⟩:=h.part aG (by simp);rw [h1] at gZ;cases gZ;cases hR with
 | ref J=>simp [ag.isRef] at J
 | obj=>simp only [addrOf,Option.some.injEq] at al; subst al; exact h1
theorem Vg {g:aW}{p q:Place}{y:ag}(bR:b' g q=some .dead) (aG:b' g p=some .dead) (ek:p≠q):b' (db g p y) q=some .dead:=by
 by_cases aw:q.root=p.root
 ·obtain ⟨r,pp⟩:=p;obtain ⟨e8,se⟩:=q;simp only at aw;subst aw;have C':pp≠se:=λe=>ek (by rw [e]);simp only [b',db,if_true] at *;cases J:g e8 with
  | none=>rw [J] at aG; cases aG
  | some x =>
   rw [J] at aG bR;simp only [Option.map_some];have:∀ (pp se:List Nat) (x:ag),pp≠se->x.at pp=some .dead->x.at se=some .dead->(x.setAt pp y).at se=some .dead:=by
    intro pp
    induction pp with
    | nil =>
     intro se x ek h1 al;simp only [ag.at,Option.some.injEq] at h1;subst h1;cases se with
     | nil=>exact absurd rfl ek
     | cons k q=>simp [ag.at,ag.kids] at al
    | cons k pp aS =>
     intro se x ek h1 al;cases se with
     | nil =>
      simp only [ag.at,Option.some.injEq] at al;subst al;simp [ag.at,ag.kids] at h1
     | cons ae q =>
      simp only [ag.at] at h1 al;cases hk:x.kids[k]? with
      | none=>rw [hk] at h1; cases h1
      | some c =>
       rw [hk] at h1;simp only at h1;have uA:x.setAt (k::pp) y=x.u0 k (c.setAt pp y):=by simp only [ag.setAt,hk]
       rw [uA];have dW:k<x.kids.length:=(List.getElem?_eq_some_iff.1 hk).1;have Gt:(x.u0 k (c.setAt pp y)).kids=x.kids.set k (c.setAt pp y):=by
        cases x <;> simp [ag.u0,ag.kids] at dW ⊢
       simp only [ag.at,Gt];by_cases eQ:ae=k
       ·subst eQ;rw [List.getElem?_set_self dW];rw [hk] at al;exact aS q c (λe=>ek (by rw [e])) h1 al
       ·rw [List.getElem?_set_ne (Ne.symm eQ)];exact al
   exact this pp se x C' aG bR
 ·rw [D3 aw]; exact bR
theorem jL.pM:∀ (l:List (Place × ag)) (dI:Nat->bz) (vs:Nat->Value) {g:aW}{Fs:Nat->bz},jL w I T g Fs->(l.map (·.1)).Nodup->(∀ (ae:Nat) (p:Place) (x:ag),l[ae]?=some (p,x)->b' g p=some .dead/\eB w T p=some (vs ae)/\R w I (gl w T) x (vs ae) (dI ae)) ->
  (∀ (ae t c:Nat),ae<l.length->dI ae c->¬ Fs t c)->(∀ (ae c:Nat),ae<l.length->dI ae c->¬ I c)->(∀ (i ae c:Nat),i<l.length->ae<l.length->dI i c->dI ae c->i=ae) ->
  ∃ cz,jL w I T (pM g l) cz/\∀ t c,cz t c->Fs t c\/∃ ae,ae<l.length/\dI ae c
 | [],_,_,g,Fs,b6,_,_,_,_,_=>⟨Fs,b6,λ_ _ h=>.inl h⟩
 | (p,x)::l,dI,vs,g,Fs,b6,gg,ao,qd,LF,mB=>by
  obtain ⟨h1,al,aQ⟩:=ao 0 p x rfl;obtain ⟨v,cN,hv,dZ,dE,put⟩:=b6.part h1 (by simp);rw [al] at hv;cases hv;obtain ⟨gj,i_,zV,zW⟩:=put x (dI 0) aQ (λc ab bn=>absurd bn (qd 0 _ c (by simp) ab)) (λc ab=>LF 0 c (by simp) ab) (λt c _ ab=>qd 0 t c (by simp) ab);have gO:∀ t c,gj t c->Fs t c\/dI 0 c:=by
   intro t c ab;by_cases aJ:t=p.root
   ·subst aJ;rcases (zV c).1 ab with ⟨h,_⟩ | h
    ·exact .inl h
    ·exact .inr h
   ·rw [zW t aJ] at ab; exact .inl ab
  simp only [List.map_cons,List.nodup_cons] at gg;obtain ⟨iV,ih,CR⟩:=jL.pM l (λae=>dI (ae+1)) (λae=>vs (ae+1)) i_ gg.2 (λae q y aa=>by
    obtain ⟨ay,a2,a3⟩:=ao (ae+1) q y (by simpa using aa);refine ⟨Vg ay h1 ?_,a2,a3⟩;rintro rfl;exact gg.1 (List.mem_map.2 ⟨(p,y),List.mem_of_getElem? aa,rfl⟩))
   (λae t c aa ab bn=>by
    rcases gO t c bn with h | h
    ·exact qd (ae+1) t c (by simpa using aa) ab h
    ·have:=mB (ae+1) 0 c (by simpa using aa) (by simp) ab h; omega)
   (λae c aa ab=>LF (ae+1) c (by simpa using aa) ab)
   (λi ae c hi aa h1 al=>by have:=mB (i+1) (ae+1) c (by simpa using hi) (by simpa using aa) h1 al; omega)
  refine ⟨iV,ih,λt c ab=>?_⟩;rcases CR t c ab with h | ⟨ae,aa,h⟩
  ·rcases gO t c h with h | h
   ·exact .inl h
   ·exact .inr ⟨0,by simp,h⟩
  ·exact .inr ⟨ae+1,by simpa using aa,h⟩
end
end Go.Own
namespace Go.Own
open Go
inductive jH:ag->ag->Prop
 | refl {x:ag}:jH x x
 | HK {z:Nat}:jH .aN (.own z 0 [])
 | re {x y:ag}(aP:dc x) (h:View (λ_=>none) x y):jH x y
 | own {z n:Nat}{cs cs':List ag}(ao:cs'.length=cs.length) (h:∀ (k:Nat) (x y:ag),cs[k]?=some x->cs'[k]?=some y->jH x y):jH (.own z n cs) (.own z n cs')
 | obj {cs cs':List ag}(ao:cs'.length=cs.length) (h:∀ (k:Nat) (x y:ag),cs[k]?=some x->cs'[k]?=some y->jH x y):jH (.obj cs) (.obj cs')
 | agg {cs cs':List ag}(ao:cs'.length=cs.length) (h:∀ (k:Nat) (x y:ag),cs[k]?=some x->cs'[k]?=some y->jH x y):jH (.agg cs) (.agg cs')
theorem View.up {g g':aW}(h:∀ t x,g t=some x->g' t=some x) {x y:ag}(hv:View g x y):View g' x y:=by
 induction hv with
 | pI=>exact .pI
 | self h1 al aQ bW da eb=>exact .self h1 al aQ bW da eb
 | mp=>exact .mp
 | iR aG=>exact .iR (kz h aG)
 | agg ao _ aS=>exact .agg ao aS
 | own ao _ aS=>exact .own ao aS
 | obj ao _ aS=>exact .obj ao aS
 | et ao _ aS=>exact .et ao aS
 | bo aG aP ao _ aS=>exact .bo (kz h aG) aP ao aS
 | sub aG aP ao _ aS=>exact .sub (kz h aG) aP ao aS
 | ptr aG az hk ao _ aS=>exact .ptr (kz h aG) az hk ao aS
 | rows aG ao _ aS=>exact .rows (aG.mono (λaG=>kz h aG) h) ao aS
theorem wv {cs cs':List ag}(ao:cs'.length=cs.length) (aP:∀ x∈cs,dc x) (aS:∀ (k:Nat) (x y:ag),cs[k]?=some x->cs'[k]?=some y->dc x->dc y):∀ y∈cs',dc y:=by
 intro y az;obtain ⟨k,hk⟩:=List.getElem?_of_mem az;have dW:=(List.getElem?_eq_some_iff.1 hk).1;have J:=List.getElem?_eq_getElem (ao ▸ dW:k<cs.length);exact aS k _ y J hk (aP _ (List.mem_of_getElem? J))
section
variable {w:World}{I:bz}
theorem R.re {ρ:ag->Value->Prop}{x y:ag}{v:Value}{F:bz}(bl:R w I ρ x v F) (aP:dc x) (h:View (λ_=>none) x y) (bw:∀ c,F c->¬ I c) (a_:∀ c,I c->c<w.heap.size):R w (λc=>I c\/F c) ρ y v cW:=by
 have b6:jL w I #[v] (λt=>if t=0 then some x else none) (λt c=>t=0/\F c):=by
  refine ⟨λt z bA=>?_,λt aJ c ab=>?_,λt t' c ab fy=>ab.1.trans fy.1.symm,λt c ab=>bw c ab.2,a_⟩
  ·by_cases bd:t=0
   ·subst bd;rw [if_pos rfl] at bA;cases bA;exact ⟨v,rfl,.tree ((bl.bL aP).xK λc=>⟨λh=>⟨rfl,h⟩,λh=>h.2⟩)⟩
   ·rw [if_neg bd] at bA; cases bA
  ·rw [if_pos ab.1] at aJ; cases aJ
 have:=View.NI b6 (h.up λ_ _ h=>by cases h) (bl.bL aP) (λc ab=>⟨0,rfl,ab⟩) ρ;exact this.nm λc ab=>by
  rcases ab with h | ⟨t,_,h⟩
  ·exact .inl h
  ·exact .inr h
theorem jH.bL {x y:ag}(h:jH x y):dc x->dc y:=by
 induction h with
 | refl=>exact id
 | HK=>exact λ_=>.own (by simp)
 | re aP h =>
  intro _;have key:∀ {x y:ag},View (λ_=>none) x y->dc x->dc y:=by
   intro x y h
   induction h with
   | pI=>exact λ_=>.aF (by simp)
   | self h=>exact λ_=>h
   | mp=>exact λ_=>.imp
   | iR aG=>simp [b'] at aG
   | agg ao _ aS=>intro aP; cases aP with | agg aP=>exact .agg (wv ao aP aS)
   | own ao _ aS=>intro aP; cases aP with | own aP=>exact .aF (wv ao aP aS)
   | obj ao _ aS=>intro aP; cases aP with | obj aP=>exact .bk (wv ao aP aS)
   | et ao _ aS=>intro aP; cases aP with | et h1 al=>exact .et h1 (wv ao al aS)
   | bo aG=>simp [b'] at aG
   | sub aG=>simp [b'] at aG
   | ptr aG=>simp [b'] at aG
   | rows aG =>
    cases aG with
    | own aG=>simp [b'] at aG
    | b8 aJ=>cases aJ
  exact key h aP
 | own ao _ aS=>intro aP; cases aP with | own aP=>exact .own (wv ao aP aS)
 | obj ao _ aS=>intro aP; cases aP with | obj aP=>exact .obj (wv ao aP aS)
 | agg ao _ aS=>intro aP; cases aP with | agg aP=>exact .agg (wv ao aP aS)
theorem Fx {ρ:ag->Value->Prop}{cs cs':List ag}{get:Nat->Option Value}{Fs:Nat->bz}{F B:bz}(ao:cs'.length=cs.length)
  (ba:∀ k,k<cs.length->∃ u,get k=some u)
  (aU:∀ (ae k c:Nat),ae<cs.length->k<cs.length->Fs ae c->Fs k c->ae=k) (aK:∀ k c,k<cs.length->Fs k c->¬ B c) (aT:∀ c,F c↔B c\/∃ k,k<cs.length/\Fs k c)
  (aS:∀ (k:Nat) (x y:ag),cs[k]?=some x->cs'[k]?=some y->∀ u,get k=some u->∃ f',(∀ c,f' c->Fs k c)/\R w (λc=>I c\/(Fs k c/\¬ f' c)) ρ y u f') :
  ∃ rF:Nat->bz,(∀ k c,k<cs'.length->rF k c->Fs k c)/\(∀ (k:Nat) (y:ag) (u:Value),cs'[k]?=some y->get k=some u->R w (λc=>I c\/(F c/\¬ (B c\/∃ ae,ae<cs'.length/\rF ae c))) ρ y u (rF k)):=by
 have:∀ k,∃ G:bz,k<cs.length->(∀ c,G c->Fs k c)/\∀ (y:ag) (u:Value),cs'[k]?=some y->get k=some u->R w (λc=>I c\/(Fs k c/\¬ G c)) ρ y u G:=by
  intro k;by_cases hk:k<cs.length
  ·have J:=List.getElem?_eq_getElem hk;have az:=List.getElem?_eq_getElem (ao ▸ hk:k<cs'.length);obtain ⟨u,hu⟩:=ba k hk;obtain ⟨G,h1,al⟩:=aS k _ _ J az u hu;refine ⟨G,λ_=>⟨h1,λy tu mM fN=>?_⟩⟩;rw [az] at mM; cases mM;rw [hu] at fN; cases fN;exact al
  ·exact ⟨cW,λh=>absurd h hk⟩
 obtain ⟨rF,FL⟩:=Classical.axiomOfChoice this;refine ⟨rF,λk c hk=>(FL k (ao ▸ hk)).1 c,λk y u az hu=>?_⟩;have hk:k<cs'.length:=(List.getElem?_eq_some_iff.1 az).1;have iy:k<cs.length:=ao ▸ hk;refine ((FL k iy).2 y u az hu).nm λc ab=>?_;rcases ab with h | ⟨h1,al⟩
 ·exact .inl h
 ·refine .inr ⟨(aT c).2 (.inr ⟨k,iy,h1⟩),?_⟩;rintro (h | ⟨ae,aa,h⟩)
  ·exact aK k c iy h1 h
  ·have ur:ae<cs.length:=ao ▸ aa;have:=aU ae k c ur iy ((FL ae ur).1 c h) h1;subst this;exact al h
theorem R.fM {ρ:ag->Value->Prop}{x y:ag}(h:jH x y):∀ {v:Value}{F:bz},R w I ρ x v F->dc x->(∀ c,F c->¬ I c)->(∀ c,I c->c<w.heap.size)->∃ f',(∀ c,f' c->F c)/\R w (λc=>I c\/(F c/\¬ f' c)) ρ y v f':=by
 induction h with
 | refl=>exact λbl _ _ _=>⟨_,λ_ h=>h,bl.nm λ_ h=>.inl h⟩
 | HK =>
  intro v F bl _ _ _;have:=bl.rf;subst this;refine ⟨cW,λ_ h=>h.elim,.own (e:=0) (us:=[]) (Fs:=λ_=>cW) ⟨by simp,.inl ⟨rfl,rfl⟩⟩ rfl (by simp) (by simp) (λ_ _ _ _ _ h=>h.elim) (λ_ _ _ h=>h.elim) λc=>⟨λh=>h.elim,λh=>?_⟩⟩;rcases h with h | ⟨_,_,h⟩
  ·cases h
  ·exact h
 | re aP h=>exact λbl _ bw a_=>⟨cW,λ_ h=>h.elim,(bl.re aP h bw a_).nm λc ab=>ab.elim .inl λh=>.inr ⟨h,λh=>h⟩⟩
 | @own z n cs cs' ao _ aS =>
  intro v F bl aP bw a_;cases bl with
  | ref J=>simp [ag.isRef] at J
  | @own _ _ _ _ e us Fs _ bh h_ h1 aw aU aK aT =>
   cases aP with
   | own aP =>
    obtain ⟨rF,pj,zX⟩:=Fx (get:=λk=>us[k]?) (B:=λc=>v.ownBlock=some c) ao (λk hk=>⟨_,List.getElem?_eq_getElem (h_ ▸ hk)⟩) aU (λk c hk ab e=>aK k c hk ab e) aT (λk x y J az u hu=>aS k x y J az (aw k x u J hu) (aP x (List.mem_of_getElem? J)) (λc ab=>bw c ((aT c).2 (.inr ⟨k,(List.getElem?_eq_some_iff.1 J).1,ab⟩))) a_);exact ⟨_,λc ab=>(aT c).2 (ab.imp id λ⟨k,hk,h⟩=>⟨k,ao ▸ hk,pj k c hk h⟩),
     .own bh (by rw [ao,h_]) h1 (λk y u az hu=>zX k y u az hu) (λae k c aa hk al aQ=>aU ae k c (ao ▸ aa) (ao ▸ hk) (pj ae c aa al) (pj k c hk aQ)) (λk c hk ab=>aK k c (ao ▸ hk) (pj k c hk ab)) (λc=>Iff.rfl)⟩
 | @obj cs cs' ao _ aS =>
  intro v F bl aP bw a_;cases bl with
  | ref J=>simp [ag.isRef] at J
  | @obj _ b e arr Fs _ bh h_ h1 aw aU aK aT =>
   cases aP with
   | obj aP =>
    obtain ⟨rF,pj,zX⟩:=Fx (get:=λk=>arr[k]?) (B:=λc=>c=b) ao (λk hk=>⟨_,Array.getElem?_eq_getElem (h_ ▸ hk)⟩) aU (λk c hk ab e=>aK k hk (e ▸ ab)) aT (λk x y J az u hu=>aS k x y J az (aw k x u J hu) (aP x (List.mem_of_getElem? J)) (λc ab=>bw c ((aT c).2 (.inr ⟨k,(List.getElem?_eq_some_iff.1 J).1,ab⟩))) a_);exact ⟨_,λc ab=>(aT c).2 (ab.imp id λ⟨k,hk,h⟩=>⟨k,ao ▸ hk,pj k c hk h⟩),
     .obj bh (by rw [ao,h_]) h1 (λk y u az hu=>zX k y u az hu) (λae k c aa hk al aQ=>aU ae k c (ao ▸ aa) (ao ▸ hk) (pj ae c aa al) (pj k c hk aQ)) (λk hk ab=>aK k (ao ▸ hk) (pj k b hk ab)) (λc=>Iff.rfl)⟩
 | @agg cs cs' ao _ aS =>
  intro v F bl aP bw a_;cases bl with
  | ref J=>simp [ag.isRef] at J
  | @agg _ vs Fs _ h_ h1 aw aU aT =>
   cases aP with
   | agg aP =>
    obtain ⟨rF,pj,zX⟩:=Fx (get:=λk=>vs[k]?) (B:=λ_=>False) ao (λk hk=>⟨_,Array.getElem?_eq_getElem (h_ ▸ hk)⟩) aU (λk c hk ab e=>e) (λc=>(aT c).trans ⟨.inr,λh=>h.elim (λh=>h.elim) id⟩) (λk x y J az u hu=>aS k x y J az (aw k x u J hu) (aP x (List.mem_of_getElem? J)) (λc ab=>bw c ((aT c).2 ⟨k,(List.getElem?_eq_some_iff.1 J).1,ab⟩)) a_);refine ⟨λc=>∃ k,k<cs'.length/\rF k c,λc ⟨k,hk,h⟩=>(aT c).2 ⟨k,ao ▸ hk,pj k c hk h⟩,
     .agg (Fs:=rF) (by rw [ao,h_]) h1 (λk y u az hu=>(zX k y u az hu).nm λc ab=>ab.imp id λ⟨h1,al⟩=>⟨h1,λh=>al (.inr h)⟩) (λae k c aa hk al aQ=>aU ae k c (ao ▸ aa) (ao ▸ hk) (pj ae c aa al) (pj k c hk aQ)) (λc=>Iff.rfl)⟩
end
end Go.Own
