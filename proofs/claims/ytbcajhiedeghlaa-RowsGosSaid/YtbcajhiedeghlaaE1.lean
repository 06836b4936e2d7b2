/-
  What is proved here: parts of the proof that the last text states: rules for walks through code, and of this program's functions what they answer. No condition of their own.
-/
import Derived.Orders
import Derived.WalkKit
namespace Go.Own
open Go
structure Place where
 root:Nat
 path:List Nat
 deriving DecidableEq,Repr
def Place.push (p:Place) (k:Nat):Place:=⟨p.root,p.path++[k]⟩
inductive ag where
 | lit (v:Value)
 | aK
 | aE (z n:Nat) (cs:List ag)
 | own (z n:Nat) (cs:List ag)
 | obj (cs:List ag)
 | agg (cs:List ag)
 | cB (cs:List ag)
 | bo (cs:List ag)
 | ptr (p:Place) (k:Nat)
 | bn (z:Nat) (p:Place) (n:Nat)
 | sub (z:Nat) (p:Place) (lo n:Nat)
 | bX (z:Nat) (p:Place) (n m:Nat) (new:List ag)
 | er (fn:Fn) (first caps:List ag)
 | mp (p:Array MapEntry->Nat->Prop)
 | hD (p:Place)
 | imp (p:Array MapEntry->Nat->Prop)
 | dead
 deriving Inhabited
abbrev br:=Nat->Prop
def ag.isRef:ag->Bool
 | .ptr .. | .bn .. | .sub .. | .hD ..=>true
 | _=>false
inductive R (w:World) (I:br) (ρ:ag->Value->Prop):ag->Value->br->Prop
 | lit {v:Value}{F:br}(hv:v.oneCell'=true) (aR:∀ c,¬ F c):R w I ρ (.lit v) v F
 | aK {F:br}(aR:∀ c,¬ F c):R w I ρ .aK (.slice none 0 0) F
 | dead {v:Value}{F:br}(aR:∀ c,¬ F c):R w I ρ .dead v F
 | ref {x:ag}{v:Value}{F:br}(J:x.isRef=true) (h:ρ x v) (aR:∀ c,¬ F c):R w I ρ x v F
 | hQ {z cap:Nat}{a:Option Addr}{F:br}(aR:∀ c,¬ F c):R w I ρ (.aE z 0 []) (.slice a 0 cap) F
 | aE {z n cap:Nat}{cs:List ag}{ad:Addr}{us:Nat->Value}{F:br}(aR:∀ c,¬ F c) (k3:n<=cap) (bt:I ad.block) (aN:ad.spot=none) (ao:cs.length=n * z) (h1:∀ (k:Nat) (x:ag),cs[k]?=some x->(us k).oneCell'=true)
   (ab:∀ (k:Nat) (x:ag),cs[k]?=some x->w.cell? ⟨ad.block,ad.off+k,none⟩=some (us k)) (ax:∀ (k:Nat) (x:ag),cs[k]?=some x->R w I ρ x (us k) (λ_=>False)) :
   R w I ρ (.aE z n cs) (.slice (some ad) n cap) F
 | bo {cs:List ag}{ad:Addr}{us:Nat->Value}{F:br}(aR:∀ c,¬ F c) (bt:I ad.block) (aN:ad.spot=none) (h1:∀ (k:Nat) (x:ag),cs[k]?=some x->(us k).oneCell'=true)
   (ab:∀ (k:Nat) (x:ag),cs[k]?=some x->w.cell? ⟨ad.block,ad.off+k,none⟩=some (us k)) (ax:∀ (k:Nat) (x:ag),cs[k]?=some x->R w I ρ x (us k) (λ_=>False)) :
   R w I ρ (.bo cs) (.pointer (some ad)) F
 | own {z n:Nat}{cs:List ag}{v:Value}{e:TypeId}{us:List Value}{Fs:Nat->br}{F:br}
   (bd:w.ownsRow 0 e z v n us) (ao:cs.length=us.length) (h1:∀ (k:Nat) (u:Value),us[k]?=some u->u.oneCell'=true)
   (ax:∀ (k:Nat) (x:ag) (u:Value),cs[k]?=some x->us[k]?=some u->R w I ρ x u (Fs k))
   (aV:∀ (ae k c:Nat),ae<cs.length->k<cs.length->Fs ae c->Fs k c->ae=k) (aH:∀ (k c:Nat),k<cs.length->Fs k c->v.ownBlock≠some c)
   (aR:∀ c,F c↔v.ownBlock=some c\/∃ k,k<cs.length/\Fs k c):R w I ρ (.own z n cs) v F
 | obj {cs:List ag}{b:Nat}{e:TypeId}{arr:Array Value}{Fs:Nat->br}{F:br}
   (bd:w.heap[b]?=some (.cells arr e (0,0))) (ao:cs.length=arr.size) (h1:∀ (k:Nat) (u:Value),arr[k]?=some u->u.oneCell'=true)
   (ax:∀ (k:Nat) (x:ag) (u:Value),cs[k]?=some x->arr[k]?=some u->R w I ρ x u (Fs k))
   (aV:∀ (ae k c:Nat),ae<cs.length->k<cs.length->Fs ae c->Fs k c->ae=k) (aH:∀ (k:Nat),k<cs.length->¬ Fs k b)
   (aR:∀ c,F c↔c=b\/∃ k,k<cs.length/\Fs k c):R w I ρ (.obj cs) (.pointer (some ⟨b,0,none⟩)) F
 | agg {cs:List ag}{vs:Array Value}{Fs:Nat->br}{F:br}(ao:cs.length=vs.size) (h1:∀ (k:Nat) (u:Value),vs[k]?=some u->u.oneCell'=true)
   (ax:∀ (k:Nat) (x:ag) (u:Value),cs[k]?=some x->vs[k]?=some u->R w I ρ x u (Fs k))
   (aV:∀ (ae k c:Nat),ae<cs.length->k<cs.length->Fs ae c->Fs k c->ae=k)
   (aR:∀ c,F c↔∃ k,k<cs.length/\Fs k c):R w I ρ (.agg cs) (.agg vs) F
 | cB {cs:List ag}{vs:Array Value}{Fs:Nat->br}{F:br}(ao:cs.length=vs.size)
   (ax:∀ (k:Nat) (x:ag) (u:Value),cs[k]?=some x->vs[k]?=some u->R w I ρ x u (Fs k))
   (aV:∀ (ae k c:Nat),ae<cs.length->k<cs.length->Fs ae c->Fs k c->ae=k)
   (aR:∀ c,F c↔∃ k,k<cs.length/\Fs k c):R w I ρ (.cB cs) (.tuple vs) F
 | er {fn:Fn}{first caps:List ag}{v1 v2:Array Value}{F:br}(aR:∀ c,¬ F c) (h1:first.length=v1.size) (al:caps.length=v2.size)
   (jN:∀ (k:Nat) (x:ag) (u:Value),first[k]?=some x->v1[k]?=some u->R w I ρ x u (λ_=>False))
   (iF:∀ (k:Nat) (x:ag) (u:Value),caps[k]?=some x->v2[k]?=some u->R w I ρ x u (λ_=>False)):R w I ρ (.er fn first caps) (.func fn v1 v2) F
 | mp {p:Array MapEntry->Nat->Prop}{b:Nat}{es:Array MapEntry}{clock:Nat}{F:br}(bd:w.heap[b]?=some (.map es clock)) (aG:p es clock) (aR:∀ c,F c↔c=b):R w I ρ (.mp p) (.map (some b)) F
 | imp {p:Array MapEntry->Nat->Prop}{b:Nat}{es:Array MapEntry}{clock:Nat}{F:br}(aR:∀ c,¬ F c) (bt:I b) (bd:w.heap[b]?=some (.map es clock)) (aG:p es clock):R w I ρ (.imp p) (.map (some b)) F
theorem R.xb {w:World}{I:br}{ρ:ag->Value->Prop}{x:ag}{v:Value}{F fK:br}(h:R w I ρ x v F) (aR:∀ c,F c↔fK c):R w I ρ x v fK:=by
 have:F=fK:=funext λc=>propext (aR c)
 exact this ▸ h
theorem R.lt {w:World}{I:br}{ρ:ag->Value->Prop}{x:ag}{v:Value}{F:br}(h:R w I ρ x v F):∀ c,F c->c<w.heap.size:=by
 induction h with
 | lit _ aR | aK aR | dead aR | ref _ _ aR | hQ aR | aE aR | bo aR | er aR | imp aR=>exact λc ab=>absurd ab (aR c)
 | mp bd _ aR=>exact λc ab=>by rw [(aR c).1 ab]; exact (Array.getElem?_eq_some_iff.1 bd).1
 | own bd ao h1 ax aV aH aR aS =>
  intro c ab
  rcases (aR c).1 ab with h | ⟨k,hk,h⟩
  ·exact (bd.lt c h).2
  ·exact aS k _ _ (List.getElem?_eq_getElem hk) (List.getElem?_eq_getElem (ao ▸ hk)) c h
 | obj bd ao h1 ax aV aH aR aS =>
  intro c ab
  rcases (aR c).1 ab with rfl | ⟨k,hk,h⟩
  ·exact (Array.getElem?_eq_some_iff.1 bd).1
  ·exact aS k _ _ (List.getElem?_eq_getElem hk) (Array.getElem?_eq_getElem (ao ▸ hk)) c h
 | agg ao h1 ax aV aR aS =>
  intro c ab
  obtain ⟨k,hk,h⟩:=(aR c).1 ab
  exact aS k _ _ (List.getElem?_eq_getElem hk) (Array.getElem?_eq_getElem (ao ▸ hk)) c h
 | cB ao ax aV aR aS =>
  intro c ab
  obtain ⟨k,hk,h⟩:=(aR c).1 ab
  exact aS k _ _ (List.getElem?_eq_getElem hk) (Array.getElem?_eq_getElem (ao ▸ hk)) c h
theorem ui {w w':World}{e:TypeId}{z n:Nat}{v:Value}{us:List Value}(h:w.ownsRow 0 e z v n us) (aH:∀ c,v.ownBlock=some c->w'.heap[c]?=w.heap[c]?):w'.ownsRow 0 e z v n us:=by
 obtain ⟨h1,al⟩:=h
 refine ⟨h1,?_⟩
 rcases al with al | ⟨g,cap,cur,rfl,a8,b9,rest⟩
 ·exact .inl al
 ·exact .inr ⟨g,cap,cur,rfl,a8,by rw [aH g rfl]; exact b9,rest⟩
theorem R.frame {w w':World}{I I':br}{ρ ρ':ag->Value->Prop}{x:ag}{v:Value}{F:br}(h:R w I ρ x v F)
  (bt:∀ c,I c->w'.heap[c]?=w.heap[c]?) (oz:∀ c,I c->I' c) (lu:∀ x v,ρ x v->ρ' x v) :
  (∀ c,F c->w'.heap[c]?=w.heap[c]?)->R w' I' ρ' x v F:=by
 induction h with
 | lit hv aR=>exact λ_=>.lit hv aR
 | aK aR=>exact λ_=>.aK aR
 | dead aR=>exact λ_=>.dead aR
 | ref J h aR=>exact λ_=>.ref J (lu _ _ h) aR
 | hQ aR=>exact λ_=>.hQ aR
 | aE aR k3 hi aN ao h1 ab ax aS =>
  exact λ_=>.aE aR k3 (oz _ hi) aN ao h1 (λk x hk=>(World.cell?_of_block (a:=⟨_,_,none⟩) (bt _ hi)).trans (ab k x hk)) λk x hk=>aS k x hk (λc ab=>ab.elim)
 | bo aR hi aN h1 ab ax aS =>
  exact λ_=>.bo aR (oz _ hi) aN h1 (λk x hk=>(World.cell?_of_block (a:=⟨_,_,none⟩) (bt _ hi)).trans (ab k x hk)) λk x hk=>aS k x hk (λc ab=>ab.elim)
 | own bd ao h1 ax aV aH aR aS =>
  intro bl
  refine .own (ui bd λc ab=>bl c ((aR c).2 (.inl ab))) ao h1 (λk x u J hu=>aS k x u J hu λc ab=>bl c ((aR c).2 (.inr ⟨k,?_,ab⟩))) aV aH aR
  exact (List.getElem?_eq_some_iff.1 J).1
 | obj bd ao h1 ax aV aH aR aS =>
  intro bl
  refine .obj ((bl _ ((aR _).2 (.inl rfl))).trans bd) ao h1 (λk x u J hu=>aS k x u J hu λc ab=>bl c ((aR c).2 (.inr ⟨k,?_,ab⟩))) aV aH aR
  exact (List.getElem?_eq_some_iff.1 J).1
 | agg ao h1 ax aV aR aS =>
  intro bl
  refine .agg ao h1 (λk x u J hu=>aS k x u J hu λc ab=>bl c ((aR c).2 ⟨k,?_,ab⟩)) aV aR
  exact (List.getElem?_eq_some_iff.1 J).1
 | cB ao ax aV aR aS =>
  intro bl
  refine .cB ao (λk x u J hu=>aS k x u J hu λc ab=>bl c ((aR c).2 ⟨k,?_,ab⟩)) aV aR
  exact (List.getElem?_eq_some_iff.1 J).1
 | imp aR hi bd aG=>exact λ_=>.imp aR (oz _ hi) ((bt _ hi).trans bd) aG
 | mp bd aG aR=>exact λbl=>.mp ((bl _ ((aR _).2 rfl)).trans bd) aG aR
 | er aR h1 al jN iF gx gl=>exact λ_=>.er aR h1 al (λk x u J hu=>gx k x u J hu λc ab=>ab.elim) (λk x u J hu=>gl k x u J hu λc ab=>ab.elim)
def ag.kids:ag->List ag
 | .own _ _ cs=>cs
 | .obj cs=>cs
 | .agg cs=>cs
 | .cB cs=>cs
 | _=>[]
def ag.uz (x:ag) (k:Nat) (y:ag):ag :=
 match x with
 | .own z n cs=>.own z n (cs.set k y)
 | .obj cs=>.obj (cs.set k y)
 | .agg cs=>.agg (cs.set k y)
 | .cB cs=>.cB (cs.set k y)
 | x=>x
def ag.at:ag->List Nat->Option ag
 | x,[]=>some x
 | x,k::p =>
  match x.kids[k]? with
  | some c=>c.at p
  | none=>none
def ag.setAt:ag->List Nat->ag->ag
 | _,[],y=>y
 | x,k::p,y =>
  match x.kids[k]? with
  | some c=>x.uz k (c.setAt p y)
  | none=>x
def child (w:World) (v:Value) (k:Nat):Option Value :=
 match v with
 | .agg cs=>cs[k]?
 | .tuple cs=>cs[k]?
 | .slice (some a) _ _=>w.cell? ⟨a.block,a.off+k,none⟩
 | .pointer (some a)=>w.cell? ⟨a.block,a.off+k,none⟩
 | _=>none
def walk (w:World):Value->List Nat->Option Value
 | v,[]=>some v
 | v,k::p =>
  match child w v k with
  | some u=>walk w u p
  | none=>none
theorem n5 {w:World}{e:TypeId}{z n:Nat}{v:Value}{us:List Value}(h:w.ownsRow 0 e z v n us) {k:Nat}{u:Value}(hu:us[k]?=some u):child w v k=some u:=by
 obtain ⟨h1,al⟩:=h
 rcases al with ⟨rfl,rfl⟩ | ⟨g,cap,cur,rfl,a8,b9,aL,ab,aN,aD⟩
 ·simp at h1; subst h1; simp at hu
 ·rw [<- aD] at hu
  rw [List.getElem?_take] at hu
  split at hu
  ·simpa [child,World.cell?,b9] using hu
  ·cases hu
theorem Uc {α:Type}{l:List α}{k ae:Nat}{y x:α}(h:(l.set k y)[ae]?=some x):(ae=k/\x=y/\k<l.length)\/(ae≠k/\l[ae]?=some x):=by
 by_cases eV:ae=k
 ·subst eV
  by_cases bc:ae<l.length
  ·rw [List.getElem?_set_self bc] at h; exact .inl ⟨rfl,(Option.some.inj h).symm,bc⟩
  ·rw [List.set_eq_of_length_le (by omega)] at h; rw [List.getElem?_eq_none (by omega)] at h; cases h
 ·rw [List.getElem?_set_ne (Ne.symm eV)] at h; exact .inr ⟨eV,h⟩
structure Out (w w':World) (I I':br) (ρ ρ':ag->Value->Prop) (F cM:br):Prop where
 aE:∀ c,I c->w'.heap[c]?=w.heap[c]?
 rest:∀ c,F c->¬ cM c->w'.heap[c]?=w.heap[c]?
 more:∀ c,I c->I' c
 ref:∀ x v,ρ x v->ρ' x v
theorem Out.mono {w w':World}{I I':br}{ρ ρ':ag->Value->Prop}{F cM fK ji:br}(h:Out w w' I I' ρ ρ' F cM) (h1:∀ c,fK c->F c) (al:∀ c,fK c->¬ ji c->¬ cM c):Out w w' I I' ρ ρ' fK ji :=
 ⟨h.aE,λc ab aL=>h.rest c (h1 c ab) (al c ab aL),h.more,h.ref⟩
theorem R.outside {w w':World}{I I':br}{ρ ρ':ag->Value->Prop}{F cM:br}(o:Out w w' I I' ρ ρ' F cM) {x:ag}{v:Value}{G:br}(h:R w I ρ x v G) (ea:∀ c,G c->F c/\¬ cM c):R w' I' ρ' x v G :=
 h.frame o.aE o.more o.ref λc ab=>o.rest c (ea c ab).1 (ea c ab).2
theorem C6 {w w':World}{I I':br}{ρ ρ':ag->Value->Prop}{cs:List ag}{get:Nat->Option Value}{Fs:Nat->br}{F cM:br}
  (ax:∀ (k:Nat) (x:ag) (u:Value),cs[k]?=some x->get k=some u->R w I ρ x u (Fs k))
  (aV:∀ (ae k c:Nat),ae<cs.length->k<cs.length->Fs ae c->Fs k c->ae=k)
  (aR:∀ k c,k<cs.length->Fs k c->F c) {k:Nat}(hk:k<cs.length) (az:∀ c,cM c->Fs k c) (o:Out w w' I I' ρ ρ' F cM)
  {y:ag}{u:Value}{bS:br}(hu:get k=some u) (bf:R w' I' ρ' y u bS) (fg:∀ c,bS c↔(Fs k c/\¬ cM c)\/(bS c/\¬ (F c/\¬ cM c))) :
  (∀ (ae:Nat) (x:ag) (u:Value),(cs.set k y)[ae]?=some x->get ae=some u->R w' I' ρ' x u (if ae=k then bS else Fs ae)) /\
  (∀ (i ae c:Nat),i<(cs.set k y).length->ae<(cs.set k y).length->(if i=k then bS else Fs i) c->(if ae=k then bS else Fs ae) c->i=ae):=by
 constructor
 ·intro ae x s9 J fN
  rcases Uc J with ⟨rfl,rfl,bc⟩ | ⟨eI,J⟩
  ·rw [if_pos rfl]; rw [hu] at fN; cases fN; exact bf
  ·rw [if_neg eI]
   have aa:ae<cs.length:=(List.getElem?_eq_some_iff.1 J).1
   exact (ax ae x s9 J fN).outside o λc ab=>⟨aR ae c aa ab,λeN=>eI (aV ae k c aa hk ab (az c eN))⟩
 ·intro i ae c hi aa h1 al
  rw [List.length_set] at hi aa
  by_cases tS:i=k <;> by_cases eV:ae=k
  ·exact tS.trans eV.symm
  ·rw [if_pos tS] at h1; rw [if_neg eV] at al
   exfalso
   have eN:¬ cM c:=λh=>eV (aV ae k c aa hk al (az c h))
   rcases (fg c).1 h1 with ⟨h,_⟩ | ⟨_,h⟩
   ·exact eV (aV ae k c aa hk al h)
   ·exact h ⟨aR ae c aa al,eN⟩
  ·rw [if_neg tS] at h1; rw [if_pos eV] at al
   exfalso
   have eN:¬ cM c:=λh=>tS (aV i k c hi hk h1 (az c h))
   rcases (fg c).1 al with ⟨h,_⟩ | ⟨_,h⟩
   ·exact tS (aV i k c hi hk h1 h)
   ·exact h ⟨aR i c hi h1,eN⟩
  ·rw [if_neg tS] at h1; rw [if_neg eV] at al
   exact aV i ae c hi aa h1 al
theorem C7 {m:Nat}{Fs:Nat->br}{bS cM ji:br}{k:Nat}(hk:k<m)
  (aV:∀ (ae k c:Nat),ae<m->k<m->Fs ae c->Fs k c->ae=k) (az:∀ c,cM c->Fs k c) (fg:∀ c,bS c↔(Fs k c/\¬ cM c)\/ji c) (c:Nat) :
  (∃ ae,ae<m/\(if ae=k then bS else Fs ae) c)↔((∃ ae,ae<m/\Fs ae c)/\¬ cM c)\/ji c:=by
 constructor
 ·rintro ⟨ae,aa,h⟩
  by_cases eV:ae=k
  ·rw [if_pos eV] at h
   rcases (fg c).1 h with ⟨h1,al⟩ | h1
   ·exact .inl ⟨⟨k,hk,h1⟩,al⟩
   ·exact .inr h1
  ·rw [if_neg eV] at h
   exact .inl ⟨⟨ae,aa,h⟩,λeN=>eV (aV ae k c aa hk h (az c eN))⟩
 ·rintro (⟨⟨ae,aa,h⟩,aL⟩ | h)
  ·by_cases eV:ae=k
   ·subst eV; exact ⟨ae,aa,by rw [if_pos rfl]; exact (fg c).2 (.inl ⟨h,aL⟩)⟩
   ·exact ⟨ae,aa,by rw [if_neg eV]; exact h⟩
  ·exact ⟨k,hk,by rw [if_pos rfl]; exact (fg c).2 (.inr h)⟩
theorem R.oP {w w':World}{I:br}{ρ:ag->Value->Prop}:∀ (r:List Nat) {x:ag}{v:Value}{F:br}{y:ag},R w I ρ x v F->x.at r=some y ->
  (∀ c,F c->w'.heap[c]?=w.heap[c]?)->walk w' v r=walk w v r
 | [],_,_,_,_,_,_,_=>rfl
 | k::p,x,v,F,y,h,gn,bl=>by
  simp only [ag.at] at gn
  cases hl:x.kids[k]? with
  | none=>rw [hl] at gn; cases gn
  | some rz =>
   rw [hl] at gn
   simp only at gn
   cases h with
   | @own z n cs _ e us Fs _ bd ao h1 ax aV aH aR =>
    simp only [ag.kids] at hl
    have hk:k<cs.length:=(List.getElem?_eq_some_iff.1 hl).1
    have hu:us[k]?=some us[k]:=List.getElem?_eq_getElem (ao ▸ hk)
    have mw:=ui (w':=w') bd λc ab=>bl c ((aR c).2 (.inl ab))
    have:=R.oP (w':=w') p (ax k rz _ hl hu) gn λc ab=>bl c ((aR c).2 (.inr ⟨k,hk,ab⟩))
    simp [walk,n5 bd hu,n5 mw hu,this]
   | @obj cs b e arr Fs _ bd ao h1 ax aV aH aR =>
    simp only [ag.kids] at hl
    have hk:k<cs.length:=(List.getElem?_eq_some_iff.1 hl).1
    have hu:arr[k]?=some arr[k]:=Array.getElem?_eq_getElem (ao ▸ hk)
    have mw:=(bl b ((aR b).2 (.inl rfl))).trans bd
    have:=R.oP (w':=w') p (ax k rz _ hl hu) gn λc ab=>bl c ((aR c).2 (.inr ⟨k,hk,ab⟩))
    simp [walk,child,World.cell?,bd,mw,hu,this]
   | @agg cs vs Fs _ ao h1 ax aV aR =>
    simp only [ag.kids] at hl
    have hk:k<cs.length:=(List.getElem?_eq_some_iff.1 hl).1
    have hu:vs[k]?=some vs[k]:=Array.getElem?_eq_getElem (ao ▸ hk)
    have:=R.oP (w':=w') p (ax k rz _ hl hu) gn λc ab=>bl c ((aR c).2 ⟨k,hk,ab⟩)
    simp [walk,child,hu,this]
   | @cB cs vs Fs _ ao ax aV aR =>
    simp only [ag.kids] at hl
    have hk:k<cs.length:=(List.getElem?_eq_some_iff.1 hl).1
    have hu:vs[k]?=some vs[k]:=Array.getElem?_eq_getElem (ao ▸ hk)
    have:=R.oP (w':=w') p (ax k rz _ hl hu) gn λc ab=>bl c ((aR c).2 ⟨k,hk,ab⟩)
    simp [walk,child,hu,this]
   | ref J _ _=>cases x <;> simp [ag.isRef,ag.kids] at J hl
   | _=>simp [ag.kids] at hl
theorem R.focus {w:World}{I:br}{ρ:ag->Value->Prop}:∀ (q:List Nat) {x:ag}{v:Value}{F:br}{y:ag},R w I ρ x v F->x.at q=some y ->
  ∃ h8 cM,walk w v q=some h8/\R w I ρ y h8 cM/\(∀ c,cM c->F c) /\
   (∀ (w':World),(∀ c,F c->¬ cM c->w'.heap[c]?=w.heap[c]?)->walk w' v q=some h8/\∀ r tb,x.at r=some tb->(∃ fc,r=q++fc)\/walk w' v r=walk w v r) /\
   ∀ (w':World) (I':br) (ρ':ag->Value->Prop) (y':ag) (ji:br),Out w w' I I' ρ ρ' F cM->R w' I' ρ' y' h8 ji->(∀ c,ji c->F c->cM c) ->
    ∃ fK,R w' I' ρ' (x.setAt q y') v fK/\∀ c,fK c↔(F c/\¬ cM c)\/ji c
 | [],x,v,F,y,h,gn=>by
  simp only [ag.at,Option.some.injEq] at gn
  subst gn
  exact ⟨v,F,rfl,h,λ_ h=>h,λ_ _=>⟨rfl,λr _ _=>.inl ⟨r,rfl⟩⟩,λw' I' ρ' y' ji _ bf _=>⟨ji,bf,λc=>by simp⟩⟩
 | k::p,x,v,F,y,h,gn=>by
  simp only [ag.at] at gn
  cases hl:x.kids[k]? with
  | none=>rw [hl] at gn; cases gn
  | some rz =>
   rw [hl] at gn
   simp only at gn
   have xB:∀ y',x.setAt (k::p) y'=x.uz k (rz.setAt p y'):=λy'=>by simp [ag.setAt,hl]
   cases h with
   | @own z n cs _ e us Fs _ bd ao h1 ax aV aH aR =>
    simp only [ag.kids] at hl
    have hk:k<cs.length:=(List.getElem?_eq_some_iff.1 hl).1
    have hu:us[k]?=some us[k]:=List.getElem?_eq_getElem (ao ▸ hk)
    obtain ⟨h8,cM,hw,dT,dC,gb,j'⟩:=R.focus p (ax k rz _ hl hu) gn
    refine ⟨h8,cM,by simp [walk,n5 bd hu,hw],dT,λc ab=>(aR c).2 (.inr ⟨k,hk,dC c ab⟩),?_,?_⟩
    ·intro w' aN
     have oD:∀ ae c,ae<cs.length->Fs ae c->¬ cM c->w'.heap[c]?=w.heap[c]?:=λae c aa ab aL=>aN c ((aR c).2 (.inr ⟨ae,aa,ab⟩)) aL
     obtain ⟨jx,ik⟩:=gb w' λc ab aL=>oD k c hk ab aL
     have mw:=ui (w':=w') bd λc ab=>aN c ((aR c).2 (.inl ab)) λeN=>aH k c hk (dC c eN) ab
     refine ⟨by simp [walk,n5 mw hu,jx],?_⟩
     intro r tb eY
     cases r with
     | nil=>exact .inr rfl
     | cons ae r =>
      simp only [ag.at,ag.kids] at eY
      cases aa:cs[ae]? with
      | none=>rw [aa] at eY; cases eY
      | some uW =>
       rw [aa] at eY
       simp only at eY
       have fq:ae<cs.length:=(List.getElem?_eq_some_iff.1 aa).1
       have p2:us[ae]?=some us[ae]:=List.getElem?_eq_getElem (ao ▸ fq)
       by_cases eV:ae=k
       ·subst eV
        rw [hl] at aa
        cases aa
        rcases ik r tb eY with ⟨fc,rfl⟩ | h
        ·exact .inl ⟨fc,rfl⟩
        ·exact .inr (by simp [walk,n5 bd hu,n5 mw hu,h])
       ·have h:=R.oP (w':=w') r (ax ae uW _ aa p2) eY λc ab=>oD ae c fq ab λeN=>eV (aV ae k c fq hk ab (dC c eN))
        exact .inr (by simp [walk,n5 bd p2,n5 mw p2,h])
    intro w' I' ρ' y' ji o jq mo
    have jo:∀ ae c,ae<cs.length->Fs ae c->F c:=λae c aa ab=>(aR c).2 (.inr ⟨ae,aa,ab⟩)
    obtain ⟨bS,jZ,fg⟩:=j' w' I' ρ' y' ji (o.mono (λc ab=>jo k c hk ab) λc _ h=>h) jq λc ab nx=>mo c ab (jo k c hk nx)
    obtain ⟨eY,nW⟩:=C6 (get:=λae=>us[ae]?) ax aV jo hk dC o hu jZ λc=>by
     constructor
     ·intro h
      rcases (fg c).1 h with h1 | h1
      ·exact .inl h1
      ·exact .inr ⟨h,λ⟨al,aO⟩=>aO (mo c h1 al)⟩
     ·rintro (h1 | ⟨h1,_⟩)
      ·exact (fg c).2 (.inl h1)
      ·exact h1
    rw [xB]
    refine ⟨_,.own (Fs:=λae=>if ae=k then bS else Fs ae) (ui bd λc ab=>o.rest c ((aR c).2 (.inl ab)) λeN=>aH k c hk (dC c eN) ab) (by simpa using ao) h1 eY nW ?_ (λc=>Iff.rfl),λc=>?_⟩
    ·intro ae c aa ab t'
     rw [List.length_set] at aa
     by_cases eV:ae=k
     ·rw [if_pos eV] at ab
      rcases (fg c).1 ab with ⟨h1,_⟩ | h1
      ·exact aH k c hk h1 t'
      ·exact aH k c hk (dC c (mo c h1 ((aR c).2 (.inl t')))) t'
     ·rw [if_neg eV] at ab; exact aH ae c aa ab t'
    ·have hu:=C7 hk aV dC fg c
     simp only [List.length_set]
     rw [hu,aR c]
     have gI:v.ownBlock=some c->¬ cM c:=λh1 al=>aH k c hk (dC c al) h1
     constructor
     ·rintro (h1 | ⟨h1,al⟩ | h1)
      ·exact .inl ⟨.inl h1,gI h1⟩
      ·exact .inl ⟨.inr h1,al⟩
      ·exact .inr h1
     ·rintro (⟨h1 | h1,al⟩ | h1)
      ·exact .inl h1
      ·exact .inr (.inl ⟨h1,al⟩)
      ·exact .inr (.inr h1)
   | @obj cs b e arr Fs _ bd ao h1 ax aV aH aR =>
    simp only [ag.kids] at hl
    have hk:k<cs.length:=(List.getElem?_eq_some_iff.1 hl).1
    have hu:arr[k]?=some arr[k]:=Array.getElem?_eq_getElem (ao ▸ hk)
    obtain ⟨h8,cM,hw,dT,dC,gb,j'⟩:=R.focus p (ax k rz _ hl hu) gn
    refine ⟨h8,cM,by simp [walk,child,World.cell?,bd,hu,hw],dT,λc ab=>(aR c).2 (.inr ⟨k,hk,dC c ab⟩),?_,?_⟩
    ·intro w' aN
     have oD:∀ ae c,ae<cs.length->Fs ae c->¬ cM c->w'.heap[c]?=w.heap[c]?:=λae c aa ab aL=>aN c ((aR c).2 (.inr ⟨ae,aa,ab⟩)) aL
     obtain ⟨jx,ik⟩:=gb w' λc ab aL=>oD k c hk ab aL
     have mw:=(aN b ((aR b).2 (.inl rfl)) λeN=>aH k hk (dC b eN)).trans bd
     refine ⟨by simp [walk,child,World.cell?,mw,hu,jx],?_⟩
     intro r tb eY
     cases r with
     | nil=>exact .inr rfl
     | cons ae r =>
      simp only [ag.at,ag.kids] at eY
      cases aa:cs[ae]? with
      | none=>rw [aa] at eY; cases eY
      | some uW =>
       rw [aa] at eY
       simp only at eY
       have fq:ae<cs.length:=(List.getElem?_eq_some_iff.1 aa).1
       have p2:arr[ae]?=some arr[ae]:=Array.getElem?_eq_getElem (ao ▸ fq)
       by_cases eV:ae=k
       ·subst eV
        rw [hl] at aa
        cases aa
        rcases ik r tb eY with ⟨fc,rfl⟩ | h
        ·exact .inl ⟨fc,rfl⟩
        ·exact .inr (by simp [walk,child,World.cell?,bd,mw,hu,h])
       ·have h:=R.oP (w':=w') r (ax ae uW _ aa p2) eY λc ab=>oD ae c fq ab λeN=>eV (aV ae k c fq hk ab (dC c eN))
        exact .inr (by simp [walk,child,World.cell?,bd,mw,p2,h])
    intro w' I' ρ' y' ji o jq mo
    have jo:∀ ae c,ae<cs.length->Fs ae c->F c:=λae c aa ab=>(aR c).2 (.inr ⟨ae,aa,ab⟩)
    obtain ⟨bS,jZ,fg⟩:=j' w' I' ρ' y' ji (o.mono (λc ab=>jo k c hk ab) λc _ h=>h) jq λc ab nx=>mo c ab (jo k c hk nx)
    obtain ⟨eY,nW⟩:=C6 (get:=λae=>arr[ae]?) ax aV jo hk dC o hu jZ λc=>by
     constructor
     ·intro h
      rcases (fg c).1 h with h1 | h1
      ·exact .inl h1
      ·exact .inr ⟨h,λ⟨al,aO⟩=>aO (mo c h1 al)⟩
     ·rintro (h1 | ⟨h1,_⟩)
      ·exact (fg c).2 (.inl h1)
      ·exact h1
    rw [xB]
    have l3:F b:=(aR b).2 (.inl rfl)
    have Fz:¬ cM b:=λh=>aH k hk (dC b h)
    refine ⟨_,.obj (Fs:=λae=>if ae=k then bS else Fs ae) ((o.rest b l3 Fz).trans bd) (by simpa using ao) h1 eY nW ?_ (λc=>Iff.rfl),λc=>?_⟩
    ·intro ae aa ab
     rw [List.length_set] at aa
     by_cases eV:ae=k
     ·rw [if_pos eV] at ab
      rcases (fg b).1 ab with ⟨h1,_⟩ | h1
      ·exact aH k hk h1
      ·exact Fz (mo b h1 l3)
     ·rw [if_neg eV] at ab; exact aH ae aa ab
    ·have hu:=C7 hk aV dC fg c
     simp only [List.length_set]
     rw [hu,aR c]
     constructor
     ·rintro (rfl | ⟨h1,al⟩ | h1)
      ·exact .inl ⟨.inl rfl,Fz⟩
      ·exact .inl ⟨.inr h1,al⟩
      ·exact .inr h1
     ·rintro (⟨h1 | h1,al⟩ | h1)
      ·exact .inl h1
      ·exact .inr (.inl ⟨h1,al⟩)
      ·exact .inr (.inr h1)
   | @agg cs vs Fs _ ao h1 ax aV aR =>
    simp only [ag.kids] at hl
    have hk:k<cs.length:=(List.getElem?_eq_some_iff.1 hl).1
    have hu:vs[k]?=some vs[k]:=Array.getElem?_eq_getElem (ao ▸ hk)
    obtain ⟨h8,cM,hw,dT,dC,gb,j'⟩:=R.focus p (ax k rz _ hl hu) gn
    refine ⟨h8,cM,by simp [walk,child,hu,hw],dT,λc ab=>(aR c).2 ⟨k,hk,dC c ab⟩,?_,?_⟩
    ·intro w' aN
     have oD:∀ ae c,ae<cs.length->Fs ae c->¬ cM c->w'.heap[c]?=w.heap[c]?:=λae c aa ab aL=>aN c ((aR c).2 ⟨ae,aa,ab⟩) aL
     obtain ⟨jx,ik⟩:=gb w' λc ab aL=>oD k c hk ab aL
     
     refine ⟨by simp [walk,child,hu,jx],?_⟩
     intro r tb eY
     cases r with
     | nil=>exact .inr rfl
     | cons ae r =>
      simp only [ag.at,ag.kids] at eY
      cases aa:cs[ae]? with
      | none=>rw [aa] at eY; cases eY
      | some uW =>
       rw [aa] at eY
       simp only at eY
       have fq:ae<cs.length:=(List.getElem?_eq_some_iff.1 aa).1
       have p2:vs[ae]?=some vs[ae]:=Array.getElem?_eq_getElem (ao ▸ fq)
       by_cases eV:ae=k
       ·subst eV
        rw [hl] at aa
        cases aa
        rcases ik r tb eY with ⟨fc,rfl⟩ | h
        ·exact .inl ⟨fc,rfl⟩
        ·exact .inr (by simp [walk,child,hu,h])
       ·have h:=R.oP (w':=w') r (ax ae uW _ aa p2) eY λc ab=>oD ae c fq ab λeN=>eV (aV ae k c fq hk ab (dC c eN))
        exact .inr (by simp [walk,child,p2,h])
    intro w' I' ρ' y' ji o jq mo
    have jo:∀ ae c,ae<cs.length->Fs ae c->F c:=λae c aa ab=>(aR c).2 ⟨ae,aa,ab⟩
    obtain ⟨bS,jZ,fg⟩:=j' w' I' ρ' y' ji (o.mono (λc ab=>jo k c hk ab) λc _ h=>h) jq λc ab nx=>mo c ab (jo k c hk nx)
    obtain ⟨eY,nW⟩:=C6 (get:=λae=>vs[ae]?) ax aV jo hk dC o hu jZ λc=>by
     constructor
     ·intro h
      rcases (fg c).1 h with h1 | h1
      ·exact .inl h1
      ·exact .inr ⟨h,λ⟨al,aO⟩=>aO (mo c h1 al)⟩
     ·rintro (h1 | ⟨h1,_⟩)
      ·exact (fg c).2 (.inl h1)
      ·exact h1
    rw [xB]
    refine ⟨_,.agg (Fs:=λae=>if ae=k then bS else Fs ae) (by simpa using ao) h1 eY nW (λc=>Iff.rfl),λc=>?_⟩
    have hu:=C7 hk aV dC fg c
    simp only [List.length_set]
    rw [hu,aR c]
   | @cB cs vs Fs _ ao ax aV aR =>
    simp only [ag.kids] at hl
    have hk:k<cs.length:=(List.getElem?_eq_some_iff.1 hl).1
    have hu:vs[k]?=some vs[k]:=Array.getElem?_eq_getElem (ao ▸ hk)
    obtain ⟨h8,cM,hw,dT,dC,gb,j'⟩:=R.focus p (ax k rz _ hl hu) gn
    refine ⟨h8,cM,by simp [walk,child,hu,hw],dT,λc ab=>(aR c).2 ⟨k,hk,dC c ab⟩,?_,?_⟩
    ·intro w' aN
     have oD:∀ ae c,ae<cs.length->Fs ae c->¬ cM c->w'.heap[c]?=w.heap[c]?:=λae c aa ab aL=>aN c ((aR c).2 ⟨ae,aa,ab⟩) aL
     obtain ⟨jx,ik⟩:=gb w' λc ab aL=>oD k c hk ab aL
     
     refine ⟨by simp [walk,child,hu,jx],?_⟩
     intro r tb eY
     cases r with
     | nil=>exact .inr rfl
     | cons ae r =>
      simp only [ag.at,ag.kids] at eY
      cases aa:cs[ae]? with
      | none=>rw [aa] at eY; cases eY
      | some uW =>
       rw [aa] at eY
       simp only at eY
       have fq:ae<cs.length:=(List.getElem?_eq_some_iff.1 aa).1
       have p2:vs[ae]?=some vs[ae]:=Array.getElem?_eq_getElem (ao ▸ fq)
       by_cases eV:ae=k
       ·subst eV
        rw [hl] at aa
        cases aa
        rcases ik r tb eY with ⟨fc,rfl⟩ | h
        ·exact .inl ⟨fc,rfl⟩
        ·exact .inr (by simp [walk,child,hu,h])
       ·have h:=R.oP (w':=w') r (ax ae uW _ aa p2) eY λc ab=>oD ae c fq ab λeN=>eV (aV ae k c fq hk ab (dC c eN))
        exact .inr (by simp [walk,child,p2,h])
    intro w' I' ρ' y' ji o jq mo
    have jo:∀ ae c,ae<cs.length->Fs ae c->F c:=λae c aa ab=>(aR c).2 ⟨ae,aa,ab⟩
    obtain ⟨bS,jZ,fg⟩:=j' w' I' ρ' y' ji (o.mono (λc ab=>jo k c hk ab) λc _ h=>h) jq λc ab nx=>mo c ab (jo k c hk nx)
    obtain ⟨eY,nW⟩:=C6 (get:=λae=>vs[ae]?) ax aV jo hk dC o hu jZ λc=>by
     constructor
     ·intro h
      rcases (fg c).1 h with h1 | h1
      ·exact .inl h1
      ·exact .inr ⟨h,λ⟨al,aO⟩=>aO (mo c h1 al)⟩
     ·rintro (h1 | ⟨h1,_⟩)
      ·exact (fg c).2 (.inl h1)
      ·exact h1
    rw [xB]
    refine ⟨_,.cB (Fs:=λae=>if ae=k then bS else Fs ae) (by simpa using ao) eY nW (λc=>Iff.rfl),λc=>?_⟩
    have hu:=C7 hk aV dC fg c
    simp only [List.length_set]
    rw [hu,aR c]
   | ref J _ _=>cases x <;> simp [ag.isRef,ag.kids] at J hl
   | _=>simp [ag.kids] at hl
end Go.Own
namespace Go.Own
open Go
abbrev aY:=Nat->Option ag
def b7 (g:aY) (p:Place):Option ag :=
 match g p.root with
 | some x=>x.at p.path
 | none=>none
def ed (w:World) (T:Array Value) (p:Place):Option Value :=
 match T[p.root]? with
 | some v=>walk w v p.path
 | none=>none
def addrOf:Value->Option Addr
 | .slice (some a) _ _=>some a
 | .pointer (some a)=>some a
 | _=>none
def fS (w:World) (T:Array Value):ag->Value->Prop
 | .ptr p k,v=>∃ u a,ed w T p=some u/\addrOf u=some a/\v=.pointer (some ⟨a.block,a.off+k,none⟩)
 | .bn _ p n,v=>∃ a N cap,ed w T p=some (.slice a N cap)/\v=.slice a n cap/\n<=N
 | .sub z p lo n,v=>∃ a N cap cE lY,ed w T p=some (.slice a N cap)/\v=.slice cE n lY/\n<=lY/\lo+n<=N/\(0<n->∃ ad,a=some ad/\cE=some ⟨ad.block,ad.off+lo * z,none⟩)
 | .bX _ p n _ _,v=>∃ a cap,ed w T p=some (.slice a n cap)/\v=.slice a n cap
 | .hD p,v=>∃ b,ed w T p=some (.map b)/\v=.map b
 | _,_=>False
def gD (g:aY):ag->Prop
 | .ptr p k=>∃ y,b7 g p=some y/\(∃ z n cs,(y=.own z n cs\/y=.obj cs)/\k<cs.length)
 | .bn z p n=>(∃ N cs,b7 g p=some (.own z N cs)/\n<=N)\/(p.path=[]/\∃ q gY m new,g p.root=some (.bX z q gY m new)/\n=gY+m)
 | .sub z p lo n=>∃ N cs,b7 g p=some (.own z N cs)/\lo+n<=N
 | .bX z p n _ _=>(∃ cs,b7 g p=some (.own z n cs))\/(p.path=[]/\∃ q gY m new cs,g p.root=some (.bX z q gY m new)/\n=gY+m/\b7 g q=some (.own z gY cs))
 | .hD p=>∃ q,b7 g p=some (.mp q)
 | _=>False
def eg (w:World) (T:Array Value) (g:aY) (r:ag) (v:Value):Prop:=fS w T r v/\gD g r
structure DY (w:World) (I:br) (ρ:ag->Value->Prop) (z:Nat) (p:Place) (n m:Nat) (new:List ag) (v:Value) (F:br) (bv:Value) (e c3:TypeId) (us news:List Value):Prop where
 jM:ρ (.bX z p n 0 []) bv
 k5:w.ownsRow 0 e z bv n us
 mx:w.ownsRow 0 c3 z v (n+m) (us++news)
 ao:new.length=news.length
 h1:∀ (k:Nat) (u:Value),news[k]?=some u->u.oneCell'=true
 ax:∀ (k:Nat) (x:ag) (u:Value),new[k]?=some x->news[k]?=some u->R w I ρ x u (λ_=>False)
 aR:∀ c,F c↔v.ownBlock=some c/\bv.ownBlock≠some c
inductive jD (w:World) (I:br) (ρ:ag->Value->Prop):ag->Value->br->Prop
 | tree {x:ag}{v:Value}{F:br}(h:R w I ρ x v F):jD w I ρ x v F
 | bX {z n m:Nat}{p:Place}{new:List ag}{v bv:Value}{e c3:TypeId}{us news:List Value}{F:br}(h:DY w I ρ z p n m new v F bv e c3 us news):jD w I ρ (.bX z p n m new) v F
theorem R.k8 {w:World}{I:br}{ρ:ag->Value->Prop}{z n m:Nat}{p:Place}{new:List ag}{v:Value}{F:br}(h:R w I ρ (.bX z p n m new) v F):False:=by
 cases h with
 | ref J=>simp [ag.isRef] at J
theorem jD.hB {w:World}{I:br}{ρ:ag->Value->Prop}{x:ag}{v:Value}{F:br}(h:jD w I ρ x v F) (J:∀ z p n m new,x≠.bX z p n m new):R w I ρ x v F:=by
 cases h with
 | tree h=>exact h
 | bX=>exact absurd rfl (J _ _ _ _ _)
theorem jD.uf {w:World}{I:br}{ρ:ag->Value->Prop}{z n m:Nat}{p:Place}{new:List ag}{v:Value}{F:br}(h:jD w I ρ (.bX z p n m new) v F):∃ bv e c3 us news,DY w I ρ z p n m new v F bv e c3 us news:=by
 cases h with
 | tree h=>exact h.k8.elim
 | bX h=>exact ⟨_,_,_,_,_,h⟩
theorem jD.lt {w:World}{I:br}{ρ:ag->Value->Prop}{x:ag}{v:Value}{F:br}(h:jD w I ρ x v F):∀ c,F c->c<w.heap.size:=by
 cases h with
 | tree h=>exact h.lt
 | bX h=>exact λc ab=>(h.mx.lt c ((h.aR c).1 ab).1).2
theorem jD.frame {w w':World}{I I':br}{ρ ρ':ag->Value->Prop}{x:ag}{v:Value}{F:br}(h:jD w I ρ x v F)
  (bt:∀ c,I c->w'.heap[c]?=w.heap[c]?) (oz:∀ c,I c->I' c) (lu:∀ x v,ρ x v->ρ' x v)
  (du:∀ z p n bv,ρ (.bX z p n 0 []) bv->∀ c,bv.ownBlock=some c->w'.heap[c]?=w.heap[c]?)
  (bl:∀ c,F c->w'.heap[c]?=w.heap[c]?):jD w' I' ρ' x v F:=by
 cases h with
 | tree h=>exact .tree (h.frame bt oz lu bl)
 | @bX z n m p new v bv e c3 us news F h =>
  have aH:=du _ _ _ _ h.jM
  refine .bX ⟨lu _ _ h.jM,ui h.k5 aH,ui h.mx λc ab=>?_,h.ao,h.h1,λk x u J hu=>(h.ax k x u J hu).frame bt oz lu λc ab=>ab.elim,h.aR⟩
  by_cases pX:bv.ownBlock=some c
  ·exact aH c pX
  ·exact bl c ((h.aR c).2 ⟨ab,pX⟩)
theorem ag.rp {z n m:Nat}{p:Place}{new:List ag}{q:List Nat}{y:ag}(h:(ag.bX z p n m new).at q=some y):q=[]/\y=.bX z p n m new:=by
 cases q with
 | nil=>simp [ag.at] at h; exact ⟨rfl,h.symm⟩
 | cons k q=>simp [ag.at,ag.kids] at h
structure cY (w:World) (I:br) (T:Array Value) (g:aY) (Fs:Nat->br):Prop where
 rel:∀ t x,g t=some x->∃ v,T[t]?=some v/\jD w I (eg w T g) x v (Fs t)
 kI:∀ t,g t=none->∀ c,¬ Fs t c
 e5:∀ t dn c,Fs t c->Fs dn c->t=dn
 aE:∀ t c,Fs t c->¬ I c
 lt:∀ c,I c->c<w.heap.size
 p_:∀ t dn z p n m new cJ cX m' dj,g t=some (.bX z p n m new)->g dn=some (.bX cJ p cX m' dj)->t=dn
section
variable {w:World}{I:br}{T:Array Value}{g:aY}{Fs:Nat->br}
theorem cY.part (h:cY w I T g Fs) {p:Place}{y:ag}(aG:b7 g p=some y) (az:∀ z q n m new,y≠.bX z q n m new):∃ v cM,ed w T p=some v/\R w I (eg w T g) y v cM/\(∀ c,cM c->Fs p.root c):=by
 unfold b7 at aG
 cases J:g p.root with
 | none=>rw [J] at aG; cases aG
 | some x =>
  rw [J] at aG
  obtain ⟨v,hv,bf⟩:=h.rel _ _ J
  replace bf:=bf.hB (by
   rintro z q n m new rfl
   exact az _ _ _ _ _ (ag.rp aG).2)
  obtain ⟨h8,cM,hw,dT,dC,_⟩:=R.focus p.path bf aG
  exact ⟨h8,cM,by simp [ed,hv,hw],dT,dC⟩
theorem R.po {ρ:ag->Value->Prop}{z n:Nat}{cs:List ag}{v:Value}{F:br}(h:R w I ρ (.own z n cs) v F):∀ c,v.ownBlock=some c->F c:=by
 cases h with
 | own bd ao h1 ax aV aH aR=>exact λc ab=>(aR c).2 (.inl ab)
 | ref J=>simp [ag.isRef] at J
theorem R.mL {ρ:ag->Value->Prop}{z n:Nat}{cs:List ag}{v:Value}{F:br}(h:R w I ρ (.own z n cs) v F) :
  ∃ a cap,v=.slice a n cap/\n<=cap/\cs.length=n * z/\(∀ ad,a=some ad->ad.off=0/\ad.spot=none)/\(0<n->a.isSome=true):=by
 cases h with
 | own bd ao h1 ax aV aH aR =>
  obtain ⟨h1,al⟩:=bd
  rcases al with ⟨rfl,rfl⟩ | ⟨b,cap,cur,rfl,_,_,aL,_⟩
  ·exact ⟨none,0,rfl,Nat.le_refl _,by simp [ao,h1],by simp,by simp⟩
  ·exact ⟨_,cap,rfl,aL,by simp [ao,h1],by rintro ad ⟨⟩; exact ⟨rfl,rfl⟩,by simp⟩
 | ref J=>simp [ag.isRef] at J
theorem cY.wz (h:cY w I T g Fs) {w':World}{T':Array Value}(fM:∀ t,g t≠none->T'[t]?=T[t]?) (aR:∀ t c,Fs t c->w'.heap[c]?=w.heap[c]?) {p:Place}{y:ag}(aG:b7 g p=some y) :
  ed w' T' p=ed w T p:=by
 unfold b7 at aG
 cases J:g p.root with
 | none=>rw [J] at aG; cases aG
 | some x =>
  rw [J] at aG
  obtain ⟨v,hv,bf⟩:=h.rel _ _ J
  have iy:T'[p.root]?=some v:=by rw [fM _ (by rw [J]; simp),hv]
  cases bf with
  | tree bf =>
   have:=R.oP (w':=w') p.path bf aG λc ab=>aR _ c ab
   simp [ed,hv,iy,this]
  | bX bf=>simp [ed,hv,iy,(ag.rp aG).1,walk]
theorem kz {g g':aY}(a8:∀ t x,g t=some x->g' t=some x) {p:Place}{y:ag}(aG:b7 g p=some y):b7 g' p=some y:=by
 unfold b7 at *
 cases J:g p.root with
 | none=>rw [J] at aG; cases aG
 | some x=>rw [J] at aG; rw [a8 _ _ J]; exact aG
theorem gD.mono {g g':aY}(a8:∀ t x,g t=some x->g' t=some x) {r:ag}(h:gD g r):gD g' r:=by
 cases r <;> simp only [gD] at h ⊢
 case ptr p k=>obtain ⟨y,az,h⟩:=h; exact ⟨y,kz a8 az,h⟩
 case bn z p n =>
  rcases h with ⟨N,cs,h1,al⟩ | ⟨bb,q,gY,m,new,h1,al⟩
  ·exact .inl ⟨N,cs,kz a8 h1,al⟩
  ·exact .inr ⟨bb,q,gY,m,new,a8 _ _ h1,al⟩
 case sub z p lo n=>obtain ⟨N,cs,h1,al⟩:=h; exact ⟨N,cs,kz a8 h1,al⟩
 case bX z p n m new =>
  rcases h with ⟨cs,h1⟩ | ⟨bb,q,gY,m',dj,cs,h1,al,aO⟩
  ·exact .inl ⟨cs,kz a8 h1⟩
  ·exact .inr ⟨bb,q,gY,m',dj,cs,a8 _ _ h1,al,kz a8 aO⟩
 case hD p=>obtain ⟨q,h⟩:=h; exact ⟨q,kz a8 h⟩
theorem cY.Dw (h:cY w I T g Fs) {w':World}{T':Array Value}{g':aY}(fM:∀ t,g t≠none->T'[t]?=T[t]?) (aR:∀ t c,Fs t c->w'.heap[c]?=w.heap[c]?)
  (a8:∀ t x,g t=some x->g' t=some x) {r:ag}{v:Value}(ax:eg w T g r v):eg w' T' g' r v:=by
 obtain ⟨h1,al⟩:=ax
 refine ⟨?_,al.mono a8⟩
 have slot:∀ {p:Place}{x:ag},p.path=[]->g p.root=some x->ed w' T' p=ed w T p:=by
  intro p x aG J
  obtain ⟨v,hv,_⟩:=h.rel _ _ J
  simp [ed,aG,walk,fM p.root (by rw [J]; simp)]
 cases r <;> simp only [fS,gD] at h1 al ⊢
 case ptr p k =>
  obtain ⟨y,az,_⟩:=al
  rw [h.wz fM aR az]; exact h1
 case bn z p n =>
  rcases al with ⟨N,cs,al,_⟩ | ⟨bb,q,gY,m,new,al,_⟩
  ·rw [h.wz fM aR al]; exact h1
  ·rw [slot bb al]; exact h1
 case sub z p lo n =>
  obtain ⟨N,cs,al,_⟩:=al
  rw [h.wz fM aR al]; exact h1
 case bX z p n m new =>
  rcases al with ⟨cs,al⟩ | ⟨bb,q,gY,m',dj,cs,al,_⟩
  ·rw [h.wz fM aR al]; exact h1
  ·rw [slot bb al]; exact h1
 case hD p =>
  obtain ⟨q,al⟩:=al
  rw [h.wz fM aR al]; exact h1
theorem cY.B7 (h:cY w I T g Fs) {z n:Nat}{p:Place}{bv:Value}(ax:eg w T g (.bX z p n 0 []) bv):∀ c,bv.ownBlock=some c->∃ t,Fs t c:=by
 obtain ⟨⟨a,cap,h1,rfl⟩,al⟩:=ax
 intro c ab
 have own:∀ {q:Place}{gY:Nat}{cs:List ag}{v:Value},b7 g q=some (.own z gY cs)->ed w T q=some v->v.ownBlock=some c->∃ t,Fs t c:=by
  intro q gY cs v bO hv ab
  obtain ⟨hF,cM,iy,bf,dC⟩:=h.part bO (by simp)
  rw [hv] at iy
  cases iy
  exact ⟨_,dC c (bf.po c ab)⟩
 rcases al with ⟨cs,al⟩ | ⟨bb,q,gY,m,new,cs,al,rfl,aO⟩
 ·exact own al h1 ab
 ·obtain ⟨v,hv,bf⟩:=h.rel _ _ al
  have qR:v=.slice a (gY+m) cap:=by
   simp only [ed,hv,bb,walk,Option.some.injEq] at h1
   exact h1
  obtain ⟨IY,e,c3,us,news,bf⟩:=bf.uf
  by_cases cO:IY.ownBlock=some c
  ·obtain ⟨⟨a2,qx,b4,rfl⟩,_⟩:=bf.jM
   exact own aO b4 cO
  ·exact ⟨_,(bf.aR c).2 ⟨by rw [qR]; exact ab,cO⟩⟩
theorem cY.frame (h:cY w I T g Fs) {w':World}{I':br}{T':Array Value}{g':aY}(fM:∀ t,g t≠none->T'[t]?=T[t]?) (aR:∀ t c,Fs t c->w'.heap[c]?=w.heap[c]?)
  (bt:∀ c,I c->w'.heap[c]?=w.heap[c]?) (oz:∀ c,I c->I' c) (a8:∀ t x,g t=some x->g' t=some x) {x:ag}{v:Value}{F:br}(bf:R w I (eg w T g) x v F)
  (k1:∀ c,F c->w'.heap[c]?=w.heap[c]?):R w' I' (eg w' T' g') x v F :=
 bf.frame bt oz (λ_ _ ax=>h.Dw fM aR a8 ax) k1
theorem cY.u_ (h:cY w I T g Fs) {w':World}{I':br}{T':Array Value}{g':aY}(fM:∀ t,g t≠none->T'[t]?=T[t]?) (aR:∀ t c,Fs t c->w'.heap[c]?=w.heap[c]?)
  (bt:∀ c,I c->w'.heap[c]?=w.heap[c]?) (oz:∀ c,I c->I' c) (a8:∀ t x,g t=some x->g' t=some x) {x:ag}{v:Value}{F:br}(bf:jD w I (eg w T g) x v F)
  (k1:∀ c,F c->w'.heap[c]?=w.heap[c]?):jD w' I' (eg w' T' g') x v F :=
 bf.frame bt oz (λ_ _ ax=>h.Dw fM aR a8 ax) (λ_ _ _ _ ax c ab=>by obtain ⟨t,aD⟩:=h.B7 ax c ab; exact aR t c aD) k1
def e9 (g:aY) (d:Nat) (x:ag):aY:=λt=>if t=d then some x else g t
def s_ (Fs:Nat->br) (d:Nat) (F:br):Nat->br:=λt=>if t=d then F else Fs t
theorem MY {d:Nat}{x:ag}(aV:g d=none):∀ t y,g t=some y->e9 g d x t=some y:=by
 intro t y az
 unfold e9
 split
 ·rename_i h; subst h; rw [aV] at az; cases az
 ·exact az
end
end Go.Own
namespace Go.Own
open Go
theorem M6 (w:World):∀ (p:List Nat) (v:Value) (k:Nat),walk w v (p++[k])=(walk w v p).bind λu=>child w u k
 | [],v,k=>by simp [walk]; cases child w v k <;> rfl
 | ae::p,v,k=>by
  simp only [List.cons_append,walk]
  cases child w v ae with
  | none=>rfl
  | some u=>exact M6 w p u k
theorem IS:∀ (p:List Nat) (x:ag) (k:Nat),x.at (p++[k])=(x.at p).bind λy=>y.kids[k]?
 | [],x,k=>by simp [ag.at]; cases x.kids[k]? <;> rfl
 | ae::p,x,k=>by
  simp only [List.cons_append,ag.at]
  cases x.kids[ae]? with
  | none=>rfl
  | some u=>exact IS p u k
theorem r_ (g:aY) (p:Place) (k:Nat):b7 g (p.push k)=(b7 g p).bind λy=>y.kids[k]?:=by
 unfold b7 Place.push
 cases g p.root with
 | none=>rfl
 | some x=>simp [IS]
theorem wy (w:World) (T:Array Value) (p:Place) (k:Nat):ed w T (p.push k)=(ed w T p).bind λu=>child w u k:=by
 unfold ed Place.push
 cases T[p.root]? with
 | none=>rfl
 | some x=>simp [M6]
def ih:Nat->Place->ag->ag
 | _,p,.own z n _=>.bn z p n
 | _,p,.obj (_::_)=>.ptr p 0
 | _,_,.obj []=>.dead
 | _,_,.bX ..=>.dead
 | _,p,.mp _=>.hD p
 | d+1,p,.agg cs=>.agg (cs.mapIdx λi x=>ih d (p.push i) x)
 | d+1,p,.cB cs=>.cB (cs.mapIdx λi x=>ih d (p.push i) x)
 | 0,_,.agg _=>.dead
 | 0,_,.cB _=>.dead
 | _,_,x=>x
def q4 (t:Nat):ag->ag
 | .bX z _ n m _=>.bn z ⟨t,[]⟩ (n+m)
 | x=>ih 2 ⟨t,[]⟩ x
def n4:Value->ag
 | .slice none 0 0=>.aK
 | .agg _=>.dead
 | .tuple _=>.dead
 | v=>.lit v
def ofConst:Value->ag
 | .agg vs=>if vs.all Value.oneCell' then .agg (vs.toList.map n4) else .dead
 | .tuple _=>.dead
 | v=>n4 v
def bP (g:aY):Operand->Option ag
 | .tmp t=>(g t).map (q4 t)
 | .const v=>some (ofConst v)
 | .func f=>some (.er (.func f) [] [])
 | .global _=>none
abbrev cU:br:=λ_=>False
section
variable {w:World}{I:br}{T:Array Value}{g:aY}{Fs:Nat->br}
theorem R.empty {ρ:ag->Value->Prop}{x:ag}{v:Value}{F:br}(h:R w I ρ x v F) (aR:∀ c,¬ F c):R w I ρ x v cU:=h.xb λc=>⟨λab=>aR c ab,λab=>ab.elim⟩
theorem Dv:∀ (d:Nat) {p:Place}{x:ag}{v:Value}{F:br},b7 g p=some x->ed w T p=some v->R w I (eg w T g) x v F->R w I (eg w T g) (ih d p x) v cU:=by
 intro d
 induction d with
 | zero =>
  intro p x v F aG hv bf
  cases bf with
  | lit ao aR=>exact .lit ao λ_ h=>h
  | aK aR=>exact .aK λ_ h=>h
  | dead aR=>exact .dead λ_ h=>h
  | ref J ax aR=>cases x <;> simp [ag.isRef] at J <;> exact .ref rfl ax λ_ h=>h
  | mp=>exact .ref rfl ⟨⟨_,hv,rfl⟩,⟨_,aG⟩⟩ λ_ h=>h
  | imp aR bt bd bO=>exact .imp (λ_ h=>h) bt bd bO
  | hQ aR=>exact .hQ λ_ h=>h
  | aE aR k3 bt aN ao h1 ab ax=>exact .aE (λ_ h=>h) k3 bt aN ao h1 ab ax
  | bo aR bt aN h1 ab ax=>exact .bo (λ_ h=>h) bt aN h1 ab ax
  | own bd ao h1 ax aV aH aR =>
   have F8:=R.own (I:=I) (ρ:=eg w T g) bd ao h1 ax aV aH aR
   obtain ⟨a,cap,rfl,aL,_⟩:=F8.mL
   exact .ref rfl ⟨⟨a,_,cap,hv,rfl,Nat.le_refl _⟩,.inl ⟨_,_,aG,Nat.le_refl _⟩⟩ λ_ h=>h
  | @obj cs b e arr cp _ bd ao h1 ax aV aH aR =>
   cases cs with
   | nil=>exact .dead λ_ h=>h
   | cons c cs=>exact .ref rfl ⟨⟨_,_,hv,rfl,rfl⟩,⟨_,aG,0,0,_,.inr rfl,by simp⟩⟩ λ_ h=>h
  | agg=>exact .dead λ_ h=>h
  | cB=>exact .dead λ_ h=>h
  | er aR h1 al jN iF=>exact .er (λ_ h=>h) h1 al jN iF
 | succ d aS =>
  intro p x v F aG hv bf
  cases bf with
  | lit ao aR=>exact .lit ao λ_ h=>h
  | aK aR=>exact .aK λ_ h=>h
  | dead aR=>exact .dead λ_ h=>h
  | ref J ax aR=>cases x <;> simp [ag.isRef] at J <;> exact .ref rfl ax λ_ h=>h
  | mp=>exact .ref rfl ⟨⟨_,hv,rfl⟩,⟨_,aG⟩⟩ λ_ h=>h
  | imp aR bt bd bO=>exact .imp (λ_ h=>h) bt bd bO
  | hQ aR=>exact .hQ λ_ h=>h
  | aE aR k3 bt aN ao h1 ab ax=>exact .aE (λ_ h=>h) k3 bt aN ao h1 ab ax
  | bo aR bt aN h1 ab ax=>exact .bo (λ_ h=>h) bt aN h1 ab ax
  | own bd ao h1 ax aV aH aR =>
   have F8:=R.own (I:=I) (ρ:=eg w T g) bd ao h1 ax aV aH aR
   obtain ⟨a,cap,rfl,aL,_⟩:=F8.mL
   exact .ref rfl ⟨⟨a,_,cap,hv,rfl,Nat.le_refl _⟩,.inl ⟨_,_,aG,Nat.le_refl _⟩⟩ λ_ h=>h
  | @obj cs b e arr cp _ bd ao h1 ax aV aH aR =>
   cases cs with
   | nil=>exact .dead λ_ h=>h
   | cons c cs=>exact .ref rfl ⟨⟨_,_,hv,rfl,rfl⟩,⟨_,aG,0,0,_,.inr rfl,by simp⟩⟩ λ_ h=>h
  | @agg cs vs cp _ ao h1 ax aV aR =>
   refine .agg (Fs:=λ_=>cU) (by simpa using ao) h1 ?_ (λ_ _ _ _ _ h=>h.elim) (λc=>⟨λh=>h.elim,λ⟨_,_,h⟩=>h⟩)
   intro k y u az hu
   rw [List.getElem?_mapIdx] at az
   cases hk:cs[k]? with
   | none=>rw [hk] at az; cases az
   | some z =>
    rw [hk] at az
    cases az
    exact aS (by rw [r_,aG]; exact hk) (by rw [wy,hv]; exact hu) (ax k z u hk hu)
  | @cB cs vs cp _ ao ax aV aR =>
   refine .cB (Fs:=λ_=>cU) (by simpa using ao) ?_ (λ_ _ _ _ _ h=>h.elim) (λc=>⟨λh=>h.elim,λ⟨_,_,h⟩=>h⟩)
   intro k y u az hu
   rw [List.getElem?_mapIdx] at az
   cases hk:cs[k]? with
   | none=>rw [hk] at az; cases az
   | some z =>
    rw [hk] at az
    cases az
    exact aS (by rw [r_,aG]; exact hk) (by rw [wy,hv]; exact hu) (ax k z u hk hu)
  | er aR h1 al jN iF=>exact .er (λ_ h=>h) h1 al jN iF
theorem AH {ρ:ag->Value->Prop}(v:Value):R w I ρ (n4 v) v cU:=by
 unfold n4
 split
 ·exact .aK λ_ h=>h
 ·exact .dead λ_ h=>h
 ·exact .dead λ_ h=>h
 ·rename_i h1 al aO
  refine .lit ?_ λ_ h=>h
  cases v <;> first | rfl | (exact absurd rfl (al _)) | (exact absurd rfl (aO _))
theorem Tq {ρ:ag->Value->Prop}(v:Value):R w I ρ (ofConst v) v cU:=by
 unfold ofConst
 split
 ·rename_i vs
  split
  ·rename_i hb
   refine .agg (Fs:=λ_=>cU) (by simp) (λk u hu=>?_) ?_ (λ_ _ _ _ _ h=>h.elim) (λc=>⟨λh=>h.elim,λ⟨_,_,h⟩=>h⟩)
   ·exact Array.all_eq_true_iff_forall_mem.1 hb u (Array.mem_of_getElem? hu)
   ·intro k x u J hu
    simp only [List.getElem?_map,Array.getElem?_toList,hu,Option.map_some,Option.some.injEq] at J
    subst J
    exact AH u
  ·exact .dead λ_ h=>h
 ·exact .dead λ_ h=>h
 ·exact AH v
theorem j9 (h:cY w I T g Fs) {x:Operand}{y:ag}(az:bP g x=some y) {a:Act}(bj:a.tmps=T):R w I (eg w T g) y (a.eval x) cU:=by
 cases x with
 | tmp t =>
  simp only [bP] at az
  cases J:g t with
  | none=>rw [J] at az; cases az
  | some z =>
   rw [J] at az
   simp only [Option.map_some,Option.some.injEq] at az
   obtain ⟨v,hv,bf⟩:=h.rel t z J
   have pY:a.eval (.tmp t)=v:=by simp [Act.eval,bj,hv]
   rw [pY]
   have aG:b7 g ⟨t,[]⟩=some z:=by simp [b7,J,ag.at]
   have Lh:ed w T ⟨t,[]⟩=some v:=by simp [ed,hv,walk]
   subst az
   cases bf with
   | tree bf =>
    cases z with
    | bX=>exact bf.k8.elim
    | _=>exact Dv 2 aG Lh bf
   | @bX hj n m p new v bv e c3 us news _ bf =>
    simp only [q4]
    have:∃ a cap,v=.slice a (n+m) cap:=by
     obtain ⟨_,al⟩:=bf.mx
     rcases al with ⟨al,aO⟩ | ⟨b,cap,cur,al,_⟩
     ·exact ⟨none,0,by rw [al]; congr 1; omega⟩
     ·exact ⟨_,cap,al⟩
    obtain ⟨cE,cap,rfl⟩:=this
    exact .ref rfl ⟨⟨cE,_,cap,Lh,rfl,Nat.le_refl _⟩,.inr ⟨rfl,p,n,m,new,J,rfl⟩⟩ λ_ h=>h
 | const v=>simp only [bP,Option.some.injEq] at az; subst az; exact Tq v
 | global n=>simp [bP] at az
 | func f =>
  simp only [bP,Option.some.injEq] at az
  subst az
  exact .er (λ_ h=>h) rfl rfl (by simp) (by simp)
end
end Go.Own
namespace Go.Own
open Go
def hs (P:Program) (t:TypeId):Bool :=
 match P.underlying t,P.info? t with
 | some (.struct _),_=>false
 | some (.array ..),_=>false
 | some _,some i=>i.size == 1
 | _,_=>false
def i' (P:Program) (t:TypeId) (k:Nat):Bool :=
 match P.underlying t,P.info? t with
 | some (.struct _),some i=>i.size == k
 | some (.array ..),some i=>i.size == k
 | _,_=>false
def fy (P:Program) (t e:TypeId) (z:Nat):Bool :=
 match P.underlying t,P.info? e with
 | some (.slice cW),some i=>cW == e&&i.size == z
 | _,_=>false
def B4 (P:Program) (t e:TypeId) (n z:Nat):Bool :=
 match P.underlying t,P.info? e with
 | some (.array cX cW),some i=>cX == n&&cW == e&&i.size == z
 | _,_=>false
def qg (P:Program) (t:TypeId):Bool :=
 match P.underlying t with
 | some .string=>true
 | _=>false
def uV (P:Program) (s d:TypeId):Bool :=
 match P.underlying s,P.underlying d with
 | some (.slice e),some .string=>match P.underlying e with
  | some (.int .u8)=>true
  | _=>false
 | _,_=>false
def dH (P:Program) (s:TypeId) (f off:Nat) (t:TypeId):Bool :=
 match P.underlying s with
 | some (.struct fs) =>
  match fs[f]? with
  | some fd=>fd.offset == off&&fd.type == t&&(match P.info? t with | some i=>i.size != 0 | none=>false)
  | none=>false
 | _=>false
section
variable {P:Program}{w:World}
theorem Es {t:TypeId}(h:hs P t=true):(isAgg t).run P w=.ok false w/\(sizeOf t).run P w=.ok 1 w:=by
 unfold hs at h
 cases hu:P.underlying t with
 | none=>simp [hu] at h
 | some d =>
  cases hi:P.info? t with
  | none=>cases d <;> simp [hu,hi] at h
  | some i=>cases d <;> simp [hu,hi] at h <;> simp [isAgg,run_underlying hu,sizeOf,typeInfo,hi,h]
theorem B2 {t:TypeId}{k:Nat}(h:i' P t k=true):(isAgg t).run P w=.ok true w/\(sizeOf t).run P w=.ok k w:=by
 unfold i' at h
 cases hu:P.underlying t with
 | none=>simp [hu] at h
 | some d =>
  cases hi:P.info? t with
  | none=>cases d <;> simp [hu,hi] at h
  | some i=>cases d <;> simp [hu,hi] at h <;> simp [isAgg,run_underlying hu,sizeOf,typeInfo,hi,h]
theorem pB {t e:TypeId}{z:Nat}(h:fy P t e z=true):P.underlying t=some (.slice e)/\P.elem t=e/\(sizeOf e).run P w=.ok z w:=by
 unfold fy at h
 cases hu:P.underlying t with
 | none=>simp [hu] at h
 | some d =>
  cases hi:P.info? e with
  | none=>cases d <;> simp [hu,hi] at h
  | some i =>
   cases d <;> simp [hu,hi] at h
   obtain ⟨rfl,h⟩:=h
   exact ⟨rfl,by simp [Program.elem,hu],by simp [sizeOf,typeInfo,hi,h]⟩
theorem IH {t e:TypeId}{n z:Nat}(h:B4 P t e n z=true):P.underlying t=some (.array n e)/\(sizeOf e).run P w=.ok z w:=by
 unfold B4 at h
 cases hu:P.underlying t with
 | none=>simp [hu] at h
 | some d =>
  cases hi:P.info? e with
  | none=>cases d <;> simp [hu,hi] at h
  | some i =>
   cases d <;> simp [hu,hi] at h
   obtain ⟨⟨rfl,rfl⟩,h⟩:=h
   exact ⟨rfl,by simp [sizeOf,typeInfo,hi,h]⟩
theorem I1 {s d:TypeId}(h:uV P s d=true):∃ e,P.underlying s=some (.slice e)/\P.underlying e=some (.int .u8)/\P.underlying d=some .string:=by
 unfold uV at h
 split at h
 ·rename_i e h1 al
  split at h
  ·rename_i aO
   exact ⟨e,h1,aO,al⟩
  ·cases h
 ·cases h
theorem HM {t:TypeId}(h:qg P t=true):P.underlying t=some .string:=by
 unfold qg at h
 cases hu:P.underlying t with
 | none=>simp [hu] at h
 | some d=>cases d <;> simp [hu] at h; rfl
theorem EY {s:TypeId}{f off:Nat}{t:TypeId}(h:dH P s f off t=true):∃ fs fd,P.underlying s=some (.struct fs)/\fs[f]?=some fd/\fd.offset=off/\fd.type=t/\∃ i,P.info? t=some i/\i.size≠0:=by
 unfold dH at h
 cases hu:P.underlying s with
 | none=>simp [hu] at h
 | some d =>
  cases d <;> simp [hu] at h
  rename_i fs
  cases bl:fs[f]? with
  | none=>simp [bl] at h
  | some fd =>
   simp [bl] at h
   obtain ⟨⟨h1,al⟩,aO⟩:=h
   cases hi:P.info? t with
   | none=>simp [hi] at aO
   | some i=>simp [hi] at aO; exact ⟨fs,fd,rfl,bl,h1,al,i,rfl,aO⟩
theorem add_eq (b o k:Nat):(⟨b,o,none⟩:Addr).add k=⟨b,o+k,none⟩:=by
 unfold Addr.add
 split
 ·rename_i h; subst h; rfl
 ·rfl
theorem Mn {s:TypeId}{f off:Nat}{t:TypeId}(h:dH P s f off t=true) (b o:Nat):(Instr.fieldAt s (.pointer (some ⟨b,o,none⟩)) f).run P w=.ok (.pointer (some ⟨b,o+off,none⟩)) w:=by
 obtain ⟨fs,fd,hu,bl,rfl,rfl,i,hi,bb⟩:=EY h
 simp [Instr.fieldAt,run_underlying hu,bl,Instr.sureAddr,fieldPlace,sizeOf,typeInfo,hi,bb,add_eq]
theorem Mp {t:TypeId}(h:hs P t=true) {a:Addr}{v:Value}(ab:w.cell? a=some v):(Instr.loadAt t (.pointer (some a))).run P w=.ok v w:=by
 obtain ⟨h1,al⟩:=Es (w:=w) h
 simp [Instr.loadAt,Instr.sureAddr,loadVar,h1,ab]
theorem Mo {t:TypeId}{k:Nat}(h:i' P t k=true) {b o:Nat}{vs:List Value}(ao:vs.length=k) (ab:∀ ae v,vs[ae]?=some v->w.cell? ⟨b,o+ae,none⟩=some v) :
  (Instr.loadAt t (.pointer (some ⟨b,o,none⟩))).run P w=.ok (.agg vs.toArray) w:=by
 obtain ⟨h1,al⟩:=B2 (w:=w) h
 have:=run_loadCells_list (P:=P) w ⟨b,o,none⟩ vs (λae v aa=>by rw [add_eq]; exact ab ae v aa)
 rw [ao] at this
 simp [Instr.loadAt,Instr.sureAddr,loadVar,h1,al,this]
end
end Go.Own
namespace Go.Own
open Go
section
variable {w:World}{I:br}{ρ:ag->Value->Prop}{v:Value}{F:br}
theorem R.ie {a:Value}(h:R w I ρ (.lit a) v F):v=a/\a.oneCell'=true:=by
 cases h with
 | lit hv=>exact ⟨rfl,hv⟩
 | ref J=>simp [ag.isRef] at J
theorem R.qY (h:R w I ρ .aK v F):v=.slice none 0 0:=by
 cases h with
 | aK=>rfl
 | ref J=>simp [ag.isRef] at J
theorem R.nh {p:Place}{k:Nat}(h:R w I ρ (.ptr p k) v F):ρ (.ptr p k) v:=by
 cases h with
 | ref J h=>exact h
theorem R.mG {z:Nat}{p:Place}{n:Nat}(h:R w I ρ (.bn z p n) v F):ρ (.bn z p n) v:=by
 cases h with
 | ref J h=>exact h
theorem R.vz {z:Nat}{p:Place}{lo n:Nat}(h:R w I ρ (.sub z p lo n) v F):ρ (.sub z p lo n) v:=by
 cases h with
 | ref J h=>exact h
theorem R.xG {z n:Nat}{cs:List ag}(h:R w I ρ (.aE z n cs) v F):∃ a cap,v=.slice a n cap/\n<=cap/\cs.length=n * z /\
  (cs≠[]\/0<n->∃ (ad:Addr) (us:Nat->Value),a=some ad/\I ad.block/\ad.spot=none/\(∀ (k:Nat) (x:ag),cs[k]?=some x->(us k).oneCell'=true)/\(∀ (k:Nat) (x:ag),cs[k]?=some x->w.cell? ⟨ad.block,ad.off+k,none⟩=some (us k))/\∀ (k:Nat) (x:ag),cs[k]?=some x->R w I ρ x (us k) cU):=by
 cases h with
 | @hQ _ cap a=>exact ⟨a,cap,rfl,Nat.zero_le _,by simp,λh=>by simp at h⟩
 | @aE _ _ cap _ ad us _ aR k3 bt aN ao h1 ab ax=>exact ⟨_,cap,rfl,k3,ao,λ_=>⟨ad,us,rfl,bt,aN,h1,ab,ax⟩⟩
 | ref J=>simp [ag.isRef] at J
theorem R.vy {cs:List ag}(h:R w I ρ (.bo cs) v F):∃ (ad:Addr) (us:Nat->Value),v=.pointer (some ad)/\I ad.block/\ad.spot=none/\(∀ (k:Nat) (x:ag),cs[k]?=some x->(us k).oneCell'=true)/\(∀ (k:Nat) (x:ag),cs[k]?=some x->w.cell? ⟨ad.block,ad.off+k,none⟩=some (us k))/\∀ (k:Nat) (x:ag),cs[k]?=some x->R w I ρ x (us k) cU:=by
 cases h with
 | @bo _ ad us _ aR bt aN h1 ab ax=>exact ⟨ad,us,rfl,bt,aN,h1,ab,ax⟩
 | ref J=>simp [ag.isRef] at J
theorem R.Am {cs:List ag}(h:R w I ρ (.agg cs) v F) (aR:∀ c,¬ F c):∃ vs:Array Value,v=.agg vs/\cs.length=vs.size/\(∀ (k:Nat) (u:Value),vs[k]?=some u->u.oneCell'=true)/\∀ (k:Nat) (x:ag) (u:Value),cs[k]?=some x->vs[k]?=some u->R w I ρ x u cU:=by
 cases h with
 | @agg _ vs Fs _ ao h1 ax aV nv=>exact ⟨vs,rfl,ao,h1,λk x u J hu=>(ax k x u J hu).empty λc ab=>aR c ((nv c).2 ⟨k,(List.getElem?_eq_some_iff.1 J).1,ab⟩)⟩
 | ref J=>simp [ag.isRef] at J
theorem R.S6 {cs:List ag}(h:R w I ρ (.cB cs) v F) (aR:∀ c,¬ F c):∃ vs:Array Value,v=.tuple vs/\cs.length=vs.size/\∀ (k:Nat) (x:ag) (u:Value),cs[k]?=some x->vs[k]?=some u->R w I ρ x u cU:=by
 cases h with
 | @cB _ vs Fs _ ao ax aV nv=>exact ⟨vs,rfl,ao,λk x u J hu=>(ax k x u J hu).empty λc ab=>aR c ((nv c).2 ⟨k,(List.getElem?_eq_some_iff.1 J).1,ab⟩)⟩
 | ref J=>simp [ag.isRef] at J
theorem R.node {y:ag}{z n:Nat}{cs:List ag}(h:R w I ρ y v F) (az:y=.own z n cs\/y=.obj cs) {k:Nat}{x:ag}(hk:cs[k]?=some x) :
  ∃ b u,addrOf v=some ⟨b,0,none⟩/\w.cell? ⟨b,k,none⟩=some u/\child w v k=some u/\u.oneCell'=true/\∃ bS,R w I ρ x u bS:=by
 rcases az with rfl | rfl
 ·cases h with
  | @own _ _ _ _ e us Fs _ bd ao h1 ax aV aH aR =>
   have bc:k<cs.length:=(List.getElem?_eq_some_iff.1 hk).1
   have hu:us[k]?=some us[k]:=List.getElem?_eq_getElem (ao ▸ bc)
   have l4:=n5 bd hu
   obtain ⟨mz,al⟩:=bd
   rcases al with ⟨rfl,rfl⟩ | ⟨b,cap,cur,rfl,a8,b9,rest⟩
   ·simp at mz; rw [mz] at ao; simp at ao; subst ao; simp at bc
   ·exact ⟨b,_,rfl,by simpa [child] using l4,l4,h1 k _ hu,Fs k,ax k x _ hk hu⟩
  | ref J=>simp [ag.isRef] at J
 ·cases h with
  | @obj _ b e arr Fs _ bd ao h1 ax aV aH aR =>
   have bc:k<cs.length:=(List.getElem?_eq_some_iff.1 hk).1
   have hu:arr[k]?=some arr[k]:=Array.getElem?_eq_getElem (ao ▸ bc)
   exact ⟨b,_,rfl,by simp [World.cell?,bd,hu],by simp [child,World.cell?,bd,hu],h1 k _ hu,Fs k,ax k x _ hk hu⟩
  | ref J=>simp [ag.isRef] at J
end
def oT (g:aY) (d:Nat):Option Operand->Nat->Prop
 | none,ae=>ae=d
 | some o,ae=>∃ k,bP g o=some (.lit (.int k (ae:Int)))
inductive dB (P:Program) (g:aY):Op->TypeId->ag->Prop
 | move {x:Operand}{ty:TypeId}{y:ag}(J:bP g x=some y):dB P g (.move x) ty y
 | assign {x:Operand}{ty:TypeId}{y:ag}(J:bP g x=some y):dB P g (.assign x) ty y
 | pick {c a b:Operand}{ty:TypeId}{t:Bool}{r:ag}(ab:bP g c=some (.lit (.bool t))) (ax:bP g (if t then a else b)=some r):dB P g (.pick c a b) ty r
 | De {x:Operand}{ty:TypeId}{p:Place}{k:Nat}(J:bP g x=some (.ptr p k)):dB P g (.nilCheck x) ty (.ptr p k)
 | pk {x:Operand}{ty:TypeId}{cs:List ag}(J:bP g x=some (.bo cs)):dB P g (.nilCheck x) ty (.bo cs)
 | zs {x:Operand}{ty s t:TypeId}{f off:Nat}{p:Place}{k:Nat}(J:bP g x=some (.ptr p k)) (bl:dH P s f off t=true) (e8:gD g (.ptr p (k+off))):dB P g (.fieldAddr s x f) ty (.ptr p (k+off))
 | Cu {x:Operand}{ty s t:TypeId}{f off:Nat}{cs:List ag}(J:bP g x=some (.bo cs)) (bl:dH P s f off t=true):dB P g (.fieldAddr s x f) ty (.bo (cs.drop off))
 | Ct {x:Operand}{ty s t:TypeId}{f off:Nat}{cs:List ag}{y:ag}(J:bP g x=some (.agg cs)) (bl:dH P s f off t=true) (aD:hs P t=true) (az:cs[off]?=some y):dB P g (.field s x f) ty y
 | EX {x:Operand}{ty s t:TypeId}{f off k:Nat}{cs:List ag}(J:bP g x=some (.agg cs)) (bl:dH P s f off t=true) (aD:i' P t k=true) (hk:off+k<=cs.length):dB P g (.field s x f) ty (.agg ((cs.drop off).take k))
 | C1 {x i:Operand}{ty t e:TypeId}{z n:Nat}{cs:List ag}{nj:IntKind}{ae:Nat}(J:bP g x=some (.aE z n cs)) (hi:bP g i=some (.lit (.int nj (ae:Int)))) (aD:fy P t e z=true) (aa:ae<n):dB P g (.indexAddr t x i) ty (.bo (cs.drop (ae * z)))
 | C0 {x i:Operand}{ty t e:TypeId}{z n:Nat}{p:Place}{nj:IntKind}{ae:Nat}(J:bP g x=some (.bn z p n)) (hi:bP g i=some (.lit (.int nj (ae:Int)))) (aD:fy P t e z=true) (aa:ae<n) (e8:gD g (.ptr p (ae * z))):dB P g (.indexAddr t x i) ty (.ptr p (ae * z))
 | GD {x i:Operand}{ty t e:TypeId}{z lo n:Nat}{p:Place}{nj:IntKind}{ae:Nat}(J:bP g x=some (.sub z p lo n)) (hi:bP g i=some (.lit (.int nj (ae:Int)))) (aD:fy P t e z=true) (aa:ae<n) (e8:gD g (.ptr p ((lo+ae) * z))):dB P g (.indexAddr t x i) ty (.ptr p ((lo+ae) * z))
 | GC {x i:Operand}{ty t e:TypeId}{n z k:Nat}{p:Place}{nj:IntKind}{ae:Nat}(J:bP g x=some (.ptr p k)) (hi:bP g i=some (.lit (.int nj (ae:Int)))) (aD:B4 P t e n z=true) (aa:ae<n) (e8:gD g (.ptr p (k+ae * z))):dB P g (.indexAddr t x i) ty (.ptr p (k+ae * z))
 | GB {x i:Operand}{ty t e:TypeId}{n z:Nat}{cs:List ag}{nj:IntKind}{ae:Nat}(J:bP g x=some (.bo cs)) (hi:bP g i=some (.lit (.int nj (ae:Int)))) (aD:B4 P t e n z=true) (aa:ae<n):dB P g (.indexAddr t x i) ty (.bo (cs.drop (ae * z)))
 | C_ {x:Operand}{ty t:TypeId}{c:ag}{cs:List ag}(J:bP g x=some (.bo (c::cs))) (aD:hs P t=true):dB P g (.load t x) ty c
 | C' {x:Operand}{ty t:TypeId}{k:Nat}{cs:List ag}(J:bP g x=some (.bo cs)) (aD:i' P t k=true) (hk:k<=cs.length):dB P g (.load t x) ty (.agg (cs.take k))
 | Az {x:Operand}{ty t:TypeId}{p:Place}{k:Nat}{y:ag}(J:bP g x=some (.ptr p k)) (aD:hs P t=true) (az:b7 g (p.push k)=some y):dB P g (.load t x) ty (ih 0 (p.push k) y)
 | xJ {x:Operand}{ty t:TypeId}{p:Place}{k m z n:Nat}{y:ag}{cs:List ag}(J:bP g x=some (.ptr p k)) (aD:i' P t m=true) (az:b7 g p=some y) (ab:y=.own z n cs\/y=.obj cs) (hm:k+m<=cs.length):dB P g (.load t x) ty (.agg (((cs.drop k).take m).mapIdx λi x=>ih 0 (p.push (k+i)) x))
 | C2 {x i:Operand}{ty t:TypeId}{s:ByteArray}{nj:IntKind}{ae:Nat}{b:UInt8}(J:bP g x=some (.lit (.string s))) (hi:bP g i=some (.lit (.int nj (ae:Int)))) (aD:qg P t=true) (aH:s[ae]?=some b):dB P g (.index t x i) ty (.lit (.int .u8 b.toNat))
 | bin {op:BinOp}{x y:Operand}{ty t t2:TypeId}{a b v:Value}(J:bP g x=some (.lit a)) (az:bP g y=some (.lit b)) (hv:v.oneCell'=true) (ax:∀ w,(do eqGuard op t x y a b; binOp op t a b:Sem Value).run P w=.ok v w):dB P g (.binOp op t x y t2) ty (.lit v)
 | yS {op:BinOp}{x y:Operand}{ty t t2:TypeId}{dO dz:List Value}{v:Value}(J:bP g x=some (.agg (dO.map .lit))) (az:bP g y=some (.agg (dz.map .lit))) (hv:v.oneCell'=true) (ax:∀ w,(do eqGuard op t x y (.agg dO.toArray) (.agg dz.toArray); binOp op t (.agg dO.toArray) (.agg dz.toArray):Sem Value).run P w=.ok v w):dB P g (.binOp op t x y t2) ty (.lit v)
 | un {op:UnOp}{x:Operand}{ty t:TypeId}{a v:Value}(J:bP g x=some (.lit a)) (hv:v.oneCell'=true) (ax:∀ w,(Op.unary op a).run P w=.ok v w):dB P g (.unOp op t x) ty (.lit v)
 | conv {x:Operand}{ty s d:TypeId}{a v:Value}(J:bP g x=some (.lit a)) (hv:v.oneCell'=true) (ax:∀ w,(convert s d a).run P w=.ok v w):dB P g (.convert s d x) ty (.lit v)
 | Cg {x:Operand}{ty s d:TypeId}{n N:Nat}{p:Place}{cs:List ag}{xs:List Int}(J:bP g x=some (.bn 1 p n)) (aG:b7 g p=some (.own 1 N cs)) (aL:n<=N) (hy:cs.take n=xs.map λb=>.lit (.int .u8 b)) (aD:uV P s d=true):dB P g (.convert s d x) ty (.lit (.string (strOfNums xs)))
 | Ch {x:Operand}{ty s d:TypeId}{n:Nat}{xs:List Int}(J:bP g x=some (.aE 1 n (xs.map λb=>.lit (.int .u8 b)))) (aD:uV P s d=true):dB P g (.convert s d x) ty (.lit (.string (strOfNums xs)))
 | EO {xs:Array Operand}{iz:Array TypeId}{ty:TypeId}{f:FuncId}{vs:List Value}{v:Value}(J:xs.toList.map (bP g)=vs.map λv=>some (.lit v)) (hv:v.oneCell'=true)
   (ax:∀ w,(callFunc f vs.toArray).run P w=.ok (.value v) w):dB P g (.call { callee:=.value (.func f),args:=xs,argTypes:=iz }) ty (.lit v)
 | Cl {x:Operand}{ty:TypeId}{i:Nat}{cs:List ag}{y:ag}(J:bP g x=some (.cB cs)) (az:cs[i]?=some y):dB P g (.extract x i) ty y
 | Bs {x:Operand}{lo hi:Option Operand}{ty t e:TypeId}{z n l h:Nat}{cs:List ag}(J:bP g x=some (.aE z n cs)) (ao:oT g 0 lo l) (b9:oT g n hi h) (aD:fy P t e z=true) (rI:l<=h) (aL:h<=n):dB P g (.slice t x lo hi none) ty (.aE z (h - l) ((cs.drop (l * z)).take ((h - l) * z)))
 | HK {x:Operand}{lo hi:Option Operand}{ty t e:TypeId}{z n h:Nat}{p:Place}(J:bP g x=some (.bn z p n)) (ao:oT g 0 lo 0) (b9:oT g n hi h) (aD:fy P t e z=true) (aL:h<=n) (e8:gD g (.bn z p h)):dB P g (.slice t x lo hi none) ty (.bn z p h)
 | DC {x:Operand}{lo hi:Option Operand}{ty t e:TypeId}{z n l h:Nat}{p:Place}(J:bP g x=some (.bn z p n)) (ao:oT g 0 lo l) (b9:oT g n hi h) (aD:fy P t e z=true) (rI:l<=h) (aL:h<=n) (e8:gD g (.sub z p l (h - l))):dB P g (.slice t x lo hi none) ty (.sub z p l (h - l))
 | DD {x:Operand}{lo hi:Option Operand}{ty t:TypeId}{l h:Nat}{s:ByteArray}(J:bP g x=some (.lit (.string s))) (ao:oT g 0 lo l) (b9:oT g s.size hi h) (aD:qg P t=true) (rI:l<=h) (aL:h<=s.size):dB P g (.slice t x lo hi none) ty (.lit (.string (s.extract l h)))
 | Ax {x:Operand}{ty t e:TypeId}{z cJ n:Nat}{cs:List ag}(J:bP g x=some (.aE z n cs)) (aD:fy P t e cJ=true):dB P g (.call { callee:=.builtin .len,args:=#[x],argTypes:=#[t] }) ty (.lit (.int .i64 n))
 | Aw {x:Operand}{ty t e:TypeId}{z cJ n:Nat}{p:Place}(J:bP g x=some (.bn z p n)) (aD:fy P t e cJ=true):dB P g (.call { callee:=.builtin .len,args:=#[x],argTypes:=#[t] }) ty (.lit (.int .i64 n))
 | G6 {x:Operand}{ty t e:TypeId}{z cJ lo n:Nat}{p:Place}(J:bP g x=some (.sub z p lo n)) (aD:fy P t e cJ=true):dB P g (.call { callee:=.builtin .len,args:=#[x],argTypes:=#[t] }) ty (.lit (.int .i64 n))
 | G3 {x:Operand}{ty t e:TypeId}{cJ:Nat}(J:bP g x=some .aK) (aD:fy P t e cJ=true):dB P g (.call { callee:=.builtin .len,args:=#[x],argTypes:=#[t] }) ty (.lit (.int .i64 0))
 | lits {b:Builtin}{xs:Array Operand}{iz:Array TypeId}{ty:TypeId}{vs:List Value}{v:Value}(J:xs.toList.map (bP g)=vs.map λv=>some (.lit v)) (hv:v.oneCell'=true)
   (ax:∀ w (cs:Array Bool),(builtin b iz ty cs vs.toArray).run P w=.ok (.value v) w):dB P g (.call { callee:=.builtin b,args:=xs,argTypes:=iz }) ty (.lit v)
 | C9 {x y:Operand}{ty t:TypeId}{p:Place}{q:Array MapEntry->Nat->Prop}{ok:Bool}{Y X:ag}{nF V:Value}(J:bP g x=some (.hD p)) (aG:b7 g p=some (.mp q)) (az:bP g y=some Y)
   (et:∀ (w:World) (I:br) (ρ:ag->Value->Prop) (v:Value),R w I ρ Y v cU->v=nF) (bf:∀ (w:World) (I:br) (ρ:ag->Value->Prop),R w I ρ X V cU)
   (ax:∀ (w:World) (b:Nat) (es:Array MapEntry) (clock:Nat),w.heap[b]?=some (.map es clock)->q es clock->(Instr.lookup t (.map (some b)) nF ok).run P w=.ok V w):dB P g (.lookup t x y ok) ty X
 | Ay {x y:Operand}{ty t:TypeId}{q:Array MapEntry->Nat->Prop}{ok:Bool}{Y X:ag}{nF V:Value}(J:bP g x=some (.imp q)) (az:bP g y=some Y)
   (et:∀ (w:World) (I:br) (ρ:ag->Value->Prop) (v:Value),R w I ρ Y v cU->v=nF) (bf:∀ (w:World) (I:br) (ρ:ag->Value->Prop),R w I ρ X V cU)
   (ax:∀ (w:World) (b:Nat) (es:Array MapEntry) (clock:Nat),w.heap[b]?=some (.map es clock)->q es clock->(Instr.lookup t (.map (some b)) nF ok).run P w=.ok V w):dB P g (.lookup t x y ok) ty X
theorem R.Lz {w:World}{I:br}{ρ:ag->Value->Prop}{p:Place}{v:Value}{F:br}(h:R w I ρ (.hD p) v F):ρ (.hD p) v:=by
 cases h with
 | ref _ h _=>exact h
theorem R.GG {w:World}{I:br}{ρ:ag->Value->Prop}{q:Array MapEntry->Nat->Prop}{v:Value}{F:br}(h:R w I ρ (.mp q) v F):∃ b es clock,v=.map (some b)/\w.heap[b]?=some (.map es clock)/\q es clock/\∀ c,F c↔c=b:=by
 cases h with
 | ref J=>simp [ag.isRef] at J
 | mp bd bO aR=>exact ⟨_,_,_,rfl,bd,bO,aR⟩
theorem R.S5 {w:World}{I:br}{ρ:ag->Value->Prop}{q:Array MapEntry->Nat->Prop}{v:Value}{F:br}(h:R w I ρ (.imp q) v F):∃ b es clock,v=.map (some b)/\w.heap[b]?=some (.map es clock)/\q es clock:=by
 cases h with
 | ref J=>simp [ag.isRef] at J
 | imp _ _ bd bO=>exact ⟨_,_,_,rfl,bd,bO⟩
end Go.Own
namespace Go.Own
open Go
section
variable {P:Program}{w:World}{I:br}{T:Array Value}{g:aY}{Fs:Nat->br}
theorem oT.sound (h:cY w I T g Fs) {d:Nat}{x:Option Operand}{ae:Nat}(aH:oT g d x ae) {a:Act}(bj:a.tmps=T):(x.map a.eval=none/\ae=d)\/∃ k,x.map a.eval=some (.int k (ae:Int)):=by
 cases x with
 | none=>exact .inl ⟨rfl,aH⟩
 | some o =>
  obtain ⟨k,hk⟩:=aH
  exact .inr ⟨k,by rw [Option.map_some,(j9 h hk bj).ie.1]⟩
theorem Dy {len cap l h:Nat}{lo hi:Option Value}(ao:(lo=none/\l=0)\/∃ k,lo=some (.int k (l:Int))) (b9:(hi=none/\h=len)\/∃ k,hi=some (.int k (h:Int))) (b:Bool) (rI:l<=h) (ab:h<=cap) :
  (Instr.sliceBounds b len cap lo hi none).run P w=.ok (l,h,cap) w:=by
 rcases ao with ⟨rfl,rfl⟩ | ⟨k,rfl⟩ <;> rcases b9 with ⟨rfl,rfl⟩ | ⟨l7,rfl⟩ <;> simp [Instr.sliceBounds,Instr.sliceBound,asIntOf,rI,ab]
theorem LJ (h:cY w I T g Fs) {a:Act}(bj:a.tmps=T):∀ (xs:List Operand) (vs:List Value),xs.map (bP g)=vs.map (λv=>some (.lit v))->xs.map a.eval=vs
 | [],[],_=>rfl
 | [],_::_,h=>by simp at h
 | _::_,[],h=>by simp at h
 | x::xs,v::vs,J=>by
  simp only [List.map_cons,List.cons.injEq] at J
  rw [List.map_cons,(j9 h J.1 bj).ie.1,LJ h bj xs vs J.2]
theorem Iu {w:World}{I:br}{ρ:ag->Value->Prop}{v:Value}{dO:List Value}
  (h:∃ vs:Array Value,v=.agg vs/\(dO.map ag.lit).length=vs.size/\(∀ (k:Nat) (u:Value),vs[k]?=some u->u.oneCell'=true)/\∀ (k:Nat) (x:ag) (u:Value),(dO.map ag.lit)[k]?=some x->vs[k]?=some u->R w I ρ x u cU):v=.agg dO.toArray:=by
 obtain ⟨vs,rfl,ao,-,ax⟩:=h
 congr 1
 apply Array.ext (by simpa using ao.symm)
 intro i h1 al
 have aO:i<dO.length:=by simpa using al
 have:=(ax i (.lit dO[i]) vs[i] (by simp [aO]) (Array.getElem?_eq_getElem h1)).ie.1
 simpa using this
theorem dB.sound (h:cY w I T g Fs) {a:Act}(bj:a.tmps=T) {o:Oper}{kd:ag}(aG:dB P g o.op o.type kd) :
  ∃ v,(execOp a.eval o).run P w=.ok (.value v) w/\R w I (eg w T g) kd v cU:=by
 obtain ⟨dst,op,ty,pos,after,guard⟩:=o
 simp only at aG
 have gi:∀ {x:Operand}{y:ag},bP g x=some y->R w I (eg w T g) y (a.eval x) cU:=λaz=>j9 h az bj
 have no:∀ c,¬ cU c:=λ_ h=>h
 cases aG with
 | move J=>exact ⟨_,by simp [execOp],gi J⟩
 | assign J=>exact ⟨_,by simp [execOp],gi J⟩
 | @pick c x y _ t r ab ax =>
  have tN:=(gi ab).ie.1
  refine ⟨_,?_,gi ax⟩
  simp [execOp,tN,asBool]
  cases t <;> rfl
 | @De x _ p k J =>
  have ax:=gi J
  obtain ⟨⟨u,ad,h1,al,aO⟩,b4⟩:=ax.nh
  exact ⟨_,by simp [execOp,aO],aO ▸ ax⟩
 | @pk x _ cs J =>
  have ax:=gi J
  obtain ⟨ad,us,aO,_⟩:=ax.vy
  exact ⟨_,by simp [execOp,aO],aO ▸ ax⟩
 | @zs x _ s t f off p k J bl e8 =>
  obtain ⟨⟨u,ad,h1,al,aO⟩,b4⟩:=(gi J).nh
  refine ⟨.pointer (some ⟨ad.block,ad.off+k+off,none⟩),by simp [execOp,aO,Mn bl],.ref rfl ⟨⟨u,ad,h1,al,by rw [Nat.add_assoc]⟩,e8⟩ no⟩
 | @Cu x _ s t f off cs J bl =>
  obtain ⟨ad,us,aO,bt,aN,gO,ab,ax⟩:=(gi J).vy
  obtain ⟨b,o,sp⟩:=ad
  simp only at aN
  subst aN
  refine ⟨.pointer (some ⟨b,o+off,none⟩),by simp [execOp,aO,Mn bl],.bo (us:=λk=>us (off+k)) no bt rfl (λk x hk=>gO _ x (by rwa [List.getElem?_drop] at hk)) (λk x hk=>?_) λk x hk=>?_⟩
  ·rw [List.getElem?_drop] at hk; simpa [Nat.add_assoc] using ab _ x hk
  ·rw [List.getElem?_drop] at hk; exact ax _ x hk
 | @Ct x _ s t f off cs y J bl aD az =>
  obtain ⟨vs,aO,ao,gO,ax⟩:=(gi J).Am no
  obtain ⟨fs,fd,hu,FI,rfl,rfl,i,hi,bb⟩:=EY bl
  have hk:fd.offset<cs.length:=(List.getElem?_eq_some_iff.1 az).1
  have hv:vs[fd.offset]?=some vs[fd.offset]:=Array.getElem?_eq_getElem (ao ▸ hk)
  refine ⟨_,?_,ax _ kd _ az hv⟩
  simp [execOp,aO,Instr.field,run_underlying hu,FI,asAgg,part,(Es (w:=w) aD).1,hv]
 | @EX x _ s t f off k cs J bl aD hk =>
  obtain ⟨vs,aO,ao,gO,ax⟩:=(gi J).Am no
  obtain ⟨fs,fd,hu,FI,rfl,rfl,i,hi,bb⟩:=EY bl
  refine ⟨.agg (vs.extract fd.offset (fd.offset+k)),?_,.agg (Fs:=λ_=>cU) (by simp [ao]; omega) (λae u fN=>by
   rw [Array.getElem?_extract] at fN
   split at fN
   ·exact gO _ u fN
   ·cases fN) (λae y u az fN=>?_) (λ_ _ _ _ _ h=>h.elim) (λc=>⟨λh=>h.elim,λ⟨_,_,h⟩=>h⟩)⟩
  ·simp [execOp,aO,Instr.field,run_underlying hu,FI,asAgg,part,(B2 (w:=w) aD).1,(B2 (w:=w) aD).2]
  ·rw [List.getElem?_take] at az
   split at az
   ·rw [List.getElem?_drop] at az
    rw [Array.getElem?_extract] at fN
    split at fN
    ·exact ax _ y u az fN
    ·cases fN
   ·cases az
 | @C1 x i _ t e z n cs nj ae J hi aD aa =>
  obtain ⟨hu,he,bM⟩:=pB (w:=w) aD
  obtain ⟨kU,cap,aO,_,ao,hm⟩:=(gi J).xG
  obtain ⟨ad,us,rfl,bt,aN,gO,ab,ax⟩:=hm (.inr (by omega))
  obtain ⟨b,o,sp⟩:=ad
  simp only at aN
  subst aN
  have qJ:=(gi hi).ie.1
  refine ⟨.pointer (some ⟨b,o+ae * z,none⟩),?_,.bo (us:=λk=>us (ae * z+k)) no bt rfl (λk x hk=>gO _ x (by rwa [List.getElem?_drop] at hk)) (λk x hk=>?_) λk x hk=>?_⟩
  ·simp [execOp,aO,qJ,Instr.indexAt,run_underlying hu,asIntOf,aa,bM,add_eq]
  ·rw [List.getElem?_drop] at hk; simpa [Nat.add_assoc] using ab _ x hk
  ·rw [List.getElem?_drop] at hk; exact ax _ x hk
 | @C0 x i _ t e z n p nj ae J hi aD aa e8 =>
  obtain ⟨hu,he,bM⟩:=pB (w:=w) aD
  obtain ⟨⟨kU,N,cap,h1,al,aO⟩,b4⟩:=(gi J).mG
  have qJ:=(gi hi).ie.1
  obtain ⟨y,az,hj,h2,cs,eN,bc⟩:=e8
  obtain ⟨v,cM,hv,dT,_⟩:=h.part az (by rcases eN with rfl | rfl <;> simp)
  rw [h1] at hv
  cases hv
  obtain ⟨b,u,fX,lJ,_,_⟩:=dT.node eN (List.getElem?_eq_getElem bc)
  cases kU with
  | none=>simp [addrOf] at fX
  | some ad =>
   simp only [addrOf,Option.some.injEq] at fX
   subst fX
   refine ⟨.pointer (some ⟨b,ae * z,none⟩),?_,.ref rfl ⟨⟨_,_,h1,rfl,by simp⟩,y,az,hj,h2,cs,eN,bc⟩ no⟩
   simp [execOp,al,qJ,Instr.indexAt,run_underlying hu,asIntOf,aa,bM,add_eq]
 | @GD x i _ t e z lo n p nj ae J hi aD aa e8 =>
  obtain ⟨hu,he,bM⟩:=pB (w:=w) aD
  obtain ⟨⟨kU,N,cap,cE,lY,h1,al,_,aO,df⟩,b4⟩:=(gi J).vz
  obtain ⟨ad,rfl,rfl⟩:=df (by omega)
  have qJ:=(gi hi).ie.1
  obtain ⟨y,az,hj,h2,cs,eN,bc⟩:=e8
  obtain ⟨v,cM,hv,dT,_⟩:=h.part az (by rcases eN with rfl | rfl <;> simp)
  rw [h1] at hv
  cases hv
  obtain ⟨b,u,fX,lJ,_,_⟩:=dT.node eN (List.getElem?_eq_getElem bc)
  simp only [addrOf,Option.some.injEq] at fX
  subst fX
  refine ⟨.pointer (some ⟨b,(lo+ae) * z,none⟩),?_,.ref rfl ⟨⟨_,_,h1,rfl,by simp⟩,y,az,hj,h2,cs,eN,bc⟩ no⟩
  simp [execOp,al,qJ,Instr.indexAt,run_underlying hu,asIntOf,aa,bM,add_eq,Nat.add_mul]
 | @GC x i _ t e n z k p nj ae J hi aD aa e8 =>
  obtain ⟨hu,bM⟩:=IH (w:=w) aD
  obtain ⟨⟨u,ad,h1,al,aO⟩,b4⟩:=(gi J).nh
  have qJ:=(gi hi).ie.1
  refine ⟨.pointer (some ⟨ad.block,ad.off+k+ae * z,none⟩),?_,.ref rfl ⟨⟨u,ad,h1,al,by rw [Nat.add_assoc]⟩,e8⟩ no⟩
  simp [execOp,aO,qJ,Instr.indexAt,run_underlying hu,Instr.sureAddr,asIntOf,aa,bM,add_eq]
 | @GB x i _ t e n z cs nj ae J hi aD aa =>
  obtain ⟨hu,bM⟩:=IH (w:=w) aD
  obtain ⟨ad,us,aO,bt,aN,gO,ab,ax⟩:=(gi J).vy
  obtain ⟨b,o,sp⟩:=ad
  simp only at aN
  subst aN
  have qJ:=(gi hi).ie.1
  refine ⟨.pointer (some ⟨b,o+ae * z,none⟩),?_,.bo (us:=λk=>us (ae * z+k)) no bt rfl (λk x hk=>gO _ x (by rwa [List.getElem?_drop] at hk)) (λk x hk=>?_) λk x hk=>?_⟩
  ·simp [execOp,aO,qJ,Instr.indexAt,run_underlying hu,Instr.sureAddr,asIntOf,aa,bM,add_eq]
  ·rw [List.getElem?_drop] at hk; simpa [Nat.add_assoc] using ab _ x hk
  ·rw [List.getElem?_drop] at hk; exact ax _ x hk
 | @C_ x _ t c cs J aD =>
  obtain ⟨ad,us,aO,bt,aN,gO,ab,ax⟩:=(gi J).vy
  obtain ⟨b,o,sp⟩:=ad
  simp only at aN
  subst aN
  have bb:w.cell? ⟨b,o,none⟩=some (us 0):=by simpa using ab 0 kd rfl
  exact ⟨us 0,by simp [execOp,aO,Mp aD bb],ax 0 kd rfl⟩
 | @C' x _ t k cs J aD hk =>
  obtain ⟨ad,us,aO,bt,aN,gO,ab,ax⟩:=(gi J).vy
  obtain ⟨b,o,sp⟩:=ad
  simp only at aN
  subst aN
  have RO:∀ ae v,((List.range k).map us)[ae]?=some v->w.cell? ⟨b,o+ae,none⟩=some v:=by
   intro ae v aa
   rw [List.getElem?_map] at aa
   by_cases eV:ae<k
   ·rw [List.getElem?_range eV] at aa
    simp only [Option.map_some,Option.some.injEq] at aa
    rw [<- aa]
    exact ab ae _ (List.getElem?_eq_getElem (by omega))
   ·rw [List.getElem?_eq_none (by simp; omega)] at aa; cases aa
  refine ⟨.agg ((List.range k).map us).toArray,by simp [execOp,aO,Mo aD (by simp) RO],.agg (Fs:=λ_=>cU) (by simp; omega) (λae u fN=>by
   simp only [List.getElem?_toArray,List.getElem?_map] at fN
   by_cases eV:ae<k
   ·rw [List.getElem?_range eV] at fN
    simp only [Option.map_some,Option.some.injEq] at fN
    rw [<- fN]
    exact gO ae _ (List.getElem?_eq_getElem (by omega))
   ·rw [List.getElem?_eq_none (by simp; omega)] at fN; cases fN) (λae y u az fN=>?_) (λ_ _ _ _ _ h=>h.elim) (λc=>⟨λh=>h.elim,λ⟨_,_,h⟩=>h⟩)⟩
  rw [List.getElem?_take] at az
  split at az
  ·rename_i eV
   simp [eV] at fN
   rw [<- fN]
   exact ax ae y az
  ·cases az
 | @Az x _ t p k y J aD az =>
  obtain ⟨⟨u,ad,h1,al,aO⟩,b4⟩:=(gi J).nh
  rw [r_] at az
  cases aL:b7 g p with
  | none=>rw [aL] at az; cases az
  | some nd =>
   rw [aL] at az
   simp only [Option.bind_some] at az
   obtain ⟨y',mF,hj,h2,cs,eN,bc⟩:=b4
   rw [aL] at mF
   cases mF
   obtain ⟨v,cM,hv,dT,dC⟩:=h.part aL (by rcases eN with rfl | rfl <;> simp)
   rw [h1] at hv
   cases hv
   have ix:cs[k]?=some y:=by rcases eN with rfl | rfl <;> simpa [ag.kids] using az
   obtain ⟨b,gB,fX,lJ,l4,gO,bS,jZ⟩:=dT.node eN ix
   rw [fX] at al
   cases al
   refine ⟨gB,by simp only [execOp,aO]; simp [Mp aD lJ],Dv 0 (by rw [r_,aL]; exact az) (by rw [wy,h1]; exact l4) jZ⟩
 | @xJ x _ t p k m z n y cs J aD az eN hm =>
  obtain ⟨⟨u,ad,h1,al,aO⟩,b4⟩:=(gi J).nh
  obtain ⟨v,cM,hv,dT,dC⟩:=h.part az (by rcases eN with rfl | rfl <;> simp)
  rw [h1] at hv
  cases hv
  have tK:∃ b,ad=⟨b,0,none⟩:=by
   obtain ⟨y',mF,hj,h2,cs',Lu,bc⟩:=b4
   rw [az] at mF
   cases mF
   have:cs'=cs:=by rcases eN with rfl | rfl <;> rcases Lu with b9 | b9 <;> cases b9 <;> rfl
   subst this
   obtain ⟨b,gB,fX,_⟩:=dT.node Lu (List.getElem?_eq_getElem bc)
   rw [fX] at al
   exact ⟨b,(Option.some.inj al).symm⟩
  obtain ⟨b,rfl⟩:=tK
  have FT:y.kids=cs:=by rcases eN with rfl | rfl <;> rfl
  have cell:∀ ae,ae<m->∃ gB,w.cell? ⟨b,k+ae,none⟩=some gB/\gB.oneCell'=true/\∃ kt,cs[k+ae]?=some kt/\R w I (eg w T g) (ih 0 (p.push (k+ae)) kt) gB cU:=by
   intro ae aa
   have f_:cs[k+ae]?=some cs[k+ae]:=List.getElem?_eq_getElem (by omega)
   obtain ⟨hJ,gB,fX,lJ,l4,gO,bS,jZ⟩:=dT.node eN f_
   rw [al] at fX
   cases fX
   exact ⟨gB,lJ,gO,_,f_,Dv 0 (by rw [r_,az]; simp [FT]) (by rw [wy,h1]; exact l4) jZ⟩
  have hex:∃ us:List Value,us.length=m/\∀ ae v,us[ae]?=some v->w.cell? ⟨b,k+ae,none⟩=some v:=by
   refine ⟨(List.range m).map λae=>(w.cell? ⟨b,k+ae,none⟩).getD undef,by simp,?_⟩
   intro ae v aa
   rw [List.getElem?_map] at aa
   by_cases xr:ae<m
   ·rw [List.getElem?_range xr] at aa
    simp only [Option.map_some,Option.some.injEq] at aa
    obtain ⟨gB,ab,_⟩:=cell ae xr
    rw [ab] at aa
    simp only [Option.getD_some] at aa
    rw [ab,aa]
   ·rw [List.getElem?_eq_none (by simp; omega)] at aa; cases aa
  obtain ⟨us,qO,Gf⟩:=hex
  refine ⟨.agg us.toArray,by simp only [execOp,aO]; simp [Mo aD qO (b:=b) (o:=k) Gf],.agg (Fs:=λ_=>cU) (by simp; omega) (λae u fN=>by
   have aa:=Gf ae u (by simpa using fN)
   have xr:ae<m:=by rw [<- qO]; exact (List.getElem?_eq_some_iff.1 (by simpa using fN:us[ae]?=some u)).1
   obtain ⟨gB,ab,zx,_⟩:=cell ae xr
   rw [ab] at aa; cases aa; exact zx) (λae ku u ng fN=>?_) (λ_ _ _ _ _ h=>h.elim) (λc=>⟨λh=>h.elim,λ⟨_,_,h⟩=>h⟩)⟩
  rw [List.getElem?_mapIdx,List.getElem?_take] at ng
  split at ng
  ·rename_i xr
   rw [List.getElem?_drop] at ng
   obtain ⟨gB,ab,_,kt,SP,bf⟩:=cell ae xr
   rw [SP] at ng
   simp only [Option.map_some,Option.some.injEq] at ng
   subst ng
   have:=Gf ae u (by simpa using fN)
   rw [ab] at this
   cases this
   exact bf
  ·cases ng
 | @Cg x _ s d n N p cs xs J aG aL hy aD =>
  obtain ⟨e,aN,he,aV⟩:=I1 aD
  obtain ⟨⟨kU,i_,cap,h1,al,aO⟩,_⟩:=(gi J).mG
  obtain ⟨v,cM,hv,dT,dC⟩:=h.part aG (by simp)
  rw [h1] at hv
  cases hv
  have hx:(cs.take n).length=n:=by
   obtain ⟨_,_,_,ao⟩:=dT.mL
   rw [List.length_take]; omega
  have hlen:xs.length=n:=by rw [<- hx,hy,List.length_map]
  refine ⟨_,?_,.lit rfl no⟩
  obtain ⟨_,_,j4,_,_,pZ,rK⟩:=dT.mL
  cases j4
  cases kU with
  | none =>
   have bb:n=0:=by
    rcases Nat.eq_zero_or_pos N with h | h
    ·omega
    ·exact absurd (rK h) (by simp)
   have:xs=[]:=List.eq_nil_of_length_eq_zero (hlen.trans bb)
   subst this
   have ax:=run_convert_bytes_nil (P:=P) (w:=w) s e aN he n cap d aV
   simp [execOp,al,ax]
   rfl
  | some ad =>
   obtain ⟨b,o,sp⟩:=ad
   obtain ⟨rfl,rfl⟩:=pZ _ rfl
   have ax:=run_convert_bytes_arg (P:=P) w s e aN he b 0 n cap xs hlen (λi hi=>by
    have zR:(cs.take n)[i]?=some (.lit (.int .u8 (xs.getD i 0))):=by
     rw [hy,List.getElem?_map,List.getElem?_eq_getElem (by omega)]
     simp [List.getD,List.getElem?_eq_getElem (show i<xs.length by omega)]
    have Rm:cs[i]?=some (.lit (.int .u8 (xs.getD i 0))):=by
     rw [List.getElem?_take] at zR
     simpa [hi] using zR
    obtain ⟨hJ,u,fX,lJ,_,_,bS,jZ⟩:=dT.node (.inl rfl) Rm
    simp only [addrOf,Option.some.injEq,Addr.mk.injEq,and_true] at fX
    subst fX
    rw [Nat.zero_add,lJ,jZ.ie.1]) d aV
   simp [execOp,al,ax]
 | @Ch x _ s d n xs J aD =>
  obtain ⟨e,aN,he,aV⟩:=I1 aD
  have bf:=gi J
  generalize pY:a.eval x=v at bf
  refine ⟨_,?_,.lit rfl no⟩
  generalize hy:(xs.map λb=>ag.lit (.int .u8 b))=cs at bf
  cases bf with
  | ref J=>simp [ag.isRef] at J
  | @hQ _ cap kU _ aR =>
   have:xs=[]:=by simpa using hy
   subst this
   cases kU with
   | none =>
    have ax:=run_convert_bytes_nil (P:=P) (w:=w) s e aN he 0 cap d aV
    simp [execOp,pY,ax]
    rfl
   | some ad =>
    have ao:(loadCells ad 0).run P w=.ok (([]:List Int).map (Value.int .u8)).toArray w:=by
     have:=run_loadCells_list (P:=P) w ad [] (λae v aa=>by simp at aa)
     simpa using this
    have ax:=run_bytesToString w ad 0 cap [] ao
    have ab:=run_convert_bytes_string (P:=P) w s d e (some ad) 0 cap aN he aV
    rw [ax] at ab
    simp [execOp,pY,ab]
    rfl
  | @aE _ _ cap _ ad us _ aR k3 bt xA ao h1 ab ax =>
   obtain ⟨b,o,sp⟩:=ad
   simp only at xA
   subst xA
   have hlen:xs.length=n:=by rw [<- List.length_map (f:=λb=>ag.lit (.int .u8 b)),hy,ao,Nat.mul_one]
   have eY:=run_convert_bytes_arg (P:=P) w s e aN he b o n cap xs hlen (λi hi=>by
    have zR:cs[i]?=some (.lit (.int .u8 (xs.getD i 0))):=by
     rw [<- hy,List.getElem?_map,List.getElem?_eq_getElem (by omega)]
     simp [List.getD,List.getElem?_eq_getElem (show i<xs.length by omega)]
    have:=ab i _ zR
    simp only at this
    rw [this,(ax i _ zR).ie.1]) d aV
   simp [execOp,pY,eY]
 | @EO xs iz _ f vs v J hv ax =>
  refine ⟨v,?_,.lit hv no⟩
  have CV:xs.map a.eval=vs.toArray:=by
   apply Array.toList_inj.1
   apply List.ext_getElem?
   intro k
   have:=congrArg (·[k]?) J
   simp only [List.getElem?_map] at this
   rw [Array.toList_map,List.getElem?_map]
   cases hk:xs.toList[k]? with
   | none =>
    rw [hk] at this
    cases hv:vs[k]? with
    | none=>simp
    | some v=>rw [hv] at this; cases this
   | some o =>
    rw [hk] at this
    cases hv:vs[k]? with
    | none=>rw [hv] at this; cases this
    | some v =>
     rw [hv] at this
     simp only [Option.map_some,Option.some.injEq] at this ⊢
     rw [(gi this).ie.1]
  have bl:a.eval (.func f)=.func (.func f) #[] #[]:=rfl
  simp [execOp,resolve,Deferred.ofValue,invoke,bl,CV,ax]
 | @C2 x i _ t s nj ae b J hi aD aH =>
  have sJ:=(gi J).ie.1
  have qJ:=(gi hi).ie.1
  refine ⟨.int .u8 b.toNat,?_,.lit rfl no⟩
  simp [execOp,sJ,qJ,Instr.index,run_underlying (HM aD),asIntOf,aH]
 | @bin op x y _ t t2 cE b v J az hv ax =>
  have h1:=(gi J).ie.1
  have al:=(gi az).ie.1
  refine ⟨v,?_,.lit hv no⟩
  simp only [execOp,h1,al,Sem.run_bind (x:=do eqGuard op t x y cE b; binOp op t cE b),ax,Result.andThen_ok,Sem.run_pure]
 | @yS op x y _ t t2 dO dz v J az hv ax =>
  have h1:=Iu ((gi J).Am no)
  have al:=Iu ((gi az).Am no)
  refine ⟨v,?_,.lit hv no⟩
  simp only [execOp,h1,al,Sem.run_bind (x:=do eqGuard op t x y (.agg dO.toArray) (.agg dz.toArray); binOp op t (.agg dO.toArray) (.agg dz.toArray)),ax,Result.andThen_ok,Sem.run_pure]
 | @un op x _ t cE v J hv ax =>
  have h1:=(gi J).ie.1
  exact ⟨v,by simp [execOp,h1,ax],.lit hv no⟩
 | @conv x _ s d cE v J hv ax =>
  have h1:=(gi J).ie.1
  exact ⟨v,by simp [execOp,h1,ax],.lit hv no⟩
 | @Cl x _ i cs y J az =>
  obtain ⟨vs,aO,ao,ax⟩:=(gi J).S6 no
  have hk:i<cs.length:=(List.getElem?_eq_some_iff.1 az).1
  have hv:vs[i]?=some vs[i]:=Array.getElem?_eq_getElem (ao ▸ hk)
  exact ⟨_,by simp [execOp,aO,Instr.extract,hv],ax _ kd _ az hv⟩
 | @Bs x lo hi _ t e z n l b9 cs J ao tR aD rI aL =>
  obtain ⟨hu,he,bM⟩:=pB (w:=w) aD
  obtain ⟨kU,cap,aO,k3,hlen,hm⟩:=(gi J).xG
  have aH:=Dy (P:=P) (w:=w) (len:=n) (cap:=cap) (ao.sound h bj) (tR.sound h bj) true rI (by omega)
  have hW:(execOp a.eval { dst:=dst,op:=.slice t x lo hi none,type:=ty,pos:=pos,after:=after,guard:=guard }).run P w=.ok (.value (sliced kU l b9 cap z)) w:=by
   simp [execOp,aO,Instr.sliceAt,run_underlying hu,Instr.slice,aH,bM,sliced]
  refine ⟨_,hW,?_⟩
  by_cases bb:b9 - l=0
  ·rw [bb]
   simp only [Nat.zero_mul,List.take_zero,sliced,bb]
   exact .hQ no
  ·obtain ⟨ad,us,rfl,bt,aN,gO,ab,ax⟩:=hm (.inr (by omega))
   obtain ⟨b,o,sp⟩:=ad
   simp only at aN
   subst aN
   have hx:cap≠l:=by omega
   simp only [sliced,hx,if_false,Option.map_some,add_eq]
   have zU:((cs.drop (l * z)).take ((b9 - l) * z)).length=(b9 - l) * z:=by
    rw [List.length_take,List.length_drop,hlen]
    have:(b9 - l) * z+l * z<=n * z:=by rw [<- Nat.add_mul]; exact Nat.mul_le_mul_right _ (by omega)
    omega
   refine .aE (us:=λk=>us (l * z+k)) no (by omega) bt rfl zU (λk x hk=>gO (l * z+k) x (by
    rw [List.getElem?_take] at hk
    split at hk
    ·rwa [List.getElem?_drop] at hk
    ·cases hk)) (λk x hk=>?_) λk x hk=>?_
   ·rw [List.getElem?_take] at hk
    split at hk
    ·rw [List.getElem?_drop] at hk; simpa [Nat.add_assoc] using ab _ x hk
    ·cases hk
   ·rw [List.getElem?_take] at hk
    split at hk
    ·rw [List.getElem?_drop] at hk; exact ax _ x hk
    ·cases hk
 | @HK x lo hi _ t e z n b9 p J ao tR aD aL e8 =>
  obtain ⟨hu,he,bM⟩:=pB (w:=w) aD
  obtain ⟨⟨kU,N,cap,h1,al,aO⟩,b4⟩:=(gi J).mG
  have k3:N<=cap:=by
   rcases b4 with ⟨i_,cs,df,eL⟩ | ⟨bb,q,gY,m,new,df,eL⟩
   ·obtain ⟨v,cM,hv,dT,_⟩:=h.part df (by simp)
    rw [h1] at hv
    obtain ⟨_,qx,FK,hle,_⟩:=dT.mL
    rw [FK] at hv
    cases hv
    exact hle
   ·obtain ⟨v,hv,dT⟩:=h.rel _ _ df
    simp only [ed,hv,bb,walk,Option.some.injEq] at h1
    subst h1
    obtain ⟨bv,cW,c3,us,news,dT⟩:=dT.uf
    obtain ⟨_,mx⟩:=dT.mx
    rcases mx with ⟨b9,bb⟩ | ⟨b,c2,cur,b9,_,_,hle,_⟩
    ·cases b9; exact Nat.le_refl _
    ·cases b9; exact hle
  have aH:=Dy (P:=P) (w:=w) (len:=n) (cap:=cap) (ao.sound h bj) (tR.sound h bj) true (Nat.zero_le _) (by omega)
  refine ⟨.slice kU b9 cap,?_,.ref rfl ⟨⟨kU,N,cap,h1,rfl,by omega⟩,e8⟩ no⟩
  simp [execOp,al,Instr.sliceAt,run_underlying hu,Instr.slice,aH,bM]
  cases kU with
  | none=>simp
  | some ad=>simp [Addr.add]
 | @DC x lo hi _ t e z n l b9 p J ao tR aD rI aL e8 =>
  obtain ⟨hu,he,bM⟩:=pB (w:=w) aD
  obtain ⟨⟨kU,N,cap,h1,al,aO⟩,b4⟩:=(gi J).mG
  obtain ⟨i_,cs,df,eL⟩:=e8
  obtain ⟨v,cM,hv,dT,_⟩:=h.part df (by simp)
  rw [h1] at hv
  obtain ⟨a2,qx,FK,hle,hlen,pZ,rK⟩:=dT.mL
  rw [FK] at hv
  cases hv
  have aH:=Dy (P:=P) (w:=w) (len:=n) (cap:=cap) (ao.sound h bj) (tR.sound h bj) true rI (by omega)
  refine ⟨sliced kU l b9 cap z,?_,.ref rfl ⟨⟨kU,_,cap,_,_,h1,rfl,by omega,by omega,λsG=>?_⟩,_,cs,df,eL⟩ no⟩
  ·simp [execOp,al,Instr.sliceAt,run_underlying hu,Instr.slice,aH,bM,sliced]
  ·have aN:=rK (by omega)
   cases kU with
   | none=>simp at aN
   | some ad =>
    obtain ⟨bb,kl⟩:=pZ ad rfl
    obtain ⟨b,o,sp⟩:=ad
    simp only at bb kl
    subst bb kl
    exact ⟨_,rfl,by rw [if_neg (by omega)]; simp [add_eq]⟩
 | @DD x lo hi _ t l b9 s J ao tR aD rI aL =>
  have sJ:=(gi J).ie.1
  have aH:=Dy (P:=P) (w:=w) (len:=s.size) (cap:=s.size) (ao.sound h bj) (tR.sound h bj) false rI aL
  exact ⟨.string (s.extract l b9),by simp [execOp,sJ,Instr.sliceAt,run_underlying (HM aD),Instr.slice,aH],.lit rfl no⟩
 | @Ax x _ t e z cJ n cs J aD =>
  obtain ⟨hu,he,bM⟩:=pB (w:=w) aD
  obtain ⟨kU,cap,aO,_⟩:=(gi J).xG
  exact ⟨_,by simp [execOp,resolve,invoke,builtin,aO,Builtin.len_,run_underlying hu,goInt],.lit rfl no⟩
 | @Aw x _ t e z cJ n p J aD =>
  obtain ⟨hu,he,bM⟩:=pB (w:=w) aD
  obtain ⟨⟨kU,N,cap,h1,al,aO⟩,b4⟩:=(gi J).mG
  exact ⟨_,by simp [execOp,resolve,invoke,builtin,al,Builtin.len_,run_underlying hu,goInt],.lit rfl no⟩
 | @G6 x _ t e z cJ lo n p J aD =>
  obtain ⟨hu,he,bM⟩:=pB (w:=w) aD
  obtain ⟨⟨kU,N,cap,cE,lY,h1,al,_,aO,df⟩,b4⟩:=(gi J).vz
  exact ⟨_,by simp [execOp,resolve,invoke,builtin,al,Builtin.len_,run_underlying hu,goInt],.lit rfl no⟩
 | @G3 x _ t e cJ J aD =>
  obtain ⟨hu,he,bM⟩:=pB (w:=w) aD
  have al:=(gi J).qY
  exact ⟨_,by simp [execOp,resolve,invoke,builtin,al,Builtin.len_,run_underlying hu,goInt],.lit rfl no⟩
 | @lits b xs iz _ vs v J hv ax =>
  have nV:xs.map a.eval=vs.toArray:=by
   apply Array.ext'
   rw [Array.toList_map]
   exact LJ h bj xs.toList vs J
  refine ⟨v,?_,.lit hv no⟩
  simp [execOp,resolve,invoke,nV,ax]
 | @C9 x y _ t p q ok Y _ nF V J aG az et bf ax =>
  obtain ⟨⟨b,aH,hv⟩,_⟩:=(gi J).Lz
  obtain ⟨hF,cM,iy,dT,_⟩:=h.part aG (by simp)
  rw [aH] at iy
  cases iy
  obtain ⟨hJ,es,clock,e,bd,bO,_⟩:=dT.GG
  cases e
  refine ⟨V,?_,bf _ _ _⟩
  simp [execOp,hv,et _ _ _ _ (gi az),ax w _ _ _ bd bO]
 | @Ay x y _ t q ok Y _ nF V J az et bf ax =>
  obtain ⟨b,es,clock,hv,bd,bO⟩:=(gi J).S5
  refine ⟨V,?_,bf _ _ _⟩
  simp [execOp,hv,et _ _ _ _ (gi az),ax w _ _ _ bd bO]
end
end Go.Own
namespace Go.Own
open Go
structure Fr (w w':World) (U:br):Prop where
 os:w'.os=w.os
 tape:w'.tape=w.tape
 output:w'.output=w.output
 size:w.heap.size<=w'.heap.size
 block:∀ b,b<w.heap.size->¬ U b->w'.heap[b]?=w.heap[b]?
 e7:∀ a,a.block<w.heap.size->w'.frozen? a=w.frozen? a
 xf:w.drawn<=w'.drawn
theorem Fr.refl (w:World) (U:br):Fr w w U:=⟨rfl,rfl,rfl,Nat.le_refl _,λ_ _ _=>rfl,λ_ _=>rfl,Nat.le_refl _⟩
theorem Fr.mono {w w':World}{U B0:br}(h:Fr w w' U) (gG:∀ b,b<w.heap.size->U b->B0 b):Fr w w' B0:=⟨h.os,h.tape,h.output,h.size,λb aH aL=>h.block b aH λhu=>aL (gG b aH hu),h.e7,h.xf⟩
theorem Fr.trans {w jx ik:World}{U wX:br}(h:Fr w jx U) (h1:Fr jx ik wX) (gG:∀ b,b<w.heap.size->wX b->U b):Fr w ik U :=
 ⟨h1.os.trans h.os,h1.tape.trans h.tape,h1.output.trans h.output,Nat.le_trans h.size h1.size,λb aH aL=>(h1.block b (Nat.lt_of_lt_of_le aH h.size) λhu=>aL (gG b aH hu)).trans (h.block b aH aL),λa bj=>(h1.e7 a (Nat.lt_of_lt_of_le bj h.size)).trans (h.e7 a bj),Nat.le_trans h.xf h1.xf⟩
theorem rl (w:World) (o:Obj) (k:Nat) (h:k<w.heap.size):(w.alloc o).heap[k]?=w.heap[k]?:=by
 show (w.heap.push o)[k]?=_
 rw [Array.getElem?_push,if_neg (by omega)]
theorem r8 (w:World) (o:Obj):(w.alloc o).heap[w.heap.size]?=some o:=by
 show (w.heap.push o)[w.heap.size]?=_
 simp
theorem EZ (w:World) (arr:Array Value) (t:TypeId) (a:Addr):(w.alloc (.cells arr t (0,0))).frozen? a=w.frozen? a:=by
 unfold World.frozen?
 by_cases h:a.block=w.heap.size
 ·rw [h,r8]
  have:w.heap[w.heap.size]?=none:=by simp
  rw [this]
  simp
 ·by_cases al:a.block<w.heap.size
  ·rw [rl w _ _ al]
  ·have aO:(w.alloc (.cells arr t (0,0))).heap[a.block]?=none:=by
    show (w.heap.push _)[a.block]?=_
    rw [Array.getElem?_eq_none]
    simp; omega
   have b4:w.heap[a.block]?=none:=Array.getElem?_eq_none (by omega)
   rw [aO,b4]
theorem E1 (w:World) (g:Nat) (cs:Array Value) (a:Addr):(w.setRow g cs).frozen? a=w.frozen? a:=by
 unfold World.frozen? World.setRow
 simp only [Array.getElem?_modify]
 by_cases h:g=a.block
 ·subst h
  rw [if_pos rfl]
  cases b9:w.heap[a.block]? with
  | none=>rfl
  | some o=>cases o <;> rfl
 ·rw [if_neg h]
theorem PY (w:World) (es:Array MapEntry) (n:Nat) (a:Addr):(w.alloc (.map es n)).frozen? a=w.frozen? a:=by
 unfold World.frozen?
 by_cases h:a.block=w.heap.size
 ·rw [h,r8]
  have:w.heap[w.heap.size]?=none:=by simp
  rw [this]
 ·by_cases al:a.block<w.heap.size
  ·rw [rl w _ _ al]
  ·have aO:(w.alloc (.map es n)).heap[a.block]?=none:=by
    show (w.heap.push _)[a.block]?=_
    rw [Array.getElem?_eq_none]
    simp; omega
   have b4:w.heap[a.block]?=none:=Array.getElem?_eq_none (by omega)
   rw [aO,b4]
def Ma (o:Obj):Prop:=(∃ arr e,o=.cells arr e (0,0))\/∃ es n,o=.map es n
theorem Fr.alloc (w:World) (o:Obj) (U:br) (bd:Ma o):Fr w (w.alloc o) U:=by
 refine ⟨rfl,rfl,rfl,by simp,λb aH _=>rl w o b aH,λa _=>?_,Nat.le_refl _⟩
 rcases bd with ⟨arr,e,rfl⟩ | ⟨es,n,rfl⟩
 ·exact EZ w arr e a
 ·exact PY w es n a
theorem R.TG {w:World}{I:br}{ρ:ag->Value->Prop}{x:ag}{v:Value}{F:br}(h:R w I ρ x v F):∀ c,F c->∃ o,w.heap[c]?=some o/\Ma o:=by
 induction h with
 | mp bd _ aR =>
  intro c ab
  cases (aR c).1 ab
  exact ⟨_,bd,.inr ⟨_,_,rfl⟩⟩
 | lit _ aR | aK aR | dead aR | ref _ _ aR | hQ aR | aE aR | bo aR | er aR | imp aR=>exact λc ab=>absurd ab (aR c)
 | own bd ao h1 ax aV aH aR aS =>
  intro c ab
  rcases (aR c).1 ab with h | ⟨k,hk,h⟩
  ·obtain ⟨_,b9⟩:=bd
   rcases b9 with ⟨rfl,_⟩ | ⟨b,cap,cur,rfl,_,fP,_⟩
   ·simp [Value.ownBlock] at h
   ·simp only [Value.ownBlock,Option.some.injEq] at h
    subst h
    exact ⟨_,fP,.inl ⟨_,_,rfl⟩⟩
  ·exact aS k _ _ (List.getElem?_eq_getElem hk) (List.getElem?_eq_getElem (ao ▸ hk)) c h
 | obj bd ao h1 ax aV aH aR aS =>
  intro c ab
  rcases (aR c).1 ab with rfl | ⟨k,hk,h⟩
  ·exact ⟨_,bd,.inl ⟨_,_,rfl⟩⟩
  ·exact aS k _ _ (List.getElem?_eq_getElem hk) (Array.getElem?_eq_getElem (ao ▸ hk)) c h
 | agg ao h1 ax aV aR aS =>
  intro c ab
  obtain ⟨k,hk,h⟩:=(aR c).1 ab
  exact aS k _ _ (List.getElem?_eq_getElem hk) (Array.getElem?_eq_getElem (ao ▸ hk)) c h
 | cB ao ax aV aR aS =>
  intro c ab
  obtain ⟨k,hk,h⟩:=(aR c).1 ab
  exact aS k _ _ (List.getElem?_eq_getElem hk) (Array.getElem?_eq_getElem (ao ▸ hk)) c h
theorem Fr.drew {w w':World}{U:br}(h:Fr w w' U):Fr w w'.drew U:=⟨h.os,h.tape,h.output,h.size,h.block,h.e7,Nat.le_succ_of_le h.xf⟩
section
variable {w:World}{I:br}{T:Array Value}{g:aY}{Fs:Nat->br}
theorem cY.jQ (h:cY w I T g Fs):∀ t c,Fs t c->c<w.heap.size:=by
 intro t c ab
 cases J:g t with
 | none=>exact absurd ab (h.kI t J c)
 | some y=>obtain ⟨u,_,dT⟩:=h.rel t y J; exact dT.lt c ab
theorem cY.world (h:cY w I T g Fs) {w':World}(aR:∀ t c,Fs t c->w'.heap[c]?=w.heap[c]?) (bt:∀ c,I c->w'.heap[c]?=w.heap[c]?) (gp:w.heap.size<=w'.heap.size):cY w' I T g Fs :=
  ⟨λt x J=>by
    obtain ⟨v,hv,bf⟩:=h.rel t x J
    exact ⟨v,hv,h.u_ (λ_ _=>rfl) aR bt (λ_ h=>h) (λ_ _ h=>h) bf λc ab=>aR t c ab⟩,
   h.kI,h.e5,h.aE,λc ab=>Nat.lt_of_lt_of_le (h.lt c ab) gp,h.p_⟩
theorem cY.alloc (h:cY w I T g Fs) (o:Obj):cY (w.alloc o) I T g Fs :=
 h.world (λt c ab=>rl w o c (h.jQ t c ab)) (λc ab=>rl w o c (h.lt c ab)) (by simp)
theorem cY.sW (h:cY w I T g Fs) {d:Nat}{x:ag}{v:Value}{F:br}(aV:g d=none) (Rs:d<T.size)
  (bf:jD w I (eg w T g) x v F) (qL:∀ t c,F c->¬ Fs t c) (RT:∀ c,F c->¬ I c)
  (aG:∀ z p n m new,x=.bX z p n m new->∀ t cJ cX m' dj,g t≠some (.bX cJ p cX m' dj)) :
  cY w I (T.setIfInBounds d v) (e9 g d x) (s_ Fs d F):=by
 have fM:∀ t,g t≠none->(T.setIfInBounds d v)[t]?=T[t]?:=by
  intro t aD
  rw [Array.getElem?_setIfInBounds_ne]
  rintro rfl; exact aD aV
 refine ⟨?_,?_,?_,?_,h.lt,?_⟩
 ·intro t y az
  unfold e9 at az
  split at az
  ·rename_i sK
   subst sK
   cases az
   exact ⟨v,by simp [Rs],by simpa [s_] using h.u_ fM (λ_ _ _=>rfl) (λ_ _=>rfl) (λ_ h=>h) (MY aV) bf λ_ _=>rfl⟩
  ·rename_i sK
   obtain ⟨u,hu,dT⟩:=h.rel t y az
   exact ⟨u,by rw [fM t (by rw [az]; simp)]; exact hu,by simpa [s_,sK] using h.u_ fM (λ_ _ _=>rfl) (λ_ _=>rfl) (λ_ h=>h) (MY aV) dT λ_ _=>rfl⟩
 ·intro t aD c
  unfold e9 at aD
  split at aD
  ·cases aD
  ·rename_i sK; simpa [s_,sK] using h.kI t aD c
 ·intro t dn c ab fu
  by_cases h1:t=d <;> by_cases al:dn=d <;> simp [s_,h1,al] at ab fu
  ·rw [h1,al]
  ·exact absurd fu (qL dn c ab)
  ·exact absurd ab (qL t c fu)
  ·exact h.e5 t dn c ab fu
 ·intro t c ab hi
  by_cases h1:t=d <;> simp [s_,h1] at ab
  ·exact RT c ab hi
  ·exact h.aE t c ab hi
 ·intro t dn z p n m new cJ cX m' dj h1 al
  unfold e9 at h1 al
  split at h1 <;> split at al
  ·rename_i a b; rw [a,b]
  ·cases h1; exact absurd al (aG z p n m new rfl dn cJ cX m' dj)
  ·cases al; exact absurd h1 (aG cJ p cX m' dj rfl t z n m new)
  ·exact h.p_ _ _ _ _ _ _ _ _ _ _ _ h1 al
end
def lX:ag->Option (List ag)
 | .agg cs=>some cs
 | .lit v=>some [.lit v]
 | .aK=>some [.aK]
 | .aE z n cs=>some [.aE z n cs]
 | .bo cs=>some [.bo cs]
 | .ptr p k=>some [.ptr p k]
 | .bn z p n=>some [.bn z p n]
 | .sub z p l n=>some [.sub z p l n]
 | .er f a b=>some [.er f a b]
 | _=>none
theorem R.lX {w:World}{I:br}{ρ:ag->Value->Prop}{y:ag}{v:Value}{F:br}(h:R w I ρ y v F) (aR:∀ c,¬ F c) (lu:∀ x v,x.isRef=true->ρ x v->v.oneCell'=true) {cs:List ag}(ab:lX y=some cs) :
  cs.length=v.cells.size/\(∀ (k:Nat) (u:Value),v.cells[k]?=some u->u.oneCell'=true)/\(∀ (k:Nat) (x:ag) (u:Value),cs[k]?=some x->v.cells[k]?=some u->R w I ρ x u cU):=by
 have one:∀ {y:ag},R w I ρ y v F->v.oneCell'=true->[y].length=v.cells.size/\(∀ (k:Nat) (u:Value),v.cells[k]?=some u->u.oneCell'=true)/\(∀ (k:Nat) (x:ag) (u:Value),[y][k]?=some x->v.cells[k]?=some u->R w I ρ x u cU):=by
  intro y h h1
  have xp:v.cells=#[v]:=by cases v <;> first | rfl | (simp [Value.oneCell'] at h1)
  refine ⟨by simp [xp],λk u hu=>?_,λk x u J hu=>?_⟩
  ·rw [xp] at hu
   cases k with
   | zero=>simp at hu; subst hu; exact h1
   | succ k=>simp at hu
  rw [xp] at hu
  cases k with
  | zero=>simp at J hu; subst J hu; exact h.empty aR
  | succ k=>simp at J
 cases y <;> simp only [Go.Own.lX,Option.some.injEq,reduceCtorEq] at ab
 case agg l =>
  subst ab
  obtain ⟨vs,rfl,ao,h1,ax⟩:=h.Am aR
  exact ⟨ao,h1,ax⟩
 case lit a=>subst ab; exact one h (by obtain ⟨rfl,h1⟩:=h.ie; exact h1)
 case aK=>subst ab; exact one h (by rw [h.qY]; rfl)
 case aE z n l=>subst ab; exact one h (by obtain ⟨a,cap,rfl,_⟩:=h.xG; rfl)
 case bo l=>subst ab; exact one h (by obtain ⟨ad,us,rfl,_⟩:=h.vy; rfl)
 case ptr p k=>subst ab; exact one h (lu _ _ rfl h.nh)
 case bn z p n=>subst ab; exact one h (lu _ _ rfl h.mG)
 case sub z p l n=>subst ab; exact one h (lu _ _ rfl h.vz)
 case er f a b =>
  subst ab
  refine one h ?_
  cases h with
  | er=>rfl
  | ref J=>simp [ag.isRef] at J
theorem eg.Di {w:World}{T:Array Value}{g:aY}{x:ag}{v:Value}(J:x.isRef=true) (h:eg w T g x v):v.oneCell'=true:=by
 obtain ⟨h,_⟩:=h
 cases x <;> simp [ag.isRef] at J
 case ptr p k=>obtain ⟨_,_,_,_,rfl⟩:=h; rfl
 case bn z p n=>obtain ⟨_,_,_,_,rfl,_⟩:=h; rfl
 case sub z p lo n=>obtain ⟨_,_,_,_,_,_,rfl,_⟩:=h; rfl
 case hD p=>obtain ⟨_,_,rfl⟩:=h; rfl
def o3:List ag->Option (List ag)
 | []=>some []
 | y::ys =>
  match lX y,o3 ys with
  | some a,some b=>some (a++b)
  | _,_=>none
def iI (g:aY):List Operand->Option (List ag)
 | []=>some []
 | x::xs =>
  match bP g x,iI g xs with
  | some y,some ys=>some (y::ys)
  | _,_=>none
def xl (place:Nat->Option (Nat × Nat)) (cells:List ag):List (Nat × List ag)->Option (List ag)
 | []=>some cells
 | (i,c)::rest =>
  match place i with
  | none=>none
  | some (off,size)=>if c.length=size/\off+c.length<=cells.length then xl place (cells.take off++c++cells.drop (off+c.length)) rest else none
def q3 (g:aY):List (Nat × Operand)->Option (List (Nat × List ag))
 | []=>some []
 | (i,x)::xs =>
  match bP g x,q3 g xs with
  | some y,some ys=>(lX y).map λc=>(i,c)::ys
  | _,_=>none
def jT (P:Program) (t:TypeId) (pl:List (Nat × Nat)):Bool :=
 match P.underlying t with
 | some (.struct fs)=>fs.toList.map (λf=>(f.offset,(P.info? f.type).map (·.size))) == pl.map λ(a,b)=>(a,some b)
 | _=>false
inductive oV (P:Program) (g:aY):Op->TypeId->ag->Prop
 | box {e ty:TypeId}{x:Operand}{y:ag}{cs:List ag}(J:bP g x=some y) (ab:lX y=some cs):oV P g (.box e x) ty (.obj cs)
 | alloc {e ty:TypeId}{z:Value}(bM:(P.info? e).bind (·.zero)=some z) (h1:z.cells.all Value.oneCell'=true):oV P g (.alloc e) ty (.obj (z.cells.toList.map n4))
 | buildSlice {t e ty:TypeId}{z:Nat}{parts:Array (Nat × Operand)}{xs:List Operand}{ys:List ag}{cs:List ag}(aD:fy P t e z=true)
   (aG:parts.toList=xs.mapIdx (λi x=>(i,x))) (J:iI g xs=some ys) (bM:∀ y∈ys,∃ c,lX y=some c/\c.length=z) (ab:o3 ys=some cs) (aH:xs.length * z<=16777216) (aL:xs.length<=16777216) (hzero:xs.length * z=0\/∃ v,(P.info? e).bind (·.zero)=some v/\v.cells.size=z) :
   oV P g (.buildSlice t xs.length parts) ty (.own z xs.length cs)
 | makeSlice {t e ty:TypeId}{x y:Operand}{z n b:Nat}{vE sS:IntKind}{ef:Value}(aD:fy P t e z=true) (J:bP g x=some (.lit (.int vE (n:Int)))) (az:bP g y=some (.lit (.int sS (n:Int))))
   (hzero:(P.info? e).bind (·.zero)=some ef) (h1:ef.cells.all Value.oneCell'=true) (n2:ef.cells.size=z) (aH:(P.info? e).map (·.bytes)=some b) (aL:n * b<=140737488355328) (ny:n<=4611686018427387904) {wE:List ag}(sP:wE.length=ef.cells.size)
   (CZ:∀ (k:Nat) (u:Value) (x:ag),ef.cells[k]?=some u->wE[k]?=some x->x=n4 u\/(n4 u=.aK/\∃ cJ,x=.aE cJ 0 [])) :
   oV P g (.makeSlice t x y) ty (.own z n (List.replicate n wE).flatten)
 | makeMap {t ty:TypeId}{q:Array MapEntry->Nat->Prop}(bO:q #[] 0):oV P g (.makeMap t none) ty (.mp q)
inductive ti (P:Program) (g:aY):Op->TypeId->ag->Prop
 | build {t ty:TypeId}{parts:Array (Nat × Operand)}{pl:List (Nat × Nat)}{ef:Value}{ps:List (Nat × List ag)}{cs:List ag}(aD:jT P t pl=true) (bM:(P.info? t).bind (·.zero)=some ef) (h1:ef.cells.all Value.oneCell'=true)
   (aG:q3 g parts.toList=some ps) (ab:xl (λi=>pl[i]?) (ef.cells.toList.map n4) ps=some cs):ti P g (.build t parts) ty (.agg cs)
 | makeFunc {fn:Fn}{first caps:Array Operand}{ty:TypeId}{a b:List ag}(bj:iI g first.toList=some a) (aH:iI g caps.toList=some b):ti P g (.makeFunc fn first caps) ty (.er fn a b)
section
variable {P:Program}{w:World}{I:br}{T:Array Value}{g:aY}{Fs:Nat->br}
theorem xU (h:cY w I T g Fs) {a:Act}(bj:a.tmps=T):∀ {xs:List Operand}{ys:List ag},iI g xs=some ys->ys.length=xs.length/\∀ (k:Nat) (y:ag) (x:Operand),ys[k]?=some y->xs[k]?=some x->R w I (eg w T g) y (a.eval x) cU
 | [],ys,az=>by simp only [iI,Option.some.injEq] at az; subst az; simp
 | x::xs,ys,az=>by
  simp only [iI] at az
  cases J:bP g x with
  | none=>simp [J] at az
  | some y =>
   cases qV:iI g xs with
   | none=>simp [J,qV] at az
   | some BI =>
    simp only [J,qV,Option.some.injEq] at az
    subst az
    obtain ⟨h1,al⟩:=xU h bj qV
    refine ⟨by simp [h1],λk y' x' mF f_=>?_⟩
    cases k with
    | zero=>simp at mF f_; subst mF f_; exact j9 h J bj
    | succ k=>simp at mF f_; exact al k y' x' mF f_
theorem R.alloc (h:cY w I T g Fs) (o:Obj) {x:ag}{v:Value}{F:br}(bf:R w I (eg w T g) x v F) (aR:∀ c,F c->c<w.heap.size):R (w.alloc o) I (eg (w.alloc o) T g) x v F :=
 h.frame (λ_ _=>rfl) (λt c ab=>rl w o c (h.jQ t c ab)) (λc ab=>rl w o c (h.lt c ab)) (λ_ h=>h) (λ_ _ h=>h) bf λc ab=>rl w o c (aR c ab)
theorem LU {ρ:ag->Value->Prop}{vs:List Value}:∀ (k:Nat) (x:ag) (u:Value),(vs.map n4)[k]?=some x->vs[k]?=some u->R w I ρ x u cU:=by
 intro k x u J hu
 rw [List.getElem?_map,hu] at J
 simp only [Option.map_some,Option.some.injEq] at J
 subst J
 exact AH u
theorem R.LS {ρ:ag->Value->Prop}{cs:List ag}{b:Nat}{e:TypeId}{arr:Array Value}(bd:w.heap[b]?=some (.cells arr e (0,0))) (ao:cs.length=arr.size) (h1:∀ (k:Nat) (u:Value),arr[k]?=some u->u.oneCell'=true)
  (ax:∀ (k:Nat) (x:ag) (u:Value),cs[k]?=some x->arr[k]?=some u->R w I ρ x u cU):R w I ρ (.obj cs) (.pointer (some ⟨b,0,none⟩)) (λc=>c=b) :=
 .obj (Fs:=λ_=>cU) bd ao h1 ax (λ_ _ _ _ _ h=>h.elim) (λ_ _ h=>h) (λ_=>⟨λh=>.inl h,λh=>h.elim id λ⟨_,_,h⟩=>h.elim⟩)
theorem R.L2 {ρ:ag->Value->Prop}{z n:Nat}{cs:List ag}{b cap:Nat}{e:TypeId}{arr:Array Value}(bd:w.heap[b]?=some (.cells arr e (0,0))) (aL:n<=cap) (ab:cap<=maxLen) (aN:arr.size=cap * z) (ao:cs.length=n * z) (h1:∀ (k:Nat) (u:Value),arr[k]?=some u->u.oneCell'=true)
  (ax:∀ (k:Nat) (x:ag) (u:Value),cs[k]?=some x->arr[k]?=some u->R w I ρ x u cU):R w I ρ (.own z n cs) (.slice (some ⟨b,0,none⟩) n cap) (λc=>c=b):=by
 have hle:n * z<=arr.size:=by rw [aN]; exact Nat.mul_le_mul_right _ aL
 refine .own (e:=e) (us:=arr.toList.take (n * z)) (Fs:=λ_=>cU) ⟨by simp; omega,.inr ⟨b,cap,arr,rfl,Nat.zero_le _,bd,aL,ab,aN,rfl⟩⟩ (by simp; omega) (λk u hu=>?_) ?_ (λ_ _ _ _ _ h=>h.elim) (λ_ _ _ h=>h.elim) (λc=>?_)
 ·rw [List.getElem?_take] at hu
  split at hu
  ·exact h1 k u (by simpa using hu)
  ·cases hu
 ·intro k x u J hu
  rw [List.getElem?_take] at hu
  split at hu
  ·exact ax k x u J (by simpa using hu)
  ·cases hu
 ·simp only [Value.ownBlock,Option.some.injEq]
  exact ⟨λh=>.inl h.symm,λh=>h.elim Eq.symm λ⟨_,_,h⟩=>h.elim⟩
theorem IW {ρ:ag->Value->Prop}(lu:∀ x v,x.isRef=true->ρ x v->v.oneCell'=true):∀ {ys:List ag}{vs:List Value}{cs:List ag},ys.length=vs.length->(∀ (k:Nat) (y:ag) (v:Value),ys[k]?=some y->vs[k]?=some v->R w I ρ y v cU)->o3 ys=some cs ->
  cs.length=(vs.flatMap λv=>v.cells.toList).length/\(∀ (k:Nat) (u:Value),(vs.flatMap λv=>v.cells.toList)[k]?=some u->u.oneCell'=true)/\∀ (k:Nat) (x:ag) (u:Value),cs[k]?=some x->(vs.flatMap λv=>v.cells.toList)[k]?=some u->R w I ρ x u cU
 | [],vs,cs,ao,ax,ab=>by
  cases vs with
  | nil=>simp only [o3,Option.some.injEq] at ab; subst ab; simp
  | cons=>simp at ao
 | y::ys,vs,cs,ao,ax,ab=>by
  cases vs with
  | nil=>simp at ao
  | cons v vs =>
   simp only [o3] at ab
   cases bj:lX y with
   | none=>simp [bj] at ab
   | some a =>
    cases aH:o3 ys with
    | none=>simp [bj,aH] at ab
    | some b =>
     simp only [bj,aH,Option.some.injEq] at ab
     subst ab
     obtain ⟨h1,zx,al⟩:=(ax 0 y v rfl rfl).lX (λ_ h=>h) lu bj
     obtain ⟨aO,P7,b4⟩:=IW lu (by simpa using ao) (λk y' hF az hv=>ax (k+1) y' hF az hv) aH
     refine ⟨by simp [h1,aO],λk u hu=>?_,λk x u J hu=>?_⟩
     ·simp only [List.flatMap_cons] at hu
      by_cases hk:k<v.cells.toList.length
      ·rw [List.getElem?_append_left hk] at hu
       exact zx k u (by simpa using hu)
      ·rw [List.getElem?_append_right (by omega)] at hu
       exact P7 _ u hu
     simp only [List.flatMap_cons] at hu
     by_cases hk:k<a.length
     ·rw [List.getElem?_append_left hk] at J
      rw [List.getElem?_append_left (by simp; omega)] at hu
      exact al k x u J (by simpa using hu)
     ·rw [List.getElem?_append_right (by omega)] at J
      rw [List.getElem?_append_right (by simp; omega)] at hu
      refine b4 (k - a.length) x u J ?_
      rw [<- hu]; simp [h1]
end
end Go.Own
namespace Go.Own
open Go
theorem J9 (off:Nat):∀ (l:List Value) (s:Nat) (arr:Array Value),off+s+l.length<=arr.size ->
  ((l.zipIdx s).foldl (λcs (x:Value × Nat)=>cs.setIfInBounds (off+x.2) x.1) arr).toList=arr.toList.take (off+s)++l++arr.toList.drop (off+s+l.length)
 | [],s,arr,h=>by simp
 | v::l,s,arr,h=>by
  simp only [List.length_cons] at h
  rw [List.zipIdx_cons,List.foldl_cons,J9 off l (s+1) _ (by simp; omega)]
  simp only [Array.toList_setIfInBounds,List.length_cons]
  have h1:(arr.toList.set (off+s) v).take (off+(s+1))=arr.toList.take (off+s)++[v]:=by
   rw [show off+(s+1)=off+s+1 by omega,List.take_succ_eq_append_getElem (by simp; omega)]
   rw [List.take_set_of_le (Nat.le_refl _)]
   simp
  have al:(arr.toList.set (off+s) v).drop (off+(s+1)+l.length)=arr.toList.drop (off+s+(l.length+1)):=by
   rw [List.drop_set_of_lt (by omega)]
   congr 1; omega
  rw [h1,al]
  simp
theorem J7 {place:Nat->Option (Nat × Nat)}{i off size:Nat}(aG:place i=some (off,size)) {arr:Array Value}{v:Value}(h1:v.cells.size=size) (al:off+v.cells.size<=arr.size) (rest:List (Nat × Value)) :
  ∃ jn:Array Value,Instr.fill place arr ((i,v)::rest)=Instr.fill place jn rest/\jn.toList=arr.toList.take off++v.cells.toList++arr.toList.drop (off+v.cells.size):=by
 refine ⟨_,by simp only [Instr.fill,aG]; rw [if_neg (by simp; omega)],?_⟩
 have:=J9 off v.cells.toList 0 arr (by simpa using al)
 rw [<- Array.foldl_toList,Array.toList_zipIdx]
 simpa using this
theorem J6 (z:Nat):∀ (vs:List Value) (k:Nat) (arr:Array Value) (done rest:List Value),(∀ v∈vs,v.cells.size=z)->arr.toList=done++rest->done.length=k * z->rest.length=vs.length * z ->
  ∃ jn:Array Value,Instr.fill (λi=>some (i * z,z)) arr (vs.mapIdx λi v=>(k+i,v))=some jn/\jn.toList=done++vs.flatMap λv=>v.cells.toList
 | [],k,arr,done,rest,_,h1,al,aO=>by
  have:rest=[]:=List.eq_nil_of_length_eq_zero (by simpa using aO)
  subst this
  exact ⟨arr,rfl,by simpa using h1⟩
 | v::vs,k,arr,done,rest,bM,h1,al,aO=>by
  have hv:=bM v (by simp)
  have hlen:arr.size=done.length+rest.length:=by rw [<- Array.length_toList,h1,List.length_append]
  simp only [List.length_cons,Nat.add_mul,Nat.one_mul] at aO
  rw [List.mapIdx_cons]
  obtain ⟨B3,dt,c3⟩:=J7 (place:=λi=>some (i * z,z)) (i:=k+0) (off:=k * z) (size:=z) (by simp) (arr:=arr) (v:=v) hv (by omega) ((vs.mapIdx λi v=>(k+(i+1),v)))
  have si:B3.toList=(done++v.cells.toList)++rest.drop z:=by
   rw [c3,h1,<- al,List.take_left,hv,List.drop_append]
   simp
  obtain ⟨jn,jY,rA⟩:=J6 z vs (k+1) B3 (done++v.cells.toList) (rest.drop z) (λu hu=>bM u (by simp [hu])) si (by simp [al,hv,Nat.add_mul]) (by simp; omega)
  refine ⟨jn,?_,by rw [rA]; simp⟩
  rw [dt,<- jY]
  congr 1
  congr 1
  funext i u
  congr 1; omega
theorem D2 {vs:Array Value}(h:vs.all Value.oneCell'=true):∀ (k:Nat) (u:Value),vs[k]?=some u->u.oneCell'=true :=
 λ_ u hu=>Array.all_eq_true_iff_forall_mem.1 h u (Array.mem_of_getElem? hu)
theorem Ee {P:Program}{e:TypeId}{z:Value}(h:(P.info? e).bind (·.zero)=some z) (w:World):(zeroValue e).run P w=.ok z w:=by
 cases hi:P.info? e with
 | none=>simp [hi] at h
 | some i=>simp [hi] at h; simp [zeroValue,typeInfo,hi,h]
theorem J' {α:Type}(l:List α):∀ (n k:Nat),k<n * l.length->(List.replicate n l).flatten[k]?=l[k % l.length]?
 | 0,k,h=>by simp at h
 | n+1,k,h=>by
  rw [List.replicate_succ,List.flatten_cons]
  by_cases hk:k<l.length
  ·rw [List.getElem?_append_left hk,Nat.mod_eq_of_lt hk]
  ·rw [List.getElem?_append_right (by omega),J' l n (k - l.length) (by rw [Nat.add_mul] at h; omega)]
   rw [<- Nat.mod_eq_sub_mod (by omega)]
section
variable {P:Program}{w:World}{I:br}{T:Array Value}{g:aY}{Fs:Nat->br}
theorem Oe {ys cs:List ag}{z:Nat}(bM:∀ y∈ys,∃ c,lX y=some c/\c.length=z) (ab:o3 ys=some cs):cs.length=ys.length * z:=by
 induction ys generalizing cs with
 | nil=>simp [o3] at ab; subst ab; simp
 | cons y ys aS =>
  obtain ⟨c,h1,al⟩:=bM y (by simp)
  simp only [o3,h1] at ab
  cases aH:o3 ys with
  | none=>simp [aH] at ab
  | some b =>
   simp only [aH,Option.some.injEq] at ab
   subst ab
   rw [List.length_append,aS (λy az=>bM y (by simp [az])) aH,al,List.length_cons,Nat.add_mul]
   omega
theorem oV.sound (h:cY w I T g Fs) {a:Act}(bj:a.tmps=T) {o:Oper}{kd:ag}(aG:oV P g o.op o.type kd) :
  ∃ v q2,(execOp a.eval o).run P w=.ok (.value v) (w.alloc q2)/\R (w.alloc q2) I (eg (w.alloc q2) T g) kd v (λc=>c=w.heap.size):=by
 obtain ⟨dst,op,ty,pos,after,guard⟩:=o
 simp only at aG
 have lQ:∀ (q2:Obj) {x:ag}{v:Value},R w I (eg w T g) x v cU->R (w.alloc q2) I (eg (w.alloc q2) T g) x v cU:=λq2 _ _ bf=>R.alloc h q2 bf λ_ h=>h.elim
 cases aG with
 | @box e _ x y cs J ab =>
  have az:=j9 h J bj
  obtain ⟨h1,zx,al⟩:=az.lX (λ_ h=>h) (λ_ _ J ax=>ax.Di J) ab
  refine ⟨_,.cells (a.eval x).cells e,by simp [execOp,Instr.box,newVar,newRow],R.LS (e:=e) (r8 w _) h1 zx λk x u J hu=>lQ _ (al k x u J hu)⟩
 | @alloc e _ z bM gO =>
  refine ⟨_,.cells z.cells e,by simp [execOp,Instr.alloc,newVar,newRow,Ee bM],R.LS (e:=e) (r8 w _) (by simp) (D2 gO) λk x u J hu=>lQ _ (LU k x u J (by simpa using hu))⟩
 | @makeMap t _ q bO =>
  have F2:(Instr.makeMap t none).run P w=.ok (.map (some w.heap.size)) (w.alloc (.map #[] 0)):=rfl
  exact ⟨.map (some w.heap.size),.map #[] 0,by simp [execOp,F2],.mp (r8 w _) bO λc=>Iff.rfl⟩
 | @buildSlice t e _ z parts xs ys cs aD aG J bM ab aH F6 hzero =>
  obtain ⟨hu,he,gp⟩:=pB (w:=w) aD
  obtain ⟨ao,ax⟩:=xU h bj J
  have hx:=Oe bM ab
  have Sr:∀ v∈xs.map a.eval,v.cells.size=z:=by
   intro v hv
   obtain ⟨x,Gw,rfl⟩:=List.mem_map.1 hv
   obtain ⟨k,hk,rfl⟩:=List.mem_iff_getElem.1 Gw
   have mF:ys[k]?=some (ys[k]'(by omega)):=List.getElem?_eq_getElem (by omega)
   obtain ⟨c,h1,al⟩:=bM _ (List.getElem_mem (l:=ys) (n:=k) (by omega))
   obtain ⟨aO,_,_⟩:=(ax k _ _ mF (List.getElem?_eq_getElem hk)).lX (λ_ h=>h) (λ_ _ J ax=>ax.Di J) h1
   rw [<- aO,al]
  obtain ⟨ef,SV⟩:∃ ef:Array Value,(xs.length * z=0/\ef=#[])\/(xs.length * z≠0/\∃ v,ef=v.cells/\(zeroValue e).run P w=.ok v w):=by
   by_cases bb:xs.length * z=0
   ·exact ⟨#[],.inl ⟨bb,rfl⟩⟩
   ·rcases hzero with h1 | ⟨v,h1,al⟩
    ·exact absurd h1 bb
    ·exact ⟨v.cells,.inr ⟨bb,v,rfl,Ee h1 w⟩⟩
  obtain ⟨arr,dt,c3⟩:=J6 z (xs.map a.eval) 0 ((Array.range (xs.length * z)).map (ef[· % ef.size]!)) [] ((Array.range (xs.length * z)).map (ef[· % ef.size]!)).toList Sr (by simp) (by simp) (by simp)
  have K7:(parts.map λ(p:Nat × Operand)=>(p.1,a.eval p.2)).toList=(xs.map a.eval).mapIdx λi v=>(0+i,v):=by
   rw [Array.toList_map,aG]
   apply List.ext_getElem?
   intro k
   simp only [List.getElem?_map,List.getElem?_mapIdx]
   cases xs[k]? <;> simp
  obtain ⟨hy,lI,Rr⟩:=IW (ρ:=eg w T g) (λ_ _ J ax=>ax.Di J) (ys:=ys) (vs:=xs.map a.eval) (by simp [ao]) (λk y v az hv=>by
   rw [List.getElem?_map] at hv
   cases pe:xs[k]? with
   | none=>simp [pe] at hv
   | some x=>simp [pe] at hv; subst hv; exact ax k y x az pe) ab
  have vg:arr.toList=(xs.map a.eval).flatMap λv=>v.cells.toList:=by simpa using c3
  have Sf:arr.size=xs.length * z:=by rw [<- Array.length_toList,vg,<- hy,hx,ao]
  have hW:(execOp a.eval { dst:=dst,op:=.buildSlice t xs.length parts,type:=ty,pos:=pos,after:=after,guard:=guard }).run P w=.ok (.value (.slice (some ⟨w.heap.size,0,none⟩) xs.length xs.length)) (w.alloc (.cells arr e)):=by
   have hle:¬ (16777216<xs.length * z):=by omega
   rcases SV with ⟨bb,rfl⟩ | ⟨bb,v,rfl,SU⟩
   ·simp only [bb] at dt
    rw [<- K7] at dt
    simp at dt
    simp [execOp,Instr.buildSlice,run_underlying hu,gp,bb,dt,newRow]
   ·rw [<- K7] at dt
    simp at dt
    simp [execOp,Instr.buildSlice,run_underlying hu,gp,bb,hle,SU,dt,newRow]
  refine ⟨_,_,hW,R.L2 (e:=e) (arr:=arr) (r8 w _) (Nat.le_refl _) ?_ Sf (by rw [hx,ao]) (λk u hu=>lI k u (by rw [<- vg]; simpa using hu)) λk x u J hu=>lQ _ (Rr k x u J ?_)⟩
  ·unfold maxLen; omega
  ·rw [<- vg]; simpa using hu
 | @makeSlice t e _ x y z n b vE sS ef aD J az hzero gO n2 aH aL ny wE sP CZ =>
  obtain ⟨hu,he,gp⟩:=pB (w:=w) aD
  have h1:=(j9 h J bj).ie.1
  have al:=(j9 h az bj).ie.1
  cases hi:P.info? e with
  | none=>simp [hi] at aH
  | some i =>
   simp [hi] at aH hzero
   have FM:i.size=z:=by
    unfold fy at aD
    rw [hu] at aD
    simp [hi] at aD
    exact aD
   have CG:(i.bytes:Int) * (n:Int)<=281474976710656:=by
    have:((b * n:Nat):Int)<=281474976710656:=by have:=Nat.mul_comm n b; omega
    rw [aH,<- Int.natCast_mul]; exact this
   have ax:=run_make (P:=P) w t e i ef hu hi hzero vE sS n n (by omega) (Int.le_refl _) CG (by omega)
   simp only [Int.toNat_natCast] at ax
   refine ⟨_,.cells (madeCells ef.cells (n * i.size)) e,by simp [execOp,h1,al,ax],R.L2 (e:=e) (r8 w _) (Nat.le_refl _) (by unfold maxLen; omega) (by rw [size_madeCells,FM]) (by simp [n2,sP]) (λk u hu=>?_) λk x u J hu=>?_⟩
   ·rw [madeCells,Array.getElem?_map,Array.getElem?_range] at hu
    split at hu
    ·rename_i hk
     have bb:0<ef.cells.size:=by
      rcases Nat.eq_zero_or_pos ef.cells.size with h | h
      ·rw [FM,<- n2,h] at hk; simp at hk
      ·exact h
     have hm:k % ef.cells.size<ef.cells.size:=Nat.mod_lt _ bb
     simp only [Option.map_some,Option.some.injEq] at hu
     rw [<- hu,show ef.cells[k % ef.cells.size]! = ef.cells[k % ef.cells.size] by simp [hm]]
     exact D2 gO _ _ (Array.getElem?_eq_getElem hm)
    ·cases hu
   have hk:k<n * ef.cells.size:=by
    have:=(List.getElem?_eq_some_iff.1 J).1
    simpa [Nat.mul_comm,sP] using this
   have bb:0<ef.cells.size:=by
    rcases Nat.eq_zero_or_pos ef.cells.size with h | h
    ·rw [h] at hk; simp at hk
    ·exact h
   have hm:k % ef.cells.size<ef.cells.size:=Nat.mod_lt _ bb
   rw [J' _ n k (by simpa [sP] using hk),sP] at J
   rw [madeCells,Array.getElem?_map,Array.getElem?_range,if_pos (by rw [FM,<- n2]; exact hk)] at hu
   simp only [Option.map_some,Option.some.injEq] at hu
   have fN:ef.cells[k % ef.cells.size]! = ef.cells[k % ef.cells.size]:=by simp [hm]
   rw [fN] at hu
   subst hu
   rcases CZ _ _ x (Array.getElem?_eq_getElem hm) J with rfl | ⟨h1,cJ,rfl⟩
   ·exact lQ _ (AH _)
   ·have bf:=AH (w:=w) (I:=I) (ρ:=eg w T g) ef.cells[k % ef.cells.size]
    rw [h1] at bf
    rw [bf.qY]
    exact .hQ λ_ h=>h
def Cells (w:World) (I:br) (ρ:ag->Value->Prop) (cs:List ag) (vs:List Value):Prop :=
 cs.length=vs.length/\(∀ (k:Nat) (u:Value),vs[k]?=some u->u.oneCell'=true)/\∀ (k:Nat) (x:ag) (u:Value),cs[k]?=some x->vs[k]?=some u->R w I ρ x u cU
theorem Cells.append {ρ:ag->Value->Prop}{a b:List ag}{u v:List Value}(h:Cells w I ρ a u) (aT:Cells w I ρ b v):Cells w I ρ (a++b) (u++v):=by
 refine ⟨by simp [h.1,aT.1],λk y az=>?_,λk x y J az=>?_⟩
 ·by_cases hk:k<u.length
  ·rw [List.getElem?_append_left hk] at az; exact h.2.1 k y az
  ·rw [List.getElem?_append_right (by omega)] at az; exact aT.2.1 _ y az
 ·by_cases hk:k<a.length
  ·rw [List.getElem?_append_left hk] at J
   rw [List.getElem?_append_left (by rw [<- h.1]; exact hk)] at az
   exact h.2.2 k x y J az
  ·rw [List.getElem?_append_right (by omega)] at J
   rw [List.getElem?_append_right (by rw [<- h.1]; omega)] at az
   exact aT.2.2 _ x y J (by rw [h.1]; exact az)
theorem Cells.take {ρ:ag->Value->Prop}{a:List ag}{u:List Value}(h:Cells w I ρ a u) (n:Nat):Cells w I ρ (a.take n) (u.take n):=by
 refine ⟨by simp [h.1],λk y az=>?_,λk x y J az=>?_⟩
 ·rw [List.getElem?_take] at az
  split at az
  ·exact h.2.1 k y az
  ·cases az
 ·rw [List.getElem?_take] at J az
  split at J
  ·rename_i hk; rw [if_pos hk] at az; exact h.2.2 k x y J az
  ·cases J
theorem Cells.drop {ρ:ag->Value->Prop}{a:List ag}{u:List Value}(h:Cells w I ρ a u) (n:Nat):Cells w I ρ (a.drop n) (u.drop n):=by
 refine ⟨by simp [h.1],λk y az=>?_,λk x y J az=>?_⟩
 ·rw [List.getElem?_drop] at az; exact h.2.1 _ y az
 ·rw [List.getElem?_drop] at J az
  exact h.2.2 _ x y J az
theorem J5 {ρ:ag->Value->Prop}{place:Nat->Option (Nat × Nat)}:∀ (ps:List (Nat × List ag)) (rZ:List (Nat × Value)) {cells cs:List ag}{arr:Array Value},Cells w I ρ cells arr.toList ->
  ps.map (·.1)=rZ.map (·.1)->(∀ (k:Nat) (p:Nat × List ag) (q:Nat × Value),ps[k]?=some p->rZ[k]?=some q->Cells w I ρ p.2 q.2.cells.toList)->xl place cells ps=some cs ->
  ∃ jn:Array Value,Instr.fill place arr rZ=some jn/\Cells w I ρ cs jn.toList
 | [],rZ,cells,cs,arr,ab,hk,_,bl=>by
  cases rZ with
  | nil=>simp only [xl,Option.some.injEq] at bl; subst bl; exact ⟨arr,rfl,ab⟩
  | cons=>simp at hk
 | (i,c)::ps,rZ,cells,cs,arr,ab,hk,ax,bl=>by
  cases rZ with
  | nil=>simp at hk
  | cons q rZ =>
   obtain ⟨ae,v⟩:=q
   simp only [List.map_cons,List.cons.injEq] at hk
   obtain ⟨rfl,hk⟩:=hk
   have bb:=ax 0 _ _ rfl rfl
   simp only [xl] at bl
   cases aG:place i with
   | none=>simp [aG] at bl
   | some os =>
    obtain ⟨off,size⟩:=os
    simp only [aG] at bl
    split at bl
    ·rename_i VL
     have hlen:v.cells.size=c.length:=by rw [<- Array.length_toList]; exact bb.1.symm
     have V2:arr.size=cells.length:=by rw [<- Array.length_toList]; exact ab.1.symm
     obtain ⟨B3,dt,c3⟩:=J7 (arr:=arr) (v:=v) aG (by omega) (by omega) rZ
     have lI:Cells w I ρ (cells.take off++c++cells.drop (off+c.length)) B3.toList:=by
      rw [c3,hlen]
      exact ((ab.take off).append bb).append (ab.drop _)
     obtain ⟨jn,jY,rA⟩:=J5 ps rZ lI hk (λk p q aG bO=>ax (k+1) p q aG bO) bl
     exact ⟨jn,by rw [dt,jY],rA⟩
    ·cases bl
theorem L7 (h:cY w I T g Fs) {a:Act}(bj:a.tmps=T):∀ {l:List (Nat × Operand)}{ps:List (Nat × List ag)},q3 g l=some ps ->
  ps.map (·.1)=(l.map λp=>(p.1,a.eval p.2)).map (·.1)/\∀ (k:Nat) (p:Nat × List ag) (q:Nat × Value),ps[k]?=some p->(l.map λp=>(p.1,a.eval p.2))[k]?=some q->Cells w I (eg w T g) p.2 q.2.cells.toList
 | [],ps,aG=>by simp only [q3,Option.some.injEq] at aG; subst aG; simp
 | (i,x)::l,ps,aG=>by
  simp only [q3] at aG
  cases J:bP g x with
  | none=>simp [J] at aG
  | some y =>
   cases ao:q3 g l with
   | none=>simp [J,ao] at aG
   | some Wp =>
    simp only [J,ao,Option.map_eq_some_iff] at aG
    obtain ⟨c,ab,rfl⟩:=aG
    obtain ⟨h1,al⟩:=L7 h bj ao
    refine ⟨by simp [h1],λk p q aG bO=>?_⟩
    cases k with
    | zero =>
     simp at aG bO
     subst aG bO
     obtain ⟨aO,P6,b4⟩:=(j9 h J bj).lX (λ_ h=>h) (λ_ _ J ax=>ax.Di J) ab
     exact ⟨by simpa using aO,λk u hu=>P6 k u (by simpa using hu),λk x u J hu=>b4 k x u J (by simpa using hu)⟩
    | succ k=>simp at aG bO; exact al k p q aG (by simpa using bO)
theorem Ui {t:TypeId}{pl:List (Nat × Nat)}(h:jT P t pl=true):∃ fs,P.underlying t=some (.struct fs)/\fs.toList.mapM (λf=>(P.info? f.type).map λi=>(f.offset,i.size))=some pl:=by
 unfold jT at h
 cases hu:P.underlying t with
 | none=>simp [hu] at h
 | some d =>
  cases d <;> simp only [hu,Bool.false_eq_true] at h
  rename_i fs
  refine ⟨fs,rfl,?_⟩
  replace h:=LawfulBEq.eq_of_beq h
  generalize fs.toList=l at h
  induction l generalizing pl with
  | nil=>cases pl with
   | nil=>rfl
   | cons=>simp at h
  | cons f l aS =>
   cases pl with
   | nil=>simp at h
   | cons p pl =>
    obtain ⟨o,s⟩:=p
    simp only [List.map_cons,List.cons.injEq,Prod.mk.injEq] at h
    obtain ⟨⟨rfl,h1⟩,al⟩:=h
    have:=aS al
    rw [List.mapM_cons,this]
    cases hi:P.info? f.type with
    | none=>simp [hi] at h1
    | some i=>simp [hi] at h1; subst h1; rfl
theorem ti.sound (h:cY w I T g Fs) {a:Act}(bj:a.tmps=T) {o:Oper}{kd:ag}(aG:ti P g o.op o.type kd) :
  ∃ v,(execOp a.eval o).run P w=.ok (.value v) w/\R w I (eg w T g) kd v cU:=by
 obtain ⟨dst,op,ty,pos,after,guard⟩:=o
 simp only at aG
 cases aG with
 | @build t _ parts pl ef ps cs aD bM gO aG ab =>
  obtain ⟨fs,hu,sF⟩:=Ui aD
  obtain ⟨h1,al⟩:=L7 h bj aG
  obtain ⟨jn,dt,c3⟩:=J5 (w:=w) (I:=I) (ρ:=eg w T g) (place:=λi=>pl[i]?) ps _ (arr:=ef.cells) ⟨by simp,λk u hu=>D2 gO k u (by simpa using hu),λk x u J hu=>LU k x u J hu⟩ h1 al ab
  refine ⟨.agg jn,?_,.agg (Fs:=λ_=>cU) (by simpa using c3.1) (λk u hu=>c3.2.1 k u (by simpa using hu)) (λk x u J hu=>c3.2.2 k x u J (by simpa using hu)) (λ_ _ _ _ _ h=>h.elim) (λc=>⟨λh=>h.elim,λ⟨_,_,h⟩=>h⟩)⟩
  have Wa:=run_places (P:=P) w fs.toList pl sF
  have aH:P.built t ((parts.map λ(p:Nat × Operand)=>(p.1,a.eval p.2))).toList=some jn:=by
   rw [Array.toList_map]
   cases hi:P.info? t with
   | none=>simp [hi] at bM
   | some it =>
    simp [hi] at bM
    simp only [Program.built,hu,sF,hi,bM]
    simpa using dt
  have:=run_build (P:=P) w t _ _ aH
  simp only [execOp,Sem.run_bind]
  have hm:(parts.map λ(x:Nat × Operand)=>match x with | (i,x)=>(i,a.eval x))=parts.map λ(p:Nat × Operand)=>(p.1,a.eval p.2):=rfl
  rw [hm,this]
  rfl
 | @makeFunc fn first caps _ Wf G0 h1 al =>
  obtain ⟨aw,a2⟩:=xU h bj h1
  obtain ⟨hK,iq⟩:=xU h bj al
  refine ⟨.func fn (first.map a.eval) (caps.map a.eval),by simp [execOp,Instr.makeFunc],.er (λ_ h=>h) (by simpa using aw) (by simpa using hK) (λk x u J hu=>?_) (λk x u J hu=>?_)⟩
  ·rw [Array.getElem?_map] at hu
   cases hk:first[k]? with
   | none=>simp [hk] at hu
   | some y=>simp [hk] at hu; subst hu; exact a2 k x y J (by simpa using hk)
  ·rw [Array.getElem?_map] at hu
   cases hk:caps[k]? with
   | none=>simp [hk] at hu
   | some y=>simp [hk] at hu; subst hu; exact iq k x y J (by simpa using hk)
end
end Go.Own
namespace Go.Own
open Go
structure BN (w w':World) (bv hF:Value) (e c3:TypeId) (z n m:Nat) (us news:List Value):Prop where
 lQ:w'.ownsRow 0 e z bv n us
 new:w'.ownsRow 0 c3 z hF (n+m) (us++news)
 fE:Fr w w' (λc=>bv.ownBlock=some c)
 B8:∀ c,hF.ownBlock=some c->bv.ownBlock=some c\/w.heap.size<=c
 sp:∀ c,bv.ownBlock=some c->∃ arr jn:Array Value,w.heap[c]?=some (.cells arr e (0,0))/\w'.heap[c]?=some (.cells jn e (0,0))/\jn.size=arr.size/\jn.toList.take (n * z)=arr.toList.take (n * z)
section
variable {P:Program}{w:World}
theorem BN.same {bv hF:Value}{e c3:TypeId}{z n m:Nat}{us news:List Value}{w':World}(k5:w.ownsRow 0 e z bv n us) (aH:∀ c,c<w.heap.size->w'.heap[c]?=w.heap[c]?) (aN:w.heap.size<=w'.heap.size)
  (h1:w'.os=w.os) (al:w'.tape=w.tape) (aO:w'.output=w.output) (qL:w'.ownsRow 0 c3 z hF (n+m) (us++news)) (hblk:∀ c,hF.ownBlock=some c->bv.ownBlock=some c\/w.heap.size<=c) (o':∀ a,w'.frozen? a=w.frozen? a) (Ru:w.drawn<=w'.drawn:=by first | exact Nat.le_refl _ | exact Nat.le_succ _):BN w w' bv hF e c3 z n m us news:=by
 have bc:=k5.lt
 refine ⟨ui k5 λc ab=>aH c (bc c ab).2,qL,⟨h1,al,aO,aN,λb kC _=>aH b kC,λa _=>o' a,Ru⟩,hblk,λc ab=>?_⟩
 obtain ⟨_,b9⟩:=k5
 rcases b9 with ⟨rfl,_⟩ | ⟨b,cap,cur,rfl,_,a8,_⟩
 ·simp [Value.ownBlock] at ab
 ·simp only [Value.ownBlock,Option.some.injEq] at ab
  subst ab
  exact ⟨cur,cur,a8,(aH _ (bc b rfl).2).trans a8,rfl,rfl⟩
theorem TY (t ty e cW:TypeId) (i:TypeInfo) (aD:P.underlying t=some (.slice e)) (hi:P.info? e=some i)
  (b wj Hv:Nat) (cur:Array Value) (a8:w.heap[b]?=some (.cells cur cW (0,0)))
  (a:Addr) (m c:Nat) (news:List Value) (ao:news.length=m * i.size) (sE:∀ ae u,news[ae]?=some u->w.cell? (a.add ae)=some u) (h1:∀ u∈news,u.oneCell'=true)
  (Aa:wj+m<=Hv) (FJ:wj * i.size+news.length<=cur.size) :
  (Builtin.append_ #[t,t] ty #[.slice (some ⟨b,0,none⟩) wj Hv,.slice (some a) m c]).run P w =
   .ok (.slice (some ⟨b,0,none⟩) (wj+m) Hv) (w.setRow b (cur.toList.take (wj * i.size)++news++cur.toList.drop (wj * i.size+news.length)).toArray):=by
 have bl:=run_firstCells_some (P:=P) w i.size m a m c news ao sE
 have cn:=run_storeCells_at P b (wj * i.size) cW news 0 cur w a8 (by simpa using FJ) h1
 simp only [Nat.add_zero] at cn
 simp [Builtin.append_,run_underlying aD,sizeOf,typeInfo,hi,Builtin.lenOf,Aa,bl,Addr.add_lit,cn]
theorem Mm (t ty e cW:TypeId) (i:TypeInfo) (ef:Value) (aD:P.underlying t=some (.slice e)) (hi:P.info? e=some i) (bM:i.zero=some ef) (n2:ef.cells.size=i.size) (_h0:0<i.size)
  {bv:Value}{n m c:Nat}{us news:List Value}(k5:w.ownsRow 0 cW i.size bv n us) {a:Option Addr}(bj:0<m->a.isSome=true)
  (ao:news.length=m * i.size) (sE:∀ ad,a=some ad->∀ (ae:Nat) (u:Value),news[ae]?=some u->w.cell? (ad.add ae)=some u) (h1:∀ u∈news,u.oneCell'=true)
  (pT:n+m<=maxLen) (CG:(n+m) * i.bytes<=140737488355328) :
  ∃ hF w' c3,(Builtin.append_ #[t,t] ty #[bv,.slice a m c]).run P w=.ok hF w'/\BN w w' bv hF cW c3 i.size n m us news:=by
 have mz:=k5.1
 by_cases hm:m=0
 ·subst hm
  have aL:news=[]:=List.eq_nil_of_length_eq_zero (by simpa using ao)
  subst aL
  refine ⟨bv,w,cW,?_,.same k5 (λ_ _=>rfl) (Nat.le_refl _) rfl rfl rfl (by simpa using k5) (λc ab=>.inl ab) λ_=>rfl⟩
  obtain ⟨_,b9⟩:=k5
  rcases b9 with ⟨rfl,rfl⟩ | ⟨b,cap,cur,rfl,_,a8,hle,_⟩
  ·cases a <;> simp [Builtin.append_,run_underlying aD,sizeOf,typeInfo,hi,Builtin.lenOf,Builtin.firstCells,loadCells,loadCellsFrom]
  ·cases a <;> simp [Builtin.append_,run_underlying aD,sizeOf,typeInfo,hi,Builtin.lenOf,Builtin.firstCells,loadCells,loadCellsFrom,hle,storeCells]
 ·cases a with
  | none=>simp at bj; omega
  | some ad =>
   replace sE:=sE ad rfl
   have Wb:n+m<=9223372036854775807:=by simp only [maxLen] at pT; omega
   have grown:∀ (lQ:Nat),lQ<n+m ->
     (w.drew.alloc (.cells (us.toArray++news.toArray++Builtin.zeroCells ef.cells (grownCap w (n+m) lQ e - (n+m))) e)).ownsRow 0 e i.size (.slice (some ⟨w.heap.size,0,none⟩) (n+m) (grownCap w (n+m) lQ e)) (n+m) (us++news):=by
    intro lQ bd
    have eF:=grownCap_ge w (n+m) lQ e
    have hlen:(us++news).length=(n+m) * i.size:=by rw [List.length_append,mz,ao,Nat.add_mul]
    refine ⟨hlen,.inr ⟨w.heap.size,_,_,rfl,Nat.zero_le _,r8 w.drew _,eF,grownCap_le_maxLen w (n+m) lQ e pT,?_,?_⟩⟩
    ·simp only [Array.size_append,List.size_toArray,size_zeroCells,n2,mz,ao,<- Nat.add_mul]
     congr 1
     omega
    ·simp only [Array.toList_append,List.append_assoc]
     rw [<- List.append_assoc,<- hlen]
     exact List.take_left
   have F7:=k5
   obtain ⟨_,b9⟩:=k5
   rcases b9 with ⟨rfl,rfl⟩ | ⟨b,cap,cur,rfl,_,a8,hle,tM,hy,Le⟩
   ·have J:us=[]:=List.eq_nil_of_length_eq_zero (by simpa using mz)
    subst J
    have ax:=run_append_nil (P:=P) w t ty e i ef aD hi bM ad m c news ao sE (by omega) (by omega) (by simp only [Nat.zero_add] at CG; omega)
    have qI:=grown 0 (by omega)
    simp only [Nat.zero_add,List.nil_append,Array.empty_append] at qI
    exact ⟨_,_,e,ax,.same F7 (λc ab=>rl w.drew _ c ab) (by simp) rfl rfl rfl (by simpa using qI) (λc ab=>.inr (by simp [Value.ownBlock] at ab; omega)) (λa=>EZ w.drew _ _ a)⟩
   ·by_cases Aa:n+m<=cap
    ·have FJ:n * i.size+news.length<=cur.size:=by rw [ao,hy,<- Nat.add_mul]; exact Nat.mul_le_mul_right _ Aa
     have ax:=TY (P:=P) (w:=w) t ty e cW i aD hi b n cap cur a8 ad m c news ao sE h1 Aa FJ
     have hlen:(us++news).length=(n+m) * i.size:=by rw [List.length_append,mz,ao,Nat.add_mul]
     have gp:(cur.toList.take (n * i.size)++news++cur.toList.drop (n * i.size+news.length)).toArray.size=cur.size:=by
      simp only [List.size_toArray,List.length_append,List.length_take,List.length_drop,Array.length_toList]
      omega
     have fZ:(cur.toList.take (n * i.size)++news++cur.toList.drop (n * i.size+news.length)).take (n * i.size)=cur.toList.take (n * i.size):=by
      rw [List.append_assoc]
      exact List.take_left' (by simp; omega)
     refine ⟨_,_,cW,ax,⟨⟨mz,.inr ⟨b,cap,_,rfl,Nat.zero_le _,setRow_heap w b cur _ cW _ a8,hle,tM,gp.trans hy,?_⟩⟩,⟨hlen,.inr ⟨b,cap,_,rfl,Nat.zero_le _,setRow_heap w b cur _ cW _ a8,Aa,tM,gp.trans hy,?_⟩⟩,
      ⟨rfl,rfl,rfl,by simp,λk _ hk=>setRow_other w b k _ (λe=>hk (by simp [Value.ownBlock,e])),λa _=>E1 w b _ a,Nat.le_refl _⟩,λc ab=>.inl ab,λc ab=>?_⟩⟩
     ·rw [<- Le]; exact fZ
     ·rw [Le,<- hlen]
      exact List.take_left
     ·simp only [Value.ownBlock,Option.some.injEq] at ab
      subst ab
      exact ⟨cur,_,a8,setRow_heap w b cur _ cW _ a8,gp,fZ⟩
    ·have holds:∀ (ae:Nat) (u:Value),us[ae]?=some u->w.cell? ((⟨b,0,none⟩:Addr).add ae)=some u:=F7.cells (g:=b) rfl
     have ax:=run_append_grow (P:=P) w t ty e i ef aD hi bM ⟨b,0,none⟩ n cap us mz holds ad m c news ao sE (by omega) (by omega) (growslice_fits (by omega) CG)
     have qI:=grown cap (by omega)
     exact ⟨_,_,e,ax,.same F7 (λc ab=>rl w.drew _ c ab) (by simp) rfl rfl rfl qI (λc ab=>.inr (by simp [Value.ownBlock] at ab; omega)) (λa=>EZ w.drew _ _ a)⟩
end
end Go.Own
namespace Go.Own
open Go
section
variable {w w':World}{I:br}{ρ ρ':ag->Value->Prop}
theorem R.kids {x:ag}{v:Value}{F:br}(h:R w I ρ x v F) (J:x.kids≠[]):∃ Fs:Nat->br,
  (∀ k y,x.kids[k]?=some y->∃ u,child w v k=some u/\R w I ρ y u (Fs k))/\(∀ (ae k c:Nat),ae<x.kids.length->k<x.kids.length->Fs ae c->Fs k c->ae=k) /\
  (∀ k c,k<x.kids.length->Fs k c->F c)/\(∀ z n cs,x=.own z n cs->∀ c,v.ownBlock=some c->∀ k,k<x.kids.length->¬ Fs k c):=by
 cases h with
 | @own z n cs _ e us Fs _ bd ao h1 ax aV aH aR =>
  refine ⟨Fs,λk y hk=>?_,aV,λk c hk ab=>(aR c).2 (.inr ⟨k,hk,ab⟩),λ_ _ _ _ c ab k hk h=>aH k c hk h ab⟩
  simp only [ag.kids] at hk
  have bc:k<cs.length:=(List.getElem?_eq_some_iff.1 hk).1
  have hu:us[k]?=some us[k]:=List.getElem?_eq_getElem (ao ▸ bc)
  exact ⟨_,n5 bd hu,ax k y _ hk hu⟩
 | @obj cs b e arr Fs _ bd ao h1 ax aV aH aR =>
  refine ⟨Fs,λk y hk=>?_,aV,λk c hk ab=>(aR c).2 (.inr ⟨k,hk,ab⟩),λ_ _ _ h=>by simp at h⟩
  simp only [ag.kids] at hk
  have bc:k<cs.length:=(List.getElem?_eq_some_iff.1 hk).1
  have hu:arr[k]?=some arr[k]:=Array.getElem?_eq_getElem (ao ▸ bc)
  exact ⟨_,by simp [child,World.cell?,bd,hu],ax k y _ hk hu⟩
 | @agg cs vs Fs _ ao h1 ax aV aR =>
  refine ⟨Fs,λk y hk=>?_,aV,λk c hk ab=>(aR c).2 ⟨k,hk,ab⟩,λ_ _ _ h=>by simp at h⟩
  simp only [ag.kids] at hk
  have bc:k<cs.length:=(List.getElem?_eq_some_iff.1 hk).1
  have hu:vs[k]?=some vs[k]:=Array.getElem?_eq_getElem (ao ▸ bc)
  exact ⟨_,by simp [child,hu],ax k y _ hk hu⟩
 | @cB cs vs Fs _ ao ax aV aR =>
  refine ⟨Fs,λk y hk=>?_,aV,λk c hk ab=>(aR c).2 ⟨k,hk,ab⟩,λ_ _ _ h=>by simp at h⟩
  simp only [ag.kids] at hk
  have bc:k<cs.length:=(List.getElem?_eq_some_iff.1 hk).1
  have hu:vs[k]?=some vs[k]:=Array.getElem?_eq_getElem (ao ▸ bc)
  exact ⟨_,by simp [child,hu],ax k y _ hk hu⟩
 | ref f_=>cases x <;> simp [ag.isRef,ag.kids] at f_ J
 | _=>simp [ag.kids] at J
theorem ag.tt {x y:ag}{k:Nat}{p:List Nat}(h:x.at (k::p)=some y):∃ c,x.kids[k]?=some c/\c.at p=some y:=by
 simp only [ag.at] at h
 cases hk:x.kids[k]? with
 | none=>rw [hk] at h; cases h
 | some c=>rw [hk] at h; exact ⟨c,rfl,h⟩
theorem R.He {b:Nat}:∀ (q r:List Nat) {x:ag}{v:Value}{F:br}{z n cJ cX:Nat}{cs cs':List ag}{oO Bz:Value},R w I ρ x v F->x.at q=some (.own z n cs)->x.at r=some (.own cJ cX cs') ->
  walk w v q=some oO->walk w v r=some Bz->oO.ownBlock=some b->Bz.ownBlock=some b->q=r
 | [],[],_,_,_,_,_,_,_,_,_,_,_,_,_,_,_,_,_,_=>rfl
 | [],k::r,x,v,F,z,n,cJ,cX,cs,cs',oO,Bz,h,bO,ax,q_,wr,w4,w5=>by
  obtain ⟨c,hk,ab⟩:=ag.tt ax
  simp only [ag.at,Option.some.injEq] at bO
  simp only [walk,Option.some.injEq] at q_
  subst bO q_
  have bc:k<(ag.own z n cs).kids.length:=(List.getElem?_eq_some_iff.1 hk).1
  obtain ⟨Fs,h1,al,aO,b4⟩:=h.kids (by intro e; rw [e] at bc; simp at bc)
  obtain ⟨u,hu,mn⟩:=h1 k c hk
  simp only [walk,hu] at wr
  obtain ⟨h8,cM,hw,dT,dC,_⟩:=R.focus r mn ab
  rw [hw] at wr
  cases wr
  exact absurd (dC b (dT.po b w5)) (b4 z n cs rfl b w4 k bc)
 | ae::q,[],x,v,F,z,n,cJ,cX,cs,cs',oO,Bz,h,bO,ax,q_,wr,w4,w5=>by
  obtain ⟨c,hk,ab⟩:=ag.tt bO
  simp only [ag.at,Option.some.injEq] at ax
  simp only [walk,Option.some.injEq] at wr
  subst ax wr
  have bc:ae<(ag.own cJ cX cs').kids.length:=(List.getElem?_eq_some_iff.1 hk).1
  obtain ⟨Fs,h1,al,aO,b4⟩:=h.kids (by intro e; rw [e] at bc; simp at bc)
  obtain ⟨u,hu,mn⟩:=h1 ae c hk
  simp only [walk,hu] at q_
  obtain ⟨h8,cM,hw,dT,dC,_⟩:=R.focus q mn ab
  rw [hw] at q_
  cases q_
  exact absurd (dC b (dT.po b w4)) (b4 cJ cX cs' rfl b w5 ae bc)
 | ae::q,k::r,x,v,F,z,n,cJ,cX,cs,cs',oO,Bz,h,bO,ax,q_,wr,w4,w5=>by
  obtain ⟨c,aa,ab⟩:=ag.tt bO
  obtain ⟨d,hk,aV⟩:=ag.tt ax
  have fq:ae<x.kids.length:=(List.getElem?_eq_some_iff.1 aa).1
  have dZ:k<x.kids.length:=(List.getElem?_eq_some_iff.1 hk).1
  obtain ⟨Fs,h1,al,aO,b4⟩:=h.kids (by intro e; rw [e] at fq; simp at fq)
  obtain ⟨u,hu,mn⟩:=h1 ae c aa
  obtain ⟨s9,fN,Fh⟩:=h1 k d hk
  simp only [walk,hu] at q_
  simp only [walk,fN] at wr
  by_cases eV:ae=k
  ·subst eV
   rw [aa] at hk; cases hk
   rw [hu] at fN; cases fN
   rw [R.He q r mn ab aV q_ wr w4 w5]
  ·exfalso
   obtain ⟨h8,cM,hw,dT,dC,_⟩:=R.focus q mn ab
   obtain ⟨US,ji,ub,zJ,Qt,_⟩:=R.focus r Fh aV
   rw [hw] at q_; cases q_
   rw [ub] at wr; cases wr
   exact eV (al ae k b fq dZ (dC b (dT.po b w4)) (Qt b (zJ.po b w5)))
theorem ag.MA:∀ (q:List Nat) {x y:ag},x.at q=some y->x.setAt q y=x
 | [],x,y,h=>by simp [ag.at] at h; simp [ag.setAt,h]
 | k::q,x,y,h=>by
  obtain ⟨c,hk,ab⟩:=ag.tt h
  simp only [ag.setAt,hk,ag.MA q ab]
  have:∀ (l:List ag),l[k]?=some c->l.set k c=l:=by
   intro l ao
   apply List.ext_getElem?
   intro ae
   by_cases eV:k=ae
   ·subst eV
    have bc:k<l.length:=(List.getElem?_eq_some_iff.1 ao).1
    rw [List.getElem?_set_self bc,ao]
   ·rw [List.getElem?_set_ne eV]
  cases x <;> simp [ag.kids] at hk <;> simp [ag.uz,this _ hk]
theorem BC (w:World):∀ (p:List Nat) (v:Value) (r:List Nat),walk w v (p++r)=(walk w v p).bind λu=>walk w u r
 | [],v,r=>rfl
 | k::p,v,r=>by
  simp only [List.cons_append,walk]
  cases child w v k with
  | none=>rfl
  | some u=>exact BC w p u r
theorem ag.Eb:∀ (p:List Nat) (x:ag) (r:List Nat),x.at (p++r)=(x.at p).bind λy=>y.at r
 | [],x,r=>rfl
 | k::p,x,r=>by
  simp only [List.cons_append,ag.at]
  cases x.kids[k]? with
  | none=>rfl
  | some u=>exact ag.Eb p u r
structure BZ (w w':World) (b M:Nat):Prop where
 other:∀ c,c<w.heap.size->c≠b->w'.heap[c]?=w.heap[c]?
 here:∃ (arr jn:Array Value) (e:TypeId),w.heap[b]?=some (.cells arr e (0,0))/\w'.heap[b]?=some (.cells jn e (0,0))/\jn.size=arr.size/\jn.toList.take M=arr.toList.take M
theorem BZ.row {b M:Nat}(s:BZ w w' b M) {e:TypeId}{z n:Nat}{v:Value}{us:List Value}(h:w.ownsRow 0 e z v n us) (aL:v.ownBlock=some b->n * z<=M):w'.ownsRow 0 e z v n us:=by
 by_cases aH:v.ownBlock=some b
 ·obtain ⟨arr,jn,dt,h1,al,aO,b4⟩:=s.here
  obtain ⟨hu,b9⟩:=h
  rcases b9 with ⟨rfl,rfl⟩ | ⟨g,cap,cur,rfl,a8,ab,sY,fP,uu,rS⟩
  ·simp [Value.ownBlock] at aH
  ·simp only [Value.ownBlock,Option.some.injEq] at aH
   subst aH
   rw [h1] at ab
   cases ab
   refine ⟨hu,.inr ⟨g,cap,jn,rfl,a8,al,sY,fP,by omega,?_⟩⟩
   rw [<- rS]
   have:=congrArg (List.take (n * z)) b4
   rwa [List.take_take,List.take_take,Nat.min_eq_left (aL rfl)] at this
 ·exact ui h λc ab=>s.other c (h.lt c ab).2 λe=>aH (e ▸ ab)
theorem R.spare {b M:Nat}(s:BZ w w' b M) (bt:∀ c,I c->c<w.heap.size/\c≠b) (lu:∀ x v,ρ x v->ρ' x v) {x:ag}{v:Value}{F:br}(h:R w I ρ x v F) {q:List Nat}{z n:Nat}{cs:List ag}{h8:Value}
  (gn:x.at q=some (.own z n cs)) (hw:walk w v q=some h8) (aH:h8.ownBlock=some b) (aL:n * z<=M) :
  R w' I ρ' x v F/\∀ r y,x.at r=some y->walk w' v r=walk w v r:=by
 obtain ⟨US,cM,ub,dT,dC,gb,j'⟩:=R.focus q h gn
 rw [hw] at ub
 cases ub
 have l3:cM b:=dT.po b aH
 have bc:=h.lt
 have same:∀ c,F c->c≠b->w'.heap[c]?=w.heap[c]?:=λc ab eI=>s.other c (bc c ab) eI
 have VH:=dT
 cases dT with
 | ref J=>simp [ag.isRef] at J
 | @own _ _ _ _ e us Fs _ bd ao h1 ax aV j3 aR =>
  have mw:=s.row bd λ_=>aL
  have eI:∀ k c,k<cs.length->Fs k c->c≠b:=λk c hk ab e=>j3 k c hk ab (e ▸ aH)
  have jo:∀ k c,k<cs.length->Fs k c->F c:=λk c hk ab=>dC c ((aR c).2 (.inr ⟨k,hk,ab⟩))
  have qL:R w' I ρ' (.own z n cs) h8 cM:=by
   refine .own mw ao h1 (λk x u J hu=>?_) aV j3 aR
   have hk:k<cs.length:=(List.getElem?_eq_some_iff.1 J).1
   exact (ax k x u J hu).frame (λc ab=>s.other c (bt c ab).1 (bt c ab).2) (λ_ h=>h) lu λc ab=>same c (jo k c hk ab) (eI k c hk ab)
  constructor
  ·obtain ⟨fK,jq,nv⟩:=j' w' I ρ' _ cM ⟨λc ab=>s.other c (bt c ab).1 (bt c ab).2,λc ab aL=>same c ab λe=>aL (e ▸ l3),λ_ h=>h,lu⟩ qL λc ab _=>ab
   rw [ag.MA q gn] at jq
   refine jq.xb λc=>?_
   rw [nv c]
   constructor
   ·rintro (⟨h,_⟩ | h)
    ·exact h
    ·exact dC c h
   ·intro h
    by_cases ab:cM c
    ·exact .inr ab
    ·exact .inl ⟨h,ab⟩
  ·obtain ⟨jx,ik⟩:=gb w' λc ab aL=>same c ab λe=>aL (e ▸ l3)
   intro r y eY
   rcases ik r y eY with ⟨fc,rfl⟩ | h
   ·rw [BC,BC,jx,hw]
    simp only [Option.bind_some]
    cases fc with
    | nil=>rfl
    | cons k fc =>
     rw [ag.Eb,gn] at eY
     obtain ⟨c,hk,ab⟩:=ag.tt (x:=.own z n cs) eY
     simp only [ag.kids] at hk
     have dZ:k<cs.length:=(List.getElem?_eq_some_iff.1 hk).1
     have hu:us[k]?=some us[k]:=List.getElem?_eq_getElem (ao ▸ dZ)
     have:=R.oP (w':=w') fc (ax k c _ hk hu) ab λc ab=>same c (jo k c dZ ab) (eI k c dZ ab)
     simp [walk,n5 bd hu,n5 mw hu,this]
   ·exact h
end
end Go.Own
namespace Go.Own
open Go
section
variable {w w':World}{I:br}{T:Array Value}{g:aY}{Fs:Nat->br}
theorem cY.HL (h:cY w I T g Fs) {t:Nat}{x:ag}(J:g t=some x):∃ v,T[t]?=some v/\ed w T ⟨t,[]⟩=some v/\jD w I (eg w T g) x v (Fs t):=by
 obtain ⟨v,hv,bf⟩:=h.rel t x J
 exact ⟨v,hv,by simp [ed,hv,walk],bf⟩
theorem cY.app (h:cY w I T g Fs) {z n m:Nat}{p:Place}{bv hF:Value}{e c3:TypeId}{us news:List Value}(jM:eg w T g (.bX z p n 0 []) bv)
  (gI:∀ t cJ cX m' dj,g t≠some (.bX cJ p cX m' dj)) (A:BN w w' bv hF e c3 z n m us news):cY w' I T g Fs/\∀ r v,eg w T g r v->eg w' T g r v:=by
 cases j3:bv.ownBlock with
 | none =>
  have same:∀ c,c<w.heap.size->w'.heap[c]?=w.heap[c]?:=λc ab=>A.fE.block c ab (by rw [j3]; simp)
  exact ⟨h.world (λt c ab=>same c (h.jQ t c ab)) (λc ab=>same c (h.lt c ab)) A.fE.size,λr v ax=>h.Dw (λ_ _=>rfl) (λt c ab=>same c (h.jQ t c ab)) (λ_ _ h=>h) ax⟩
 | some b =>
  have s:BZ w w' b (n * z):=by
   refine ⟨λc ab eI=>A.fE.block c ab (by rw [j3]; simpa using Ne.symm eI),?_⟩
   obtain ⟨arr,jn,h1,al,aO,b4⟩:=A.sp b j3
   exact ⟨arr,jn,e,h1,al,aO,b4⟩
  obtain ⟨t0,rL⟩:=h.B7 jM b j3
  have bt:∀ c,I c->c<w.heap.size/\c≠b:=λc ab=>⟨h.lt c ab,λe=>h.aE t0 b rL (e ▸ ab)⟩
  obtain ⟨⟨uS,uT,FA,rfl⟩,e8⟩:=jM
  -- the home of the block
  have home:∃ N:Place->Prop,(∀ q cJ cX cs' oO,b7 g q=some (.own cJ cX cs')->ed w T q=some oO->oO.ownBlock=some b->N q) /\
    (∀ q,N q->∀ t cJ cX m' dj,g t=some (.bX cJ q cX m' dj)->t=p.root/\p.path=[]) /\
    (∀ t cJ ga cX m' dj,Fs t b->g t=some (.bX cJ ga cX m' dj)->t=p.root/\p.path=[]) /\
    (∀ cJ ga cX m' dj,p.path=[]->g p.root=some (.bX cJ ga cX m' dj)->cJ=z/\n=cX+m') /\
    (∀ t x v,Fs t b->g t=some x->T[t]?=some v->R w I (eg w T g) x v (Fs t)->∃ q cJ cX cs' h8,x.at q=some (.own cJ cX cs')/\walk w v q=some h8/\h8.ownBlock=some b/\cX * cJ<=n * z):=by
   rcases e8 with ⟨cs,aG⟩ | ⟨iU,j_,mJ,m1,Wi,cs,aG,aL,z8⟩
   ·-- the base is a row of a tree
    obtain ⟨pD,pG,gP,hP,l1⟩:=h.part aG (by simp)
    rw [FA] at gP
    cases gP
    have jO:t0=p.root:=h.e5 _ _ _ rL (l1 b (hP.po b j3))
    obtain ⟨fl,jI⟩:∃ fl,g p.root=some fl:=by
     unfold b7 at aG
     cases J:g p.root with
     | none=>rw [J] at aG; cases aG
     | some x=>exact ⟨x,rfl⟩
    have oB:fl.at p.path=some (.own z n cs):=by simpa [b7,jI] using aG
    have k8:∀ cJ ga cX m' dj,g p.root≠some (.bX cJ ga cX m' dj):=by
     intro cJ ga cX m' dj b9
     rw [jI] at b9
     cases b9
     have:=(ag.rp oB).2
     simp at this
    obtain ⟨v0,iG,gF⟩:=h.rel _ _ jI
    have zG:=gF.hB (λcJ ga cX m' dj e=>k8 cJ ga cX m' dj (by rw [jI,e]))
    have Ah:walk w v0 p.path=some (.slice uS n uT):=by simpa [ed,iG] using FA
    refine ⟨λq=>q=p,?_,?_,?_,?_,?_⟩
    ·intro q cJ cX cs' oO bO rN vj
     obtain ⟨M1,Nr,ua,Ff,E8⟩:=h.part bO (by simp)
     rw [rN] at ua
     cases ua
     have ax:q.root=p.root:=(h.e5 _ _ _ (E8 b (Ff.po b vj)) rL).trans jO
     have zN:fl.at q.path=some (.own cJ cX cs'):=by simpa [b7,ax,jI] using bO
     have Gl:walk w v0 q.path=some oO:=by simpa [ed,ax,iG] using rN
     have:=R.He q.path p.path zG zN oB Gl Ah vj j3
     cases q; cases p; simp_all
    ·rintro q rfl t cJ cX m' dj b9; exact absurd b9 (gI t cJ cX m' dj)
    ·intro t cJ ga cX m' dj oE b9
     have:t=p.root:=(h.e5 _ _ _ oE rL).trans jO
     rw [this] at b9
     exact absurd b9 (k8 _ _ _ _ _)
    ·intro cJ ga cX m' dj _ b9; exact absurd b9 (k8 _ _ _ _ _)
    ·intro t x v oE J hv bf
     have:t=p.root:=(h.e5 _ _ _ oE rL).trans jO
     subst this
     rw [jI] at J; cases J
     rw [iG] at hv; cases hv
     exact ⟨_,_,_,_,_,oB,Ah,j3,Nat.le_refl _⟩
   ·-- the base is behind an append itself
    obtain ⟨v0,iG,Af,gF⟩:=h.HL aG
    have Sl:v0=.slice uS n uT:=by
     have:(⟨p.root,[]⟩:Place)=p:=by cases p; simp_all
     rw [this,FA] at Af
     exact (Option.some.inj Af).symm
    subst Sl
    obtain ⟨Og,dt,Vl,UL,Wk,gF⟩:=gF.uf
    by_cases dg:Og.ownBlock=some b
    ·obtain ⟨⟨aw,I_,Lj,rfl⟩,_⟩:=gF.jM
     obtain ⟨oO,Nr,rN,Ff,E8⟩:=h.part z8 (by simp)
     rw [Lj] at rN
     cases rN
     have jO:t0=j_.root:=h.e5 _ _ _ rL (E8 b (Ff.po b dg))
     obtain ⟨fl,jI⟩:∃ fl,g j_.root=some fl:=by
      unfold b7 at z8
      cases J:g j_.root with
      | none=>rw [J] at z8; cases z8
      | some x=>exact ⟨x,rfl⟩
     have oB:fl.at j_.path=some (.own z mJ cs):=by simpa [b7,jI] using z8
     have k8:∀ cJ ga cX m' dj,g j_.root≠some (.bX cJ ga cX m' dj):=by
      intro cJ ga cX m' dj b9
      rw [jI] at b9
      cases b9
      have:=(ag.rp oB).2
      simp at this
     obtain ⟨v1,sL,zH⟩:=h.rel _ _ jI
     have QH:=zH.hB (λcJ ga cX m' dj e=>k8 cJ ga cX m' dj (by rw [jI,e]))
     have Ah:walk w v1 j_.path=some (.slice aw mJ I_):=by simpa [ed,sL] using Lj
     refine ⟨λq=>q=j_,?_,?_,?_,?_,?_⟩
     ·intro q cJ cX cs' oO bO rN vj
      obtain ⟨M1,Ns,ua,Fg,E9⟩:=h.part bO (by simp)
      rw [rN] at ua
      cases ua
      have ax:q.root=j_.root:=(h.e5 _ _ _ (E9 b (Fg.po b vj)) rL).trans jO
      have zN:fl.at q.path=some (.own cJ cX cs'):=by simpa [b7,ax,jI] using bO
      have Gl:walk w v1 q.path=some oO:=by simpa [ed,ax,sL] using rN
      have:=R.He q.path j_.path QH zN oB Gl Ah vj dg
      cases q; cases j_; simp_all
     ·rintro q rfl t cJ cX m' dj b9; exact ⟨h.p_ _ _ _ _ _ _ _ _ _ _ _ b9 aG,iU⟩
     ·intro t cJ ga cX m' dj oE b9
      have:t=j_.root:=(h.e5 _ _ _ oE rL).trans jO
      rw [this] at b9
      exact absurd b9 (k8 _ _ _ _ _)
     ·intro cJ ga cX m' dj _ b9
      rw [aG] at b9; cases b9; exact ⟨rfl,aL⟩
     ·intro t x v oE J hv bf
      have:t=j_.root:=(h.e5 _ _ _ oE rL).trans jO
      subst this
      rw [jI] at J; cases J
      rw [sL] at hv; cases hv
      exact ⟨_,_,_,_,_,oB,Ah,dg,Nat.mul_le_mul_right _ (by omega)⟩
    ·have qD:Fs p.root b:=(gF.aR b).2 ⟨j3,dg⟩
     have jO:t0=p.root:=h.e5 _ _ _ rL qD
     refine ⟨λ_=>False,?_,λ_ h=>h.elim,?_,?_,?_⟩
     ·intro q cJ cX cs' oO bO rN vj
      obtain ⟨M1,Ns,ua,Fg,E9⟩:=h.part bO (by simp)
      rw [rN] at ua
      cases ua
      have ax:q.root=p.root:=h.e5 _ _ _ (E9 b (Fg.po b vj)) qD
      unfold b7 at bO
      rw [ax,aG] at bO
      have:=(ag.rp bO).2
      simp at this
     ·intro t cJ ga cX m' dj oE _; exact ⟨h.e5 _ _ _ oE qD,iU⟩
     ·intro cJ ga cX m' dj _ b9
      rw [aG] at b9; cases b9; exact ⟨rfl,aL⟩
     ·intro t x v oE J hv bf
      have:t=p.root:=h.e5 _ _ _ oE qD
      subst this
      rw [aG] at J; cases J
      exact bf.k8.elim
  obtain ⟨N,Ko,Kp,Kq,QD,QE⟩:=home
  -- rows of pends
  have pends:∀ t cJ ga cX m' dj v w6 cW si iL Dd,g t=some (.bX cJ ga cX m' dj)->T[t]?=some v->DY w I (eg w T g) cJ ga cX m' dj v (Fs t) w6 cW si iL Dd ->
    (v.ownBlock=some b->(cX+m') * cJ<=n * z)/\(w6.ownBlock=some b->cX * cJ<=n * z):=by
   intro t cJ ga cX m' dj v w6 cW si iL Dd a8 hv bf
   by_cases aD:t=p.root/\p.path=[]
   ·obtain ⟨rfl,iU⟩:=aD
    obtain ⟨rfl,rfl⟩:=QD _ _ _ _ _ iU a8
    exact ⟨λ_=>Nat.le_refl _,λ_=>Nat.mul_le_mul_right _ (by omega)⟩
   ·have tK:w6.ownBlock≠some b:=by
     intro kC
     obtain ⟨⟨a2,qx,Lk,rfl⟩,RW⟩:=bf.jM
     rcases RW with ⟨cs2,al⟩ | ⟨bb,Bl,LN,m3,Wj,Vk,al,aO,b4⟩
     ·exact aD (Kp ga (Ko ga _ _ _ _ al Lk kC) t _ _ _ _ a8)
     ·obtain ⟨v2,xC,Li,l2⟩:=h.HL al
      have xx:(⟨ga.root,[]⟩:Place)=ga:=by cases ga; simp_all
      rw [xx,Lk] at Li
      cases Li
      have K':ga.root=p.root/\p.path=[]->False:=by
       rintro ⟨ax,iU⟩
       have:ga=p:=by cases ga; cases p; simp_all
       exact gI t cJ cX m' dj (this ▸ a8)
      obtain ⟨Oh,jY,Vm,Ws,Wl,l2⟩:=l2.uf
      by_cases fb:Oh.ownBlock=some b
      ·obtain ⟨⟨a4,Vj,Sn,rfl⟩,_⟩:=l2.jM
       exact K' (Kp Bl (Ko Bl _ _ _ _ b4 Sn fb) _ _ _ _ _ al)
      ·exact K' (Kq _ _ _ _ _ _ ((l2.aR b).2 ⟨kC,fb⟩) al)
    refine ⟨λSp=>?_,λkC=>absurd kC tK⟩
    exact absurd (Kq _ _ _ _ _ _ ((bf.aR b).2 ⟨Sp,tK⟩) a8) aD
  -- trees
  have bc:=h.jQ
  have trees:∀ t x v (ρ':ag->Value->Prop),(∀ x v,eg w T g x v->ρ' x v)->g t=some x->T[t]?=some v->R w I (eg w T g) x v (Fs t)->R w' I ρ' x v (Fs t)/\∀ r y,x.at r=some y->walk w' v r=walk w v r:=by
   intro t x v ρ' lu J hv bf
   by_cases oE:Fs t b
   ·obtain ⟨q,cJ,cX,cs',h8,h1,al,aO,b4⟩:=QE t x v oE J hv bf
    exact bf.spare s bt lu h1 al aO b4
   ·have same:∀ c,Fs t c->w'.heap[c]?=w.heap[c]?:=λc ab=>s.other c (bc t c ab) λe=>oE (e ▸ ab)
    exact ⟨bf.frame (λc ab=>s.other c (bt c ab).1 (bt c ab).2) (λ_ h=>h) lu same,λr y ax=>R.oP r bf ax same⟩
  have val:∀ q y,b7 g q=some y->ed w' T q=ed w T q:=by
   intro q y bO
   unfold b7 at bO
   cases J:g q.root with
   | none=>rw [J] at bO; cases bO
   | some x =>
    rw [J] at bO
    obtain ⟨v,hv,bf⟩:=h.rel _ _ J
    cases bf with
    | tree bf=>have:=(trees _ x v _ (λ_ _ h=>h) J hv bf).2 q.path y bO; simp [ed,hv,this]
    | bX bf=>simp [ed,hv,(ag.rp bO).1,walk]
  have slot:∀ {q:Place}{x:ag},q.path=[]->g q.root=some x->ed w' T q=ed w T q:=by
   intro q x bO J
   obtain ⟨v,hv,_⟩:=h.rel _ _ J
   simp [ed,bO,walk]
  have refs:∀ r v,eg w T g r v->eg w' T g r v:=by
   rintro r v ⟨h1,al⟩
   refine ⟨?_,al⟩
   cases r <;> simp only [fS,gD] at h1 al ⊢
   case ptr q k=>obtain ⟨y,az,_⟩:=al; rw [val q y az]; exact h1
   case bn cJ q cX =>
    rcases al with ⟨_,_,al,_⟩ | ⟨bb,_,_,_,_,al,_⟩
    ·rw [val q _ al]; exact h1
    ·rw [slot bb al]; exact h1
   case sub cJ q lo cX=>obtain ⟨_,_,al,_⟩:=al; rw [val q _ al]; exact h1
   case hD q=>obtain ⟨_,al⟩:=al; rw [val q _ al]; exact h1
   case bX cJ q cX m' dj =>
    rcases al with ⟨_,al⟩ | ⟨bb,_,_,_,_,_,al,_⟩
    ·rw [val q _ al]; exact h1
    ·rw [slot bb al]; exact h1
  refine ⟨⟨λt x J=>?_,h.kI,h.e5,h.aE,λc ab=>Nat.lt_of_lt_of_le (h.lt c ab) A.fE.size,h.p_⟩,refs⟩
  obtain ⟨v,hv,bf⟩:=h.rel t x J
  refine ⟨v,hv,?_⟩
  cases bf with
  | tree bf=>exact .tree (trees t x v _ refs J hv bf).1
  | @bX cJ cX m' ga dj _ w6 cW si iL Dd _ bf =>
   obtain ⟨fA,p8⟩:=pends t _ _ _ _ _ v w6 cW si iL Dd J hv bf
   refine .bX ⟨refs _ _ bf.jM,s.row bf.k5 p8,s.row bf.mx fA,bf.ao,bf.h1,λk x u J hu=>?_,bf.aR⟩
   exact (bf.ax k x u J hu).frame (λc ab=>s.other c (bt c ab).1 (bt c ab).2) (λ_ h=>h) refs λc ab=>ab.elim
end
end Go.Own
namespace Go.Own
open Go
def tf (w:World) (I:br) (T:Array Value) (g:aY) (Fs:Nat->br) (x:ag) (v:Value) (w':World):Prop :=
 ∃ F I',cY w' I' T g Fs/\jD w' I' (eg w' T g) x v F/\(∀ t c,F c->¬ Fs t c)/\(∀ c,F c->w.heap.size<=c/\¬ I' c)/\(∀ c,I c->I' c)/\(∀ c,I' c->I c\/w.heap.size<=c)/\Fr w w' (λc=>∃ t,Fs t c)/\(∀ z p n m new,x=.bX z p n m new->∀ t cJ cX m' dj,g t≠some (.bX cJ p cX m' dj))
inductive Src (g:aY):ag->Nat->Nat->List ag->Prop
 | aE {z m:Nat}{cs:List ag}:Src g (.aE z m cs) z m cs
 | aK {z:Nat}:Src g .aK z 0 []
 | bn {z m N:Nat}{q:Place}{cs:List ag}(bO:b7 g q=some (.own z N cs)) (hm:m<=N):Src g (.bn z q m) z m ((cs.take (m * z)).mapIdx λi x=>ih 0 (q.push i) x)
 | sub {z lo m N:Nat}{q:Place}{cs:List ag}(bO:b7 g q=some (.own z N cs)) (hm:lo+m<=N):Src g (.sub z q lo m) z m (((cs.drop (lo * z)).take (m * z)).mapIdx λi x=>ih 0 (q.push (lo * z+i)) x)
def im (P:Program) (t e:TypeId) (z b:Nat):Bool :=
 match P.underlying t,P.info? e with
 | some (.slice cW),some i=>cW == e&&i.size == z&&i.bytes == b&&z != 0&&(match i.zero with | some v=>v.cells.size == z | none=>false)
 | _,_=>false
section
variable {P:Program}{w:World}{I:br}{T:Array Value}{g:aY}{Fs:Nat->br}
theorem IF {t e:TypeId}{z b:Nat}(h:im P t e z b=true):∃ i ef,P.underlying t=some (.slice e)/\P.info? e=some i/\i.size=z/\i.bytes=b/\0<z/\i.zero=some ef/\ef.cells.size=z:=by
 unfold im at h
 cases hu:P.underlying t with
 | none=>simp [hu] at h
 | some d =>
  cases hi:P.info? e with
  | none=>cases d <;> simp [hu,hi] at h
  | some i =>
   cases d <;> simp [hu,hi] at h
   obtain ⟨⟨⟨⟨rfl,h1⟩,al⟩,aO⟩,b4⟩:=h
   cases bM:i.zero with
   | none=>simp [bM] at b4
   | some ef=>simp [bM] at b4; exact ⟨i,ef,rfl,rfl,h1,al,by omega,bM,b4⟩
theorem Src.sound (h:cY w I T g Fs) {y:ag}{v:Value}{z m:Nat}{cells:List ag}(aN:Src g y z m cells) (bf:R w I (eg w T g) y v cU) :
  ∃ (a:Option Addr) (c:Nat) (news:List Value),v=.slice a m c/\news.length=m * z/\(0<m->0<z->a.isSome=true)/\(∀ ad,a=some ad->∀ (ae:Nat) (u:Value),news[ae]?=some u->w.cell? (ad.add ae)=some u)/\Cells w I (eg w T g) cells news:=by
 have LV:∀ {q:Place}{N:Nat}{cs:List ag}(lo:Nat) {a:Option Addr}{cap:Nat},b7 g q=some (.own z N cs)->ed w T q=some (.slice a N cap)->lo+m<=N ->
   ∃ news:List Value,news.length=m * z/\(∀ ad,a=some ad->∀ (ae:Nat) (u:Value),news[ae]?=some u->w.cell? ⟨ad.block,lo * z+ae,none⟩=some u)/\Cells w I (eg w T g) (((cs.drop (lo * z)).take (m * z)).mapIdx λi x=>ih 0 (q.push (lo * z+i)) x) news/\(0<m->0<z->∃ b,a=some ⟨b,0,none⟩):=by
  intro q N cs lo a cap bO hv hm
  obtain ⟨hF,cM,iy,dT,_⟩:=h.part bO (by simp)
  rw [hv] at iy
  cases iy
  obtain ⟨cE,lY,j4,_,hlen,pZ,_⟩:=dT.mL
  cases j4
  have VK:lo * z+m * z<=cs.length:=by rw [hlen,<- Nat.add_mul]; exact Nat.mul_le_mul_right _ hm
  have cell:∀ ae,ae<m * z->∃ b gB kt,a=some ⟨b,0,none⟩/\w.cell? ⟨b,lo * z+ae,none⟩=some gB/\gB.oneCell'=true/\cs[lo * z+ae]?=some kt/\R w I (eg w T g) (ih 0 (q.push (lo * z+ae)) kt) gB cU:=by
   intro ae aa
   have f_:cs[lo * z+ae]?=some cs[lo * z+ae]:=List.getElem?_eq_getElem (by omega)
   obtain ⟨b,gB,fX,lJ,l4,gO,bS,jZ⟩:=dT.node (.inl rfl) f_
   refine ⟨b,gB,_,?_,lJ,gO,f_,Dv 0 (by rw [r_,bO]; simp [ag.kids]) (by rw [wy,hv]; exact l4) jZ⟩
   cases a with
   | none=>simp [addrOf] at fX
   | some ad=>simp only [addrOf] at fX; rw [Option.some.inj fX]
  have sE:∃ news:List Value,news.length=m * z/\∀ ae,ae<m * z->∃ b gB kt,news[ae]?=some gB/\a=some ⟨b,0,none⟩/\w.cell? ⟨b,lo * z+ae,none⟩=some gB/\gB.oneCell'=true/\cs[lo * z+ae]?=some kt/\R w I (eg w T g) (ih 0 (q.push (lo * z+ae)) kt) gB cU:=by
   refine ⟨(List.range (m * z)).map λae=>(w.cell? ⟨(a.map (·.block)).getD 0,lo * z+ae,none⟩).getD undef,by simp,λae aa=>?_⟩
   obtain ⟨b,gB,kt,h1,al,aO,b4,df⟩:=cell ae aa
   refine ⟨b,gB,kt,?_,h1,al,aO,b4,df⟩
   rw [List.getElem?_map,List.getElem?_range aa,h1]
   simp [al]
  obtain ⟨news,ao,aL⟩:=sE
  refine ⟨news,ao,λad fX ae u aa=>?_,⟨?_,λae u aa=>?_,λae x u J aa=>?_⟩,λF0 Gy=>?_⟩
  ·obtain ⟨b,gB,kt,h1,al,aO,_⟩:=aL ae (by rw [<- ao]; exact (List.getElem?_eq_some_iff.1 aa).1)
   rw [h1] at aa; cases aa
   rw [fX] at al; cases al
   exact aO
  ·simp; omega
  ·obtain ⟨b,gB,kt,h1,al,aO,b4,_⟩:=aL ae (by rw [<- ao]; exact (List.getElem?_eq_some_iff.1 aa).1)
   rw [h1] at aa; cases aa; exact b4
  ·obtain ⟨b,gB,kt,h1,al,aO,b4,df,eL⟩:=aL ae (by rw [<- ao]; exact (List.getElem?_eq_some_iff.1 aa).1)
   rw [h1] at aa; cases aa
   rw [List.getElem?_mapIdx,List.getElem?_take] at J
   split at J
   ·rw [List.getElem?_drop,df] at J
    simp only [Option.map_some,Option.some.injEq] at J
    rw [<- J]; exact eL
   ·cases J
  ·obtain ⟨b,_,_,h1,_⟩:=cell 0 (Nat.mul_pos F0 Gy)
   exact ⟨b,h1⟩
 cases aN with
 | aE =>
  obtain ⟨a,cap,rfl,_,hlen,hm⟩:=bf.xG
  by_cases bb:cells≠[]\/0<m
  ·obtain ⟨ad,us,rfl,bt,kl,gO,ab,ax⟩:=hm bb
   refine ⟨_,cap,(List.range cells.length).map us,rfl,by simp [hlen],by simp,λNH fX ae u aa=>?_,⟨by simp,λae u aa=>?_,λae x u J aa=>?_⟩⟩
   ·cases fX
    rw [List.getElem?_map] at aa
    by_cases fq:ae<cells.length
    ·rw [List.getElem?_range fq] at aa
     simp only [Option.map_some,Option.some.injEq] at aa
     obtain ⟨b,o,sp⟩:=ad
     simp only at kl
     subst kl
     rw [add_eq,<- aa]
     exact ab ae _ (List.getElem?_eq_getElem fq)
    ·rw [List.getElem?_eq_none (by simp; omega)] at aa; cases aa
   ·rw [List.getElem?_map] at aa
    by_cases fq:ae<cells.length
    ·rw [List.getElem?_range fq] at aa
     simp only [Option.map_some,Option.some.injEq] at aa
     rw [<- aa]
     exact gO ae _ (List.getElem?_eq_getElem fq)
    ·rw [List.getElem?_eq_none (by simp; omega)] at aa; cases aa
   ·rw [List.getElem?_map] at aa
    have fq:ae<cells.length:=(List.getElem?_eq_some_iff.1 J).1
    rw [List.getElem?_range fq] at aa
    simp only [Option.map_some,Option.some.injEq] at aa
    rw [<- aa]
    exact ax ae x J
  ·have F0:m=0:=by omega
   have Rj:cells=[]:=Classical.byContradiction λe=>bb (.inl e)
   subst F0 Rj
   exact ⟨a,cap,[],rfl,by simp,by simp,by simp,by simp [Cells]⟩
 | aK =>
  rw [bf.qY]
  exact ⟨none,0,[],rfl,by simp,by simp,by simp,by simp [Cells]⟩
 | @bn _ _ N q cs bO hm =>
  obtain ⟨⟨a,i_,cap,h1,rfl,aO⟩,b4⟩:=bf.mG
  obtain ⟨hF,cM,iy,dT,_⟩:=h.part bO (by simp)
  obtain ⟨cE,lY,j4,_⟩:=dT.mL
  rw [h1] at iy
  cases iy
  cases j4
  obtain ⟨news,ao,ab,hy,bj⟩:=LV 0 bO h1 (by omega)
  simp only [Nat.zero_mul,List.drop_zero,Nat.zero_add] at hy ab
  refine ⟨a,cap,news,rfl,ao,λbb Cx=>by obtain ⟨b,rfl⟩:=bj bb Cx; rfl,λad fX ae u aa=>?_,hy⟩
  have tU:=ab ad fX ae u aa
  by_cases bb:0<m/\0<z
  ·obtain ⟨b,aH⟩:=bj bb.1 bb.2
   rw [fX] at aH; cases aH
   rw [add_eq]; simpa using tU
  ·have:m * z=0:=by
    rcases Nat.eq_zero_or_pos m with h | h
    ·simp [h]
    ·rcases Nat.eq_zero_or_pos z with aT | aT
     ·simp [aT]
     ·exact absurd ⟨h,aT⟩ bb
   have:=(List.getElem?_eq_some_iff.1 aa).1
   omega
 | @sub _ lo _ N q cs bO hm =>
  obtain ⟨⟨a,i_,cap,cE,lY,h1,rfl,_,aO,df⟩,b4⟩:=bf.vz
  obtain ⟨hF,cM,iy,dT,_⟩:=h.part bO (by simp)
  obtain ⟨a2,qx,j4,_⟩:=dT.mL
  rw [h1] at iy
  cases iy
  cases j4
  obtain ⟨news,ao,ab,hy,bj⟩:=LV lo bO h1 hm
  refine ⟨cE,lY,news,rfl,ao,λbb _=>by obtain ⟨ad,_,rfl⟩:=df bb; rfl,λad fX ae u aa=>?_,hy⟩
  have bc:=(List.getElem?_eq_some_iff.1 aa).1
  have bb:0<m:=(Nat.eq_zero_or_pos m).elim (λh=>by rw [h] at ao; omega) id

  have bM:0<z:=(Nat.eq_zero_or_pos z).elim (λh=>by rw [h] at ao; omega) id

  obtain ⟨NH,eL,lj⟩:=df bb
  obtain ⟨b,aH⟩:=bj bb bM
  rw [eL] at aH; cases aH
  rw [fX] at lj; cases lj
  have tU:=ab _ eL ae u aa
  rw [add_eq]; simpa using tU
end
end Go.Own
namespace Go.Own
open Go
inductive yJ (P:Program) (g:aY):Op->TypeId->ag->Prop
 | grow {s x:Operand}{t e ty:TypeId}{z b n m:Nat}{p:Place}{y:ag}{cells:List ag}(aN:bP g s=some (.bn z p n)) (e8:gD g (.bX z p n 0 [])) (gI:∀ t cJ cX m' dj,g t≠some (.bX cJ p cX m' dj))
   (J:bP g x=some y) (qN:Src g y z m cells) (aD:im P t e z b=true) (pT:n+m<=4611686018427387904) (aH:(n+m) * b<=140737488355328) :
   yJ P g (.call { callee:=.builtin .append,args:=#[s,x],argTypes:=#[t,t] }) ty (.bX z p n m cells)
 | nil {s x:Operand}{t e ty:TypeId}{z b m:Nat}{y:ag}{cells:List ag}(aN:bP g s=some .aK)
   (J:bP g x=some y) (qN:Src g y z m cells) (aD:im P t e z b=true) (pT:m<=4611686018427387904) (aH:m * b<=140737488355328) :
   yJ P g (.call { callee:=.builtin .append,args:=#[s,x],argTypes:=#[t,t] }) ty (.own z m cells)
inductive dE (P:Program) (g:aY):Op->TypeId->ag->Prop
 | fA {op:Op}{ty:TypeId}{x:ag}(h:dB P g op ty x):dE P g op ty x
 | p8 {op:Op}{ty:TypeId}{x:ag}(h:oV P g op ty x):dE P g op ty x
 | Dk {op:Op}{ty:TypeId}{x:ag}(h:ti P g op ty x):dE P g op ty x
 | lv {op:Op}{ty:TypeId}{x:ag}(h:yJ P g op ty x):dE P g op ty x
section
variable {P:Program}{w:World}{I:br}{T:Array Value}{g:aY}{Fs:Nat->br}
theorem Cells.frame {w':World}{cells:List ag}{news:List Value}(ab:Cells w I (eg w T g) cells news) (bt:∀ c,I c->w'.heap[c]?=w.heap[c]?) (ax:∀ r v,eg w T g r v->eg w' T g r v):Cells w' I (eg w' T g) cells news :=
 ⟨ab.1,ab.2.1,λk x u J hu=>(ab.2.2 k x u J hu).frame bt (λ_ h=>h) ax λ_ h=>h.elim⟩
theorem yJ.sound (h:cY w I T g Fs) {a:Act}(bj:a.tmps=T) {o:Oper}{kd:ag}(aG:yJ P g o.op o.type kd) :
  ∃ v w',(execOp a.eval o).run P w=.ok (.value v) w'/\tf w I T g Fs kd v w':=by
 obtain ⟨dst,op,ty,pos,after,guard⟩:=o
 simp only at aG
 cases aG with
 | @grow s x t e _ z b n m p y cells aN e8 gI J qN aD pT aH =>
  obtain ⟨i,ef,hu,hi,rfl,rfl,bb,bM,n2⟩:=IF aD
  obtain ⟨⟨uS,N,uT,h1,al,aO⟩,b4⟩:=(j9 h aN bj).mG
  obtain ⟨Bn,Hy,news,sJ,ao,Ab,Gc,hy⟩:=qN.sound h (j9 h J bj)
  -- the row of the base
  have oC:N=n/\∃ cW us,w.ownsRow 0 cW i.size (.slice uS n uT) n us:=by
   rcases e8 with ⟨cs,aG⟩ | ⟨iU,q,gY,m0,new,cs,aG,rfl,_⟩
   ·obtain ⟨hF,cM,iy,dT,_⟩:=h.part aG (by simp)
    rw [h1] at iy
    cases iy
    obtain ⟨cE,lY,j4,_⟩:=dT.mL
    cases j4
    cases dT with
    | own bd=>exact ⟨rfl,_,_,bd⟩
    | ref J=>simp [ag.isRef] at J
   ·obtain ⟨v0,iG,Af,gF⟩:=h.HL aG
    have bO:(⟨p.root,[]⟩:Place)=p:=by cases p; simp_all
    rw [bO,h1] at Af
    cases Af
    obtain ⟨bv,dt,c3,us,Wm,gF⟩:=gF.uf
    have bW:N=gY+m0:=by
     obtain ⟨_,b9⟩:=gF.mx
     rcases b9 with ⟨b9,aL⟩ | ⟨g,cap,cur,b9,_⟩
     ·cases b9; omega
     ·cases b9; rfl
    subst bW
    exact ⟨rfl,_,_,gF.mx⟩
  obtain ⟨rfl,cW,us,k5⟩:=oC
  have jM:eg w T g (.bX i.size p N 0 []) (.slice uS N uT):=⟨⟨uS,uT,h1,rfl⟩,e8⟩
  obtain ⟨hF,w',c3,hW,A⟩:=Mm (P:=P) (w:=w) t ty e cW i ef hu hi bM n2 bb k5 (a:=Bn) (c:=Hy) (m:=m) (news:=news) (λhm=>Ab hm bb) ao Gc (λu hu=>by
   obtain ⟨k,hk,rfl⟩:=List.mem_iff_getElem.1 hu
   exact hy.2.1 k _ (List.getElem?_eq_getElem hk)) (by unfold maxLen; omega) aH
  obtain ⟨bT,hrefs⟩:=h.app jM gI A
  refine ⟨hF,w',by simp [execOp,resolve,invoke,builtin,al,sJ,hW],(λc=>hF.ownBlock=some c/\(Value.slice uS N uT).ownBlock≠some c),I,bT,?_,?_,?_,λ_ h=>h,λ_ h=>.inl h,?_,?_⟩
  ·have bt:∀ c,I c->w'.heap[c]?=w.heap[c]?:=by
    intro c ab
    refine A.fE.block c (h.lt c ab) λaH=>?_
    obtain ⟨t,aD⟩:=h.B7 jM c aH
    exact h.aE t c aD ab
   have lq:=hy.frame bt hrefs
   exact .bX ⟨hrefs _ _ jM,A.lQ,A.new,lq.1,lq.2.1,lq.2.2,λc=>Iff.rfl⟩
  ·rintro t c ⟨lI,sB⟩ bl
   rcases A.B8 c lI with h | aT
   ·exact sB h
   ·have:=h.jQ t c bl; omega
  ·rintro c ⟨lI,sB⟩
   rcases A.B8 c lI with aT | aT
   ·exact absurd aT sB
   ·exact ⟨aT,λhi=>by have:=h.lt c hi; omega⟩
  ·exact A.fE.mono λc _ ab=>h.B7 jM c ab
  ·intro cJ Tz cX m' dj he
   cases he
   exact gI
 | @nil s x t e _ z b m y cells aN J qN aD pT aH =>
  obtain ⟨i,ef,hu,hi,rfl,rfl,bb,bM,n2⟩:=IF aD
  have al:=(j9 h aN bj).qY
  obtain ⟨Bn,Hy,news,sJ,ao,Ab,Gc,hy⟩:=qN.sound h (j9 h J bj)
  obtain ⟨hF,w',c3,hW,A⟩:=Mm (P:=P) (w:=w) t ty e e i ef hu hi bM n2 bb (World.ownsRow_nil w 0 e i.size) (a:=Bn) (c:=Hy) (m:=m) (news:=news) (λhm=>Ab hm bb) ao Gc (λu hu=>by
   obtain ⟨k,hk,rfl⟩:=List.mem_iff_getElem.1 hu
   exact hy.2.1 k _ (List.getElem?_eq_getElem hk)) (by unfold maxLen; omega) (by simpa using aH)
  have same:∀ c,c<w.heap.size->w'.heap[c]?=w.heap[c]?:=λc ab=>A.fE.block c ab (by simp [Value.ownBlock])
  have qL:=A.new
  simp only [Nat.zero_add,List.nil_append] at qL
  have lq:=hy.frame (λc ab=>same c (h.lt c ab)) λr v ax=>h.Dw (λ_ _=>rfl) (λt c ab=>same c (h.jQ t c ab)) (λ_ _ h=>h) ax
  have hblk:∀ c,hF.ownBlock=some c->w.heap.size<=c:=λc ab=>(A.B8 c ab).elim (λh=>by simp [Value.ownBlock] at h) id
  refine ⟨hF,w',by simp [execOp,resolve,invoke,builtin,al,sJ,hW],(λc=>hF.ownBlock=some c),I,h.world (λt c ab=>same c (h.jQ t c ab)) (λc ab=>same c (h.lt c ab)) A.fE.size,?_,?_,λc ab=>⟨hblk c ab,λhi=>by have:=h.lt c hi; have:=hblk c ab; omega⟩,λ_ h=>h,λ_ h=>.inl h,?_,?_⟩
  ·exact .tree (.own (Fs:=λ_=>cU) qL lq.1 lq.2.1 lq.2.2 (λ_ _ _ _ _ h=>h.elim) (λ_ _ _ h=>h.elim) λc=>⟨.inl,λh=>h.elim id λ⟨_,_,h⟩=>h.elim⟩)
  ·intro t c ab bl; have:=hblk c ab; have:=h.jQ t c bl; omega
  ·exact A.fE.mono λc _ ab=>by simp [Value.ownBlock] at ab
  ·intro cJ Tz cX m' dj he; cases he
theorem dE.sound (h:cY w I T g Fs) {a:Act}(bj:a.tmps=T) {o:Oper}{kd:ag}(aG:dE P g o.op o.type kd) :
  ∃ v w',(execOp a.eval o).run P w=.ok (.value v) w'/\tf w I T g Fs kd v w':=by
 have AE:∀ {v:Value}{F:br},R w I (eg w T g) kd v F->∀ z p n m new,kd=.bX z p n m new->∀ t cJ cX m' dj,g t≠some (.bX cJ p cX m' dj):=by
  rintro v F bf z p n m new rfl
  exact bf.k8.elim
 cases aG with
 | fA aG =>
  obtain ⟨v,ax,bf⟩:=aG.sound h bj
  exact ⟨v,w,ax,cU,I,h,.tree bf,λ_ _ h=>h.elim,λ_ h=>h.elim,λ_ h=>h,λ_ h=>.inl h,Fr.refl _ _,AE bf⟩
 | Dk aG =>
  obtain ⟨v,ax,bf⟩:=aG.sound h bj
  exact ⟨v,w,ax,cU,I,h,.tree bf,λ_ _ h=>h.elim,λ_ h=>h.elim,λ_ h=>h,λ_ h=>.inl h,Fr.refl _ _,AE bf⟩
 | p8 aG =>
  obtain ⟨v,q2,ax,bf⟩:=aG.sound h bj
  refine ⟨v,_,ax,_,I,h.alloc q2,.tree bf,λt c ab bl=>?_,λc ab=>⟨by rw [ab]; exact Nat.le_refl _,λhi=>by have:=h.lt c hi; omega⟩,λ_ h=>h,λ_ h=>.inl h,Fr.alloc w q2 _ (by
   obtain ⟨o,h1,al⟩:=bf.TG w.heap.size rfl
   rw [r8] at h1
   cases h1
   exact al),?_⟩
  ·have:=h.jQ t c bl; omega
  ·rintro z p n m new rfl; exact bf.k8.elim
 | lv aG=>exact aG.sound h bj
end
end Go.Own
namespace Go.Own
open Go
inductive di:ag->Prop
 | lit {v:Value}:di (.lit v)
 | aK:di .aK
 | dead:di .dead
 | aE {z n:Nat}{cs:List ag}(h:∀ x∈cs,di x):di (.aE z n cs)
 | own {z n:Nat}{cs:List ag}(h:∀ x∈cs,di x):di (.own z n cs)
 | obj {cs:List ag}(h:∀ x∈cs,di x):di (.obj cs)
 | agg {cs:List ag}(h:∀ x∈cs,di x):di (.agg cs)
 | cB {cs:List ag}(h:∀ x∈cs,di x):di (.cB cs)
 | bo {cs:List ag}(h:∀ x∈cs,di x):di (.bo cs)
 | er {fn:Fn}{a b:List ag}(h1:∀ x∈a,di x) (al:∀ x∈b,di x):di (.er fn a b)
 | mp {p:Array MapEntry->Nat->Prop}:di (.mp p)
 | imp {p:Array MapEntry->Nat->Prop}:di (.imp p)
inductive ky:ag->Prop
 | lit {v:Value}:ky (.lit v)
 | aK:ky .aK
 | dead:ky .dead
 | own {z n:Nat}{cs:List ag}(h:∀ x∈cs,ky x):ky (.own z n cs)
 | obj {cs:List ag}(h:∀ x∈cs,ky x):ky (.obj cs)
 | agg {cs:List ag}(h:∀ x∈cs,ky x):ky (.agg cs)
 | cB {cs:List ag}(h:∀ x∈cs,ky x):ky (.cB cs)
 | mp {p:Array MapEntry->Nat->Prop}:ky (.mp p)
theorem ky.bK {x:ag}(h:ky x):di x:=by
 induction h with
 | lit=>exact .lit
 | aK=>exact .aK
 | dead=>exact .dead
 | own _ aS=>exact .own aS
 | obj _ aS=>exact .obj aS
 | agg _ aS=>exact .agg aS
 | cB _ aS=>exact .cB aS
 | mp=>exact .mp
inductive Rows (g:aY):Place->Nat->Nat->List ag->Prop
 | own {p:Place}{z n:Nat}{cs:List ag}(aG:b7 g p=some (.own z n cs)):Rows g p z n cs
 | bX {t z n m:Nat}{q:Place}{new cs:List ag}(aD:g t=some (.bX z q n m new)) (bO:Rows g q z n cs):Rows g ⟨t,[]⟩ z (n+m) (cs++new)
theorem Rows.mono {g g':aY}(h:∀ {p:Place}{y:ag},b7 g p=some y->b7 g' p=some y) {p:Place}{z n:Nat}{cs:List ag}(ax:Rows g p z n cs) (al:∀ t x,g t=some x->g' t=some x):Rows g' p z n cs:=by
 induction ax with
 | own aG=>exact .own (h aG)
 | bX aD _ aS=>exact .bX (al _ _ aD) aS
inductive View (g:aY):ag->ag->Prop
 | self {x:ag}(h:di x) (J:∀ z n cs,x≠.own z n cs) (bd:∀ cs,x≠.obj cs) (bj:∀ cs,x≠.agg cs) (aD:∀ cs,x≠.cB cs) (hm:∀ p,x≠.mp p):View g x x
 | mp {p:Array MapEntry->Nat->Prop}:View g (.mp p) (.imp p)
 | hD {p:Place}{q:Array MapEntry->Nat->Prop}(aG:b7 g p=some (.mp q)):View g (.hD p) (.imp q)
 | pk {z:Nat}:View g .aK (.aE z 0 [])
 | agg {cs cs':List ag}(ao:cs'.length=cs.length) (h:∀ (k:Nat) (x y:ag),cs[k]?=some x->cs'[k]?=some y->View g x y):View g (.agg cs) (.agg cs')
 | own {z n:Nat}{cs cs':List ag}(ao:cs'.length=cs.length) (h:∀ (k:Nat) (x y:ag),cs[k]?=some x->cs'[k]?=some y->View g x y):View g (.own z n cs) (.aE z n cs')
 | obj {cs cs':List ag}(ao:cs'.length=cs.length) (h:∀ (k:Nat) (x y:ag),cs[k]?=some x->cs'[k]?=some y->View g x y):View g (.obj cs) (.bo cs')
 | bn {z n N:Nat}{p:Place}{cs cs':List ag}(aG:b7 g p=some (.own z N cs)) (aL:n<=N) (ao:cs'.length=(cs.take (n * z)).length) (h:∀ (k:Nat) (x y:ag),(cs.take (n * z))[k]?=some x->cs'[k]?=some y->View g x y):View g (.bn z p n) (.aE z n cs')
 | sub {z lo n N:Nat}{p:Place}{cs cs':List ag}(aG:b7 g p=some (.own z N cs)) (aL:lo+n<=N) (ao:cs'.length=((cs.drop (lo * z)).take (n * z)).length) (h:∀ (k:Nat) (x y:ag),((cs.drop (lo * z)).take (n * z))[k]?=some x->cs'[k]?=some y->View g x y):View g (.sub z p lo n) (.aE z n cs')
 | ptr {p:Place}{k z n:Nat}{y:ag}{cs cs':List ag}(aG:b7 g p=some y) (az:y=.own z n cs\/y=.obj cs) (hk:k<cs.length) (ao:cs'.length=(cs.drop k).length) (h:∀ (ae:Nat) (x y:ag),(cs.drop k)[ae]?=some x->cs'[ae]?=some y->View g x y):View g (.ptr p k) (.bo cs')
 | er {fn:Fn}{cs cs':List ag}(ao:cs'.length=cs.length) (h:∀ (k:Nat) (x y:ag),cs[k]?=some x->cs'[k]?=some y->View g x y):View g (.er fn [] cs) (.er fn [] cs')
 | rows {z n:Nat}{p:Place}{cs cs':List ag}(aG:Rows g p z n cs) (ao:cs'.length=cs.length) (h:∀ (k:Nat) (x y:ag),cs[k]?=some x->cs'[k]?=some y->View g x y):View g (.bn z p n) (.aE z n cs')
section
variable {P:Program}{w:World}{I:br}{T:Array Value}{g:aY}{Fs:Nat->br}
theorem R.bK {ρ ρ':ag->Value->Prop}{x:ag}{v:Value}{F:br}(h:R w I ρ x v F):di x->R w I ρ' x v F:=by
 induction h with
 | lit h aR=>exact λ_=>.lit h aR
 | aK aR=>exact λ_=>.aK aR
 | dead aR=>exact λ_=>.dead aR
 | @ref x _ _ J h aR=>intro aL; cases aL <;> simp [ag.isRef] at J
 | hQ aR=>exact λ_=>.hQ aR
 | aE aR k3 bt aN ao h1 ab ax aS=>exact λaL=>.aE aR k3 bt aN ao h1 ab λk x J=>aS k x J (by cases aL with | aE h=>exact h x (List.mem_of_getElem? J))
 | bo aR bt aN h1 ab ax aS=>exact λaL=>.bo aR bt aN h1 ab λk x J=>aS k x J (by cases aL with | bo h=>exact h x (List.mem_of_getElem? J))
 | own bd ao h1 ax aV aH aR aS=>exact λaL=>.own bd ao h1 (λk x u J hu=>aS k x u J hu (by cases aL with | own h=>exact h x (List.mem_of_getElem? J))) aV aH aR
 | obj bd ao h1 ax aV aH aR aS=>exact λaL=>.obj bd ao h1 (λk x u J hu=>aS k x u J hu (by cases aL with | obj h=>exact h x (List.mem_of_getElem? J))) aV aH aR
 | agg ao h1 ax aV aR aS=>exact λaL=>.agg ao h1 (λk x u J hu=>aS k x u J hu (by cases aL with | agg h=>exact h x (List.mem_of_getElem? J))) aV aR
 | cB ao ax aV aR aS=>exact λaL=>.cB ao (λk x u J hu=>aS k x u J hu (by cases aL with | cB h=>exact h x (List.mem_of_getElem? J))) aV aR
 | mp bd aG aR=>exact λ_=>.mp bd aG aR
 | imp aR bt bd aG=>exact λ_=>.imp aR bt bd aG
 | er aR h1 al jN iF gx gl=>exact λaL=>.er aR h1 al (λk x u J hu=>gx k x u J hu (by cases aL with | er h _=>exact h x (List.mem_of_getElem? J))) (λk x u J hu=>gl k x u J hu (by cases aL with | er _ h=>exact h x (List.mem_of_getElem? J)))
theorem R.nk {ρ:ag->Value->Prop}{I':br}{x:ag}{v:Value}{F:br}(h:R w I ρ x v F) (bt:∀ c,I c->I' c):R w I' ρ x v F :=
 h.frame (λ_ _=>rfl) bt (λ_ _ h=>h) λ_ _=>rfl
theorem R.k9 {ρ ρ':ag->Value->Prop}{I':br}{x:ag}{v:Value}{F:br}(h:R w I ρ x v F):ky x->R w I' ρ' x v F:=by
 induction h with
 | lit h aR=>exact λ_=>.lit h aR
 | aK aR=>exact λ_=>.aK aR
 | dead aR=>exact λ_=>.dead aR
 | @ref x _ _ J h aR=>intro aL; cases aL <;> simp [ag.isRef] at J
 | hQ=>intro aL; cases aL
 | aE=>intro aL; cases aL
 | bo=>intro aL; cases aL
 | own bd ao h1 ax aV aH aR aS=>exact λaL=>.own bd ao h1 (λk x u J hu=>aS k x u J hu (by cases aL with | own h=>exact h x (List.mem_of_getElem? J))) aV aH aR
 | obj bd ao h1 ax aV aH aR aS=>exact λaL=>.obj bd ao h1 (λk x u J hu=>aS k x u J hu (by cases aL with | obj h=>exact h x (List.mem_of_getElem? J))) aV aH aR
 | agg ao h1 ax aV aR aS=>exact λaL=>.agg ao h1 (λk x u J hu=>aS k x u J hu (by cases aL with | agg h=>exact h x (List.mem_of_getElem? J))) aV aR
 | cB ao ax aV aR aS=>exact λaL=>.cB ao (λk x u J hu=>aS k x u J hu (by cases aL with | cB h=>exact h x (List.mem_of_getElem? J))) aV aR
 | er=>intro aL; cases aL
 | mp bd aG aR=>exact λ_=>.mp bd aG aR
 | imp=>intro aL; cases aL
theorem R.xW {ρ:ag->Value->Prop}{z n:Nat}{cs:List ag}{v:Value}{F:br}(h:R w I ρ (.own z n cs) v F):∃ (a:Option Addr) (cap:Nat) (us:Nat->Value) (bS:Nat->br),v=.slice a n cap/\n<=cap/\cs.length=n * z /\
  (∀ ad,a=some ad->∃ b,ad=⟨b,0,none⟩/\F b)/\(∀ (k:Nat) (x:ag),cs[k]?=some x->∃ b,a=some ⟨b,0,none⟩/\w.cell? ⟨b,k,none⟩=some (us k)/\(us k).oneCell'=true/\R w I ρ x (us k) (bS k)/\∀ c,bS k c->F c):=by
 have bb:=h
 cases h with
 | ref J=>simp [ag.isRef] at J
 | @own _ _ _ _ e us Fs _ bd ao h1 ax aV aH aR =>
  obtain ⟨a,cap,rfl,aL,hlen,pZ,rK⟩:=bb.mL
  refine ⟨a,cap,λk=>us.getD k undef,Fs,rfl,aL,hlen,λad fX=>?_,λk x hk=>?_⟩
  ·obtain ⟨zW,zX⟩:=pZ ad fX
   obtain ⟨b,o,sp⟩:=ad
   simp only at zW zX
   subst zW zX
   exact ⟨b,rfl,(aR b).2 (.inl (by rw [fX]; rfl))⟩
  ·have bc:k<cs.length:=(List.getElem?_eq_some_iff.1 hk).1
   have hu:us[k]?=some us[k]:=List.getElem?_eq_getElem (ao ▸ bc)
   obtain ⟨b,u,fX,lJ,l4,gO,_⟩:=bb.node (.inl rfl) hk
   have:a=some ⟨b,0,none⟩:=by
    cases a with
    | none=>simp [addrOf] at fX
    | some ad=>simp only [addrOf] at fX; rw [Option.some.inj fX]
   rw [n5 bd hu] at l4
   cases l4
   refine ⟨b,this,?_,?_,?_,λc ab=>(aR c).2 (.inr ⟨k,bc,ab⟩)⟩
   ·simpa [List.getD,hu] using lJ
   ·simpa [List.getD,hu] using gO
   ·simpa [List.getD,hu] using ax k x _ hk hu
theorem R.Df {ρ:ag->Value->Prop}{y:ag}{v:Value}{F:br}{z n:Nat}{cs:List ag}(h:R w I ρ y v F) (az:y=.own z n cs\/y=.obj cs) {ad:Addr}(bj:addrOf v=some ad):F ad.block:=by
 rcases az with rfl | rfl
 ·obtain ⟨a,cap,rfl,_⟩:=h.mL
  refine h.po _ ?_
  cases a with
  | none=>simp [addrOf] at bj
  | some a=>simp only [addrOf,Option.some.injEq] at bj; subst bj; rfl
 ·cases h with
  | ref J=>simp [ag.isRef] at J
  | obj bd ao h1 ax aV aH aR=>simp only [addrOf,Option.some.injEq] at bj; subst bj; exact (aR _).2 (.inl rfl)
theorem Tx {w:World}{e cW:TypeId}{z n:Nat}{v:Value}{us iL:List Value}(h:w.ownsRow 0 e z v n us) (aT:w.ownsRow 0 cW z v n iL):us=iL:=by
 obtain ⟨h1,al⟩:=h
 obtain ⟨aO,b4⟩:=aT
 rcases al with ⟨rfl,rfl⟩ | ⟨b,cap,cur,rfl,_,b9,_,_,_,aD⟩
 ·have dt:us=[]:=List.eq_nil_of_length_eq_zero (by simpa using h1)
  have c3:iL=[]:=List.eq_nil_of_length_eq_zero (by simpa using aO)
  rw [dt,c3]
 ·rcases b4 with ⟨dt,_⟩ | ⟨hJ,lY,Pp,dt,_,KQ,_,_,_,p1⟩
  ·cases dt
  ·cases dt
   rw [b9] at KQ
   cases KQ
   rw [<- aD,<- p1]
theorem Rows.sound {ρ:ag->Value->Prop}(H1:∀ t z q n m new,g t=some (.bX z q n m new)->∃ v,T[t]?=some v/\jD w I ρ (.bX z q n m new) v (Fs t))
  (Nu:∀ p z n cs,b7 g p=some (.own z n cs)->∃ v cM,ed w T p=some v/\R w I ρ (.own z n cs) v cM/\∀ c,cM c->Fs p.root c) (yE:∀ z p n v,ρ (.bX z p n 0 []) v->ed w T p=some v) {p:Place}{z n:Nat}{cs:List ag}(h:Rows g p z n cs) :
  ∃ v e us,ed w T p=some v/\w.ownsRow 0 e z v n us/\us.length=cs.length/\(∀ (k:Nat) (u:Value),us[k]?=some u->u.oneCell'=true)/\(∀ c,v.ownBlock=some c->∃ t,Fs t c) /\
   (∀ (k:Nat) (x:ag) (u:Value),cs[k]?=some x->us[k]?=some u->∃ bS,R w I ρ x u bS/\∀ c,bS c->∃ t,Fs t c):=by
 induction h with
 | @own p z n cs aG =>
  obtain ⟨v,cM,hv,bf,aR⟩:=Nu p z n cs aG
  cases bf with
  | ref J=>simp [ag.isRef] at J
  | @own _ _ _ _ e us bS _ bd ao h1 ax aV aH k1 =>
   refine ⟨v,e,us,hv,bd,ao.symm,h1,λc ab=>⟨_,aR c ((k1 c).2 (.inl ab))⟩,λk x u J hu=>⟨bS k,ax k x u J hu,λc ab=>⟨_,aR c ((k1 c).2 (.inr ⟨k,(List.getElem?_eq_some_iff.1 J).1,ab⟩))⟩⟩⟩
 | @bX t z n m q new cs aD _ aS =>
  obtain ⟨v,hv,bf⟩:=H1 t z q n m new aD
  obtain ⟨v0,e,us,iG,bd,ao,h1,aH,ax⟩:=aS
  cases bf with
  | tree bf=>exact bf.k8.elim
  | @bX _ _ _ _ _ _ bv dt c3 UL news _ bf =>
   have lh:=yE _ _ _ _ bf.jM
   rw [iG] at lh
   cases lh
   have:=Tx bd bf.k5
   subst this
   refine ⟨v,c3,us++news,by simp [ed,hv,walk],bf.mx,by rw [List.length_append,List.length_append,ao,bf.ao],λk u hu=>?_,λc ab=>?_,λk x u J hu=>?_⟩
   ·by_cases hk:k<us.length
    ·rw [List.getElem?_append_left hk] at hu; exact h1 k u hu
    ·rw [List.getElem?_append_right (by omega)] at hu; exact bf.h1 _ u hu
   ·by_cases pX:v0.ownBlock=some c
    ·exact aH c pX
    ·exact ⟨t,(bf.aR c).2 ⟨ab,pX⟩⟩
   ·by_cases hk:k<us.length
    ·rw [List.getElem?_append_left (by omega)] at J
     rw [List.getElem?_append_left hk] at hu
     exact ax k x u J hu
    ·rw [List.getElem?_append_right (by omega)] at J
     rw [List.getElem?_append_right (by omega),ao] at hu
     exact ⟨_,bf.ax _ x u J hu,λc ab=>ab.elim⟩
theorem Mf {ρ':ag->Value->Prop}{e:TypeId}{z n N cap:Nat}{a:Option Addr}{us:List Value}{cs cs':List ag}(bd:w.ownsRow 0 e z (.slice a N cap) n us) (hlen:us.length=cs.length) (h1:∀ (k:Nat) (u:Value),us[k]?=some u->u.oneCell'=true) (aH:∀ c,(Value.slice a N cap).ownBlock=some c->∃ t,Fs t c) (ao:cs'.length=cs.length)
  (ax:∀ (k:Nat) (x y:ag) (u:Value),cs[k]?=some x->cs'[k]?=some y->us[k]?=some u->R w (λc=>I c\/∃ t,Fs t c) ρ' y u cU):R w (λc=>I c\/∃ t,Fs t c) ρ' (.aE z n cs') (.slice a n cap) cU:=by
 obtain ⟨KY,bd⟩:=bd
 rcases bd with ⟨lh,bb⟩ | ⟨b,qx,cur,dt,_,b9,CL,ab,aN,aD⟩
 ·cases lh
  subst bb
  have lq:cs'=[]:=List.eq_nil_of_length_eq_zero (by rw [ao,<- hlen,KY]; simp)
  subst lq
  exact .hQ λ_ h=>h
 ·cases dt
  refine .aE (us:=λk=>us.getD k undef) (λ_ h=>h) CL (.inr (aH b rfl)) rfl (by rw [ao,<- hlen,KY]) (λk y az=>?_) (λk y az=>?_) λk y az=>?_
  all_goals
   have hk:k<us.length:=by rw [hlen,<- ao]; exact (List.getElem?_eq_some_iff.1 az).1
   have hu:us[k]?=some us[k]:=List.getElem?_eq_getElem hk
   have a8:us.getD k undef=us[k]:=by simp [List.getD,hu]
  ·rw [a8]; exact h1 k _ hu
  ·rw [a8]
   have t_:∀ u,us[k]?=some u->w.cell? ⟨b,k,none⟩=some u:=λu t_=>by
    rw [<- aD,List.getElem?_take] at t_
    split at t_
    ·simpa [World.cell?,b9] using t_
    ·cases t_
   simpa using t_ _ hu
  ·rw [a8]
   exact ax k _ y _ (List.getElem?_eq_getElem (by omega)) az hu
theorem View.sound (h:cY w I T g Fs) {x x':ag}(hv:View g x x'):∀ {v:Value}{F:br},R w I (eg w T g) x v F->(∀ c,F c->∃ t,Fs t c)->∀ ρ',R w (λc=>I c\/∃ t,Fs t c) ρ' x' v cU:=by
 induction hv with
 | pk =>
  intro v F bf aR ρ'
  have:=bf.qY
  subst this
  exact .hQ λ_ h=>h
 | mp =>
  intro v F bf aR ρ'
  cases bf with
  | ref J=>simp [ag.isRef] at J
  | mp bd aG aH=>exact .imp (λ_ h=>h) (.inr (aR _ ((aH _).2 rfl))) bd aG
 | hD aG =>
  intro v F bf aR ρ'
  cases bf with
  | ref _ ax _ =>
   obtain ⟨⟨b,aH,rfl⟩,_⟩:=ax
   obtain ⟨hF,cM,iy,dT,dC⟩:=h.part aG (by simp)
   rw [aH] at iy
   cases iy
   cases dT with
   | ref J=>simp [ag.isRef] at J
   | mp bd aG aH=>exact .imp (λ_ h=>h) (.inr ⟨_,dC _ ((aH _).2 rfl)⟩) bd aG
 | self aL h1 al aO b4 df =>
  intro v F bf aR ρ'
  refine ((bf.bK aL).nk λc ab=>.inl ab).empty ?_
  cases bf with
  | mp=>exact absurd rfl (df _)
  | lit _ aR | aK aR | dead aR | ref _ _ aR | hQ aR | aE aR | bo aR | er aR | imp aR=>exact aR
  | own=>exact absurd rfl (h1 _ _ _)
  | obj=>exact absurd rfl (al _)
  | agg=>exact absurd rfl (aO _)
  | cB=>exact absurd rfl (b4 _)
 | @agg cs cs' ao _ aS =>
  intro v F bf aR ρ'
  cases bf with
  | ref J=>simp [ag.isRef] at J
  | @agg _ vs bS _ h6 h1 ax aV k1 =>
   refine .agg (Fs:=λ_=>cU) (by rw [ao,h6]) h1 (λk y u az hu=>?_) (λ_ _ _ _ _ h=>h.elim) (λc=>⟨λh=>h.elim,λ⟨_,_,h⟩=>h⟩)
   have hk:k<cs.length:=by rw [<- ao]; exact (List.getElem?_eq_some_iff.1 az).1
   have J:=List.getElem?_eq_getElem hk
   exact aS k _ y J az (ax k _ u J hu) (λc ab=>aR c ((k1 c).2 ⟨k,hk,ab⟩)) ρ'
 | @er fn cs cs' ao _ aS =>
  intro v F bf aR ρ'
  cases bf with
  | ref J=>simp [ag.isRef] at J
  | @er _ _ _ v1 v2 _ qD h1 al jN iF =>
   refine .er (λ_ h=>h) h1 (by rw [ao,al]) (λk x u J=>by simp at J) (λk y u az hu=>?_)
   have hk:k<cs.length:=by rw [<- ao]; exact (List.getElem?_eq_some_iff.1 az).1
   have J:=List.getElem?_eq_getElem hk
   exact aS k _ y J az (iF k _ u J hu) (λc ab=>ab.elim) ρ'
 | @own z n cs cs' ao _ aS =>
  intro v F bf aR ρ'
  obtain ⟨a,cap,us,bS,rfl,aL,hlen,bj,ab⟩:=bf.xW
  cases a with
  | none =>
   have hy:cs=[]:=by
    cases cs with
    | nil=>rfl
    | cons c cs=>obtain ⟨b,aH,_⟩:=ab 0 c rfl; cases aH
   subst hy
   have lq:cs'=[]:=List.eq_nil_of_length_eq_zero (by simpa using ao)
   subst lq
   have pb:n=0:=by
    cases bf with
    | ref J=>simp [ag.isRef] at J
    | own bd =>
     obtain ⟨_,b9⟩:=bd
     rcases b9 with ⟨b9,bb⟩ | ⟨b,c2,cur,b9,_⟩
     ·exact bb
     ·cases b9
   subst pb
   exact .hQ λ_ h=>h
  | some ad =>
   obtain ⟨b,rfl,qE⟩:=bj ad rfl
   refine .aE (us:=us) (λ_ h=>h) aL (.inr (aR b qE)) rfl (by rw [ao,hlen]) (λk y az=>?_) (λk y az=>?_) λk y az=>?_
   all_goals
    have hk:k<cs.length:=by rw [<- ao]; exact (List.getElem?_eq_some_iff.1 az).1
    have J:=List.getElem?_eq_getElem hk
    obtain ⟨hJ,kC,h1,al,aO,b4⟩:=ab k _ J
    cases kC
   ·exact al
   ·simpa using h1
   ·exact aS k _ y J az aO (λc ab=>aR c (b4 c ab)) ρ'
 | @obj cs cs' ao _ aS =>
  intro v F bf aR ρ'
  cases bf with
  | ref J=>simp [ag.isRef] at J
  | @obj _ b e arr bS _ bd h6 h1 ax aV aH k1 =>
   refine .bo (us:=λk=>arr.getD k undef) (λ_ h=>h) (.inr (aR b ((k1 b).2 (.inl rfl)))) rfl (λk y az=>?_) (λk y az=>?_) λk y az=>?_
   all_goals
    have hk:k<cs.length:=by rw [<- ao]; exact (List.getElem?_eq_some_iff.1 az).1
    have J:=List.getElem?_eq_getElem hk
    have hu:arr[k]?=some arr[k]:=Array.getElem?_eq_getElem (h6 ▸ hk)
   ·simpa [hu] using h1 k _ hu
   ·simp [World.cell?,bd,hu]
   ·simpa [hu] using aS k _ y J az (ax k _ _ J hu) (λc ab=>aR c ((k1 c).2 (.inr ⟨k,hk,ab⟩))) ρ'
 | @bn z n N p cs cs' aG aL ao _ aS =>
  intro v F bf aR ρ'
  obtain ⟨⟨a,i_,cap,h1,rfl,aO⟩,_⟩:=bf.mG
  obtain ⟨pD,pG,gP,hP,l1⟩:=h.part aG (by simp)
  rw [h1] at gP
  cases gP
  obtain ⟨a2,qx,us,bS,j4,k3,hlen,bj,ab⟩:=hP.xW
  cases j4
  have hle:n * z<=N * z:=Nat.mul_le_mul_right _ aL
  have cell:∀ k,k<cs'.length->∃ x b,(cs.take (n * z))[k]?=some x/\a=some ⟨b,0,none⟩/\w.cell? ⟨b,k,none⟩=some (us k)/\(us k).oneCell'=true/\R w I (eg w T g) x (us k) (bS k)/\∀ c,bS k c->pG c:=by
   intro k hk
   rw [ao,List.length_take] at hk
   have J:cs[k]?=some cs[k]:=List.getElem?_eq_getElem (by omega)
   obtain ⟨b,r⟩:=ab k _ J
   exact ⟨_,b,by rw [List.getElem?_take,if_pos (by omega)]; exact J,r⟩
  cases a with
  | none =>
   have lq:cs'=[]:=by
    cases cs' with
    | nil=>rfl
    | cons c l=>obtain ⟨_,b,_,aH,_⟩:=cell 0 (by simp); cases aH
   subst lq
   obtain ⟨_,_,j4,_,_,_,rK⟩:=hP.mL
   cases j4
   have pb:n=0:=by
    rcases Nat.eq_zero_or_pos n with bb | bb
    ·exact bb
    ·have:=rK (by omega); simp at this
   subst pb
   exact .hQ λ_ h=>h
  | some ad =>
   obtain ⟨b,rfl,qE⟩:=bj ad rfl
   refine .aE (us:=us) (λ_ h=>h) (by omega) (.inr ⟨_,l1 b qE⟩) rfl (by rw [ao,List.length_take,hlen]; omega) (λk y az=>?_) (λk y az=>?_) λk y az=>?_
   all_goals
    obtain ⟨x,hJ,J,kC,b4,df,eL,lj⟩:=cell k (List.getElem?_eq_some_iff.1 az).1
    cases kC
   ·exact df
   ·simpa using b4
   ·exact aS k x y J az eL (λc ab=>⟨_,l1 c (lj c ab)⟩) ρ'
 | @sub z lo n N p cs cs' aG aL ao _ aS =>
  intro v F bf aR ρ'
  obtain ⟨⟨a,i_,cap,cE,lY,h1,rfl,F4,aO,df⟩,_⟩:=bf.vz
  obtain ⟨pD,pG,gP,hP,l1⟩:=h.part aG (by simp)
  rw [h1] at gP
  cases gP
  obtain ⟨a2,qx,us,bS,j4,k3,hlen,bj,ab⟩:=hP.xW
  cases j4
  have hle:lo * z+n * z<=N * z:=by rw [<- Nat.add_mul]; exact Nat.mul_le_mul_right _ aL
  have h6:cs'.length=n * z:=by rw [ao,List.length_take,List.length_drop,hlen]; omega
  have cell:∀ k,k<cs'.length->∃ x b,((cs.drop (lo * z)).take (n * z))[k]?=some x/\a=some ⟨b,0,none⟩/\w.cell? ⟨b,lo * z+k,none⟩=some (us (lo * z+k))/\(us (lo * z+k)).oneCell'=true/\R w I (eg w T g) x (us (lo * z+k)) (bS (lo * z+k))/\∀ c,bS (lo * z+k) c->pG c:=by
   intro k hk
   have J:cs[lo * z+k]?=some cs[lo * z+k]:=List.getElem?_eq_getElem (by omega)
   obtain ⟨b,r⟩:=ab _ _ J
   exact ⟨_,b,by rw [List.getElem?_take,if_pos (by omega),List.getElem?_drop]; exact J,r⟩
  by_cases pb:n=0
  ·subst pb
   have lq:cs'=[]:=List.eq_nil_of_length_eq_zero (by simpa using h6)
   subst lq
   exact .hQ λ_ h=>h
  ·obtain ⟨ad,rfl,rfl⟩:=df (by omega)
   obtain ⟨b,rfl,qE⟩:=bj ad rfl
   refine .aE (us:=λk=>us (lo * z+k)) (λ_ h=>h) F4 (.inr ⟨_,l1 b qE⟩) rfl h6 (λk y az=>?_) (λk y az=>?_) λk y az=>?_
   all_goals
    obtain ⟨x,hJ,J,kC,b4,E4,eL,lj⟩:=cell k (List.getElem?_eq_some_iff.1 az).1
    cases kC
   ·exact E4
   ·simpa using b4
   ·exact aS k x y J az eL (λc ab=>⟨_,l1 c (lj c ab)⟩) ρ'
 | @ptr p k z n y cs cs' aG az hk ao _ aS =>
  intro v F bf aR ρ'
  obtain ⟨⟨u,ad,h1,al,rfl⟩,_⟩:=bf.nh
  obtain ⟨pD,pG,gP,hP,l1⟩:=h.part aG (by rcases az with rfl | rfl <;> simp)
  rw [h1] at gP
  cases gP
  have cell:∀ ae,ae<cs'.length->∃ gB kt uL,w.cell? ⟨ad.block,k+ae,none⟩=some gB/\gB.oneCell'=true/\(cs.drop k)[ae]?=some kt/\R w I (eg w T g) kt gB uL/\(∀ c,uL c->∃ t,Fs t c):=by
   intro ae aa
   rw [ao,List.length_drop] at aa
   have f_:cs[k+ae]?=some cs[k+ae]:=List.getElem?_eq_getElem (by omega)
   obtain ⟨b,gB,fX,lJ,l4,gO,_⟩:=hP.node az f_
   rw [al] at fX
   cases fX
   have gn:b7 g (p.push (k+ae))=some cs[k+ae]:=by rw [r_,aG]; rcases az with rfl | rfl <;> simp [ag.kids]
   by_cases hz:∃ cJ ga cX m' dj,cs[k+ae]=.bX cJ ga cX m' dj
   ·obtain ⟨cJ,ga,cX,m',dj,hz⟩:=hz
    obtain ⟨b,UN,_,_,zQ,_,bS,jZ⟩:=hP.node az f_
    rw [hz] at jZ
    exact jZ.k8.elim
   ·obtain ⟨oc,DW,qR,Fc,k1⟩:=h.part gn (λcJ ga cX m' dj e=>hz ⟨_,_,_,_,_,e⟩)
    rw [wy,h1] at qR
    simp only [Option.bind_some] at qR
    rw [l4] at qR
    cases qR
    exact ⟨gB,_,DW,lJ,gO,by rw [List.getElem?_drop]; exact f_,Fc,λc ab=>⟨_,k1 c ab⟩⟩
  obtain ⟨b,gB,fX,_⟩:=hP.node az (List.getElem?_eq_getElem hk)
  rw [al] at fX
  cases fX
  have hblk:∃ t,Fs t b:=⟨_,l1 b (hP.Df az al)⟩
  refine .bo (us:=λae=>(w.cell? ⟨b,k+ae,none⟩).getD undef) (λ_ h=>h) (.inr hblk) rfl (λae ku ng=>?_) (λae ku ng=>?_) λae ku ng=>?_
  all_goals
   obtain ⟨gB,kt,uL,c1,c2,kW,c4,kA⟩:=cell ae (List.getElem?_eq_some_iff.1 ng).1
  ·simpa [c1] using c2
  ·simp [c1]
  ·simpa [c1] using aS ae kt ku kW ng c4 kA ρ'
 | @rows z n p cs cs' aG ao _ aS =>
  intro v F bf aR ρ'
  obtain ⟨a,i_,cap,h1,rfl,aO⟩:=bf.mG.1
  obtain ⟨v0,e,us,iG,bd,hlen,nu,aH,ax⟩:=Rows.sound (w:=w) (I:=I) (T:=T) (Fs:=Fs) (λt z q n m new aD=>h.rel t _ aD) (λp z n cs aG=>h.part aG (by simp)) (λz p n v hv=>by obtain ⟨⟨a,cap,h1,rfl⟩,_⟩:=hv; exact h1) aG
  rw [h1] at iG
  cases iG
  refine Mf bd hlen nu aH ao λk x y u J az hu=>?_
  obtain ⟨bS,jZ,fg⟩:=ax k x u J hu
  exact aS k x y J az jZ fg ρ'
end
end Go.Own
namespace Go.Own
open Go
def o2 (args:List ag):aY:=λt=>args[t]?
def oL (outs:List (Option ag)) (res:ag):aY:=λt=>if t=outs.length then some res else (outs[t]?).join
structure kQ (w:World) (I U:br) (w':World) (I' B0:br):Prop where
 fE:Fr w w' U
 more:∀ c,I c->I' c
 new:∀ c,I' c->I c\/U c\/w.heap.size<=c
 own:∀ c,B0 c->U c\/w.heap.size<=c
def cb (P:Program) (f:FuncId) (args:List ag) (outs:List (Option ag)) (res:ag):Prop :=
 outs.length=args.length/\∀ (w:World) (I:br) (vs:List Value) (Fs:Nat->br),vs.length=args.length->cY w I vs.toArray (o2 args) Fs ->
  Calls P f vs.toArray w λe w'=>∃ v I' cp,e=.returned v/\cY w' I' (vs++[v]).toArray (oL outs res) cp/\kQ w I (λc=>∃ t,Fs t c) w' I' (λc=>∃ t,cp t c)
def dM (P:Program) (f:FuncId):Bool :=
 match P.funcs[f]? with
 | some fn => fn.name != "runtime.NumGoroutine" && fn.body.isSome
 | none=>false
inductive cu (P:Program) (g:aY):Op->ag->Prop
 | plain {c:Operand}{xs:Array Operand}{iz:Array TypeId}{f:FuncId}{first caps ys:List ag}{res:ag}(ab:bP g c=some (.er (.func f) first caps)) (J:iI g xs.toList=some ys) (bl:dM P f=true)
   (aL:∀ y∈first++ys++caps,di y) (jc:cb P f (first++ys++caps) ((first++ys++caps).map λ_=>none) res) (ax:di res):cu P g (.call { callee:=.value c,args:=xs,argTypes:=iz }) res
 | C8 {c:Operand}{xs:Array Operand}{iz:Array TypeId}{f:FuncId}{first caps ys args:List ag}{res:ag}(ab:bP g c=some (.er (.func f) first caps)) (J:iI g xs.toList=some ys) (bl:dM P f=true)
   (ao:args.length=(first++ys++caps).length) (hv:∀ (k:Nat) (x y:ag),(first++ys++caps)[k]?=some x->args[k]?=some y->View g x y) (jc:cb P f args (args.map λ_=>none) res) (ax:ky res) :
   cu P g (.call { callee:=.value c,args:=xs,argTypes:=iz }) res
section
variable {P:Program}{w:World}{I:br}{T:Array Value}{g:aY}{Fs:Nat->br}
theorem Ep {f:FuncId}(h:dM P f=true) (args:Array Value):(callFunc f args).run P w=.ok (.enter f args) w:=by
 unfold dM at h
 cases bl:P.funcs[f]? with
 | none=>simp [bl] at h
 | some fn =>
  simp [bl] at h
  obtain ⟨h1,al⟩:=h
  cases aH:fn.body with
  | none=>simp [aH] at al
  | some c=>simp [callFunc,bl,h1,aH]
theorem Eo (h:cY w I T g Fs) {a:Act}(bj:a.tmps=T) {c:Operand}{xs:Array Operand}{f:FuncId}{first caps ys:List ag}(ab:bP g c=some (.er (.func f) first caps)) (J:iI g xs.toList=some ys) :
  ∃ v1 v2:Array Value,a.eval c=.func (.func f) v1 v2/\(first++ys++caps).length=(v1++xs.map a.eval++v2).toList.length /\
   ∀ (k:Nat) (x:ag) (u:Value),(first++ys++caps)[k]?=some x->(v1++xs.map a.eval++v2).toList[k]?=some u->R w I (eg w T g) x u cU:=by
 have Kt:=j9 h ab bj
 obtain ⟨ao,ax⟩:=xU h bj J
 generalize tN:a.eval c=Wt at Kt
 cases Kt with
 | ref J=>simp [ag.isRef] at J
 | @er _ _ _ v1 v2 _ _ h1 al jN iF =>
  have hlen:xs.size=ys.length:=by rw [<- Array.length_toList,ao]
  refine ⟨v1,v2,rfl,by simp [h1,al,hlen],λk x u pe oF=>?_⟩
  simp only [Array.toList_append,Array.toList_map] at oF
  by_cases gN:k<first.length
  ·rw [List.append_assoc,List.getElem?_append_left gN] at pe
   rw [List.append_assoc,List.getElem?_append_left (by simp; omega)] at oF
   exact jN k x u pe (by simpa using oF)
  ·rw [List.append_assoc,List.getElem?_append_right (by omega)] at pe
   rw [List.append_assoc,List.getElem?_append_right (by simp; omega)] at oF
   simp only [Array.length_toList,<- h1] at oF
   by_cases gH:k - first.length<ys.length
   ·rw [List.getElem?_append_left gH] at pe
    rw [List.getElem?_append_left (by simp; omega),List.getElem?_map] at oF
    cases Gx:xs.toList[k - first.length]? with
    | none=>rw [Gx] at oF; cases oF
    | some o=>rw [Gx] at oF; cases oF; exact ax _ x o pe Gx
   ·rw [List.getElem?_append_right (by omega)] at pe
    rw [List.getElem?_append_right (by simp; omega)] at oF
    simp only [List.length_map,Array.length_toList] at oF
    rw [hlen] at oF
    exact iF _ x u pe (by simpa using oF)
theorem cY.args {I':br}(h:cY w I T g Fs) (bt:∀ c,I' c->I c\/∃ t,Fs t c) {args:List ag}{vs:List Value}(ao:args.length=vs.length)
  (ax:∀ (ρ':ag->Value->Prop) (k:Nat) (x:ag) (u:Value),args[k]?=some x->vs[k]?=some u->R w I' ρ' x u cU):cY w I' vs.toArray (o2 args) (λ_=>cU):=by
 refine ⟨λt x J=>?_,λ_ _ _ h=>h,λ_ _ _ h=>h.elim,λ_ _ h=>h.elim,λc ab=>?_,λt dn z p n m new cJ cX m' dj h1 al=>?_⟩
 ·have aD:t<args.length:=(List.getElem?_eq_some_iff.1 J).1
  have hu:vs[t]?=some vs[t]:=List.getElem?_eq_getElem (ao ▸ aD)
  exact ⟨vs[t],by rw [List.getElem?_toArray]; exact hu,.tree (ax _ t x _ J hu)⟩
 ·rcases bt c ab with aT | ⟨t,aT⟩
  ·exact h.lt c aT
  ·exact h.jQ t c aT
 ·have aD:t<args.length:=(List.getElem?_eq_some_iff.1 h1).1
  exact (ax (λ_ _=>False) t _ _ h1 (List.getElem?_eq_getElem (ao ▸ aD))).k8.elim
theorem cu.sound (h:cY w I T g Fs) {a:Act}(bj:a.tmps=T) {o:Oper}{kd:ag}(aG:cu P g o.op kd) {K:Act->World->Prop}{Q:Exit->Act->World->Prop}
  (et:∀ v w',tf w I T g Fs kd v w'->K (a.put o.dst v) w'):o.wp P a w K Q:=by
 obtain ⟨dst,op,ty,pos,after,guard⟩:=o
 simp only at aG et
 have AE:di kd->∀ z p n m new,kd=.bX z p n m new->∀ t cJ cX m' dj,g t≠some (.bX cJ p cX m' dj):=by
  rintro aL z p n m new rfl
  cases aL
 have last:∀ {args:List ag}{res:ag}{v:Value}{vs:List Value}{w':World}{I':br}{cp:Nat->br},vs.length=args.length->cY w' I' (vs++[v]).toArray (oL (args.map λ_=>none) res) cp->jD w' I' (eg w' (vs++[v]).toArray (oL (args.map λ_=>none) res)) res v (cp args.length)/\∀ t,t≠args.length->∀ c,¬ cp t c:=by
  intro args res v vs w' I' cp ao bT
  constructor
  ·obtain ⟨u,hu,bf⟩:=bT.rel args.length res (by simp [oL])
   have:u=v:=by
    rw [<- ao] at hu
    simpa using hu.symm
   subst this; exact bf
  ·intro t aD c ab
   refine bT.kI t ?_ c ab
   have p1:t≠(args.map λ_=>(none:Option ag)).length:=by simpa using aD
   simp only [oL,if_neg p1,List.getElem?_map]
   cases args[t]? <;> rfl
 cases aG with
 | @plain c xs iz f first caps ys _ ab J bl aL jc ax =>
  obtain ⟨v1,v2,tN,ao,nV⟩:=Eo h bj ab J
  have hW:(execOp a.eval { dst:=dst,op:=.call { callee:=.value c,args:=xs,argTypes:=iz },type:=ty,pos:=pos,after:=after,guard:=guard }).run P w=.ok (.enter f (v1++xs.map a.eval++v2)) w:=by
   simp [execOp,resolve,Deferred.ofValue,tN,invoke,Ep bl]
  have bT:=h.args (I':=I) (λc ab=>.inl ab) ao λρ' k x u J hu=>(nV k x u J hu).bK (aL x (List.mem_of_getElem? J))
  have tL:=jc.2 w I (v1++xs.map a.eval++v2).toList _ ao.symm bT
  unfold Oper.wp Oper.upon
  simp only [hW]
  rw [Array.toArray_toList] at tL
  refine Calls.mono tL ?_
  rintro e w' ⟨v,I',cp,rfl,eB,cn⟩
  obtain ⟨xz,gI⟩:=last ao.symm eB
  have sC:Fr w w' (λ_=>False):=cn.fE.mono λb _ ⟨_,aH⟩=>aH
  refine et v w' ⟨cp (first++ys++caps).length,I',?_,?_,?_,?_,cn.more,?_,sC.mono λ_ _ h=>h.elim,AE ax⟩
  ·have:=h.world (w':=w') (λt c ab=>sC.block c (h.jQ t c ab) (λh=>h)) (λc ab=>sC.block c (h.lt c ab) λh=>h) sC.size
   refine ⟨λt x J=>?_,this.kI,this.e5,λt c ab hi=>?_,eB.lt,this.p_⟩
   ·obtain ⟨v,hv,bf⟩:=this.rel t x J
    exact ⟨v,hv,bf.frame (λ_ _=>rfl) cn.more (λ_ _ h=>h) (λ_ _ _ _ _ _ _=>rfl) λ_ _=>rfl⟩
   ·rcases cn.new c hi with aT | ⟨_,aT⟩ | aT
    ·exact h.aE t c ab aT
    ·exact aT
    ·have:=h.jQ t c ab; omega
  ·exact .tree ((xz.hB (by rintro z p n m new rfl; cases ax)).bK ax)
  ·intro t c ab tP
   rcases cn.own c ⟨_,ab⟩ with ⟨_,aT⟩ | aT
   ·exact aT
   ·have:=h.jQ t c tP; omega
  ·intro c ab
   rcases cn.own c ⟨_,ab⟩ with ⟨_,aT⟩ | aT
   ·exact aT.elim
   ·exact ⟨aT,eB.aE _ c ab⟩
  ·intro c ab
   rcases cn.new c ab with aT | ⟨_,aT⟩ | aT
   ·exact .inl aT
   ·exact aT.elim
   ·exact .inr aT
 | @C8 c xs iz f first caps ys args _ ab J bl FV hv jc ax =>
  obtain ⟨v1,v2,tN,ao,nV⟩:=Eo h bj ab J
  have hW:(execOp a.eval { dst:=dst,op:=.call { callee:=.value c,args:=xs,argTypes:=iz },type:=ty,pos:=pos,after:=after,guard:=guard }).run P w=.ok (.enter f (v1++xs.map a.eval++v2)) w:=by
   simp [execOp,resolve,Deferred.ofValue,tN,invoke,Ep bl]
  have h6:args.length=(v1++xs.map a.eval++v2).toList.length:=by rw [FV,ao]
  have bT:=h.args (I':=λc=>I c\/∃ t,Fs t c) (λc ab=>ab) h6 λρ' k x u J hu=>by
   have hk:k<(first++ys++caps).length:=by rw [<- FV]; exact (List.getElem?_eq_some_iff.1 J).1
   have jI:=List.getElem?_eq_getElem hk
   exact (hv k _ x jI J).sound h (nV k _ u jI hu) (λ_ h=>h.elim) ρ'
  have tL:=jc.2 w _ (v1++xs.map a.eval++v2).toList _ h6.symm bT
  unfold Oper.wp Oper.upon
  simp only [hW]
  rw [Array.toArray_toList] at tL
  refine Calls.mono tL ?_
  rintro e w' ⟨v,I',cp,rfl,eB,cn⟩
  obtain ⟨xz,gI⟩:=last h6.symm eB
  have sC:Fr w w' (λ_=>False):=cn.fE.mono λb _ ⟨_,aH⟩=>aH
  refine et v w' ⟨cp args.length,I,?_,?_,?_,?_,λ_ h=>h,λ_ h=>.inl h,sC.mono λ_ _ h=>h.elim,AE ax.bK⟩
  ·exact h.world (w':=w') (λt c ab=>sC.block c (h.jQ t c ab) (λh=>h)) (λc ab=>sC.block c (h.lt c ab) λh=>h) sC.size
  ·exact .tree ((xz.hB (by rintro z p n m new rfl; cases ax)).k9 ax)
  ·intro t c ab tP
   rcases cn.own c ⟨_,ab⟩ with ⟨_,aT⟩ | aT
   ·exact aT
   ·have:=h.jQ t c tP; omega
  ·intro c ab
   rcases cn.own c ⟨_,ab⟩ with ⟨_,aT⟩ | aT
   ·exact aT.elim
   ·exact ⟨aT,λhi=>by have:=h.lt c hi; omega⟩
end
end Go.Own
namespace Go.Own
open Go
structure jE (w:World) (I:br) (T:Array Value) (g:aY) (Fs:Nat->br):Prop where
 rel:∀ t x,g t=some x->∃ v,T[t]?=some v/\jD w I (fS w T) x v (Fs t)
 kI:∀ t,g t=none->∀ c,¬ Fs t c
 e5:∀ t dn c,Fs t c->Fs dn c->t=dn
 aE:∀ t c,Fs t c->¬ I c
 lt:∀ c,I c->c<w.heap.size
def c_ (g:aY) (p:Place) (y:ag):aY:=λt=>if t=p.root then (g t).map λx=>x.setAt p.path y else g t
inductive e3 (g:aY):ag->Prop
 | bK {x:ag}(h:di x):e3 g x
 | ref {x:ag}(J:x.isRef=true) (h:gD g x):e3 g x
 | own {z n:Nat}{cs:List ag}(h:∀ x∈cs,e3 g x):e3 g (.own z n cs)
 | obj {cs:List ag}(h:∀ x∈cs,e3 g x):e3 g (.obj cs)
 | agg {cs:List ag}(h:∀ x∈cs,e3 g x):e3 g (.agg cs)
 | cB {cs:List ag}(h:∀ x∈cs,e3 g x):e3 g (.cB cs)
 | er {fn:Fn}{a b:List ag}(h1:∀ x∈a,e3 g x) (al:∀ x∈b,e3 g x):e3 g (.er fn a b)
 | bX {z n m:Nat}{p:Place}{new:List ag}(aG:gD g (.bX z p n 0 [])) (h:∀ x∈new,e3 g x):e3 g (.bX z p n m new)
section
variable {w:World}{I:br}{T:Array Value}{g:aY}{Fs:Nat->br}
theorem R.bm {x:ag}{v:Value}{F:br}(h:R w I (fS w T) x v F):e3 g x->R w I (eg w T g) x v F:=by
 induction h with
 | lit h aR=>exact λ_=>.lit h aR
 | aK aR=>exact λ_=>.aK aR
 | dead aR=>exact λ_=>.dead aR
 | @ref x _ _ J h aR =>
  intro hk
  refine .ref J ⟨h,?_⟩ aR
  cases hk with
  | ref _ h=>exact h
  | bK h=>cases h <;> simp [ag.isRef] at J
  | _=>simp [ag.isRef] at J
 | hQ aR=>exact λ_=>.hQ aR
 | mp bd aG aR=>exact λ_=>.mp bd aG aR
 | imp aR bt bd aG=>exact λ_=>.imp aR bt bd aG
 | aE aR k3 bt aN ao h1 ab ax aS =>
  intro hk
  cases hk with
  | ref J=>simp [ag.isRef] at J
  | bK h=>cases h with | aE h=>exact .aE aR k3 bt aN ao h1 ab λk x J=>aS k x J (.bK (h x (List.mem_of_getElem? J)))
 | bo aR bt aN h1 ab ax aS =>
  intro hk
  cases hk with
  | ref J=>simp [ag.isRef] at J
  | bK h=>cases h with | bo h=>exact .bo aR bt aN h1 ab λk x J=>aS k x J (.bK (h x (List.mem_of_getElem? J)))
 | own bd ao h1 ax aV aH aR aS =>
  intro hk
  refine .own bd ao h1 (λk x u J hu=>aS k x u J hu ?_) aV aH aR
  cases hk with
  | ref J=>simp [ag.isRef] at J
  | bK h=>cases h with | own h=>exact .bK (h x (List.mem_of_getElem? J))
  | own h=>exact h x (List.mem_of_getElem? J)
 | obj bd ao h1 ax aV aH aR aS =>
  intro hk
  refine .obj bd ao h1 (λk x u J hu=>aS k x u J hu ?_) aV aH aR
  cases hk with
  | ref J=>simp [ag.isRef] at J
  | bK h=>cases h with | obj h=>exact .bK (h x (List.mem_of_getElem? J))
  | obj h=>exact h x (List.mem_of_getElem? J)
 | agg ao h1 ax aV aR aS =>
  intro hk
  refine .agg ao h1 (λk x u J hu=>aS k x u J hu ?_) aV aR
  cases hk with
  | ref J=>simp [ag.isRef] at J
  | bK h=>cases h with | agg h=>exact .bK (h x (List.mem_of_getElem? J))
  | agg h=>exact h x (List.mem_of_getElem? J)
 | cB ao ax aV aR aS =>
  intro hk
  refine .cB ao (λk x u J hu=>aS k x u J hu ?_) aV aR
  cases hk with
  | ref J=>simp [ag.isRef] at J
  | bK h=>cases h with | cB h=>exact .bK (h x (List.mem_of_getElem? J))
  | cB h=>exact h x (List.mem_of_getElem? J)
 | @er fn first caps v1 v2 F aR h1 al jN iF gx gl =>
  intro hk
  have:(∀ x∈first,e3 g x)/\∀ x∈caps,e3 g x:=by
   cases hk with
   | ref J=>simp [ag.isRef] at J
   | bK h=>cases h with | er h1 al=>exact ⟨λx J=>.bK (h1 x J),λx J=>.bK (al x J)⟩
   | er h1 al=>exact ⟨h1,al⟩
  exact .er aR h1 al (λk x u J hu=>gx k x u J hu (this.1 x (List.mem_of_getElem? J))) (λk x u J hu=>gl k x u J hu (this.2 x (List.mem_of_getElem? J)))
theorem jD.bm {x:ag}{v:Value}{F:br}(h:jD w I (fS w T) x v F) (hk:e3 g x):jD w I (eg w T g) x v F:=by
 cases h with
 | tree h=>exact .tree (h.bm hk)
 | bX h =>
  cases hk with
  | bK h=>cases h
  | ref J=>simp [ag.isRef] at J
  | bX aG aL=>exact .bX ⟨⟨h.jM,aG⟩,h.k5,h.mx,h.ao,h.h1,λk x u J hu=>(h.ax k x u J hu).bm (aL x (List.mem_of_getElem? J)),h.aR⟩
theorem cY.me (h:cY w I T g Fs):jE w I T g Fs :=
  ⟨λt x J=>by
    obtain ⟨v,hv,bf⟩:=h.rel t x J
    refine ⟨v,hv,?_⟩
    cases bf with
    | tree bf=>exact .tree (bf.frame (λ_ _=>rfl) (λ_ h=>h) (λ_ _ h=>h.1) λ_ _=>rfl)
    | bX bf=>exact .bX ⟨bf.jM.1,bf.k5,bf.mx,bf.ao,bf.h1,λk x u J hu=>(bf.ax k x u J hu).frame (λ_ _=>rfl) (λ_ h=>h) (λ_ _ h=>h.1) λ_ _=>rfl,bf.aR⟩,
   h.kI,h.e5,h.aE,h.lt⟩
theorem jE.UF (h:jE w I T g Fs) {g':aY}(a8:∀ t x,g' t=some x->g t=some x) (hk:∀ t x,g' t=some x->e3 g' x)
  (aG:∀ t dn z p n m new cJ cX m' dj,g' t=some (.bX z p n m new)->g' dn=some (.bX cJ p cX m' dj)->t=dn):cY w I T g' (λt c=>g' t≠none/\Fs t c):=by
 refine ⟨λt x J=>?_,λt aD c ab=>ab.1 aD,λt dn c ab fu=>h.e5 t dn c ab.2 fu.2,λt c ab=>h.aE t c ab.2,h.lt,aG⟩
 obtain ⟨v,hv,bf⟩:=h.rel t x (a8 t x J)
 have:Fs t=λc=>g' t≠none/\Fs t c:=by
  funext c
  exact propext ⟨λab=>⟨by rw [J]; simp,ab⟩,λab=>ab.2⟩
 refine ⟨v,hv,?_⟩
 rw [<- this]
 exact bf.bm (hk t x J)
theorem jE.part (h:jE w I T g Fs) {p:Place}{y:ag}(aG:b7 g p=some y) (az:∀ z q n m new,y≠.bX z q n m new):∃ v cM,ed w T p=some v/\R w I (fS w T) y v cM/\(∀ c,cM c->Fs p.root c) /\
  ∀ (y':ag) (ji:br),R w I (fS w T) y' v ji->(∀ c,ji c->Fs p.root c->cM c)->(∀ c,ji c->¬ I c)->(∀ t c,t≠p.root->ji c->¬ Fs t c) ->
   ∃ cp,jE w I T (c_ g p y') cp/\(∀ c,cp p.root c↔(Fs p.root c/\¬ cM c)\/ji c)/\∀ t,t≠p.root->cp t=Fs t:=by
 unfold b7 at aG
 cases J:g p.root with
 | none=>rw [J] at aG; cases aG
 | some x =>
  rw [J] at aG
  obtain ⟨v,hv,bf⟩:=h.rel _ _ J
  replace bf:=bf.hB (by
   rintro z q n m new rfl
   exact az _ _ _ _ _ (ag.rp aG).2)
  obtain ⟨h8,cM,hw,dT,dC,gb,j'⟩:=R.focus p.path bf aG
  refine ⟨h8,cM,by simp [ed,hv,hw],dT,dC,λy' ji jq mo bt K6=>?_⟩
  obtain ⟨fK,zI,nv⟩:=j' w I (fS w T) y' ji ⟨λ_ _=>rfl,λ_ _ _=>rfl,λ_ h=>h,λ_ _ h=>h⟩ jq mo
  refine ⟨λt=>if t=p.root then fK else Fs t,⟨λt x' f_=>?_,λt aD c=>?_,λt dn c ab fu=>?_,λt c ab=>?_,h.lt⟩,λc=>by simp [nv c],λt aD=>by simp [aD]⟩
  ·by_cases hX:t=p.root
   ·subst hX
    have Sv:x.setAt p.path y'=x':=by simpa [c_,J] using f_
    subst Sv
    exact ⟨v,hv,.tree (by simpa using zI)⟩
   ·simp only [c_,if_neg hX] at f_
    simpa [hX] using h.rel t x' f_
  ·by_cases hX:t=p.root
   ·subst hX; simp [c_,J] at aD
   ·simp only [c_,if_neg hX] at aD; simpa [hX] using h.kI t aD c
  ·by_cases h1:t=p.root <;> by_cases al:dn=p.root <;> simp only [h1,al,if_true,if_false] at ab fu
   ·rw [h1,al]
   ·rcases (nv c).1 ab with ⟨aO,_⟩ | aO
    ·rw [h1]; exact h.e5 _ _ _ aO fu
    ·exact absurd fu (K6 dn c al aO)
   ·rcases (nv c).1 fu with ⟨aO,_⟩ | aO
    ·rw [al]; exact h.e5 _ _ _ ab aO
    ·exact absurd ab (K6 t c h1 aO)
   ·exact h.e5 _ _ _ ab fu
  ·by_cases h1:t=p.root <;> simp only [h1,if_true,if_false] at ab
   ·rcases (nv c).1 ab with ⟨aO,_⟩ | aO
    ·exact h.aE _ c aO
    ·exact bt c aO
   ·exact h.aE t c ab
end
end Go.Own
namespace Go.Own
open Go
inductive Take:aY->List ag->List ag->aY->Prop
 | bK {g:aY}{xs:List ag}(h:∀ x∈xs,di x):Take g xs xs g
 | cons {g g':aY}{x:ag}{xs xs':List ag}(h:di x) (aD:Take g xs xs' g'):Take g (x::xs) (x::xs') g'
 | bn {g g1 g':aY}{z n N:Nat}{p:Place}{cs cs' xs xs':List ag}(aG:b7 g p=some (.own z N cs)) (aL:n<=N) (h1:Take (c_ g p .dead) (cs.take (n * z)) cs' g1) (al:Take g1 xs xs' g') :
   Take g (.bn z p n::xs) (.own z n cs'::xs') g'
 | bX {g g1 g':aY}{z n m t:Nat}{q:Place}{cs new cs' xs xs':List ag}(aD:g t=some (.bX z q n m new)) (aG:b7 g q=some (.own z n cs)) (bO:q.root≠t) (h1:Take (c_ (c_ g ⟨t,[]⟩ .dead) q .dead) (cs++new) cs' g1) (al:Take g1 xs xs' g') :
   Take g (.bn z ⟨t,[]⟩ (n+m)::xs) (.own z (n+m) cs'::xs') g'
 | Dl {g g1 g':aY}{z n m t pj m2 t2:Nat}{q:Place}{cs new xO cs' xs xs':List ag}(aD:g t=some (.bX z ⟨t2,[]⟩ n m new)) (Ld:g t2=some (.bX z q pj m2 xO)) (aL:n=pj+m2) (aG:b7 g q=some (.own z pj cs)) (bO:q.root≠t) (rJ:q.root≠t2) (Sj:t≠t2)
   (h1:Take (c_ (c_ (c_ g ⟨t,[]⟩ .dead) ⟨t2,[]⟩ .dead) q .dead) (cs++xO++new) cs' g1) (al:Take g1 xs xs' g') :
   Take g (.bn z ⟨t,[]⟩ (n+m)::xs) (.own z (n+m) cs'::xs') g'
 | obj {g g1 g':aY}{p:Place}{cs cs' xs xs':List ag}(aG:b7 g p=some (.obj cs)) (h1:Take (c_ g p .dead) cs cs' g1) (al:Take g1 xs xs' g'):Take g (.ptr p 0::xs) (.obj cs'::xs') g'
 | mp {g g1 g':aY}{p:Place}{q:Array MapEntry->Nat->Prop}{xs xs':List ag}(aG:b7 g p=some (.mp q)) (h1:Take (c_ g p .dead) [] [] g1) (al:Take g1 xs xs' g'):Take g (.hD p::xs) (.mp q::xs') g'
 | agg {g g1 g':aY}{cs cs' xs xs':List ag}(h1:Take g cs cs' g1) (al:Take g1 xs xs' g'):Take g (.agg cs::xs) (.agg cs'::xs') g'
 | cB {g g1 g':aY}{cs cs' xs xs':List ag}(h1:Take g cs cs' g1) (al:Take g1 xs xs' g'):Take g (.cB cs::xs) (.cB cs'::xs') g'
structure Hand (w:World) (I:br) (ρ:ag->Value->Prop) (Fs:Nat->br) (xs:List ag) (vs:List Value) (dQ:Nat->br):Prop where
 len:xs.length=vs.length
 rel:∀ (k:Nat) (x:ag) (u:Value),xs[k]?=some x->vs[k]?=some u->R w I ρ x u (dQ k)
 e5:∀ (ae k c:Nat),ae<xs.length->k<xs.length->dQ ae c->dQ k c->ae=k
 off:∀ (k t c:Nat),k<xs.length->dQ k c->¬ Fs t c
 aE:∀ (k c:Nat),k<xs.length->dQ k c->¬ I c
def k' (Fs:Nat->br) (n:Nat) (dQ:Nat->br):br:=λc=>(∃ t,Fs t c)\/∃ k,k<n/\dQ k c
section
variable {w:World}{I:br}{T:Array Value}
theorem Take.length {g g':aY}{xs xs':List ag}(h:Take g xs xs' g'):xs'.length=xs.length:=by
 induction h with
 | bK=>rfl
 | cons _ _ aS=>simp [aS]
 | bn _ _ _ _ _ aS=>simp [aS]
 | bX _ _ _ _ _ _ aS=>simp [aS]
 | Dl _ _ _ _ _ _ _ _ _ _ aS=>simp [aS]
 | obj _ _ _ _ aS=>simp [aS]
 | mp _ _ _ _ aS=>simp [aS]
 | agg _ _ _ aS=>simp [aS]
 | cB _ _ _ aS=>simp [aS]
theorem Hand.cons {ρ:ag->Value->Prop}{Fs:Nat->br}{x:ag}{v:Value}{F:br}{xs:List ag}{vs:List Value}{dQ:Nat->br}(h:Hand w I ρ Fs xs vs dQ) (J:R w I ρ x v F)
  (aV:∀ k c,k<xs.length->F c->¬ dQ k c) (bd:∀ t c,F c->¬ Fs t c) (hi:∀ c,F c->¬ I c):Hand w I ρ Fs (x::xs) (v::vs) (λk=>match k with | 0=>F | k+1=>dQ k):=by
 refine ⟨by simp [h.len],λk y u az hu=>?_,λae k c aa hk h1 al=>?_,λk t c hk ab=>?_,λk c hk ab=>?_⟩
 ·cases k with
  | zero=>simp at az hu; subst az hu; exact J
  | succ k=>simp at az hu; exact h.rel k y u az hu
 ·cases ae <;> cases k
  ·rfl
  ·exact absurd al (aV _ c (by simpa using hk) h1)
  ·exact absurd h1 (aV _ c (by simpa using aa) al)
  ·rw [h.e5 _ _ c (by simpa using aa) (by simpa using hk) h1 al]
 ·cases k with
  | zero=>exact bd t c ab
  | succ k=>exact h.off k t c (by simpa using hk) ab
 ·cases k with
  | zero=>exact hi c ab
  | succ k=>exact h.aE k c (by simpa using hk) ab
theorem Hand.tail {ρ:ag->Value->Prop}{Fs:Nat->br}{x:ag}{v:Value}{xs:List ag}{vs:List Value}{dQ:Nat->br}(h:Hand w I ρ Fs (x::xs) (v::vs) dQ):Hand w I ρ Fs xs vs (λk=>dQ (k+1)) :=
  ⟨by simpa using h.len,λk y u az hu=>h.rel (k+1) y u az hu,λae k c aa hk h1 al=>by have:=h.e5 (ae+1) (k+1) c (by simpa using aa) (by simpa using hk) h1 al; omega,
   λk t c hk ab=>h.off (k+1) t c (by simpa using hk) ab,λk c hk ab=>h.aE (k+1) c (by simpa using hk) ab⟩
theorem oK {x:ag}{xs:List ag}(h:di x) (aS:∀ y∈xs,di y):∀ y∈x::xs,di y:=by
 intro y az
 rcases List.mem_cons.1 az with rfl | az
 ·exact h
 ·exact aS y az
theorem Take.AG {g g':aY}{xs xs':List ag}(h:Take g xs xs' g'):∀ x∈xs',di x:=by
 induction h with
 | bK h=>exact h
 | cons h _ aS=>exact oK h aS
 | bn _ _ _ _ gx gl=>exact oK (.own gx) gl
 | bX _ _ _ _ _ gx gl=>exact oK (.own gx) gl
 | Dl _ _ _ _ _ _ _ _ _ gx gl=>exact oK (.own gx) gl
 | obj _ _ _ gx gl=>exact oK (.obj gx) gl
 | mp _ _ _ _ gl=>exact oK .mp gl
 | agg _ _ gx gl=>exact oK (.agg gx) gl
 | cB _ _ gx gl=>exact oK (.cB gx) gl
def D0 (w:World) (I:br) (T:Array Value) (g:aY) (xs xs':List ag) (g':aY):Prop :=
 ∀ {Fs:Nat->br}{vs:List Value}{dQ:Nat->br},jE w I T g Fs->Hand w I (fS w T) Fs xs vs dQ ->
  ∃ cp jB,jE w I T g' cp/\Hand w I (fS w T) cp xs' vs jB/\∀ c,k' cp xs'.length jB c->k' Fs xs.length dQ c
theorem Hh {w:World}{e cW:TypeId}{z n:Nat}{v:Value}{us iL:List Value}(h:w.ownsRow 0 e z v n us) (aT:w.ownsRow 0 cW z v n iL):us=iL:=by
 obtain ⟨h1,al⟩:=h
 obtain ⟨nu,P4⟩:=aT
 rcases al with ⟨rfl,rfl⟩ | ⟨b,cap,cur,rfl,_,a8,_,_,_,aD⟩
 ·simp at h1 nu; rw [h1,nu]
 ·rcases P4 with ⟨b9,_⟩ | ⟨hJ,lY,Pp,b9,_,KM,_,_,_,p1⟩
  ·cases b9
  ·cases b9
   rw [a8] at KM
   cases KM
   rw [<- aD,<- p1]
theorem Take.node {g1 g2 g':aY}{Fs gh:Nat->br}{B H0:br}{cs cs' xs xs':List ag}{us vs:List Value}{bS dQ:Nat->br}{X:ag}{v0:Value}
  (bT:jE w I T g1 gh) (hH:Hand w I (fS w T) gh cs us bS) (iv:∀ c,B c->(∃ t,Fs t c)/\(∀ t,¬ gh t c)/\(∀ k,k<cs.length->¬ bS k c)/\¬ I c)
  (gz:∀ c,k' gh cs.length bS c->(∃ t,Fs t c)\/H0 c) (fM:Hand w I (fS w T) Fs xs vs dQ) (tG:∀ c,H0 c->(∀ t,¬ Fs t c)/\∀ k,k<xs.length->¬ dQ k c)
  (gx:D0 w I T g1 cs cs' g2) (gl:D0 w I T g2 xs xs' g')
  (build:∀ jB:Nat->br,(∀ (k:Nat) (x:ag) (u:Value),cs'[k]?=some x->us[k]?=some u->R w I (fS w T) x u (jB k))->(∀ (ae k c:Nat),ae<cs'.length->k<cs'.length->jB ae c->jB k c->ae=k) ->
   (∀ k c,k<cs'.length->jB k c->¬ B c)->R w I (fS w T) X v0 (λc=>B c\/∃ k,k<cs'.length/\jB k c)) :
  ∃ cp jB,jE w I T g' cp/\Hand w I (fS w T) cp (X::xs') (v0::vs) jB/\∀ c,k' cp (X::xs').length jB c->(∃ t,Fs t c)\/H0 c\/∃ k,k<xs.length/\dQ k c:=by
 obtain ⟨iZ,H1,ib,CD,zM⟩:=gx bT hH
 have Ts:∀ k t c,k<xs.length->dQ k c->¬ iZ t c:=by
  intro k t c hk ab bl
  rcases gz c (zM c (.inl ⟨t,bl⟩)) with ⟨dn,h⟩ | h
  ·exact fM.off k dn c hk ab h
  ·exact (tG c h).2 k hk ab
 obtain ⟨wN,yE,Fj,Qw,Kw⟩:=gl ib (⟨fM.len,fM.rel,fM.e5,Ts,fM.aE⟩:Hand w I (fS w T) iZ xs vs dQ)
 have Qm:∀ k c,k<cs'.length->H1 k c->¬ B c:=by
  intro k c hk ab aH
  obtain ⟨_,h1,al,_⟩:=iv c aH
  rcases zM c (.inr ⟨k,hk,ab⟩) with ⟨t,h⟩ | ⟨ae,aa,h⟩
  ·exact h1 t h
  ·exact al ae aa h
 have zK:=build H1 CD.rel CD.e5 Qm
 -- the node's blocks: apart from all else
 have key:∀ c,(B c\/∃ k,k<cs'.length/\H1 k c)->(∀ t,¬ iZ t c)/\(∀ k,k<xs.length->¬ dQ k c)/\¬ I c/\((∃ t,Fs t c)\/H0 c):=by
  rintro c (aH | ⟨k,hk,ab⟩)
  ·obtain ⟨⟨t0,bb⟩,h1,al,aO⟩:=iv c aH
   refine ⟨λt bl=>?_,λk hk ab=>fM.off k t0 c hk ab bb,aO,.inl ⟨t0,bb⟩⟩
   rcases zM c (.inl ⟨t,bl⟩) with ⟨dn,h⟩ | ⟨ae,aa,h⟩
   ·exact h1 dn h
   ·exact al ae aa h
  ·have aN:=gz c (zM c (.inr ⟨k,hk,ab⟩))
   refine ⟨λt bl=>CD.off k t c hk ab bl,λae aa vl=>?_,CD.aE k c hk ab,aN⟩
   rcases aN with ⟨t,h⟩ | h
   ·exact fM.off ae t c aa vl h
   ·exact (tG c h).2 ae aa vl
 have fin:∀ c,(B c\/∃ k,k<cs'.length/\H1 k c)->(∀ t,¬ wN t c)/\∀ k,k<xs'.length->¬ yE k c:=by
  intro c ab
  obtain ⟨h1,al,_,_⟩:=key c ab
  have none:¬ k' wN xs'.length yE c:=by
   intro h
   rcases Kw c h with ⟨t,h⟩ | ⟨k,hk,h⟩
   ·exact h1 t h
   ·exact al k hk h
  exact ⟨λt h=>none (.inl ⟨t,h⟩),λk hk h=>none (.inr ⟨k,hk,h⟩)⟩
 refine ⟨wN,_,Fj,Qw.cons zK (λk c hk ab=>(fin c ab).2 k hk) (λt c ab=>(fin c ab).1 t) (λc ab=>(key c ab).2.2.1),?_⟩
 have back:∀ c,k' wN xs'.length yE c->(∃ t,Fs t c)\/H0 c\/∃ k,k<xs.length/\dQ k c:=by
  intro c h
  rcases Kw c h with ⟨t,h⟩ | h
  ·rcases gz c (zM c (.inl ⟨t,h⟩)) with h | h
   ·exact .inl h
   ·exact .inr (.inl h)
  ·exact .inr (.inr h)
 rintro c (h | ⟨k,hk,ab⟩)
 ·exact back c (.inl h)
 ·cases k with
  | zero =>
   rcases (key c ab).2.2.2 with h | h
   ·exact .inl h
   ·exact .inr (.inl h)
  | succ k=>exact back c (.inr ⟨k,by simpa using hk,ab⟩)
end
end Go.Own
namespace Go.Own
open Go
section
variable {w:World}{I:br}{T:Array Value}
theorem jE.kill {g:aY}{Fs:Nat->br}(h:jE w I T g Fs) (t:Nat):∃ cp,jE w I T (c_ g ⟨t,[]⟩ .dead) cp/\(∀ c,¬ cp t c)/\∀ s,s≠t->cp s=Fs s:=by
 refine ⟨λs=>if s=t then cU else Fs s,⟨λs x J=>?_,λs aN c=>?_,λs fe c ab fu=>?_,λs c ab=>?_,h.lt⟩,λc=>by simp,λs aN=>by simp [aN]⟩
 ·by_cases cn:s=t
  ·subst cn
   simp only [c_,if_pos] at J
   cases a8:g s with
   | none=>rw [a8] at J; cases J
   | some y =>
    rw [a8] at J
    have:x=.dead:=by simpa [ag.setAt] using J.symm
    subst this
    obtain ⟨v,hv,_⟩:=h.rel s y a8
    exact ⟨v,hv,.tree (.dead (by simp))⟩
  ·simp only [c_,if_neg cn] at J; simpa [cn] using h.rel s x J
 ·by_cases cn:s=t
  ·simp [cn]
  ·simp only [c_,if_neg cn] at aN; simpa [cn] using h.kI s aN c
 ·by_cases h1:s=t <;> by_cases al:fe=t <;> simp [h1,al,cU] at ab fu
  exact h.e5 _ _ _ ab fu
 ·by_cases h1:s=t <;> simp [h1,cU] at ab
  exact h.aE _ _ ab
theorem R.tO {ρ:ag->Value->Prop}{Fs:Nat->br}{x:ag}{v:Value}{xs:List ag}{vs:List Value}{dQ:Nat->br}(h:Hand w I ρ Fs (x::xs) (v::vs) dQ):∀ c,dQ 0 c->(∀ t,¬ Fs t c)/\∀ k,k<xs.length->¬ dQ (k+1) c:=by
 intro c ab
 refine ⟨λt=>h.off 0 t c (by simp) ab,λk hk ix=>?_⟩
 have:=h.e5 0 (k+1) c (by simp) (by simpa using hk) ab ix
 omega
theorem k'.head {Fs:Nat->br}{x:ag}{xs:List ag}{dQ:Nat->br}{c:Nat}(h:(∃ t,Fs t c)\/dQ 0 c\/∃ k,k<xs.length/\dQ (k+1) c):k' Fs (x::xs).length dQ c:=by
 rcases h with h | h | ⟨k,hk,h⟩
 ·exact .inl h
 ·exact .inr ⟨0,by simp,h⟩
 ·exact .inr ⟨k+1,by simpa using hk,h⟩
theorem DB {g:aY}{p:Place}{y:ag}{q:Place}(h:q.root≠p.root):b7 (c_ g p y) q=b7 g q:=by
 simp [b7,c_,h]
theorem q7 {g:aY}{p:Place}{y:ag}{t:Nat}(h:t≠p.root):c_ g p y t=g t:=by
 simp [c_,h]
theorem L1 {a:Option Addr}{n cap cX lY:Nat}:(Value.slice a n cap).ownBlock=(Value.slice a cX lY).ownBlock:=by cases a <;> rfl
theorem Ty {e:TypeId}{z n N:Nat}{a:Option Addr}{cap:Nat}{us:List Value}(h:w.ownsRow 0 e z (.slice a N cap) N us) (aL:n<=N):w.ownsRow 0 e z (.slice a n cap) n (us.take (n * z)):=by
 have hle:n * z<=N * z:=Nat.mul_le_mul_right _ aL
 obtain ⟨hu,b9⟩:=h
 refine ⟨by rw [List.length_take,hu]; omega,?_⟩
 rcases b9 with ⟨b9,bb⟩ | ⟨b,c2,cur,b9,sY,fP,uu,rS,uv,sZ⟩
 ·cases b9; exact .inl ⟨by simp; omega,by omega⟩
 ·cases b9
  refine .inr ⟨b,cap,cur,rfl,sY,fP,by omega,rS,uv,?_⟩
  rw [<- sZ,List.take_take,Nat.min_eq_left hle]
theorem Take.sound {g g':aY}{xs xs':List ag}(h:Take g xs xs' g'):D0 w I T g xs xs' g':=by
 induction h with
 | bK h=>exact λ{Fs vs dQ} bT hH=>⟨Fs,dQ,bT,hH,λ_ h=>h⟩
 | @cons g g' x xs xs' J _ aS =>
  intro Fs vs dQ bT hH
  cases vs with
  | nil=>have:=hH.len; simp at this
  | cons v vs =>
   obtain ⟨cp,jB,eB,Qv,hb⟩:=aS bT hH.tail
   have bb:=R.tO hH
   have off:∀ c,dQ 0 c->¬ k' cp xs'.length jB c:=by
    intro c ab aH
    rcases hb c aH with ⟨t,h⟩ | ⟨k,hk,h⟩
    ·exact (bb c ab).1 t h
    ·exact (bb c ab).2 k hk h
   refine ⟨cp,_,eB,Qv.cons (hH.rel 0 x v rfl rfl) (λk c hk ab h=>off c ab (.inr ⟨k,hk,h⟩)) (λt c ab h=>off c ab (.inl ⟨t,h⟩)) (λc ab=>hH.aE 0 c (by simp) ab),?_⟩
   rintro c (h | ⟨k,hk,h⟩)
   ·rcases hb c (.inl h) with h | ⟨ae,aa,h⟩
    ·exact .inl h
    ·exact .inr ⟨ae+1,by simpa using aa,h⟩
   ·cases k with
    | zero=>exact .inr ⟨0,by simp,h⟩
    | succ k =>
     rcases hb c (.inr ⟨k,by simpa using hk,h⟩) with h | ⟨ae,aa,h⟩
     ·exact .inl h
     ·exact .inr ⟨ae+1,by simpa using aa,h⟩
 | @bn g g1 g' z n N p cs cs' xs xs' aG aL t1 _ gx gl =>
  intro Fs vs dQ bT hH
  cases vs with
  | nil=>have:=hH.len; simp at this
  | cons v vs =>
   obtain ⟨pD,cM,gP,hP,dC,j'⟩:=bT.part aG (by simp)
   obtain ⟨a,i_,cap,h1,rfl,aO⟩:=(hH.rel 0 _ v rfl rfl).mG
   rw [h1] at gP
   cases gP
   obtain ⟨a2,qx,j4,_⟩:=hP.mL
   cases j4
   obtain ⟨gh,jb,jN,iF⟩:=j' .dead cU (.dead λ_ h=>h) (λ_ h=>h.elim) (λ_ h=>h.elim) (λ_ _ _ h=>h.elim)
   have lk:∀ t c,gh t c->Fs t c/\¬ cM c:=by
    intro t c ab
    by_cases aD:t=p.root
    ·subst aD
     rcases (jN c).1 ab with h | h
     ·exact h
     ·exact h.elim
    ·rw [iF t aD] at ab
     exact ⟨ab,λeN=>aD (bT.e5 _ _ _ ab (dC c eN))⟩
   cases hP with
   | ref J=>simp [ag.isRef] at J
   | @own _ _ _ _ e us bS _ bd ao nu ax aV aH aR =>
    have CS:∀ k,k<(cs.take (n * z)).length->k<cs.length:=λk hk=>by rw [List.length_take] at hk; omega
    have fg:∀ k c,k<(cs.take (n * z)).length->bS k c->cM c:=λk c hk ab=>(aR c).2 (.inr ⟨k,CS k hk,ab⟩)
    have iD:Hand w I (fS w T) gh (cs.take (n * z)) (us.take (n * z)) bS:=by
     refine ⟨by simp [ao],λk x u J hu=>?_,λae k c aa hk=>aV ae k c (CS ae aa) (CS k hk),λk t c hk ab bl=>(lk t c bl).2 (fg k c hk ab),λk c hk ab=>bT.aE _ c (dC c (fg k c hk ab))⟩
     rw [List.getElem?_take] at J hu
     split at J
     ·rename_i dZ; rw [if_pos dZ] at hu; exact ax k x u J hu
     ·cases J
    have oC:=Ty bd aL
    obtain ⟨cp,jB,aw,a2,a3⟩:=Take.node (g1:=c_ g p .dead) (Fs:=Fs) (B:=λc=>(Value.slice a n cap).ownBlock=some c) (H0:=dQ 0) (X:=.own z n cs') (v0:=.slice a n cap) jb iD
     (λc ab=>by
      have eN:cM c:=(aR c).2 (.inl (by rw [<- ab]; exact L1))
      exact ⟨⟨_,dC c eN⟩,λt bl=>(lk t c bl).2 eN,λk hk ix=>aH k c (CS k hk) ix (by rw [<- ab]; exact L1),bT.aE _ c (dC c eN)⟩)
     (λc ab=>by
      rcases ab with ⟨t,h⟩ | ⟨k,hk,h⟩
      ·exact .inl ⟨t,(lk t c h).1⟩
      ·exact .inl ⟨_,dC c (fg k c hk h)⟩)
     hH.tail (R.tO hH) gx gl (λwP hK iq lg=>by
      refine .own oC (by rw [t1.length]; simp [ao]) (λk u hu=>?_) hK iq (λk c hk ab h=>lg k c hk ab h) λc=>Iff.rfl
      rw [List.getElem?_take] at hu
      split at hu
      ·exact nu k u hu
      ·cases hu)
    exact ⟨cp,jB,aw,a2,λc ab=>k'.head (a3 c ab)⟩
 | @bX g g1 g' z n m t q cs new cs' xs xs' aD aG bO t1 _ gx gl =>
  intro Fs vs dQ bT hH
  cases vs with
  | nil=>have:=hH.len; simp at this
  | cons v vs =>
   obtain ⟨a,i_,cap,h1,rfl,aO⟩:=(hH.rel 0 _ v rfl rfl).mG
   obtain ⟨v0,iG,gF⟩:=bT.rel t _ aD
   simp only [ed,iG,walk,Option.some.injEq] at h1
   subst h1
   obtain ⟨bv,e,c3,us,news,gF⟩:=gF.uf
   have bW:i_=n+m:=by
    obtain ⟨_,b9⟩:=gF.mx
    rcases b9 with ⟨b9,bb⟩ | ⟨_,_,_,b9,_⟩
    ·cases b9; omega
    ·cases b9; rfl
   subst bW
   obtain ⟨Nt,Fl,gN,gH⟩:=bT.kill t
   have F9:b7 (c_ g ⟨t,[]⟩ .dead) q=some (.own z n cs):=by rw [DB (by simpa using bO)]; exact aG
   obtain ⟨pD,cM,gP,hP,dC,j'⟩:=Fl.part F9 (by simp)
   obtain ⟨cE,lY,b4,rfl⟩:=gF.jM
   rw [b4] at gP
   cases gP
   obtain ⟨gh,jb,jN,iF⟩:=j' .dead cU (.dead λ_ h=>h) (λ_ h=>h.elim) (λ_ h=>h.elim) (λ_ _ _ h=>h.elim)
   have o9:∀ c,cM c->Fs q.root c:=λc ab=>by have:=dC c ab; rwa [gH _ bO] at this
   have lk:∀ s c,gh s c->Fs s c/\¬ cM c/\s≠t:=by
    intro s c ab
    have cn:s≠t:=by
     rintro rfl
     by_cases tZ:s=q.root
     ·exact bO tZ.symm
     ·rw [iF s tZ] at ab; exact gN c ab
    by_cases aN:s=q.root
    ·subst aN
     rcases (jN c).1 ab with h | h
     ·exact ⟨by have:=h.1; rwa [gH _ bO] at this,h.2,cn⟩
     ·exact h.elim
    ·rw [iF s aN,gH s cn] at ab
     exact ⟨ab,λeN=>aN (bT.e5 _ _ _ ab (o9 c eN)),cn⟩
   cases hP with
   | ref J=>simp [ag.isRef] at J
   | @own _ _ _ _ cW iL bS _ bd ao nu ax aV aH aR =>
    have:=Hh bd gF.k5
    subst this
    have fg:∀ k c,k<cs.length->bS k c->cM c:=λk c hk ab=>(aR c).2 (.inr ⟨k,hk,ab⟩)
    have iD:Hand w I (fS w T) gh (cs++new) (iL++news) (λk=>if k<cs.length then bS k else cU):=by
     refine ⟨by simp [ao,gF.ao],λk x u J hu=>?_,λae k c aa hk ab fu=>?_,λk s c hk ab bl=>?_,λk c hk ab=>?_⟩
     ·by_cases dZ:k<cs.length
      ·rw [List.getElem?_append_left dZ] at J
       rw [List.getElem?_append_left (by omega)] at hu
       simpa [dZ] using ax k x u J hu
      ·rw [List.getElem?_append_right (by omega)] at J
       rw [List.getElem?_append_right (by omega),<- ao] at hu
       simpa [dZ] using gF.ax _ x u J hu
     ·by_cases fq:ae<cs.length <;> by_cases dZ:k<cs.length <;> simp [fq,dZ,cU] at ab fu
      exact aV ae k c fq dZ ab fu
     ·by_cases dZ:k<cs.length <;> simp [dZ,cU] at ab
      exact (lk s c bl).2.1 (fg k c dZ ab)
     ·by_cases dZ:k<cs.length <;> simp [dZ,cU] at ab
      exact bT.aE _ c (o9 c (fg k c dZ ab))
    obtain ⟨cp,jB,aw,a2,a3⟩:=Take.node (g1:=c_ (c_ g ⟨t,[]⟩ .dead) q .dead) (Fs:=Fs) (B:=λc=>(Value.slice a (n+m) cap).ownBlock=some c) (H0:=dQ 0) (X:=.own z (n+m) cs') (v0:=.slice a (n+m) cap) jb iD
     (λc ab=>by
      by_cases pX:(Value.slice cE n lY).ownBlock=some c
      ·have eN:cM c:=(aR c).2 (.inl pX)
       refine ⟨⟨_,o9 c eN⟩,λs bl=>(lk s c bl).2.1 eN,λk hk ix=>?_,bT.aE _ c (o9 c eN)⟩
       by_cases dZ:k<cs.length <;> simp [dZ,cU] at ix
       exact aH k c dZ ix pX
      ·have CT:Fs t c:=(gF.aR c).2 ⟨ab,pX⟩
       refine ⟨⟨_,CT⟩,λs bl=>(lk s c bl).2.2 (bT.e5 _ _ _ (lk s c bl).1 CT),λk hk ix=>?_,bT.aE _ c CT⟩
       by_cases dZ:k<cs.length <;> simp [dZ,cU] at ix
       exact bO (bT.e5 _ _ _ (o9 c (fg k c dZ ix)) CT))
     (λc ab=>by
      rcases ab with ⟨s,h⟩ | ⟨k,hk,h⟩
      ·exact .inl ⟨s,(lk s c h).1⟩
      ·by_cases dZ:k<cs.length <;> simp [dZ,cU] at h
       exact .inl ⟨_,o9 c (fg k c dZ h)⟩)
     hH.tail (R.tO hH) gx gl (λwP hK iq lg=>by
      refine .own gF.mx (by rw [t1.length]; simp [ao,gF.ao]) (λk u hu=>?_) hK iq (λk c hk ab h=>lg k c hk ab h) λc=>Iff.rfl
      by_cases dZ:k<iL.length
      ·rw [List.getElem?_append_left dZ] at hu; exact nu k u hu
      ·rw [List.getElem?_append_right (by omega)] at hu; exact gF.h1 _ u hu)
    exact ⟨cp,jB,aw,a2,λc ab=>k'.head (a3 c ab)⟩
 | @Dl g g1 g' z n m t pj m2 t2 q cs new xO cs' xs xs' aD Ld aL aG bO rJ Sj t1 _ gx gl =>
  subst aL
  intro Fs vs dQ bT hH
  cases vs with
  | nil=>have:=hH.len; simp at this
  | cons v vs =>
   obtain ⟨a,i_,cap,h1,rfl,aO⟩:=(hH.rel 0 _ v rfl rfl).mG
   obtain ⟨v0,iG,gF⟩:=bT.rel t _ aD
   simp only [ed,iG,walk,Option.some.injEq] at h1
   subst h1
   obtain ⟨bv,e,c3,us,news,gF⟩:=gF.uf
   have bW:i_=pj+m2+m:=by
    obtain ⟨_,b9⟩:=gF.mx
    rcases b9 with ⟨b9,bb⟩ | ⟨_,_,_,b9,_⟩
    ·cases b9; omega
    ·cases b9; rfl
   subst bW
   obtain ⟨v2,xC,l2⟩:=bT.rel t2 _ Ld
   obtain ⟨IY,cW,si,UM,Hb,l2⟩:=l2.uf
   have jM:bv=v2:=by
    obtain ⟨aw,I_,df,rfl⟩:=gF.jM
    simp only [ed,xC,walk,Option.some.injEq] at df
    exact df.symm
   subst jM
   have mz:us=UM++Hb:=Hh gF.k5 l2.mx
   subst mz
   obtain ⟨Vb,QO,RL,FP⟩:=bT.kill t
   obtain ⟨Nt,Fl,gN,gH⟩:=QO.kill t2
   have F9:b7 (c_ (c_ g ⟨t,[]⟩ .dead) ⟨t2,[]⟩ .dead) q=some (.own z pj cs):=by rw [DB (by simpa using rJ),DB (by simpa using bO)]; exact aG
   obtain ⟨pD,cM,gP,hP,dC,j'⟩:=Fl.part F9 (by simp)
   obtain ⟨cE,lY,b4,rfl⟩:=l2.jM
   rw [b4] at gP
   cases gP
   obtain ⟨gh,jb,jN,iF⟩:=j' .dead cU (.dead λ_ h=>h) (λ_ h=>h.elim) (λ_ h=>h.elim) (λ_ _ _ h=>h.elim)
   have o9:∀ c,cM c->Fs q.root c:=λc ab=>by have:=dC c ab; rwa [gH _ rJ,FP _ bO] at this
   have lk:∀ s c,gh s c->Fs s c/\¬ cM c/\s≠t/\s≠t2:=by
    intro s c ab
    have nA:s≠t2:=by
     rintro rfl
     by_cases tZ:s=q.root
     ·exact rJ tZ.symm
     ·rw [iF s tZ] at ab; exact gN c ab
    have cn:s≠t:=by
     rintro rfl
     by_cases tZ:s=q.root
     ·exact bO tZ.symm
     ·rw [iF s tZ,gH s nA] at ab; exact RL c ab
    by_cases aN:s=q.root
    ·subst aN
     rcases (jN c).1 ab with h | h
     ·exact ⟨by have:=h.1; rwa [gH _ rJ,FP _ bO] at this,h.2,cn,nA⟩
     ·exact h.elim
    ·rw [iF s aN,gH s nA,FP s cn] at ab
     exact ⟨ab,λeN=>aN (bT.e5 _ _ _ ab (o9 c eN)),cn,nA⟩
   cases hP with
   | ref J=>simp [ag.isRef] at J
   | @own _ _ _ _ jY iL bS _ bd ao nu ax aV aH aR =>
    have:=Hh bd l2.k5
    subst this
    have fg:∀ k c,k<cs.length->bS k c->cM c:=λk c hk ab=>(aR c).2 (.inr ⟨k,hk,ab⟩)
    have iD:Hand w I (fS w T) gh (cs++xO++new) (iL++Hb++news) (λk=>if k<cs.length then bS k else cU):=by
     have G0:=l2.ao
     have Av:=gF.ao
     refine ⟨by simp [ao,G0,Av],λk x u J hu=>?_,λae k c aa hk ab fu=>?_,λk s c hk ab bl=>?_,λk c hk ab=>?_⟩
     ·rw [List.append_assoc] at J hu
      by_cases dZ:k<cs.length
      ·rw [List.getElem?_append_left dZ] at J
       rw [List.getElem?_append_left (by omega)] at hu
       simpa [dZ] using ax k x u J hu
      ·rw [List.getElem?_append_right (by omega)] at J
       rw [List.getElem?_append_right (by omega),<- ao] at hu
       simp only [dZ,if_false]
       by_cases FU:k - cs.length<xO.length
       ·rw [List.getElem?_append_left FU] at J
        rw [List.getElem?_append_left (by omega)] at hu
        exact l2.ax _ x u J hu
       ·rw [List.getElem?_append_right (by omega)] at J
        rw [List.getElem?_append_right (by omega),<- G0] at hu
        exact gF.ax _ x u J hu
     ·by_cases fq:ae<cs.length <;> by_cases dZ:k<cs.length <;> simp [fq,dZ,cU] at ab fu
      exact aV ae k c fq dZ ab fu
     ·by_cases dZ:k<cs.length <;> simp [dZ,cU] at ab
      exact (lk s c bl).2.1 (fg k c dZ ab)
     ·by_cases dZ:k<cs.length <;> simp [dZ,cU] at ab
      exact bT.aE _ c (o9 c (fg k c dZ ab))
    have MF:∀ s c,Fs s c->s=t\/s=t2->(∃ s,Fs s c)/\(∀ s,¬ gh s c)/\(∀ k,k<(cs++xO++new).length->¬ (if k<cs.length then bS k else cU) c)/\¬ I c:=by
     intro s c ab aN
     refine ⟨⟨_,ab⟩,λfe bl=>?_,λk hk ix=>?_,bT.aE _ c ab⟩
     ·obtain ⟨f1,_,f2,f3⟩:=lk fe c bl
      have:=bT.e5 _ _ _ f1 ab
      rcases aN with rfl | rfl
      ·exact f2 this
      ·exact f3 this
     ·by_cases dZ:k<cs.length <;> simp [dZ,cU] at ix
      have:=bT.e5 _ _ _ (o9 c (fg k c dZ ix)) ab
      rcases aN with rfl | rfl
      ·exact bO this
      ·exact rJ this
    obtain ⟨cp,jB,aw,a2,a3⟩:=Take.node (g1:=c_ (c_ (c_ g ⟨t,[]⟩ .dead) ⟨t2,[]⟩ .dead) q .dead) (Fs:=Fs) (B:=λc=>(Value.slice a (pj+m2+m) cap).ownBlock=some c) (H0:=dQ 0) (X:=.own z (pj+m2+m) cs') (v0:=.slice a (pj+m2+m) cap) jb iD
     (λc ab=>by
      by_cases pX:bv.ownBlock=some c
      ·by_cases Fy:(Value.slice cE pj lY).ownBlock=some c
       ·have eN:cM c:=(aR c).2 (.inl Fy)
        refine ⟨⟨_,o9 c eN⟩,λs bl=>(lk s c bl).2.1 eN,λk hk ix=>?_,bT.aE _ c (o9 c eN)⟩
        by_cases dZ:k<cs.length <;> simp [dZ,cU] at ix
        exact aH k c dZ ix Fy
       ·exact MF t2 c ((l2.aR c).2 ⟨pX,Fy⟩) (.inr rfl)
      ·exact MF t c ((gF.aR c).2 ⟨ab,pX⟩) (.inl rfl))
     (λc ab=>by
      rcases ab with ⟨s,h⟩ | ⟨k,hk,h⟩
      ·exact .inl ⟨s,(lk s c h).1⟩
      ·by_cases dZ:k<cs.length <;> simp [dZ,cU] at h
       exact .inl ⟨_,o9 c (fg k c dZ h)⟩)
     hH.tail (R.tO hH) gx gl (λwP hK iq lg=>by
      refine .own gF.mx (by rw [t1.length]; simp [ao,l2.ao,gF.ao]) (λk u hu=>?_) hK iq (λk c hk ab h=>lg k c hk ab h) λc=>Iff.rfl
      rw [List.append_assoc] at hu
      by_cases dZ:k<iL.length
      ·rw [List.getElem?_append_left dZ] at hu; exact nu k u hu
      ·rw [List.getElem?_append_right (by omega)] at hu
       by_cases FU:k - iL.length<Hb.length
       ·rw [List.getElem?_append_left FU] at hu; exact l2.h1 _ u hu
       ·rw [List.getElem?_append_right (by omega)] at hu; exact gF.h1 _ u hu)
    exact ⟨cp,jB,aw,a2,λc ab=>k'.head (a3 c ab)⟩
 | @obj g g1 g' p cs cs' xs xs' aG t1 _ gx gl =>
  intro Fs vs dQ bT hH
  cases vs with
  | nil=>have:=hH.len; simp at this
  | cons v vs =>
   obtain ⟨pD,cM,gP,hP,dC,j'⟩:=bT.part aG (by simp)
   obtain ⟨u,ad,h1,al,rfl⟩:=(hH.rel 0 _ v rfl rfl).nh
   rw [h1] at gP
   cases gP
   obtain ⟨gh,jb,jN,iF⟩:=j' .dead cU (.dead λ_ h=>h) (λ_ h=>h.elim) (λ_ h=>h.elim) (λ_ _ _ h=>h.elim)
   have lk:∀ t c,gh t c->Fs t c/\¬ cM c:=by
    intro t c ab
    by_cases aD:t=p.root
    ·subst aD
     rcases (jN c).1 ab with h | h
     ·exact h
     ·exact h.elim
    ·rw [iF t aD] at ab
     exact ⟨ab,λeN=>aD (bT.e5 _ _ _ ab (dC c eN))⟩
   cases hP with
   | ref J=>simp [ag.isRef] at J
   | @obj _ b e arr bS _ bd ao nu ax aV aH aR =>
    simp only [addrOf,Option.some.injEq] at al
    subst al
    have fg:∀ k c,k<cs.length->bS k c->cM c:=λk c hk ab=>(aR c).2 (.inr ⟨k,hk,ab⟩)
    have iD:Hand w I (fS w T) gh cs arr.toList bS :=
     ⟨by simp [ao],λk x u J hu=>ax k x u J (by simpa using hu),aV,λk t c hk ab bl=>(lk t c bl).2 (fg k c hk ab),λk c hk ab=>bT.aE _ c (dC c (fg k c hk ab))⟩
    obtain ⟨cp,jB,aw,a2,a3⟩:=Take.node (g1:=c_ g p .dead) (Fs:=Fs) (B:=λc=>c=b) (H0:=dQ 0) (X:=.obj cs') (v0:=.pointer (some ⟨b,0,none⟩)) jb iD
     (λc ab=>by
      subst ab
      have eN:cM c:=(aR c).2 (.inl rfl)
      exact ⟨⟨_,dC c eN⟩,λt bl=>(lk t c bl).2 eN,λk hk ix=>aH k hk ix,bT.aE _ c (dC c eN)⟩)
     (λc ab=>by
      rcases ab with ⟨t,h⟩ | ⟨k,hk,h⟩
      ·exact .inl ⟨t,(lk t c h).1⟩
      ·exact .inl ⟨_,dC c (fg k c hk h)⟩)
     hH.tail (R.tO hH) gx gl (λwP hK iq lg=>by
      refine .obj bd (by rw [t1.length,ao]) nu (λk x u J hu=>hK k x u J (by simpa using hu)) iq (λk hk h=>lg k b hk h rfl) λc=>Iff.rfl)
    exact ⟨cp,jB,aw,a2,λc ab=>k'.head (a3 c ab)⟩
 | @mp g g1 g' p q xs xs' aG t1 _ gx gl =>
  intro Fs vs dQ bT hH
  cases vs with
  | nil=>have:=hH.len; simp at this
  | cons v vs =>
   obtain ⟨pD,cM,gP,hP,dC,j'⟩:=bT.part aG (by simp)
   have hm:=hH.rel 0 _ v rfl rfl
   cases hm with
   | ref _ hm _ =>
   obtain ⟨Ec,h1,rfl⟩:=hm
   rw [h1] at gP
   cases gP
   obtain ⟨gh,jb,jN,iF⟩:=j' .dead cU (.dead λ_ h=>h) (λ_ h=>h.elim) (λ_ h=>h.elim) (λ_ _ _ h=>h.elim)
   have lk:∀ t c,gh t c->Fs t c/\¬ cM c:=by
    intro t c ab
    by_cases aD:t=p.root
    ·subst aD
     rcases (jN c).1 ab with h | h
     ·exact h
     ·exact h.elim
    ·rw [iF t aD] at ab
     exact ⟨ab,λeN=>aD (bT.e5 _ _ _ ab (dC c eN))⟩
   cases hP with
   | ref J=>simp [ag.isRef] at J
   | @mp _ b es clock _ bd bO aR =>
    have iD:Hand w I (fS w T) gh [] [] (λ_=>cU) :=
     ⟨rfl,λk x u J=>by simp at J,λ_ _ _ _ _ h=>h.elim,λ_ _ _ _ h=>h.elim,λ_ _ _ h=>h.elim⟩
    obtain ⟨cp,jB,aw,a2,a3⟩:=Take.node (g1:=c_ g p .dead) (Fs:=Fs) (B:=λc=>c=b) (H0:=dQ 0) (X:=.mp q) (v0:=.map (some b)) jb iD
     (λc ab=>by
      subst ab
      have eN:cM c:=(aR c).2 rfl
      exact ⟨⟨_,dC c eN⟩,λt bl=>(lk t c bl).2 eN,λk hk _=>by simp at hk,bT.aE _ c (dC c eN)⟩)
     (λc ab=>by
      rcases ab with ⟨t,h⟩ | ⟨k,hk,h⟩
      ·exact .inl ⟨t,(lk t c h).1⟩
      ·exact h.elim)
     hH.tail (R.tO hH) gx gl (λwP hK iq lg=>by
      refine .mp bd bO λc=>⟨λh=>h.elim id λ⟨_,hk,_⟩=>by simp at hk,.inl⟩)
    exact ⟨cp,jB,aw,a2,λc ab=>k'.head (a3 c ab)⟩
 | @agg g g1 g' cs cs' xs xs' t1 _ gx gl =>
  intro Fs vs dQ bT hH
  cases vs with
  | nil=>have:=hH.len; simp at this
  | cons v vs =>
   have J:=hH.rel 0 _ v rfl rfl
   have bb:=R.tO hH
   cases J with
   | ref J=>simp [ag.isRef] at J
   | @agg _ us bS _ ao nu ax aV aR =>
    have fg:∀ k c,k<cs.length->bS k c->dQ 0 c:=λk c hk ab=>(aR c).2 ⟨k,hk,ab⟩
    obtain ⟨cp,jB,aw,a2,a3⟩:=Take.node (g1:=g) (Fs:=Fs) (B:=cU) (H0:=dQ 0) (X:=.agg cs') (v0:=.agg us) bT
     (⟨by simp [ao],λk x u J hu=>ax k x u J (by simpa using hu),aV,λk t c hk ab=>(bb c (fg k c hk ab)).1 t,λk c hk ab=>hH.aE 0 c (by simp) (fg k c hk ab)⟩:Hand w I (fS w T) Fs cs us.toList bS)
     (λc ab=>ab.elim)
     (λc ab=>by
      rcases ab with h | ⟨k,hk,h⟩
      ·exact .inl h
      ·exact .inr (fg k c hk h))
     hH.tail bb gx gl (λwP hK iq lg=>by
      refine .agg (by rw [t1.length,ao]) nu (λk x u J hu=>hK k x u J (by simpa using hu)) iq λc=>⟨λh=>h.elim (λh=>h.elim) id,.inr⟩)
    exact ⟨cp,jB,aw,a2,λc ab=>k'.head (a3 c ab)⟩
 | @cB g g1 g' cs cs' xs xs' t1 _ gx gl =>
  intro Fs vs dQ bT hH
  cases vs with
  | nil=>have:=hH.len; simp at this
  | cons v vs =>
   have J:=hH.rel 0 _ v rfl rfl
   have bb:=R.tO hH
   cases J with
   | ref J=>simp [ag.isRef] at J
   | @cB _ us bS _ ao ax aV aR =>
    have fg:∀ k c,k<cs.length->bS k c->dQ 0 c:=λk c hk ab=>(aR c).2 ⟨k,hk,ab⟩
    obtain ⟨cp,jB,aw,a2,a3⟩:=Take.node (g1:=g) (Fs:=Fs) (B:=cU) (H0:=dQ 0) (X:=.cB cs') (v0:=.tuple us) bT
     (⟨by simp [ao],λk x u J hu=>ax k x u J (by simpa using hu),aV,λk t c hk ab=>(bb c (fg k c hk ab)).1 t,λk c hk ab=>hH.aE 0 c (by simp) (fg k c hk ab)⟩:Hand w I (fS w T) Fs cs us.toList bS)
     (λc ab=>ab.elim)
     (λc ab=>by
      rcases ab with h | ⟨k,hk,h⟩
      ·exact .inl h
      ·exact .inr (fg k c hk h))
     hH.tail bb gx gl (λwP hK iq lg=>by
      refine .cB (by rw [t1.length,ao]) (λk x u J hu=>hK k x u J (by simpa using hu)) iq λc=>⟨λh=>h.elim (λh=>h.elim) id,.inr⟩)
    exact ⟨cp,jB,aw,a2,λc ab=>k'.head (a3 c ab)⟩
end
end Go.Own
namespace Go.Own
open Go
inductive jk (mh:ag->Prop):ag->Prop
 | bK {x:ag}(h:di x):jk mh x
 | ref {x:ag}(J:x.isRef=true) (h:mh x):jk mh x
 | own {z n:Nat}{cs:List ag}(h:∀ x∈cs,jk mh x):jk mh (.own z n cs)
 | obj {cs:List ag}(h:∀ x∈cs,jk mh x):jk mh (.obj cs)
 | agg {cs:List ag}(h:∀ x∈cs,jk mh x):jk mh (.agg cs)
 | cB {cs:List ag}(h:∀ x∈cs,jk mh x):jk mh (.cB cs)
 | er {fn:Fn}{a b:List ag}(h1:∀ x∈a,jk mh x) (al:∀ x∈b,jk mh x):jk mh (.er fn a b)
def yi:ag->Option Place
 | .ptr p _=>some p
 | .bn _ p _=>some p
 | .sub _ p _ _=>some p
 | .bX _ p _ _ _=>some p
 | .hD p=>some p
 | _=>none
def Clear (p:Place) (k m:Nat) (r:ag):Prop:=∀ q,yi r=some q->q.root=p.root->∀ ae fc,q.path=p.path++ae::fc->ae<k\/k+m<=ae
def fW {α:Type}(l:List α) (k:Nat) (c:List α):List α:=l.take k++c++l.drop (k+c.length)
theorem qf {α:Type}{l:List α}{k:Nat}{c:List α}(h:k+c.length<=l.length):(fW l k c).length=l.length:=by
 simp [fW]; omega
theorem rW {α:Type}{l:List α}{k:Nat}{c:List α}(h:k+c.length<=l.length) (ae:Nat):(fW l k c)[ae]?=if k<=ae/\ae<k+c.length then c[ae - k]? else l[ae]?:=by
 unfold fW
 rw [List.append_assoc]
 by_cases h1:ae<k
 ·rw [List.getElem?_append_left (by simp; omega),List.getElem?_take,if_pos h1,if_neg (by omega)]
 ·rw [List.getElem?_append_right (by simp; omega)]
  have:(l.take k).length=k:=by simp; omega
  rw [this]
  by_cases al:ae<k+c.length
  ·rw [List.getElem?_append_left (by omega),if_pos ⟨by omega,al⟩]
  ·rw [List.getElem?_append_right (by omega),List.getElem?_drop,if_neg (by omega)]
   congr 1; omega
theorem Ug {α:Type}{l:List α}{k:Nat}{c:List α}{m:Nat}(h:k+c.length<=m) (hm:m<=l.length):(fW l k c).take m=fW (l.take m) k c:=by
 have h1:k+c.length<=(l.take m).length:=by rw [List.length_take]; omega
 apply List.ext_getElem?
 intro ae
 rw [List.getElem?_take,rW h1,rW (l:=l) (by omega),List.getElem?_take]
 by_cases aa:ae<m
 ·rw [if_pos aa,if_pos aa]
 ·rw [if_neg aa,if_neg aa,if_neg (by omega)]
def ag.fW (x:ag) (k:Nat) (c:List ag):ag :=
 match x with
 | .own z n cs=>.own z n (Own.fW cs k c)
 | .obj cs=>.obj (Own.fW cs k c)
 | x=>x
section
variable {w:World}{I:br}{T:Array Value}{g:aY}{Fs:Nat->br}
theorem R.wc {ρ:ag->Value->Prop}{mh:ag->Prop}{x:ag}{v:Value}{F:br}(h:R w I ρ x v F):jk mh x->R w I (λr u=>ρ r u/\mh r) x v F:=by
 induction h with
 | lit h aR=>exact λ_=>.lit h aR
 | aK aR=>exact λ_=>.aK aR
 | dead aR=>exact λ_=>.dead aR
 | @ref x _ _ J h aR =>
  intro hk
  refine .ref J ⟨h,?_⟩ aR
  cases hk with
  | ref _ h=>exact h
  | bK h=>cases h <;> simp [ag.isRef] at J
  | _=>simp [ag.isRef] at J
 | hQ aR=>exact λ_=>.hQ aR
 | mp bd aG aR=>exact λ_=>.mp bd aG aR
 | imp aR bt bd aG=>exact λ_=>.imp aR bt bd aG
 | aE aR k3 bt aN ao h1 ab ax aS =>
  intro hk
  cases hk with
  | ref J=>simp [ag.isRef] at J
  | bK h=>cases h with | aE h=>exact .aE aR k3 bt aN ao h1 ab λk x J=>aS k x J (.bK (h x (List.mem_of_getElem? J)))
 | bo aR bt aN h1 ab ax aS =>
  intro hk
  cases hk with
  | ref J=>simp [ag.isRef] at J
  | bK h=>cases h with | bo h=>exact .bo aR bt aN h1 ab λk x J=>aS k x J (.bK (h x (List.mem_of_getElem? J)))
 | own bd ao h1 ax aV aH aR aS =>
  intro hk
  refine .own bd ao h1 (λk x u J hu=>aS k x u J hu ?_) aV aH aR
  cases hk with
  | ref J=>simp [ag.isRef] at J
  | bK h=>cases h with | own h=>exact .bK (h x (List.mem_of_getElem? J))
  | own h=>exact h x (List.mem_of_getElem? J)
 | obj bd ao h1 ax aV aH aR aS =>
  intro hk
  refine .obj bd ao h1 (λk x u J hu=>aS k x u J hu ?_) aV aH aR
  cases hk with
  | ref J=>simp [ag.isRef] at J
  | bK h=>cases h with | obj h=>exact .bK (h x (List.mem_of_getElem? J))
  | obj h=>exact h x (List.mem_of_getElem? J)
 | agg ao h1 ax aV aR aS =>
  intro hk
  refine .agg ao h1 (λk x u J hu=>aS k x u J hu ?_) aV aR
  cases hk with
  | ref J=>simp [ag.isRef] at J
  | bK h=>cases h with | agg h=>exact .bK (h x (List.mem_of_getElem? J))
  | agg h=>exact h x (List.mem_of_getElem? J)
 | cB ao ax aV aR aS =>
  intro hk
  refine .cB ao (λk x u J hu=>aS k x u J hu ?_) aV aR
  cases hk with
  | ref J=>simp [ag.isRef] at J
  | bK h=>cases h with | cB h=>exact .bK (h x (List.mem_of_getElem? J))
  | cB h=>exact h x (List.mem_of_getElem? J)
 | @er fn first caps v1 v2 F aR h1 al jN iF gx gl =>
  intro hk
  have:(∀ x∈first,jk mh x)/\∀ x∈caps,jk mh x:=by
   cases hk with
   | ref J=>simp [ag.isRef] at J
   | bK h=>cases h with | er h1 al=>exact ⟨λx J=>.bK (h1 x J),λx J=>.bK (al x J)⟩
   | er h1 al=>exact ⟨h1,al⟩
  exact .er aR h1 al (λk x u J hu=>gx k x u J hu (this.1 x (List.mem_of_getElem? J))) (λk x u J hu=>gl k x u J hu (this.2 x (List.mem_of_getElem? J)))
theorem jE.store (bT:jE w I T g Fs) {p:Place}{nd:ag}{z n:Nat}{cs:List ag}(aG:b7 g p=some nd) (gw:nd=.own z n cs\/nd=.obj cs) {k:Nat}{cs':List ag}(hk:k+cs'.length<=cs.length)
  {iL:List Value}{dQ:Nat->br}(hH:Hand w I (fS w T) Fs cs' iL dQ) (mv:∀ x∈cs',di x) (gO:∀ (ae:Nat) (u:Value),iL[ae]?=some u->u.oneCell'=true)
  {g2:aY}(xq:∀ t x,g2 t=some x->c_ g p (nd.fW k cs') t=some x)
  (tY:∀ t x,g2 t=some x->∀ y,g t=some y->jk (λr=>gD g r/\Clear p k cs'.length r/\gD g2 r) y) (k4:∀ t z q n m new,g2 t≠some (.bX z q n m new)) (jO:g2 p.root≠none) {b:Nat}{v:Value}
  (hv:ed w T p=some v) (aH:addrOf v=some ⟨b,0,none⟩) {e:TypeId}{arr:Array Value}(ln:w.heap[b]?=some (.cells arr e (0,0))) :
  ∃ cp,cY (w.setRow b (fW arr.toList k iL).toArray) I T g2 cp/\∀ t c,cp t c->Fs t c\/∃ ae,ae<cs'.length/\dQ ae c:=by
 have k8:∀ z q n m new,nd≠.bX z q n m new:=by rcases gw with rfl | rfl <;> simp
 have hlen:=hH.len
 have od:∀ c,c≠b->(w.setRow b (fW arr.toList k iL).toArray).heap[c]?=w.heap[c]?:=λc ab=>setRow_other w b c _ ab
 have BB:(w.setRow b (fW arr.toList k iL).toArray).heap[b]?=some (.cells (fW arr.toList k iL).toArray e (0,0)):=setRow_heap w b arr _ e (0,0) ln
 have M3:(w.setRow b (fW arr.toList k iL).toArray).heap.size=w.heap.size:=by simp
 generalize ub:w.setRow b (fW arr.toList k iL).toArray=w' at *
 -- the slot of the node
 obtain ⟨fl,jI⟩:∃ fl,g p.root=some fl:=by
  unfold b7 at aG
  cases J:g p.root with
  | none=>rw [J] at aG; cases aG
  | some x=>exact ⟨x,rfl⟩
 have oB:fl.at p.path=some nd:=by simpa [b7,jI] using aG
 obtain ⟨v0,iG,gF⟩:=bT.rel _ _ jI
 have zG:=gF.hB (by rintro z q n m new rfl; exact k8 _ _ _ _ _ (ag.rp oB).2)
 have tV:jk (λr=>gD g r/\Clear p k cs'.length r/\gD g2 r) fl:=by
  cases al:g2 p.root with
  | none=>exact absurd al jO
  | some y=>exact tY _ _ al _ jI
 let H8:ag->Value->Prop:=λr u=>fS w T r u/\gD g r/\Clear p k cs'.length r/\gD g2 r
 have zH:R w I H8 fl v0 (Fs p.root):=zG.wc tV
 obtain ⟨h8,cM,hw,dT,dC,gb,j'⟩:=R.focus p.path zH oB
 have Gk:h8=v:=by simp only [ed,iG,hw,Option.some.injEq] at hv; exact hv
 subst Gk
 have l3:cM b:=dT.Df (z:=z) (n:=n) gw aH
 have same:∀ t c,Fs t c->c≠b->w'.heap[c]?=w.heap[c]?:=λ_ c _ ab=>od c ab
 have tH:∀ c,I c->w'.heap[c]?=w.heap[c]?:=λc ab=>od c λe=>bT.aE _ b (dC b l3) (e ▸ ab)
 have CO:∀ t,t≠p.root->¬ Fs t b:=λt aD h=>aD (bT.e5 _ _ _ h (dC b l3))
 -- ways that are clear of the cells
 obtain ⟨UW,UX⟩:=gb w' λc ab aL=>od c λe=>aL (e ▸ l3)
 have LG:∀ (ρ':ag->Value->Prop),(∀ x v,H8 x v->ρ' x v)->(∃ fK,R w' I ρ' (nd.fW k cs') h8 fK/\∀ c,fK c->cM c\/∃ ae,ae<cs'.length/\dQ ae c)/\∀ ae fc y,(ae<k\/k+cs'.length<=ae)->nd.at (ae::fc)=some y->walk w' h8 (ae::fc)=walk w h8 (ae::fc):=by
  intro ρ' lu
  have new:∀ (ae:Nat) (x:ag) (u:Value),cs'[ae]?=some x->iL[ae]?=some u->R w' I ρ' x u (dQ ae):=by
   intro ae x u J hu
   have aa:ae<cs'.length:=(List.getElem?_eq_some_iff.1 J).1
   have:=(hH.rel ae x u J hu).bK (ρ':=ρ') (mv x (List.mem_of_getElem? J))
   exact this.frame tH (λ_ h=>h) (λ_ _ h=>h) λc ab=>od c λe=>hH.off ae p.root b aa (e ▸ ab) (dC b l3)
  rcases gw with rfl | rfl
  ·cases dT with
   | ref J=>simp [ag.isRef] at J
   | @own _ _ _ _ cW us bS _ bd ao h1 ax aV j3 aR =>
    obtain ⟨mz,b9⟩:=bd
    rcases b9 with ⟨rfl,_⟩ | ⟨hJ,cap,cur,rfl,sY,fP,uu,rS,uv,sZ⟩
    ·simp [addrOf] at aH
    ·simp only [addrOf,Option.some.injEq,Addr.mk.injEq,and_true] at aH
     subst aH
     rw [ln] at fP
     cases fP
     have KE:n * z<=arr.toList.length:=by
      rw [<- mz,<- sZ,List.length_take] ; simp; omega
     have Wc:us.length=cs.length:=ao.symm
     have mw:w'.ownsRow 0 e z (.slice (some ⟨hJ,0,none⟩) n cap) n (fW us k iL):=by
      refine ⟨by rw [qf (by omega),mz],.inr ⟨hJ,cap,_,rfl,sY,BB,uu,rS,?_,?_⟩⟩
      ·rw [List.size_toArray,qf (by omega),Array.length_toList,uv]
      ·show (fW arr.toList k iL).take (n * z)=_
       rw [Ug (by omega) KE,sZ]
     have Kj:∀ ae,ae<cs.length->¬ bS ae hJ:=λae aa h=>j3 ae hJ aa h rfl
     have fg:∀ ae c,ae<cs.length->bS ae c->Fs p.root c:=λae c aa ab=>dC c ((aR c).2 (.inr ⟨ae,aa,ab⟩))
     refine ⟨⟨_,.own (Fs:=λae=>if k<=ae/\ae<k+cs'.length then dQ (ae - k) else bS ae) mw (by rw [qf hk,qf (by omega),ao]) (λae u hu=>?_) (λae x u J hu=>?_) (λi ae c hi aa ab fu=>?_) (λae c aa ab t'=>?_) (λc=>Iff.rfl),λc ab=>?_⟩,λae fc y aa az=>?_⟩
     ·rw [rW (by omega)] at hu
      split at hu
      ·exact gO _ u hu
      ·exact h1 ae u hu
     ·rw [rW hk] at J
      rw [rW (by omega),<- hlen] at hu
      by_cases eV:k<=ae/\ae<k+cs'.length
      ·rw [if_pos eV] at J hu
       simpa [eV] using new (ae - k) x u J hu
      ·rw [if_neg eV] at J hu
       have fq:ae<cs.length:=(List.getElem?_eq_some_iff.1 J).1
       rw [if_neg eV]
       exact (ax ae x u J hu).frame tH (λ_ h=>h) lu λc ab=>od c λe=>Kj ae fq (e ▸ ab)
     ·rw [qf hk] at hi aa
      by_cases h1:k<=i/\i<k+cs'.length <;> by_cases al:k<=ae/\ae<k+cs'.length <;> simp only [h1,al,if_false] at ab fu
      ·have:=hH.e5 (i - k) (ae - k) c (by omega) (by omega) (by simpa using ab) (by simpa using fu)
       omega
      ·exact absurd (fg ae c aa fu) (hH.off (i - k) _ c (by omega) (by simpa using ab))
      ·exact absurd (fg i c hi ab) (hH.off (ae - k) _ c (by omega) (by simpa using fu))
      ·exact aV i ae c hi aa ab fu
     ·rw [qf hk] at aa
      by_cases h1:k<=ae/\ae<k+cs'.length
      ·rw [if_pos h1] at ab
       simp only [Value.ownBlock,Option.some.injEq] at t'
       subst t'
       exact hH.off (ae - k) p.root hJ (by omega) ab (dC hJ l3)
      ·rw [if_neg h1] at ab; exact j3 ae c aa ab t'
     ·rcases ab with ab | ⟨ae,aa,ab⟩
      ·exact .inl ((aR c).2 (.inl ab))
      ·rw [qf hk] at aa
       by_cases h1:k<=ae/\ae<k+cs'.length
       ·rw [if_pos h1] at ab; exact .inr ⟨ae - k,by omega,ab⟩
       ·rw [if_neg h1] at ab; exact .inl ((aR c).2 (.inr ⟨ae,aa,ab⟩))
     ·obtain ⟨c,nx,ab⟩:=ag.tt az
      simp only [ag.kids] at nx
      have fq:ae<cs.length:=(List.getElem?_eq_some_iff.1 nx).1
      have hu:us[ae]?=some us[ae]:=List.getElem?_eq_getElem (by omega)
      have l4:child w (.slice (some ⟨hJ,0,none⟩) n cap) ae=some us[ae]:=by
       refine n5 (e:=e) (z:=z) (n:=n) (us:=us) ⟨mz,.inr ⟨hJ,cap,arr,rfl,sY,ln,uu,rS,uv,sZ⟩⟩ hu
      have zQ:child w' (.slice (some ⟨hJ,0,none⟩) n cap) ae=some us[ae]:=by
       refine n5 mw ?_
       rw [rW (by omega),if_neg (by omega)]; exact hu
      have:=R.oP (w':=w') fc (ax ae c _ nx hu) ab λc ab=>od c λe=>Kj ae fq (e ▸ ab)
      simp [walk,l4,zQ,this]
  ·cases dT with
   | ref J=>simp [ag.isRef] at J
   | @obj _ hJ cW jn bS _ bd ao h1 ax aV j3 aR =>
    simp only [addrOf,Option.some.injEq,Addr.mk.injEq,and_true] at aH
    subst aH
    rw [ln] at bd
    cases bd
    have vg:cs.length=arr.toList.length:=by simp [ao]
    have fg:∀ ae c,ae<cs.length->bS ae c->Fs p.root c:=λae c aa ab=>dC c ((aR c).2 (.inr ⟨ae,aa,ab⟩))
    refine ⟨⟨_,.obj (Fs:=λae=>if k<=ae/\ae<k+cs'.length then dQ (ae - k) else bS ae) BB (by rw [qf hk,List.size_toArray,qf (by omega),vg]) (λae u hu=>?_) (λae x u J hu=>?_) (λi ae c hi aa ab fu=>?_) (λae aa ab=>?_) (λc=>Iff.rfl),λc ab=>?_⟩,λae fc y aa az=>?_⟩
    ·rw [List.getElem?_toArray,rW (by omega)] at hu
     split at hu
     ·exact gO _ u hu
     ·exact h1 ae u (by simpa using hu)
    ·rw [rW hk] at J
     rw [List.getElem?_toArray,rW (by omega),<- hlen] at hu
     by_cases eV:k<=ae/\ae<k+cs'.length
     ·rw [if_pos eV] at J hu
      simpa [eV] using new (ae - k) x u J hu
     ·rw [if_neg eV] at J hu
      have fq:ae<cs.length:=(List.getElem?_eq_some_iff.1 J).1
      rw [if_neg eV]
      exact (ax ae x u J (by simpa using hu)).frame tH (λ_ h=>h) lu λc ab=>od c λe=>j3 ae fq (e ▸ ab)
    ·rw [qf hk] at hi aa
     by_cases h1:k<=i/\i<k+cs'.length <;> by_cases al:k<=ae/\ae<k+cs'.length <;> simp only [h1,al,if_false] at ab fu
     ·have:=hH.e5 (i - k) (ae - k) c (by omega) (by omega) (by simpa using ab) (by simpa using fu)
      omega
     ·exact absurd (fg ae c aa fu) (hH.off (i - k) _ c (by omega) (by simpa using ab))
     ·exact absurd (fg i c hi ab) (hH.off (ae - k) _ c (by omega) (by simpa using fu))
     ·exact aV i ae c hi aa ab fu
    ·rw [qf hk] at aa
     by_cases h1:k<=ae/\ae<k+cs'.length
     ·rw [if_pos h1] at ab
      exact hH.off (ae - k) p.root hJ (by omega) ab (dC hJ l3)
     ·rw [if_neg h1] at ab; exact j3 ae aa ab
    ·rcases ab with ab | ⟨ae,aa,ab⟩
     ·exact .inl ((aR c).2 (.inl ab))
     ·rw [qf hk] at aa
      by_cases h1:k<=ae/\ae<k+cs'.length
      ·rw [if_pos h1] at ab; exact .inr ⟨ae - k,by omega,ab⟩
      ·rw [if_neg h1] at ab; exact .inl ((aR c).2 (.inr ⟨ae,aa,ab⟩))
    ·obtain ⟨c,nx,ab⟩:=ag.tt az
     simp only [ag.kids] at nx
     have fq:ae<cs.length:=(List.getElem?_eq_some_iff.1 nx).1
     have hu:arr[ae]?=some arr[ae]:=Array.getElem?_eq_getElem (by omega)
     have l4:child w (.pointer (some ⟨hJ,0,none⟩)) ae=some arr[ae]:=by simp [child,World.cell?,ln,hu]
     have zQ:child w' (.pointer (some ⟨hJ,0,none⟩)) ae=some arr[ae]:=by
      have aO:(fW arr.toList k iL)[ae]?=some arr[ae]:=by
       rw [rW (by omega),if_neg (by omega)]; simp
      simp [child,World.cell?,BB,aO]
     have:=R.oP (w':=w') fc (ax ae c _ nx hu) ab λc ab=>od c λe=>j3 ae fq (e ▸ ab)
     simp [walk,l4,zQ,this]
 have val:∀ q y,b7 g q=some y->(q.root=p.root->∀ ae fc,q.path=p.path++ae::fc->ae<k\/k+cs'.length<=ae)->ed w' T q=ed w T q:=by
  intro q y bO hx
  by_cases ax:q.root=p.root
  ·have gn:fl.at q.path=some y:=by simpa [b7,ax,jI] using bO
   rcases UX q.path y gn with ⟨fc,eY⟩ | h
   ·have ub:walk w' v0 q.path=walk w v0 q.path:=by
     rw [eY,BC,BC,UW,hw]
     simp only [Option.bind_some]
     cases fc with
     | nil=>rfl
     | cons ae fc =>
      rw [eY,ag.Eb,oB] at gn
      exact (LG (λ_ _=>True) (λ_ _ _=>trivial)).2 ae fc y (hx ax ae fc eY) gn
    simp [ed,ax,iG,ub]
   ·simp [ed,ax,iG,h]
  ·unfold b7 at bO
   cases J:g q.root with
   | none=>rw [J] at bO; cases bO
   | some x =>
    rw [J] at bO
    obtain ⟨u,hu,bf⟩:=bT.rel _ _ J
    cases bf with
    | tree bf =>
     have:=R.oP (w':=w') q.path bf bO λc ab=>od c λe=>CO _ ax (e ▸ ab)
     simp [ed,hu,this]
    | bX bf=>simp [ed,hu,(ag.rp bO).1,walk]
 have slot:∀ {q:Place}{x:ag},q.path=[]->g q.root=some x->ed w' T q=ed w T q:=by
  intro q x bO J
  obtain ⟨u,hu,_⟩:=bT.rel _ _ J
  simp [ed,bO,walk]
 have refs:∀ r u,H8 r u->eg w' T g2 r u:=by
  rintro r u ⟨h1,al,aO,b4⟩
  refine ⟨?_,b4⟩
  cases r <;> simp only [fS,gD] at h1 al ⊢
  case ptr q ae=>obtain ⟨y,az,_⟩:=al; rw [val q y az (aO q rfl)]; exact h1
  case bn cJ q cX =>
   rcases al with ⟨_,_,al,_⟩ | ⟨bb,_,_,_,_,al,_⟩
   ·rw [val q _ al (aO q rfl)]; exact h1
   ·rw [slot bb al]; exact h1
  case sub cJ q lo cX=>obtain ⟨_,_,al,_⟩:=al; rw [val q _ al (aO q rfl)]; exact h1
  case hD q=>obtain ⟨_,al⟩:=al; rw [val q _ al (aO q rfl)]; exact h1
  case bX cJ q cX m' dj =>
   rcases al with ⟨_,al⟩ | ⟨bb,_,_,_,_,_,al,_⟩
   ·rw [val q _ al (aO q rfl)]; exact h1
   ·rw [slot bb al]; exact h1
 obtain ⟨⟨Fn,QJ,Kk⟩,_⟩:=LG (eg w' T g2) refs
 obtain ⟨fK,zI,nv⟩:=j' w' I (eg w' T g2) _ Fn ⟨tH,λc ab aL=>od c λe=>aL (e ▸ l3),λ_ h=>h,refs⟩ QJ λc ab fu=>by
  rcases Kk c ab with h | ⟨ae,aa,h⟩
  ·exact h
  ·exact absurd fu (hH.off ae _ c aa h)
 have zA:∀ c,fK c->Fs p.root c\/∃ ae,ae<cs'.length/\dQ ae c:=by
  intro c ab
  rcases (nv c).1 ab with h | h
  ·exact .inl h.1
  ·rcases Kk c h with h | h
   ·exact .inl (dC c h)
   ·exact .inr h
 let cp:Nat->br:=λt c=>if t=p.root then fK c else g2 t≠none/\Fs t c
 have oy:∀ t c,cp t c->Fs t c\/∃ ae,ae<cs'.length/\dQ ae c:=by
  intro t c ab
  by_cases aD:t=p.root
  ·simp only [cp,if_pos aD] at ab; rw [aD]; exact zA c ab
  ·simp only [cp,if_neg aD] at ab; exact .inl ab.2
 refine ⟨cp,⟨λt x J=>?_,λt aD c ab=>?_,λt dn c ab fu=>?_,λt c ab hi=>?_,λc ab=>by have:=bT.lt c ab; omega,λt dn z q n m new cJ cX m' dj h1=>absurd h1 (k4 _ _ _ _ _ _)⟩,oy⟩
 ·have f_:=xq t x J
  by_cases aD:t=p.root
  ·subst aD
   have Ak:fl.setAt p.path (nd.fW k cs')=x:=by simpa [c_,jI] using f_
   refine ⟨v0,iG,.tree ?_⟩
   have vc:cp p.root=fK:=by funext c; simp [cp]
   rw [<- Ak,vc]; exact zI
  ·rw [q7 aD] at f_
   obtain ⟨u,hu,bf⟩:=bT.rel t x f_
   replace bf:=bf.hB (by rintro z q n m new rfl; exact k4 _ _ _ _ _ _ J)
   have vc:cp t=Fs t:=by
    funext c
    exact propext ⟨λh=>by simp only [cp,if_neg aD] at h; exact h.2,λh=>by simp only [cp,if_neg aD]; exact ⟨by rw [J]; simp,h⟩⟩
   refine ⟨u,hu,.tree ?_⟩
   rw [vc]
   exact (bf.wc (tY t x J x f_)).frame tH (λ_ h=>h) refs λc ab=>od c λe=>CO t aD (e ▸ ab)
 ·by_cases hX:t=p.root
  ·exact jO (hX ▸ aD)
  ·simp only [cp,if_neg hX] at ab; exact ab.1 aD
 ·by_cases h1:t=p.root <;> by_cases al:dn=p.root
  ·rw [h1,al]
  ·simp only [cp,if_pos h1] at ab; simp only [cp,if_neg al] at fu
   rcases zA c ab with h | ⟨ae,aa,h⟩
   ·exact absurd (bT.e5 _ _ _ h fu.2) (Ne.symm al)
   ·exact absurd fu.2 (hH.off ae _ c aa h)
  ·simp only [cp,if_neg h1] at ab; simp only [cp,if_pos al] at fu
   rcases zA c fu with h | ⟨ae,aa,h⟩
   ·exact absurd (bT.e5 _ _ _ ab.2 h) h1
   ·exact absurd ab.2 (hH.off ae _ c aa h)
  ·simp only [cp,if_neg h1] at ab; simp only [cp,if_neg al] at fu
   exact bT.e5 _ _ _ ab.2 fu.2
 ·rcases oy t c ab with h | ⟨ae,aa,h⟩
  ·exact bT.aE _ c h hi
  ·exact hH.aE ae c aa h hi
end
end Go.Own
namespace Go.Own
open Go
section
variable {P:Program}{w:World}{I:br}{T:Array Value}{g:aY}{Fs:Nat->br}
theorem View.MG (h:jE w I T g Fs) {x x':ag}(hv:View g x x'):∀ {v:Value}{F:br},R w I (fS w T) x v F->(∀ c,F c->∃ t,Fs t c)->∀ ρ',R w (λc=>I c\/∃ t,Fs t c) ρ' x' v cU:=by
 induction hv with
 | pk =>
  intro v F bf aR ρ'
  have:=bf.qY
  subst this
  exact .hQ λ_ h=>h
 | mp =>
  intro v F bf aR ρ'
  cases bf with
  | ref J=>simp [ag.isRef] at J
  | mp bd aG aH=>exact .imp (λ_ h=>h) (.inr (aR _ ((aH _).2 rfl))) bd aG
 | hD aG =>
  intro v F bf aR ρ'
  cases bf with
  | ref _ ax _ =>
   obtain ⟨b,aH,rfl⟩:=ax
   obtain ⟨hF,cM,iy,dT,dC,_⟩:=h.part aG (by simp)
   rw [aH] at iy
   cases iy
   cases dT with
   | ref J=>simp [ag.isRef] at J
   | mp bd aG aH=>exact .imp (λ_ h=>h) (.inr ⟨_,dC _ ((aH _).2 rfl)⟩) bd aG
 | self aL h1 al aO b4 df =>
  intro v F bf aR ρ'
  refine ((bf.bK aL).nk λc ab=>.inl ab).empty ?_
  cases bf with
  | mp=>exact absurd rfl (df _)
  | lit _ aR | aK aR | dead aR | ref _ _ aR | hQ aR | aE aR | bo aR | er aR | imp aR=>exact aR
  | own=>exact absurd rfl (h1 _ _ _)
  | obj=>exact absurd rfl (al _)
  | agg=>exact absurd rfl (aO _)
  | cB=>exact absurd rfl (b4 _)
 | @agg cs cs' ao _ aS =>
  intro v F bf aR ρ'
  cases bf with
  | ref J=>simp [ag.isRef] at J
  | @agg _ vs bS _ h6 h1 ax aV k1 =>
   refine .agg (Fs:=λ_=>cU) (by rw [ao,h6]) h1 (λk y u az hu=>?_) (λ_ _ _ _ _ h=>h.elim) (λc=>⟨λh=>h.elim,λ⟨_,_,h⟩=>h⟩)
   have hk:k<cs.length:=by rw [<- ao]; exact (List.getElem?_eq_some_iff.1 az).1
   have J:=List.getElem?_eq_getElem hk
   exact aS k _ y J az (ax k _ u J hu) (λc ab=>aR c ((k1 c).2 ⟨k,hk,ab⟩)) ρ'
 | @er fn cs cs' ao _ aS =>
  intro v F bf aR ρ'
  cases bf with
  | ref J=>simp [ag.isRef] at J
  | @er _ _ _ v1 v2 _ qD h1 al jN iF =>
   refine .er (λ_ h=>h) h1 (by rw [ao,al]) (λk x u J=>by simp at J) (λk y u az hu=>?_)
   have hk:k<cs.length:=by rw [<- ao]; exact (List.getElem?_eq_some_iff.1 az).1
   have J:=List.getElem?_eq_getElem hk
   exact aS k _ y J az (iF k _ u J hu) (λc ab=>ab.elim) ρ'
 | @own z n cs cs' ao _ aS =>
  intro v F bf aR ρ'
  obtain ⟨a,cap,us,bS,rfl,aL,hlen,bj,ab⟩:=bf.xW
  cases a with
  | none =>
   have hy:cs=[]:=by
    cases cs with
    | nil=>rfl
    | cons c cs=>obtain ⟨b,aH,_⟩:=ab 0 c rfl; cases aH
   subst hy
   have lq:cs'=[]:=List.eq_nil_of_length_eq_zero (by simpa using ao)
   subst lq
   have pb:n=0:=by
    cases bf with
    | ref J=>simp [ag.isRef] at J
    | own bd =>
     obtain ⟨_,b9⟩:=bd
     rcases b9 with ⟨b9,bb⟩ | ⟨b,c2,cur,b9,_⟩
     ·exact bb
     ·cases b9
   subst pb
   exact .hQ λ_ h=>h
  | some ad =>
   obtain ⟨b,rfl,qE⟩:=bj ad rfl
   refine .aE (us:=us) (λ_ h=>h) aL (.inr (aR b qE)) rfl (by rw [ao,hlen]) (λk y az=>?_) (λk y az=>?_) λk y az=>?_
   all_goals
    have hk:k<cs.length:=by rw [<- ao]; exact (List.getElem?_eq_some_iff.1 az).1
    have J:=List.getElem?_eq_getElem hk
    obtain ⟨hJ,kC,h1,al,aO,b4⟩:=ab k _ J
    cases kC
   ·exact al
   ·simpa using h1
   ·exact aS k _ y J az aO (λc ab=>aR c (b4 c ab)) ρ'
 | @obj cs cs' ao _ aS =>
  intro v F bf aR ρ'
  cases bf with
  | ref J=>simp [ag.isRef] at J
  | @obj _ b e arr bS _ bd h6 h1 ax aV aH k1 =>
   refine .bo (us:=λk=>arr.getD k undef) (λ_ h=>h) (.inr (aR b ((k1 b).2 (.inl rfl)))) rfl (λk y az=>?_) (λk y az=>?_) λk y az=>?_
   all_goals
    have hk:k<cs.length:=by rw [<- ao]; exact (List.getElem?_eq_some_iff.1 az).1
    have J:=List.getElem?_eq_getElem hk
    have hu:arr[k]?=some arr[k]:=Array.getElem?_eq_getElem (h6 ▸ hk)
   ·simpa [hu] using h1 k _ hu
   ·simp [World.cell?,bd,hu]
   ·simpa [hu] using aS k _ y J az (ax k _ _ J hu) (λc ab=>aR c ((k1 c).2 (.inr ⟨k,hk,ab⟩))) ρ'
 | @bn z n N p cs cs' aG aL ao _ aS =>
  intro v F bf aR ρ'
  obtain ⟨a,i_,cap,h1,rfl,aO⟩:=bf.mG
  obtain ⟨pD,pG,gP,hP,l1,_⟩:=h.part aG (by simp)
  rw [h1] at gP
  cases gP
  obtain ⟨a2,qx,us,bS,j4,k3,hlen,bj,ab⟩:=hP.xW
  cases j4
  have hle:n * z<=N * z:=Nat.mul_le_mul_right _ aL
  have cell:∀ k,k<cs'.length->∃ x b,(cs.take (n * z))[k]?=some x/\a=some ⟨b,0,none⟩/\w.cell? ⟨b,k,none⟩=some (us k)/\(us k).oneCell'=true/\R w I (fS w T) x (us k) (bS k)/\∀ c,bS k c->pG c:=by
   intro k hk
   rw [ao,List.length_take] at hk
   have J:cs[k]?=some cs[k]:=List.getElem?_eq_getElem (by omega)
   obtain ⟨b,r⟩:=ab k _ J
   exact ⟨_,b,by rw [List.getElem?_take,if_pos (by omega)]; exact J,r⟩
  cases a with
  | none =>
   have lq:cs'=[]:=by
    cases cs' with
    | nil=>rfl
    | cons c l=>obtain ⟨_,b,_,aH,_⟩:=cell 0 (by simp); cases aH
   subst lq
   obtain ⟨_,_,j4,_,_,_,rK⟩:=hP.mL
   cases j4
   have pb:n=0:=by
    rcases Nat.eq_zero_or_pos n with bb | bb
    ·exact bb
    ·have:=rK (by omega); simp at this
   subst pb
   exact .hQ λ_ h=>h
  | some ad =>
   obtain ⟨b,rfl,qE⟩:=bj ad rfl
   refine .aE (us:=us) (λ_ h=>h) (by omega) (.inr ⟨_,l1 b qE⟩) rfl (by rw [ao,List.length_take,hlen]; omega) (λk y az=>?_) (λk y az=>?_) λk y az=>?_
   all_goals
    obtain ⟨x,hJ,J,kC,b4,df,eL,lj⟩:=cell k (List.getElem?_eq_some_iff.1 az).1
    cases kC
   ·exact df
   ·simpa using b4
   ·exact aS k x y J az eL (λc ab=>⟨_,l1 c (lj c ab)⟩) ρ'
 | @sub z lo n N p cs cs' aG aL ao _ aS =>
  intro v F bf aR ρ'
  obtain ⟨a,i_,cap,cE,lY,h1,rfl,F4,aO,df⟩:=bf.vz
  obtain ⟨pD,pG,gP,hP,l1,_⟩:=h.part aG (by simp)
  rw [h1] at gP
  cases gP
  obtain ⟨a2,qx,us,bS,j4,k3,hlen,bj,ab⟩:=hP.xW
  cases j4
  have hle:lo * z+n * z<=N * z:=by rw [<- Nat.add_mul]; exact Nat.mul_le_mul_right _ aL
  have h6:cs'.length=n * z:=by rw [ao,List.length_take,List.length_drop,hlen]; omega
  have cell:∀ k,k<cs'.length->∃ x b,((cs.drop (lo * z)).take (n * z))[k]?=some x/\a=some ⟨b,0,none⟩/\w.cell? ⟨b,lo * z+k,none⟩=some (us (lo * z+k))/\(us (lo * z+k)).oneCell'=true/\R w I (fS w T) x (us (lo * z+k)) (bS (lo * z+k))/\∀ c,bS (lo * z+k) c->pG c:=by
   intro k hk
   have J:cs[lo * z+k]?=some cs[lo * z+k]:=List.getElem?_eq_getElem (by omega)
   obtain ⟨b,r⟩:=ab _ _ J
   exact ⟨_,b,by rw [List.getElem?_take,if_pos (by omega),List.getElem?_drop]; exact J,r⟩
  by_cases pb:n=0
  ·subst pb
   have lq:cs'=[]:=List.eq_nil_of_length_eq_zero (by simpa using h6)
   subst lq
   exact .hQ λ_ h=>h
  ·obtain ⟨ad,rfl,rfl⟩:=df (by omega)
   obtain ⟨b,rfl,qE⟩:=bj ad rfl
   refine .aE (us:=λk=>us (lo * z+k)) (λ_ h=>h) F4 (.inr ⟨_,l1 b qE⟩) rfl h6 (λk y az=>?_) (λk y az=>?_) λk y az=>?_
   all_goals
    obtain ⟨x,hJ,J,kC,b4,E4,eL,lj⟩:=cell k (List.getElem?_eq_some_iff.1 az).1
    cases kC
   ·exact E4
   ·simpa using b4
   ·exact aS k x y J az eL (λc ab=>⟨_,l1 c (lj c ab)⟩) ρ'
 | @rows z n p cs cs' aG ao _ aS =>
  intro v F bf aR ρ'
  obtain ⟨a,i_,cap,h1,rfl,aO⟩:=bf.mG
  obtain ⟨v0,e,us,iG,bd,hlen,nu,aH,ax⟩:=Rows.sound (w:=w) (I:=I) (T:=T) (Fs:=Fs) (λt z q n m new aD=>h.rel t _ aD) (λp z n cs aG=>by obtain ⟨v,cM,h1,al,aO,_⟩:=h.part aG (by simp); exact ⟨v,cM,h1,al,aO⟩) (λz p n v hv=>by obtain ⟨a,cap,h1,rfl⟩:=hv; exact h1) aG
  rw [h1] at iG
  cases iG
  refine Mf bd hlen nu aH ao λk x y u J az hu=>?_
  obtain ⟨bS,jZ,fg⟩:=ax k x u J hu
  exact aS k x y J az jZ fg ρ'
 | @ptr p k z n y cs cs' aG az hk ao _ aS =>
  intro v F bf aR ρ'
  obtain ⟨u,ad,h1,al,rfl⟩:=bf.nh
  obtain ⟨pD,pG,gP,hP,l1,_⟩:=h.part aG (by rcases az with rfl | rfl <;> simp)
  rw [h1] at gP
  cases gP
  have cell:∀ ae,ae<cs'.length->∃ gB kt uL,w.cell? ⟨ad.block,k+ae,none⟩=some gB/\gB.oneCell'=true/\(cs.drop k)[ae]?=some kt/\R w I (fS w T) kt gB uL/\(∀ c,uL c->∃ t,Fs t c):=by
   intro ae aa
   rw [ao,List.length_drop] at aa
   have f_:cs[k+ae]?=some cs[k+ae]:=List.getElem?_eq_getElem (by omega)
   obtain ⟨b,gB,fX,lJ,l4,gO,_⟩:=hP.node az f_
   rw [al] at fX
   cases fX
   have gn:b7 g (p.push (k+ae))=some cs[k+ae]:=by rw [r_,aG]; rcases az with rfl | rfl <;> simp [ag.kids]
   by_cases hz:∃ cJ ga cX m' dj,cs[k+ae]=.bX cJ ga cX m' dj
   ·obtain ⟨cJ,ga,cX,m',dj,hz⟩:=hz
    obtain ⟨b,UN,_,_,zQ,_,bS,jZ⟩:=hP.node az f_
    rw [hz] at jZ
    exact jZ.k8.elim
   ·obtain ⟨oc,DW,qR,Fc,k1,_⟩:=h.part gn (λcJ ga cX m' dj e=>hz ⟨_,_,_,_,_,e⟩)
    rw [wy,h1] at qR
    simp only [Option.bind_some] at qR
    rw [l4] at qR
    cases qR
    exact ⟨gB,_,DW,lJ,gO,by rw [List.getElem?_drop]; exact f_,Fc,λc ab=>⟨_,k1 c ab⟩⟩
  obtain ⟨b,gB,fX,_⟩:=hP.node az (List.getElem?_eq_getElem hk)
  rw [al] at fX
  cases fX
  have hblk:∃ t,Fs t b:=⟨_,l1 b (hP.Df az al)⟩
  refine .bo (us:=λae=>(w.cell? ⟨b,k+ae,none⟩).getD undef) (λ_ h=>h) (.inr hblk) rfl (λae ku ng=>?_) (λae ku ng=>?_) λae ku ng=>?_
  all_goals
   obtain ⟨gB,kt,uL,c1,c2,kW,c4,kA⟩:=cell ae (List.getElem?_eq_some_iff.1 ng).1
  ·simpa [c1] using c2
  ·simp [c1]
  ·simpa [c1] using aS ae kt ku kW ng c4 kA ρ'
end
end Go.Own
namespace Go.Own
open Go
def pt (g:aY):List (Place × ag)->aY
 | []=>g
 | (p,x)::l=>pt (c_ g p x) l
structure Nv (g g2:aY) (all:List ag) (outs:List (Option ag)) (k:Nat) (p:Place) (x:ag):Prop where
 out:outs[k]?=some (some x)
 IK:b7 g2 p=some .dead
 arg:(∃ z n cs,all[k]?=some (.bn z p n)/\b7 g p=some (.own z n cs))\/(∃ cs,all[k]?=some (.ptr p 0)/\b7 g p=some (.obj cs))
section
variable {P:Program}{w:World}{I:br}{T:Array Value}{g:aY}{Fs:Nat->br}
theorem N1 (h:cY w I T g Fs) {z n:Nat}{p:Place}{cs:List ag}{v:Value}{F:br}(bf:R w I (eg w T g) (.bn z p n) v F) (aG:b7 g p=some (.own z n cs)):ed w T p=some v:=by
 obtain ⟨⟨a,i_,cap,h1,rfl,aO⟩,_⟩:=bf.mG
 obtain ⟨pD,pG,gP,hP,l1⟩:=h.part aG (by simp)
 rw [h1] at gP
 cases gP
 obtain ⟨a2,qx,j4,_⟩:=hP.mL
 cases j4
 exact h1
theorem N0 (h:cY w I T g Fs) {p:Place}{cs:List ag}{v:Value}{F:br}(bf:R w I (eg w T g) (.ptr p 0) v F) (aG:b7 g p=some (.obj cs)):ed w T p=some v:=by
 obtain ⟨⟨u,ad,h1,al,rfl⟩,_⟩:=bf.nh
 obtain ⟨pD,pG,gP,hP,l1⟩:=h.part aG (by simp)
 rw [h1] at gP
 cases gP
 cases hP with
 | ref J=>simp [ag.isRef] at J
 | obj=>simp only [addrOf,Option.some.injEq] at al; subst al; exact h1
theorem Ua {g:aY}{p q:Place}{y:ag}(bO:b7 g q=some .dead) (aG:b7 g p=some .dead) (eI:p≠q):b7 (c_ g p y) q=some .dead:=by
 by_cases ax:q.root=p.root
 ·obtain ⟨r,pp⟩:=p
  obtain ⟨fc,rR⟩:=q
  simp only at ax
  subst ax
  have CP:pp≠rR:=λe=>eI (by rw [e])
  simp only [b7,c_,if_true] at *
  cases J:g fc with
  | none=>rw [J] at aG; cases aG
  | some x =>
   rw [J] at aG bO
   simp only [Option.map_some]
   have:∀ (pp rR:List Nat) (x:ag),pp≠rR->x.at pp=some .dead->x.at rR=some .dead->(x.setAt pp y).at rR=some .dead:=by
    intro pp
    induction pp with
    | nil =>
     intro rR x eI h1 al
     simp only [ag.at,Option.some.injEq] at h1
     subst h1
     cases rR with
     | nil=>exact absurd rfl eI
     | cons k q=>simp [ag.at,ag.kids] at al
    | cons k pp aS =>
     intro rR x eI h1 al
     cases rR with
     | nil =>
      simp only [ag.at,Option.some.injEq] at al
      subst al
      simp [ag.at,ag.kids] at h1
     | cons ae q =>
      simp only [ag.at] at h1 al
      cases hk:x.kids[k]? with
      | none=>rw [hk] at h1; cases h1
      | some c =>
       rw [hk] at h1
       simp only at h1
       have xB:x.setAt (k::pp) y=x.uz k (c.setAt pp y):=by simp only [ag.setAt,hk]
       rw [xB]
       have dZ:k<x.kids.length:=(List.getElem?_eq_some_iff.1 hk).1
       have FT:(x.uz k (c.setAt pp y)).kids=x.kids.set k (c.setAt pp y):=by
        cases x <;> simp [ag.uz,ag.kids] at dZ ⊢
       simp only [ag.at,FT]
       by_cases eV:ae=k
       ·subst eV
        rw [List.getElem?_set_self dZ]
        rw [hk] at al
        exact aS q c (λe=>eI (by rw [e])) h1 al
       ·rw [List.getElem?_set_ne (Ne.symm eV)]
        exact al
   exact this pp rR x CP aG bO
 ·rw [DB ax]; exact bO
theorem jE.pt:∀ (l:List (Place × ag)) (dQ:Nat->br) (vs:Nat->Value) {g:aY}{Fs:Nat->br},jE w I T g Fs->(l.map (·.1)).Nodup->(∀ (ae:Nat) (p:Place) (x:ag),l[ae]?=some (p,x)->b7 g p=some .dead/\ed w T p=some (vs ae)/\R w I (fS w T) x (vs ae) (dQ ae)) ->
  (∀ (ae t c:Nat),ae<l.length->dQ ae c->¬ Fs t c)->(∀ (ae c:Nat),ae<l.length->dQ ae c->¬ I c)->(∀ (i ae c:Nat),i<l.length->ae<l.length->dQ i c->dQ ae c->i=ae) ->
  ∃ cp,jE w I T (pt g l) cp/\∀ t c,cp t c->Fs t c\/∃ ae,ae<l.length/\dQ ae c
 | [],_,_,g,Fs,bT,_,_,_,_,_=>⟨Fs,bT,λ_ _ h=>.inl h⟩
 | (p,x)::l,dQ,vs,g,Fs,bT,gw,ao,pZ,KR,mo=>by
  obtain ⟨h1,al,aO⟩:=ao 0 p x rfl
  obtain ⟨v,cM,hv,dT,dC,put⟩:=bT.part h1 (by simp)
  rw [al] at hv
  cases hv
  obtain ⟨gh,jb,zB,zC⟩:=put x (dQ 0) aO (λc ab bl=>absurd bl (pZ 0 _ c (by simp) ab)) (λc ab=>KR 0 c (by simp) ab) (λt c _ ab=>pZ 0 t c (by simp) ab)
  have gz:∀ t c,gh t c->Fs t c\/dQ 0 c:=by
   intro t c ab
   by_cases aD:t=p.root
   ·subst aD
    rcases (zB c).1 ab with ⟨h,_⟩ | h
    ·exact .inl h
    ·exact .inr h
   ·rw [zC t aD] at ab; exact .inl ab
  simp only [List.map_cons,List.nodup_cons] at gw
  obtain ⟨iZ,ib,CC⟩:=jE.pt l (λae=>dQ (ae+1)) (λae=>vs (ae+1)) jb gw.2 (λae q y aa=>by
    obtain ⟨aw,a2,a3⟩:=ao (ae+1) q y (by simpa using aa)
    refine ⟨Ua aw h1 ?_,a2,a3⟩
    rintro rfl
    exact gw.1 (List.mem_map.2 ⟨(p,y),List.mem_of_getElem? aa,rfl⟩))
   (λae t c aa ab bl=>by
    rcases gz t c bl with h | h
    ·exact pZ (ae+1) t c (by simpa using aa) ab h
    ·have:=mo (ae+1) 0 c (by simpa using aa) (by simp) ab h; omega)
   (λae c aa ab=>KR (ae+1) c (by simpa using aa) ab)
   (λi ae c hi aa h1 al=>by have:=mo (i+1) (ae+1) c (by simpa using hi) (by simpa using aa) h1 al; omega)
  refine ⟨iZ,ib,λt c ab=>?_⟩
  rcases CC t c ab with h | ⟨ae,aa,h⟩
  ·rcases gz t c h with h | h
   ·exact .inl h
   ·exact .inr ⟨0,by simp,h⟩
  ·exact .inr ⟨ae+1,by simpa using aa,h⟩
end
end Go.Own
namespace Go.Own
open Go
inductive jA:ag->ag->Prop
 | refl {x:ag}:jA x x
 | Hc {z:Nat}:jA .aK (.own z 0 [])
 | qW {x y:ag}(aL:di x) (h:View (λ_=>none) x y):jA x y
 | own {z n:Nat}{cs cs':List ag}(ao:cs'.length=cs.length) (h:∀ (k:Nat) (x y:ag),cs[k]?=some x->cs'[k]?=some y->jA x y):jA (.own z n cs) (.own z n cs')
 | obj {cs cs':List ag}(ao:cs'.length=cs.length) (h:∀ (k:Nat) (x y:ag),cs[k]?=some x->cs'[k]?=some y->jA x y):jA (.obj cs) (.obj cs')
 | agg {cs cs':List ag}(ao:cs'.length=cs.length) (h:∀ (k:Nat) (x y:ag),cs[k]?=some x->cs'[k]?=some y->jA x y):jA (.agg cs) (.agg cs')
theorem View.up {g g':aY}(h:∀ t x,g t=some x->g' t=some x) {x y:ag}(hv:View g x y):View g' x y:=by
 induction hv with
 | pk=>exact .pk
 | self h1 al aO b4 df eL=>exact .self h1 al aO b4 df eL
 | mp=>exact .mp
 | hD aG=>exact .hD (kz h aG)
 | agg ao _ aS=>exact .agg ao aS
 | own ao _ aS=>exact .own ao aS
 | obj ao _ aS=>exact .obj ao aS
 | er ao _ aS=>exact .er ao aS
 | bn aG aL ao _ aS=>exact .bn (kz h aG) aL ao aS
 | sub aG aL ao _ aS=>exact .sub (kz h aG) aL ao aS
 | ptr aG az hk ao _ aS=>exact .ptr (kz h aG) az hk ao aS
 | rows aG ao _ aS=>exact .rows (aG.mono (λaG=>kz h aG) h) ao aS
theorem vM {cs cs':List ag}(ao:cs'.length=cs.length) (aL:∀ x∈cs,di x) (aS:∀ (k:Nat) (x y:ag),cs[k]?=some x->cs'[k]?=some y->di x->di y):∀ y∈cs',di y:=by
 intro y az
 obtain ⟨k,hk⟩:=List.getElem?_of_mem az
 have dZ:=(List.getElem?_eq_some_iff.1 hk).1
 have J:=List.getElem?_eq_getElem (ao ▸ dZ:k<cs.length)
 exact aS k _ y J hk (aL _ (List.mem_of_getElem? J))
section
variable {w:World}{I:br}
theorem R.qW {ρ:ag->Value->Prop}{x y:ag}{v:Value}{F:br}(bf:R w I ρ x v F) (aL:di x) (h:View (λ_=>none) x y) (bt:∀ c,F c->¬ I c) (bc:∀ c,I c->c<w.heap.size):R w (λc=>I c\/F c) ρ y v cU:=by
 have bT:jE w I #[v] (λt=>if t=0 then some x else none) (λt c=>t=0/\F c):=by
  refine ⟨λt z bM=>?_,λt aD c ab=>?_,λt dn c ab fu=>ab.1.trans fu.1.symm,λt c ab=>bt c ab.2,bc⟩
  ·by_cases bb:t=0
   ·subst bb
    rw [if_pos rfl] at bM
    cases bM
    exact ⟨v,rfl,.tree ((bf.bK aL).xb λc=>⟨λh=>⟨rfl,h⟩,λh=>h.2⟩)⟩
   ·rw [if_neg bb] at bM; cases bM
  ·rw [if_pos ab.1] at aD; cases aD
 have:=View.MG bT (h.up λ_ _ h=>by cases h) (bf.bK aL) (λc ab=>⟨0,rfl,ab⟩) ρ
 exact this.nk λc ab=>by
  rcases ab with h | ⟨t,_,h⟩
  ·exact .inl h
  ·exact .inr h
theorem jA.bK {x y:ag}(h:jA x y):di x->di y:=by
 induction h with
 | refl=>exact id
 | Hc=>exact λ_=>.own (by simp)
 | qW aL h =>
  intro _
  have key:∀ {x y:ag},View (λ_=>none) x y->di x->di y:=by
   intro x y h
   induction h with
   | pk=>exact λ_=>.aE (by simp)
   | self h=>exact λ_=>h
   | mp=>exact λ_=>.imp
   | hD aG=>simp [b7] at aG
   | agg ao _ aS=>intro aL; cases aL with | agg aL=>exact .agg (vM ao aL aS)
   | own ao _ aS=>intro aL; cases aL with | own aL=>exact .aE (vM ao aL aS)
   | obj ao _ aS=>intro aL; cases aL with | obj aL=>exact .bo (vM ao aL aS)
   | er ao _ aS=>intro aL; cases aL with | er h1 al=>exact .er h1 (vM ao al aS)
   | bn aG=>simp [b7] at aG
   | sub aG=>simp [b7] at aG
   | ptr aG=>simp [b7] at aG
   | rows aG =>
    cases aG with
    | own aG=>simp [b7] at aG
    | bX aD=>cases aD
  exact key h aL
 | own ao _ aS=>intro aL; cases aL with | own aL=>exact .own (vM ao aL aS)
 | obj ao _ aS=>intro aL; cases aL with | obj aL=>exact .obj (vM ao aL aS)
 | agg ao _ aS=>intro aL; cases aL with | agg aL=>exact .agg (vM ao aL aS)
theorem E0 {ρ:ag->Value->Prop}{cs cs':List ag}{get:Nat->Option Value}{Fs:Nat->br}{F B:br}(ao:cs'.length=cs.length)
  (a8:∀ k,k<cs.length->∃ u,get k=some u)
  (aV:∀ (ae k c:Nat),ae<cs.length->k<cs.length->Fs ae c->Fs k c->ae=k) (aH:∀ k c,k<cs.length->Fs k c->¬ B c) (aR:∀ c,F c↔B c\/∃ k,k<cs.length/\Fs k c)
  (aS:∀ (k:Nat) (x y:ag),cs[k]?=some x->cs'[k]?=some y->∀ u,get k=some u->∃ fK,(∀ c,fK c->Fs k c)/\R w (λc=>I c\/(Fs k c/\¬ fK c)) ρ y u fK) :
  ∃ ri:Nat->br,(∀ k c,k<cs'.length->ri k c->Fs k c)/\(∀ (k:Nat) (y:ag) (u:Value),cs'[k]?=some y->get k=some u->R w (λc=>I c\/(F c/\¬ (B c\/∃ ae,ae<cs'.length/\ri ae c))) ρ y u (ri k)):=by
 have:∀ k,∃ G:br,k<cs.length->(∀ c,G c->Fs k c)/\∀ (y:ag) (u:Value),cs'[k]?=some y->get k=some u->R w (λc=>I c\/(Fs k c/\¬ G c)) ρ y u G:=by
  intro k
  by_cases hk:k<cs.length
  ·have J:=List.getElem?_eq_getElem hk
   have az:=List.getElem?_eq_getElem (ao ▸ hk:k<cs'.length)
   obtain ⟨u,hu⟩:=a8 k hk
   obtain ⟨G,h1,al⟩:=aS k _ _ J az u hu
   refine ⟨G,λ_=>⟨h1,λy s9 mF fN=>?_⟩⟩
   rw [az] at mF; cases mF
   rw [hu] at fN; cases fN
   exact al
  ·exact ⟨cU,λh=>absurd h hk⟩
 obtain ⟨ri,E'⟩:=Classical.axiomOfChoice this
 refine ⟨ri,λk c hk=>(E' k (ao ▸ hk)).1 c,λk y u az hu=>?_⟩
 have hk:k<cs'.length:=(List.getElem?_eq_some_iff.1 az).1
 have ix:k<cs.length:=ao ▸ hk
 refine ((E' k ix).2 y u az hu).nk λc ab=>?_
 rcases ab with h | ⟨h1,al⟩
 ·exact .inl h
 ·refine .inr ⟨(aR c).2 (.inr ⟨k,ix,h1⟩),?_⟩
  rintro (h | ⟨ae,aa,h⟩)
  ·exact aH k c ix h1 h
  ·have tU:ae<cs.length:=ao ▸ aa
   have:=aV ae k c tU ix ((E' ae tU).1 c h) h1
   subst this
   exact al h
theorem R.e7 {ρ:ag->Value->Prop}{x y:ag}(h:jA x y):∀ {v:Value}{F:br},R w I ρ x v F->di x->(∀ c,F c->¬ I c)->(∀ c,I c->c<w.heap.size)->∃ fK,(∀ c,fK c->F c)/\R w (λc=>I c\/(F c/\¬ fK c)) ρ y v fK:=by
 induction h with
 | refl=>exact λbf _ _ _=>⟨_,λ_ h=>h,bf.nk λ_ h=>.inl h⟩
 | Hc =>
  intro v F bf _ _ _
  have:=bf.qY
  subst this
  refine ⟨cU,λ_ h=>h.elim,.own (e:=0) (us:=[]) (Fs:=λ_=>cU) ⟨by simp,.inl ⟨rfl,rfl⟩⟩ rfl (by simp) (by simp) (λ_ _ _ _ _ h=>h.elim) (λ_ _ _ h=>h.elim) λc=>⟨λh=>h.elim,λh=>?_⟩⟩
  rcases h with h | ⟨_,_,h⟩
  ·cases h
  ·exact h
 | qW aL h=>exact λbf _ bt bc=>⟨cU,λ_ h=>h.elim,(bf.qW aL h bt bc).nk λc ab=>ab.elim .inl λh=>.inr ⟨h,λh=>h⟩⟩
 | @own z n cs cs' ao _ aS =>
  intro v F bf aL bt bc
  cases bf with
  | ref J=>simp [ag.isRef] at J
  | @own _ _ _ _ e us Fs _ bd h6 h1 ax aV aH aR =>
   cases aL with
   | own aL =>
    obtain ⟨ri,o_,zD⟩:=E0 (get:=λk=>us[k]?) (B:=λc=>v.ownBlock=some c) ao (λk hk=>⟨_,List.getElem?_eq_getElem (h6 ▸ hk)⟩) aV (λk c hk ab e=>aH k c hk ab e) aR (λk x y J az u hu=>aS k x y J az (ax k x u J hu) (aL x (List.mem_of_getElem? J)) (λc ab=>bt c ((aR c).2 (.inr ⟨k,(List.getElem?_eq_some_iff.1 J).1,ab⟩))) bc)
    exact ⟨_,λc ab=>(aR c).2 (ab.imp id λ⟨k,hk,h⟩=>⟨k,ao ▸ hk,o_ k c hk h⟩),
     .own bd (by rw [ao,h6]) h1 (λk y u az hu=>zD k y u az hu) (λae k c aa hk al aO=>aV ae k c (ao ▸ aa) (ao ▸ hk) (o_ ae c aa al) (o_ k c hk aO)) (λk c hk ab=>aH k c (ao ▸ hk) (o_ k c hk ab)) (λc=>Iff.rfl)⟩
 | @obj cs cs' ao _ aS =>
  intro v F bf aL bt bc
  cases bf with
  | ref J=>simp [ag.isRef] at J
  | @obj _ b e arr Fs _ bd h6 h1 ax aV aH aR =>
   cases aL with
   | obj aL =>
    obtain ⟨ri,o_,zD⟩:=E0 (get:=λk=>arr[k]?) (B:=λc=>c=b) ao (λk hk=>⟨_,Array.getElem?_eq_getElem (h6 ▸ hk)⟩) aV (λk c hk ab e=>aH k hk (e ▸ ab)) aR (λk x y J az u hu=>aS k x y J az (ax k x u J hu) (aL x (List.mem_of_getElem? J)) (λc ab=>bt c ((aR c).2 (.inr ⟨k,(List.getElem?_eq_some_iff.1 J).1,ab⟩))) bc)
    exact ⟨_,λc ab=>(aR c).2 (ab.imp id λ⟨k,hk,h⟩=>⟨k,ao ▸ hk,o_ k c hk h⟩),
     .obj bd (by rw [ao,h6]) h1 (λk y u az hu=>zD k y u az hu) (λae k c aa hk al aO=>aV ae k c (ao ▸ aa) (ao ▸ hk) (o_ ae c aa al) (o_ k c hk aO)) (λk hk ab=>aH k (ao ▸ hk) (o_ k b hk ab)) (λc=>Iff.rfl)⟩
 | @agg cs cs' ao _ aS =>
  intro v F bf aL bt bc
  cases bf with
  | ref J=>simp [ag.isRef] at J
  | @agg _ vs Fs _ h6 h1 ax aV aR =>
   cases aL with
   | agg aL =>
    obtain ⟨ri,o_,zD⟩:=E0 (get:=λk=>vs[k]?) (B:=λ_=>False) ao (λk hk=>⟨_,Array.getElem?_eq_getElem (h6 ▸ hk)⟩) aV (λk c hk ab e=>e) (λc=>(aR c).trans ⟨.inr,λh=>h.elim (λh=>h.elim) id⟩) (λk x y J az u hu=>aS k x y J az (ax k x u J hu) (aL x (List.mem_of_getElem? J)) (λc ab=>bt c ((aR c).2 ⟨k,(List.getElem?_eq_some_iff.1 J).1,ab⟩)) bc)
    refine ⟨λc=>∃ k,k<cs'.length/\ri k c,λc ⟨k,hk,h⟩=>(aR c).2 ⟨k,ao ▸ hk,o_ k c hk h⟩,
     .agg (Fs:=ri) (by rw [ao,h6]) h1 (λk y u az hu=>(zD k y u az hu).nk λc ab=>ab.imp id λ⟨h1,al⟩=>⟨h1,λh=>al (.inr h)⟩) (λae k c aa hk al aO=>aV ae k c (ao ▸ aa) (ao ▸ hk) (o_ ae c aa al) (o_ k c hk aO)) (λc=>Iff.rfl)⟩
end
end Go.Own
