/-
  What is proved here: parts of the proof that the last text states: rules for walks through code, and of this program's functions what they answer. No condition of their own.
-/
import Derived.Orders
import Derived.WalkKit
namespace Go.Own
open Go
structure Place where
 root:Nat
 path:List Nat
 deriving DecidableEq,Repr
def Place.push (p:Place) (k:Nat):Place:=⟨p.root,p.path++[k]⟩
inductive aj where
 | lit (v:Value)
 | aI
 | aF (z n:Nat) (cs:List aj)
 | own (z n:Nat) (cs:List aj)
 | obj (cs:List aj)
 | agg (cs:List aj)
 | cG (cs:List aj)
 | bo (cs:List aj)
 | ptr (p:Place) (k:Nat)
 | bl (z:Nat) (p:Place) (n:Nat)
 | sub (z:Nat) (p:Place) (lo n:Nat)
 | bR (z:Nat) (p:Place) (n m:Nat) (new:List aj)
 | ey (fn:Fn) (first caps:List aj)
 | mp (p:Array MapEntry->Nat->Prop)
 | hN (p:Place)
 | imp (p:Array MapEntry->Nat->Prop)
 | dead
 deriving Inhabited
abbrev br:=Nat->Prop
def aj.isRef:aj->Bool
 | .ptr .. | .bl .. | .sub .. | .hN ..=>true
 | _=>false
inductive R (w:World) (I:br) (ρ:aj->Value->Prop):aj->Value->br->Prop
 | lit {v:Value}{F:br}(hv:v.oneCell'=true) (aQ:∀ c,¬ F c):R w I ρ (.lit v) v F
 | aI {F:br}(aQ:∀ c,¬ F c):R w I ρ .aI (.slice none 0 0) F
 | dead {v:Value}{F:br}(aQ:∀ c,¬ F c):R w I ρ .dead v F
 | ref {x:aj}{v:Value}{F:br}(J:x.isRef=true) (h:ρ x v) (aQ:∀ c,¬ F c):R w I ρ x v F
 | hY {z cap:Nat}{a:Option Addr}{F:br}(aQ:∀ c,¬ F c):R w I ρ (.aF z 0 []) (.slice a 0 cap) F
 | aF {z n cap:Nat}{cs:List aj}{ad:Addr}{us:Nat->Value}{F:br}(aQ:∀ c,¬ F c) (k7:n<=cap) (bt:I ad.block) (aM:ad.spot=none) (ao:cs.length=n * z) (h1:∀ (k:Nat) (x:aj),cs[k]?=some x->(us k).oneCell'=true)
   (ab:∀ (k:Nat) (x:aj),cs[k]?=some x->w.cell? ⟨ad.block,ad.off+k,none⟩=some (us k)) (ay:∀ (k:Nat) (x:aj),cs[k]?=some x->R w I ρ x (us k) (λ_=>False)) :
   R w I ρ (.aF z n cs) (.slice (some ad) n cap) F
 | bo {cs:List aj}{ad:Addr}{us:Nat->Value}{F:br}(aQ:∀ c,¬ F c) (bt:I ad.block) (aM:ad.spot=none) (h1:∀ (k:Nat) (x:aj),cs[k]?=some x->(us k).oneCell'=true)
   (ab:∀ (k:Nat) (x:aj),cs[k]?=some x->w.cell? ⟨ad.block,ad.off+k,none⟩=some (us k)) (ay:∀ (k:Nat) (x:aj),cs[k]?=some x->R w I ρ x (us k) (λ_=>False)) :
   R w I ρ (.bo cs) (.pointer (some ad)) F
 | own {z n:Nat}{cs:List aj}{v:Value}{e:TypeId}{us:List Value}{Fs:Nat->br}{F:br}
   (bh:w.ownsRow 0 e z v n us) (ao:cs.length=us.length) (h1:∀ (k:Nat) (u:Value),us[k]?=some u->u.oneCell'=true)
   (ay:∀ (k:Nat) (x:aj) (u:Value),cs[k]?=some x->us[k]?=some u->R w I ρ x u (Fs k))
   (aY:∀ (af k c:Nat),af<cs.length->k<cs.length->Fs af c->Fs k c->af=k) (aJ:∀ (k c:Nat),k<cs.length->Fs k c->v.ownBlock≠some c)
   (aQ:∀ c,F c↔v.ownBlock=some c\/∃ k,k<cs.length/\Fs k c):R w I ρ (.own z n cs) v F
 | obj {cs:List aj}{b:Nat}{e:TypeId}{arr:Array Value}{Fs:Nat->br}{F:br}
   (bh:w.heap[b]?=some (.cells arr e (0,0))) (ao:cs.length=arr.size) (h1:∀ (k:Nat) (u:Value),arr[k]?=some u->u.oneCell'=true)
   (ay:∀ (k:Nat) (x:aj) (u:Value),cs[k]?=some x->arr[k]?=some u->R w I ρ x u (Fs k))
   (aY:∀ (af k c:Nat),af<cs.length->k<cs.length->Fs af c->Fs k c->af=k) (aJ:∀ (k:Nat),k<cs.length->¬ Fs k b)
   (aQ:∀ c,F c↔c=b\/∃ k,k<cs.length/\Fs k c):R w I ρ (.obj cs) (.pointer (some ⟨b,0,none⟩)) F
 | agg {cs:List aj}{vs:Array Value}{Fs:Nat->br}{F:br}(ao:cs.length=vs.size) (h1:∀ (k:Nat) (u:Value),vs[k]?=some u->u.oneCell'=true)
   (ay:∀ (k:Nat) (x:aj) (u:Value),cs[k]?=some x->vs[k]?=some u->R w I ρ x u (Fs k))
   (aY:∀ (af k c:Nat),af<cs.length->k<cs.length->Fs af c->Fs k c->af=k)
   (aQ:∀ c,F c↔∃ k,k<cs.length/\Fs k c):R w I ρ (.agg cs) (.agg vs) F
 | cG {cs:List aj}{vs:Array Value}{Fs:Nat->br}{F:br}(ao:cs.length=vs.size)
   (ay:∀ (k:Nat) (x:aj) (u:Value),cs[k]?=some x->vs[k]?=some u->R w I ρ x u (Fs k))
   (aY:∀ (af k c:Nat),af<cs.length->k<cs.length->Fs af c->Fs k c->af=k)
   (aQ:∀ c,F c↔∃ k,k<cs.length/\Fs k c):R w I ρ (.cG cs) (.tuple vs) F
 | ey {fn:Fn}{first caps:List aj}{v1 v2:Array Value}{F:br}(aQ:∀ c,¬ F c) (h1:first.length=v1.size) (al:caps.length=v2.size)
   (jV:∀ (k:Nat) (x:aj) (u:Value),first[k]?=some x->v1[k]?=some u->R w I ρ x u (λ_=>False))
   (iN:∀ (k:Nat) (x:aj) (u:Value),caps[k]?=some x->v2[k]?=some u->R w I ρ x u (λ_=>False)):R w I ρ (.ey fn first caps) (.func fn v1 v2) F
 | mp {p:Array MapEntry->Nat->Prop}{b:Nat}{es:Array MapEntry}{clock:Nat}{F:br}(bh:w.heap[b]?=some (.map es clock)) (aH:p es clock) (aQ:∀ c,F c↔c=b):R w I ρ (.mp p) (.map (some b)) F
 | imp {p:Array MapEntry->Nat->Prop}{b:Nat}{es:Array MapEntry}{clock:Nat}{F:br}(aQ:∀ c,¬ F c) (bt:I b) (bh:w.heap[b]?=some (.map es clock)) (aH:p es clock):R w I ρ (.imp p) (.map (some b)) F
theorem R.xi {w:World}{I:br}{ρ:aj->Value->Prop}{x:aj}{v:Value}{F fO:br}(h:R w I ρ x v F) (aQ:∀ c,F c↔fO c):R w I ρ x v fO:=by
 have:F=fO:=funext λc=>propext (aQ c)
 exact this ▸ h
theorem R.lt {w:World}{I:br}{ρ:aj->Value->Prop}{x:aj}{v:Value}{F:br}(h:R w I ρ x v F):∀ c,F c->c<w.heap.size:=by
 induction h with
 | lit _ aQ | aI aQ | dead aQ | ref _ _ aQ | hY aQ | aF aQ | bo aQ | ey aQ | imp aQ=>exact λc ab=>absurd ab (aQ c)
 | mp bh _ aQ=>exact λc ab=>by rw [(aQ c).1 ab]; exact (Array.getElem?_eq_some_iff.1 bh).1
 | own bh ao h1 ay aY aJ aQ aR =>
  intro c ab
  rcases (aQ c).1 ab with h | ⟨k,hk,h⟩
  ·exact (bh.lt c h).2
  ·exact aR k _ _ (List.getElem?_eq_getElem hk) (List.getElem?_eq_getElem (ao ▸ hk)) c h
 | obj bh ao h1 ay aY aJ aQ aR =>
  intro c ab
  rcases (aQ c).1 ab with rfl | ⟨k,hk,h⟩
  ·exact (Array.getElem?_eq_some_iff.1 bh).1
  ·exact aR k _ _ (List.getElem?_eq_getElem hk) (Array.getElem?_eq_getElem (ao ▸ hk)) c h
 | agg ao h1 ay aY aQ aR =>
  intro c ab
  obtain ⟨k,hk,h⟩:=(aQ c).1 ab
  exact aR k _ _ (List.getElem?_eq_getElem hk) (Array.getElem?_eq_getElem (ao ▸ hk)) c h
 | cG ao ay aY aQ aR =>
  intro c ab
  obtain ⟨k,hk,h⟩:=(aQ c).1 ab
  exact aR k _ _ (List.getElem?_eq_getElem hk) (Array.getElem?_eq_getElem (ao ▸ hk)) c h
theorem ur {w w':World}{e:TypeId}{z n:Nat}{v:Value}{us:List Value}(h:w.ownsRow 0 e z v n us) (aJ:∀ c,v.ownBlock=some c->w'.heap[c]?=w.heap[c]?):w'.ownsRow 0 e z v n us:=by
 obtain ⟨h1,al⟩:=h
 refine ⟨h1,?_⟩
 rcases al with al | ⟨g,cap,cur,rfl,a',b6,rest⟩
 ·exact .inl al
 ·exact .inr ⟨g,cap,cur,rfl,a',by rw [aJ g rfl]; exact b6,rest⟩
theorem R.frame {w w':World}{I I':br}{ρ ρ':aj->Value->Prop}{x:aj}{v:Value}{F:br}(h:R w I ρ x v F)
  (bt:∀ c,I c->w'.heap[c]?=w.heap[c]?) (oF:∀ c,I c->I' c) (lz:∀ x v,ρ x v->ρ' x v) :
  (∀ c,F c->w'.heap[c]?=w.heap[c]?)->R w' I' ρ' x v F:=by
 induction h with
 | lit hv aQ=>exact λ_=>.lit hv aQ
 | aI aQ=>exact λ_=>.aI aQ
 | dead aQ=>exact λ_=>.dead aQ
 | ref J h aQ=>exact λ_=>.ref J (lz _ _ h) aQ
 | hY aQ=>exact λ_=>.hY aQ
 | aF aQ k7 hi aM ao h1 ab ay aR =>
  exact λ_=>.aF aQ k7 (oF _ hi) aM ao h1 (λk x hk=>(World.cell?_of_block (a:=⟨_,_,none⟩) (bt _ hi)).trans (ab k x hk)) λk x hk=>aR k x hk (λc ab=>ab.elim)
 | bo aQ hi aM h1 ab ay aR =>
  exact λ_=>.bo aQ (oF _ hi) aM h1 (λk x hk=>(World.cell?_of_block (a:=⟨_,_,none⟩) (bt _ hi)).trans (ab k x hk)) λk x hk=>aR k x hk (λc ab=>ab.elim)
 | own bh ao h1 ay aY aJ aQ aR =>
  intro bn
  refine .own (ur bh λc ab=>bn c ((aQ c).2 (.inl ab))) ao h1 (λk x u J hu=>aR k x u J hu λc ab=>bn c ((aQ c).2 (.inr ⟨k,?_,ab⟩))) aY aJ aQ
  exact (List.getElem?_eq_some_iff.1 J).1
 | obj bh ao h1 ay aY aJ aQ aR =>
  intro bn
  refine .obj ((bn _ ((aQ _).2 (.inl rfl))).trans bh) ao h1 (λk x u J hu=>aR k x u J hu λc ab=>bn c ((aQ c).2 (.inr ⟨k,?_,ab⟩))) aY aJ aQ
  exact (List.getElem?_eq_some_iff.1 J).1
 | agg ao h1 ay aY aQ aR =>
  intro bn
  refine .agg ao h1 (λk x u J hu=>aR k x u J hu λc ab=>bn c ((aQ c).2 ⟨k,?_,ab⟩)) aY aQ
  exact (List.getElem?_eq_some_iff.1 J).1
 | cG ao ay aY aQ aR =>
  intro bn
  refine .cG ao (λk x u J hu=>aR k x u J hu λc ab=>bn c ((aQ c).2 ⟨k,?_,ab⟩)) aY aQ
  exact (List.getElem?_eq_some_iff.1 J).1
 | imp aQ hi bh aH=>exact λ_=>.imp aQ (oF _ hi) ((bt _ hi).trans bh) aH
 | mp bh aH aQ=>exact λbn=>.mp ((bn _ ((aQ _).2 rfl)).trans bh) aH aQ
 | ey aQ h1 al jV iN gB gq=>exact λ_=>.ey aQ h1 al (λk x u J hu=>gB k x u J hu λc ab=>ab.elim) (λk x u J hu=>gq k x u J hu λc ab=>ab.elim)
def aj.kids:aj->List aj
 | .own _ _ cs=>cs
 | .obj cs=>cs
 | .agg cs=>cs
 | .cG cs=>cs
 | _=>[]
def aj.uF (x:aj) (k:Nat) (y:aj):aj :=
 match x with
 | .own z n cs=>.own z n (cs.set k y)
 | .obj cs=>.obj (cs.set k y)
 | .agg cs=>.agg (cs.set k y)
 | .cG cs=>.cG (cs.set k y)
 | x=>x
def aj.at:aj->List Nat->Option aj
 | x,[]=>some x
 | x,k::p =>
  match x.kids[k]? with
  | some c=>c.at p
  | none=>none
def aj.setAt:aj->List Nat->aj->aj
 | _,[],y=>y
 | x,k::p,y =>
  match x.kids[k]? with
  | some c=>x.uF k (c.setAt p y)
  | none=>x
def child (w:World) (v:Value) (k:Nat):Option Value :=
 match v with
 | .agg cs=>cs[k]?
 | .tuple cs=>cs[k]?
 | .slice (some a) _ _=>w.cell? ⟨a.block,a.off+k,none⟩
 | .pointer (some a)=>w.cell? ⟨a.block,a.off+k,none⟩
 | _=>none
def walk (w:World):Value->List Nat->Option Value
 | v,[]=>some v
 | v,k::p =>
  match child w v k with
  | some u=>walk w u p
  | none=>none
theorem oa {w:World}{e:TypeId}{z n:Nat}{v:Value}{us:List Value}(h:w.ownsRow 0 e z v n us) {k:Nat}{u:Value}(hu:us[k]?=some u):child w v k=some u:=by
 obtain ⟨h1,al⟩:=h
 rcases al with ⟨rfl,rfl⟩ | ⟨g,cap,cur,rfl,a',b6,aL,ab,aM,aE⟩
 ·simp at h1; subst h1; simp at hu
 ·rw [<- aE] at hu
  rw [List.getElem?_take] at hu
  split at hu
  ·simpa [child,World.cell?,b6] using hu
  ·cases hu
theorem Ux {α:Type}{l:List α}{k af:Nat}{y x:α}(h:(l.set k y)[af]?=some x):(af=k/\x=y/\k<l.length)\/(af≠k/\l[af]?=some x):=by
 by_cases eP:af=k
 ·subst eP
  by_cases bg:af<l.length
  ·rw [List.getElem?_set_self bg] at h; exact .inl ⟨rfl,(Option.some.inj h).symm,bg⟩
  ·rw [List.set_eq_of_length_le (by omega)] at h; rw [List.getElem?_eq_none (by omega)] at h; cases h
 ·rw [List.getElem?_set_ne (Ne.symm eP)] at h; exact .inr ⟨eP,h⟩
structure Out (w w':World) (I I':br) (ρ ρ':aj->Value->Prop) (F cO:br):Prop where
 aF:∀ c,I c->w'.heap[c]?=w.heap[c]?
 rest:∀ c,F c->¬ cO c->w'.heap[c]?=w.heap[c]?
 more:∀ c,I c->I' c
 ref:∀ x v,ρ x v->ρ' x v
theorem Out.mono {w w':World}{I I':br}{ρ ρ':aj->Value->Prop}{F cO fO jn:br}(h:Out w w' I I' ρ ρ' F cO) (h1:∀ c,fO c->F c) (al:∀ c,fO c->¬ jn c->¬ cO c):Out w w' I I' ρ ρ' fO jn :=
 ⟨h.aF,λc ab aL=>h.rest c (h1 c ab) (al c ab aL),h.more,h.ref⟩
theorem R.outside {w w':World}{I I':br}{ρ ρ':aj->Value->Prop}{F cO:br}(o:Out w w' I I' ρ ρ' F cO) {x:aj}{v:Value}{G:br}(h:R w I ρ x v G) (ek:∀ c,G c->F c/\¬ cO c):R w' I' ρ' x v G :=
 h.frame o.aF o.more o.ref λc ab=>o.rest c (ek c ab).1 (ek c ab).2
theorem Dh {w w':World}{I I':br}{ρ ρ':aj->Value->Prop}{cs:List aj}{get:Nat->Option Value}{Fs:Nat->br}{F cO:br}
  (ay:∀ (k:Nat) (x:aj) (u:Value),cs[k]?=some x->get k=some u->R w I ρ x u (Fs k))
  (aY:∀ (af k c:Nat),af<cs.length->k<cs.length->Fs af c->Fs k c->af=k)
  (aQ:∀ k c,k<cs.length->Fs k c->F c) {k:Nat}(hk:k<cs.length) (az:∀ c,cO c->Fs k c) (o:Out w w' I I' ρ ρ' F cO)
  {y:aj}{u:Value}{bK:br}(hu:get k=some u) (bj:R w' I' ρ' y u bK) (fh:∀ c,bK c↔(Fs k c/\¬ cO c)\/(bK c/\¬ (F c/\¬ cO c))) :
  (∀ (af:Nat) (x:aj) (u:Value),(cs.set k y)[af]?=some x->get af=some u->R w' I' ρ' x u (if af=k then bK else Fs af)) /\
  (∀ (i af c:Nat),i<(cs.set k y).length->af<(cs.set k y).length->(if i=k then bK else Fs i) c->(if af=k then bK else Fs af) c->i=af):=by
 constructor
 ·intro af x tc J fQ
  rcases Ux J with ⟨rfl,rfl,bg⟩ | ⟨eK,J⟩
  ·rw [if_pos rfl]; rw [hu] at fQ; cases fQ; exact bj
  ·rw [if_neg eK]
   have aa:af<cs.length:=(List.getElem?_eq_some_iff.1 J).1
   exact (ay af x tc J fQ).outside o λc ab=>⟨aQ af c aa ab,λeH=>eK (aY af k c aa hk ab (az c eH))⟩
 ·intro i af c hi aa h1 al
  rw [List.length_set] at hi aa
  by_cases tX:i=k <;> by_cases eP:af=k
  ·exact tX.trans eP.symm
  ·rw [if_pos tX] at h1; rw [if_neg eP] at al
   exfalso
   have eH:¬ cO c:=λh=>eP (aY af k c aa hk al (az c h))
   rcases (fh c).1 h1 with ⟨h,_⟩ | ⟨_,h⟩
   ·exact eP (aY af k c aa hk al h)
   ·exact h ⟨aQ af c aa al,eH⟩
  ·rw [if_neg tX] at h1; rw [if_pos eP] at al
   exfalso
   have eH:¬ cO c:=λh=>tX (aY i k c hi hk h1 (az c h))
   rcases (fh c).1 al with ⟨h,_⟩ | ⟨_,h⟩
   ·exact tX (aY i k c hi hk h1 h)
   ·exact h ⟨aQ i c hi h1,eH⟩
  ·rw [if_neg tX] at h1; rw [if_neg eP] at al
   exact aY i af c hi aa h1 al
theorem Di {m:Nat}{Fs:Nat->br}{bK cO jn:br}{k:Nat}(hk:k<m)
  (aY:∀ (af k c:Nat),af<m->k<m->Fs af c->Fs k c->af=k) (az:∀ c,cO c->Fs k c) (fh:∀ c,bK c↔(Fs k c/\¬ cO c)\/jn c) (c:Nat) :
  (∃ af,af<m/\(if af=k then bK else Fs af) c)↔((∃ af,af<m/\Fs af c)/\¬ cO c)\/jn c:=by
 constructor
 ·rintro ⟨af,aa,h⟩
  by_cases eP:af=k
  ·rw [if_pos eP] at h
   rcases (fh c).1 h with ⟨h1,al⟩ | h1
   ·exact .inl ⟨⟨k,hk,h1⟩,al⟩
   ·exact .inr h1
  ·rw [if_neg eP] at h
   exact .inl ⟨⟨af,aa,h⟩,λeH=>eP (aY af k c aa hk h (az c eH))⟩
 ·rintro (⟨⟨af,aa,h⟩,aL⟩ | h)
  ·by_cases eP:af=k
   ·subst eP; exact ⟨af,aa,by rw [if_pos rfl]; exact (fh c).2 (.inl ⟨h,aL⟩)⟩
   ·exact ⟨af,aa,by rw [if_neg eP]; exact h⟩
  ·exact ⟨k,hk,by rw [if_pos rfl]; exact (fh c).2 (.inr h)⟩
theorem R.oW {w w':World}{I:br}{ρ:aj->Value->Prop}:∀ (r:List Nat) {x:aj}{v:Value}{F:br}{y:aj},R w I ρ x v F->x.at r=some y ->
  (∀ c,F c->w'.heap[c]?=w.heap[c]?)->walk w' v r=walk w v r
 | [],_,_,_,_,_,_,_=>rfl
 | k::p,x,v,F,y,h,gu,bn=>by
  simp only [aj.at] at gu
  cases hy:x.kids[k]? with
  | none=>rw [hy] at gu; cases gu
  | some rM =>
   rw [hy] at gu
   simp only at gu
   cases h with
   | @own z n cs _ e us Fs _ bh ao h1 ay aY aJ aQ =>
    simp only [aj.kids] at hy
    have hk:k<cs.length:=(List.getElem?_eq_some_iff.1 hy).1
    have hu:us[k]?=some us[k]:=List.getElem?_eq_getElem (ao ▸ hk)
    have mA:=ur (w':=w') bh λc ab=>bn c ((aQ c).2 (.inl ab))
    have:=R.oW (w':=w') p (ay k rM _ hy hu) gu λc ab=>bn c ((aQ c).2 (.inr ⟨k,hk,ab⟩))
    simp [walk,oa bh hu,oa mA hu,this]
   | @obj cs b e arr Fs _ bh ao h1 ay aY aJ aQ =>
    simp only [aj.kids] at hy
    have hk:k<cs.length:=(List.getElem?_eq_some_iff.1 hy).1
    have hu:arr[k]?=some arr[k]:=Array.getElem?_eq_getElem (ao ▸ hk)
    have mA:=(bn b ((aQ b).2 (.inl rfl))).trans bh
    have:=R.oW (w':=w') p (ay k rM _ hy hu) gu λc ab=>bn c ((aQ c).2 (.inr ⟨k,hk,ab⟩))
    simp [walk,child,World.cell?,bh,mA,hu,this]
   | @agg cs vs Fs _ ao h1 ay aY aQ =>
    simp only [aj.kids] at hy
    have hk:k<cs.length:=(List.getElem?_eq_some_iff.1 hy).1
    have hu:vs[k]?=some vs[k]:=Array.getElem?_eq_getElem (ao ▸ hk)
    have:=R.oW (w':=w') p (ay k rM _ hy hu) gu λc ab=>bn c ((aQ c).2 ⟨k,hk,ab⟩)
    simp [walk,child,hu,this]
   | @cG cs vs Fs _ ao ay aY aQ =>
    simp only [aj.kids] at hy
    have hk:k<cs.length:=(List.getElem?_eq_some_iff.1 hy).1
    have hu:vs[k]?=some vs[k]:=Array.getElem?_eq_getElem (ao ▸ hk)
    have:=R.oW (w':=w') p (ay k rM _ hy hu) gu λc ab=>bn c ((aQ c).2 ⟨k,hk,ab⟩)
    simp [walk,child,hu,this]
   | ref J _ _=>cases x <;> simp [aj.isRef,aj.kids] at J hy
   | _=>simp [aj.kids] at hy
theorem R.focus {w:World}{I:br}{ρ:aj->Value->Prop}:∀ (q:List Nat) {x:aj}{v:Value}{F:br}{y:aj},R w I ρ x v F->x.at q=some y ->
  ∃ ie cO,walk w v q=some ie/\R w I ρ y ie cO/\(∀ c,cO c->F c) /\
   (∀ (w':World),(∀ c,F c->¬ cO c->w'.heap[c]?=w.heap[c]?)->walk w' v q=some ie/\∀ r tg,x.at r=some tg->(∃ ff,r=q++ff)\/walk w' v r=walk w v r) /\
   ∀ (w':World) (I':br) (ρ':aj->Value->Prop) (y':aj) (jn:br),Out w w' I I' ρ ρ' F cO->R w' I' ρ' y' ie jn->(∀ c,jn c->F c->cO c) ->
    ∃ fO,R w' I' ρ' (x.setAt q y') v fO/\∀ c,fO c↔(F c/\¬ cO c)\/jn c
 | [],x,v,F,y,h,gu=>by
  simp only [aj.at,Option.some.injEq] at gu
  subst gu
  exact ⟨v,F,rfl,h,λ_ h=>h,λ_ _=>⟨rfl,λr _ _=>.inl ⟨r,rfl⟩⟩,λw' I' ρ' y' jn _ bj _=>⟨jn,bj,λc=>by simp⟩⟩
 | k::p,x,v,F,y,h,gu=>by
  simp only [aj.at] at gu
  cases hy:x.kids[k]? with
  | none=>rw [hy] at gu; cases gu
  | some rM =>
   rw [hy] at gu
   simp only at gu
   have xM:∀ y',x.setAt (k::p) y'=x.uF k (rM.setAt p y'):=λy'=>by simp [aj.setAt,hy]
   cases h with
   | @own z n cs _ e us Fs _ bh ao h1 ay aY aJ aQ =>
    simp only [aj.kids] at hy
    have hk:k<cs.length:=(List.getElem?_eq_some_iff.1 hy).1
    have hu:us[k]?=some us[k]:=List.getElem?_eq_getElem (ao ▸ hk)
    obtain ⟨ie,cO,hw,d',dG,gd,kg⟩:=R.focus p (ay k rM _ hy hu) gu
    refine ⟨ie,cO,by simp [walk,oa bh hu,hw],d',λc ab=>(aQ c).2 (.inr ⟨k,hk,dG c ab⟩),?_,?_⟩
    ·intro w' aM
     have oK:∀ af c,af<cs.length->Fs af c->¬ cO c->w'.heap[c]?=w.heap[c]?:=λaf c aa ab aL=>aM c ((aQ c).2 (.inr ⟨af,aa,ab⟩)) aL
     obtain ⟨jC,iv⟩:=gd w' λc ab aL=>oK k c hk ab aL
     have mA:=ur (w':=w') bh λc ab=>aM c ((aQ c).2 (.inl ab)) λeH=>aJ k c hk (dG c eH) ab
     refine ⟨by simp [walk,oa mA hu,jC],?_⟩
     intro r tg eX
     cases r with
     | nil=>exact .inr rfl
     | cons af r =>
      simp only [aj.at,aj.kids] at eX
      cases aa:cs[af]? with
      | none=>rw [aa] at eX; cases eX
      | some u2 =>
       rw [aa] at eX
       simp only at eX
       have fr:af<cs.length:=(List.getElem?_eq_some_iff.1 aa).1
       have p':us[af]?=some us[af]:=List.getElem?_eq_getElem (ao ▸ fr)
       by_cases eP:af=k
       ·subst eP
        rw [hy] at aa
        cases aa
        rcases iv r tg eX with ⟨ff,rfl⟩ | h
        ·exact .inl ⟨ff,rfl⟩
        ·exact .inr (by simp [walk,oa bh hu,oa mA hu,h])
       ·have h:=R.oW (w':=w') r (ay af u2 _ aa p') eX λc ab=>oK af c fr ab λeH=>eP (aY af k c fr hk ab (dG c eH))
        exact .inr (by simp [walk,oa bh p',oa mA p',h])
    intro w' I' ρ' y' jn o jv mv
    have ju:∀ af c,af<cs.length->Fs af c->F c:=λaf c aa ab=>(aQ c).2 (.inr ⟨af,aa,ab⟩)
    obtain ⟨bK,j_,fh⟩:=kg w' I' ρ' y' jn (o.mono (λc ab=>ju k c hk ab) λc _ h=>h) jv λc ab n0=>mv c ab (ju k c hk n0)
    obtain ⟨eX,nZ⟩:=Dh (get:=λaf=>us[af]?) ay aY ju hk dG o hu j_ λc=>by
     constructor
     ·intro h
      rcases (fh c).1 h with h1 | h1
      ·exact .inl h1
      ·exact .inr ⟨h,λ⟨al,aP⟩=>aP (mv c h1 al)⟩
     ·rintro (h1 | ⟨h1,_⟩)
      ·exact (fh c).2 (.inl h1)
      ·exact h1
    rw [xM]
    refine ⟨_,.own (Fs:=λaf=>if af=k then bK else Fs af) (ur bh λc ab=>o.rest c ((aQ c).2 (.inl ab)) λeH=>aJ k c hk (dG c eH) ab) (by simpa using ao) h1 eX nZ ?_ (λc=>Iff.rfl),λc=>?_⟩
    ·intro af c aa ab uf
     rw [List.length_set] at aa
     by_cases eP:af=k
     ·rw [if_pos eP] at ab
      rcases (fh c).1 ab with ⟨h1,_⟩ | h1
      ·exact aJ k c hk h1 uf
      ·exact aJ k c hk (dG c (mv c h1 ((aQ c).2 (.inl uf)))) uf
     ·rw [if_neg eP] at ab; exact aJ af c aa ab uf
    ·have hu:=Di hk aY dG fh c
     simp only [List.length_set]
     rw [hu,aQ c]
     have gP:v.ownBlock=some c->¬ cO c:=λh1 al=>aJ k c hk (dG c al) h1
     constructor
     ·rintro (h1 | ⟨h1,al⟩ | h1)
      ·exact .inl ⟨.inl h1,gP h1⟩
      ·exact .inl ⟨.inr h1,al⟩
      ·exact .inr h1
     ·rintro (⟨h1 | h1,al⟩ | h1)
      ·exact .inl h1
      ·exact .inr (.inl ⟨h1,al⟩)
      ·exact .inr (.inr h1)
   | @obj cs b e arr Fs _ bh ao h1 ay aY aJ aQ =>
    simp only [aj.kids] at hy
    have hk:k<cs.length:=(List.getElem?_eq_some_iff.1 hy).1
    have hu:arr[k]?=some arr[k]:=Array.getElem?_eq_getElem (ao ▸ hk)
    obtain ⟨ie,cO,hw,d',dG,gd,kg⟩:=R.focus p (ay k rM _ hy hu) gu
    refine ⟨ie,cO,by simp [walk,child,World.cell?,bh,hu,hw],d',λc ab=>(aQ c).2 (.inr ⟨k,hk,dG c ab⟩),?_,?_⟩
    ·intro w' aM
     have oK:∀ af c,af<cs.length->Fs af c->¬ cO c->w'.heap[c]?=w.heap[c]?:=λaf c aa ab aL=>aM c ((aQ c).2 (.inr ⟨af,aa,ab⟩)) aL
     obtain ⟨jC,iv⟩:=gd w' λc ab aL=>oK k c hk ab aL
     have mA:=(aM b ((aQ b).2 (.inl rfl)) λeH=>aJ k hk (dG b eH)).trans bh
     refine ⟨by simp [walk,child,World.cell?,mA,hu,jC],?_⟩
     intro r tg eX
     cases r with
     | nil=>exact .inr rfl
     | cons af r =>
      simp only [aj.at,aj.kids] at eX
      cases aa:cs[af]? with
      | none=>rw [aa] at eX; cases eX
      | some u2 =>
       rw [aa] at eX
       simp only at eX
       have fr:af<cs.length:=(List.getElem?_eq_some_iff.1 aa).1
       have p':arr[af]?=some arr[af]:=Array.getElem?_eq_getElem (ao ▸ fr)
       by_cases eP:af=k
       ·subst eP
        rw [hy] at aa
        cases aa
        rcases iv r tg eX with ⟨ff,rfl⟩ | h
        ·exact .inl ⟨ff,rfl⟩
        ·exact .inr (by simp [walk,child,World.cell?,bh,mA,hu,h])
       ·have h:=R.oW (w':=w') r (ay af u2 _ aa p') eX λc ab=>oK af c fr ab λeH=>eP (aY af k c fr hk ab (dG c eH))
        exact .inr (by simp [walk,child,World.cell?,bh,mA,p',h])
    intro w' I' ρ' y' jn o jv mv
    have ju:∀ af c,af<cs.length->Fs af c->F c:=λaf c aa ab=>(aQ c).2 (.inr ⟨af,aa,ab⟩)
    obtain ⟨bK,j_,fh⟩:=kg w' I' ρ' y' jn (o.mono (λc ab=>ju k c hk ab) λc _ h=>h) jv λc ab n0=>mv c ab (ju k c hk n0)
    obtain ⟨eX,nZ⟩:=Dh (get:=λaf=>arr[af]?) ay aY ju hk dG o hu j_ λc=>by
     constructor
     ·intro h
      rcases (fh c).1 h with h1 | h1
      ·exact .inl h1
      ·exact .inr ⟨h,λ⟨al,aP⟩=>aP (mv c h1 al)⟩
     ·rintro (h1 | ⟨h1,_⟩)
      ·exact (fh c).2 (.inl h1)
      ·exact h1
    rw [xM]
    have l2:F b:=(aQ b).2 (.inl rfl)
    have FE:¬ cO b:=λh=>aJ k hk (dG b h)
    refine ⟨_,.obj (Fs:=λaf=>if af=k then bK else Fs af) ((o.rest b l2 FE).trans bh) (by simpa using ao) h1 eX nZ ?_ (λc=>Iff.rfl),λc=>?_⟩
    ·intro af aa ab
     rw [List.length_set] at aa
     by_cases eP:af=k
     ·rw [if_pos eP] at ab
      rcases (fh b).1 ab with ⟨h1,_⟩ | h1
      ·exact aJ k hk h1
      ·exact FE (mv b h1 l2)
     ·rw [if_neg eP] at ab; exact aJ af aa ab
    ·have hu:=Di hk aY dG fh c
     simp only [List.length_set]
     rw [hu,aQ c]
     constructor
     ·rintro (rfl | ⟨h1,al⟩ | h1)
      ·exact .inl ⟨.inl rfl,FE⟩
      ·exact .inl ⟨.inr h1,al⟩
      ·exact .inr h1
     ·rintro (⟨h1 | h1,al⟩ | h1)
      ·exact .inl h1
      ·exact .inr (.inl ⟨h1,al⟩)
      ·exact .inr (.inr h1)
   | @agg cs vs Fs _ ao h1 ay aY aQ =>
    simp only [aj.kids] at hy
    have hk:k<cs.length:=(List.getElem?_eq_some_iff.1 hy).1
    have hu:vs[k]?=some vs[k]:=Array.getElem?_eq_getElem (ao ▸ hk)
    obtain ⟨ie,cO,hw,d',dG,gd,kg⟩:=R.focus p (ay k rM _ hy hu) gu
    refine ⟨ie,cO,by simp [walk,child,hu,hw],d',λc ab=>(aQ c).2 ⟨k,hk,dG c ab⟩,?_,?_⟩
    ·intro w' aM
     have oK:∀ af c,af<cs.length->Fs af c->¬ cO c->w'.heap[c]?=w.heap[c]?:=λaf c aa ab aL=>aM c ((aQ c).2 ⟨af,aa,ab⟩) aL
     obtain ⟨jC,iv⟩:=gd w' λc ab aL=>oK k c hk ab aL
     
     refine ⟨by simp [walk,child,hu,jC],?_⟩
     intro r tg eX
     cases r with
     | nil=>exact .inr rfl
     | cons af r =>
      simp only [aj.at,aj.kids] at eX
      cases aa:cs[af]? with
      | none=>rw [aa] at eX; cases eX
      | some u2 =>
       rw [aa] at eX
       simp only at eX
       have fr:af<cs.length:=(List.getElem?_eq_some_iff.1 aa).1
       have p':vs[af]?=some vs[af]:=Array.getElem?_eq_getElem (ao ▸ fr)
       by_cases eP:af=k
       ·subst eP
        rw [hy] at aa
        cases aa
        rcases iv r tg eX with ⟨ff,rfl⟩ | h
        ·exact .inl ⟨ff,rfl⟩
        ·exact .inr (by simp [walk,child,hu,h])
       ·have h:=R.oW (w':=w') r (ay af u2 _ aa p') eX λc ab=>oK af c fr ab λeH=>eP (aY af k c fr hk ab (dG c eH))
        exact .inr (by simp [walk,child,p',h])
    intro w' I' ρ' y' jn o jv mv
    have ju:∀ af c,af<cs.length->Fs af c->F c:=λaf c aa ab=>(aQ c).2 ⟨af,aa,ab⟩
    obtain ⟨bK,j_,fh⟩:=kg w' I' ρ' y' jn (o.mono (λc ab=>ju k c hk ab) λc _ h=>h) jv λc ab n0=>mv c ab (ju k c hk n0)
    obtain ⟨eX,nZ⟩:=Dh (get:=λaf=>vs[af]?) ay aY ju hk dG o hu j_ λc=>by
     constructor
     ·intro h
      rcases (fh c).1 h with h1 | h1
      ·exact .inl h1
      ·exact .inr ⟨h,λ⟨al,aP⟩=>aP (mv c h1 al)⟩
     ·rintro (h1 | ⟨h1,_⟩)
      ·exact (fh c).2 (.inl h1)
      ·exact h1
    rw [xM]
    refine ⟨_,.agg (Fs:=λaf=>if af=k then bK else Fs af) (by simpa using ao) h1 eX nZ (λc=>Iff.rfl),λc=>?_⟩
    have hu:=Di hk aY dG fh c
    simp only [List.length_set]
    rw [hu,aQ c]
   | @cG cs vs Fs _ ao ay aY aQ =>
    simp only [aj.kids] at hy
    have hk:k<cs.length:=(List.getElem?_eq_some_iff.1 hy).1
    have hu:vs[k]?=some vs[k]:=Array.getElem?_eq_getElem (ao ▸ hk)
    obtain ⟨ie,cO,hw,d',dG,gd,kg⟩:=R.focus p (ay k rM _ hy hu) gu
    refine ⟨ie,cO,by simp [walk,child,hu,hw],d',λc ab=>(aQ c).2 ⟨k,hk,dG c ab⟩,?_,?_⟩
    ·intro w' aM
     have oK:∀ af c,af<cs.length->Fs af c->¬ cO c->w'.heap[c]?=w.heap[c]?:=λaf c aa ab aL=>aM c ((aQ c).2 ⟨af,aa,ab⟩) aL
     obtain ⟨jC,iv⟩:=gd w' λc ab aL=>oK k c hk ab aL
     
     refine ⟨by simp [walk,child,hu,jC],?_⟩
     intro r tg eX
     cases r with
     | nil=>exact .inr rfl
     | cons af r =>
      simp only [aj.at,aj.kids] at eX
      cases aa:cs[af]? with
      | none=>rw [aa] at eX; cases eX
      | some u2 =>
       rw [aa] at eX
       simp only at eX
       have fr:af<cs.length:=(List.getElem?_eq_some_iff.1 aa).1
       have p':vs[af]?=some vs[af]:=Array.getElem?_eq_getElem (ao ▸ fr)
       by_cases eP:af=k
       ·subst eP
        rw [hy] at aa
        cases aa
        rcases iv r tg eX with ⟨ff,rfl⟩ | h
        ·exact .inl ⟨ff,rfl⟩
        ·exact .inr (by simp [walk,child,hu,h])
       ·have h:=R.oW (w':=w') r (ay af u2 _ aa p') eX λc ab=>oK af c fr ab λeH=>eP (aY af k c fr hk ab (dG c eH))
        exact .inr (by simp [walk,child,p',h])
    intro w' I' ρ' y' jn o jv mv
    have ju:∀ af c,af<cs.length->Fs af c->F c:=λaf c aa ab=>(aQ c).2 ⟨af,aa,ab⟩
    obtain ⟨bK,j_,fh⟩:=kg w' I' ρ' y' jn (o.mono (λc ab=>ju k c hk ab) λc _ h=>h) jv λc ab n0=>mv c ab (ju k c hk n0)
    obtain ⟨eX,nZ⟩:=Dh (get:=λaf=>vs[af]?) ay aY ju hk dG o hu j_ λc=>by
     constructor
     ·intro h
      rcases (fh c).1 h with h1 | h1
      ·exact .inl h1
      ·exact .inr ⟨h,λ⟨al,aP⟩=>aP (mv c h1 al)⟩
     ·rintro (h1 | ⟨h1,_⟩)
      ·exact (fh c).2 (.inl h1)
      ·exact h1
    rw [xM]
    refine ⟨_,.cG (Fs:=λaf=>if af=k then bK else Fs af) (by simpa using ao) eX nZ (λc=>Iff.rfl),λc=>?_⟩
    have hu:=Di hk aY dG fh c
    simp only [List.length_set]
    rw [hu,aQ c]
   | ref J _ _=>cases x <;> simp [aj.isRef,aj.kids] at J hy
   | _=>simp [aj.kids] at hy
end Go.Own
namespace Go.Own
open Go
abbrev aZ:=Nat->Option aj
def b7 (g:aZ) (p:Place):Option aj :=
 match g p.root with
 | some x=>x.at p.path
 | none=>none
def eo (w:World) (T:Array Value) (p:Place):Option Value :=
 match T[p.root]? with
 | some v=>walk w v p.path
 | none=>none
def addrOf:Value->Option Addr
 | .slice (some a) _ _=>some a
 | .pointer (some a)=>some a
 | _=>none
def fV (w:World) (T:Array Value):aj->Value->Prop
 | .ptr p k,v=>∃ u a,eo w T p=some u/\addrOf u=some a/\v=.pointer (some ⟨a.block,a.off+k,none⟩)
 | .bl _ p n,v=>∃ a N cap,eo w T p=some (.slice a N cap)/\v=.slice a n cap/\n<=N
 | .sub z p lo n,v=>∃ a N cap cI lY,eo w T p=some (.slice a N cap)/\v=.slice cI n lY/\n<=lY/\lo+n<=N/\(0<n->∃ ad,a=some ad/\cI=some ⟨ad.block,ad.off+lo * z,none⟩)
 | .bR _ p n _ _,v=>∃ a cap,eo w T p=some (.slice a n cap)/\v=.slice a n cap
 | .hN p,v=>∃ b,eo w T p=some (.map b)/\v=.map b
 | _,_=>False
def gK (g:aZ):aj->Prop
 | .ptr p k=>∃ y,b7 g p=some y/\(∃ z n cs,(y=.own z n cs\/y=.obj cs)/\k<cs.length)
 | .bl z p n=>(∃ N cs,b7 g p=some (.own z N cs)/\n<=N)\/(p.path=[]/\∃ q hd m new,g p.root=some (.bR z q hd m new)/\n=hd+m)
 | .sub z p lo n=>∃ N cs,b7 g p=some (.own z N cs)/\lo+n<=N
 | .bR z p n _ _=>(∃ cs,b7 g p=some (.own z n cs))\/(p.path=[]/\∃ q hd m new cs,g p.root=some (.bR z q hd m new)/\n=hd+m/\b7 g q=some (.own z hd cs))
 | .hN p=>∃ q,b7 g p=some (.mp q)
 | _=>False
def er (w:World) (T:Array Value) (g:aZ) (r:aj) (v:Value):Prop:=fV w T r v/\gK g r
structure Eb (w:World) (I:br) (ρ:aj->Value->Prop) (z:Nat) (p:Place) (n m:Nat) (new:List aj) (v:Value) (F:br) (bv:Value) (e de:TypeId) (us news:List Value):Prop where
 jU:ρ (.bR z p n 0 []) bv
 k9:w.ownsRow 0 e z bv n us
 mB:w.ownsRow 0 de z v (n+m) (us++news)
 ao:new.length=news.length
 h1:∀ (k:Nat) (u:Value),news[k]?=some u->u.oneCell'=true
 ay:∀ (k:Nat) (x:aj) (u:Value),new[k]?=some x->news[k]?=some u->R w I ρ x u (λ_=>False)
 aQ:∀ c,F c↔v.ownBlock=some c/\bv.ownBlock≠some c
inductive jH (w:World) (I:br) (ρ:aj->Value->Prop):aj->Value->br->Prop
 | tree {x:aj}{v:Value}{F:br}(h:R w I ρ x v F):jH w I ρ x v F
 | bR {z n m:Nat}{p:Place}{new:List aj}{v bv:Value}{e de:TypeId}{us news:List Value}{F:br}(h:Eb w I ρ z p n m new v F bv e de us news):jH w I ρ (.bR z p n m new) v F
theorem R.lf {w:World}{I:br}{ρ:aj->Value->Prop}{z n m:Nat}{p:Place}{new:List aj}{v:Value}{F:br}(h:R w I ρ (.bR z p n m new) v F):False:=by
 cases h with
 | ref J=>simp [aj.isRef] at J
theorem jH.hM {w:World}{I:br}{ρ:aj->Value->Prop}{x:aj}{v:Value}{F:br}(h:jH w I ρ x v F) (J:∀ z p n m new,x≠.bR z p n m new):R w I ρ x v F:=by
 cases h with
 | tree h=>exact h
 | bR=>exact absurd rfl (J _ _ _ _ _)
theorem jH.uk {w:World}{I:br}{ρ:aj->Value->Prop}{z n m:Nat}{p:Place}{new:List aj}{v:Value}{F:br}(h:jH w I ρ (.bR z p n m new) v F):∃ bv e de us news,Eb w I ρ z p n m new v F bv e de us news:=by
 cases h with
 | tree h=>exact h.lf.elim
 | bR h=>exact ⟨_,_,_,_,_,h⟩
theorem jH.lt {w:World}{I:br}{ρ:aj->Value->Prop}{x:aj}{v:Value}{F:br}(h:jH w I ρ x v F):∀ c,F c->c<w.heap.size:=by
 cases h with
 | tree h=>exact h.lt
 | bR h=>exact λc ab=>(h.mB.lt c ((h.aQ c).1 ab).1).2
theorem jH.frame {w w':World}{I I':br}{ρ ρ':aj->Value->Prop}{x:aj}{v:Value}{F:br}(h:jH w I ρ x v F)
  (bt:∀ c,I c->w'.heap[c]?=w.heap[c]?) (oF:∀ c,I c->I' c) (lz:∀ x v,ρ x v->ρ' x v)
  (du:∀ z p n bv,ρ (.bR z p n 0 []) bv->∀ c,bv.ownBlock=some c->w'.heap[c]?=w.heap[c]?)
  (bn:∀ c,F c->w'.heap[c]?=w.heap[c]?):jH w' I' ρ' x v F:=by
 cases h with
 | tree h=>exact .tree (h.frame bt oF lz bn)
 | @bR z n m p new v bv e de us news F h =>
  have aJ:=du _ _ _ _ h.jU
  refine .bR ⟨lz _ _ h.jU,ur h.k9 aJ,ur h.mB λc ab=>?_,h.ao,h.h1,λk x u J hu=>(h.ay k x u J hu).frame bt oF lz λc ab=>ab.elim,h.aQ⟩
  by_cases p5:bv.ownBlock=some c
  ·exact aJ c p5
  ·exact bn c ((h.aQ c).2 ⟨ab,p5⟩)
theorem aj.rG {z n m:Nat}{p:Place}{new:List aj}{q:List Nat}{y:aj}(h:(aj.bR z p n m new).at q=some y):q=[]/\y=.bR z p n m new:=by
 cases q with
 | nil=>simp [aj.at] at h; exact ⟨rfl,h.symm⟩
 | cons k q=>simp [aj.at,aj.kids] at h
structure c_ (w:World) (I:br) (T:Array Value) (g:aZ) (Fs:Nat->br):Prop where
 rel:∀ t x,g t=some x->∃ v,T[t]?=some v/\jH w I (er w T g) x v (Fs t)
 kO:∀ t,g t=none->∀ c,¬ Fs t c
 e8:∀ t ds c,Fs t c->Fs ds c->t=ds
 aF:∀ t c,Fs t c->¬ I c
 lt:∀ c,I c->c<w.heap.size
 qk:∀ t ds z p n m new cN cY m' dq,g t=some (.bR z p n m new)->g ds=some (.bR cN p cY m' dq)->t=ds
section
variable {w:World}{I:br}{T:Array Value}{g:aZ}{Fs:Nat->br}
theorem c_.part (h:c_ w I T g Fs) {p:Place}{y:aj}(aH:b7 g p=some y) (az:∀ z q n m new,y≠.bR z q n m new):∃ v cO,eo w T p=some v/\R w I (er w T g) y v cO/\(∀ c,cO c->Fs p.root c):=by
 unfold b7 at aH
 cases J:g p.root with
 | none=>rw [J] at aH; cases aH
 | some x =>
  rw [J] at aH
  obtain ⟨v,hv,bj⟩:=h.rel _ _ J
  replace bj:=bj.hM (by
   rintro z q n m new rfl
   exact az _ _ _ _ _ (aj.rG aH).2)
  obtain ⟨ie,cO,hw,d',dG,_⟩:=R.focus p.path bj aH
  exact ⟨ie,cO,by simp [eo,hv,hw],d',dG⟩
theorem R.pA {ρ:aj->Value->Prop}{z n:Nat}{cs:List aj}{v:Value}{F:br}(h:R w I ρ (.own z n cs) v F):∀ c,v.ownBlock=some c->F c:=by
 cases h with
 | own bh ao h1 ay aY aJ aQ=>exact λc ab=>(aQ c).2 (.inl ab)
 | ref J=>simp [aj.isRef] at J
theorem R.mJ {ρ:aj->Value->Prop}{z n:Nat}{cs:List aj}{v:Value}{F:br}(h:R w I ρ (.own z n cs) v F) :
  ∃ a cap,v=.slice a n cap/\n<=cap/\cs.length=n * z/\(∀ ad,a=some ad->ad.off=0/\ad.spot=none)/\(0<n->a.isSome=true):=by
 cases h with
 | own bh ao h1 ay aY aJ aQ =>
  obtain ⟨h1,al⟩:=bh
  rcases al with ⟨rfl,rfl⟩ | ⟨b,cap,cur,rfl,_,_,aL,_⟩
  ·exact ⟨none,0,rfl,Nat.le_refl _,by simp [ao,h1],by simp,by simp⟩
  ·exact ⟨_,cap,rfl,aL,by simp [ao,h1],by rintro ad ⟨⟩; exact ⟨rfl,rfl⟩,by simp⟩
 | ref J=>simp [aj.isRef] at J
theorem c_.wC (h:c_ w I T g Fs) {w':World}{T':Array Value}(fP:∀ t,g t≠none->T'[t]?=T[t]?) (aQ:∀ t c,Fs t c->w'.heap[c]?=w.heap[c]?) {p:Place}{y:aj}(aH:b7 g p=some y) :
  eo w' T' p=eo w T p:=by
 unfold b7 at aH
 cases J:g p.root with
 | none=>rw [J] at aH; cases aH
 | some x =>
  rw [J] at aH
  obtain ⟨v,hv,bj⟩:=h.rel _ _ J
  have iE:T'[p.root]?=some v:=by rw [fP _ (by rw [J]; simp),hv]
  cases bj with
  | tree bj =>
   have:=R.oW (w':=w') p.path bj aH λc ab=>aQ _ c ab
   simp [eo,hv,iE,this]
  | bR bj=>simp [eo,hv,iE,(aj.rG aH).1,walk]
theorem kE {g g':aZ}(a':∀ t x,g t=some x->g' t=some x) {p:Place}{y:aj}(aH:b7 g p=some y):b7 g' p=some y:=by
 unfold b7 at *
 cases J:g p.root with
 | none=>rw [J] at aH; cases aH
 | some x=>rw [J] at aH; rw [a' _ _ J]; exact aH
theorem gK.mono {g g':aZ}(a':∀ t x,g t=some x->g' t=some x) {r:aj}(h:gK g r):gK g' r:=by
 cases r <;> simp only [gK] at h ⊢
 case ptr p k=>obtain ⟨y,az,h⟩:=h; exact ⟨y,kE a' az,h⟩
 case bl z p n =>
  rcases h with ⟨N,cs,h1,al⟩ | ⟨bd,q,hd,m,new,h1,al⟩
  ·exact .inl ⟨N,cs,kE a' h1,al⟩
  ·exact .inr ⟨bd,q,hd,m,new,a' _ _ h1,al⟩
 case sub z p lo n=>obtain ⟨N,cs,h1,al⟩:=h; exact ⟨N,cs,kE a' h1,al⟩
 case bR z p n m new =>
  rcases h with ⟨cs,h1⟩ | ⟨bd,q,hd,m',dq,cs,h1,al,aP⟩
  ·exact .inl ⟨cs,kE a' h1⟩
  ·exact .inr ⟨bd,q,hd,m',dq,cs,a' _ _ h1,al,kE a' aP⟩
 case hN p=>obtain ⟨q,h⟩:=h; exact ⟨q,kE a' h⟩
theorem c_.DI (h:c_ w I T g Fs) {w':World}{T':Array Value}{g':aZ}(fP:∀ t,g t≠none->T'[t]?=T[t]?) (aQ:∀ t c,Fs t c->w'.heap[c]?=w.heap[c]?)
  (a':∀ t x,g t=some x->g' t=some x) {r:aj}{v:Value}(ay:er w T g r v):er w' T' g' r v:=by
 obtain ⟨h1,al⟩:=ay
 refine ⟨?_,al.mono a'⟩
 have slot:∀ {p:Place}{x:aj},p.path=[]->g p.root=some x->eo w' T' p=eo w T p:=by
  intro p x aH J
  obtain ⟨v,hv,_⟩:=h.rel _ _ J
  simp [eo,aH,walk,fP p.root (by rw [J]; simp)]
 cases r <;> simp only [fV,gK] at h1 al ⊢
 case ptr p k =>
  obtain ⟨y,az,_⟩:=al
  rw [h.wC fP aQ az]; exact h1
 case bl z p n =>
  rcases al with ⟨N,cs,al,_⟩ | ⟨bd,q,hd,m,new,al,_⟩
  ·rw [h.wC fP aQ al]; exact h1
  ·rw [slot bd al]; exact h1
 case sub z p lo n =>
  obtain ⟨N,cs,al,_⟩:=al
  rw [h.wC fP aQ al]; exact h1
 case bR z p n m new =>
  rcases al with ⟨cs,al⟩ | ⟨bd,q,hd,m',dq,cs,al,_⟩
  ·rw [h.wC fP aQ al]; exact h1
  ·rw [slot bd al]; exact h1
 case hN p =>
  obtain ⟨q,al⟩:=al
  rw [h.wC fP aQ al]; exact h1
theorem c_.Cd (h:c_ w I T g Fs) {z n:Nat}{p:Place}{bv:Value}(ay:er w T g (.bR z p n 0 []) bv):∀ c,bv.ownBlock=some c->∃ t,Fs t c:=by
 obtain ⟨⟨a,cap,h1,rfl⟩,al⟩:=ay
 intro c ab
 have own:∀ {q:Place}{hd:Nat}{cs:List aj}{v:Value},b7 g q=some (.own z hd cs)->eo w T q=some v->v.ownBlock=some c->∃ t,Fs t c:=by
  intro q hd cs v bN hv ab
  obtain ⟨hQ,cO,iE,bj,dG⟩:=h.part bN (by simp)
  rw [hv] at iE
  cases iE
  exact ⟨_,dG c (bj.pA c ab)⟩
 rcases al with ⟨cs,al⟩ | ⟨bd,q,hd,m,new,cs,al,rfl,aP⟩
 ·exact own al h1 ab
 ·obtain ⟨v,hv,bj⟩:=h.rel _ _ al
  have q5:v=.slice a (hd+m) cap:=by
   simp only [eo,hv,bd,walk,Option.some.injEq] at h1
   exact h1
  obtain ⟨I5,e,de,us,news,bj⟩:=bj.uk
  by_cases cP:I5.ownBlock=some c
  ·obtain ⟨⟨a2,qK,b3,rfl⟩,_⟩:=bj.jU
   exact own aP b3 cP
  ·exact ⟨_,(bj.aQ c).2 ⟨by rw [q5]; exact ab,cP⟩⟩
theorem c_.frame (h:c_ w I T g Fs) {w':World}{I':br}{T':Array Value}{g':aZ}(fP:∀ t,g t≠none->T'[t]?=T[t]?) (aQ:∀ t c,Fs t c->w'.heap[c]?=w.heap[c]?)
  (bt:∀ c,I c->w'.heap[c]?=w.heap[c]?) (oF:∀ c,I c->I' c) (a':∀ t x,g t=some x->g' t=some x) {x:aj}{v:Value}{F:br}(bj:R w I (er w T g) x v F)
  (k6:∀ c,F c->w'.heap[c]?=w.heap[c]?):R w' I' (er w' T' g') x v F :=
 bj.frame bt oF (λ_ _ ay=>h.DI fP aQ a' ay) k6
theorem c_.vc (h:c_ w I T g Fs) {w':World}{I':br}{T':Array Value}{g':aZ}(fP:∀ t,g t≠none->T'[t]?=T[t]?) (aQ:∀ t c,Fs t c->w'.heap[c]?=w.heap[c]?)
  (bt:∀ c,I c->w'.heap[c]?=w.heap[c]?) (oF:∀ c,I c->I' c) (a':∀ t x,g t=some x->g' t=some x) {x:aj}{v:Value}{F:br}(bj:jH w I (er w T g) x v F)
  (k6:∀ c,F c->w'.heap[c]?=w.heap[c]?):jH w' I' (er w' T' g') x v F :=
 bj.frame bt oF (λ_ _ ay=>h.DI fP aQ a' ay) (λ_ _ _ _ ay c ab=>by obtain ⟨t,aE⟩:=h.Cd ay c ab; exact aQ t c aE) k6
def e' (g:aZ) (d:Nat) (x:aj):aZ:=λt=>if t=d then some x else g t
def td (Fs:Nat->br) (d:Nat) (F:br):Nat->br:=λt=>if t=d then F else Fs t
theorem MX {d:Nat}{x:aj}(aY:g d=none):∀ t y,g t=some y->e' g d x t=some y:=by
 intro t y az
 unfold e'
 split
 ·rename_i h; subst h; rw [aY] at az; cases az
 ·exact az
end
end Go.Own
namespace Go.Own
open Go
theorem M3 (w:World):∀ (p:List Nat) (v:Value) (k:Nat),walk w v (p++[k])=(walk w v p).bind λu=>child w u k
 | [],v,k=>by simp [walk]; cases child w v k <;> rfl
 | af::p,v,k=>by
  simp only [List.cons_append,walk]
  cases child w v af with
  | none=>rfl
  | some u=>exact M3 w p u k
theorem I1:∀ (p:List Nat) (x:aj) (k:Nat),x.at (p++[k])=(x.at p).bind λy=>y.kids[k]?
 | [],x,k=>by simp [aj.at]; cases x.kids[k]? <;> rfl
 | af::p,x,k=>by
  simp only [List.cons_append,aj.at]
  cases x.kids[af]? with
  | none=>rfl
  | some u=>exact I1 p u k
theorem sm (g:aZ) (p:Place) (k:Nat):b7 g (p.push k)=(b7 g p).bind λy=>y.kids[k]?:=by
 unfold b7 Place.push
 cases g p.root with
 | none=>rfl
 | some x=>simp [I1]
theorem wB (w:World) (T:Array Value) (p:Place) (k:Nat):eo w T (p.push k)=(eo w T p).bind λu=>child w u k:=by
 unfold eo Place.push
 cases T[p.root]? with
 | none=>rfl
 | some x=>simp [M3]
def ib:Nat->Place->aj->aj
 | _,p,.own z n _=>.bl z p n
 | _,p,.obj (_::_)=>.ptr p 0
 | _,_,.obj []=>.dead
 | _,_,.bR ..=>.dead
 | _,p,.mp _=>.hN p
 | d+1,p,.agg cs=>.agg (cs.mapIdx λi x=>ib d (p.push i) x)
 | d+1,p,.cG cs=>.cG (cs.mapIdx λi x=>ib d (p.push i) x)
 | 0,_,.agg _=>.dead
 | 0,_,.cG _=>.dead
 | _,_,x=>x
def ri (t:Nat):aj->aj
 | .bR z _ n m _=>.bl z ⟨t,[]⟩ (n+m)
 | x=>ib 2 ⟨t,[]⟩ x
def n':Value->aj
 | .slice none 0 0=>.aI
 | .agg _=>.dead
 | .tuple _=>.dead
 | v=>.lit v
def ofConst:Value->aj
 | .agg vs=>if vs.all Value.oneCell' then .agg (vs.toList.map n') else .dead
 | .tuple _=>.dead
 | v=>n' v
def bO (g:aZ):Operand->Option aj
 | .tmp t=>(g t).map (ri t)
 | .const v=>some (ofConst v)
 | .func f=>some (.ey (.func f) [] [])
 | .global _=>none
abbrev cW:br:=λ_=>False
section
variable {w:World}{I:br}{T:Array Value}{g:aZ}{Fs:Nat->br}
theorem R.empty {ρ:aj->Value->Prop}{x:aj}{v:Value}{F:br}(h:R w I ρ x v F) (aQ:∀ c,¬ F c):R w I ρ x v cW:=h.xi λc=>⟨λab=>aQ c ab,λab=>ab.elim⟩
theorem DH:∀ (d:Nat) {p:Place}{x:aj}{v:Value}{F:br},b7 g p=some x->eo w T p=some v->R w I (er w T g) x v F->R w I (er w T g) (ib d p x) v cW:=by
 intro d
 induction d with
 | zero =>
  intro p x v F aH hv bj
  cases bj with
  | lit ao aQ=>exact .lit ao λ_ h=>h
  | aI aQ=>exact .aI λ_ h=>h
  | dead aQ=>exact .dead λ_ h=>h
  | ref J ay aQ=>cases x <;> simp [aj.isRef] at J <;> exact .ref rfl ay λ_ h=>h
  | mp=>exact .ref rfl ⟨⟨_,hv,rfl⟩,⟨_,aH⟩⟩ λ_ h=>h
  | imp aQ bt bh bN=>exact .imp (λ_ h=>h) bt bh bN
  | hY aQ=>exact .hY λ_ h=>h
  | aF aQ k7 bt aM ao h1 ab ay=>exact .aF (λ_ h=>h) k7 bt aM ao h1 ab ay
  | bo aQ bt aM h1 ab ay=>exact .bo (λ_ h=>h) bt aM h1 ab ay
  | own bh ao h1 ay aY aJ aQ =>
   have Gb:=R.own (I:=I) (ρ:=er w T g) bh ao h1 ay aY aJ aQ
   obtain ⟨a,cap,rfl,aL,_⟩:=Gb.mJ
   exact .ref rfl ⟨⟨a,_,cap,hv,rfl,Nat.le_refl _⟩,.inl ⟨_,_,aH,Nat.le_refl _⟩⟩ λ_ h=>h
  | @obj cs b e arr cp _ bh ao h1 ay aY aJ aQ =>
   cases cs with
   | nil=>exact .dead λ_ h=>h
   | cons c cs=>exact .ref rfl ⟨⟨_,_,hv,rfl,rfl⟩,⟨_,aH,0,0,_,.inr rfl,by simp⟩⟩ λ_ h=>h
  | agg=>exact .dead λ_ h=>h
  | cG=>exact .dead λ_ h=>h
  | ey aQ h1 al jV iN=>exact .ey (λ_ h=>h) h1 al jV iN
 | succ d aR =>
  intro p x v F aH hv bj
  cases bj with
  | lit ao aQ=>exact .lit ao λ_ h=>h
  | aI aQ=>exact .aI λ_ h=>h
  | dead aQ=>exact .dead λ_ h=>h
  | ref J ay aQ=>cases x <;> simp [aj.isRef] at J <;> exact .ref rfl ay λ_ h=>h
  | mp=>exact .ref rfl ⟨⟨_,hv,rfl⟩,⟨_,aH⟩⟩ λ_ h=>h
  | imp aQ bt bh bN=>exact .imp (λ_ h=>h) bt bh bN
  | hY aQ=>exact .hY λ_ h=>h
  | aF aQ k7 bt aM ao h1 ab ay=>exact .aF (λ_ h=>h) k7 bt aM ao h1 ab ay
  | bo aQ bt aM h1 ab ay=>exact .bo (λ_ h=>h) bt aM h1 ab ay
  | own bh ao h1 ay aY aJ aQ =>
   have Gb:=R.own (I:=I) (ρ:=er w T g) bh ao h1 ay aY aJ aQ
   obtain ⟨a,cap,rfl,aL,_⟩:=Gb.mJ
   exact .ref rfl ⟨⟨a,_,cap,hv,rfl,Nat.le_refl _⟩,.inl ⟨_,_,aH,Nat.le_refl _⟩⟩ λ_ h=>h
  | @obj cs b e arr cp _ bh ao h1 ay aY aJ aQ =>
   cases cs with
   | nil=>exact .dead λ_ h=>h
   | cons c cs=>exact .ref rfl ⟨⟨_,_,hv,rfl,rfl⟩,⟨_,aH,0,0,_,.inr rfl,by simp⟩⟩ λ_ h=>h
  | @agg cs vs cp _ ao h1 ay aY aQ =>
   refine .agg (Fs:=λ_=>cW) (by simpa using ao) h1 ?_ (λ_ _ _ _ _ h=>h.elim) (λc=>⟨λh=>h.elim,λ⟨_,_,h⟩=>h⟩)
   intro k y u az hu
   rw [List.getElem?_mapIdx] at az
   cases hk:cs[k]? with
   | none=>rw [hk] at az; cases az
   | some z =>
    rw [hk] at az
    cases az
    exact aR (by rw [sm,aH]; exact hk) (by rw [wB,hv]; exact hu) (ay k z u hk hu)
  | @cG cs vs cp _ ao ay aY aQ =>
   refine .cG (Fs:=λ_=>cW) (by simpa using ao) ?_ (λ_ _ _ _ _ h=>h.elim) (λc=>⟨λh=>h.elim,λ⟨_,_,h⟩=>h⟩)
   intro k y u az hu
   rw [List.getElem?_mapIdx] at az
   cases hk:cs[k]? with
   | none=>rw [hk] at az; cases az
   | some z =>
    rw [hk] at az
    cases az
    exact aR (by rw [sm,aH]; exact hk) (by rw [wB,hv]; exact hu) (ay k z u hk hu)
  | ey aQ h1 al jV iN=>exact .ey (λ_ h=>h) h1 al jV iN
theorem AI {ρ:aj->Value->Prop}(v:Value):R w I ρ (n' v) v cW:=by
 unfold n'
 split
 ·exact .aI λ_ h=>h
 ·exact .dead λ_ h=>h
 ·exact .dead λ_ h=>h
 ·rename_i h1 al aP
  refine .lit ?_ λ_ h=>h
  cases v <;> first | rfl | (exact absurd rfl (al _)) | (exact absurd rfl (aP _))
theorem TJ {ρ:aj->Value->Prop}(v:Value):R w I ρ (ofConst v) v cW:=by
 unfold ofConst
 split
 ·rename_i vs
  split
  ·rename_i hl
   refine .agg (Fs:=λ_=>cW) (by simp) (λk u hu=>?_) ?_ (λ_ _ _ _ _ h=>h.elim) (λc=>⟨λh=>h.elim,λ⟨_,_,h⟩=>h⟩)
   ·exact Array.all_eq_true_iff_forall_mem.1 hl u (Array.mem_of_getElem? hu)
   ·intro k x u J hu
    simp only [List.getElem?_map,Array.getElem?_toList,hu,Option.map_some,Option.some.injEq] at J
    subst J
    exact AI u
  ·exact .dead λ_ h=>h
 ·exact .dead λ_ h=>h
 ·exact AI v
theorem ke (h:c_ w I T g Fs) {x:Operand}{y:aj}(az:bO g x=some y) {a:Act}(bm:a.tmps=T):R w I (er w T g) y (a.eval x) cW:=by
 cases x with
 | tmp t =>
  simp only [bO] at az
  cases J:g t with
  | none=>rw [J] at az; cases az
  | some z =>
   rw [J] at az
   simp only [Option.map_some,Option.some.injEq] at az
   obtain ⟨v,hv,bj⟩:=h.rel t z J
   have p6:a.eval (.tmp t)=v:=by simp [Act.eval,bm,hv]
   rw [p6]
   have aH:b7 g ⟨t,[]⟩=some z:=by simp [b7,J,aj.at]
   have Lm:eo w T ⟨t,[]⟩=some v:=by simp [eo,hv,walk]
   subst az
   cases bj with
   | tree bj =>
    cases z with
    | bR=>exact bj.lf.elim
    | _=>exact DH 2 aH Lm bj
   | @bR ha n m p new v bv e de us news _ bj =>
    simp only [ri]
    have:∃ a cap,v=.slice a (n+m) cap:=by
     obtain ⟨_,al⟩:=bj.mB
     rcases al with ⟨al,aP⟩ | ⟨b,cap,cur,al,_⟩
     ·exact ⟨none,0,by rw [al]; congr 1; omega⟩
     ·exact ⟨_,cap,al⟩
    obtain ⟨cI,cap,rfl⟩:=this
    exact .ref rfl ⟨⟨cI,_,cap,Lm,rfl,Nat.le_refl _⟩,.inr ⟨rfl,p,n,m,new,J,rfl⟩⟩ λ_ h=>h
 | const v=>simp only [bO,Option.some.injEq] at az; subst az; exact TJ v
 | global n=>simp [bO] at az
 | func f =>
  simp only [bO,Option.some.injEq] at az
  subst az
  exact .ey (λ_ h=>h) rfl rfl (by simp) (by simp)
end
end Go.Own
namespace Go.Own
open Go
def hB (P:Program) (t:TypeId):Bool :=
 match P.underlying t,P.info? t with
 | some (.struct _),_=>false
 | some (.array ..),_=>false
 | some _,some i=>i.size == 1
 | _,_=>false
def iY (P:Program) (t:TypeId) (k:Nat):Bool :=
 match P.underlying t,P.info? t with
 | some (.struct _),some i=>i.size == k
 | some (.array ..),some i=>i.size == k
 | _,_=>false
def fB (P:Program) (t e:TypeId) (z:Nat):Bool :=
 match P.underlying t,P.info? e with
 | some (.slice cX),some i=>cX == e&&i.size == z
 | _,_=>false
def B9 (P:Program) (t e:TypeId) (n z:Nat):Bool :=
 match P.underlying t,P.info? e with
 | some (.array cY cX),some i=>cY == n&&cX == e&&i.size == z
 | _,_=>false
def oU (P:Program) (t:TypeId):Bool :=
 match P.underlying t with
 | some .string=>true
 | _=>false
def uY (P:Program) (s d:TypeId):Bool :=
 match P.underlying s,P.underlying d with
 | some (.slice e),some .string=>match P.underlying e with
  | some (.int .u8)=>true
  | _=>false
 | _,_=>false
def dP (P:Program) (s:TypeId) (f off:Nat) (t:TypeId):Bool :=
 match P.underlying s with
 | some (.struct fs) =>
  match fs[f]? with
  | some fd=>fd.offset == off&&fd.type == t&&(match P.info? t with | some i=>i.size != 0 | none=>false)
  | none=>false
 | _=>false
section
variable {P:Program}{w:World}
theorem ED {t:TypeId}(h:hB P t=true):(isAgg t).run P w=.ok false w/\(sizeOf t).run P w=.ok 1 w:=by
 unfold hB at h
 cases hu:P.underlying t with
 | none=>simp [hu] at h
 | some d =>
  cases hi:P.info? t with
  | none=>cases d <;> simp [hu,hi] at h
  | some i=>cases d <;> simp [hu,hi] at h <;> simp [isAgg,run_underlying hu,sizeOf,typeInfo,hi,h]
theorem B4 {t:TypeId}{k:Nat}(h:iY P t k=true):(isAgg t).run P w=.ok true w/\(sizeOf t).run P w=.ok k w:=by
 unfold iY at h
 cases hu:P.underlying t with
 | none=>simp [hu] at h
 | some d =>
  cases hi:P.info? t with
  | none=>cases d <;> simp [hu,hi] at h
  | some i=>cases d <;> simp [hu,hi] at h <;> simp [isAgg,run_underlying hu,sizeOf,typeInfo,hi,h]
theorem pH {t e:TypeId}{z:Nat}(h:fB P t e z=true):P.underlying t=some (.slice e)/\P.elem t=e/\(sizeOf e).run P w=.ok z w:=by
 unfold fB at h
 cases hu:P.underlying t with
 | none=>simp [hu] at h
 | some d =>
  cases hi:P.info? e with
  | none=>cases d <;> simp [hu,hi] at h
  | some i =>
   cases d <;> simp [hu,hi] at h
   obtain ⟨rfl,h⟩:=h
   exact ⟨rfl,by simp [Program.elem,hu],by simp [sizeOf,typeInfo,hi,h]⟩
theorem IV {t e:TypeId}{n z:Nat}(h:B9 P t e n z=true):P.underlying t=some (.array n e)/\(sizeOf e).run P w=.ok z w:=by
 unfold B9 at h
 cases hu:P.underlying t with
 | none=>simp [hu] at h
 | some d =>
  cases hi:P.info? e with
  | none=>cases d <;> simp [hu,hi] at h
  | some i =>
   cases d <;> simp [hu,hi] at h
   obtain ⟨⟨rfl,rfl⟩,h⟩:=h
   exact ⟨rfl,by simp [sizeOf,typeInfo,hi,h]⟩
theorem I8 {s d:TypeId}(h:uY P s d=true):∃ e,P.underlying s=some (.slice e)/\P.underlying e=some (.int .u8)/\P.underlying d=some .string:=by
 unfold uY at h
 split at h
 ·rename_i e h1 al
  split at h
  ·rename_i aP
   exact ⟨e,h1,aP,al⟩
  ·cases h
 ·cases h
theorem HV {t:TypeId}(h:oU P t=true):P.underlying t=some .string:=by
 unfold oU at h
 cases hu:P.underlying t with
 | none=>simp [hu] at h
 | some d=>cases d <;> simp [hu] at h; rfl
theorem E5 {s:TypeId}{f off:Nat}{t:TypeId}(h:dP P s f off t=true):∃ fs fd,P.underlying s=some (.struct fs)/\fs[f]?=some fd/\fd.offset=off/\fd.type=t/\∃ i,P.info? t=some i/\i.size≠0:=by
 unfold dP at h
 cases hu:P.underlying s with
 | none=>simp [hu] at h
 | some d =>
  cases d <;> simp [hu] at h
  rename_i fs
  cases bn:fs[f]? with
  | none=>simp [bn] at h
  | some fd =>
   simp [bn] at h
   obtain ⟨⟨h1,al⟩,aP⟩:=h
   cases hi:P.info? t with
   | none=>simp [hi] at aP
   | some i=>simp [hi] at aP; exact ⟨fs,fd,rfl,bn,h1,al,i,rfl,aP⟩
theorem add_eq (b o k:Nat):(⟨b,o,none⟩:Addr).add k=⟨b,o+k,none⟩:=by
 unfold Addr.add
 split
 ·rename_i h; subst h; rfl
 ·rfl
theorem Mn {s:TypeId}{f off:Nat}{t:TypeId}(h:dP P s f off t=true) (b o:Nat):(Instr.fieldAt s (.pointer (some ⟨b,o,none⟩)) f).run P w=.ok (.pointer (some ⟨b,o+off,none⟩)) w:=by
 obtain ⟨fs,fd,hu,bn,rfl,rfl,i,hi,bd⟩:=E5 h
 simp [Instr.fieldAt,run_underlying hu,bn,Instr.sureAddr,fieldPlace,sizeOf,typeInfo,hi,bd,add_eq]
theorem Mp {t:TypeId}(h:hB P t=true) {a:Addr}{v:Value}(ab:w.cell? a=some v):(Instr.loadAt t (.pointer (some a))).run P w=.ok v w:=by
 obtain ⟨h1,al⟩:=ED (w:=w) h
 simp [Instr.loadAt,Instr.sureAddr,loadVar,h1,ab]
theorem Mo {t:TypeId}{k:Nat}(h:iY P t k=true) {b o:Nat}{vs:List Value}(ao:vs.length=k) (ab:∀ af v,vs[af]?=some v->w.cell? ⟨b,o+af,none⟩=some v) :
  (Instr.loadAt t (.pointer (some ⟨b,o,none⟩))).run P w=.ok (.agg vs.toArray) w:=by
 obtain ⟨h1,al⟩:=B4 (w:=w) h
 have:=run_loadCells_list (P:=P) w ⟨b,o,none⟩ vs (λaf v aa=>by rw [add_eq]; exact ab af v aa)
 rw [ao] at this
 simp [Instr.loadAt,Instr.sureAddr,loadVar,h1,al,this]
end
end Go.Own
namespace Go.Own
open Go
section
variable {w:World}{I:br}{ρ:aj->Value->Prop}{v:Value}{F:br}
theorem R.im {a:Value}(h:R w I ρ (.lit a) v F):v=a/\a.oneCell'=true:=by
 cases h with
 | lit hv=>exact ⟨rfl,hv⟩
 | ref J=>simp [aj.isRef] at J
theorem R.q8 (h:R w I ρ .aI v F):v=.slice none 0 0:=by
 cases h with
 | aI=>rfl
 | ref J=>simp [aj.isRef] at J
theorem R.ni {p:Place}{k:Nat}(h:R w I ρ (.ptr p k) v F):ρ (.ptr p k) v:=by
 cases h with
 | ref J h=>exact h
theorem R.mG {z:Nat}{p:Place}{n:Nat}(h:R w I ρ (.bl z p n) v F):ρ (.bl z p n) v:=by
 cases h with
 | ref J h=>exact h
theorem R.vD {z:Nat}{p:Place}{lo n:Nat}(h:R w I ρ (.sub z p lo n) v F):ρ (.sub z p lo n) v:=by
 cases h with
 | ref J h=>exact h
theorem R.xQ {z n:Nat}{cs:List aj}(h:R w I ρ (.aF z n cs) v F):∃ a cap,v=.slice a n cap/\n<=cap/\cs.length=n * z /\
  (cs≠[]\/0<n->∃ (ad:Addr) (us:Nat->Value),a=some ad/\I ad.block/\ad.spot=none/\(∀ (k:Nat) (x:aj),cs[k]?=some x->(us k).oneCell'=true)/\(∀ (k:Nat) (x:aj),cs[k]?=some x->w.cell? ⟨ad.block,ad.off+k,none⟩=some (us k))/\∀ (k:Nat) (x:aj),cs[k]?=some x->R w I ρ x (us k) cW):=by
 cases h with
 | @hY _ cap a=>exact ⟨a,cap,rfl,Nat.zero_le _,by simp,λh=>by simp at h⟩
 | @aF _ _ cap _ ad us _ aQ k7 bt aM ao h1 ab ay=>exact ⟨_,cap,rfl,k7,ao,λ_=>⟨ad,us,rfl,bt,aM,h1,ab,ay⟩⟩
 | ref J=>simp [aj.isRef] at J
theorem R.vC {cs:List aj}(h:R w I ρ (.bo cs) v F):∃ (ad:Addr) (us:Nat->Value),v=.pointer (some ad)/\I ad.block/\ad.spot=none/\(∀ (k:Nat) (x:aj),cs[k]?=some x->(us k).oneCell'=true)/\(∀ (k:Nat) (x:aj),cs[k]?=some x->w.cell? ⟨ad.block,ad.off+k,none⟩=some (us k))/\∀ (k:Nat) (x:aj),cs[k]?=some x->R w I ρ x (us k) cW:=by
 cases h with
 | @bo _ ad us _ aQ bt aM h1 ab ay=>exact ⟨ad,us,rfl,bt,aM,h1,ab,ay⟩
 | ref J=>simp [aj.isRef] at J
theorem R.Ap {cs:List aj}(h:R w I ρ (.agg cs) v F) (aQ:∀ c,¬ F c):∃ vs:Array Value,v=.agg vs/\cs.length=vs.size/\(∀ (k:Nat) (u:Value),vs[k]?=some u->u.oneCell'=true)/\∀ (k:Nat) (x:aj) (u:Value),cs[k]?=some x->vs[k]?=some u->R w I ρ x u cW:=by
 cases h with
 | @agg _ vs Fs _ ao h1 ay aY nC=>exact ⟨vs,rfl,ao,h1,λk x u J hu=>(ay k x u J hu).empty λc ab=>aQ c ((nC c).2 ⟨k,(List.getElem?_eq_some_iff.1 J).1,ab⟩)⟩
 | ref J=>simp [aj.isRef] at J
theorem R.Tp {cs:List aj}(h:R w I ρ (.cG cs) v F) (aQ:∀ c,¬ F c):∃ vs:Array Value,v=.tuple vs/\cs.length=vs.size/\∀ (k:Nat) (x:aj) (u:Value),cs[k]?=some x->vs[k]?=some u->R w I ρ x u cW:=by
 cases h with
 | @cG _ vs Fs _ ao ay aY nC=>exact ⟨vs,rfl,ao,λk x u J hu=>(ay k x u J hu).empty λc ab=>aQ c ((nC c).2 ⟨k,(List.getElem?_eq_some_iff.1 J).1,ab⟩)⟩
 | ref J=>simp [aj.isRef] at J
theorem R.node {y:aj}{z n:Nat}{cs:List aj}(h:R w I ρ y v F) (az:y=.own z n cs\/y=.obj cs) {k:Nat}{x:aj}(hk:cs[k]?=some x) :
  ∃ b u,addrOf v=some ⟨b,0,none⟩/\w.cell? ⟨b,k,none⟩=some u/\child w v k=some u/\u.oneCell'=true/\∃ bK,R w I ρ x u bK:=by
 rcases az with rfl | rfl
 ·cases h with
  | @own _ _ _ _ e us Fs _ bh ao h1 ay aY aJ aQ =>
   have bg:k<cs.length:=(List.getElem?_eq_some_iff.1 hk).1
   have hu:us[k]?=some us[k]:=List.getElem?_eq_getElem (ao ▸ bg)
   have l3:=oa bh hu
   obtain ⟨mD,al⟩:=bh
   rcases al with ⟨rfl,rfl⟩ | ⟨b,cap,cur,rfl,a',b6,rest⟩
   ·simp at mD; rw [mD] at ao; simp at ao; subst ao; simp at bg
   ·exact ⟨b,_,rfl,by simpa [child] using l3,l3,h1 k _ hu,Fs k,ay k x _ hk hu⟩
  | ref J=>simp [aj.isRef] at J
 ·cases h with
  | @obj _ b e arr Fs _ bh ao h1 ay aY aJ aQ =>
   have bg:k<cs.length:=(List.getElem?_eq_some_iff.1 hk).1
   have hu:arr[k]?=some arr[k]:=Array.getElem?_eq_getElem (ao ▸ bg)
   exact ⟨b,_,rfl,by simp [World.cell?,bh,hu],by simp [child,World.cell?,bh,hu],h1 k _ hu,Fs k,ay k x _ hk hu⟩
  | ref J=>simp [aj.isRef] at J
end
def o0 (g:aZ) (d:Nat):Option Operand->Nat->Prop
 | none,af=>af=d
 | some o,af=>∃ k,bO g o=some (.lit (.int k (af:Int)))
inductive dA (P:Program) (g:aZ):Op->TypeId->aj->Prop
 | move {x:Operand}{ty:TypeId}{y:aj}(J:bO g x=some y):dA P g (.move x) ty y
 | assign {x:Operand}{ty:TypeId}{y:aj}(J:bO g x=some y):dA P g (.assign x) ty y
 | pick {c a b:Operand}{ty:TypeId}{t:Bool}{r:aj}(ab:bO g c=some (.lit (.bool t))) (ay:bO g (if t then a else b)=some r):dA P g (.pick c a b) ty r
 | Ds {x:Operand}{ty:TypeId}{p:Place}{k:Nat}(J:bO g x=some (.ptr p k)):dA P g (.nilCheck x) ty (.ptr p k)
 | py {x:Operand}{ty:TypeId}{cs:List aj}(J:bO g x=some (.bo cs)):dA P g (.nilCheck x) ty (.bo cs)
 | zx {x:Operand}{ty s t:TypeId}{f off:Nat}{p:Place}{k:Nat}(J:bO g x=some (.ptr p k)) (bn:dP P s f off t=true) (fo:gK g (.ptr p (k+off))):dA P g (.fieldAddr s x f) ty (.ptr p (k+off))
 | CG {x:Operand}{ty s t:TypeId}{f off:Nat}{cs:List aj}(J:bO g x=some (.bo cs)) (bn:dP P s f off t=true):dA P g (.fieldAddr s x f) ty (.bo (cs.drop off))
 | CF {x:Operand}{ty s t:TypeId}{f off:Nat}{cs:List aj}{y:aj}(J:bO g x=some (.agg cs)) (bn:dP P s f off t=true) (aE:hB P t=true) (az:cs[off]?=some y):dA P g (.field s x f) ty y
 | E4 {x:Operand}{ty s t:TypeId}{f off k:Nat}{cs:List aj}(J:bO g x=some (.agg cs)) (bn:dP P s f off t=true) (aE:iY P t k=true) (hk:off+k<=cs.length):dA P g (.field s x f) ty (.agg ((cs.drop off).take k))
 | Db {x i:Operand}{ty t e:TypeId}{z n:Nat}{cs:List aj}{nm:IntKind}{af:Nat}(J:bO g x=some (.aF z n cs)) (hi:bO g i=some (.lit (.int nm (af:Int)))) (aE:fB P t e z=true) (aa:af<n):dA P g (.indexAddr t x i) ty (.bo (cs.drop (af * z)))
 | Da {x i:Operand}{ty t e:TypeId}{z n:Nat}{p:Place}{nm:IntKind}{af:Nat}(J:bO g x=some (.bl z p n)) (hi:bO g i=some (.lit (.int nm (af:Int)))) (aE:fB P t e z=true) (aa:af<n) (fo:gK g (.ptr p (af * z))):dA P g (.indexAddr t x i) ty (.ptr p (af * z))
 | GL {x i:Operand}{ty t e:TypeId}{z lo n:Nat}{p:Place}{nm:IntKind}{af:Nat}(J:bO g x=some (.sub z p lo n)) (hi:bO g i=some (.lit (.int nm (af:Int)))) (aE:fB P t e z=true) (aa:af<n) (fo:gK g (.ptr p ((lo+af) * z))):dA P g (.indexAddr t x i) ty (.ptr p ((lo+af) * z))
 | GK {x i:Operand}{ty t e:TypeId}{n z k:Nat}{p:Place}{nm:IntKind}{af:Nat}(J:bO g x=some (.ptr p k)) (hi:bO g i=some (.lit (.int nm (af:Int)))) (aE:B9 P t e n z=true) (aa:af<n) (fo:gK g (.ptr p (k+af * z))):dA P g (.indexAddr t x i) ty (.ptr p (k+af * z))
 | GJ {x i:Operand}{ty t e:TypeId}{n z:Nat}{cs:List aj}{nm:IntKind}{af:Nat}(J:bO g x=some (.bo cs)) (hi:bO g i=some (.lit (.int nm (af:Int)))) (aE:B9 P t e n z=true) (aa:af<n):dA P g (.indexAddr t x i) ty (.bo (cs.drop (af * z)))
 | Dm {x:Operand}{ty t:TypeId}{c:aj}{cs:List aj}(J:bO g x=some (.bo (c::cs))) (aE:hB P t=true):dA P g (.load t x) ty c
 | Dn {x:Operand}{ty t:TypeId}{k:Nat}{cs:List aj}(J:bO g x=some (.bo cs)) (aE:iY P t k=true) (hk:k<=cs.length):dA P g (.load t x) ty (.agg (cs.take k))
 | Az {x:Operand}{ty t:TypeId}{p:Place}{k:Nat}{y:aj}(J:bO g x=some (.ptr p k)) (aE:hB P t=true) (az:b7 g (p.push k)=some y):dA P g (.load t x) ty (ib 0 (p.push k) y)
 | vP {x:Operand}{ty t:TypeId}{p:Place}{k m z n:Nat}{y:aj}{cs:List aj}(J:bO g x=some (.ptr p k)) (aE:iY P t m=true) (az:b7 g p=some y) (ab:y=.own z n cs\/y=.obj cs) (hm:k+m<=cs.length):dA P g (.load t x) ty (.agg (((cs.drop k).take m).mapIdx λi x=>ib 0 (p.push (k+i)) x))
 | Dc {x i:Operand}{ty t:TypeId}{s:ByteArray}{nm:IntKind}{af:Nat}{b:UInt8}(J:bO g x=some (.lit (.string s))) (hi:bO g i=some (.lit (.int nm (af:Int)))) (aE:oU P t=true) (aJ:s[af]?=some b):dA P g (.index t x i) ty (.lit (.int .u8 b.toNat))
 | bin {op:BinOp}{x y:Operand}{ty t t2:TypeId}{a b v:Value}(J:bO g x=some (.lit a)) (az:bO g y=some (.lit b)) (hv:v.oneCell'=true) (ay:∀ w,(do eqGuard op t x y a b; binOp op t a b:Sem Value).run P w=.ok v w):dA P g (.binOp op t x y t2) ty (.lit v)
 | yZ {op:BinOp}{x y:Operand}{ty t t2:TypeId}{ec dg:List Value}{v:Value}(J:bO g x=some (.agg (ec.map .lit))) (az:bO g y=some (.agg (dg.map .lit))) (hv:v.oneCell'=true) (ay:∀ w,(do eqGuard op t x y (.agg ec.toArray) (.agg dg.toArray); binOp op t (.agg ec.toArray) (.agg dg.toArray):Sem Value).run P w=.ok v w):dA P g (.binOp op t x y t2) ty (.lit v)
 | un {op:UnOp}{x:Operand}{ty t:TypeId}{a v:Value}(J:bO g x=some (.lit a)) (hv:v.oneCell'=true) (ay:∀ w,(Op.unary op a).run P w=.ok v w):dA P g (.unOp op t x) ty (.lit v)
 | conv {x:Operand}{ty s d:TypeId}{a v:Value}(J:bO g x=some (.lit a)) (hv:v.oneCell'=true) (ay:∀ w,(convert s d a).run P w=.ok v w):dA P g (.convert s d x) ty (.lit v)
 | Cr {x:Operand}{ty s d:TypeId}{n N:Nat}{p:Place}{cs:List aj}{xs:List Int}(J:bO g x=some (.bl 1 p n)) (aH:b7 g p=some (.own 1 N cs)) (aL:n<=N) (hF:cs.take n=xs.map λb=>.lit (.int .u8 b)) (aE:uY P s d=true):dA P g (.convert s d x) ty (.lit (.string (strOfNums xs)))
 | Cs {x:Operand}{ty s d:TypeId}{n:Nat}{xs:List Int}(J:bO g x=some (.aF 1 n (xs.map λb=>.lit (.int .u8 b)))) (aE:uY P s d=true):dA P g (.convert s d x) ty (.lit (.string (strOfNums xs)))
 | EX {xs:Array Operand}{iJ:Array TypeId}{ty:TypeId}{f:FuncId}{vs:List Value}{v:Value}(J:xs.toList.map (bO g)=vs.map λv=>some (.lit v)) (hv:v.oneCell'=true)
   (ay:∀ w,(callFunc f vs.toArray).run P w=.ok (.value v) w):dA P g (.call { callee:=.value (.func f),args:=xs,argTypes:=iJ }) ty (.lit v)
 | Cw {x:Operand}{ty:TypeId}{i:Nat}{cs:List aj}{y:aj}(J:bO g x=some (.cG cs)) (az:cs[i]?=some y):dA P g (.extract x i) ty y
 | Bx {x:Operand}{lo hi:Option Operand}{ty t e:TypeId}{z n l h:Nat}{cs:List aj}(J:bO g x=some (.aF z n cs)) (ao:o0 g 0 lo l) (b6:o0 g n hi h) (aE:fB P t e z=true) (rR:l<=h) (aL:h<=n):dA P g (.slice t x lo hi none) ty (.aF z (h - l) ((cs.drop (l * z)).take ((h - l) * z)))
 | HT {x:Operand}{lo hi:Option Operand}{ty t e:TypeId}{z n h:Nat}{p:Place}(J:bO g x=some (.bl z p n)) (ao:o0 g 0 lo 0) (b6:o0 g n hi h) (aE:fB P t e z=true) (aL:h<=n) (fo:gK g (.bl z p h)):dA P g (.slice t x lo hi none) ty (.bl z p h)
 | DP {x:Operand}{lo hi:Option Operand}{ty t e:TypeId}{z n l h:Nat}{p:Place}(J:bO g x=some (.bl z p n)) (ao:o0 g 0 lo l) (b6:o0 g n hi h) (aE:fB P t e z=true) (rR:l<=h) (aL:h<=n) (fo:gK g (.sub z p l (h - l))):dA P g (.slice t x lo hi none) ty (.sub z p l (h - l))
 | By {x:Operand}{lo hi:Option Operand}{ty t:TypeId}{l h:Nat}{s:ByteArray}(J:bO g x=some (.lit (.string s))) (ao:o0 g 0 lo l) (b6:o0 g s.size hi h) (aE:oU P t=true) (rR:l<=h) (aL:h<=s.size):dA P g (.slice t x lo hi none) ty (.lit (.string (s.extract l h)))
 | Ax {x:Operand}{ty t e:TypeId}{z cN n:Nat}{cs:List aj}(J:bO g x=some (.aF z n cs)) (aE:fB P t e cN=true):dA P g (.call { callee:=.builtin .len,args:=#[x],argTypes:=#[t] }) ty (.lit (.int .i64 n))
 | Aw {x:Operand}{ty t e:TypeId}{z cN n:Nat}{p:Place}(J:bO g x=some (.bl z p n)) (aE:fB P t e cN=true):dA P g (.call { callee:=.builtin .len,args:=#[x],argTypes:=#[t] }) ty (.lit (.int .i64 n))
 | G' {x:Operand}{ty t e:TypeId}{z cN lo n:Nat}{p:Place}(J:bO g x=some (.sub z p lo n)) (aE:fB P t e cN=true):dA P g (.call { callee:=.builtin .len,args:=#[x],argTypes:=#[t] }) ty (.lit (.int .i64 n))
 | G_ {x:Operand}{ty t e:TypeId}{cN:Nat}(J:bO g x=some .aI) (aE:fB P t e cN=true):dA P g (.call { callee:=.builtin .len,args:=#[x],argTypes:=#[t] }) ty (.lit (.int .i64 0))
 | lits {b:Builtin}{xs:Array Operand}{iJ:Array TypeId}{ty:TypeId}{vs:List Value}{v:Value}(J:xs.toList.map (bO g)=vs.map λv=>some (.lit v)) (hv:v.oneCell'=true)
   (ay:∀ w (cs:Array Bool),(builtin b iJ ty cs vs.toArray).run P w=.ok (.value v) w):dA P g (.call { callee:=.builtin b,args:=xs,argTypes:=iJ }) ty (.lit v)
 | Dl {x y:Operand}{ty t:TypeId}{p:Place}{q:Array MapEntry->Nat->Prop}{ok:Bool}{Y X:aj}{nL V:Value}(J:bO g x=some (.hN p)) (aH:b7 g p=some (.mp q)) (az:bO g y=some Y)
   (eA:∀ (w:World) (I:br) (ρ:aj->Value->Prop) (v:Value),R w I ρ Y v cW->v=nL) (bj:∀ (w:World) (I:br) (ρ:aj->Value->Prop),R w I ρ X V cW)
   (ay:∀ (w:World) (b:Nat) (es:Array MapEntry) (clock:Nat),w.heap[b]?=some (.map es clock)->q es clock->(Instr.lookup t (.map (some b)) nL ok).run P w=.ok V w):dA P g (.lookup t x y ok) ty X
 | Ay {x y:Operand}{ty t:TypeId}{q:Array MapEntry->Nat->Prop}{ok:Bool}{Y X:aj}{nL V:Value}(J:bO g x=some (.imp q)) (az:bO g y=some Y)
   (eA:∀ (w:World) (I:br) (ρ:aj->Value->Prop) (v:Value),R w I ρ Y v cW->v=nL) (bj:∀ (w:World) (I:br) (ρ:aj->Value->Prop),R w I ρ X V cW)
   (ay:∀ (w:World) (b:Nat) (es:Array MapEntry) (clock:Nat),w.heap[b]?=some (.map es clock)->q es clock->(Instr.lookup t (.map (some b)) nL ok).run P w=.ok V w):dA P g (.lookup t x y ok) ty X
theorem R.LC {w:World}{I:br}{ρ:aj->Value->Prop}{p:Place}{v:Value}{F:br}(h:R w I ρ (.hN p) v F):ρ (.hN p) v:=by
 cases h with
 | ref _ h _=>exact h
theorem R.GN {w:World}{I:br}{ρ:aj->Value->Prop}{q:Array MapEntry->Nat->Prop}{v:Value}{F:br}(h:R w I ρ (.mp q) v F):∃ b es clock,v=.map (some b)/\w.heap[b]?=some (.map es clock)/\q es clock/\∀ c,F c↔c=b:=by
 cases h with
 | ref J=>simp [aj.isRef] at J
 | mp bh bN aQ=>exact ⟨_,_,_,rfl,bh,bN,aQ⟩
theorem R.To {w:World}{I:br}{ρ:aj->Value->Prop}{q:Array MapEntry->Nat->Prop}{v:Value}{F:br}(h:R w I ρ (.imp q) v F):∃ b es clock,v=.map (some b)/\w.heap[b]?=some (.map es clock)/\q es clock:=by
 cases h with
 | ref J=>simp [aj.isRef] at J
 | imp _ _ bh bN=>exact ⟨_,_,_,rfl,bh,bN⟩
end Go.Own
namespace Go.Own
open Go
section
variable {P:Program}{w:World}{I:br}{T:Array Value}{g:aZ}{Fs:Nat->br}
theorem o0.sound (h:c_ w I T g Fs) {d:Nat}{x:Option Operand}{af:Nat}(aJ:o0 g d x af) {a:Act}(bm:a.tmps=T):(x.map a.eval=none/\af=d)\/∃ k,x.map a.eval=some (.int k (af:Int)):=by
 cases x with
 | none=>exact .inl ⟨rfl,aJ⟩
 | some o =>
  obtain ⟨k,hk⟩:=aJ
  exact .inr ⟨k,by rw [Option.map_some,(ke h hk bm).im.1]⟩
theorem DK {len cap l h:Nat}{lo hi:Option Value}(ao:(lo=none/\l=0)\/∃ k,lo=some (.int k (l:Int))) (b6:(hi=none/\h=len)\/∃ k,hi=some (.int k (h:Int))) (b:Bool) (rR:l<=h) (ab:h<=cap) :
  (Instr.sliceBounds b len cap lo hi none).run P w=.ok (l,h,cap) w:=by
 rcases ao with ⟨rfl,rfl⟩ | ⟨k,rfl⟩ <;> rcases b6 with ⟨rfl,rfl⟩ | ⟨l_,rfl⟩ <;> simp [Instr.sliceBounds,Instr.sliceBound,asIntOf,rR,ab]
theorem LL (h:c_ w I T g Fs) {a:Act}(bm:a.tmps=T):∀ (xs:List Operand) (vs:List Value),xs.map (bO g)=vs.map (λv=>some (.lit v))->xs.map a.eval=vs
 | [],[],_=>rfl
 | [],_::_,h=>by simp at h
 | _::_,[],h=>by simp at h
 | x::xs,v::vs,J=>by
  simp only [List.map_cons,List.cons.injEq] at J
  rw [List.map_cons,(ke h J.1 bm).im.1,LL h bm xs vs J.2]
theorem IH {w:World}{I:br}{ρ:aj->Value->Prop}{v:Value}{ec:List Value}
  (h:∃ vs:Array Value,v=.agg vs/\(ec.map aj.lit).length=vs.size/\(∀ (k:Nat) (u:Value),vs[k]?=some u->u.oneCell'=true)/\∀ (k:Nat) (x:aj) (u:Value),(ec.map aj.lit)[k]?=some x->vs[k]?=some u->R w I ρ x u cW):v=.agg ec.toArray:=by
 obtain ⟨vs,rfl,ao,-,ay⟩:=h
 congr 1
 apply Array.ext (by simpa using ao.symm)
 intro i h1 al
 have aP:i<ec.length:=by simpa using al
 have:=(ay i (.lit ec[i]) vs[i] (by simp [aP]) (Array.getElem?_eq_getElem h1)).im.1
 simpa using this
theorem dA.sound (h:c_ w I T g Fs) {a:Act}(bm:a.tmps=T) {o:Oper}{kk:aj}(aH:dA P g o.op o.type kk) :
  ∃ v,(execOp a.eval o).run P w=.ok (.value v) w/\R w I (er w T g) kk v cW:=by
 obtain ⟨dst,op,ty,pos,after,guard⟩:=o
 simp only at aH
 have gj:∀ {x:Operand}{y:aj},bO g x=some y->R w I (er w T g) y (a.eval x) cW:=λaz=>ke h az bm
 have no:∀ c,¬ cW c:=λ_ h=>h
 cases aH with
 | move J=>exact ⟨_,by simp [execOp],gj J⟩
 | assign J=>exact ⟨_,by simp [execOp],gj J⟩
 | @pick c x y _ t r ab ay =>
  have tS:=(gj ab).im.1
  refine ⟨_,?_,gj ay⟩
  simp [execOp,tS,asBool]
  cases t <;> rfl
 | @Ds x _ p k J =>
  have ay:=gj J
  obtain ⟨⟨u,ad,h1,al,aP⟩,b3⟩:=ay.ni
  exact ⟨_,by simp [execOp,aP],aP ▸ ay⟩
 | @py x _ cs J =>
  have ay:=gj J
  obtain ⟨ad,us,aP,_⟩:=ay.vC
  exact ⟨_,by simp [execOp,aP],aP ▸ ay⟩
 | @zx x _ s t f off p k J bn fo =>
  obtain ⟨⟨u,ad,h1,al,aP⟩,b3⟩:=(gj J).ni
  refine ⟨.pointer (some ⟨ad.block,ad.off+k+off,none⟩),by simp [execOp,aP,Mn bn],.ref rfl ⟨⟨u,ad,h1,al,by rw [Nat.add_assoc]⟩,fo⟩ no⟩
 | @CG x _ s t f off cs J bn =>
  obtain ⟨ad,us,aP,bt,aM,gW,ab,ay⟩:=(gj J).vC
  obtain ⟨b,o,sp⟩:=ad
  simp only at aM
  subst aM
  refine ⟨.pointer (some ⟨b,o+off,none⟩),by simp [execOp,aP,Mn bn],.bo (us:=λk=>us (off+k)) no bt rfl (λk x hk=>gW _ x (by rwa [List.getElem?_drop] at hk)) (λk x hk=>?_) λk x hk=>?_⟩
  ·rw [List.getElem?_drop] at hk; simpa [Nat.add_assoc] using ab _ x hk
  ·rw [List.getElem?_drop] at hk; exact ay _ x hk
 | @CF x _ s t f off cs y J bn aE az =>
  obtain ⟨vs,aP,ao,gW,ay⟩:=(gj J).Ap no
  obtain ⟨fs,fd,hu,FM,rfl,rfl,i,hi,bd⟩:=E5 bn
  have hk:fd.offset<cs.length:=(List.getElem?_eq_some_iff.1 az).1
  have hv:vs[fd.offset]?=some vs[fd.offset]:=Array.getElem?_eq_getElem (ao ▸ hk)
  refine ⟨_,?_,ay _ kk _ az hv⟩
  simp [execOp,aP,Instr.field,run_underlying hu,FM,asAgg,part,(ED (w:=w) aE).1,hv]
 | @E4 x _ s t f off k cs J bn aE hk =>
  obtain ⟨vs,aP,ao,gW,ay⟩:=(gj J).Ap no
  obtain ⟨fs,fd,hu,FM,rfl,rfl,i,hi,bd⟩:=E5 bn
  refine ⟨.agg (vs.extract fd.offset (fd.offset+k)),?_,.agg (Fs:=λ_=>cW) (by simp [ao]; omega) (λaf u fQ=>by
   rw [Array.getElem?_extract] at fQ
   split at fQ
   ·exact gW _ u fQ
   ·cases fQ) (λaf y u az fQ=>?_) (λ_ _ _ _ _ h=>h.elim) (λc=>⟨λh=>h.elim,λ⟨_,_,h⟩=>h⟩)⟩
  ·simp [execOp,aP,Instr.field,run_underlying hu,FM,asAgg,part,(B4 (w:=w) aE).1,(B4 (w:=w) aE).2]
  ·rw [List.getElem?_take] at az
   split at az
   ·rw [List.getElem?_drop] at az
    rw [Array.getElem?_extract] at fQ
    split at fQ
    ·exact ay _ y u az fQ
    ·cases fQ
   ·cases az
 | @Db x i _ t e z n cs nm af J hi aE aa =>
  obtain ⟨hu,he,bJ⟩:=pH (w:=w) aE
  obtain ⟨k1,cap,aP,_,ao,hm⟩:=(gj J).xQ
  obtain ⟨ad,us,rfl,bt,aM,gW,ab,ay⟩:=hm (.inr (by omega))
  obtain ⟨b,o,sp⟩:=ad
  simp only at aM
  subst aM
  have qY:=(gj hi).im.1
  refine ⟨.pointer (some ⟨b,o+af * z,none⟩),?_,.bo (us:=λk=>us (af * z+k)) no bt rfl (λk x hk=>gW _ x (by rwa [List.getElem?_drop] at hk)) (λk x hk=>?_) λk x hk=>?_⟩
  ·simp [execOp,aP,qY,Instr.indexAt,run_underlying hu,asIntOf,aa,bJ,add_eq]
  ·rw [List.getElem?_drop] at hk; simpa [Nat.add_assoc] using ab _ x hk
  ·rw [List.getElem?_drop] at hk; exact ay _ x hk
 | @Da x i _ t e z n p nm af J hi aE aa fo =>
  obtain ⟨hu,he,bJ⟩:=pH (w:=w) aE
  obtain ⟨⟨k1,N,cap,h1,al,aP⟩,b3⟩:=(gj J).mG
  have qY:=(gj hi).im.1
  obtain ⟨y,az,ha,h6,cs,eH,bg⟩:=fo
  obtain ⟨v,cO,hv,d',_⟩:=h.part az (by rcases eH with rfl | rfl <;> simp)
  rw [h1] at hv
  cases hv
  obtain ⟨b,u,fZ,lL,_,_⟩:=d'.node eH (List.getElem?_eq_getElem bg)
  cases k1 with
  | none=>simp [addrOf] at fZ
  | some ad =>
   simp only [addrOf,Option.some.injEq] at fZ
   subst fZ
   refine ⟨.pointer (some ⟨b,af * z,none⟩),?_,.ref rfl ⟨⟨_,_,h1,rfl,by simp⟩,y,az,ha,h6,cs,eH,bg⟩ no⟩
   simp [execOp,al,qY,Instr.indexAt,run_underlying hu,asIntOf,aa,bJ,add_eq]
 | @GL x i _ t e z lo n p nm af J hi aE aa fo =>
  obtain ⟨hu,he,bJ⟩:=pH (w:=w) aE
  obtain ⟨⟨k1,N,cap,cI,lY,h1,al,_,aP,dF⟩,b3⟩:=(gj J).vD
  obtain ⟨ad,rfl,rfl⟩:=dF (by omega)
  have qY:=(gj hi).im.1
  obtain ⟨y,az,ha,h6,cs,eH,bg⟩:=fo
  obtain ⟨v,cO,hv,d',_⟩:=h.part az (by rcases eH with rfl | rfl <;> simp)
  rw [h1] at hv
  cases hv
  obtain ⟨b,u,fZ,lL,_,_⟩:=d'.node eH (List.getElem?_eq_getElem bg)
  simp only [addrOf,Option.some.injEq] at fZ
  subst fZ
  refine ⟨.pointer (some ⟨b,(lo+af) * z,none⟩),?_,.ref rfl ⟨⟨_,_,h1,rfl,by simp⟩,y,az,ha,h6,cs,eH,bg⟩ no⟩
  simp [execOp,al,qY,Instr.indexAt,run_underlying hu,asIntOf,aa,bJ,add_eq,Nat.add_mul]
 | @GK x i _ t e n z k p nm af J hi aE aa fo =>
  obtain ⟨hu,bJ⟩:=IV (w:=w) aE
  obtain ⟨⟨u,ad,h1,al,aP⟩,b3⟩:=(gj J).ni
  have qY:=(gj hi).im.1
  refine ⟨.pointer (some ⟨ad.block,ad.off+k+af * z,none⟩),?_,.ref rfl ⟨⟨u,ad,h1,al,by rw [Nat.add_assoc]⟩,fo⟩ no⟩
  simp [execOp,aP,qY,Instr.indexAt,run_underlying hu,Instr.sureAddr,asIntOf,aa,bJ,add_eq]
 | @GJ x i _ t e n z cs nm af J hi aE aa =>
  obtain ⟨hu,bJ⟩:=IV (w:=w) aE
  obtain ⟨ad,us,aP,bt,aM,gW,ab,ay⟩:=(gj J).vC
  obtain ⟨b,o,sp⟩:=ad
  simp only at aM
  subst aM
  have qY:=(gj hi).im.1
  refine ⟨.pointer (some ⟨b,o+af * z,none⟩),?_,.bo (us:=λk=>us (af * z+k)) no bt rfl (λk x hk=>gW _ x (by rwa [List.getElem?_drop] at hk)) (λk x hk=>?_) λk x hk=>?_⟩
  ·simp [execOp,aP,qY,Instr.indexAt,run_underlying hu,Instr.sureAddr,asIntOf,aa,bJ,add_eq]
  ·rw [List.getElem?_drop] at hk; simpa [Nat.add_assoc] using ab _ x hk
  ·rw [List.getElem?_drop] at hk; exact ay _ x hk
 | @Dm x _ t c cs J aE =>
  obtain ⟨ad,us,aP,bt,aM,gW,ab,ay⟩:=(gj J).vC
  obtain ⟨b,o,sp⟩:=ad
  simp only at aM
  subst aM
  have bd:w.cell? ⟨b,o,none⟩=some (us 0):=by simpa using ab 0 kk rfl
  exact ⟨us 0,by simp [execOp,aP,Mp aE bd],ay 0 kk rfl⟩
 | @Dn x _ t k cs J aE hk =>
  obtain ⟨ad,us,aP,bt,aM,gW,ab,ay⟩:=(gj J).vC
  obtain ⟨b,o,sp⟩:=ad
  simp only at aM
  subst aM
  have R4:∀ af v,((List.range k).map us)[af]?=some v->w.cell? ⟨b,o+af,none⟩=some v:=by
   intro af v aa
   rw [List.getElem?_map] at aa
   by_cases eP:af<k
   ·rw [List.getElem?_range eP] at aa
    simp only [Option.map_some,Option.some.injEq] at aa
    rw [<- aa]
    exact ab af _ (List.getElem?_eq_getElem (by omega))
   ·rw [List.getElem?_eq_none (by simp; omega)] at aa; cases aa
  refine ⟨.agg ((List.range k).map us).toArray,by simp [execOp,aP,Mo aE (by simp) R4],.agg (Fs:=λ_=>cW) (by simp; omega) (λaf u fQ=>by
   simp only [List.getElem?_toArray,List.getElem?_map] at fQ
   by_cases eP:af<k
   ·rw [List.getElem?_range eP] at fQ
    simp only [Option.map_some,Option.some.injEq] at fQ
    rw [<- fQ]
    exact gW af _ (List.getElem?_eq_getElem (by omega))
   ·rw [List.getElem?_eq_none (by simp; omega)] at fQ; cases fQ) (λaf y u az fQ=>?_) (λ_ _ _ _ _ h=>h.elim) (λc=>⟨λh=>h.elim,λ⟨_,_,h⟩=>h⟩)⟩
  rw [List.getElem?_take] at az
  split at az
  ·rename_i eP
   simp [eP] at fQ
   rw [<- fQ]
   exact ay af y az
  ·cases az
 | @Az x _ t p k y J aE az =>
  obtain ⟨⟨u,ad,h1,al,aP⟩,b3⟩:=(gj J).ni
  rw [sm] at az
  cases aL:b7 g p with
  | none=>rw [aL] at az; cases az
  | some nd =>
   rw [aL] at az
   simp only [Option.bind_some] at az
   obtain ⟨y',mF,ha,h6,cs,eH,bg⟩:=b3
   rw [aL] at mF
   cases mF
   obtain ⟨v,cO,hv,d',dG⟩:=h.part aL (by rcases eH with rfl | rfl <;> simp)
   rw [h1] at hv
   cases hv
   have iD:cs[k]?=some y:=by rcases eH with rfl | rfl <;> simpa [aj.kids] using az
   obtain ⟨b,gH,fZ,lL,l3,gW,bK,j_⟩:=d'.node eH iD
   rw [fZ] at al
   cases al
   refine ⟨gH,by simp only [execOp,aP]; simp [Mp aE lL],DH 0 (by rw [sm,aL]; exact az) (by rw [wB,h1]; exact l3) j_⟩
 | @vP x _ t p k m z n y cs J aE az eH hm =>
  obtain ⟨⟨u,ad,h1,al,aP⟩,b3⟩:=(gj J).ni
  obtain ⟨v,cO,hv,d',dG⟩:=h.part az (by rcases eH with rfl | rfl <;> simp)
  rw [h1] at hv
  cases hv
  have tP:∃ b,ad=⟨b,0,none⟩:=by
   obtain ⟨y',mF,ha,h6,cs',Ly,bg⟩:=b3
   rw [az] at mF
   cases mF
   have:cs'=cs:=by rcases eH with rfl | rfl <;> rcases Ly with b6 | b6 <;> cases b6 <;> rfl
   subst this
   obtain ⟨b,gH,fZ,_⟩:=d'.node Ly (List.getElem?_eq_getElem bg)
   rw [fZ] at al
   exact ⟨b,(Option.some.inj al).symm⟩
  obtain ⟨b,rfl⟩:=tP
  have FY:y.kids=cs:=by rcases eH with rfl | rfl <;> rfl
  have cell:∀ af,af<m->∃ gH,w.cell? ⟨b,k+af,none⟩=some gH/\gH.oneCell'=true/\∃ kz,cs[k+af]?=some kz/\R w I (er w T g) (ib 0 (p.push (k+af)) kz) gH cW:=by
   intro af aa
   have f':cs[k+af]?=some cs[k+af]:=List.getElem?_eq_getElem (by omega)
   obtain ⟨hT,gH,fZ,lL,l3,gW,bK,j_⟩:=d'.node eH f'
   rw [al] at fZ
   cases fZ
   exact ⟨gH,lL,gW,_,f',DH 0 (by rw [sm,az]; simp [FY]) (by rw [wB,h1]; exact l3) j_⟩
  have hex:∃ us:List Value,us.length=m/\∀ af v,us[af]?=some v->w.cell? ⟨b,k+af,none⟩=some v:=by
   refine ⟨(List.range m).map λaf=>(w.cell? ⟨b,k+af,none⟩).getD undef,by simp,?_⟩
   intro af v aa
   rw [List.getElem?_map] at aa
   by_cases xC:af<m
   ·rw [List.getElem?_range xC] at aa
    simp only [Option.map_some,Option.some.injEq] at aa
    obtain ⟨gH,ab,_⟩:=cell af xC
    rw [ab] at aa
    simp only [Option.getD_some] at aa
    rw [ab,aa]
   ·rw [List.getElem?_eq_none (by simp; omega)] at aa; cases aa
  obtain ⟨us,q3,Gk⟩:=hex
  refine ⟨.agg us.toArray,by simp only [execOp,aP]; simp [Mo aE q3 (b:=b) (o:=k) Gk],.agg (Fs:=λ_=>cW) (by simp; omega) (λaf u fQ=>by
   have aa:=Gk af u (by simpa using fQ)
   have xC:af<m:=by rw [<- q3]; exact (List.getElem?_eq_some_iff.1 (by simpa using fQ:us[af]?=some u)).1
   obtain ⟨gH,ab,zA,_⟩:=cell af xC
   rw [ab] at aa; cases aa; exact zA) (λaf kA u ng fQ=>?_) (λ_ _ _ _ _ h=>h.elim) (λc=>⟨λh=>h.elim,λ⟨_,_,h⟩=>h⟩)⟩
  rw [List.getElem?_mapIdx,List.getElem?_take] at ng
  split at ng
  ·rename_i xC
   rw [List.getElem?_drop] at ng
   obtain ⟨gH,ab,_,kz,Ta,bj⟩:=cell af xC
   rw [Ta] at ng
   simp only [Option.map_some,Option.some.injEq] at ng
   subst ng
   have:=Gk af u (by simpa using fQ)
   rw [ab] at this
   cases this
   exact bj
  ·cases ng
 | @Cr x _ s d n N p cs xs J aH aL hF aE =>
  obtain ⟨e,aM,he,aY⟩:=I8 aE
  obtain ⟨⟨k1,jf,cap,h1,al,aP⟩,_⟩:=(gj J).mG
  obtain ⟨v,cO,hv,d',dG⟩:=h.part aH (by simp)
  rw [h1] at hv
  cases hv
  have h3:(cs.take n).length=n:=by
   obtain ⟨_,_,_,ao⟩:=d'.mJ
   rw [List.length_take]; omega
  have hlen:xs.length=n:=by rw [<- h3,hF,List.length_map]
  refine ⟨_,?_,.lit rfl no⟩
  obtain ⟨_,_,kc,_,_,p8,rT⟩:=d'.mJ
  cases kc
  cases k1 with
  | none =>
   have bd:n=0:=by
    rcases Nat.eq_zero_or_pos N with h | h
    ·omega
    ·exact absurd (rT h) (by simp)
   have:xs=[]:=List.eq_nil_of_length_eq_zero (hlen.trans bd)
   subst this
   have ay:=run_convert_bytes_nil (P:=P) (w:=w) s e aM he n cap d aY
   simp [execOp,al,ay]
   rfl
  | some ad =>
   obtain ⟨b,o,sp⟩:=ad
   obtain ⟨rfl,rfl⟩:=p8 _ rfl
   have ay:=run_convert_bytes_arg (P:=P) w s e aM he b 0 n cap xs hlen (λi hi=>by
    have zT:(cs.take n)[i]?=some (.lit (.int .u8 (xs.getD i 0))):=by
     rw [hF,List.getElem?_map,List.getElem?_eq_getElem (by omega)]
     simp [List.getD,List.getElem?_eq_getElem (show i<xs.length by omega)]
    have RD:cs[i]?=some (.lit (.int .u8 (xs.getD i 0))):=by
     rw [List.getElem?_take] at zT
     simpa [hi] using zT
    obtain ⟨hT,u,fZ,lL,_,_,bK,j_⟩:=d'.node (.inl rfl) RD
    simp only [addrOf,Option.some.injEq,Addr.mk.injEq,and_true] at fZ
    subst fZ
    rw [Nat.zero_add,lL,j_.im.1]) d aY
   simp [execOp,al,ay]
 | @Cs x _ s d n xs J aE =>
  obtain ⟨e,aM,he,aY⟩:=I8 aE
  have bj:=gj J
  generalize p6:a.eval x=v at bj
  refine ⟨_,?_,.lit rfl no⟩
  generalize hF:(xs.map λb=>aj.lit (.int .u8 b))=cs at bj
  cases bj with
  | ref J=>simp [aj.isRef] at J
  | @hY _ cap k1 _ aQ =>
   have:xs=[]:=by simpa using hF
   subst this
   cases k1 with
   | none =>
    have ay:=run_convert_bytes_nil (P:=P) (w:=w) s e aM he 0 cap d aY
    simp [execOp,p6,ay]
    rfl
   | some ad =>
    have ao:(loadCells ad 0).run P w=.ok (([]:List Int).map (Value.int .u8)).toArray w:=by
     have:=run_loadCells_list (P:=P) w ad [] (λaf v aa=>by simp at aa)
     simpa using this
    have ay:=run_bytesToString w ad 0 cap [] ao
    have ab:=run_convert_bytes_string (P:=P) w s d e (some ad) 0 cap aM he aY
    rw [ay] at ab
    simp [execOp,p6,ab]
    rfl
  | @aF _ _ cap _ ad us _ aQ k7 bt xL ao h1 ab ay =>
   obtain ⟨b,o,sp⟩:=ad
   simp only at xL
   subst xL
   have hlen:xs.length=n:=by rw [<- List.length_map (f:=λb=>aj.lit (.int .u8 b)),hF,ao,Nat.mul_one]
   have eX:=run_convert_bytes_arg (P:=P) w s e aM he b o n cap xs hlen (λi hi=>by
    have zT:cs[i]?=some (.lit (.int .u8 (xs.getD i 0))):=by
     rw [<- hF,List.getElem?_map,List.getElem?_eq_getElem (by omega)]
     simp [List.getD,List.getElem?_eq_getElem (show i<xs.length by omega)]
    have:=ab i _ zT
    simp only at this
    rw [this,(ay i _ zT).im.1]) d aY
   simp [execOp,p6,eX]
 | @EX xs iJ _ f vs v J hv ay =>
  refine ⟨v,?_,.lit hv no⟩
  have C8:xs.map a.eval=vs.toArray:=by
   apply Array.toList_inj.1
   apply List.ext_getElem?
   intro k
   have:=congrArg (·[k]?) J
   simp only [List.getElem?_map] at this
   rw [Array.toList_map,List.getElem?_map]
   cases hk:xs.toList[k]? with
   | none =>
    rw [hk] at this
    cases hv:vs[k]? with
    | none=>simp
    | some v=>rw [hv] at this; cases this
   | some o =>
    rw [hk] at this
    cases hv:vs[k]? with
    | none=>rw [hv] at this; cases this
    | some v =>
     rw [hv] at this
     simp only [Option.map_some,Option.some.injEq] at this ⊢
     rw [(gj this).im.1]
  have bn:a.eval (.func f)=.func (.func f) #[] #[]:=rfl
  simp [execOp,resolve,Deferred.ofValue,invoke,bn,C8,ay]
 | @Dc x i _ t s nm af b J hi aE aJ =>
  have sT:=(gj J).im.1
  have qY:=(gj hi).im.1
  refine ⟨.int .u8 b.toNat,?_,.lit rfl no⟩
  simp [execOp,sT,qY,Instr.index,run_underlying (HV aE),asIntOf,aJ]
 | @bin op x y _ t t2 cI b v J az hv ay =>
  have h1:=(gj J).im.1
  have al:=(gj az).im.1
  refine ⟨v,?_,.lit hv no⟩
  simp only [execOp,h1,al,Sem.run_bind (x:=do eqGuard op t x y cI b; binOp op t cI b),ay,Result.andThen_ok,Sem.run_pure]
 | @yZ op x y _ t t2 ec dg v J az hv ay =>
  have h1:=IH ((gj J).Ap no)
  have al:=IH ((gj az).Ap no)
  refine ⟨v,?_,.lit hv no⟩
  simp only [execOp,h1,al,Sem.run_bind (x:=do eqGuard op t x y (.agg ec.toArray) (.agg dg.toArray); binOp op t (.agg ec.toArray) (.agg dg.toArray)),ay,Result.andThen_ok,Sem.run_pure]
 | @un op x _ t cI v J hv ay =>
  have h1:=(gj J).im.1
  exact ⟨v,by simp [execOp,h1,ay],.lit hv no⟩
 | @conv x _ s d cI v J hv ay =>
  have h1:=(gj J).im.1
  exact ⟨v,by simp [execOp,h1,ay],.lit hv no⟩
 | @Cw x _ i cs y J az =>
  obtain ⟨vs,aP,ao,ay⟩:=(gj J).Tp no
  have hk:i<cs.length:=(List.getElem?_eq_some_iff.1 az).1
  have hv:vs[i]?=some vs[i]:=Array.getElem?_eq_getElem (ao ▸ hk)
  exact ⟨_,by simp [execOp,aP,Instr.extract,hv],ay _ kk _ az hv⟩
 | @Bx x lo hi _ t e z n l b6 cs J ao tW aE rR aL =>
  obtain ⟨hu,he,bJ⟩:=pH (w:=w) aE
  obtain ⟨k1,cap,aP,k7,hlen,hm⟩:=(gj J).xQ
  have aJ:=DK (P:=P) (w:=w) (len:=n) (cap:=cap) (ao.sound h bm) (tW.sound h bm) true rR (by omega)
  have h4:(execOp a.eval { dst:=dst,op:=.slice t x lo hi none,type:=ty,pos:=pos,after:=after,guard:=guard }).run P w=.ok (.value (sliced k1 l b6 cap z)) w:=by
   simp [execOp,aP,Instr.sliceAt,run_underlying hu,Instr.slice,aJ,bJ,sliced]
  refine ⟨_,h4,?_⟩
  by_cases bd:b6 - l=0
  ·rw [bd]
   simp only [Nat.zero_mul,List.take_zero,sliced,bd]
   exact .hY no
  ·obtain ⟨ad,us,rfl,bt,aM,gW,ab,ay⟩:=hm (.inr (by omega))
   obtain ⟨b,o,sp⟩:=ad
   simp only at aM
   subst aM
   have h3:cap≠l:=by omega
   simp only [sliced,h3,if_false,Option.map_some,add_eq]
   have zY:((cs.drop (l * z)).take ((b6 - l) * z)).length=(b6 - l) * z:=by
    rw [List.length_take,List.length_drop,hlen]
    have:(b6 - l) * z+l * z<=n * z:=by rw [<- Nat.add_mul]; exact Nat.mul_le_mul_right _ (by omega)
    omega
   refine .aF (us:=λk=>us (l * z+k)) no (by omega) bt rfl zY (λk x hk=>gW (l * z+k) x (by
    rw [List.getElem?_take] at hk
    split at hk
    ·rwa [List.getElem?_drop] at hk
    ·cases hk)) (λk x hk=>?_) λk x hk=>?_
   ·rw [List.getElem?_take] at hk
    split at hk
    ·rw [List.getElem?_drop] at hk; simpa [Nat.add_assoc] using ab _ x hk
    ·cases hk
   ·rw [List.getElem?_take] at hk
    split at hk
    ·rw [List.getElem?_drop] at hk; exact ay _ x hk
    ·cases hk
 | @HT x lo hi _ t e z n b6 p J ao tW aE aL fo =>
  obtain ⟨hu,he,bJ⟩:=pH (w:=w) aE
  obtain ⟨⟨k1,N,cap,h1,al,aP⟩,b3⟩:=(gj J).mG
  have k7:N<=cap:=by
   rcases b3 with ⟨jf,cs,dF,e0⟩ | ⟨bd,q,hd,m,new,dF,e0⟩
   ·obtain ⟨v,cO,hv,d',_⟩:=h.part dF (by simp)
    rw [h1] at hv
    obtain ⟨_,qK,FO,hle,_⟩:=d'.mJ
    rw [FO] at hv
    cases hv
    exact hle
   ·obtain ⟨v,hv,d'⟩:=h.rel _ _ dF
    simp only [eo,hv,bd,walk,Option.some.injEq] at h1
    subst h1
    obtain ⟨bv,cX,de,us,news,d'⟩:=d'.uk
    obtain ⟨_,mB⟩:=d'.mB
    rcases mB with ⟨b6,bd⟩ | ⟨b,c2,cur,b6,_,_,hle,_⟩
    ·cases b6; exact Nat.le_refl _
    ·cases b6; exact hle
  have aJ:=DK (P:=P) (w:=w) (len:=n) (cap:=cap) (ao.sound h bm) (tW.sound h bm) true (Nat.zero_le _) (by omega)
  refine ⟨.slice k1 b6 cap,?_,.ref rfl ⟨⟨k1,N,cap,h1,rfl,by omega⟩,fo⟩ no⟩
  simp [execOp,al,Instr.sliceAt,run_underlying hu,Instr.slice,aJ,bJ]
  cases k1 with
  | none=>simp
  | some ad=>simp [Addr.add]
 | @DP x lo hi _ t e z n l b6 p J ao tW aE rR aL fo =>
  obtain ⟨hu,he,bJ⟩:=pH (w:=w) aE
  obtain ⟨⟨k1,N,cap,h1,al,aP⟩,b3⟩:=(gj J).mG
  obtain ⟨jf,cs,dF,e0⟩:=fo
  obtain ⟨v,cO,hv,d',_⟩:=h.part dF (by simp)
  rw [h1] at hv
  obtain ⟨a2,qK,FO,hle,hlen,p8,rT⟩:=d'.mJ
  rw [FO] at hv
  cases hv
  have aJ:=DK (P:=P) (w:=w) (len:=n) (cap:=cap) (ao.sound h bm) (tW.sound h bm) true rR (by omega)
  refine ⟨sliced k1 l b6 cap z,?_,.ref rfl ⟨⟨k1,_,cap,_,_,h1,rfl,by omega,by omega,λub=>?_⟩,_,cs,dF,e0⟩ no⟩
  ·simp [execOp,al,Instr.sliceAt,run_underlying hu,Instr.slice,aJ,bJ,sliced]
  ·have aM:=rT (by omega)
   cases k1 with
   | none=>simp at aM
   | some ad =>
    obtain ⟨bd,k_⟩:=p8 ad rfl
    obtain ⟨b,o,sp⟩:=ad
    simp only at bd k_
    subst bd k_
    exact ⟨_,rfl,by rw [if_neg (by omega)]; simp [add_eq]⟩
 | @By x lo hi _ t l b6 s J ao tW aE rR aL =>
  have sT:=(gj J).im.1
  have aJ:=DK (P:=P) (w:=w) (len:=s.size) (cap:=s.size) (ao.sound h bm) (tW.sound h bm) false rR aL
  exact ⟨.string (s.extract l b6),by simp [execOp,sT,Instr.sliceAt,run_underlying (HV aE),Instr.slice,aJ],.lit rfl no⟩
 | @Ax x _ t e z cN n cs J aE =>
  obtain ⟨hu,he,bJ⟩:=pH (w:=w) aE
  obtain ⟨k1,cap,aP,_⟩:=(gj J).xQ
  exact ⟨_,by simp [execOp,resolve,invoke,builtin,aP,Builtin.len_,run_underlying hu,goInt],.lit rfl no⟩
 | @Aw x _ t e z cN n p J aE =>
  obtain ⟨hu,he,bJ⟩:=pH (w:=w) aE
  obtain ⟨⟨k1,N,cap,h1,al,aP⟩,b3⟩:=(gj J).mG
  exact ⟨_,by simp [execOp,resolve,invoke,builtin,al,Builtin.len_,run_underlying hu,goInt],.lit rfl no⟩
 | @G' x _ t e z cN lo n p J aE =>
  obtain ⟨hu,he,bJ⟩:=pH (w:=w) aE
  obtain ⟨⟨k1,N,cap,cI,lY,h1,al,_,aP,dF⟩,b3⟩:=(gj J).vD
  exact ⟨_,by simp [execOp,resolve,invoke,builtin,al,Builtin.len_,run_underlying hu,goInt],.lit rfl no⟩
 | @G_ x _ t e cN J aE =>
  obtain ⟨hu,he,bJ⟩:=pH (w:=w) aE
  have al:=(gj J).q8
  exact ⟨_,by simp [execOp,resolve,invoke,builtin,al,Builtin.len_,run_underlying hu,goInt],.lit rfl no⟩
 | @lits b xs iJ _ vs v J hv ay =>
  have oH:xs.map a.eval=vs.toArray:=by
   apply Array.ext'
   rw [Array.toList_map]
   exact LL h bm xs.toList vs J
  refine ⟨v,?_,.lit hv no⟩
  simp [execOp,resolve,invoke,oH,ay]
 | @Dl x y _ t p q ok Y _ nL V J aH az eA bj ay =>
  obtain ⟨⟨b,aJ,hv⟩,_⟩:=(gj J).LC
  obtain ⟨hQ,cO,iE,d',_⟩:=h.part aH (by simp)
  rw [aJ] at iE
  cases iE
  obtain ⟨hT,es,clock,e,bh,bN,_⟩:=d'.GN
  cases e
  refine ⟨V,?_,bj _ _ _⟩
  simp [execOp,hv,eA _ _ _ _ (gj az),ay w _ _ _ bh bN]
 | @Ay x y _ t q ok Y _ nL V J az eA bj ay =>
  obtain ⟨b,es,clock,hv,bh,bN⟩:=(gj J).To
  refine ⟨V,?_,bj _ _ _⟩
  simp [execOp,hv,eA _ _ _ _ (gj az),ay w _ _ _ bh bN]
end
end Go.Own
namespace Go.Own
open Go
structure Fr (w w':World) (U:br):Prop where
 os:w'.os=w.os
 tape:w'.tape=w.tape
 output:w'.output=w.output
 size:w.heap.size<=w'.heap.size
 block:∀ b,b<w.heap.size->¬ U b->w'.heap[b]?=w.heap[b]?
 eF:∀ a,a.block<w.heap.size->w'.frozen? a=w.frozen? a
 xj:w.drawn<=w'.drawn
theorem Fr.refl (w:World) (U:br):Fr w w U:=⟨rfl,rfl,rfl,Nat.le_refl _,λ_ _ _=>rfl,λ_ _=>rfl,Nat.le_refl _⟩
theorem Fr.mono {w w':World}{U B2:br}(h:Fr w w' U) (gN:∀ b,b<w.heap.size->U b->B2 b):Fr w w' B2:=⟨h.os,h.tape,h.output,h.size,λb aJ aL=>h.block b aJ λhu=>aL (gN b aJ hu),h.eF,h.xj⟩
theorem Fr.trans {w jC iv:World}{U w4:br}(h:Fr w jC U) (h1:Fr jC iv w4) (gN:∀ b,b<w.heap.size->w4 b->U b):Fr w iv U :=
 ⟨h1.os.trans h.os,h1.tape.trans h.tape,h1.output.trans h.output,Nat.le_trans h.size h1.size,λb aJ aL=>(h1.block b (Nat.lt_of_lt_of_le aJ h.size) λhu=>aL (gN b aJ hu)).trans (h.block b aJ aL),λa bm=>(h1.eF a (Nat.lt_of_lt_of_le bm h.size)).trans (h.eF a bm),Nat.le_trans h.xj h1.xj⟩
theorem rE (w:World) (o:Obj) (k:Nat) (h:k<w.heap.size):(w.alloc o).heap[k]?=w.heap[k]?:=by
 show (w.heap.push o)[k]?=_
 rw [Array.getElem?_push,if_neg (by omega)]
theorem sk (w:World) (o:Obj):(w.alloc o).heap[w.heap.size]?=some o:=by
 show (w.heap.push o)[w.heap.size]?=_
 simp
theorem E6 (w:World) (arr:Array Value) (t:TypeId) (a:Addr):(w.alloc (.cells arr t (0,0))).frozen? a=w.frozen? a:=by
 unfold World.frozen?
 by_cases h:a.block=w.heap.size
 ·rw [h,sk]
  have:w.heap[w.heap.size]?=none:=by simp
  rw [this]
  simp
 ·by_cases al:a.block<w.heap.size
  ·rw [rE w _ _ al]
  ·have aP:(w.alloc (.cells arr t (0,0))).heap[a.block]?=none:=by
    show (w.heap.push _)[a.block]?=_
    rw [Array.getElem?_eq_none]
    simp; omega
   have b3:w.heap[a.block]?=none:=Array.getElem?_eq_none (by omega)
   rw [aP,b3]
theorem E8 (w:World) (g:Nat) (cs:Array Value) (a:Addr):(w.setRow g cs).frozen? a=w.frozen? a:=by
 unfold World.frozen? World.setRow
 simp only [Array.getElem?_modify]
 by_cases h:g=a.block
 ·subst h
  rw [if_pos rfl]
  cases b6:w.heap[a.block]? with
  | none=>rfl
  | some o=>cases o <;> rfl
 ·rw [if_neg h]
theorem P_ (w:World) (es:Array MapEntry) (n:Nat) (a:Addr):(w.alloc (.map es n)).frozen? a=w.frozen? a:=by
 unfold World.frozen?
 by_cases h:a.block=w.heap.size
 ·rw [h,sk]
  have:w.heap[w.heap.size]?=none:=by simp
  rw [this]
 ·by_cases al:a.block<w.heap.size
  ·rw [rE w _ _ al]
  ·have aP:(w.alloc (.map es n)).heap[a.block]?=none:=by
    show (w.heap.push _)[a.block]?=_
    rw [Array.getElem?_eq_none]
    simp; omega
   have b3:w.heap[a.block]?=none:=Array.getElem?_eq_none (by omega)
   rw [aP,b3]
def L_ (o:Obj):Prop:=(∃ arr e,o=.cells arr e (0,0))\/∃ es n,o=.map es n
theorem Fr.alloc (w:World) (o:Obj) (U:br) (bh:L_ o):Fr w (w.alloc o) U:=by
 refine ⟨rfl,rfl,rfl,by simp,λb aJ _=>rE w o b aJ,λa _=>?_,Nat.le_refl _⟩
 rcases bh with ⟨arr,e,rfl⟩ | ⟨es,n,rfl⟩
 ·exact E6 w arr e a
 ·exact P_ w es n a
theorem R.T3 {w:World}{I:br}{ρ:aj->Value->Prop}{x:aj}{v:Value}{F:br}(h:R w I ρ x v F):∀ c,F c->∃ o,w.heap[c]?=some o/\L_ o:=by
 induction h with
 | mp bh _ aQ =>
  intro c ab
  cases (aQ c).1 ab
  exact ⟨_,bh,.inr ⟨_,_,rfl⟩⟩
 | lit _ aQ | aI aQ | dead aQ | ref _ _ aQ | hY aQ | aF aQ | bo aQ | ey aQ | imp aQ=>exact λc ab=>absurd ab (aQ c)
 | own bh ao h1 ay aY aJ aQ aR =>
  intro c ab
  rcases (aQ c).1 ab with h | ⟨k,hk,h⟩
  ·obtain ⟨_,b6⟩:=bh
   rcases b6 with ⟨rfl,_⟩ | ⟨b,cap,cur,rfl,_,gx,_⟩
   ·simp [Value.ownBlock] at h
   ·simp only [Value.ownBlock,Option.some.injEq] at h
    subst h
    exact ⟨_,gx,.inl ⟨_,_,rfl⟩⟩
  ·exact aR k _ _ (List.getElem?_eq_getElem hk) (List.getElem?_eq_getElem (ao ▸ hk)) c h
 | obj bh ao h1 ay aY aJ aQ aR =>
  intro c ab
  rcases (aQ c).1 ab with rfl | ⟨k,hk,h⟩
  ·exact ⟨_,bh,.inl ⟨_,_,rfl⟩⟩
  ·exact aR k _ _ (List.getElem?_eq_getElem hk) (Array.getElem?_eq_getElem (ao ▸ hk)) c h
 | agg ao h1 ay aY aQ aR =>
  intro c ab
  obtain ⟨k,hk,h⟩:=(aQ c).1 ab
  exact aR k _ _ (List.getElem?_eq_getElem hk) (Array.getElem?_eq_getElem (ao ▸ hk)) c h
 | cG ao ay aY aQ aR =>
  intro c ab
  obtain ⟨k,hk,h⟩:=(aQ c).1 ab
  exact aR k _ _ (List.getElem?_eq_getElem hk) (Array.getElem?_eq_getElem (ao ▸ hk)) c h
theorem Fr.drew {w w':World}{U:br}(h:Fr w w' U):Fr w w'.drew U:=⟨h.os,h.tape,h.output,h.size,h.block,h.eF,Nat.le_succ_of_le h.xj⟩
section
variable {w:World}{I:br}{T:Array Value}{g:aZ}{Fs:Nat->br}
theorem c_.j0 (h:c_ w I T g Fs):∀ t c,Fs t c->c<w.heap.size:=by
 intro t c ab
 cases J:g t with
 | none=>exact absurd ab (h.kO t J c)
 | some y=>obtain ⟨u,_,d'⟩:=h.rel t y J; exact d'.lt c ab
theorem c_.world (h:c_ w I T g Fs) {w':World}(aQ:∀ t c,Fs t c->w'.heap[c]?=w.heap[c]?) (bt:∀ c,I c->w'.heap[c]?=w.heap[c]?) (gv:w.heap.size<=w'.heap.size):c_ w' I T g Fs :=
  ⟨λt x J=>by
    obtain ⟨v,hv,bj⟩:=h.rel t x J
    exact ⟨v,hv,h.vc (λ_ _=>rfl) aQ bt (λ_ h=>h) (λ_ _ h=>h) bj λc ab=>aQ t c ab⟩,
   h.kO,h.e8,h.aF,λc ab=>Nat.lt_of_lt_of_le (h.lt c ab) gv,h.qk⟩
theorem c_.alloc (h:c_ w I T g Fs) (o:Obj):c_ (w.alloc o) I T g Fs :=
 h.world (λt c ab=>rE w o c (h.j0 t c ab)) (λc ab=>rE w o c (h.lt c ab)) (by simp)
theorem c_.s6 (h:c_ w I T g Fs) {d:Nat}{x:aj}{v:Value}{F:br}(aY:g d=none) (RI:d<T.size)
  (bj:jH w I (er w T g) x v F) (q0:∀ t c,F c->¬ Fs t c) (R9:∀ c,F c->¬ I c)
  (aH:∀ z p n m new,x=.bR z p n m new->∀ t cN cY m' dq,g t≠some (.bR cN p cY m' dq)) :
  c_ w I (T.setIfInBounds d v) (e' g d x) (td Fs d F):=by
 have fP:∀ t,g t≠none->(T.setIfInBounds d v)[t]?=T[t]?:=by
  intro t aE
  rw [Array.getElem?_setIfInBounds_ne]
  rintro rfl; exact aE aY
 refine ⟨?_,?_,?_,?_,h.lt,?_⟩
 ·intro t y az
  unfold e' at az
  split at az
  ·rename_i sU
   subst sU
   cases az
   exact ⟨v,by simp [RI],by simpa [td] using h.vc fP (λ_ _ _=>rfl) (λ_ _=>rfl) (λ_ h=>h) (MX aY) bj λ_ _=>rfl⟩
  ·rename_i sU
   obtain ⟨u,hu,d'⟩:=h.rel t y az
   exact ⟨u,by rw [fP t (by rw [az]; simp)]; exact hu,by simpa [td,sU] using h.vc fP (λ_ _ _=>rfl) (λ_ _=>rfl) (λ_ h=>h) (MX aY) d' λ_ _=>rfl⟩
 ·intro t aE c
  unfold e' at aE
  split at aE
  ·cases aE
  ·rename_i sU; simpa [td,sU] using h.kO t aE c
 ·intro t ds c ab fu
  by_cases h1:t=d <;> by_cases al:ds=d <;> simp [td,h1,al] at ab fu
  ·rw [h1,al]
  ·exact absurd fu (q0 ds c ab)
  ·exact absurd ab (q0 t c fu)
  ·exact h.e8 t ds c ab fu
 ·intro t c ab hi
  by_cases h1:t=d <;> simp [td,h1] at ab
  ·exact R9 c ab hi
  ·exact h.aF t c ab hi
 ·intro t ds z p n m new cN cY m' dq h1 al
  unfold e' at h1 al
  split at h1 <;> split at al
  ·rename_i a b; rw [a,b]
  ·cases h1; exact absurd al (aH z p n m new rfl ds cN cY m' dq)
  ·cases al; exact absurd h1 (aH cN p cY m' dq rfl t z n m new)
  ·exact h.qk _ _ _ _ _ _ _ _ _ _ _ h1 al
end
def lW:aj->Option (List aj)
 | .agg cs=>some cs
 | .lit v=>some [.lit v]
 | .aI=>some [.aI]
 | .aF z n cs=>some [.aF z n cs]
 | .bo cs=>some [.bo cs]
 | .ptr p k=>some [.ptr p k]
 | .bl z p n=>some [.bl z p n]
 | .sub z p l n=>some [.sub z p l n]
 | .ey f a b=>some [.ey f a b]
 | _=>none
theorem R.lW {w:World}{I:br}{ρ:aj->Value->Prop}{y:aj}{v:Value}{F:br}(h:R w I ρ y v F) (aQ:∀ c,¬ F c) (lz:∀ x v,x.isRef=true->ρ x v->v.oneCell'=true) {cs:List aj}(ab:lW y=some cs) :
  cs.length=v.cells.size/\(∀ (k:Nat) (u:Value),v.cells[k]?=some u->u.oneCell'=true)/\(∀ (k:Nat) (x:aj) (u:Value),cs[k]?=some x->v.cells[k]?=some u->R w I ρ x u cW):=by
 have one:∀ {y:aj},R w I ρ y v F->v.oneCell'=true->[y].length=v.cells.size/\(∀ (k:Nat) (u:Value),v.cells[k]?=some u->u.oneCell'=true)/\(∀ (k:Nat) (x:aj) (u:Value),[y][k]?=some x->v.cells[k]?=some u->R w I ρ x u cW):=by
  intro y h h1
  have xz:v.cells=#[v]:=by cases v <;> first | rfl | (simp [Value.oneCell'] at h1)
  refine ⟨by simp [xz],λk u hu=>?_,λk x u J hu=>?_⟩
  ·rw [xz] at hu
   cases k with
   | zero=>simp at hu; subst hu; exact h1
   | succ k=>simp at hu
  rw [xz] at hu
  cases k with
  | zero=>simp at J hu; subst J hu; exact h.empty aQ
  | succ k=>simp at J
 cases y <;> simp only [Go.Own.lW,Option.some.injEq,reduceCtorEq] at ab
 case agg l =>
  subst ab
  obtain ⟨vs,rfl,ao,h1,ay⟩:=h.Ap aQ
  exact ⟨ao,h1,ay⟩
 case lit a=>subst ab; exact one h (by obtain ⟨rfl,h1⟩:=h.im; exact h1)
 case aI=>subst ab; exact one h (by rw [h.q8]; rfl)
 case aF z n l=>subst ab; exact one h (by obtain ⟨a,cap,rfl,_⟩:=h.xQ; rfl)
 case bo l=>subst ab; exact one h (by obtain ⟨ad,us,rfl,_⟩:=h.vC; rfl)
 case ptr p k=>subst ab; exact one h (lz _ _ rfl h.ni)
 case bl z p n=>subst ab; exact one h (lz _ _ rfl h.mG)
 case sub z p l n=>subst ab; exact one h (lz _ _ rfl h.vD)
 case ey f a b =>
  subst ab
  refine one h ?_
  cases h with
  | ey=>rfl
  | ref J=>simp [aj.isRef] at J
theorem er.Dx {w:World}{T:Array Value}{g:aZ}{x:aj}{v:Value}(J:x.isRef=true) (h:er w T g x v):v.oneCell'=true:=by
 obtain ⟨h,_⟩:=h
 cases x <;> simp [aj.isRef] at J
 case ptr p k=>obtain ⟨_,_,_,_,rfl⟩:=h; rfl
 case bl z p n=>obtain ⟨_,_,_,_,rfl,_⟩:=h; rfl
 case sub z p lo n=>obtain ⟨_,_,_,_,_,_,rfl,_⟩:=h; rfl
 case hN p=>obtain ⟨_,_,rfl⟩:=h; rfl
def o_:List aj->Option (List aj)
 | []=>some []
 | y::ys =>
  match lW y,o_ ys with
  | some a,some b=>some (a++b)
  | _,_=>none
def iP (g:aZ):List Operand->Option (List aj)
 | []=>some []
 | x::xs =>
  match bO g x,iP g xs with
  | some y,some ys=>some (y::ys)
  | _,_=>none
def xr (place:Nat->Option (Nat × Nat)) (cells:List aj):List (Nat × List aj)->Option (List aj)
 | []=>some cells
 | (i,c)::rest =>
  match place i with
  | none=>none
  | some (off,size)=>if c.length=size/\off+c.length<=cells.length then xr place (cells.take off++c++cells.drop (off+c.length)) rest else none
def re (g:aZ):List (Nat × Operand)->Option (List (Nat × List aj))
 | []=>some []
 | (i,x)::xs =>
  match bO g x,re g xs with
  | some y,some ys=>(lW y).map λc=>(i,c)::ys
  | _,_=>none
def j5 (P:Program) (t:TypeId) (pl:List (Nat × Nat)):Bool :=
 match P.underlying t with
 | some (.struct fs)=>fs.toList.map (λf=>(f.offset,(P.info? f.type).map (·.size))) == pl.map λ(a,b)=>(a,some b)
 | _=>false
inductive o2 (P:Program) (g:aZ):Op->TypeId->aj->Prop
 | box {e ty:TypeId}{x:Operand}{y:aj}{cs:List aj}(J:bO g x=some y) (ab:lW y=some cs):o2 P g (.box e x) ty (.obj cs)
 | alloc {e ty:TypeId}{z:Value}(bJ:(P.info? e).bind (·.zero)=some z) (h1:z.cells.all Value.oneCell'=true):o2 P g (.alloc e) ty (.obj (z.cells.toList.map n'))
 | buildSlice {t e ty:TypeId}{z:Nat}{parts:Array (Nat × Operand)}{xs:List Operand}{ys:List aj}{cs:List aj}(aE:fB P t e z=true)
   (aH:parts.toList=xs.mapIdx (λi x=>(i,x))) (J:iP g xs=some ys) (bJ:∀ y∈ys,∃ c,lW y=some c/\c.length=z) (ab:o_ ys=some cs) (aJ:xs.length * z<=16777216) (aL:xs.length<=16777216) (hzero:xs.length * z=0\/∃ v,(P.info? e).bind (·.zero)=some v/\v.cells.size=z) :
   o2 P g (.buildSlice t xs.length parts) ty (.own z xs.length cs)
 | makeSlice {t e ty:TypeId}{x y:Operand}{z n b:Nat}{uo q_:IntKind}{ep:Value}(aE:fB P t e z=true) (J:bO g x=some (.lit (.int uo (n:Int)))) (az:bO g y=some (.lit (.int q_ (n:Int))))
   (hzero:(P.info? e).bind (·.zero)=some ep) (h1:ep.cells.all Value.oneCell'=true) (n9:ep.cells.size=z) (aJ:(P.info? e).map (·.bytes)=some b) (aL:n * b<=140737488355328) (nD:n<=4611686018427387904) {wI:List aj}(s3:wI.length=ep.cells.size)
   (C':∀ (k:Nat) (u:Value) (x:aj),ep.cells[k]?=some u->wI[k]?=some x->x=n' u\/(n' u=.aI/\∃ cN,x=.aF cN 0 [])) :
   o2 P g (.makeSlice t x y) ty (.own z n (List.replicate n wI).flatten)
 | makeMap {t ty:TypeId}{q:Array MapEntry->Nat->Prop}(bN:q #[] 0):o2 P g (.makeMap t none) ty (.mp q)
inductive tp (P:Program) (g:aZ):Op->TypeId->aj->Prop
 | build {t ty:TypeId}{parts:Array (Nat × Operand)}{pl:List (Nat × Nat)}{ep:Value}{ps:List (Nat × List aj)}{cs:List aj}(aE:j5 P t pl=true) (bJ:(P.info? t).bind (·.zero)=some ep) (h1:ep.cells.all Value.oneCell'=true)
   (aH:re g parts.toList=some ps) (ab:xr (λi=>pl[i]?) (ep.cells.toList.map n') ps=some cs):tp P g (.build t parts) ty (.agg cs)
 | makeFunc {fn:Fn}{first caps:Array Operand}{ty:TypeId}{a b:List aj}(bm:iP g first.toList=some a) (aJ:iP g caps.toList=some b):tp P g (.makeFunc fn first caps) ty (.ey fn a b)
section
variable {P:Program}{w:World}{I:br}{T:Array Value}{g:aZ}{Fs:Nat->br}
theorem x1 (h:c_ w I T g Fs) {a:Act}(bm:a.tmps=T):∀ {xs:List Operand}{ys:List aj},iP g xs=some ys->ys.length=xs.length/\∀ (k:Nat) (y:aj) (x:Operand),ys[k]?=some y->xs[k]?=some x->R w I (er w T g) y (a.eval x) cW
 | [],ys,az=>by simp only [iP,Option.some.injEq] at az; subst az; simp
 | x::xs,ys,az=>by
  simp only [iP] at az
  cases J:bO g x with
  | none=>simp [J] at az
  | some y =>
   cases q6:iP g xs with
   | none=>simp [J,q6] at az
   | some BL =>
    simp only [J,q6,Option.some.injEq] at az
    subst az
    obtain ⟨h1,al⟩:=x1 h bm q6
    refine ⟨by simp [h1],λk y' x' mF f'=>?_⟩
    cases k with
    | zero=>simp at mF f'; subst mF f'; exact ke h J bm
    | succ k=>simp at mF f'; exact al k y' x' mF f'
theorem R.alloc (h:c_ w I T g Fs) (o:Obj) {x:aj}{v:Value}{F:br}(bj:R w I (er w T g) x v F) (aQ:∀ c,F c->c<w.heap.size):R (w.alloc o) I (er (w.alloc o) T g) x v F :=
 h.frame (λ_ _=>rfl) (λt c ab=>rE w o c (h.j0 t c ab)) (λc ab=>rE w o c (h.lt c ab)) (λ_ h=>h) (λ_ _ h=>h) bj λc ab=>rE w o c (aQ c ab)
theorem LW {ρ:aj->Value->Prop}{vs:List Value}:∀ (k:Nat) (x:aj) (u:Value),(vs.map n')[k]?=some x->vs[k]?=some u->R w I ρ x u cW:=by
 intro k x u J hu
 rw [List.getElem?_map,hu] at J
 simp only [Option.map_some,Option.some.injEq] at J
 subst J
 exact AI u
theorem R.LV {ρ:aj->Value->Prop}{cs:List aj}{b:Nat}{e:TypeId}{arr:Array Value}(bh:w.heap[b]?=some (.cells arr e (0,0))) (ao:cs.length=arr.size) (h1:∀ (k:Nat) (u:Value),arr[k]?=some u->u.oneCell'=true)
  (ay:∀ (k:Nat) (x:aj) (u:Value),cs[k]?=some x->arr[k]?=some u->R w I ρ x u cW):R w I ρ (.obj cs) (.pointer (some ⟨b,0,none⟩)) (λc=>c=b) :=
 .obj (Fs:=λ_=>cW) bh ao h1 ay (λ_ _ _ _ _ h=>h.elim) (λ_ _ h=>h) (λ_=>⟨λh=>.inl h,λh=>h.elim id λ⟨_,_,h⟩=>h.elim⟩)
theorem R.L4 {ρ:aj->Value->Prop}{z n:Nat}{cs:List aj}{b cap:Nat}{e:TypeId}{arr:Array Value}(bh:w.heap[b]?=some (.cells arr e (0,0))) (aL:n<=cap) (ab:cap<=maxLen) (aM:arr.size=cap * z) (ao:cs.length=n * z) (h1:∀ (k:Nat) (u:Value),arr[k]?=some u->u.oneCell'=true)
  (ay:∀ (k:Nat) (x:aj) (u:Value),cs[k]?=some x->arr[k]?=some u->R w I ρ x u cW):R w I ρ (.own z n cs) (.slice (some ⟨b,0,none⟩) n cap) (λc=>c=b):=by
 have hle:n * z<=arr.size:=by rw [aM]; exact Nat.mul_le_mul_right _ aL
 refine .own (e:=e) (us:=arr.toList.take (n * z)) (Fs:=λ_=>cW) ⟨by simp; omega,.inr ⟨b,cap,arr,rfl,Nat.zero_le _,bh,aL,ab,aM,rfl⟩⟩ (by simp; omega) (λk u hu=>?_) ?_ (λ_ _ _ _ _ h=>h.elim) (λ_ _ _ h=>h.elim) (λc=>?_)
 ·rw [List.getElem?_take] at hu
  split at hu
  ·exact h1 k u (by simpa using hu)
  ·cases hu
 ·intro k x u J hu
  rw [List.getElem?_take] at hu
  split at hu
  ·exact ay k x u J (by simpa using hu)
  ·cases hu
 ·simp only [Value.ownBlock,Option.some.injEq]
  exact ⟨λh=>.inl h.symm,λh=>h.elim Eq.symm λ⟨_,_,h⟩=>h.elim⟩
theorem I4 {ρ:aj->Value->Prop}(lz:∀ x v,x.isRef=true->ρ x v->v.oneCell'=true):∀ {ys:List aj}{vs:List Value}{cs:List aj},ys.length=vs.length->(∀ (k:Nat) (y:aj) (v:Value),ys[k]?=some y->vs[k]?=some v->R w I ρ y v cW)->o_ ys=some cs ->
  cs.length=(vs.flatMap λv=>v.cells.toList).length/\(∀ (k:Nat) (u:Value),(vs.flatMap λv=>v.cells.toList)[k]?=some u->u.oneCell'=true)/\∀ (k:Nat) (x:aj) (u:Value),cs[k]?=some x->(vs.flatMap λv=>v.cells.toList)[k]?=some u->R w I ρ x u cW
 | [],vs,cs,ao,ay,ab=>by
  cases vs with
  | nil=>simp only [o_,Option.some.injEq] at ab; subst ab; simp
  | cons=>simp at ao
 | y::ys,vs,cs,ao,ay,ab=>by
  cases vs with
  | nil=>simp at ao
  | cons v vs =>
   simp only [o_] at ab
   cases bm:lW y with
   | none=>simp [bm] at ab
   | some a =>
    cases aJ:o_ ys with
    | none=>simp [bm,aJ] at ab
    | some b =>
     simp only [bm,aJ,Option.some.injEq] at ab
     subst ab
     obtain ⟨h1,zA,al⟩:=(ay 0 y v rfl rfl).lW (λ_ h=>h) lz bm
     obtain ⟨aP,Ql,b3⟩:=I4 lz (by simpa using ao) (λk y' hQ az hv=>ay (k+1) y' hQ az hv) aJ
     refine ⟨by simp [h1,aP],λk u hu=>?_,λk x u J hu=>?_⟩
     ·simp only [List.flatMap_cons] at hu
      by_cases hk:k<v.cells.toList.length
      ·rw [List.getElem?_append_left hk] at hu
       exact zA k u (by simpa using hu)
      ·rw [List.getElem?_append_right (by omega)] at hu
       exact Ql _ u hu
     simp only [List.flatMap_cons] at hu
     by_cases hk:k<a.length
     ·rw [List.getElem?_append_left hk] at J
      rw [List.getElem?_append_left (by simp; omega)] at hu
      exact al k x u J (by simpa using hu)
     ·rw [List.getElem?_append_right (by omega)] at J
      rw [List.getElem?_append_right (by simp; omega)] at hu
      refine b3 (k - a.length) x u J ?_
      rw [<- hu]; simp [h1]
end
end Go.Own
namespace Go.Own
open Go
theorem Kb (off:Nat):∀ (l:List Value) (s:Nat) (arr:Array Value),off+s+l.length<=arr.size ->
  ((l.zipIdx s).foldl (λcs (x:Value × Nat)=>cs.setIfInBounds (off+x.2) x.1) arr).toList=arr.toList.take (off+s)++l++arr.toList.drop (off+s+l.length)
 | [],s,arr,h=>by simp
 | v::l,s,arr,h=>by
  simp only [List.length_cons] at h
  rw [List.zipIdx_cons,List.foldl_cons,Kb off l (s+1) _ (by simp; omega)]
  simp only [Array.toList_setIfInBounds,List.length_cons]
  have h1:(arr.toList.set (off+s) v).take (off+(s+1))=arr.toList.take (off+s)++[v]:=by
   rw [show off+(s+1)=off+s+1 by omega,List.take_succ_eq_append_getElem (by simp; omega)]
   rw [List.take_set_of_le (Nat.le_refl _)]
   simp
  have al:(arr.toList.set (off+s) v).drop (off+(s+1)+l.length)=arr.toList.drop (off+s+(l.length+1)):=by
   rw [List.drop_set_of_lt (by omega)]
   congr 1; omega
  rw [h1,al]
  simp
theorem J' {place:Nat->Option (Nat × Nat)}{i off size:Nat}(aH:place i=some (off,size)) {arr:Array Value}{v:Value}(h1:v.cells.size=size) (al:off+v.cells.size<=arr.size) (rest:List (Nat × Value)) :
  ∃ jt:Array Value,Instr.fill place arr ((i,v)::rest)=Instr.fill place jt rest/\jt.toList=arr.toList.take off++v.cells.toList++arr.toList.drop (off+v.cells.size):=by
 refine ⟨_,by simp only [Instr.fill,aH]; rw [if_neg (by simp; omega)],?_⟩
 have:=Kb off v.cells.toList 0 arr (by simpa using al)
 rw [<- Array.foldl_toList,Array.toList_zipIdx]
 simpa using this
theorem J_ (z:Nat):∀ (vs:List Value) (k:Nat) (arr:Array Value) (done rest:List Value),(∀ v∈vs,v.cells.size=z)->arr.toList=done++rest->done.length=k * z->rest.length=vs.length * z ->
  ∃ jt:Array Value,Instr.fill (λi=>some (i * z,z)) arr (vs.mapIdx λi v=>(k+i,v))=some jt/\jt.toList=done++vs.flatMap λv=>v.cells.toList
 | [],k,arr,done,rest,_,h1,al,aP=>by
  have:rest=[]:=List.eq_nil_of_length_eq_zero (by simpa using aP)
  subst this
  exact ⟨arr,rfl,by simpa using h1⟩
 | v::vs,k,arr,done,rest,bJ,h1,al,aP=>by
  have hv:=bJ v (by simp)
  have hlen:arr.size=done.length+rest.length:=by rw [<- Array.length_toList,h1,List.length_append]
  simp only [List.length_cons,Nat.add_mul,Nat.one_mul] at aP
  rw [List.mapIdx_cons]
  obtain ⟨B8,dy,de⟩:=J' (place:=λi=>some (i * z,z)) (i:=k+0) (off:=k * z) (size:=z) (by simp) (arr:=arr) (v:=v) hv (by omega) ((vs.mapIdx λi v=>(k+(i+1),v)))
  have sy:B8.toList=(done++v.cells.toList)++rest.drop z:=by
   rw [de,h1,<- al,List.take_left,hv,List.drop_append]
   simp
  obtain ⟨jt,jM,p2⟩:=J_ z vs (k+1) B8 (done++v.cells.toList) (rest.drop z) (λu hu=>bJ u (by simp [hu])) sy (by simp [al,hv,Nat.add_mul]) (by simp; omega)
  refine ⟨jt,?_,by rw [p2]; simp⟩
  rw [dy,<- jM]
  congr 1
  congr 1
  funext i u
  congr 1; omega
theorem Eg {vs:Array Value}(h:vs.all Value.oneCell'=true):∀ (k:Nat) (u:Value),vs[k]?=some u->u.oneCell'=true :=
 λ_ u hu=>Array.all_eq_true_iff_forall_mem.1 h u (Array.mem_of_getElem? hu)
theorem Eu {P:Program}{e:TypeId}{z:Value}(h:(P.info? e).bind (·.zero)=some z) (w:World):(zeroValue e).run P w=.ok z w:=by
 cases hi:P.info? e with
 | none=>simp [hi] at h
 | some i=>simp [hi] at h; simp [zeroValue,typeInfo,hi,h]
theorem Kd {α:Type}(l:List α):∀ (n k:Nat),k<n * l.length->(List.replicate n l).flatten[k]?=l[k % l.length]?
 | 0,k,h=>by simp at h
 | n+1,k,h=>by
  rw [List.replicate_succ,List.flatten_cons]
  by_cases hk:k<l.length
  ·rw [List.getElem?_append_left hk,Nat.mod_eq_of_lt hk]
  ·rw [List.getElem?_append_right (by omega),Kd l n (k - l.length) (by rw [Nat.add_mul] at h; omega)]
   rw [<- Nat.mod_eq_sub_mod (by omega)]
section
variable {P:Program}{w:World}{I:br}{T:Array Value}{g:aZ}{Fs:Nat->br}
theorem Ol {ys cs:List aj}{z:Nat}(bJ:∀ y∈ys,∃ c,lW y=some c/\c.length=z) (ab:o_ ys=some cs):cs.length=ys.length * z:=by
 induction ys generalizing cs with
 | nil=>simp [o_] at ab; subst ab; simp
 | cons y ys aR =>
  obtain ⟨c,h1,al⟩:=bJ y (by simp)
  simp only [o_,h1] at ab
  cases aJ:o_ ys with
  | none=>simp [aJ] at ab
  | some b =>
   simp only [aJ,Option.some.injEq] at ab
   subst ab
   rw [List.length_append,aR (λy az=>bJ y (by simp [az])) aJ,al,List.length_cons,Nat.add_mul]
   omega
theorem o2.sound (h:c_ w I T g Fs) {a:Act}(bm:a.tmps=T) {o:Oper}{kk:aj}(aH:o2 P g o.op o.type kk) :
  ∃ v rb,(execOp a.eval o).run P w=.ok (.value v) (w.alloc rb)/\R (w.alloc rb) I (er (w.alloc rb) T g) kk v (λc=>c=w.heap.size):=by
 obtain ⟨dst,op,ty,pos,after,guard⟩:=o
 simp only at aH
 have lQ:∀ (rb:Obj) {x:aj}{v:Value},R w I (er w T g) x v cW->R (w.alloc rb) I (er (w.alloc rb) T g) x v cW:=λrb _ _ bj=>R.alloc h rb bj λ_ h=>h.elim
 cases aH with
 | @box e _ x y cs J ab =>
  have az:=ke h J bm
  obtain ⟨h1,zA,al⟩:=az.lW (λ_ h=>h) (λ_ _ J ay=>ay.Dx J) ab
  refine ⟨_,.cells (a.eval x).cells e,by simp [execOp,Instr.box,newVar,newRow],R.LV (e:=e) (sk w _) h1 zA λk x u J hu=>lQ _ (al k x u J hu)⟩
 | @alloc e _ z bJ gW =>
  refine ⟨_,.cells z.cells e,by simp [execOp,Instr.alloc,newVar,newRow,Eu bJ],R.LV (e:=e) (sk w _) (by simp) (Eg gW) λk x u J hu=>lQ _ (LW k x u J (by simpa using hu))⟩
 | @makeMap t _ q bN =>
  have F7:(Instr.makeMap t none).run P w=.ok (.map (some w.heap.size)) (w.alloc (.map #[] 0)):=rfl
  exact ⟨.map (some w.heap.size),.map #[] 0,by simp [execOp,F7],.mp (sk w _) bN λc=>Iff.rfl⟩
 | @buildSlice t e _ z parts xs ys cs aE aH J bJ ab aJ F' hzero =>
  obtain ⟨hu,he,gv⟩:=pH (w:=w) aE
  obtain ⟨ao,ay⟩:=x1 h bm J
  have h3:=Ol bJ ab
  have SE:∀ v∈xs.map a.eval,v.cells.size=z:=by
   intro v hv
   obtain ⟨x,GC,rfl⟩:=List.mem_map.1 hv
   obtain ⟨k,hk,rfl⟩:=List.mem_iff_getElem.1 GC
   have mF:ys[k]?=some (ys[k]'(by omega)):=List.getElem?_eq_getElem (by omega)
   obtain ⟨c,h1,al⟩:=bJ _ (List.getElem_mem (l:=ys) (n:=k) (by omega))
   obtain ⟨aP,_,_⟩:=(ay k _ _ mF (List.getElem?_eq_getElem hk)).lW (λ_ h=>h) (λ_ _ J ay=>ay.Dx J) h1
   rw [<- aP,al]
  obtain ⟨ep,Tf⟩:∃ ep:Array Value,(xs.length * z=0/\ep=#[])\/(xs.length * z≠0/\∃ v,ep=v.cells/\(zeroValue e).run P w=.ok v w):=by
   by_cases bd:xs.length * z=0
   ·exact ⟨#[],.inl ⟨bd,rfl⟩⟩
   ·rcases hzero with h1 | ⟨v,h1,al⟩
    ·exact absurd h1 bd
    ·exact ⟨v.cells,.inr ⟨bd,v,rfl,Eu h1 w⟩⟩
  obtain ⟨arr,dy,de⟩:=J_ z (xs.map a.eval) 0 ((Array.range (xs.length * z)).map (ep[· % ep.size]!)) [] ((Array.range (xs.length * z)).map (ep[· % ep.size]!)).toList SE (by simp) (by simp) (by simp)
  have La:(parts.map λ(p:Nat × Operand)=>(p.1,a.eval p.2)).toList=(xs.map a.eval).mapIdx λi v=>(0+i,v):=by
   rw [Array.toList_map,aH]
   apply List.ext_getElem?
   intro k
   simp only [List.getElem?_map,List.getElem?_mapIdx]
   cases xs[k]? <;> simp
  obtain ⟨hF,ja,RH⟩:=I4 (ρ:=er w T g) (λ_ _ J ay=>ay.Dx J) (ys:=ys) (vs:=xs.map a.eval) (by simp [ao]) (λk y v az hv=>by
   rw [List.getElem?_map] at hv
   cases pr:xs[k]? with
   | none=>simp [pr] at hv
   | some x=>simp [pr] at hv; subst hv; exact ay k y x az pr) ab
  have vg:arr.toList=(xs.map a.eval).flatMap λv=>v.cells.toList:=by simpa using de
  have St:arr.size=xs.length * z:=by rw [<- Array.length_toList,vg,<- hF,h3,ao]
  have h4:(execOp a.eval { dst:=dst,op:=.buildSlice t xs.length parts,type:=ty,pos:=pos,after:=after,guard:=guard }).run P w=.ok (.value (.slice (some ⟨w.heap.size,0,none⟩) xs.length xs.length)) (w.alloc (.cells arr e)):=by
   have hle:¬ (16777216<xs.length * z):=by omega
   rcases Tf with ⟨bd,rfl⟩ | ⟨bd,v,rfl,Te⟩
   ·simp only [bd] at dy
    rw [<- La] at dy
    simp at dy
    simp [execOp,Instr.buildSlice,run_underlying hu,gv,bd,dy,newRow]
   ·rw [<- La] at dy
    simp at dy
    simp [execOp,Instr.buildSlice,run_underlying hu,gv,bd,hle,Te,dy,newRow]
  refine ⟨_,_,h4,R.L4 (e:=e) (arr:=arr) (sk w _) (Nat.le_refl _) ?_ St (by rw [h3,ao]) (λk u hu=>ja k u (by rw [<- vg]; simpa using hu)) λk x u J hu=>lQ _ (RH k x u J ?_)⟩
  ·unfold maxLen; omega
  ·rw [<- vg]; simpa using hu
 | @makeSlice t e _ x y z n b uo q_ ep aE J az hzero gW n9 aJ aL nD wI s3 C' =>
  obtain ⟨hu,he,gv⟩:=pH (w:=w) aE
  have h1:=(ke h J bm).im.1
  have al:=(ke h az bm).im.1
  cases hi:P.info? e with
  | none=>simp [hi] at aJ
  | some i =>
   simp [hi] at aJ hzero
   have FR:i.size=z:=by
    unfold fB at aE
    rw [hu] at aE
    simp [hi] at aE
    exact aE
   have CS:(i.bytes:Int) * (n:Int)<=281474976710656:=by
    have:((b * n:Nat):Int)<=281474976710656:=by have:=Nat.mul_comm n b; omega
    rw [aJ,<- Int.natCast_mul]; exact this
   have ay:=run_make (P:=P) w t e i ep hu hi hzero uo q_ n n (by omega) (Int.le_refl _) CS (by omega)
   simp only [Int.toNat_natCast] at ay
   refine ⟨_,.cells (madeCells ep.cells (n * i.size)) e,by simp [execOp,h1,al,ay],R.L4 (e:=e) (sk w _) (Nat.le_refl _) (by unfold maxLen; omega) (by rw [size_madeCells,FR]) (by simp [n9,s3]) (λk u hu=>?_) λk x u J hu=>?_⟩
   ·rw [madeCells,Array.getElem?_map,Array.getElem?_range] at hu
    split at hu
    ·rename_i hk
     have bd:0<ep.cells.size:=by
      rcases Nat.eq_zero_or_pos ep.cells.size with h | h
      ·rw [FR,<- n9,h] at hk; simp at hk
      ·exact h
     have hm:k % ep.cells.size<ep.cells.size:=Nat.mod_lt _ bd
     simp only [Option.map_some,Option.some.injEq] at hu
     rw [<- hu,show ep.cells[k % ep.cells.size]! = ep.cells[k % ep.cells.size] by simp [hm]]
     exact Eg gW _ _ (Array.getElem?_eq_getElem hm)
    ·cases hu
   have hk:k<n * ep.cells.size:=by
    have:=(List.getElem?_eq_some_iff.1 J).1
    simpa [Nat.mul_comm,s3] using this
   have bd:0<ep.cells.size:=by
    rcases Nat.eq_zero_or_pos ep.cells.size with h | h
    ·rw [h] at hk; simp at hk
    ·exact h
   have hm:k % ep.cells.size<ep.cells.size:=Nat.mod_lt _ bd
   rw [Kd _ n k (by simpa [s3] using hk),s3] at J
   rw [madeCells,Array.getElem?_map,Array.getElem?_range,if_pos (by rw [FR,<- n9]; exact hk)] at hu
   simp only [Option.map_some,Option.some.injEq] at hu
   have fQ:ep.cells[k % ep.cells.size]! = ep.cells[k % ep.cells.size]:=by simp [hm]
   rw [fQ] at hu
   subst hu
   rcases C' _ _ x (Array.getElem?_eq_getElem hm) J with rfl | ⟨h1,cN,rfl⟩
   ·exact lQ _ (AI _)
   ·have bj:=AI (w:=w) (I:=I) (ρ:=er w T g) ep.cells[k % ep.cells.size]
    rw [h1] at bj
    rw [bj.q8]
    exact .hY λ_ h=>h
def Cells (w:World) (I:br) (ρ:aj->Value->Prop) (cs:List aj) (vs:List Value):Prop :=
 cs.length=vs.length/\(∀ (k:Nat) (u:Value),vs[k]?=some u->u.oneCell'=true)/\∀ (k:Nat) (x:aj) (u:Value),cs[k]?=some x->vs[k]?=some u->R w I ρ x u cW
theorem Cells.append {ρ:aj->Value->Prop}{a b:List aj}{u v:List Value}(h:Cells w I ρ a u) (aS:Cells w I ρ b v):Cells w I ρ (a++b) (u++v):=by
 refine ⟨by simp [h.1,aS.1],λk y az=>?_,λk x y J az=>?_⟩
 ·by_cases hk:k<u.length
  ·rw [List.getElem?_append_left hk] at az; exact h.2.1 k y az
  ·rw [List.getElem?_append_right (by omega)] at az; exact aS.2.1 _ y az
 ·by_cases hk:k<a.length
  ·rw [List.getElem?_append_left hk] at J
   rw [List.getElem?_append_left (by rw [<- h.1]; exact hk)] at az
   exact h.2.2 k x y J az
  ·rw [List.getElem?_append_right (by omega)] at J
   rw [List.getElem?_append_right (by rw [<- h.1]; omega)] at az
   exact aS.2.2 _ x y J (by rw [h.1]; exact az)
theorem Cells.take {ρ:aj->Value->Prop}{a:List aj}{u:List Value}(h:Cells w I ρ a u) (n:Nat):Cells w I ρ (a.take n) (u.take n):=by
 refine ⟨by simp [h.1],λk y az=>?_,λk x y J az=>?_⟩
 ·rw [List.getElem?_take] at az
  split at az
  ·exact h.2.1 k y az
  ·cases az
 ·rw [List.getElem?_take] at J az
  split at J
  ·rename_i hk; rw [if_pos hk] at az; exact h.2.2 k x y J az
  ·cases J
theorem Cells.drop {ρ:aj->Value->Prop}{a:List aj}{u:List Value}(h:Cells w I ρ a u) (n:Nat):Cells w I ρ (a.drop n) (u.drop n):=by
 refine ⟨by simp [h.1],λk y az=>?_,λk x y J az=>?_⟩
 ·rw [List.getElem?_drop] at az; exact h.2.1 _ y az
 ·rw [List.getElem?_drop] at J az
  exact h.2.2 _ x y J az
theorem J9 {ρ:aj->Value->Prop}{place:Nat->Option (Nat × Nat)}:∀ (ps:List (Nat × List aj)) (r_:List (Nat × Value)) {cells cs:List aj}{arr:Array Value},Cells w I ρ cells arr.toList ->
  ps.map (·.1)=r_.map (·.1)->(∀ (k:Nat) (p:Nat × List aj) (q:Nat × Value),ps[k]?=some p->r_[k]?=some q->Cells w I ρ p.2 q.2.cells.toList)->xr place cells ps=some cs ->
  ∃ jt:Array Value,Instr.fill place arr r_=some jt/\Cells w I ρ cs jt.toList
 | [],r_,cells,cs,arr,ab,hk,_,bn=>by
  cases r_ with
  | nil=>simp only [xr,Option.some.injEq] at bn; subst bn; exact ⟨arr,rfl,ab⟩
  | cons=>simp at hk
 | (i,c)::ps,r_,cells,cs,arr,ab,hk,ay,bn=>by
  cases r_ with
  | nil=>simp at hk
  | cons q r_ =>
   obtain ⟨af,v⟩:=q
   simp only [List.map_cons,List.cons.injEq] at hk
   obtain ⟨rfl,hk⟩:=hk
   have bd:=ay 0 _ _ rfl rfl
   simp only [xr] at bn
   cases aH:place i with
   | none=>simp [aH] at bn
   | some os =>
    obtain ⟨off,size⟩:=os
    simp only [aH] at bn
    split at bn
    ·rename_i Wc
     have hlen:v.cells.size=c.length:=by rw [<- Array.length_toList]; exact bd.1.symm
     have Wr:arr.size=cells.length:=by rw [<- Array.length_toList]; exact ab.1.symm
     obtain ⟨B8,dy,de⟩:=J' (arr:=arr) (v:=v) aH (by omega) (by omega) r_
     have ja:Cells w I ρ (cells.take off++c++cells.drop (off+c.length)) B8.toList:=by
      rw [de,hlen]
      exact ((ab.take off).append bd).append (ab.drop _)
     obtain ⟨jt,jM,p2⟩:=J9 ps r_ ja hk (λk p q aH bN=>ay (k+1) p q aH bN) bn
     exact ⟨jt,by rw [dy,jM],p2⟩
    ·cases bn
theorem L6 (h:c_ w I T g Fs) {a:Act}(bm:a.tmps=T):∀ {l:List (Nat × Operand)}{ps:List (Nat × List aj)},re g l=some ps ->
  ps.map (·.1)=(l.map λp=>(p.1,a.eval p.2)).map (·.1)/\∀ (k:Nat) (p:Nat × List aj) (q:Nat × Value),ps[k]?=some p->(l.map λp=>(p.1,a.eval p.2))[k]?=some q->Cells w I (er w T g) p.2 q.2.cells.toList
 | [],ps,aH=>by simp only [re,Option.some.injEq] at aH; subst aH; simp
 | (i,x)::l,ps,aH=>by
  simp only [re] at aH
  cases J:bO g x with
  | none=>simp [J] at aH
  | some y =>
   cases ao:re g l with
   | none=>simp [J,ao] at aH
   | some WS =>
    simp only [J,ao,Option.map_eq_some_iff] at aH
    obtain ⟨c,ab,rfl⟩:=aH
    obtain ⟨h1,al⟩:=L6 h bm ao
    refine ⟨by simp [h1],λk p q aH bN=>?_⟩
    cases k with
    | zero =>
     simp at aH bN
     subst aH bN
     obtain ⟨aP,Qk,b3⟩:=(ke h J bm).lW (λ_ h=>h) (λ_ _ J ay=>ay.Dx J) ab
     exact ⟨by simpa using aP,λk u hu=>Qk k u (by simpa using hu),λk x u J hu=>b3 k x u J (by simpa using hu)⟩
    | succ k=>simp at aH bN; exact al k p q aH (by simpa using bN)
theorem UE {t:TypeId}{pl:List (Nat × Nat)}(h:j5 P t pl=true):∃ fs,P.underlying t=some (.struct fs)/\fs.toList.mapM (λf=>(P.info? f.type).map λi=>(f.offset,i.size))=some pl:=by
 unfold j5 at h
 cases hu:P.underlying t with
 | none=>simp [hu] at h
 | some d =>
  cases d <;> simp only [hu,Bool.false_eq_true] at h
  rename_i fs
  refine ⟨fs,rfl,?_⟩
  replace h:=LawfulBEq.eq_of_beq h
  generalize fs.toList=l at h
  induction l generalizing pl with
  | nil=>cases pl with
   | nil=>rfl
   | cons=>simp at h
  | cons f l aR =>
   cases pl with
   | nil=>simp at h
   | cons p pl =>
    obtain ⟨o,s⟩:=p
    simp only [List.map_cons,List.cons.injEq,Prod.mk.injEq] at h
    obtain ⟨⟨rfl,h1⟩,al⟩:=h
    have:=aR al
    rw [List.mapM_cons,this]
    cases hi:P.info? f.type with
    | none=>simp [hi] at h1
    | some i=>simp [hi] at h1; subst h1; rfl
theorem tp.sound (h:c_ w I T g Fs) {a:Act}(bm:a.tmps=T) {o:Oper}{kk:aj}(aH:tp P g o.op o.type kk) :
  ∃ v,(execOp a.eval o).run P w=.ok (.value v) w/\R w I (er w T g) kk v cW:=by
 obtain ⟨dst,op,ty,pos,after,guard⟩:=o
 simp only at aH
 cases aH with
 | @build t _ parts pl ep ps cs aE bJ gW aH ab =>
  obtain ⟨fs,hu,vx⟩:=UE aE
  obtain ⟨h1,al⟩:=L6 h bm aH
  obtain ⟨jt,dy,de⟩:=J9 (w:=w) (I:=I) (ρ:=er w T g) (place:=λi=>pl[i]?) ps _ (arr:=ep.cells) ⟨by simp,λk u hu=>Eg gW k u (by simpa using hu),λk x u J hu=>LW k x u J hu⟩ h1 al ab
  refine ⟨.agg jt,?_,.agg (Fs:=λ_=>cW) (by simpa using de.1) (λk u hu=>de.2.1 k u (by simpa using hu)) (λk x u J hu=>de.2.2 k x u J (by simpa using hu)) (λ_ _ _ _ _ h=>h.elim) (λc=>⟨λh=>h.elim,λ⟨_,_,h⟩=>h⟩)⟩
  have WA:=run_places (P:=P) w fs.toList pl vx
  have aJ:P.built t ((parts.map λ(p:Nat × Operand)=>(p.1,a.eval p.2))).toList=some jt:=by
   rw [Array.toList_map]
   cases hi:P.info? t with
   | none=>simp [hi] at bJ
   | some it =>
    simp [hi] at bJ
    simp only [Program.built,hu,vx,hi,bJ]
    simpa using dy
  have:=run_build (P:=P) w t _ _ aJ
  simp only [execOp,Sem.run_bind]
  have hm:(parts.map λ(x:Nat × Operand)=>match x with | (i,x)=>(i,a.eval x))=parts.map λ(p:Nat × Operand)=>(p.1,a.eval p.2):=rfl
  rw [hm,this]
  rfl
 | @makeFunc fn first caps _ WG Dj h1 al =>
  obtain ⟨aw,a2⟩:=x1 h bm h1
  obtain ⟨hU,iy⟩:=x1 h bm al
  refine ⟨.func fn (first.map a.eval) (caps.map a.eval),by simp [execOp,Instr.makeFunc],.ey (λ_ h=>h) (by simpa using aw) (by simpa using hU) (λk x u J hu=>?_) (λk x u J hu=>?_)⟩
  ·rw [Array.getElem?_map] at hu
   cases hk:first[k]? with
   | none=>simp [hk] at hu
   | some y=>simp [hk] at hu; subst hu; exact a2 k x y J (by simpa using hk)
  ·rw [Array.getElem?_map] at hu
   cases hk:caps[k]? with
   | none=>simp [hk] at hu
   | some y=>simp [hk] at hu; subst hu; exact iy k x y J (by simpa using hk)
end
end Go.Own
namespace Go.Own
open Go
structure BP (w w':World) (bv hQ:Value) (e de:TypeId) (z n m:Nat) (us news:List Value):Prop where
 lQ:w'.ownsRow 0 e z bv n us
 new:w'.ownsRow 0 de z hQ (n+m) (us++news)
 fJ:Fr w w' (λc=>bv.ownBlock=some c)
 Ce:∀ c,hQ.ownBlock=some c->bv.ownBlock=some c\/w.heap.size<=c
 sp:∀ c,bv.ownBlock=some c->∃ arr jt:Array Value,w.heap[c]?=some (.cells arr e (0,0))/\w'.heap[c]?=some (.cells jt e (0,0))/\jt.size=arr.size/\jt.toList.take (n * z)=arr.toList.take (n * z)
section
variable {P:Program}{w:World}
theorem BP.same {bv hQ:Value}{e de:TypeId}{z n m:Nat}{us news:List Value}{w':World}(k9:w.ownsRow 0 e z bv n us) (aJ:∀ c,c<w.heap.size->w'.heap[c]?=w.heap[c]?) (aM:w.heap.size<=w'.heap.size)
  (h1:w'.os=w.os) (al:w'.tape=w.tape) (aP:w'.output=w.output) (q0:w'.ownsRow 0 de z hQ (n+m) (us++news)) (hblk:∀ c,hQ.ownBlock=some c->bv.ownBlock=some c\/w.heap.size<=c) (p7:∀ a,w'.frozen? a=w.frozen? a) (RJ:w.drawn<=w'.drawn:=by first | exact Nat.le_refl _ | exact Nat.le_succ _):BP w w' bv hQ e de z n m us news:=by
 have bg:=k9.lt
 refine ⟨ur k9 λc ab=>aJ c (bg c ab).2,q0,⟨h1,al,aP,aM,λb kI _=>aJ b kI,λa _=>p7 a,RJ⟩,hblk,λc ab=>?_⟩
 obtain ⟨_,b6⟩:=k9
 rcases b6 with ⟨rfl,_⟩ | ⟨b,cap,cur,rfl,_,a',_⟩
 ·simp [Value.ownBlock] at ab
 ·simp only [Value.ownBlock,Option.some.injEq] at ab
  subst ab
  exact ⟨cur,cur,a',(aJ _ (bg b rfl).2).trans a',rfl,rfl⟩
theorem Uk (t ty e cX:TypeId) (i:TypeInfo) (aE:P.underlying t=some (.slice e)) (hi:P.info? e=some i)
  (b wv HD:Nat) (cur:Array Value) (a':w.heap[b]?=some (.cells cur cX (0,0)))
  (a:Addr) (m c:Nat) (news:List Value) (ao:news.length=m * i.size) (sR:∀ af u,news[af]?=some u->w.cell? (a.add af)=some u) (h1:∀ u∈news,u.oneCell'=true)
  (Ae:wv+m<=HD) (FN:wv * i.size+news.length<=cur.size) :
  (Builtin.append_ #[t,t] ty #[.slice (some ⟨b,0,none⟩) wv HD,.slice (some a) m c]).run P w =
   .ok (.slice (some ⟨b,0,none⟩) (wv+m) HD) (w.setRow b (cur.toList.take (wv * i.size)++news++cur.toList.drop (wv * i.size+news.length)).toArray):=by
 have bn:=run_firstCells_some (P:=P) w i.size m a m c news ao sR
 have cm:=run_storeCells_at P b (wv * i.size) cX news 0 cur w a' (by simpa using FN) h1
 simp only [Nat.add_zero] at cm
 simp [Builtin.append_,run_underlying aE,sizeOf,typeInfo,hi,Builtin.lenOf,Ae,bn,Addr.add_lit,cm]
theorem Mm (t ty e cX:TypeId) (i:TypeInfo) (ep:Value) (aE:P.underlying t=some (.slice e)) (hi:P.info? e=some i) (bJ:i.zero=some ep) (n9:ep.cells.size=i.size) (_h0:0<i.size)
  {bv:Value}{n m c:Nat}{us news:List Value}(k9:w.ownsRow 0 cX i.size bv n us) {a:Option Addr}(bm:0<m->a.isSome=true)
  (ao:news.length=m * i.size) (sR:∀ ad,a=some ad->∀ (af:Nat) (u:Value),news[af]?=some u->w.cell? (ad.add af)=some u) (h1:∀ u∈news,u.oneCell'=true)
  (p3:n+m<=maxLen) (CS:(n+m) * i.bytes<=140737488355328) :
  ∃ hQ w' de,(Builtin.append_ #[t,t] ty #[bv,.slice a m c]).run P w=.ok hQ w'/\BP w w' bv hQ cX de i.size n m us news:=by
 have mD:=k9.1
 by_cases hm:m=0
 ·subst hm
  have aL:news=[]:=List.eq_nil_of_length_eq_zero (by simpa using ao)
  subst aL
  refine ⟨bv,w,cX,?_,.same k9 (λ_ _=>rfl) (Nat.le_refl _) rfl rfl rfl (by simpa using k9) (λc ab=>.inl ab) λ_=>rfl⟩
  obtain ⟨_,b6⟩:=k9
  rcases b6 with ⟨rfl,rfl⟩ | ⟨b,cap,cur,rfl,_,a',hle,_⟩
  ·cases a <;> simp [Builtin.append_,run_underlying aE,sizeOf,typeInfo,hi,Builtin.lenOf,Builtin.firstCells,loadCells,loadCellsFrom]
  ·cases a <;> simp [Builtin.append_,run_underlying aE,sizeOf,typeInfo,hi,Builtin.lenOf,Builtin.firstCells,loadCells,loadCellsFrom,hle,storeCells]
 ·cases a with
  | none=>simp at bm; omega
  | some ad =>
   replace sR:=sR ad rfl
   have WB:n+m<=9223372036854775807:=by simp only [maxLen] at p3; omega
   have grown:∀ (lQ:Nat),lQ<n+m ->
     (w.drew.alloc (.cells (us.toArray++news.toArray++Builtin.zeroCells ep.cells (grownCap w (n+m) lQ e - (n+m))) e)).ownsRow 0 e i.size (.slice (some ⟨w.heap.size,0,none⟩) (n+m) (grownCap w (n+m) lQ e)) (n+m) (us++news):=by
    intro lQ bh
    have eN:=grownCap_ge w (n+m) lQ e
    have hlen:(us++news).length=(n+m) * i.size:=by rw [List.length_append,mD,ao,Nat.add_mul]
    refine ⟨hlen,.inr ⟨w.heap.size,_,_,rfl,Nat.zero_le _,sk w.drew _,eN,grownCap_le_maxLen w (n+m) lQ e p3,?_,?_⟩⟩
    ·simp only [Array.size_append,List.size_toArray,size_zeroCells,n9,mD,ao,<- Nat.add_mul]
     congr 1
     omega
    ·simp only [Array.toList_append,List.append_assoc]
     rw [<- List.append_assoc,<- hlen]
     exact List.take_left
   have Ga:=k9
   obtain ⟨_,b6⟩:=k9
   rcases b6 with ⟨rfl,rfl⟩ | ⟨b,cap,cur,rfl,_,a',hle,tR,hF,Lj⟩
   ·have J:us=[]:=List.eq_nil_of_length_eq_zero (by simpa using mD)
    subst J
    have ay:=run_append_nil (P:=P) w t ty e i ep aE hi bJ ad m c news ao sR (by omega) (by omega) (by simp only [Nat.zero_add] at CS; omega)
    have qX:=grown 0 (by omega)
    simp only [Nat.zero_add,List.nil_append,Array.empty_append] at qX
    exact ⟨_,_,e,ay,.same Ga (λc ab=>rE w.drew _ c ab) (by simp) rfl rfl rfl (by simpa using qX) (λc ab=>.inr (by simp [Value.ownBlock] at ab; omega)) (λa=>E6 w.drew _ _ a)⟩
   ·by_cases Ae:n+m<=cap
    ·have FN:n * i.size+news.length<=cur.size:=by rw [ao,hF,<- Nat.add_mul]; exact Nat.mul_le_mul_right _ Ae
     have ay:=Uk (P:=P) (w:=w) t ty e cX i aE hi b n cap cur a' ad m c news ao sR h1 Ae FN
     have hlen:(us++news).length=(n+m) * i.size:=by rw [List.length_append,mD,ao,Nat.add_mul]
     have gv:(cur.toList.take (n * i.size)++news++cur.toList.drop (n * i.size+news.length)).toArray.size=cur.size:=by
      simp only [List.size_toArray,List.length_append,List.length_take,List.length_drop,Array.length_toList]
      omega
     have gp:(cur.toList.take (n * i.size)++news++cur.toList.drop (n * i.size+news.length)).take (n * i.size)=cur.toList.take (n * i.size):=by
      rw [List.append_assoc]
      exact List.take_left' (by simp; omega)
     refine ⟨_,_,cX,ay,⟨⟨mD,.inr ⟨b,cap,_,rfl,Nat.zero_le _,setRow_heap w b cur _ cX _ a',hle,tR,gv.trans hF,?_⟩⟩,⟨hlen,.inr ⟨b,cap,_,rfl,Nat.zero_le _,setRow_heap w b cur _ cX _ a',Ae,tR,gv.trans hF,?_⟩⟩,
      ⟨rfl,rfl,rfl,by simp,λk _ hk=>setRow_other w b k _ (λe=>hk (by simp [Value.ownBlock,e])),λa _=>E8 w b _ a,Nat.le_refl _⟩,λc ab=>.inl ab,λc ab=>?_⟩⟩
     ·rw [<- Lj]; exact gp
     ·rw [Lj,<- hlen]
      exact List.take_left
     ·simp only [Value.ownBlock,Option.some.injEq] at ab
      subst ab
      exact ⟨cur,_,a',setRow_heap w b cur _ cX _ a',gv,gp⟩
    ·have holds:∀ (af:Nat) (u:Value),us[af]?=some u->w.cell? ((⟨b,0,none⟩:Addr).add af)=some u:=Ga.cells (g:=b) rfl
     have ay:=run_append_grow (P:=P) w t ty e i ep aE hi bJ ⟨b,0,none⟩ n cap us mD holds ad m c news ao sR (by omega) (by omega) (growslice_fits (by omega) CS)
     have qX:=grown cap (by omega)
     exact ⟨_,_,e,ay,.same Ga (λc ab=>rE w.drew _ c ab) (by simp) rfl rfl rfl qX (λc ab=>.inr (by simp [Value.ownBlock] at ab; omega)) (λa=>E6 w.drew _ _ a)⟩
end
end Go.Own
namespace Go.Own
open Go
section
variable {w w':World}{I:br}{ρ ρ':aj->Value->Prop}
theorem R.kids {x:aj}{v:Value}{F:br}(h:R w I ρ x v F) (J:x.kids≠[]):∃ Fs:Nat->br,
  (∀ k y,x.kids[k]?=some y->∃ u,child w v k=some u/\R w I ρ y u (Fs k))/\(∀ (af k c:Nat),af<x.kids.length->k<x.kids.length->Fs af c->Fs k c->af=k) /\
  (∀ k c,k<x.kids.length->Fs k c->F c)/\(∀ z n cs,x=.own z n cs->∀ c,v.ownBlock=some c->∀ k,k<x.kids.length->¬ Fs k c):=by
 cases h with
 | @own z n cs _ e us Fs _ bh ao h1 ay aY aJ aQ =>
  refine ⟨Fs,λk y hk=>?_,aY,λk c hk ab=>(aQ c).2 (.inr ⟨k,hk,ab⟩),λ_ _ _ _ c ab k hk h=>aJ k c hk h ab⟩
  simp only [aj.kids] at hk
  have bg:k<cs.length:=(List.getElem?_eq_some_iff.1 hk).1
  have hu:us[k]?=some us[k]:=List.getElem?_eq_getElem (ao ▸ bg)
  exact ⟨_,oa bh hu,ay k y _ hk hu⟩
 | @obj cs b e arr Fs _ bh ao h1 ay aY aJ aQ =>
  refine ⟨Fs,λk y hk=>?_,aY,λk c hk ab=>(aQ c).2 (.inr ⟨k,hk,ab⟩),λ_ _ _ h=>by simp at h⟩
  simp only [aj.kids] at hk
  have bg:k<cs.length:=(List.getElem?_eq_some_iff.1 hk).1
  have hu:arr[k]?=some arr[k]:=Array.getElem?_eq_getElem (ao ▸ bg)
  exact ⟨_,by simp [child,World.cell?,bh,hu],ay k y _ hk hu⟩
 | @agg cs vs Fs _ ao h1 ay aY aQ =>
  refine ⟨Fs,λk y hk=>?_,aY,λk c hk ab=>(aQ c).2 ⟨k,hk,ab⟩,λ_ _ _ h=>by simp at h⟩
  simp only [aj.kids] at hk
  have bg:k<cs.length:=(List.getElem?_eq_some_iff.1 hk).1
  have hu:vs[k]?=some vs[k]:=Array.getElem?_eq_getElem (ao ▸ bg)
  exact ⟨_,by simp [child,hu],ay k y _ hk hu⟩
 | @cG cs vs Fs _ ao ay aY aQ =>
  refine ⟨Fs,λk y hk=>?_,aY,λk c hk ab=>(aQ c).2 ⟨k,hk,ab⟩,λ_ _ _ h=>by simp at h⟩
  simp only [aj.kids] at hk
  have bg:k<cs.length:=(List.getElem?_eq_some_iff.1 hk).1
  have hu:vs[k]?=some vs[k]:=Array.getElem?_eq_getElem (ao ▸ bg)
  exact ⟨_,by simp [child,hu],ay k y _ hk hu⟩
 | ref f'=>cases x <;> simp [aj.isRef,aj.kids] at f' J
 | _=>simp [aj.kids] at J
theorem aj.tx {x y:aj}{k:Nat}{p:List Nat}(h:x.at (k::p)=some y):∃ c,x.kids[k]?=some c/\c.at p=some y:=by
 simp only [aj.at] at h
 cases hk:x.kids[k]? with
 | none=>rw [hk] at h; cases h
 | some c=>rw [hk] at h; exact ⟨c,rfl,h⟩
theorem R.Hi {b:Nat}:∀ (q r:List Nat) {x:aj}{v:Value}{F:br}{z n cN cY:Nat}{cs cs':List aj}{oV BC:Value},R w I ρ x v F->x.at q=some (.own z n cs)->x.at r=some (.own cN cY cs') ->
  walk w v q=some oV->walk w v r=some BC->oV.ownBlock=some b->BC.ownBlock=some b->q=r
 | [],[],_,_,_,_,_,_,_,_,_,_,_,_,_,_,_,_,_,_=>rfl
 | [],k::r,x,v,F,z,n,cN,cY,cs,cs',oV,BC,h,bN,ay,rq,wr,xa,xb=>by
  obtain ⟨c,hk,ab⟩:=aj.tx ay
  simp only [aj.at,Option.some.injEq] at bN
  simp only [walk,Option.some.injEq] at rq
  subst bN rq
  have bg:k<(aj.own z n cs).kids.length:=(List.getElem?_eq_some_iff.1 hk).1
  obtain ⟨Fs,h1,al,aP,b3⟩:=h.kids (by intro e; rw [e] at bg; simp at bg)
  obtain ⟨u,hu,mu⟩:=h1 k c hk
  simp only [walk,hu] at wr
  obtain ⟨ie,cO,hw,d',dG,_⟩:=R.focus r mu ab
  rw [hw] at wr
  cases wr
  exact absurd (dG b (d'.pA b xb)) (b3 z n cs rfl b xa k bg)
 | af::q,[],x,v,F,z,n,cN,cY,cs,cs',oV,BC,h,bN,ay,rq,wr,xa,xb=>by
  obtain ⟨c,hk,ab⟩:=aj.tx bN
  simp only [aj.at,Option.some.injEq] at ay
  simp only [walk,Option.some.injEq] at wr
  subst ay wr
  have bg:af<(aj.own cN cY cs').kids.length:=(List.getElem?_eq_some_iff.1 hk).1
  obtain ⟨Fs,h1,al,aP,b3⟩:=h.kids (by intro e; rw [e] at bg; simp at bg)
  obtain ⟨u,hu,mu⟩:=h1 af c hk
  simp only [walk,hu] at rq
  obtain ⟨ie,cO,hw,d',dG,_⟩:=R.focus q mu ab
  rw [hw] at rq
  cases rq
  exact absurd (dG b (d'.pA b xa)) (b3 cN cY cs' rfl b xb af bg)
 | af::q,k::r,x,v,F,z,n,cN,cY,cs,cs',oV,BC,h,bN,ay,rq,wr,xa,xb=>by
  obtain ⟨c,aa,ab⟩:=aj.tx bN
  obtain ⟨d,hk,aY⟩:=aj.tx ay
  have fr:af<x.kids.length:=(List.getElem?_eq_some_iff.1 aa).1
  have eh:k<x.kids.length:=(List.getElem?_eq_some_iff.1 hk).1
  obtain ⟨Fs,h1,al,aP,b3⟩:=h.kids (by intro e; rw [e] at fr; simp at fr)
  obtain ⟨u,hu,mu⟩:=h1 af c aa
  obtain ⟨tc,fQ,Fo⟩:=h1 k d hk
  simp only [walk,hu] at rq
  simp only [walk,fQ] at wr
  by_cases eP:af=k
  ·subst eP
   rw [aa] at hk; cases hk
   rw [hu] at fQ; cases fQ
   rw [R.Hi q r mu ab aY rq wr xa xb]
  ·exfalso
   obtain ⟨ie,cO,hw,d',dG,_⟩:=R.focus q mu ab
   obtain ⟨Vd,jn,uh,zL,QL,_⟩:=R.focus r Fo aY
   rw [hw] at rq; cases rq
   rw [uh] at wr; cases wr
   exact eP (al af k b fr eh (dG b (d'.pA b xa)) (QL b (zL.pA b xb)))
theorem aj.MB:∀ (q:List Nat) {x y:aj},x.at q=some y->x.setAt q y=x
 | [],x,y,h=>by simp [aj.at] at h; simp [aj.setAt,h]
 | k::q,x,y,h=>by
  obtain ⟨c,hk,ab⟩:=aj.tx h
  simp only [aj.setAt,hk,aj.MB q ab]
  have:∀ (l:List aj),l[k]?=some c->l.set k c=l:=by
   intro l ao
   apply List.ext_getElem?
   intro af
   by_cases eP:k=af
   ·subst eP
    have bg:k<l.length:=(List.getElem?_eq_some_iff.1 ao).1
    rw [List.getElem?_set_self bg,ao]
   ·rw [List.getElem?_set_ne eP]
  cases x <;> simp [aj.kids] at hk <;> simp [aj.uF,this _ hk]
theorem BF (w:World):∀ (p:List Nat) (v:Value) (r:List Nat),walk w v (p++r)=(walk w v p).bind λu=>walk w u r
 | [],v,r=>rfl
 | k::p,v,r=>by
  simp only [List.cons_append,walk]
  cases child w v k with
  | none=>rfl
  | some u=>exact BF w p u r
theorem aj.Er:∀ (p:List Nat) (x:aj) (r:List Nat),x.at (p++r)=(x.at p).bind λy=>y.at r
 | [],x,r=>rfl
 | k::p,x,r=>by
  simp only [List.cons_append,aj.at]
  cases x.kids[k]? with
  | none=>rfl
  | some u=>exact aj.Er p u r
structure B1 (w w':World) (b M:Nat):Prop where
 other:∀ c,c<w.heap.size->c≠b->w'.heap[c]?=w.heap[c]?
 here:∃ (arr jt:Array Value) (e:TypeId),w.heap[b]?=some (.cells arr e (0,0))/\w'.heap[b]?=some (.cells jt e (0,0))/\jt.size=arr.size/\jt.toList.take M=arr.toList.take M
theorem B1.row {b M:Nat}(s:B1 w w' b M) {e:TypeId}{z n:Nat}{v:Value}{us:List Value}(h:w.ownsRow 0 e z v n us) (aL:v.ownBlock=some b->n * z<=M):w'.ownsRow 0 e z v n us:=by
 by_cases aJ:v.ownBlock=some b
 ·obtain ⟨arr,jt,dy,h1,al,aP,b3⟩:=s.here
  obtain ⟨hu,b6⟩:=h
  rcases b6 with ⟨rfl,rfl⟩ | ⟨g,cap,cur,rfl,a',ab,ql,gx,s8,rh⟩
  ·simp [Value.ownBlock] at aJ
  ·simp only [Value.ownBlock,Option.some.injEq] at aJ
   subst aJ
   rw [h1] at ab
   cases ab
   refine ⟨hu,.inr ⟨g,cap,jt,rfl,a',al,ql,gx,by omega,?_⟩⟩
   rw [<- rh]
   have:=congrArg (List.take (n * z)) b3
   rwa [List.take_take,List.take_take,Nat.min_eq_left (aL rfl)] at this
 ·exact ur h λc ab=>s.other c (h.lt c ab).2 λe=>aJ (e ▸ ab)
theorem R.spare {b M:Nat}(s:B1 w w' b M) (bt:∀ c,I c->c<w.heap.size/\c≠b) (lz:∀ x v,ρ x v->ρ' x v) {x:aj}{v:Value}{F:br}(h:R w I ρ x v F) {q:List Nat}{z n:Nat}{cs:List aj}{ie:Value}
  (gu:x.at q=some (.own z n cs)) (hw:walk w v q=some ie) (aJ:ie.ownBlock=some b) (aL:n * z<=M) :
  R w' I ρ' x v F/\∀ r y,x.at r=some y->walk w' v r=walk w v r:=by
 obtain ⟨Vd,cO,uh,d',dG,gd,kg⟩:=R.focus q h gu
 rw [hw] at uh
 cases uh
 have l2:cO b:=d'.pA b aJ
 have bg:=h.lt
 have same:∀ c,F c->c≠b->w'.heap[c]?=w.heap[c]?:=λc ab eK=>s.other c (bg c ab) eK
 have V9:=d'
 cases d' with
 | ref J=>simp [aj.isRef] at J
 | @own _ _ _ _ e us Fs _ bh ao h1 ay aY kb aQ =>
  have mA:=s.row bh λ_=>aL
  have eK:∀ k c,k<cs.length->Fs k c->c≠b:=λk c hk ab e=>kb k c hk ab (e ▸ aJ)
  have ju:∀ k c,k<cs.length->Fs k c->F c:=λk c hk ab=>dG c ((aQ c).2 (.inr ⟨k,hk,ab⟩))
  have q0:R w' I ρ' (.own z n cs) ie cO:=by
   refine .own mA ao h1 (λk x u J hu=>?_) aY kb aQ
   have hk:k<cs.length:=(List.getElem?_eq_some_iff.1 J).1
   exact (ay k x u J hu).frame (λc ab=>s.other c (bt c ab).1 (bt c ab).2) (λ_ h=>h) lz λc ab=>same c (ju k c hk ab) (eK k c hk ab)
  constructor
  ·obtain ⟨fO,jv,nC⟩:=kg w' I ρ' _ cO ⟨λc ab=>s.other c (bt c ab).1 (bt c ab).2,λc ab aL=>same c ab λe=>aL (e ▸ l2),λ_ h=>h,lz⟩ q0 λc ab _=>ab
   rw [aj.MB q gu] at jv
   refine jv.xi λc=>?_
   rw [nC c]
   constructor
   ·rintro (⟨h,_⟩ | h)
    ·exact h
    ·exact dG c h
   ·intro h
    by_cases ab:cO c
    ·exact .inr ab
    ·exact .inl ⟨h,ab⟩
  ·obtain ⟨jC,iv⟩:=gd w' λc ab aL=>same c ab λe=>aL (e ▸ l2)
   intro r y eX
   rcases iv r y eX with ⟨ff,rfl⟩ | h
   ·rw [BF,BF,jC,hw]
    simp only [Option.bind_some]
    cases ff with
    | nil=>rfl
    | cons k ff =>
     rw [aj.Er,gu] at eX
     obtain ⟨c,hk,ab⟩:=aj.tx (x:=.own z n cs) eX
     simp only [aj.kids] at hk
     have eh:k<cs.length:=(List.getElem?_eq_some_iff.1 hk).1
     have hu:us[k]?=some us[k]:=List.getElem?_eq_getElem (ao ▸ eh)
     have:=R.oW (w':=w') ff (ay k c _ hk hu) ab λc ab=>same c (ju k c eh ab) (eK k c eh ab)
     simp [walk,oa bh hu,oa mA hu,this]
   ·exact h
end
end Go.Own
namespace Go.Own
open Go
section
variable {w w':World}{I:br}{T:Array Value}{g:aZ}{Fs:Nat->br}
theorem c_.HU (h:c_ w I T g Fs) {t:Nat}{x:aj}(J:g t=some x):∃ v,T[t]?=some v/\eo w T ⟨t,[]⟩=some v/\jH w I (er w T g) x v (Fs t):=by
 obtain ⟨v,hv,bj⟩:=h.rel t x J
 exact ⟨v,hv,by simp [eo,hv,walk],bj⟩
theorem c_.app (h:c_ w I T g Fs) {z n m:Nat}{p:Place}{bv hQ:Value}{e de:TypeId}{us news:List Value}(jU:er w T g (.bR z p n 0 []) bv)
  (gP:∀ t cN cY m' dq,g t≠some (.bR cN p cY m' dq)) (A:BP w w' bv hQ e de z n m us news):c_ w' I T g Fs/\∀ r v,er w T g r v->er w' T g r v:=by
 cases kb:bv.ownBlock with
 | none =>
  have same:∀ c,c<w.heap.size->w'.heap[c]?=w.heap[c]?:=λc ab=>A.fJ.block c ab (by rw [kb]; simp)
  exact ⟨h.world (λt c ab=>same c (h.j0 t c ab)) (λc ab=>same c (h.lt c ab)) A.fJ.size,λr v ay=>h.DI (λ_ _=>rfl) (λt c ab=>same c (h.j0 t c ab)) (λ_ _ h=>h) ay⟩
 | some b =>
  have s:B1 w w' b (n * z):=by
   refine ⟨λc ab eK=>A.fJ.block c ab (by rw [kb]; simpa using Ne.symm eK),?_⟩
   obtain ⟨arr,jt,h1,al,aP,b3⟩:=A.sp b kb
   exact ⟨arr,jt,e,h1,al,aP,b3⟩
  obtain ⟨t0,rU⟩:=h.Cd jU b kb
  have bt:∀ c,I c->c<w.heap.size/\c≠b:=λc ab=>⟨h.lt c ab,λe=>h.aF t0 b rU (e ▸ ab)⟩
  obtain ⟨⟨uV,uW,FF,rfl⟩,fo⟩:=jU
  -- the home of the block
  have home:∃ N:Place->Prop,(∀ q cN cY cs' oV,b7 g q=some (.own cN cY cs')->eo w T q=some oV->oV.ownBlock=some b->N q) /\
    (∀ q,N q->∀ t cN cY m' dq,g t=some (.bR cN q cY m' dq)->t=p.root/\p.path=[]) /\
    (∀ t cN gb cY m' dq,Fs t b->g t=some (.bR cN gb cY m' dq)->t=p.root/\p.path=[]) /\
    (∀ cN gb cY m' dq,p.path=[]->g p.root=some (.bR cN gb cY m' dq)->cN=z/\n=cY+m') /\
    (∀ t x v,Fs t b->g t=some x->T[t]?=some v->R w I (er w T g) x v (Fs t)->∃ q cN cY cs' ie,x.at q=some (.own cN cY cs')/\walk w v q=some ie/\ie.ownBlock=some b/\cY * cN<=n * z):=by
   rcases fo with ⟨cs,aH⟩ | ⟨jb,j3,np,m1,WK,cs,aH,aL,Ab⟩
   ·-- the base is a row of a tree
    obtain ⟨pJ,pM,gX,hX,l0⟩:=h.part aH (by simp)
    rw [FF] at gX
    cases gX
    have jW:t0=p.root:=h.e8 _ _ _ rU (l0 b (hX.pA b kb))
    obtain ⟨fl,jO⟩:∃ fl,g p.root=some fl:=by
     unfold b7 at aH
     cases J:g p.root with
     | none=>rw [J] at aH; cases aH
     | some x=>exact ⟨x,rfl⟩
    have oI:fl.at p.path=some (.own z n cs):=by simpa [b7,jO] using aH
    have lf:∀ cN gb cY m' dq,g p.root≠some (.bR cN gb cY m' dq):=by
     intro cN gb cY m' dq b6
     rw [jO] at b6
     cases b6
     have:=(aj.rG oI).2
     simp at this
    obtain ⟨v0,iO,gM⟩:=h.rel _ _ jO
    have zI:=gM.hM (λcN gb cY m' dq e=>lf cN gb cY m' dq (by rw [jO,e]))
    have Ak:walk w v0 p.path=some (.slice uV n uW):=by simpa [eo,iO] using FF
    refine ⟨λq=>q=p,?_,?_,?_,?_,?_⟩
    ·intro q cN cY cs' oV bN rW vo
     obtain ⟨M0,Nk,ug,Fl,Fc⟩:=h.part bN (by simp)
     rw [rW] at ug
     cases ug
     have ay:q.root=p.root:=(h.e8 _ _ _ (Fc b (Fl.pA b vo)) rU).trans jW
     have zQ:fl.at q.path=some (.own cN cY cs'):=by simpa [b7,ay,jO] using bN
     have Gr:walk w v0 q.path=some oV:=by simpa [eo,ay,iO] using rW
     have:=R.Hi q.path p.path zI zQ oI Gr Ak vo kb
     cases q; cases p; simp_all
    ·rintro q rfl t cN cY m' dq b6; exact absurd b6 (gP t cN cY m' dq)
    ·intro t cN gb cY m' dq oL b6
     have:t=p.root:=(h.e8 _ _ _ oL rU).trans jW
     rw [this] at b6
     exact absurd b6 (lf _ _ _ _ _)
    ·intro cN gb cY m' dq _ b6; exact absurd b6 (lf _ _ _ _ _)
    ·intro t x v oL J hv bj
     have:t=p.root:=(h.e8 _ _ _ oL rU).trans jW
     subst this
     rw [jO] at J; cases J
     rw [iO] at hv; cases hv
     exact ⟨_,_,_,_,_,oI,Ak,kb,Nat.le_refl _⟩
   ·-- the base is behind an append itself
    obtain ⟨v0,iO,Aj,gM⟩:=h.HU aH
    have Sz:v0=.slice uV n uW:=by
     have:(⟨p.root,[]⟩:Place)=p:=by cases p; simp_all
     rw [this,FF] at Aj
     exact (Option.some.inj Aj).symm
    subst Sz
    obtain ⟨On,dy,VL,U9,WM,gM⟩:=gM.uk
    by_cases db:On.ownBlock=some b
    ·obtain ⟨⟨aw,Jg,Lp,rfl⟩,_⟩:=gM.jU
     obtain ⟨oV,Nk,rW,Fl,Fc⟩:=h.part Ab (by simp)
     rw [Lp] at rW
     cases rW
     have jW:t0=j3.root:=h.e8 _ _ _ rU (Fc b (Fl.pA b db))
     obtain ⟨fl,jO⟩:∃ fl,g j3.root=some fl:=by
      unfold b7 at Ab
      cases J:g j3.root with
      | none=>rw [J] at Ab; cases Ab
      | some x=>exact ⟨x,rfl⟩
     have oI:fl.at j3.path=some (.own z np cs):=by simpa [b7,jO] using Ab
     have lf:∀ cN gb cY m' dq,g j3.root≠some (.bR cN gb cY m' dq):=by
      intro cN gb cY m' dq b6
      rw [jO] at b6
      cases b6
      have:=(aj.rG oI).2
      simp at this
     obtain ⟨v1,sV,zJ⟩:=h.rel _ _ jO
     have QZ:=zJ.hM (λcN gb cY m' dq e=>lf cN gb cY m' dq (by rw [jO,e]))
     have Ak:walk w v1 j3.path=some (.slice aw np Jg):=by simpa [eo,sV] using Lp
     refine ⟨λq=>q=j3,?_,?_,?_,?_,?_⟩
     ·intro q cN cY cs' oV bN rW vo
      obtain ⟨M0,Nl,ug,Fm,Fe⟩:=h.part bN (by simp)
      rw [rW] at ug
      cases ug
      have ay:q.root=j3.root:=(h.e8 _ _ _ (Fe b (Fm.pA b vo)) rU).trans jW
      have zQ:fl.at q.path=some (.own cN cY cs'):=by simpa [b7,ay,jO] using bN
      have Gr:walk w v1 q.path=some oV:=by simpa [eo,ay,sV] using rW
      have:=R.Hi q.path j3.path QZ zQ oI Gr Ak vo db
      cases q; cases j3; simp_all
     ·rintro q rfl t cN cY m' dq b6; exact ⟨h.qk _ _ _ _ _ _ _ _ _ _ _ b6 aH,jb⟩
     ·intro t cN gb cY m' dq oL b6
      have:t=j3.root:=(h.e8 _ _ _ oL rU).trans jW
      rw [this] at b6
      exact absurd b6 (lf _ _ _ _ _)
     ·intro cN gb cY m' dq _ b6
      rw [aH] at b6; cases b6; exact ⟨rfl,aL⟩
     ·intro t x v oL J hv bj
      have:t=j3.root:=(h.e8 _ _ _ oL rU).trans jW
      subst this
      rw [jO] at J; cases J
      rw [sV] at hv; cases hv
      exact ⟨_,_,_,_,_,oI,Ak,db,Nat.mul_le_mul_right _ (by omega)⟩
    ·have qS:Fs p.root b:=(gM.aQ b).2 ⟨kb,db⟩
     have jW:t0=p.root:=h.e8 _ _ _ rU qS
     refine ⟨λ_=>False,?_,λ_ h=>h.elim,?_,?_,?_⟩
     ·intro q cN cY cs' oV bN rW vo
      obtain ⟨M0,Nl,ug,Fm,Fe⟩:=h.part bN (by simp)
      rw [rW] at ug
      cases ug
      have ay:q.root=p.root:=h.e8 _ _ _ (Fe b (Fm.pA b vo)) qS
      unfold b7 at bN
      rw [ay,aH] at bN
      have:=(aj.rG bN).2
      simp at this
     ·intro t cN gb cY m' dq oL _; exact ⟨h.e8 _ _ _ oL qS,jb⟩
     ·intro cN gb cY m' dq _ b6
      rw [aH] at b6; cases b6; exact ⟨rfl,aL⟩
     ·intro t x v oL J hv bj
      have:t=p.root:=h.e8 _ _ _ oL qS
      subst this
      rw [aH] at J; cases J
      exact bj.lf.elim
  obtain ⟨N,Ku,Kv,Kw,QV,QW⟩:=home
  -- rows of pends
  have pends:∀ t cN gb cY m' dq v xc cX sy iS Dr,g t=some (.bR cN gb cY m' dq)->T[t]?=some v->Eb w I (er w T g) cN gb cY m' dq v (Fs t) xc cX sy iS Dr ->
    (v.ownBlock=some b->(cY+m') * cN<=n * z)/\(xc.ownBlock=some b->cY * cN<=n * z):=by
   intro t cN gb cY m' dq v xc cX sy iS Dr a' hv bj
   by_cases aE:t=p.root/\p.path=[]
   ·obtain ⟨rfl,jb⟩:=aE
    obtain ⟨rfl,rfl⟩:=QV _ _ _ _ _ jb a'
    exact ⟨λ_=>Nat.le_refl _,λ_=>Nat.mul_le_mul_right _ (by omega)⟩
   ·have tP:xc.ownBlock≠some b:=by
     intro kI
     obtain ⟨⟨a2,qK,Lq,rfl⟩,Sa⟩:=bj.jU
     rcases Sa with ⟨cs2,al⟩ | ⟨bd,Bp,TE,m3,WL,VI,al,aP,b3⟩
     ·exact aE (Kv gb (Ku gb _ _ _ _ al Lq kI) t _ _ _ _ a')
     ·obtain ⟨v2,xN,Ln,l1⟩:=h.HU al
      have xH:(⟨gb.root,[]⟩:Place)=gb:=by cases gb; simp_all
      rw [xH,Lq] at Ln
      cases Ln
      have Le:gb.root=p.root/\p.path=[]->False:=by
       rintro ⟨ay,jb⟩
       have:gb=p:=by cases gb; cases p; simp_all
       exact gP t cN cY m' dq (this ▸ a')
      obtain ⟨Oo,jM,VM,WV,WN,l1⟩:=l1.uk
      by_cases fe:Oo.ownBlock=some b
      ·obtain ⟨⟨a4,VH,SB,rfl⟩,_⟩:=l1.jU
       exact Le (Kv Bp (Ku Bp _ _ _ _ b3 SB fe) _ _ _ _ _ al)
      ·exact Le (Kw _ _ _ _ _ _ ((l1.aQ b).2 ⟨kI,fe⟩) al)
    refine ⟨λSC=>?_,λkI=>absurd kI tP⟩
    exact absurd (Kw _ _ _ _ _ _ ((bj.aQ b).2 ⟨SC,tP⟩) a') aE
  -- trees
  have bg:=h.j0
  have trees:∀ t x v (ρ':aj->Value->Prop),(∀ x v,er w T g x v->ρ' x v)->g t=some x->T[t]?=some v->R w I (er w T g) x v (Fs t)->R w' I ρ' x v (Fs t)/\∀ r y,x.at r=some y->walk w' v r=walk w v r:=by
   intro t x v ρ' lz J hv bj
   by_cases oL:Fs t b
   ·obtain ⟨q,cN,cY,cs',ie,h1,al,aP,b3⟩:=QW t x v oL J hv bj
    exact bj.spare s bt lz h1 al aP b3
   ·have same:∀ c,Fs t c->w'.heap[c]?=w.heap[c]?:=λc ab=>s.other c (bg t c ab) λe=>oL (e ▸ ab)
    exact ⟨bj.frame (λc ab=>s.other c (bt c ab).1 (bt c ab).2) (λ_ h=>h) lz same,λr y ay=>R.oW r bj ay same⟩
  have val:∀ q y,b7 g q=some y->eo w' T q=eo w T q:=by
   intro q y bN
   unfold b7 at bN
   cases J:g q.root with
   | none=>rw [J] at bN; cases bN
   | some x =>
    rw [J] at bN
    obtain ⟨v,hv,bj⟩:=h.rel _ _ J
    cases bj with
    | tree bj=>have:=(trees _ x v _ (λ_ _ h=>h) J hv bj).2 q.path y bN; simp [eo,hv,this]
    | bR bj=>simp [eo,hv,(aj.rG bN).1,walk]
  have slot:∀ {q:Place}{x:aj},q.path=[]->g q.root=some x->eo w' T q=eo w T q:=by
   intro q x bN J
   obtain ⟨v,hv,_⟩:=h.rel _ _ J
   simp [eo,bN,walk]
  have refs:∀ r v,er w T g r v->er w' T g r v:=by
   rintro r v ⟨h1,al⟩
   refine ⟨?_,al⟩
   cases r <;> simp only [fV,gK] at h1 al ⊢
   case ptr q k=>obtain ⟨y,az,_⟩:=al; rw [val q y az]; exact h1
   case bl cN q cY =>
    rcases al with ⟨_,_,al,_⟩ | ⟨bd,_,_,_,_,al,_⟩
    ·rw [val q _ al]; exact h1
    ·rw [slot bd al]; exact h1
   case sub cN q lo cY=>obtain ⟨_,_,al,_⟩:=al; rw [val q _ al]; exact h1
   case hN q=>obtain ⟨_,al⟩:=al; rw [val q _ al]; exact h1
   case bR cN q cY m' dq =>
    rcases al with ⟨_,al⟩ | ⟨bd,_,_,_,_,_,al,_⟩
    ·rw [val q _ al]; exact h1
    ·rw [slot bd al]; exact h1
  refine ⟨⟨λt x J=>?_,h.kO,h.e8,h.aF,λc ab=>Nat.lt_of_lt_of_le (h.lt c ab) A.fJ.size,h.qk⟩,refs⟩
  obtain ⟨v,hv,bj⟩:=h.rel t x J
  refine ⟨v,hv,?_⟩
  cases bj with
  | tree bj=>exact .tree (trees t x v _ refs J hv bj).1
  | @bR cN cY m' gb dq _ xc cX sy iS Dr _ bj =>
   obtain ⟨fA,qi⟩:=pends t _ _ _ _ _ v xc cX sy iS Dr J hv bj
   refine .bR ⟨refs _ _ bj.jU,s.row bj.k9 qi,s.row bj.mB fA,bj.ao,bj.h1,λk x u J hu=>?_,bj.aQ⟩
   exact (bj.ay k x u J hu).frame (λc ab=>s.other c (bt c ab).1 (bt c ab).2) (λ_ h=>h) refs λc ab=>ab.elim
end
end Go.Own
namespace Go.Own
open Go
def tl (w:World) (I:br) (T:Array Value) (g:aZ) (Fs:Nat->br) (x:aj) (v:Value) (w':World):Prop :=
 ∃ F I',c_ w' I' T g Fs/\jH w' I' (er w' T g) x v F/\(∀ t c,F c->¬ Fs t c)/\(∀ c,F c->w.heap.size<=c/\¬ I' c)/\(∀ c,I c->I' c)/\(∀ c,I' c->I c\/w.heap.size<=c)/\Fr w w' (λc=>∃ t,Fs t c)/\(∀ z p n m new,x=.bR z p n m new->∀ t cN cY m' dq,g t≠some (.bR cN p cY m' dq))
inductive Src (g:aZ):aj->Nat->Nat->List aj->Prop
 | aF {z m:Nat}{cs:List aj}:Src g (.aF z m cs) z m cs
 | aI {z:Nat}:Src g .aI z 0 []
 | bl {z m N:Nat}{q:Place}{cs:List aj}(bN:b7 g q=some (.own z N cs)) (hm:m<=N):Src g (.bl z q m) z m ((cs.take (m * z)).mapIdx λi x=>ib 0 (q.push i) x)
 | sub {z lo m N:Nat}{q:Place}{cs:List aj}(bN:b7 g q=some (.own z N cs)) (hm:lo+m<=N):Src g (.sub z q lo m) z m (((cs.drop (lo * z)).take (m * z)).mapIdx λi x=>ib 0 (q.push (lo * z+i)) x)
def ix (P:Program) (t e:TypeId) (z b:Nat):Bool :=
 match P.underlying t,P.info? e with
 | some (.slice cX),some i=>cX == e&&i.size == z&&i.bytes == b&&z != 0&&(match i.zero with | some v=>v.cells.size == z | none=>false)
 | _,_=>false
section
variable {P:Program}{w:World}{I:br}{T:Array Value}{g:aZ}{Fs:Nat->br}
theorem IU {t e:TypeId}{z b:Nat}(h:ix P t e z b=true):∃ i ep,P.underlying t=some (.slice e)/\P.info? e=some i/\i.size=z/\i.bytes=b/\0<z/\i.zero=some ep/\ep.cells.size=z:=by
 unfold ix at h
 cases hu:P.underlying t with
 | none=>simp [hu] at h
 | some d =>
  cases hi:P.info? e with
  | none=>cases d <;> simp [hu,hi] at h
  | some i =>
   cases d <;> simp [hu,hi] at h
   obtain ⟨⟨⟨⟨rfl,h1⟩,al⟩,aP⟩,b3⟩:=h
   cases bJ:i.zero with
   | none=>simp [bJ] at b3
   | some ep=>simp [bJ] at b3; exact ⟨i,ep,rfl,rfl,h1,al,by omega,bJ,b3⟩
theorem Src.sound (h:c_ w I T g Fs) {y:aj}{v:Value}{z m:Nat}{cells:List aj}(aM:Src g y z m cells) (bj:R w I (er w T g) y v cW) :
  ∃ (a:Option Addr) (c:Nat) (news:List Value),v=.slice a m c/\news.length=m * z/\(0<m->0<z->a.isSome=true)/\(∀ ad,a=some ad->∀ (af:Nat) (u:Value),news[af]?=some u->w.cell? (ad.add af)=some u)/\Cells w I (er w T g) cells news:=by
 have LX:∀ {q:Place}{N:Nat}{cs:List aj}(lo:Nat) {a:Option Addr}{cap:Nat},b7 g q=some (.own z N cs)->eo w T q=some (.slice a N cap)->lo+m<=N ->
   ∃ news:List Value,news.length=m * z/\(∀ ad,a=some ad->∀ (af:Nat) (u:Value),news[af]?=some u->w.cell? ⟨ad.block,lo * z+af,none⟩=some u)/\Cells w I (er w T g) (((cs.drop (lo * z)).take (m * z)).mapIdx λi x=>ib 0 (q.push (lo * z+i)) x) news/\(0<m->0<z->∃ b,a=some ⟨b,0,none⟩):=by
  intro q N cs lo a cap bN hv hm
  obtain ⟨hQ,cO,iE,d',_⟩:=h.part bN (by simp)
  rw [hv] at iE
  cases iE
  obtain ⟨cI,lY,kc,_,hlen,p8,_⟩:=d'.mJ
  cases kc
  have Wa:lo * z+m * z<=cs.length:=by rw [hlen,<- Nat.add_mul]; exact Nat.mul_le_mul_right _ hm
  have cell:∀ af,af<m * z->∃ b gH kz,a=some ⟨b,0,none⟩/\w.cell? ⟨b,lo * z+af,none⟩=some gH/\gH.oneCell'=true/\cs[lo * z+af]?=some kz/\R w I (er w T g) (ib 0 (q.push (lo * z+af)) kz) gH cW:=by
   intro af aa
   have f':cs[lo * z+af]?=some cs[lo * z+af]:=List.getElem?_eq_getElem (by omega)
   obtain ⟨b,gH,fZ,lL,l3,gW,bK,j_⟩:=d'.node (.inl rfl) f'
   refine ⟨b,gH,_,?_,lL,gW,f',DH 0 (by rw [sm,bN]; simp [aj.kids]) (by rw [wB,hv]; exact l3) j_⟩
   cases a with
   | none=>simp [addrOf] at fZ
   | some ad=>simp only [addrOf] at fZ; rw [Option.some.inj fZ]
  have sR:∃ news:List Value,news.length=m * z/\∀ af,af<m * z->∃ b gH kz,news[af]?=some gH/\a=some ⟨b,0,none⟩/\w.cell? ⟨b,lo * z+af,none⟩=some gH/\gH.oneCell'=true/\cs[lo * z+af]?=some kz/\R w I (er w T g) (ib 0 (q.push (lo * z+af)) kz) gH cW:=by
   refine ⟨(List.range (m * z)).map λaf=>(w.cell? ⟨(a.map (·.block)).getD 0,lo * z+af,none⟩).getD undef,by simp,λaf aa=>?_⟩
   obtain ⟨b,gH,kz,h1,al,aP,b3,dF⟩:=cell af aa
   refine ⟨b,gH,kz,?_,h1,al,aP,b3,dF⟩
   rw [List.getElem?_map,List.getElem?_range aa,h1]
   simp [al]
  obtain ⟨news,ao,aL⟩:=sR
  refine ⟨news,ao,λad fZ af u aa=>?_,⟨?_,λaf u aa=>?_,λaf x u J aa=>?_⟩,λF5 GG=>?_⟩
  ·obtain ⟨b,gH,kz,h1,al,aP,_⟩:=aL af (by rw [<- ao]; exact (List.getElem?_eq_some_iff.1 aa).1)
   rw [h1] at aa; cases aa
   rw [fZ] at al; cases al
   exact aP
  ·simp; omega
  ·obtain ⟨b,gH,kz,h1,al,aP,b3,_⟩:=aL af (by rw [<- ao]; exact (List.getElem?_eq_some_iff.1 aa).1)
   rw [h1] at aa; cases aa; exact b3
  ·obtain ⟨b,gH,kz,h1,al,aP,b3,dF,e0⟩:=aL af (by rw [<- ao]; exact (List.getElem?_eq_some_iff.1 aa).1)
   rw [h1] at aa; cases aa
   rw [List.getElem?_mapIdx,List.getElem?_take] at J
   split at J
   ·rw [List.getElem?_drop,dF] at J
    simp only [Option.map_some,Option.some.injEq] at J
    rw [<- J]; exact e0
   ·cases J
  ·obtain ⟨b,_,_,h1,_⟩:=cell 0 (Nat.mul_pos F5 GG)
   exact ⟨b,h1⟩
 cases aM with
 | aF =>
  obtain ⟨a,cap,rfl,_,hlen,hm⟩:=bj.xQ
  by_cases bd:cells≠[]\/0<m
  ·obtain ⟨ad,us,rfl,bt,k_,gW,ab,ay⟩:=hm bd
   refine ⟨_,cap,(List.range cells.length).map us,rfl,by simp [hlen],by simp,λNM fZ af u aa=>?_,⟨by simp,λaf u aa=>?_,λaf x u J aa=>?_⟩⟩
   ·cases fZ
    rw [List.getElem?_map] at aa
    by_cases fr:af<cells.length
    ·rw [List.getElem?_range fr] at aa
     simp only [Option.map_some,Option.some.injEq] at aa
     obtain ⟨b,o,sp⟩:=ad
     simp only at k_
     subst k_
     rw [add_eq,<- aa]
     exact ab af _ (List.getElem?_eq_getElem fr)
    ·rw [List.getElem?_eq_none (by simp; omega)] at aa; cases aa
   ·rw [List.getElem?_map] at aa
    by_cases fr:af<cells.length
    ·rw [List.getElem?_range fr] at aa
     simp only [Option.map_some,Option.some.injEq] at aa
     rw [<- aa]
     exact gW af _ (List.getElem?_eq_getElem fr)
    ·rw [List.getElem?_eq_none (by simp; omega)] at aa; cases aa
   ·rw [List.getElem?_map] at aa
    have fr:af<cells.length:=(List.getElem?_eq_some_iff.1 J).1
    rw [List.getElem?_range fr] at aa
    simp only [Option.map_some,Option.some.injEq] at aa
    rw [<- aa]
    exact ay af x J
  ·have F5:m=0:=by omega
   have RB:cells=[]:=Classical.byContradiction λe=>bd (.inl e)
   subst F5 RB
   exact ⟨a,cap,[],rfl,by simp,by simp,by simp,by simp [Cells]⟩
 | aI =>
  rw [bj.q8]
  exact ⟨none,0,[],rfl,by simp,by simp,by simp,by simp [Cells]⟩
 | @bl _ _ N q cs bN hm =>
  obtain ⟨⟨a,jf,cap,h1,rfl,aP⟩,b3⟩:=bj.mG
  obtain ⟨hQ,cO,iE,d',_⟩:=h.part bN (by simp)
  obtain ⟨cI,lY,kc,_⟩:=d'.mJ
  rw [h1] at iE
  cases iE
  cases kc
  obtain ⟨news,ao,ab,hF,bm⟩:=LX 0 bN h1 (by omega)
  simp only [Nat.zero_mul,List.drop_zero,Nat.zero_add] at hF ab
  refine ⟨a,cap,news,rfl,ao,λbd CJ=>by obtain ⟨b,rfl⟩:=bm bd CJ; rfl,λad fZ af u aa=>?_,hF⟩
  have tY:=ab ad fZ af u aa
  by_cases bd:0<m/\0<z
  ·obtain ⟨b,aJ⟩:=bm bd.1 bd.2
   rw [fZ] at aJ; cases aJ
   rw [add_eq]; simpa using tY
  ·have:m * z=0:=by
    rcases Nat.eq_zero_or_pos m with h | h
    ·simp [h]
    ·rcases Nat.eq_zero_or_pos z with aS | aS
     ·simp [aS]
     ·exact absurd ⟨h,aS⟩ bd
   have:=(List.getElem?_eq_some_iff.1 aa).1
   omega
 | @sub _ lo _ N q cs bN hm =>
  obtain ⟨⟨a,jf,cap,cI,lY,h1,rfl,_,aP,dF⟩,b3⟩:=bj.vD
  obtain ⟨hQ,cO,iE,d',_⟩:=h.part bN (by simp)
  obtain ⟨a2,qK,kc,_⟩:=d'.mJ
  rw [h1] at iE
  cases iE
  cases kc
  obtain ⟨news,ao,ab,hF,bm⟩:=LX lo bN h1 hm
  refine ⟨cI,lY,news,rfl,ao,λbd _=>by obtain ⟨ad,_,rfl⟩:=dF bd; rfl,λad fZ af u aa=>?_,hF⟩
  have bg:=(List.getElem?_eq_some_iff.1 aa).1
  have bd:0<m:=(Nat.eq_zero_or_pos m).elim (λh=>by rw [h] at ao; omega) id

  have bJ:0<z:=(Nat.eq_zero_or_pos z).elim (λh=>by rw [h] at ao; omega) id

  obtain ⟨NM,e0,lK⟩:=dF bd
  obtain ⟨b,aJ⟩:=bm bd bJ
  rw [e0] at aJ; cases aJ
  rw [fZ] at lK; cases lK
  have tY:=ab _ e0 af u aa
  rw [add_eq]; simpa using tY
end
end Go.Own
namespace Go.Own
open Go
inductive yQ (P:Program) (g:aZ):Op->TypeId->aj->Prop
 | grow {s x:Operand}{t e ty:TypeId}{z b n m:Nat}{p:Place}{y:aj}{cells:List aj}(aM:bO g s=some (.bl z p n)) (fo:gK g (.bR z p n 0 [])) (gP:∀ t cN cY m' dq,g t≠some (.bR cN p cY m' dq))
   (J:bO g x=some y) (q2:Src g y z m cells) (aE:ix P t e z b=true) (p3:n+m<=4611686018427387904) (aJ:(n+m) * b<=140737488355328) :
   yQ P g (.call { callee:=.builtin .append,args:=#[s,x],argTypes:=#[t,t] }) ty (.bR z p n m cells)
 | nil {s x:Operand}{t e ty:TypeId}{z b m:Nat}{y:aj}{cells:List aj}(aM:bO g s=some .aI)
   (J:bO g x=some y) (q2:Src g y z m cells) (aE:ix P t e z b=true) (p3:m<=4611686018427387904) (aJ:m * b<=140737488355328) :
   yQ P g (.call { callee:=.builtin .append,args:=#[s,x],argTypes:=#[t,t] }) ty (.own z m cells)
inductive dJ (P:Program) (g:aZ):Op->TypeId->aj->Prop
 | fA {op:Op}{ty:TypeId}{x:aj}(h:dA P g op ty x):dJ P g op ty x
 | qi {op:Op}{ty:TypeId}{x:aj}(h:o2 P g op ty x):dJ P g op ty x
 | Dz {op:Op}{ty:TypeId}{x:aj}(h:tp P g op ty x):dJ P g op ty x
 | lA {op:Op}{ty:TypeId}{x:aj}(h:yQ P g op ty x):dJ P g op ty x
section
variable {P:Program}{w:World}{I:br}{T:Array Value}{g:aZ}{Fs:Nat->br}
theorem Cells.frame {w':World}{cells:List aj}{news:List Value}(ab:Cells w I (er w T g) cells news) (bt:∀ c,I c->w'.heap[c]?=w.heap[c]?) (ay:∀ r v,er w T g r v->er w' T g r v):Cells w' I (er w' T g) cells news :=
 ⟨ab.1,ab.2.1,λk x u J hu=>(ab.2.2 k x u J hu).frame bt (λ_ h=>h) ay λ_ h=>h.elim⟩
theorem yQ.sound (h:c_ w I T g Fs) {a:Act}(bm:a.tmps=T) {o:Oper}{kk:aj}(aH:yQ P g o.op o.type kk) :
  ∃ v w',(execOp a.eval o).run P w=.ok (.value v) w'/\tl w I T g Fs kk v w':=by
 obtain ⟨dst,op,ty,pos,after,guard⟩:=o
 simp only at aH
 cases aH with
 | @grow s x t e _ z b n m p y cells aM fo gP J q2 aE p3 aJ =>
  obtain ⟨i,ep,hu,hi,rfl,rfl,bd,bJ,n9⟩:=IU aE
  obtain ⟨⟨uV,N,uW,h1,al,aP⟩,b3⟩:=(ke h aM bm).mG
  obtain ⟨Br,HF,news,sT,ao,Af,Gh,hF⟩:=q2.sound h (ke h J bm)
  -- the row of the base
  have oJ:N=n/\∃ cX us,w.ownsRow 0 cX i.size (.slice uV n uW) n us:=by
   rcases fo with ⟨cs,aH⟩ | ⟨jb,q,hd,m0,new,cs,aH,rfl,_⟩
   ·obtain ⟨hQ,cO,iE,d',_⟩:=h.part aH (by simp)
    rw [h1] at iE
    cases iE
    obtain ⟨cI,lY,kc,_⟩:=d'.mJ
    cases kc
    cases d' with
    | own bh=>exact ⟨rfl,_,_,bh⟩
    | ref J=>simp [aj.isRef] at J
   ·obtain ⟨v0,iO,Aj,gM⟩:=h.HU aH
    have bN:(⟨p.root,[]⟩:Place)=p:=by cases p; simp_all
    rw [bN,h1] at Aj
    cases Aj
    obtain ⟨bv,dy,de,us,WO,gM⟩:=gM.uk
    have bY:N=hd+m0:=by
     obtain ⟨_,b6⟩:=gM.mB
     rcases b6 with ⟨b6,aL⟩ | ⟨g,cap,cur,b6,_⟩
     ·cases b6; omega
     ·cases b6; rfl
    subst bY
    exact ⟨rfl,_,_,gM.mB⟩
  obtain ⟨rfl,cX,us,k9⟩:=oJ
  have jU:er w T g (.bR i.size p N 0 []) (.slice uV N uW):=⟨⟨uV,uW,h1,rfl⟩,fo⟩
  obtain ⟨hQ,w',de,h4,A⟩:=Mm (P:=P) (w:=w) t ty e cX i ep hu hi bJ n9 bd k9 (a:=Br) (c:=HF) (m:=m) (news:=news) (λhm=>Af hm bd) ao Gh (λu hu=>by
   obtain ⟨k,hk,rfl⟩:=List.mem_iff_getElem.1 hu
   exact hF.2.1 k _ (List.getElem?_eq_getElem hk)) (by unfold maxLen; omega) aJ
  obtain ⟨bU,hrefs⟩:=h.app jU gP A
  refine ⟨hQ,w',by simp [execOp,resolve,invoke,builtin,al,sT,h4],(λc=>hQ.ownBlock=some c/\(Value.slice uV N uW).ownBlock≠some c),I,bU,?_,?_,?_,λ_ h=>h,λ_ h=>.inl h,?_,?_⟩
  ·have bt:∀ c,I c->w'.heap[c]?=w.heap[c]?:=by
    intro c ab
    refine A.fJ.block c (h.lt c ab) λaJ=>?_
    obtain ⟨t,aE⟩:=h.Cd jU c aJ
    exact h.aF t c aE ab
   have ly:=hF.frame bt hrefs
   exact .bR ⟨hrefs _ _ jU,A.lQ,A.new,ly.1,ly.2.1,ly.2.2,λc=>Iff.rfl⟩
  ·rintro t c ⟨ja,sO⟩ bn
   rcases A.Ce c ja with h | aS
   ·exact sO h
   ·have:=h.j0 t c bn; omega
  ·rintro c ⟨ja,sO⟩
   rcases A.Ce c ja with aS | aS
   ·exact absurd aS sO
   ·exact ⟨aS,λhi=>by have:=h.lt c hi; omega⟩
  ·exact A.fJ.mono λc _ ab=>h.Cd jU c ab
  ·intro cN TT cY m' dq he
   cases he
   exact gP
 | @nil s x t e _ z b m y cells aM J q2 aE p3 aJ =>
  obtain ⟨i,ep,hu,hi,rfl,rfl,bd,bJ,n9⟩:=IU aE
  have al:=(ke h aM bm).q8
  obtain ⟨Br,HF,news,sT,ao,Af,Gh,hF⟩:=q2.sound h (ke h J bm)
  obtain ⟨hQ,w',de,h4,A⟩:=Mm (P:=P) (w:=w) t ty e e i ep hu hi bJ n9 bd (World.ownsRow_nil w 0 e i.size) (a:=Br) (c:=HF) (m:=m) (news:=news) (λhm=>Af hm bd) ao Gh (λu hu=>by
   obtain ⟨k,hk,rfl⟩:=List.mem_iff_getElem.1 hu
   exact hF.2.1 k _ (List.getElem?_eq_getElem hk)) (by unfold maxLen; omega) (by simpa using aJ)
  have same:∀ c,c<w.heap.size->w'.heap[c]?=w.heap[c]?:=λc ab=>A.fJ.block c ab (by simp [Value.ownBlock])
  have q0:=A.new
  simp only [Nat.zero_add,List.nil_append] at q0
  have ly:=hF.frame (λc ab=>same c (h.lt c ab)) λr v ay=>h.DI (λ_ _=>rfl) (λt c ab=>same c (h.j0 t c ab)) (λ_ _ h=>h) ay
  have hblk:∀ c,hQ.ownBlock=some c->w.heap.size<=c:=λc ab=>(A.Ce c ab).elim (λh=>by simp [Value.ownBlock] at h) id
  refine ⟨hQ,w',by simp [execOp,resolve,invoke,builtin,al,sT,h4],(λc=>hQ.ownBlock=some c),I,h.world (λt c ab=>same c (h.j0 t c ab)) (λc ab=>same c (h.lt c ab)) A.fJ.size,?_,?_,λc ab=>⟨hblk c ab,λhi=>by have:=h.lt c hi; have:=hblk c ab; omega⟩,λ_ h=>h,λ_ h=>.inl h,?_,?_⟩
  ·exact .tree (.own (Fs:=λ_=>cW) q0 ly.1 ly.2.1 ly.2.2 (λ_ _ _ _ _ h=>h.elim) (λ_ _ _ h=>h.elim) λc=>⟨.inl,λh=>h.elim id λ⟨_,_,h⟩=>h.elim⟩)
  ·intro t c ab bn; have:=hblk c ab; have:=h.j0 t c bn; omega
  ·exact A.fJ.mono λc _ ab=>by simp [Value.ownBlock] at ab
  ·intro cN TT cY m' dq he; cases he
theorem dJ.sound (h:c_ w I T g Fs) {a:Act}(bm:a.tmps=T) {o:Oper}{kk:aj}(aH:dJ P g o.op o.type kk) :
  ∃ v w',(execOp a.eval o).run P w=.ok (.value v) w'/\tl w I T g Fs kk v w':=by
 have AF:∀ {v:Value}{F:br},R w I (er w T g) kk v F->∀ z p n m new,kk=.bR z p n m new->∀ t cN cY m' dq,g t≠some (.bR cN p cY m' dq):=by
  rintro v F bj z p n m new rfl
  exact bj.lf.elim
 cases aH with
 | fA aH =>
  obtain ⟨v,ay,bj⟩:=aH.sound h bm
  exact ⟨v,w,ay,cW,I,h,.tree bj,λ_ _ h=>h.elim,λ_ h=>h.elim,λ_ h=>h,λ_ h=>.inl h,Fr.refl _ _,AF bj⟩
 | Dz aH =>
  obtain ⟨v,ay,bj⟩:=aH.sound h bm
  exact ⟨v,w,ay,cW,I,h,.tree bj,λ_ _ h=>h.elim,λ_ h=>h.elim,λ_ h=>h,λ_ h=>.inl h,Fr.refl _ _,AF bj⟩
 | qi aH =>
  obtain ⟨v,rb,ay,bj⟩:=aH.sound h bm
  refine ⟨v,_,ay,_,I,h.alloc rb,.tree bj,λt c ab bn=>?_,λc ab=>⟨by rw [ab]; exact Nat.le_refl _,λhi=>by have:=h.lt c hi; omega⟩,λ_ h=>h,λ_ h=>.inl h,Fr.alloc w rb _ (by
   obtain ⟨o,h1,al⟩:=bj.T3 w.heap.size rfl
   rw [sk] at h1
   cases h1
   exact al),?_⟩
  ·have:=h.j0 t c bn; omega
  ·rintro z p n m new rfl; exact bj.lf.elim
 | lA aH=>exact aH.sound h bm
end
end Go.Own
namespace Go.Own
open Go
inductive dp:aj->Prop
 | lit {v:Value}:dp (.lit v)
 | aI:dp .aI
 | dead:dp .dead
 | aF {z n:Nat}{cs:List aj}(h:∀ x∈cs,dp x):dp (.aF z n cs)
 | own {z n:Nat}{cs:List aj}(h:∀ x∈cs,dp x):dp (.own z n cs)
 | obj {cs:List aj}(h:∀ x∈cs,dp x):dp (.obj cs)
 | agg {cs:List aj}(h:∀ x∈cs,dp x):dp (.agg cs)
 | cG {cs:List aj}(h:∀ x∈cs,dp x):dp (.cG cs)
 | bo {cs:List aj}(h:∀ x∈cs,dp x):dp (.bo cs)
 | ey {fn:Fn}{a b:List aj}(h1:∀ x∈a,dp x) (al:∀ x∈b,dp x):dp (.ey fn a b)
 | mp {p:Array MapEntry->Nat->Prop}:dp (.mp p)
 | imp {p:Array MapEntry->Nat->Prop}:dp (.imp p)
inductive kC:aj->Prop
 | lit {v:Value}:kC (.lit v)
 | aI:kC .aI
 | dead:kC .dead
 | own {z n:Nat}{cs:List aj}(h:∀ x∈cs,kC x):kC (.own z n cs)
 | obj {cs:List aj}(h:∀ x∈cs,kC x):kC (.obj cs)
 | agg {cs:List aj}(h:∀ x∈cs,kC x):kC (.agg cs)
 | cG {cs:List aj}(h:∀ x∈cs,kC x):kC (.cG cs)
 | mp {p:Array MapEntry->Nat->Prop}:kC (.mp p)
theorem kC.bI {x:aj}(h:kC x):dp x:=by
 induction h with
 | lit=>exact .lit
 | aI=>exact .aI
 | dead=>exact .dead
 | own _ aR=>exact .own aR
 | obj _ aR=>exact .obj aR
 | agg _ aR=>exact .agg aR
 | cG _ aR=>exact .cG aR
 | mp=>exact .mp
inductive Rows (g:aZ):Place->Nat->Nat->List aj->Prop
 | own {p:Place}{z n:Nat}{cs:List aj}(aH:b7 g p=some (.own z n cs)):Rows g p z n cs
 | bR {t z n m:Nat}{q:Place}{new cs:List aj}(aE:g t=some (.bR z q n m new)) (bN:Rows g q z n cs):Rows g ⟨t,[]⟩ z (n+m) (cs++new)
theorem Rows.mono {g g':aZ}(h:∀ {p:Place}{y:aj},b7 g p=some y->b7 g' p=some y) {p:Place}{z n:Nat}{cs:List aj}(ay:Rows g p z n cs) (al:∀ t x,g t=some x->g' t=some x):Rows g' p z n cs:=by
 induction ay with
 | own aH=>exact .own (h aH)
 | bR aE _ aR=>exact .bR (al _ _ aE) aR
inductive View (g:aZ):aj->aj->Prop
 | self {x:aj}(h:dp x) (J:∀ z n cs,x≠.own z n cs) (bh:∀ cs,x≠.obj cs) (bm:∀ cs,x≠.agg cs) (aE:∀ cs,x≠.cG cs) (hm:∀ p,x≠.mp p):View g x x
 | mp {p:Array MapEntry->Nat->Prop}:View g (.mp p) (.imp p)
 | hN {p:Place}{q:Array MapEntry->Nat->Prop}(aH:b7 g p=some (.mp q)):View g (.hN p) (.imp q)
 | py {z:Nat}:View g .aI (.aF z 0 [])
 | agg {cs cs':List aj}(ao:cs'.length=cs.length) (h:∀ (k:Nat) (x y:aj),cs[k]?=some x->cs'[k]?=some y->View g x y):View g (.agg cs) (.agg cs')
 | own {z n:Nat}{cs cs':List aj}(ao:cs'.length=cs.length) (h:∀ (k:Nat) (x y:aj),cs[k]?=some x->cs'[k]?=some y->View g x y):View g (.own z n cs) (.aF z n cs')
 | obj {cs cs':List aj}(ao:cs'.length=cs.length) (h:∀ (k:Nat) (x y:aj),cs[k]?=some x->cs'[k]?=some y->View g x y):View g (.obj cs) (.bo cs')
 | bl {z n N:Nat}{p:Place}{cs cs':List aj}(aH:b7 g p=some (.own z N cs)) (aL:n<=N) (ao:cs'.length=(cs.take (n * z)).length) (h:∀ (k:Nat) (x y:aj),(cs.take (n * z))[k]?=some x->cs'[k]?=some y->View g x y):View g (.bl z p n) (.aF z n cs')
 | sub {z lo n N:Nat}{p:Place}{cs cs':List aj}(aH:b7 g p=some (.own z N cs)) (aL:lo+n<=N) (ao:cs'.length=((cs.drop (lo * z)).take (n * z)).length) (h:∀ (k:Nat) (x y:aj),((cs.drop (lo * z)).take (n * z))[k]?=some x->cs'[k]?=some y->View g x y):View g (.sub z p lo n) (.aF z n cs')
 | ptr {p:Place}{k z n:Nat}{y:aj}{cs cs':List aj}(aH:b7 g p=some y) (az:y=.own z n cs\/y=.obj cs) (hk:k<cs.length) (ao:cs'.length=(cs.drop k).length) (h:∀ (af:Nat) (x y:aj),(cs.drop k)[af]?=some x->cs'[af]?=some y->View g x y):View g (.ptr p k) (.bo cs')
 | ey {fn:Fn}{cs cs':List aj}(ao:cs'.length=cs.length) (h:∀ (k:Nat) (x y:aj),cs[k]?=some x->cs'[k]?=some y->View g x y):View g (.ey fn [] cs) (.ey fn [] cs')
 | rows {z n:Nat}{p:Place}{cs cs':List aj}(aH:Rows g p z n cs) (ao:cs'.length=cs.length) (h:∀ (k:Nat) (x y:aj),cs[k]?=some x->cs'[k]?=some y->View g x y):View g (.bl z p n) (.aF z n cs')
section
variable {P:Program}{w:World}{I:br}{T:Array Value}{g:aZ}{Fs:Nat->br}
theorem R.bI {ρ ρ':aj->Value->Prop}{x:aj}{v:Value}{F:br}(h:R w I ρ x v F):dp x->R w I ρ' x v F:=by
 induction h with
 | lit h aQ=>exact λ_=>.lit h aQ
 | aI aQ=>exact λ_=>.aI aQ
 | dead aQ=>exact λ_=>.dead aQ
 | @ref x _ _ J h aQ=>intro aL; cases aL <;> simp [aj.isRef] at J
 | hY aQ=>exact λ_=>.hY aQ
 | aF aQ k7 bt aM ao h1 ab ay aR=>exact λaL=>.aF aQ k7 bt aM ao h1 ab λk x J=>aR k x J (by cases aL with | aF h=>exact h x (List.mem_of_getElem? J))
 | bo aQ bt aM h1 ab ay aR=>exact λaL=>.bo aQ bt aM h1 ab λk x J=>aR k x J (by cases aL with | bo h=>exact h x (List.mem_of_getElem? J))
 | own bh ao h1 ay aY aJ aQ aR=>exact λaL=>.own bh ao h1 (λk x u J hu=>aR k x u J hu (by cases aL with | own h=>exact h x (List.mem_of_getElem? J))) aY aJ aQ
 | obj bh ao h1 ay aY aJ aQ aR=>exact λaL=>.obj bh ao h1 (λk x u J hu=>aR k x u J hu (by cases aL with | obj h=>exact h x (List.mem_of_getElem? J))) aY aJ aQ
 | agg ao h1 ay aY aQ aR=>exact λaL=>.agg ao h1 (λk x u J hu=>aR k x u J hu (by cases aL with | agg h=>exact h x (List.mem_of_getElem? J))) aY aQ
 | cG ao ay aY aQ aR=>exact λaL=>.cG ao (λk x u J hu=>aR k x u J hu (by cases aL with | cG h=>exact h x (List.mem_of_getElem? J))) aY aQ
 | mp bh aH aQ=>exact λ_=>.mp bh aH aQ
 | imp aQ bt bh aH=>exact λ_=>.imp aQ bt bh aH
 | ey aQ h1 al jV iN gB gq=>exact λaL=>.ey aQ h1 al (λk x u J hu=>gB k x u J hu (by cases aL with | ey h _=>exact h x (List.mem_of_getElem? J))) (λk x u J hu=>gq k x u J hu (by cases aL with | ey _ h=>exact h x (List.mem_of_getElem? J)))
theorem R.nn {ρ:aj->Value->Prop}{I':br}{x:aj}{v:Value}{F:br}(h:R w I ρ x v F) (bt:∀ c,I c->I' c):R w I' ρ x v F :=
 h.frame (λ_ _=>rfl) bt (λ_ _ h=>h) λ_ _=>rfl
theorem R.lg {ρ ρ':aj->Value->Prop}{I':br}{x:aj}{v:Value}{F:br}(h:R w I ρ x v F):kC x->R w I' ρ' x v F:=by
 induction h with
 | lit h aQ=>exact λ_=>.lit h aQ
 | aI aQ=>exact λ_=>.aI aQ
 | dead aQ=>exact λ_=>.dead aQ
 | @ref x _ _ J h aQ=>intro aL; cases aL <;> simp [aj.isRef] at J
 | hY=>intro aL; cases aL
 | aF=>intro aL; cases aL
 | bo=>intro aL; cases aL
 | own bh ao h1 ay aY aJ aQ aR=>exact λaL=>.own bh ao h1 (λk x u J hu=>aR k x u J hu (by cases aL with | own h=>exact h x (List.mem_of_getElem? J))) aY aJ aQ
 | obj bh ao h1 ay aY aJ aQ aR=>exact λaL=>.obj bh ao h1 (λk x u J hu=>aR k x u J hu (by cases aL with | obj h=>exact h x (List.mem_of_getElem? J))) aY aJ aQ
 | agg ao h1 ay aY aQ aR=>exact λaL=>.agg ao h1 (λk x u J hu=>aR k x u J hu (by cases aL with | agg h=>exact h x (List.mem_of_getElem? J))) aY aQ
 | cG ao ay aY aQ aR=>exact λaL=>.cG ao (λk x u J hu=>aR k x u J hu (by cases aL with | cG h=>exact h x (List.mem_of_getElem? J))) aY aQ
 | ey=>intro aL; cases aL
 | mp bh aH aQ=>exact λ_=>.mp bh aH aQ
 | imp=>intro aL; cases aL
theorem R.x4 {ρ:aj->Value->Prop}{z n:Nat}{cs:List aj}{v:Value}{F:br}(h:R w I ρ (.own z n cs) v F):∃ (a:Option Addr) (cap:Nat) (us:Nat->Value) (bK:Nat->br),v=.slice a n cap/\n<=cap/\cs.length=n * z /\
  (∀ ad,a=some ad->∃ b,ad=⟨b,0,none⟩/\F b)/\(∀ (k:Nat) (x:aj),cs[k]?=some x->∃ b,a=some ⟨b,0,none⟩/\w.cell? ⟨b,k,none⟩=some (us k)/\(us k).oneCell'=true/\R w I ρ x (us k) (bK k)/\∀ c,bK k c->F c):=by
 have bd:=h
 cases h with
 | ref J=>simp [aj.isRef] at J
 | @own _ _ _ _ e us Fs _ bh ao h1 ay aY aJ aQ =>
  obtain ⟨a,cap,rfl,aL,hlen,p8,rT⟩:=bd.mJ
  refine ⟨a,cap,λk=>us.getD k undef,Fs,rfl,aL,hlen,λad fZ=>?_,λk x hk=>?_⟩
  ·obtain ⟨z6,z7⟩:=p8 ad fZ
   obtain ⟨b,o,sp⟩:=ad
   simp only at z6 z7
   subst z6 z7
   exact ⟨b,rfl,(aQ b).2 (.inl (by rw [fZ]; rfl))⟩
  ·have bg:k<cs.length:=(List.getElem?_eq_some_iff.1 hk).1
   have hu:us[k]?=some us[k]:=List.getElem?_eq_getElem (ao ▸ bg)
   obtain ⟨b,u,fZ,lL,l3,gW,_⟩:=bd.node (.inl rfl) hk
   have:a=some ⟨b,0,none⟩:=by
    cases a with
    | none=>simp [addrOf] at fZ
    | some ad=>simp only [addrOf] at fZ; rw [Option.some.inj fZ]
   rw [oa bh hu] at l3
   cases l3
   refine ⟨b,this,?_,?_,?_,λc ab=>(aQ c).2 (.inr ⟨k,bg,ab⟩)⟩
   ·simpa [List.getD,hu] using lL
   ·simpa [List.getD,hu] using gW
   ·simpa [List.getD,hu] using ay k x _ hk hu
theorem R.Dt {ρ:aj->Value->Prop}{y:aj}{v:Value}{F:br}{z n:Nat}{cs:List aj}(h:R w I ρ y v F) (az:y=.own z n cs\/y=.obj cs) {ad:Addr}(bm:addrOf v=some ad):F ad.block:=by
 rcases az with rfl | rfl
 ·obtain ⟨a,cap,rfl,_⟩:=h.mJ
  refine h.pA _ ?_
  cases a with
  | none=>simp [addrOf] at bm
  | some a=>simp only [addrOf,Option.some.injEq] at bm; subst bm; rfl
 ·cases h with
  | ref J=>simp [aj.isRef] at J
  | obj bh ao h1 ay aY aJ aQ=>simp only [addrOf,Option.some.injEq] at bm; subst bm; exact (aQ _).2 (.inl rfl)
theorem TR {w:World}{e cX:TypeId}{z n:Nat}{v:Value}{us iS:List Value}(h:w.ownsRow 0 e z v n us) (aS:w.ownsRow 0 cX z v n iS):us=iS:=by
 obtain ⟨h1,al⟩:=h
 obtain ⟨aP,b3⟩:=aS
 rcases al with ⟨rfl,rfl⟩ | ⟨b,cap,cur,rfl,_,b6,_,_,_,aE⟩
 ·have dy:us=[]:=List.eq_nil_of_length_eq_zero (by simpa using h1)
  have de:iS=[]:=List.eq_nil_of_length_eq_zero (by simpa using aP)
  rw [dy,de]
 ·rcases b3 with ⟨dy,_⟩ | ⟨hT,lY,PA,dy,_,KW,_,_,_,p_⟩
  ·cases dy
  ·cases dy
   rw [b6] at KW
   cases KW
   rw [<- aE,<- p_]
theorem Rows.sound {ρ:aj->Value->Prop}(H1:∀ t z q n m new,g t=some (.bR z q n m new)->∃ v,T[t]?=some v/\jH w I ρ (.bR z q n m new) v (Fs t))
  (Np:∀ p z n cs,b7 g p=some (.own z n cs)->∃ v cO,eo w T p=some v/\R w I ρ (.own z n cs) v cO/\∀ c,cO c->Fs p.root c) (yL:∀ z p n v,ρ (.bR z p n 0 []) v->eo w T p=some v) {p:Place}{z n:Nat}{cs:List aj}(h:Rows g p z n cs) :
  ∃ v e us,eo w T p=some v/\w.ownsRow 0 e z v n us/\us.length=cs.length/\(∀ (k:Nat) (u:Value),us[k]?=some u->u.oneCell'=true)/\(∀ c,v.ownBlock=some c->∃ t,Fs t c) /\
   (∀ (k:Nat) (x:aj) (u:Value),cs[k]?=some x->us[k]?=some u->∃ bK,R w I ρ x u bK/\∀ c,bK c->∃ t,Fs t c):=by
 induction h with
 | @own p z n cs aH =>
  obtain ⟨v,cO,hv,bj,aQ⟩:=Np p z n cs aH
  cases bj with
  | ref J=>simp [aj.isRef] at J
  | @own _ _ _ _ e us bK _ bh ao h1 ay aY aJ k6 =>
   refine ⟨v,e,us,hv,bh,ao.symm,h1,λc ab=>⟨_,aQ c ((k6 c).2 (.inl ab))⟩,λk x u J hu=>⟨bK k,ay k x u J hu,λc ab=>⟨_,aQ c ((k6 c).2 (.inr ⟨k,(List.getElem?_eq_some_iff.1 J).1,ab⟩))⟩⟩⟩
 | @bR t z n m q new cs aE _ aR =>
  obtain ⟨v,hv,bj⟩:=H1 t z q n m new aE
  obtain ⟨v0,e,us,iO,bh,ao,h1,aJ,ay⟩:=aR
  cases bj with
  | tree bj=>exact bj.lf.elim
  | @bR _ _ _ _ _ _ bv dy de U9 news _ bj =>
   have kG:=yL _ _ _ _ bj.jU
   rw [iO] at kG
   cases kG
   have:=TR bh bj.k9
   subst this
   refine ⟨v,de,us++news,by simp [eo,hv,walk],bj.mB,by rw [List.length_append,List.length_append,ao,bj.ao],λk u hu=>?_,λc ab=>?_,λk x u J hu=>?_⟩
   ·by_cases hk:k<us.length
    ·rw [List.getElem?_append_left hk] at hu; exact h1 k u hu
    ·rw [List.getElem?_append_right (by omega)] at hu; exact bj.h1 _ u hu
   ·by_cases p5:v0.ownBlock=some c
    ·exact aJ c p5
    ·exact ⟨t,(bj.aQ c).2 ⟨ab,p5⟩⟩
   ·by_cases hk:k<us.length
    ·rw [List.getElem?_append_left (by omega)] at J
     rw [List.getElem?_append_left hk] at hu
     exact ay k x u J hu
    ·rw [List.getElem?_append_right (by omega)] at J
     rw [List.getElem?_append_right (by omega),ao] at hu
     exact ⟨_,bj.ay _ x u J hu,λc ab=>ab.elim⟩
theorem Mg {ρ':aj->Value->Prop}{e:TypeId}{z n N cap:Nat}{a:Option Addr}{us:List Value}{cs cs':List aj}(bh:w.ownsRow 0 e z (.slice a N cap) n us) (hlen:us.length=cs.length) (h1:∀ (k:Nat) (u:Value),us[k]?=some u->u.oneCell'=true) (aJ:∀ c,(Value.slice a N cap).ownBlock=some c->∃ t,Fs t c) (ao:cs'.length=cs.length)
  (ay:∀ (k:Nat) (x y:aj) (u:Value),cs[k]?=some x->cs'[k]?=some y->us[k]?=some u->R w (λc=>I c\/∃ t,Fs t c) ρ' y u cW):R w (λc=>I c\/∃ t,Fs t c) ρ' (.aF z n cs') (.slice a n cap) cW:=by
 obtain ⟨K3,bh⟩:=bh
 rcases bh with ⟨kG,bd⟩ | ⟨b,qK,cur,dy,_,b6,CX,ab,aM,aE⟩
 ·cases kG
  subst bd
  have ly:cs'=[]:=List.eq_nil_of_length_eq_zero (by rw [ao,<- hlen,K3]; simp)
  subst ly
  exact .hY λ_ h=>h
 ·cases dy
  refine .aF (us:=λk=>us.getD k undef) (λ_ h=>h) CX (.inr (aJ b rfl)) rfl (by rw [ao,<- hlen,K3]) (λk y az=>?_) (λk y az=>?_) λk y az=>?_
  all_goals
   have hk:k<us.length:=by rw [hlen,<- ao]; exact (List.getElem?_eq_some_iff.1 az).1
   have hu:us[k]?=some us[k]:=List.getElem?_eq_getElem hk
   have a':us.getD k undef=us[k]:=by simp [List.getD,hu]
  ·rw [a']; exact h1 k _ hu
  ·rw [a']
   have ue:∀ u,us[k]?=some u->w.cell? ⟨b,k,none⟩=some u:=λu ue=>by
    rw [<- aE,List.getElem?_take] at ue
    split at ue
    ·simpa [World.cell?,b6] using ue
    ·cases ue
   simpa using ue _ hu
  ·rw [a']
   exact ay k _ y _ (List.getElem?_eq_getElem (by omega)) az hu
theorem View.sound (h:c_ w I T g Fs) {x x':aj}(hv:View g x x'):∀ {v:Value}{F:br},R w I (er w T g) x v F->(∀ c,F c->∃ t,Fs t c)->∀ ρ',R w (λc=>I c\/∃ t,Fs t c) ρ' x' v cW:=by
 induction hv with
 | py =>
  intro v F bj aQ ρ'
  have:=bj.q8
  subst this
  exact .hY λ_ h=>h
 | mp =>
  intro v F bj aQ ρ'
  cases bj with
  | ref J=>simp [aj.isRef] at J
  | mp bh aH aJ=>exact .imp (λ_ h=>h) (.inr (aQ _ ((aJ _).2 rfl))) bh aH
 | hN aH =>
  intro v F bj aQ ρ'
  cases bj with
  | ref _ ay _ =>
   obtain ⟨⟨b,aJ,rfl⟩,_⟩:=ay
   obtain ⟨hQ,cO,iE,d',dG⟩:=h.part aH (by simp)
   rw [aJ] at iE
   cases iE
   cases d' with
   | ref J=>simp [aj.isRef] at J
   | mp bh aH aJ=>exact .imp (λ_ h=>h) (.inr ⟨_,dG _ ((aJ _).2 rfl)⟩) bh aH
 | self aL h1 al aP b3 dF =>
  intro v F bj aQ ρ'
  refine ((bj.bI aL).nn λc ab=>.inl ab).empty ?_
  cases bj with
  | mp=>exact absurd rfl (dF _)
  | lit _ aQ | aI aQ | dead aQ | ref _ _ aQ | hY aQ | aF aQ | bo aQ | ey aQ | imp aQ=>exact aQ
  | own=>exact absurd rfl (h1 _ _ _)
  | obj=>exact absurd rfl (al _)
  | agg=>exact absurd rfl (aP _)
  | cG=>exact absurd rfl (b3 _)
 | @agg cs cs' ao _ aR =>
  intro v F bj aQ ρ'
  cases bj with
  | ref J=>simp [aj.isRef] at J
  | @agg _ vs bK _ ia h1 ay aY k6 =>
   refine .agg (Fs:=λ_=>cW) (by rw [ao,ia]) h1 (λk y u az hu=>?_) (λ_ _ _ _ _ h=>h.elim) (λc=>⟨λh=>h.elim,λ⟨_,_,h⟩=>h⟩)
   have hk:k<cs.length:=by rw [<- ao]; exact (List.getElem?_eq_some_iff.1 az).1
   have J:=List.getElem?_eq_getElem hk
   exact aR k _ y J az (ay k _ u J hu) (λc ab=>aQ c ((k6 c).2 ⟨k,hk,ab⟩)) ρ'
 | @ey fn cs cs' ao _ aR =>
  intro v F bj aQ ρ'
  cases bj with
  | ref J=>simp [aj.isRef] at J
  | @ey _ _ _ v1 v2 _ qS h1 al jV iN =>
   refine .ey (λ_ h=>h) h1 (by rw [ao,al]) (λk x u J=>by simp at J) (λk y u az hu=>?_)
   have hk:k<cs.length:=by rw [<- ao]; exact (List.getElem?_eq_some_iff.1 az).1
   have J:=List.getElem?_eq_getElem hk
   exact aR k _ y J az (iN k _ u J hu) (λc ab=>ab.elim) ρ'
 | @own z n cs cs' ao _ aR =>
  intro v F bj aQ ρ'
  obtain ⟨a,cap,us,bK,rfl,aL,hlen,bm,ab⟩:=bj.x4
  cases a with
  | none =>
   have hF:cs=[]:=by
    cases cs with
    | nil=>rfl
    | cons c cs=>obtain ⟨b,aJ,_⟩:=ab 0 c rfl; cases aJ
   subst hF
   have ly:cs'=[]:=List.eq_nil_of_length_eq_zero (by simpa using ao)
   subst ly
   have pk:n=0:=by
    cases bj with
    | ref J=>simp [aj.isRef] at J
    | own bh =>
     obtain ⟨_,b6⟩:=bh
     rcases b6 with ⟨b6,bd⟩ | ⟨b,c2,cur,b6,_⟩
     ·exact bd
     ·cases b6
   subst pk
   exact .hY λ_ h=>h
  | some ad =>
   obtain ⟨b,rfl,qT⟩:=bm ad rfl
   refine .aF (us:=us) (λ_ h=>h) aL (.inr (aQ b qT)) rfl (by rw [ao,hlen]) (λk y az=>?_) (λk y az=>?_) λk y az=>?_
   all_goals
    have hk:k<cs.length:=by rw [<- ao]; exact (List.getElem?_eq_some_iff.1 az).1
    have J:=List.getElem?_eq_getElem hk
    obtain ⟨hT,kI,h1,al,aP,b3⟩:=ab k _ J
    cases kI
   ·exact al
   ·simpa using h1
   ·exact aR k _ y J az aP (λc ab=>aQ c (b3 c ab)) ρ'
 | @obj cs cs' ao _ aR =>
  intro v F bj aQ ρ'
  cases bj with
  | ref J=>simp [aj.isRef] at J
  | @obj _ b e arr bK _ bh ia h1 ay aY aJ k6 =>
   refine .bo (us:=λk=>arr.getD k undef) (λ_ h=>h) (.inr (aQ b ((k6 b).2 (.inl rfl)))) rfl (λk y az=>?_) (λk y az=>?_) λk y az=>?_
   all_goals
    have hk:k<cs.length:=by rw [<- ao]; exact (List.getElem?_eq_some_iff.1 az).1
    have J:=List.getElem?_eq_getElem hk
    have hu:arr[k]?=some arr[k]:=Array.getElem?_eq_getElem (ia ▸ hk)
   ·simpa [hu] using h1 k _ hu
   ·simp [World.cell?,bh,hu]
   ·simpa [hu] using aR k _ y J az (ay k _ _ J hu) (λc ab=>aQ c ((k6 c).2 (.inr ⟨k,hk,ab⟩))) ρ'
 | @bl z n N p cs cs' aH aL ao _ aR =>
  intro v F bj aQ ρ'
  obtain ⟨⟨a,jf,cap,h1,rfl,aP⟩,_⟩:=bj.mG
  obtain ⟨pJ,pM,gX,hX,l0⟩:=h.part aH (by simp)
  rw [h1] at gX
  cases gX
  obtain ⟨a2,qK,us,bK,kc,k7,hlen,bm,ab⟩:=hX.x4
  cases kc
  have hle:n * z<=N * z:=Nat.mul_le_mul_right _ aL
  have cell:∀ k,k<cs'.length->∃ x b,(cs.take (n * z))[k]?=some x/\a=some ⟨b,0,none⟩/\w.cell? ⟨b,k,none⟩=some (us k)/\(us k).oneCell'=true/\R w I (er w T g) x (us k) (bK k)/\∀ c,bK k c->pM c:=by
   intro k hk
   rw [ao,List.length_take] at hk
   have J:cs[k]?=some cs[k]:=List.getElem?_eq_getElem (by omega)
   obtain ⟨b,r⟩:=ab k _ J
   exact ⟨_,b,by rw [List.getElem?_take,if_pos (by omega)]; exact J,r⟩
  cases a with
  | none =>
   have ly:cs'=[]:=by
    cases cs' with
    | nil=>rfl
    | cons c l=>obtain ⟨_,b,_,aJ,_⟩:=cell 0 (by simp); cases aJ
   subst ly
   obtain ⟨_,_,kc,_,_,_,rT⟩:=hX.mJ
   cases kc
   have pk:n=0:=by
    rcases Nat.eq_zero_or_pos n with bd | bd
    ·exact bd
    ·have:=rT (by omega); simp at this
   subst pk
   exact .hY λ_ h=>h
  | some ad =>
   obtain ⟨b,rfl,qT⟩:=bm ad rfl
   refine .aF (us:=us) (λ_ h=>h) (by omega) (.inr ⟨_,l0 b qT⟩) rfl (by rw [ao,List.length_take,hlen]; omega) (λk y az=>?_) (λk y az=>?_) λk y az=>?_
   all_goals
    obtain ⟨x,hT,J,kI,b3,dF,e0,lK⟩:=cell k (List.getElem?_eq_some_iff.1 az).1
    cases kI
   ·exact dF
   ·simpa using b3
   ·exact aR k x y J az e0 (λc ab=>⟨_,l0 c (lK c ab)⟩) ρ'
 | @sub z lo n N p cs cs' aH aL ao _ aR =>
  intro v F bj aQ ρ'
  obtain ⟨⟨a,jf,cap,cI,lY,h1,rfl,F9,aP,dF⟩,_⟩:=bj.vD
  obtain ⟨pJ,pM,gX,hX,l0⟩:=h.part aH (by simp)
  rw [h1] at gX
  cases gX
  obtain ⟨a2,qK,us,bK,kc,k7,hlen,bm,ab⟩:=hX.x4
  cases kc
  have hle:lo * z+n * z<=N * z:=by rw [<- Nat.add_mul]; exact Nat.mul_le_mul_right _ aL
  have ia:cs'.length=n * z:=by rw [ao,List.length_take,List.length_drop,hlen]; omega
  have cell:∀ k,k<cs'.length->∃ x b,((cs.drop (lo * z)).take (n * z))[k]?=some x/\a=some ⟨b,0,none⟩/\w.cell? ⟨b,lo * z+k,none⟩=some (us (lo * z+k))/\(us (lo * z+k)).oneCell'=true/\R w I (er w T g) x (us (lo * z+k)) (bK (lo * z+k))/\∀ c,bK (lo * z+k) c->pM c:=by
   intro k hk
   have J:cs[lo * z+k]?=some cs[lo * z+k]:=List.getElem?_eq_getElem (by omega)
   obtain ⟨b,r⟩:=ab _ _ J
   exact ⟨_,b,by rw [List.getElem?_take,if_pos (by omega),List.getElem?_drop]; exact J,r⟩
  by_cases pk:n=0
  ·subst pk
   have ly:cs'=[]:=List.eq_nil_of_length_eq_zero (by simpa using ia)
   subst ly
   exact .hY λ_ h=>h
  ·obtain ⟨ad,rfl,rfl⟩:=dF (by omega)
   obtain ⟨b,rfl,qT⟩:=bm ad rfl
   refine .aF (us:=λk=>us (lo * z+k)) (λ_ h=>h) F9 (.inr ⟨_,l0 b qT⟩) rfl ia (λk y az=>?_) (λk y az=>?_) λk y az=>?_
   all_goals
    obtain ⟨x,hT,J,kI,b3,E',e0,lK⟩:=cell k (List.getElem?_eq_some_iff.1 az).1
    cases kI
   ·exact E'
   ·simpa using b3
   ·exact aR k x y J az e0 (λc ab=>⟨_,l0 c (lK c ab)⟩) ρ'
 | @ptr p k z n y cs cs' aH az hk ao _ aR =>
  intro v F bj aQ ρ'
  obtain ⟨⟨u,ad,h1,al,rfl⟩,_⟩:=bj.ni
  obtain ⟨pJ,pM,gX,hX,l0⟩:=h.part aH (by rcases az with rfl | rfl <;> simp)
  rw [h1] at gX
  cases gX
  have cell:∀ af,af<cs'.length->∃ gH kz uO,w.cell? ⟨ad.block,k+af,none⟩=some gH/\gH.oneCell'=true/\(cs.drop k)[af]?=some kz/\R w I (er w T g) kz gH uO/\(∀ c,uO c->∃ t,Fs t c):=by
   intro af aa
   rw [ao,List.length_drop] at aa
   have f':cs[k+af]?=some cs[k+af]:=List.getElem?_eq_getElem (by omega)
   obtain ⟨b,gH,fZ,lL,l3,gW,_⟩:=hX.node az f'
   rw [al] at fZ
   cases fZ
   have gu:b7 g (p.push (k+af))=some cs[k+af]:=by rw [sm,aH]; rcases az with rfl | rfl <;> simp [aj.kids]
   by_cases hG:∃ cN gb cY m' dq,cs[k+af]=.bR cN gb cY m' dq
   ·obtain ⟨cN,gb,cY,m',dq,hG⟩:=hG
    obtain ⟨b,U',_,_,zS,_,bK,j_⟩:=hX.node az f'
    rw [hG] at j_
    exact j_.lf.elim
   ·obtain ⟨oi,D',q5,Fj,k6⟩:=h.part gu (λcN gb cY m' dq e=>hG ⟨_,_,_,_,_,e⟩)
    rw [wB,h1] at q5
    simp only [Option.bind_some] at q5
    rw [l3] at q5
    cases q5
    exact ⟨gH,_,D',lL,gW,by rw [List.getElem?_drop]; exact f',Fj,λc ab=>⟨_,k6 c ab⟩⟩
  obtain ⟨b,gH,fZ,_⟩:=hX.node az (List.getElem?_eq_getElem hk)
  rw [al] at fZ
  cases fZ
  have hblk:∃ t,Fs t b:=⟨_,l0 b (hX.Dt az al)⟩
  refine .bo (us:=λaf=>(w.cell? ⟨b,k+af,none⟩).getD undef) (λ_ h=>h) (.inr hblk) rfl (λaf kA ng=>?_) (λaf kA ng=>?_) λaf kA ng=>?_
  all_goals
   obtain ⟨gH,kz,uO,c1,c2,kn,c4,kF⟩:=cell af (List.getElem?_eq_some_iff.1 ng).1
  ·simpa [c1] using c2
  ·simp [c1]
  ·simpa [c1] using aR af kz kA kn ng c4 kF ρ'
 | @rows z n p cs cs' aH ao _ aR =>
  intro v F bj aQ ρ'
  obtain ⟨a,jf,cap,h1,rfl,aP⟩:=bj.mG.1
  obtain ⟨v0,e,us,iO,bh,hlen,nB,aJ,ay⟩:=Rows.sound (w:=w) (I:=I) (T:=T) (Fs:=Fs) (λt z q n m new aE=>h.rel t _ aE) (λp z n cs aH=>h.part aH (by simp)) (λz p n v hv=>by obtain ⟨⟨a,cap,h1,rfl⟩,_⟩:=hv; exact h1) aH
  rw [h1] at iO
  cases iO
  refine Mg bh hlen nB aJ ao λk x y u J az hu=>?_
  obtain ⟨bK,j_,fh⟩:=ay k x u J hu
  exact aR k x y J az j_ fh ρ'
end
end Go.Own
namespace Go.Own
open Go
def o9 (args:List aj):aZ:=λt=>args[t]?
def oR (outs:List (Option aj)) (res:aj):aZ:=λt=>if t=outs.length then some res else (outs[t]?).join
structure kX (w:World) (I U:br) (w':World) (I' B2:br):Prop where
 fJ:Fr w w' U
 more:∀ c,I c->I' c
 new:∀ c,I' c->I c\/U c\/w.heap.size<=c
 own:∀ c,B2 c->U c\/w.heap.size<=c
def b_ (P:Program) (f:FuncId) (args:List aj) (outs:List (Option aj)) (res:aj):Prop :=
 outs.length=args.length/\∀ (w:World) (I:br) (vs:List Value) (Fs:Nat->br),vs.length=args.length->c_ w I vs.toArray (o9 args) Fs ->
  Calls P f vs.toArray w λe w'=>∃ v I' cp,e=.returned v/\c_ w' I' (vs++[v]).toArray (oR outs res) cp/\kX w I (λc=>∃ t,Fs t c) w' I' (λc=>∃ t,cp t c)
def dI (P:Program) (f:FuncId):Bool :=
 match P.funcs[f]? with
 | some fn => fn.name != "runtime.NumGoroutine" && fn.body.isSome
 | none=>false
inductive cr (P:Program) (g:aZ):Op->aj->Prop
 | plain {c:Operand}{xs:Array Operand}{iJ:Array TypeId}{f:FuncId}{first caps ys:List aj}{res:aj}(ab:bO g c=some (.ey (.func f) first caps)) (J:iP g xs.toList=some ys) (bn:dI P f=true)
   (aL:∀ y∈first++ys++caps,dp y) (ji:b_ P f (first++ys++caps) ((first++ys++caps).map λ_=>none) res) (ay:dp res):cr P g (.call { callee:=.value c,args:=xs,argTypes:=iJ }) res
 | Dk {c:Operand}{xs:Array Operand}{iJ:Array TypeId}{f:FuncId}{first caps ys args:List aj}{res:aj}(ab:bO g c=some (.ey (.func f) first caps)) (J:iP g xs.toList=some ys) (bn:dI P f=true)
   (ao:args.length=(first++ys++caps).length) (hv:∀ (k:Nat) (x y:aj),(first++ys++caps)[k]?=some x->args[k]?=some y->View g x y) (ji:b_ P f args (args.map λ_=>none) res) (ay:kC res) :
   cr P g (.call { callee:=.value c,args:=xs,argTypes:=iJ }) res
section
variable {P:Program}{w:World}{I:br}{T:Array Value}{g:aZ}{Fs:Nat->br}
theorem EB {f:FuncId}(h:dI P f=true) (args:Array Value):(callFunc f args).run P w=.ok (.enter f args) w:=by
 unfold dI at h
 cases bn:P.funcs[f]? with
 | none=>simp [bn] at h
 | some fn =>
  simp [bn] at h
  obtain ⟨h1,al⟩:=h
  cases aJ:fn.body with
  | none=>simp [aJ] at al
  | some c=>simp [callFunc,bn,h1,aJ]
theorem EA (h:c_ w I T g Fs) {a:Act}(bm:a.tmps=T) {c:Operand}{xs:Array Operand}{f:FuncId}{first caps ys:List aj}(ab:bO g c=some (.ey (.func f) first caps)) (J:iP g xs.toList=some ys) :
  ∃ v1 v2:Array Value,a.eval c=.func (.func f) v1 v2/\(first++ys++caps).length=(v1++xs.map a.eval++v2).toList.length /\
   ∀ (k:Nat) (x:aj) (u:Value),(first++ys++caps)[k]?=some x->(v1++xs.map a.eval++v2).toList[k]?=some u->R w I (er w T g) x u cW:=by
 have Kz:=ke h ab bm
 obtain ⟨ao,ay⟩:=x1 h bm J
 generalize tS:a.eval c=WW at Kz
 cases Kz with
 | ref J=>simp [aj.isRef] at J
 | @ey _ _ _ v1 v2 _ _ h1 al jV iN =>
  have hlen:xs.size=ys.length:=by rw [<- Array.length_toList,ao]
  refine ⟨v1,v2,rfl,by simp [h1,al,hlen],λk x u pr oM=>?_⟩
  simp only [Array.toList_append,Array.toList_map] at oM
  by_cases hx:k<first.length
  ·rw [List.append_assoc,List.getElem?_append_left hx] at pr
   rw [List.append_assoc,List.getElem?_append_left (by simp; omega)] at oM
   exact jV k x u pr (by simpa using oM)
  ·rw [List.append_assoc,List.getElem?_append_right (by omega)] at pr
   rw [List.append_assoc,List.getElem?_append_right (by simp; omega)] at oM
   simp only [Array.length_toList,<- h1] at oM
   by_cases gO:k - first.length<ys.length
   ·rw [List.getElem?_append_left gO] at pr
    rw [List.getElem?_append_left (by simp; omega),List.getElem?_map] at oM
    cases GD:xs.toList[k - first.length]? with
    | none=>rw [GD] at oM; cases oM
    | some o=>rw [GD] at oM; cases oM; exact ay _ x o pr GD
   ·rw [List.getElem?_append_right (by omega)] at pr
    rw [List.getElem?_append_right (by simp; omega)] at oM
    simp only [List.length_map,Array.length_toList] at oM
    rw [hlen] at oM
    exact iN _ x u pr (by simpa using oM)
theorem c_.args {I':br}(h:c_ w I T g Fs) (bt:∀ c,I' c->I c\/∃ t,Fs t c) {args:List aj}{vs:List Value}(ao:args.length=vs.length)
  (ay:∀ (ρ':aj->Value->Prop) (k:Nat) (x:aj) (u:Value),args[k]?=some x->vs[k]?=some u->R w I' ρ' x u cW):c_ w I' vs.toArray (o9 args) (λ_=>cW):=by
 refine ⟨λt x J=>?_,λ_ _ _ h=>h,λ_ _ _ h=>h.elim,λ_ _ h=>h.elim,λc ab=>?_,λt ds z p n m new cN cY m' dq h1 al=>?_⟩
 ·have aE:t<args.length:=(List.getElem?_eq_some_iff.1 J).1
  have hu:vs[t]?=some vs[t]:=List.getElem?_eq_getElem (ao ▸ aE)
  exact ⟨vs[t],by rw [List.getElem?_toArray]; exact hu,.tree (ay _ t x _ J hu)⟩
 ·rcases bt c ab with aS | ⟨t,aS⟩
  ·exact h.lt c aS
  ·exact h.j0 t c aS
 ·have aE:t<args.length:=(List.getElem?_eq_some_iff.1 h1).1
  exact (ay (λ_ _=>False) t _ _ h1 (List.getElem?_eq_getElem (ao ▸ aE))).lf.elim
theorem cr.sound (h:c_ w I T g Fs) {a:Act}(bm:a.tmps=T) {o:Oper}{kk:aj}(aH:cr P g o.op kk) {K:Act->World->Prop}{Q:Exit->Act->World->Prop}
  (eA:∀ v w',tl w I T g Fs kk v w'->K (a.put o.dst v) w'):o.wp P a w K Q:=by
 obtain ⟨dst,op,ty,pos,after,guard⟩:=o
 simp only at aH eA
 have AF:dp kk->∀ z p n m new,kk=.bR z p n m new->∀ t cN cY m' dq,g t≠some (.bR cN p cY m' dq):=by
  rintro aL z p n m new rfl
  cases aL
 have last:∀ {args:List aj}{res:aj}{v:Value}{vs:List Value}{w':World}{I':br}{cp:Nat->br},vs.length=args.length->c_ w' I' (vs++[v]).toArray (oR (args.map λ_=>none) res) cp->jH w' I' (er w' (vs++[v]).toArray (oR (args.map λ_=>none) res)) res v (cp args.length)/\∀ t,t≠args.length->∀ c,¬ cp t c:=by
  intro args res v vs w' I' cp ao bU
  constructor
  ·obtain ⟨u,hu,bj⟩:=bU.rel args.length res (by simp [oR])
   have:u=v:=by
    rw [<- ao] at hu
    simpa using hu.symm
   subst this; exact bj
  ·intro t aE c ab
   refine bU.kO t ?_ c ab
   have p_:t≠(args.map λ_=>(none:Option aj)).length:=by simpa using aE
   simp only [oR,if_neg p_,List.getElem?_map]
   cases args[t]? <;> rfl
 cases aH with
 | @plain c xs iJ f first caps ys _ ab J bn aL ji ay =>
  obtain ⟨v1,v2,tS,ao,oH⟩:=EA h bm ab J
  have h4:(execOp a.eval { dst:=dst,op:=.call { callee:=.value c,args:=xs,argTypes:=iJ },type:=ty,pos:=pos,after:=after,guard:=guard }).run P w=.ok (.enter f (v1++xs.map a.eval++v2)) w:=by
   simp [execOp,resolve,Deferred.ofValue,tS,invoke,EB bn]
  have bU:=h.args (I':=I) (λc ab=>.inl ab) ao λρ' k x u J hu=>(oH k x u J hu).bI (aL x (List.mem_of_getElem? J))
  have tQ:=ji.2 w I (v1++xs.map a.eval++v2).toList _ ao.symm bU
  unfold Oper.wp Oper.upon
  simp only [h4]
  rw [Array.toArray_toList] at tQ
  refine Calls.mono tQ ?_
  rintro e w' ⟨v,I',cp,rfl,eG,cm⟩
  obtain ⟨xK,gP⟩:=last ao.symm eG
  have sP:Fr w w' (λ_=>False):=cm.fJ.mono λb _ ⟨_,aJ⟩=>aJ
  refine eA v w' ⟨cp (first++ys++caps).length,I',?_,?_,?_,?_,cm.more,?_,sP.mono λ_ _ h=>h.elim,AF ay⟩
  ·have:=h.world (w':=w') (λt c ab=>sP.block c (h.j0 t c ab) (λh=>h)) (λc ab=>sP.block c (h.lt c ab) λh=>h) sP.size
   refine ⟨λt x J=>?_,this.kO,this.e8,λt c ab hi=>?_,eG.lt,this.qk⟩
   ·obtain ⟨v,hv,bj⟩:=this.rel t x J
    exact ⟨v,hv,bj.frame (λ_ _=>rfl) cm.more (λ_ _ h=>h) (λ_ _ _ _ _ _ _=>rfl) λ_ _=>rfl⟩
   ·rcases cm.new c hi with aS | ⟨_,aS⟩ | aS
    ·exact h.aF t c ab aS
    ·exact aS
    ·have:=h.j0 t c ab; omega
  ·exact .tree ((xK.hM (by rintro z p n m new rfl; cases ay)).bI ay)
  ·intro t c ab tU
   rcases cm.own c ⟨_,ab⟩ with ⟨_,aS⟩ | aS
   ·exact aS
   ·have:=h.j0 t c tU; omega
  ·intro c ab
   rcases cm.own c ⟨_,ab⟩ with ⟨_,aS⟩ | aS
   ·exact aS.elim
   ·exact ⟨aS,eG.aF _ c ab⟩
  ·intro c ab
   rcases cm.new c ab with aS | ⟨_,aS⟩ | aS
   ·exact .inl aS
   ·exact aS.elim
   ·exact .inr aS
 | @Dk c xs iJ f first caps ys args _ ab J bn F0 hv ji ay =>
  obtain ⟨v1,v2,tS,ao,oH⟩:=EA h bm ab J
  have h4:(execOp a.eval { dst:=dst,op:=.call { callee:=.value c,args:=xs,argTypes:=iJ },type:=ty,pos:=pos,after:=after,guard:=guard }).run P w=.ok (.enter f (v1++xs.map a.eval++v2)) w:=by
   simp [execOp,resolve,Deferred.ofValue,tS,invoke,EB bn]
  have ia:args.length=(v1++xs.map a.eval++v2).toList.length:=by rw [F0,ao]
  have bU:=h.args (I':=λc=>I c\/∃ t,Fs t c) (λc ab=>ab) ia λρ' k x u J hu=>by
   have hk:k<(first++ys++caps).length:=by rw [<- F0]; exact (List.getElem?_eq_some_iff.1 J).1
   have jO:=List.getElem?_eq_getElem hk
   exact (hv k _ x jO J).sound h (oH k _ u jO hu) (λ_ h=>h.elim) ρ'
  have tQ:=ji.2 w _ (v1++xs.map a.eval++v2).toList _ ia.symm bU
  unfold Oper.wp Oper.upon
  simp only [h4]
  rw [Array.toArray_toList] at tQ
  refine Calls.mono tQ ?_
  rintro e w' ⟨v,I',cp,rfl,eG,cm⟩
  obtain ⟨xK,gP⟩:=last ia.symm eG
  have sP:Fr w w' (λ_=>False):=cm.fJ.mono λb _ ⟨_,aJ⟩=>aJ
  refine eA v w' ⟨cp args.length,I,?_,?_,?_,?_,λ_ h=>h,λ_ h=>.inl h,sP.mono λ_ _ h=>h.elim,AF ay.bI⟩
  ·exact h.world (w':=w') (λt c ab=>sP.block c (h.j0 t c ab) (λh=>h)) (λc ab=>sP.block c (h.lt c ab) λh=>h) sP.size
  ·exact .tree ((xK.hM (by rintro z p n m new rfl; cases ay)).lg ay)
  ·intro t c ab tU
   rcases cm.own c ⟨_,ab⟩ with ⟨_,aS⟩ | aS
   ·exact aS
   ·have:=h.j0 t c tU; omega
  ·intro c ab
   rcases cm.own c ⟨_,ab⟩ with ⟨_,aS⟩ | aS
   ·exact aS.elim
   ·exact ⟨aS,λhi=>by have:=h.lt c hi; omega⟩
end
end Go.Own
namespace Go.Own
open Go
structure jI (w:World) (I:br) (T:Array Value) (g:aZ) (Fs:Nat->br):Prop where
 rel:∀ t x,g t=some x->∃ v,T[t]?=some v/\jH w I (fV w T) x v (Fs t)
 kO:∀ t,g t=none->∀ c,¬ Fs t c
 e8:∀ t ds c,Fs t c->Fs ds c->t=ds
 aF:∀ t c,Fs t c->¬ I c
 lt:∀ c,I c->c<w.heap.size
def df (g:aZ) (p:Place) (y:aj):aZ:=λt=>if t=p.root then (g t).map λx=>x.setAt p.path y else g t
inductive e7 (g:aZ):aj->Prop
 | bI {x:aj}(h:dp x):e7 g x
 | ref {x:aj}(J:x.isRef=true) (h:gK g x):e7 g x
 | own {z n:Nat}{cs:List aj}(h:∀ x∈cs,e7 g x):e7 g (.own z n cs)
 | obj {cs:List aj}(h:∀ x∈cs,e7 g x):e7 g (.obj cs)
 | agg {cs:List aj}(h:∀ x∈cs,e7 g x):e7 g (.agg cs)
 | cG {cs:List aj}(h:∀ x∈cs,e7 g x):e7 g (.cG cs)
 | ey {fn:Fn}{a b:List aj}(h1:∀ x∈a,e7 g x) (al:∀ x∈b,e7 g x):e7 g (.ey fn a b)
 | bR {z n m:Nat}{p:Place}{new:List aj}(aH:gK g (.bR z p n 0 [])) (h:∀ x∈new,e7 g x):e7 g (.bR z p n m new)
section
variable {w:World}{I:br}{T:Array Value}{g:aZ}{Fs:Nat->br}
theorem R.bk {x:aj}{v:Value}{F:br}(h:R w I (fV w T) x v F):e7 g x->R w I (er w T g) x v F:=by
 induction h with
 | lit h aQ=>exact λ_=>.lit h aQ
 | aI aQ=>exact λ_=>.aI aQ
 | dead aQ=>exact λ_=>.dead aQ
 | @ref x _ _ J h aQ =>
  intro hk
  refine .ref J ⟨h,?_⟩ aQ
  cases hk with
  | ref _ h=>exact h
  | bI h=>cases h <;> simp [aj.isRef] at J
  | _=>simp [aj.isRef] at J
 | hY aQ=>exact λ_=>.hY aQ
 | mp bh aH aQ=>exact λ_=>.mp bh aH aQ
 | imp aQ bt bh aH=>exact λ_=>.imp aQ bt bh aH
 | aF aQ k7 bt aM ao h1 ab ay aR =>
  intro hk
  cases hk with
  | ref J=>simp [aj.isRef] at J
  | bI h=>cases h with | aF h=>exact .aF aQ k7 bt aM ao h1 ab λk x J=>aR k x J (.bI (h x (List.mem_of_getElem? J)))
 | bo aQ bt aM h1 ab ay aR =>
  intro hk
  cases hk with
  | ref J=>simp [aj.isRef] at J
  | bI h=>cases h with | bo h=>exact .bo aQ bt aM h1 ab λk x J=>aR k x J (.bI (h x (List.mem_of_getElem? J)))
 | own bh ao h1 ay aY aJ aQ aR =>
  intro hk
  refine .own bh ao h1 (λk x u J hu=>aR k x u J hu ?_) aY aJ aQ
  cases hk with
  | ref J=>simp [aj.isRef] at J
  | bI h=>cases h with | own h=>exact .bI (h x (List.mem_of_getElem? J))
  | own h=>exact h x (List.mem_of_getElem? J)
 | obj bh ao h1 ay aY aJ aQ aR =>
  intro hk
  refine .obj bh ao h1 (λk x u J hu=>aR k x u J hu ?_) aY aJ aQ
  cases hk with
  | ref J=>simp [aj.isRef] at J
  | bI h=>cases h with | obj h=>exact .bI (h x (List.mem_of_getElem? J))
  | obj h=>exact h x (List.mem_of_getElem? J)
 | agg ao h1 ay aY aQ aR =>
  intro hk
  refine .agg ao h1 (λk x u J hu=>aR k x u J hu ?_) aY aQ
  cases hk with
  | ref J=>simp [aj.isRef] at J
  | bI h=>cases h with | agg h=>exact .bI (h x (List.mem_of_getElem? J))
  | agg h=>exact h x (List.mem_of_getElem? J)
 | cG ao ay aY aQ aR =>
  intro hk
  refine .cG ao (λk x u J hu=>aR k x u J hu ?_) aY aQ
  cases hk with
  | ref J=>simp [aj.isRef] at J
  | bI h=>cases h with | cG h=>exact .bI (h x (List.mem_of_getElem? J))
  | cG h=>exact h x (List.mem_of_getElem? J)
 | @ey fn first caps v1 v2 F aQ h1 al jV iN gB gq =>
  intro hk
  have:(∀ x∈first,e7 g x)/\∀ x∈caps,e7 g x:=by
   cases hk with
   | ref J=>simp [aj.isRef] at J
   | bI h=>cases h with | ey h1 al=>exact ⟨λx J=>.bI (h1 x J),λx J=>.bI (al x J)⟩
   | ey h1 al=>exact ⟨h1,al⟩
  exact .ey aQ h1 al (λk x u J hu=>gB k x u J hu (this.1 x (List.mem_of_getElem? J))) (λk x u J hu=>gq k x u J hu (this.2 x (List.mem_of_getElem? J)))
theorem jH.bk {x:aj}{v:Value}{F:br}(h:jH w I (fV w T) x v F) (hk:e7 g x):jH w I (er w T g) x v F:=by
 cases h with
 | tree h=>exact .tree (h.bk hk)
 | bR h =>
  cases hk with
  | bI h=>cases h
  | ref J=>simp [aj.isRef] at J
  | bR aH aL=>exact .bR ⟨⟨h.jU,aH⟩,h.k9,h.mB,h.ao,h.h1,λk x u J hu=>(h.ay k x u J hu).bk (aL x (List.mem_of_getElem? J)),h.aQ⟩
theorem c_.mi (h:c_ w I T g Fs):jI w I T g Fs :=
  ⟨λt x J=>by
    obtain ⟨v,hv,bj⟩:=h.rel t x J
    refine ⟨v,hv,?_⟩
    cases bj with
    | tree bj=>exact .tree (bj.frame (λ_ _=>rfl) (λ_ h=>h) (λ_ _ h=>h.1) λ_ _=>rfl)
    | bR bj=>exact .bR ⟨bj.jU.1,bj.k9,bj.mB,bj.ao,bj.h1,λk x u J hu=>(bj.ay k x u J hu).frame (λ_ _=>rfl) (λ_ h=>h) (λ_ _ h=>h.1) λ_ _=>rfl,bj.aQ⟩,
   h.kO,h.e8,h.aF,h.lt⟩
theorem jI.U1 (h:jI w I T g Fs) {g':aZ}(a':∀ t x,g' t=some x->g t=some x) (hk:∀ t x,g' t=some x->e7 g' x)
  (aH:∀ t ds z p n m new cN cY m' dq,g' t=some (.bR z p n m new)->g' ds=some (.bR cN p cY m' dq)->t=ds):c_ w I T g' (λt c=>g' t≠none/\Fs t c):=by
 refine ⟨λt x J=>?_,λt aE c ab=>ab.1 aE,λt ds c ab fu=>h.e8 t ds c ab.2 fu.2,λt c ab=>h.aF t c ab.2,h.lt,aH⟩
 obtain ⟨v,hv,bj⟩:=h.rel t x (a' t x J)
 have:Fs t=λc=>g' t≠none/\Fs t c:=by
  funext c
  exact propext ⟨λab=>⟨by rw [J]; simp,ab⟩,λab=>ab.2⟩
 refine ⟨v,hv,?_⟩
 rw [<- this]
 exact bj.bk (hk t x J)
theorem jI.part (h:jI w I T g Fs) {p:Place}{y:aj}(aH:b7 g p=some y) (az:∀ z q n m new,y≠.bR z q n m new):∃ v cO,eo w T p=some v/\R w I (fV w T) y v cO/\(∀ c,cO c->Fs p.root c) /\
  ∀ (y':aj) (jn:br),R w I (fV w T) y' v jn->(∀ c,jn c->Fs p.root c->cO c)->(∀ c,jn c->¬ I c)->(∀ t c,t≠p.root->jn c->¬ Fs t c) ->
   ∃ cp,jI w I T (df g p y') cp/\(∀ c,cp p.root c↔(Fs p.root c/\¬ cO c)\/jn c)/\∀ t,t≠p.root->cp t=Fs t:=by
 unfold b7 at aH
 cases J:g p.root with
 | none=>rw [J] at aH; cases aH
 | some x =>
  rw [J] at aH
  obtain ⟨v,hv,bj⟩:=h.rel _ _ J
  replace bj:=bj.hM (by
   rintro z q n m new rfl
   exact az _ _ _ _ _ (aj.rG aH).2)
  obtain ⟨ie,cO,hw,d',dG,gd,kg⟩:=R.focus p.path bj aH
  refine ⟨ie,cO,by simp [eo,hv,hw],d',dG,λy' jn jv mv bt K'=>?_⟩
  obtain ⟨fO,zK,nC⟩:=kg w I (fV w T) y' jn ⟨λ_ _=>rfl,λ_ _ _=>rfl,λ_ h=>h,λ_ _ h=>h⟩ jv mv
  refine ⟨λt=>if t=p.root then fO else Fs t,⟨λt x' f'=>?_,λt aE c=>?_,λt ds c ab fu=>?_,λt c ab=>?_,h.lt⟩,λc=>by simp [nC c],λt aE=>by simp [aE]⟩
  ·by_cases h5:t=p.root
   ·subst h5
    have SI:x.setAt p.path y'=x':=by simpa [df,J] using f'
    subst SI
    exact ⟨v,hv,.tree (by simpa using zK)⟩
   ·simp only [df,if_neg h5] at f'
    simpa [h5] using h.rel t x' f'
  ·by_cases h5:t=p.root
   ·subst h5; simp [df,J] at aE
   ·simp only [df,if_neg h5] at aE; simpa [h5] using h.kO t aE c
  ·by_cases h1:t=p.root <;> by_cases al:ds=p.root <;> simp only [h1,al,if_true,if_false] at ab fu
   ·rw [h1,al]
   ·rcases (nC c).1 ab with ⟨aP,_⟩ | aP
    ·rw [h1]; exact h.e8 _ _ _ aP fu
    ·exact absurd fu (K' ds c al aP)
   ·rcases (nC c).1 fu with ⟨aP,_⟩ | aP
    ·rw [al]; exact h.e8 _ _ _ ab aP
    ·exact absurd ab (K' t c h1 aP)
   ·exact h.e8 _ _ _ ab fu
  ·by_cases h1:t=p.root <;> simp only [h1,if_true,if_false] at ab
   ·rcases (nC c).1 ab with ⟨aP,_⟩ | aP
    ·exact h.aF _ c aP
    ·exact bt c aP
   ·exact h.aF t c ab
end
end Go.Own
namespace Go.Own
open Go
inductive Take:aZ->List aj->List aj->aZ->Prop
 | bI {g:aZ}{xs:List aj}(h:∀ x∈xs,dp x):Take g xs xs g
 | cons {g g':aZ}{x:aj}{xs xs':List aj}(h:dp x) (aE:Take g xs xs' g'):Take g (x::xs) (x::xs') g'
 | bl {g g1 g':aZ}{z n N:Nat}{p:Place}{cs cs' xs xs':List aj}(aH:b7 g p=some (.own z N cs)) (aL:n<=N) (h1:Take (df g p .dead) (cs.take (n * z)) cs' g1) (al:Take g1 xs xs' g') :
   Take g (.bl z p n::xs) (.own z n cs'::xs') g'
 | bR {g g1 g':aZ}{z n m t:Nat}{q:Place}{cs new cs' xs xs':List aj}(aE:g t=some (.bR z q n m new)) (aH:b7 g q=some (.own z n cs)) (bN:q.root≠t) (h1:Take (df (df g ⟨t,[]⟩ .dead) q .dead) (cs++new) cs' g1) (al:Take g1 xs xs' g') :
   Take g (.bl z ⟨t,[]⟩ (n+m)::xs) (.own z (n+m) cs'::xs') g'
 | DA {g g1 g':aZ}{z n m t qh m2 t2:Nat}{q:Place}{cs new xX cs' xs xs':List aj}(aE:g t=some (.bR z ⟨t2,[]⟩ n m new)) (Li:g t2=some (.bR z q qh m2 xX)) (aL:n=qh+m2) (aH:b7 g q=some (.own z qh cs)) (bN:q.root≠t) (rS:q.root≠t2) (Sx:t≠t2)
   (h1:Take (df (df (df g ⟨t,[]⟩ .dead) ⟨t2,[]⟩ .dead) q .dead) (cs++xX++new) cs' g1) (al:Take g1 xs xs' g') :
   Take g (.bl z ⟨t,[]⟩ (n+m)::xs) (.own z (n+m) cs'::xs') g'
 | obj {g g1 g':aZ}{p:Place}{cs cs' xs xs':List aj}(aH:b7 g p=some (.obj cs)) (h1:Take (df g p .dead) cs cs' g1) (al:Take g1 xs xs' g'):Take g (.ptr p 0::xs) (.obj cs'::xs') g'
 | mp {g g1 g':aZ}{p:Place}{q:Array MapEntry->Nat->Prop}{xs xs':List aj}(aH:b7 g p=some (.mp q)) (h1:Take (df g p .dead) [] [] g1) (al:Take g1 xs xs' g'):Take g (.hN p::xs) (.mp q::xs') g'
 | agg {g g1 g':aZ}{cs cs' xs xs':List aj}(h1:Take g cs cs' g1) (al:Take g1 xs xs' g'):Take g (.agg cs::xs) (.agg cs'::xs') g'
 | cG {g g1 g':aZ}{cs cs' xs xs':List aj}(h1:Take g cs cs' g1) (al:Take g1 xs xs' g'):Take g (.cG cs::xs) (.cG cs'::xs') g'
structure Hand (w:World) (I:br) (ρ:aj->Value->Prop) (Fs:Nat->br) (xs:List aj) (vs:List Value) (dZ:Nat->br):Prop where
 len:xs.length=vs.length
 rel:∀ (k:Nat) (x:aj) (u:Value),xs[k]?=some x->vs[k]?=some u->R w I ρ x u (dZ k)
 e8:∀ (af k c:Nat),af<xs.length->k<xs.length->dZ af c->dZ k c->af=k
 off:∀ (k t c:Nat),k<xs.length->dZ k c->¬ Fs t c
 aF:∀ (k c:Nat),k<xs.length->dZ k c->¬ I c
def lk (Fs:Nat->br) (n:Nat) (dZ:Nat->br):br:=λc=>(∃ t,Fs t c)\/∃ k,k<n/\dZ k c
section
variable {w:World}{I:br}{T:Array Value}
theorem Take.length {g g':aZ}{xs xs':List aj}(h:Take g xs xs' g'):xs'.length=xs.length:=by
 induction h with
 | bI=>rfl
 | cons _ _ aR=>simp [aR]
 | bl _ _ _ _ _ aR=>simp [aR]
 | bR _ _ _ _ _ _ aR=>simp [aR]
 | DA _ _ _ _ _ _ _ _ _ _ aR=>simp [aR]
 | obj _ _ _ _ aR=>simp [aR]
 | mp _ _ _ _ aR=>simp [aR]
 | agg _ _ _ aR=>simp [aR]
 | cG _ _ _ aR=>simp [aR]
theorem Hand.cons {ρ:aj->Value->Prop}{Fs:Nat->br}{x:aj}{v:Value}{F:br}{xs:List aj}{vs:List Value}{dZ:Nat->br}(h:Hand w I ρ Fs xs vs dZ) (J:R w I ρ x v F)
  (aY:∀ k c,k<xs.length->F c->¬ dZ k c) (bh:∀ t c,F c->¬ Fs t c) (hi:∀ c,F c->¬ I c):Hand w I ρ Fs (x::xs) (v::vs) (λk=>match k with | 0=>F | k+1=>dZ k):=by
 refine ⟨by simp [h.len],λk y u az hu=>?_,λaf k c aa hk h1 al=>?_,λk t c hk ab=>?_,λk c hk ab=>?_⟩
 ·cases k with
  | zero=>simp at az hu; subst az hu; exact J
  | succ k=>simp at az hu; exact h.rel k y u az hu
 ·cases af <;> cases k
  ·rfl
  ·exact absurd al (aY _ c (by simpa using hk) h1)
  ·exact absurd h1 (aY _ c (by simpa using aa) al)
  ·rw [h.e8 _ _ c (by simpa using aa) (by simpa using hk) h1 al]
 ·cases k with
  | zero=>exact bh t c ab
  | succ k=>exact h.off k t c (by simpa using hk) ab
 ·cases k with
  | zero=>exact hi c ab
  | succ k=>exact h.aF k c (by simpa using hk) ab
theorem Hand.tail {ρ:aj->Value->Prop}{Fs:Nat->br}{x:aj}{v:Value}{xs:List aj}{vs:List Value}{dZ:Nat->br}(h:Hand w I ρ Fs (x::xs) (v::vs) dZ):Hand w I ρ Fs xs vs (λk=>dZ (k+1)) :=
  ⟨by simpa using h.len,λk y u az hu=>h.rel (k+1) y u az hu,λaf k c aa hk h1 al=>by have:=h.e8 (af+1) (k+1) c (by simpa using aa) (by simpa using hk) h1 al; omega,
   λk t c hk ab=>h.off (k+1) t c (by simpa using hk) ab,λk c hk ab=>h.aF (k+1) c (by simpa using hk) ab⟩
theorem oP {x:aj}{xs:List aj}(h:dp x) (aR:∀ y∈xs,dp y):∀ y∈x::xs,dp y:=by
 intro y az
 rcases List.mem_cons.1 az with rfl | az
 ·exact h
 ·exact aR y az
theorem Take.AH {g g':aZ}{xs xs':List aj}(h:Take g xs xs' g'):∀ x∈xs',dp x:=by
 induction h with
 | bI h=>exact h
 | cons h _ aR=>exact oP h aR
 | bl _ _ _ _ gB gq=>exact oP (.own gB) gq
 | bR _ _ _ _ _ gB gq=>exact oP (.own gB) gq
 | DA _ _ _ _ _ _ _ _ _ gB gq=>exact oP (.own gB) gq
 | obj _ _ _ gB gq=>exact oP (.obj gB) gq
 | mp _ _ _ _ gq=>exact oP .mp gq
 | agg _ _ gB gq=>exact oP (.agg gB) gq
 | cG _ _ gB gq=>exact oP (.cG gB) gq
def Ed (w:World) (I:br) (T:Array Value) (g:aZ) (xs xs':List aj) (g':aZ):Prop :=
 ∀ {Fs:Nat->br}{vs:List Value}{dZ:Nat->br},jI w I T g Fs->Hand w I (fV w T) Fs xs vs dZ ->
  ∃ cp jG,jI w I T g' cp/\Hand w I (fV w T) cp xs' vs jG/\∀ c,lk cp xs'.length jG c->lk Fs xs.length dZ c
theorem Hp {w:World}{e cX:TypeId}{z n:Nat}{v:Value}{us iS:List Value}(h:w.ownsRow 0 e z v n us) (aS:w.ownsRow 0 cX z v n iS):us=iS:=by
 obtain ⟨h1,al⟩:=h
 obtain ⟨nB,Qh⟩:=aS
 rcases al with ⟨rfl,rfl⟩ | ⟨b,cap,cur,rfl,_,a',_,_,_,aE⟩
 ·simp at h1 nB; rw [h1,nB]
 ·rcases Qh with ⟨b6,_⟩ | ⟨hT,lY,PA,b6,_,KS,_,_,_,p_⟩
  ·cases b6
  ·cases b6
   rw [a'] at KS
   cases KS
   rw [<- aE,<- p_]
theorem Take.node {g1 g2 g':aZ}{Fs gi:Nat->br}{B H0:br}{cs cs' xs xs':List aj}{us vs:List Value}{bK dZ:Nat->br}{X:aj}{v0:Value}
  (bU:jI w I T g1 gi) (hH:Hand w I (fV w T) gi cs us bK) (iC:∀ c,B c->(∃ t,Fs t c)/\(∀ t,¬ gi t c)/\(∀ k,k<cs.length->¬ bK k c)/\¬ I c)
  (gE:∀ c,lk gi cs.length bK c->(∃ t,Fs t c)\/H0 c) (fP:Hand w I (fV w T) Fs xs vs dZ) (tK:∀ c,H0 c->(∀ t,¬ Fs t c)/\∀ k,k<xs.length->¬ dZ k c)
  (gB:Ed w I T g1 cs cs' g2) (gq:Ed w I T g2 xs xs' g')
  (build:∀ jG:Nat->br,(∀ (k:Nat) (x:aj) (u:Value),cs'[k]?=some x->us[k]?=some u->R w I (fV w T) x u (jG k))->(∀ (af k c:Nat),af<cs'.length->k<cs'.length->jG af c->jG k c->af=k) ->
   (∀ k c,k<cs'.length->jG k c->¬ B c)->R w I (fV w T) X v0 (λc=>B c\/∃ k,k<cs'.length/\jG k c)) :
  ∃ cp jG,jI w I T g' cp/\Hand w I (fV w T) cp (X::xs') (v0::vs) jG/\∀ c,lk cp (X::xs').length jG c->(∃ t,Fs t c)\/H0 c\/∃ k,k<xs.length/\dZ k c:=by
 obtain ⟨je,H1,il,CP,zP⟩:=gB bU hH
 have TL:∀ k t c,k<xs.length->dZ k c->¬ je t c:=by
  intro k t c hk ab bn
  rcases gE c (zP c (.inl ⟨t,bn⟩)) with ⟨ds,h⟩ | h
  ·exact fP.off k ds c hk ab h
  ·exact (tK c h).2 k hk ab
 obtain ⟨wU,yL,Fq,QO,KC⟩:=gq il (⟨fP.len,fP.rel,fP.e8,TL,fP.aF⟩:Hand w I (fV w T) je xs vs dZ)
 have QE:∀ k c,k<cs'.length->H1 k c->¬ B c:=by
  intro k c hk ab aJ
  obtain ⟨_,h1,al,_⟩:=iC c aJ
  rcases zP c (.inr ⟨k,hk,ab⟩) with ⟨t,h⟩ | ⟨af,aa,h⟩
  ·exact h1 t h
  ·exact al af aa h
 have zM:=build H1 CP.rel CP.e8 QE
 -- the node's blocks: apart from all else
 have key:∀ c,(B c\/∃ k,k<cs'.length/\H1 k c)->(∀ t,¬ je t c)/\(∀ k,k<xs.length->¬ dZ k c)/\¬ I c/\((∃ t,Fs t c)\/H0 c):=by
  rintro c (aJ | ⟨k,hk,ab⟩)
  ·obtain ⟨⟨t0,bd⟩,h1,al,aP⟩:=iC c aJ
   refine ⟨λt bn=>?_,λk hk ab=>fP.off k t0 c hk ab bd,aP,.inl ⟨t0,bd⟩⟩
   rcases zP c (.inl ⟨t,bn⟩) with ⟨ds,h⟩ | ⟨af,aa,h⟩
   ·exact h1 ds h
   ·exact al af aa h
  ·have aM:=gE c (zP c (.inr ⟨k,hk,ab⟩))
   refine ⟨λt bn=>CP.off k t c hk ab bn,λaf aa vq=>?_,CP.aF k c hk ab,aM⟩
   rcases aM with ⟨t,h⟩ | h
   ·exact fP.off af t c aa vq h
   ·exact (tK c h).2 af aa vq
 have fin:∀ c,(B c\/∃ k,k<cs'.length/\H1 k c)->(∀ t,¬ wU t c)/\∀ k,k<xs'.length->¬ yL k c:=by
  intro c ab
  obtain ⟨h1,al,_,_⟩:=key c ab
  have none:¬ lk wU xs'.length yL c:=by
   intro h
   rcases KC c h with ⟨t,h⟩ | ⟨k,hk,h⟩
   ·exact h1 t h
   ·exact al k hk h
  exact ⟨λt h=>none (.inl ⟨t,h⟩),λk hk h=>none (.inr ⟨k,hk,h⟩)⟩
 refine ⟨wU,_,Fq,QO.cons zM (λk c hk ab=>(fin c ab).2 k hk) (λt c ab=>(fin c ab).1 t) (λc ab=>(key c ab).2.2.1),?_⟩
 have back:∀ c,lk wU xs'.length yL c->(∃ t,Fs t c)\/H0 c\/∃ k,k<xs.length/\dZ k c:=by
  intro c h
  rcases KC c h with ⟨t,h⟩ | h
  ·rcases gE c (zP c (.inl ⟨t,h⟩)) with h | h
   ·exact .inl h
   ·exact .inr (.inl h)
  ·exact .inr (.inr h)
 rintro c (h | ⟨k,hk,ab⟩)
 ·exact back c (.inl h)
 ·cases k with
  | zero =>
   rcases (key c ab).2.2.2 with h | h
   ·exact .inl h
   ·exact .inr (.inl h)
  | succ k=>exact back c (.inr ⟨k,by simpa using hk,ab⟩)
end
end Go.Own
namespace Go.Own
open Go
section
variable {w:World}{I:br}{T:Array Value}
theorem jI.kill {g:aZ}{Fs:Nat->br}(h:jI w I T g Fs) (t:Nat):∃ cp,jI w I T (df g ⟨t,[]⟩ .dead) cp/\(∀ c,¬ cp t c)/\∀ s,s≠t->cp s=Fs s:=by
 refine ⟨λs=>if s=t then cW else Fs s,⟨λs x J=>?_,λs aM c=>?_,λs eR c ab fu=>?_,λs c ab=>?_,h.lt⟩,λc=>by simp,λs aM=>by simp [aM]⟩
 ·by_cases cm:s=t
  ·subst cm
   simp only [df,if_pos] at J
   cases a':g s with
   | none=>rw [a'] at J; cases J
   | some y =>
    rw [a'] at J
    have:x=.dead:=by simpa [aj.setAt] using J.symm
    subst this
    obtain ⟨v,hv,_⟩:=h.rel s y a'
    exact ⟨v,hv,.tree (.dead (by simp))⟩
  ·simp only [df,if_neg cm] at J; simpa [cm] using h.rel s x J
 ·by_cases cm:s=t
  ·simp [cm]
  ·simp only [df,if_neg cm] at aM; simpa [cm] using h.kO s aM c
 ·by_cases h1:s=t <;> by_cases al:eR=t <;> simp [h1,al,cW] at ab fu
  exact h.e8 _ _ _ ab fu
 ·by_cases h1:s=t <;> simp [h1,cW] at ab
  exact h.aF _ _ ab
theorem R.tT {ρ:aj->Value->Prop}{Fs:Nat->br}{x:aj}{v:Value}{xs:List aj}{vs:List Value}{dZ:Nat->br}(h:Hand w I ρ Fs (x::xs) (v::vs) dZ):∀ c,dZ 0 c->(∀ t,¬ Fs t c)/\∀ k,k<xs.length->¬ dZ (k+1) c:=by
 intro c ab
 refine ⟨λt=>h.off 0 t c (by simp) ab,λk hk iD=>?_⟩
 have:=h.e8 0 (k+1) c (by simp) (by simpa using hk) ab iD
 omega
theorem lk.head {Fs:Nat->br}{x:aj}{xs:List aj}{dZ:Nat->br}{c:Nat}(h:(∃ t,Fs t c)\/dZ 0 c\/∃ k,k<xs.length/\dZ (k+1) c):lk Fs (x::xs).length dZ c:=by
 rcases h with h | h | ⟨k,hk,h⟩
 ·exact .inl h
 ·exact .inr ⟨0,by simp,h⟩
 ·exact .inr ⟨k+1,by simpa using hk,h⟩
theorem DO {g:aZ}{p:Place}{y:aj}{q:Place}(h:q.root≠p.root):b7 (df g p y) q=b7 g q:=by
 simp [b7,df,h]
theorem rm {g:aZ}{p:Place}{y:aj}{t:Nat}(h:t≠p.root):df g p y t=g t:=by
 simp [df,h]
theorem L3 {a:Option Addr}{n cap cY lY:Nat}:(Value.slice a n cap).ownBlock=(Value.slice a cY lY).ownBlock:=by cases a <;> rfl
theorem TS {e:TypeId}{z n N:Nat}{a:Option Addr}{cap:Nat}{us:List Value}(h:w.ownsRow 0 e z (.slice a N cap) N us) (aL:n<=N):w.ownsRow 0 e z (.slice a n cap) n (us.take (n * z)):=by
 have hle:n * z<=N * z:=Nat.mul_le_mul_right _ aL
 obtain ⟨hu,b6⟩:=h
 refine ⟨by rw [List.length_take,hu]; omega,?_⟩
 rcases b6 with ⟨b6,bd⟩ | ⟨b,c2,cur,b6,ql,gx,s8,rh,uz,s9⟩
 ·cases b6; exact .inl ⟨by simp; omega,by omega⟩
 ·cases b6
  refine .inr ⟨b,cap,cur,rfl,ql,gx,by omega,rh,uz,?_⟩
  rw [<- s9,List.take_take,Nat.min_eq_left hle]
theorem Take.sound {g g':aZ}{xs xs':List aj}(h:Take g xs xs' g'):Ed w I T g xs xs' g':=by
 induction h with
 | bI h=>exact λ{Fs vs dZ} bU hH=>⟨Fs,dZ,bU,hH,λ_ h=>h⟩
 | @cons g g' x xs xs' J _ aR =>
  intro Fs vs dZ bU hH
  cases vs with
  | nil=>have:=hH.len; simp at this
  | cons v vs =>
   obtain ⟨cp,jG,eG,QN,hl⟩:=aR bU hH.tail
   have bd:=R.tT hH
   have off:∀ c,dZ 0 c->¬ lk cp xs'.length jG c:=by
    intro c ab aJ
    rcases hl c aJ with ⟨t,h⟩ | ⟨k,hk,h⟩
    ·exact (bd c ab).1 t h
    ·exact (bd c ab).2 k hk h
   refine ⟨cp,_,eG,QN.cons (hH.rel 0 x v rfl rfl) (λk c hk ab h=>off c ab (.inr ⟨k,hk,h⟩)) (λt c ab h=>off c ab (.inl ⟨t,h⟩)) (λc ab=>hH.aF 0 c (by simp) ab),?_⟩
   rintro c (h | ⟨k,hk,h⟩)
   ·rcases hl c (.inl h) with h | ⟨af,aa,h⟩
    ·exact .inl h
    ·exact .inr ⟨af+1,by simpa using aa,h⟩
   ·cases k with
    | zero=>exact .inr ⟨0,by simp,h⟩
    | succ k =>
     rcases hl c (.inr ⟨k,by simpa using hk,h⟩) with h | ⟨af,aa,h⟩
     ·exact .inl h
     ·exact .inr ⟨af+1,by simpa using aa,h⟩
 | @bl g g1 g' z n N p cs cs' xs xs' aH aL t1 _ gB gq =>
  intro Fs vs dZ bU hH
  cases vs with
  | nil=>have:=hH.len; simp at this
  | cons v vs =>
   obtain ⟨pJ,cO,gX,hX,dG,kg⟩:=bU.part aH (by simp)
   obtain ⟨a,jf,cap,h1,rfl,aP⟩:=(hH.rel 0 _ v rfl rfl).mG
   rw [h1] at gX
   cases gX
   obtain ⟨a2,qK,kc,_⟩:=hX.mJ
   cases kc
   obtain ⟨gi,jh,jV,iN⟩:=kg .dead cW (.dead λ_ h=>h) (λ_ h=>h.elim) (λ_ h=>h.elim) (λ_ _ _ h=>h.elim)
   have lu:∀ t c,gi t c->Fs t c/\¬ cO c:=by
    intro t c ab
    by_cases aE:t=p.root
    ·subst aE
     rcases (jV c).1 ab with h | h
     ·exact h
     ·exact h.elim
    ·rw [iN t aE] at ab
     exact ⟨ab,λeH=>aE (bU.e8 _ _ _ ab (dG c eH))⟩
   cases hX with
   | ref J=>simp [aj.isRef] at J
   | @own _ _ _ _ e us bK _ bh ao nB ay aY aJ aQ =>
    have C4:∀ k,k<(cs.take (n * z)).length->k<cs.length:=λk hk=>by rw [List.length_take] at hk; omega
    have fh:∀ k c,k<(cs.take (n * z)).length->bK k c->cO c:=λk c hk ab=>(aQ c).2 (.inr ⟨k,C4 k hk,ab⟩)
    have iM:Hand w I (fV w T) gi (cs.take (n * z)) (us.take (n * z)) bK:=by
     refine ⟨by simp [ao],λk x u J hu=>?_,λaf k c aa hk=>aY af k c (C4 af aa) (C4 k hk),λk t c hk ab bn=>(lu t c bn).2 (fh k c hk ab),λk c hk ab=>bU.aF _ c (dG c (fh k c hk ab))⟩
     rw [List.getElem?_take] at J hu
     split at J
     ·rename_i eh; rw [if_pos eh] at hu; exact ay k x u J hu
     ·cases J
    have oJ:=TS bh aL
    obtain ⟨cp,jG,aw,a2,a3⟩:=Take.node (g1:=df g p .dead) (Fs:=Fs) (B:=λc=>(Value.slice a n cap).ownBlock=some c) (H0:=dZ 0) (X:=.own z n cs') (v0:=.slice a n cap) jh iM
     (λc ab=>by
      have eH:cO c:=(aQ c).2 (.inl (by rw [<- ab]; exact L3))
      exact ⟨⟨_,dG c eH⟩,λt bn=>(lu t c bn).2 eH,λk hk iD=>aJ k c (C4 k hk) iD (by rw [<- ab]; exact L3),bU.aF _ c (dG c eH)⟩)
     (λc ab=>by
      rcases ab with ⟨t,h⟩ | ⟨k,hk,h⟩
      ·exact .inl ⟨t,(lu t c h).1⟩
      ·exact .inl ⟨_,dG c (fh k c hk h)⟩)
     hH.tail (R.tT hH) gB gq (λwW hU iy lq=>by
      refine .own oJ (by rw [t1.length]; simp [ao]) (λk u hu=>?_) hU iy (λk c hk ab h=>lq k c hk ab h) λc=>Iff.rfl
      rw [List.getElem?_take] at hu
      split at hu
      ·exact nB k u hu
      ·cases hu)
    exact ⟨cp,jG,aw,a2,λc ab=>lk.head (a3 c ab)⟩
 | @bR g g1 g' z n m t q cs new cs' xs xs' aE aH bN t1 _ gB gq =>
  intro Fs vs dZ bU hH
  cases vs with
  | nil=>have:=hH.len; simp at this
  | cons v vs =>
   obtain ⟨a,jf,cap,h1,rfl,aP⟩:=(hH.rel 0 _ v rfl rfl).mG
   obtain ⟨v0,iO,gM⟩:=bU.rel t _ aE
   simp only [eo,iO,walk,Option.some.injEq] at h1
   subst h1
   obtain ⟨bv,e,de,us,news,gM⟩:=gM.uk
   have bY:jf=n+m:=by
    obtain ⟨_,b6⟩:=gM.mB
    rcases b6 with ⟨b6,bd⟩ | ⟨_,_,_,b6,_⟩
    ·cases b6; omega
    ·cases b6; rfl
   subst bY
   obtain ⟨Nn,Fu,hx,gO⟩:=bU.kill t
   have Gc:b7 (df g ⟨t,[]⟩ .dead) q=some (.own z n cs):=by rw [DO (by simpa using bN)]; exact aH
   obtain ⟨pJ,cO,gX,hX,dG,kg⟩:=Fu.part Gc (by simp)
   obtain ⟨cI,lY,b3,rfl⟩:=gM.jU
   rw [b3] at gX
   cases gX
   obtain ⟨gi,jh,jV,iN⟩:=kg .dead cW (.dead λ_ h=>h) (λ_ h=>h.elim) (λ_ h=>h.elim) (λ_ _ _ h=>h.elim)
   have pe:∀ c,cO c->Fs q.root c:=λc ab=>by have:=dG c ab; rwa [gO _ bN] at this
   have lu:∀ s c,gi s c->Fs s c/\¬ cO c/\s≠t:=by
    intro s c ab
    have cm:s≠t:=by
     rintro rfl
     by_cases ud:s=q.root
     ·exact bN ud.symm
     ·rw [iN s ud] at ab; exact hx c ab
    by_cases aM:s=q.root
    ·subst aM
     rcases (jV c).1 ab with h | h
     ·exact ⟨by have:=h.1; rwa [gO _ bN] at this,h.2,cm⟩
     ·exact h.elim
    ·rw [iN s aM,gO s cm] at ab
     exact ⟨ab,λeH=>aM (bU.e8 _ _ _ ab (pe c eH)),cm⟩
   cases hX with
   | ref J=>simp [aj.isRef] at J
   | @own _ _ _ _ cX iS bK _ bh ao nB ay aY aJ aQ =>
    have:=Hp bh gM.k9
    subst this
    have fh:∀ k c,k<cs.length->bK k c->cO c:=λk c hk ab=>(aQ c).2 (.inr ⟨k,hk,ab⟩)
    have iM:Hand w I (fV w T) gi (cs++new) (iS++news) (λk=>if k<cs.length then bK k else cW):=by
     refine ⟨by simp [ao,gM.ao],λk x u J hu=>?_,λaf k c aa hk ab fu=>?_,λk s c hk ab bn=>?_,λk c hk ab=>?_⟩
     ·by_cases eh:k<cs.length
      ·rw [List.getElem?_append_left eh] at J
       rw [List.getElem?_append_left (by omega)] at hu
       simpa [eh] using ay k x u J hu
      ·rw [List.getElem?_append_right (by omega)] at J
       rw [List.getElem?_append_right (by omega),<- ao] at hu
       simpa [eh] using gM.ay _ x u J hu
     ·by_cases fr:af<cs.length <;> by_cases eh:k<cs.length <;> simp [fr,eh,cW] at ab fu
      exact aY af k c fr eh ab fu
     ·by_cases eh:k<cs.length <;> simp [eh,cW] at ab
      exact (lu s c bn).2.1 (fh k c eh ab)
     ·by_cases eh:k<cs.length <;> simp [eh,cW] at ab
      exact bU.aF _ c (pe c (fh k c eh ab))
    obtain ⟨cp,jG,aw,a2,a3⟩:=Take.node (g1:=df (df g ⟨t,[]⟩ .dead) q .dead) (Fs:=Fs) (B:=λc=>(Value.slice a (n+m) cap).ownBlock=some c) (H0:=dZ 0) (X:=.own z (n+m) cs') (v0:=.slice a (n+m) cap) jh iM
     (λc ab=>by
      by_cases p5:(Value.slice cI n lY).ownBlock=some c
      ·have eH:cO c:=(aQ c).2 (.inl p5)
       refine ⟨⟨_,pe c eH⟩,λs bn=>(lu s c bn).2.1 eH,λk hk iD=>?_,bU.aF _ c (pe c eH)⟩
       by_cases eh:k<cs.length <;> simp [eh,cW] at iD
       exact aJ k c eh iD p5
      ·have C5:Fs t c:=(gM.aQ c).2 ⟨ab,p5⟩
       refine ⟨⟨_,C5⟩,λs bn=>(lu s c bn).2.2 (bU.e8 _ _ _ (lu s c bn).1 C5),λk hk iD=>?_,bU.aF _ c C5⟩
       by_cases eh:k<cs.length <;> simp [eh,cW] at iD
       exact bN (bU.e8 _ _ _ (pe c (fh k c eh iD)) C5))
     (λc ab=>by
      rcases ab with ⟨s,h⟩ | ⟨k,hk,h⟩
      ·exact .inl ⟨s,(lu s c h).1⟩
      ·by_cases eh:k<cs.length <;> simp [eh,cW] at h
       exact .inl ⟨_,pe c (fh k c eh h)⟩)
     hH.tail (R.tT hH) gB gq (λwW hU iy lq=>by
      refine .own gM.mB (by rw [t1.length]; simp [ao,gM.ao]) (λk u hu=>?_) hU iy (λk c hk ab h=>lq k c hk ab h) λc=>Iff.rfl
      by_cases eh:k<iS.length
      ·rw [List.getElem?_append_left eh] at hu; exact nB k u hu
      ·rw [List.getElem?_append_right (by omega)] at hu; exact gM.h1 _ u hu)
    exact ⟨cp,jG,aw,a2,λc ab=>lk.head (a3 c ab)⟩
 | @DA g g1 g' z n m t qh m2 t2 q cs new xX cs' xs xs' aE Li aL aH bN rS Sx t1 _ gB gq =>
  subst aL
  intro Fs vs dZ bU hH
  cases vs with
  | nil=>have:=hH.len; simp at this
  | cons v vs =>
   obtain ⟨a,jf,cap,h1,rfl,aP⟩:=(hH.rel 0 _ v rfl rfl).mG
   obtain ⟨v0,iO,gM⟩:=bU.rel t _ aE
   simp only [eo,iO,walk,Option.some.injEq] at h1
   subst h1
   obtain ⟨bv,e,de,us,news,gM⟩:=gM.uk
   have bY:jf=qh+m2+m:=by
    obtain ⟨_,b6⟩:=gM.mB
    rcases b6 with ⟨b6,bd⟩ | ⟨_,_,_,b6,_⟩
    ·cases b6; omega
    ·cases b6; rfl
   subst bY
   obtain ⟨v2,xN,l1⟩:=bU.rel t2 _ Li
   obtain ⟨I5,cX,sy,U_,Hg,l1⟩:=l1.uk
   have jU:bv=v2:=by
    obtain ⟨aw,Jg,dF,rfl⟩:=gM.jU
    simp only [eo,xN,walk,Option.some.injEq] at dF
    exact dF.symm
   subst jU
   have mD:us=U_++Hg:=Hp gM.k9 l1.mB
   subst mD
   obtain ⟨Vz,Q6,RZ,FU⟩:=bU.kill t
   obtain ⟨Nn,Fu,hx,gO⟩:=Q6.kill t2
   have Gc:b7 (df (df g ⟨t,[]⟩ .dead) ⟨t2,[]⟩ .dead) q=some (.own z qh cs):=by rw [DO (by simpa using rS),DO (by simpa using bN)]; exact aH
   obtain ⟨pJ,cO,gX,hX,dG,kg⟩:=Fu.part Gc (by simp)
   obtain ⟨cI,lY,b3,rfl⟩:=l1.jU
   rw [b3] at gX
   cases gX
   obtain ⟨gi,jh,jV,iN⟩:=kg .dead cW (.dead λ_ h=>h) (λ_ h=>h.elim) (λ_ h=>h.elim) (λ_ _ _ h=>h.elim)
   have pe:∀ c,cO c->Fs q.root c:=λc ab=>by have:=dG c ab; rwa [gO _ rS,FU _ bN] at this
   have lu:∀ s c,gi s c->Fs s c/\¬ cO c/\s≠t/\s≠t2:=by
    intro s c ab
    have nE:s≠t2:=by
     rintro rfl
     by_cases ud:s=q.root
     ·exact rS ud.symm
     ·rw [iN s ud] at ab; exact hx c ab
    have cm:s≠t:=by
     rintro rfl
     by_cases ud:s=q.root
     ·exact bN ud.symm
     ·rw [iN s ud,gO s nE] at ab; exact RZ c ab
    by_cases aM:s=q.root
    ·subst aM
     rcases (jV c).1 ab with h | h
     ·exact ⟨by have:=h.1; rwa [gO _ rS,FU _ bN] at this,h.2,cm,nE⟩
     ·exact h.elim
    ·rw [iN s aM,gO s nE,FU s cm] at ab
     exact ⟨ab,λeH=>aM (bU.e8 _ _ _ ab (pe c eH)),cm,nE⟩
   cases hX with
   | ref J=>simp [aj.isRef] at J
   | @own _ _ _ _ jM iS bK _ bh ao nB ay aY aJ aQ =>
    have:=Hp bh l1.k9
    subst this
    have fh:∀ k c,k<cs.length->bK k c->cO c:=λk c hk ab=>(aQ c).2 (.inr ⟨k,hk,ab⟩)
    have iM:Hand w I (fV w T) gi (cs++xX++new) (iS++Hg++news) (λk=>if k<cs.length then bK k else cW):=by
     have Dj:=l1.ao
     have Av:=gM.ao
     refine ⟨by simp [ao,Dj,Av],λk x u J hu=>?_,λaf k c aa hk ab fu=>?_,λk s c hk ab bn=>?_,λk c hk ab=>?_⟩
     ·rw [List.append_assoc] at J hu
      by_cases eh:k<cs.length
      ·rw [List.getElem?_append_left eh] at J
       rw [List.getElem?_append_left (by omega)] at hu
       simpa [eh] using ay k x u J hu
      ·rw [List.getElem?_append_right (by omega)] at J
       rw [List.getElem?_append_right (by omega),<- ao] at hu
       simp only [eh,if_false]
       by_cases FZ:k - cs.length<xX.length
       ·rw [List.getElem?_append_left FZ] at J
        rw [List.getElem?_append_left (by omega)] at hu
        exact l1.ay _ x u J hu
       ·rw [List.getElem?_append_right (by omega)] at J
        rw [List.getElem?_append_right (by omega),<- Dj] at hu
        exact gM.ay _ x u J hu
     ·by_cases fr:af<cs.length <;> by_cases eh:k<cs.length <;> simp [fr,eh,cW] at ab fu
      exact aY af k c fr eh ab fu
     ·by_cases eh:k<cs.length <;> simp [eh,cW] at ab
      exact (lu s c bn).2.1 (fh k c eh ab)
     ·by_cases eh:k<cs.length <;> simp [eh,cW] at ab
      exact bU.aF _ c (pe c (fh k c eh ab))
    have MG:∀ s c,Fs s c->s=t\/s=t2->(∃ s,Fs s c)/\(∀ s,¬ gi s c)/\(∀ k,k<(cs++xX++new).length->¬ (if k<cs.length then bK k else cW) c)/\¬ I c:=by
     intro s c ab aM
     refine ⟨⟨_,ab⟩,λeR bn=>?_,λk hk iD=>?_,bU.aF _ c ab⟩
     ·obtain ⟨f1,_,f2,f3⟩:=lu eR c bn
      have:=bU.e8 _ _ _ f1 ab
      rcases aM with rfl | rfl
      ·exact f2 this
      ·exact f3 this
     ·by_cases eh:k<cs.length <;> simp [eh,cW] at iD
      have:=bU.e8 _ _ _ (pe c (fh k c eh iD)) ab
      rcases aM with rfl | rfl
      ·exact bN this
      ·exact rS this
    obtain ⟨cp,jG,aw,a2,a3⟩:=Take.node (g1:=df (df (df g ⟨t,[]⟩ .dead) ⟨t2,[]⟩ .dead) q .dead) (Fs:=Fs) (B:=λc=>(Value.slice a (qh+m2+m) cap).ownBlock=some c) (H0:=dZ 0) (X:=.own z (qh+m2+m) cs') (v0:=.slice a (qh+m2+m) cap) jh iM
     (λc ab=>by
      by_cases p5:bv.ownBlock=some c
      ·by_cases FD:(Value.slice cI qh lY).ownBlock=some c
       ·have eH:cO c:=(aQ c).2 (.inl FD)
        refine ⟨⟨_,pe c eH⟩,λs bn=>(lu s c bn).2.1 eH,λk hk iD=>?_,bU.aF _ c (pe c eH)⟩
        by_cases eh:k<cs.length <;> simp [eh,cW] at iD
        exact aJ k c eh iD FD
       ·exact MG t2 c ((l1.aQ c).2 ⟨p5,FD⟩) (.inr rfl)
      ·exact MG t c ((gM.aQ c).2 ⟨ab,p5⟩) (.inl rfl))
     (λc ab=>by
      rcases ab with ⟨s,h⟩ | ⟨k,hk,h⟩
      ·exact .inl ⟨s,(lu s c h).1⟩
      ·by_cases eh:k<cs.length <;> simp [eh,cW] at h
       exact .inl ⟨_,pe c (fh k c eh h)⟩)
     hH.tail (R.tT hH) gB gq (λwW hU iy lq=>by
      refine .own gM.mB (by rw [t1.length]; simp [ao,l1.ao,gM.ao]) (λk u hu=>?_) hU iy (λk c hk ab h=>lq k c hk ab h) λc=>Iff.rfl
      rw [List.append_assoc] at hu
      by_cases eh:k<iS.length
      ·rw [List.getElem?_append_left eh] at hu; exact nB k u hu
      ·rw [List.getElem?_append_right (by omega)] at hu
       by_cases FZ:k - iS.length<Hg.length
       ·rw [List.getElem?_append_left FZ] at hu; exact l1.h1 _ u hu
       ·rw [List.getElem?_append_right (by omega)] at hu; exact gM.h1 _ u hu)
    exact ⟨cp,jG,aw,a2,λc ab=>lk.head (a3 c ab)⟩
 | @obj g g1 g' p cs cs' xs xs' aH t1 _ gB gq =>
  intro Fs vs dZ bU hH
  cases vs with
  | nil=>have:=hH.len; simp at this
  | cons v vs =>
   obtain ⟨pJ,cO,gX,hX,dG,kg⟩:=bU.part aH (by simp)
   obtain ⟨u,ad,h1,al,rfl⟩:=(hH.rel 0 _ v rfl rfl).ni
   rw [h1] at gX
   cases gX
   obtain ⟨gi,jh,jV,iN⟩:=kg .dead cW (.dead λ_ h=>h) (λ_ h=>h.elim) (λ_ h=>h.elim) (λ_ _ _ h=>h.elim)
   have lu:∀ t c,gi t c->Fs t c/\¬ cO c:=by
    intro t c ab
    by_cases aE:t=p.root
    ·subst aE
     rcases (jV c).1 ab with h | h
     ·exact h
     ·exact h.elim
    ·rw [iN t aE] at ab
     exact ⟨ab,λeH=>aE (bU.e8 _ _ _ ab (dG c eH))⟩
   cases hX with
   | ref J=>simp [aj.isRef] at J
   | @obj _ b e arr bK _ bh ao nB ay aY aJ aQ =>
    simp only [addrOf,Option.some.injEq] at al
    subst al
    have fh:∀ k c,k<cs.length->bK k c->cO c:=λk c hk ab=>(aQ c).2 (.inr ⟨k,hk,ab⟩)
    have iM:Hand w I (fV w T) gi cs arr.toList bK :=
     ⟨by simp [ao],λk x u J hu=>ay k x u J (by simpa using hu),aY,λk t c hk ab bn=>(lu t c bn).2 (fh k c hk ab),λk c hk ab=>bU.aF _ c (dG c (fh k c hk ab))⟩
    obtain ⟨cp,jG,aw,a2,a3⟩:=Take.node (g1:=df g p .dead) (Fs:=Fs) (B:=λc=>c=b) (H0:=dZ 0) (X:=.obj cs') (v0:=.pointer (some ⟨b,0,none⟩)) jh iM
     (λc ab=>by
      subst ab
      have eH:cO c:=(aQ c).2 (.inl rfl)
      exact ⟨⟨_,dG c eH⟩,λt bn=>(lu t c bn).2 eH,λk hk iD=>aJ k hk iD,bU.aF _ c (dG c eH)⟩)
     (λc ab=>by
      rcases ab with ⟨t,h⟩ | ⟨k,hk,h⟩
      ·exact .inl ⟨t,(lu t c h).1⟩
      ·exact .inl ⟨_,dG c (fh k c hk h)⟩)
     hH.tail (R.tT hH) gB gq (λwW hU iy lq=>by
      refine .obj bh (by rw [t1.length,ao]) nB (λk x u J hu=>hU k x u J (by simpa using hu)) iy (λk hk h=>lq k b hk h rfl) λc=>Iff.rfl)
    exact ⟨cp,jG,aw,a2,λc ab=>lk.head (a3 c ab)⟩
 | @mp g g1 g' p q xs xs' aH t1 _ gB gq =>
  intro Fs vs dZ bU hH
  cases vs with
  | nil=>have:=hH.len; simp at this
  | cons v vs =>
   obtain ⟨pJ,cO,gX,hX,dG,kg⟩:=bU.part aH (by simp)
   have hm:=hH.rel 0 _ v rfl rfl
   cases hm with
   | ref _ hm _ =>
   obtain ⟨Es,h1,rfl⟩:=hm
   rw [h1] at gX
   cases gX
   obtain ⟨gi,jh,jV,iN⟩:=kg .dead cW (.dead λ_ h=>h) (λ_ h=>h.elim) (λ_ h=>h.elim) (λ_ _ _ h=>h.elim)
   have lu:∀ t c,gi t c->Fs t c/\¬ cO c:=by
    intro t c ab
    by_cases aE:t=p.root
    ·subst aE
     rcases (jV c).1 ab with h | h
     ·exact h
     ·exact h.elim
    ·rw [iN t aE] at ab
     exact ⟨ab,λeH=>aE (bU.e8 _ _ _ ab (dG c eH))⟩
   cases hX with
   | ref J=>simp [aj.isRef] at J
   | @mp _ b es clock _ bh bN aQ =>
    have iM:Hand w I (fV w T) gi [] [] (λ_=>cW) :=
     ⟨rfl,λk x u J=>by simp at J,λ_ _ _ _ _ h=>h.elim,λ_ _ _ _ h=>h.elim,λ_ _ _ h=>h.elim⟩
    obtain ⟨cp,jG,aw,a2,a3⟩:=Take.node (g1:=df g p .dead) (Fs:=Fs) (B:=λc=>c=b) (H0:=dZ 0) (X:=.mp q) (v0:=.map (some b)) jh iM
     (λc ab=>by
      subst ab
      have eH:cO c:=(aQ c).2 rfl
      exact ⟨⟨_,dG c eH⟩,λt bn=>(lu t c bn).2 eH,λk hk _=>by simp at hk,bU.aF _ c (dG c eH)⟩)
     (λc ab=>by
      rcases ab with ⟨t,h⟩ | ⟨k,hk,h⟩
      ·exact .inl ⟨t,(lu t c h).1⟩
      ·exact h.elim)
     hH.tail (R.tT hH) gB gq (λwW hU iy lq=>by
      refine .mp bh bN λc=>⟨λh=>h.elim id λ⟨_,hk,_⟩=>by simp at hk,.inl⟩)
    exact ⟨cp,jG,aw,a2,λc ab=>lk.head (a3 c ab)⟩
 | @agg g g1 g' cs cs' xs xs' t1 _ gB gq =>
  intro Fs vs dZ bU hH
  cases vs with
  | nil=>have:=hH.len; simp at this
  | cons v vs =>
   have J:=hH.rel 0 _ v rfl rfl
   have bd:=R.tT hH
   cases J with
   | ref J=>simp [aj.isRef] at J
   | @agg _ us bK _ ao nB ay aY aQ =>
    have fh:∀ k c,k<cs.length->bK k c->dZ 0 c:=λk c hk ab=>(aQ c).2 ⟨k,hk,ab⟩
    obtain ⟨cp,jG,aw,a2,a3⟩:=Take.node (g1:=g) (Fs:=Fs) (B:=cW) (H0:=dZ 0) (X:=.agg cs') (v0:=.agg us) bU
     (⟨by simp [ao],λk x u J hu=>ay k x u J (by simpa using hu),aY,λk t c hk ab=>(bd c (fh k c hk ab)).1 t,λk c hk ab=>hH.aF 0 c (by simp) (fh k c hk ab)⟩:Hand w I (fV w T) Fs cs us.toList bK)
     (λc ab=>ab.elim)
     (λc ab=>by
      rcases ab with h | ⟨k,hk,h⟩
      ·exact .inl h
      ·exact .inr (fh k c hk h))
     hH.tail bd gB gq (λwW hU iy lq=>by
      refine .agg (by rw [t1.length,ao]) nB (λk x u J hu=>hU k x u J (by simpa using hu)) iy λc=>⟨λh=>h.elim (λh=>h.elim) id,.inr⟩)
    exact ⟨cp,jG,aw,a2,λc ab=>lk.head (a3 c ab)⟩
 | @cG g g1 g' cs cs' xs xs' t1 _ gB gq =>
  intro Fs vs dZ bU hH
  cases vs with
  | nil=>have:=hH.len; simp at this
  | cons v vs =>
   have J:=hH.rel 0 _ v rfl rfl
   have bd:=R.tT hH
   cases J with
   | ref J=>simp [aj.isRef] at J
   | @cG _ us bK _ ao ay aY aQ =>
    have fh:∀ k c,k<cs.length->bK k c->dZ 0 c:=λk c hk ab=>(aQ c).2 ⟨k,hk,ab⟩
    obtain ⟨cp,jG,aw,a2,a3⟩:=Take.node (g1:=g) (Fs:=Fs) (B:=cW) (H0:=dZ 0) (X:=.cG cs') (v0:=.tuple us) bU
     (⟨by simp [ao],λk x u J hu=>ay k x u J (by simpa using hu),aY,λk t c hk ab=>(bd c (fh k c hk ab)).1 t,λk c hk ab=>hH.aF 0 c (by simp) (fh k c hk ab)⟩:Hand w I (fV w T) Fs cs us.toList bK)
     (λc ab=>ab.elim)
     (λc ab=>by
      rcases ab with h | ⟨k,hk,h⟩
      ·exact .inl h
      ·exact .inr (fh k c hk h))
     hH.tail bd gB gq (λwW hU iy lq=>by
      refine .cG (by rw [t1.length,ao]) (λk x u J hu=>hU k x u J (by simpa using hu)) iy λc=>⟨λh=>h.elim (λh=>h.elim) id,.inr⟩)
    exact ⟨cp,jG,aw,a2,λc ab=>lk.head (a3 c ab)⟩
end
end Go.Own
namespace Go.Own
open Go
inductive jq (ml:aj->Prop):aj->Prop
 | bI {x:aj}(h:dp x):jq ml x
 | ref {x:aj}(J:x.isRef=true) (h:ml x):jq ml x
 | own {z n:Nat}{cs:List aj}(h:∀ x∈cs,jq ml x):jq ml (.own z n cs)
 | obj {cs:List aj}(h:∀ x∈cs,jq ml x):jq ml (.obj cs)
 | agg {cs:List aj}(h:∀ x∈cs,jq ml x):jq ml (.agg cs)
 | cG {cs:List aj}(h:∀ x∈cs,jq ml x):jq ml (.cG cs)
 | ey {fn:Fn}{a b:List aj}(h1:∀ x∈a,jq ml x) (al:∀ x∈b,jq ml x):jq ml (.ey fn a b)
def yq:aj->Option Place
 | .ptr p _=>some p
 | .bl _ p _=>some p
 | .sub _ p _ _=>some p
 | .bR _ p _ _ _=>some p
 | .hN p=>some p
 | _=>none
def Clear (p:Place) (k m:Nat) (r:aj):Prop:=∀ q,yq r=some q->q.root=p.root->∀ af ff,q.path=p.path++af::ff->af<k\/k+m<=af
def fY {α:Type}(l:List α) (k:Nat) (c:List α):List α:=l.take k++c++l.drop (k+c.length)
theorem qv {α:Type}{l:List α}{k:Nat}{c:List α}(h:k+c.length<=l.length):(fY l k c).length=l.length:=by
 simp [fY]; omega
theorem r7 {α:Type}{l:List α}{k:Nat}{c:List α}(h:k+c.length<=l.length) (af:Nat):(fY l k c)[af]?=if k<=af/\af<k+c.length then c[af - k]? else l[af]?:=by
 unfold fY
 rw [List.append_assoc]
 by_cases h1:af<k
 ·rw [List.getElem?_append_left (by simp; omega),List.getElem?_take,if_pos h1,if_neg (by omega)]
 ·rw [List.getElem?_append_right (by simp; omega)]
  have:(l.take k).length=k:=by simp; omega
  rw [this]
  by_cases al:af<k+c.length
  ·rw [List.getElem?_append_left (by omega),if_pos ⟨by omega,al⟩]
  ·rw [List.getElem?_append_right (by omega),List.getElem?_drop,if_neg (by omega)]
   congr 1; omega
theorem UC {α:Type}{l:List α}{k:Nat}{c:List α}{m:Nat}(h:k+c.length<=m) (hm:m<=l.length):(fY l k c).take m=fY (l.take m) k c:=by
 have h1:k+c.length<=(l.take m).length:=by rw [List.length_take]; omega
 apply List.ext_getElem?
 intro af
 rw [List.getElem?_take,r7 h1,r7 (l:=l) (by omega),List.getElem?_take]
 by_cases aa:af<m
 ·rw [if_pos aa,if_pos aa]
 ·rw [if_neg aa,if_neg aa,if_neg (by omega)]
def aj.fY (x:aj) (k:Nat) (c:List aj):aj :=
 match x with
 | .own z n cs=>.own z n (Own.fY cs k c)
 | .obj cs=>.obj (Own.fY cs k c)
 | x=>x
section
variable {w:World}{I:br}{T:Array Value}{g:aZ}{Fs:Nat->br}
theorem R.wo {ρ:aj->Value->Prop}{ml:aj->Prop}{x:aj}{v:Value}{F:br}(h:R w I ρ x v F):jq ml x->R w I (λr u=>ρ r u/\ml r) x v F:=by
 induction h with
 | lit h aQ=>exact λ_=>.lit h aQ
 | aI aQ=>exact λ_=>.aI aQ
 | dead aQ=>exact λ_=>.dead aQ
 | @ref x _ _ J h aQ =>
  intro hk
  refine .ref J ⟨h,?_⟩ aQ
  cases hk with
  | ref _ h=>exact h
  | bI h=>cases h <;> simp [aj.isRef] at J
  | _=>simp [aj.isRef] at J
 | hY aQ=>exact λ_=>.hY aQ
 | mp bh aH aQ=>exact λ_=>.mp bh aH aQ
 | imp aQ bt bh aH=>exact λ_=>.imp aQ bt bh aH
 | aF aQ k7 bt aM ao h1 ab ay aR =>
  intro hk
  cases hk with
  | ref J=>simp [aj.isRef] at J
  | bI h=>cases h with | aF h=>exact .aF aQ k7 bt aM ao h1 ab λk x J=>aR k x J (.bI (h x (List.mem_of_getElem? J)))
 | bo aQ bt aM h1 ab ay aR =>
  intro hk
  cases hk with
  | ref J=>simp [aj.isRef] at J
  | bI h=>cases h with | bo h=>exact .bo aQ bt aM h1 ab λk x J=>aR k x J (.bI (h x (List.mem_of_getElem? J)))
 | own bh ao h1 ay aY aJ aQ aR =>
  intro hk
  refine .own bh ao h1 (λk x u J hu=>aR k x u J hu ?_) aY aJ aQ
  cases hk with
  | ref J=>simp [aj.isRef] at J
  | bI h=>cases h with | own h=>exact .bI (h x (List.mem_of_getElem? J))
  | own h=>exact h x (List.mem_of_getElem? J)
 | obj bh ao h1 ay aY aJ aQ aR =>
  intro hk
  refine .obj bh ao h1 (λk x u J hu=>aR k x u J hu ?_) aY aJ aQ
  cases hk with
  | ref J=>simp [aj.isRef] at J
  | bI h=>cases h with | obj h=>exact .bI (h x (List.mem_of_getElem? J))
  | obj h=>exact h x (List.mem_of_getElem? J)
 | agg ao h1 ay aY aQ aR =>
  intro hk
  refine .agg ao h1 (λk x u J hu=>aR k x u J hu ?_) aY aQ
  cases hk with
  | ref J=>simp [aj.isRef] at J
  | bI h=>cases h with | agg h=>exact .bI (h x (List.mem_of_getElem? J))
  | agg h=>exact h x (List.mem_of_getElem? J)
 | cG ao ay aY aQ aR =>
  intro hk
  refine .cG ao (λk x u J hu=>aR k x u J hu ?_) aY aQ
  cases hk with
  | ref J=>simp [aj.isRef] at J
  | bI h=>cases h with | cG h=>exact .bI (h x (List.mem_of_getElem? J))
  | cG h=>exact h x (List.mem_of_getElem? J)
 | @ey fn first caps v1 v2 F aQ h1 al jV iN gB gq =>
  intro hk
  have:(∀ x∈first,jq ml x)/\∀ x∈caps,jq ml x:=by
   cases hk with
   | ref J=>simp [aj.isRef] at J
   | bI h=>cases h with | ey h1 al=>exact ⟨λx J=>.bI (h1 x J),λx J=>.bI (al x J)⟩
   | ey h1 al=>exact ⟨h1,al⟩
  exact .ey aQ h1 al (λk x u J hu=>gB k x u J hu (this.1 x (List.mem_of_getElem? J))) (λk x u J hu=>gq k x u J hu (this.2 x (List.mem_of_getElem? J)))
theorem jI.store (bU:jI w I T g Fs) {p:Place}{nd:aj}{z n:Nat}{cs:List aj}(aH:b7 g p=some nd) (gD:nd=.own z n cs\/nd=.obj cs) {k:Nat}{cs':List aj}(hk:k+cs'.length<=cs.length)
  {iS:List Value}{dZ:Nat->br}(hH:Hand w I (fV w T) Fs cs' iS dZ) (mz:∀ x∈cs',dp x) (gW:∀ (af:Nat) (u:Value),iS[af]?=some u->u.oneCell'=true)
  {g2:aZ}(xA:∀ t x,g2 t=some x->df g p (nd.fY k cs') t=some x)
  (uc:∀ t x,g2 t=some x->∀ y,g t=some y->jq (λr=>gK g r/\Clear p k cs'.length r/\gK g2 r) y) (k8:∀ t z q n m new,g2 t≠some (.bR z q n m new)) (jW:g2 p.root≠none) {b:Nat}{v:Value}
  (hv:eo w T p=some v) (aJ:addrOf v=some ⟨b,0,none⟩) {e:TypeId}{arr:Array Value}(lx:w.heap[b]?=some (.cells arr e (0,0))) :
  ∃ cp,c_ (w.setRow b (fY arr.toList k iS).toArray) I T g2 cp/\∀ t c,cp t c->Fs t c\/∃ af,af<cs'.length/\dZ af c:=by
 have lf:∀ z q n m new,nd≠.bR z q n m new:=by rcases gD with rfl | rfl <;> simp
 have hlen:=hH.len
 have oj:∀ c,c≠b->(w.setRow b (fY arr.toList k iS).toArray).heap[c]?=w.heap[c]?:=λc ab=>setRow_other w b c _ ab
 have BE:(w.setRow b (fY arr.toList k iS).toArray).heap[b]?=some (.cells (fY arr.toList k iS).toArray e (0,0)):=setRow_heap w b arr _ e (0,0) lx
 have M1:(w.setRow b (fY arr.toList k iS).toArray).heap.size=w.heap.size:=by simp
 generalize uh:w.setRow b (fY arr.toList k iS).toArray=w' at *
 -- the slot of the node
 obtain ⟨fl,jO⟩:∃ fl,g p.root=some fl:=by
  unfold b7 at aH
  cases J:g p.root with
  | none=>rw [J] at aH; cases aH
  | some x=>exact ⟨x,rfl⟩
 have oI:fl.at p.path=some nd:=by simpa [b7,jO] using aH
 obtain ⟨v0,iO,gM⟩:=bU.rel _ _ jO
 have zI:=gM.hM (by rintro z q n m new rfl; exact lf _ _ _ _ _ (aj.rG oI).2)
 have tZ:jq (λr=>gK g r/\Clear p k cs'.length r/\gK g2 r) fl:=by
  cases al:g2 p.root with
  | none=>exact absurd al jW
  | some y=>exact uc _ _ al _ jO
 let Im:aj->Value->Prop:=λr u=>fV w T r u/\gK g r/\Clear p k cs'.length r/\gK g2 r
 have zJ:R w I Im fl v0 (Fs p.root):=zI.wo tZ
 obtain ⟨ie,cO,hw,d',dG,gd,kg⟩:=R.focus p.path zJ oI
 have Gq:ie=v:=by simp only [eo,iO,hw,Option.some.injEq] at hv; exact hv
 subst Gq
 have l2:cO b:=d'.Dt (z:=z) (n:=n) gD aJ
 have same:∀ t c,Fs t c->c≠b->w'.heap[c]?=w.heap[c]?:=λ_ c _ ab=>oj c ab
 have tL:∀ c,I c->w'.heap[c]?=w.heap[c]?:=λc ab=>oj c λe=>bU.aF _ b (dG b l2) (e ▸ ab)
 have C0:∀ t,t≠p.root->¬ Fs t b:=λt aE h=>aE (bU.e8 _ _ _ h (dG b l2))
 -- ways that are clear of the cells
 obtain ⟨Vi,Vj⟩:=gd w' λc ab aL=>oj c λe=>aL (e ▸ l2)
 have LI:∀ (ρ':aj->Value->Prop),(∀ x v,Im x v->ρ' x v)->(∃ fO,R w' I ρ' (nd.fY k cs') ie fO/\∀ c,fO c->cO c\/∃ af,af<cs'.length/\dZ af c)/\∀ af ff y,(af<k\/k+cs'.length<=af)->nd.at (af::ff)=some y->walk w' ie (af::ff)=walk w ie (af::ff):=by
  intro ρ' lz
  have new:∀ (af:Nat) (x:aj) (u:Value),cs'[af]?=some x->iS[af]?=some u->R w' I ρ' x u (dZ af):=by
   intro af x u J hu
   have aa:af<cs'.length:=(List.getElem?_eq_some_iff.1 J).1
   have:=(hH.rel af x u J hu).bI (ρ':=ρ') (mz x (List.mem_of_getElem? J))
   exact this.frame tL (λ_ h=>h) (λ_ _ h=>h) λc ab=>oj c λe=>hH.off af p.root b aa (e ▸ ab) (dG b l2)
  rcases gD with rfl | rfl
  ·cases d' with
   | ref J=>simp [aj.isRef] at J
   | @own _ _ _ _ cX us bK _ bh ao h1 ay aY kb aQ =>
    obtain ⟨mD,b6⟩:=bh
    rcases b6 with ⟨rfl,_⟩ | ⟨hT,cap,cur,rfl,ql,gx,s8,rh,uz,s9⟩
    ·simp [addrOf] at aJ
    ·simp only [addrOf,Option.some.injEq,Addr.mk.injEq,and_true] at aJ
     subst aJ
     rw [lx] at gx
     cases gx
     have KJ:n * z<=arr.toList.length:=by
      rw [<- mD,<- s9,List.length_take] ; simp; omega
     have WC:us.length=cs.length:=ao.symm
     have mA:w'.ownsRow 0 e z (.slice (some ⟨hT,0,none⟩) n cap) n (fY us k iS):=by
      refine ⟨by rw [qv (by omega),mD],.inr ⟨hT,cap,_,rfl,ql,BE,s8,rh,?_,?_⟩⟩
      ·rw [List.size_toArray,qv (by omega),Array.length_toList,uz]
      ·show (fY arr.toList k iS).take (n * z)=_
       rw [UC (by omega) KJ,s9]
     have Kp:∀ af,af<cs.length->¬ bK af hT:=λaf aa h=>kb af hT aa h rfl
     have fh:∀ af c,af<cs.length->bK af c->Fs p.root c:=λaf c aa ab=>dG c ((aQ c).2 (.inr ⟨af,aa,ab⟩))
     refine ⟨⟨_,.own (Fs:=λaf=>if k<=af/\af<k+cs'.length then dZ (af - k) else bK af) mA (by rw [qv hk,qv (by omega),ao]) (λaf u hu=>?_) (λaf x u J hu=>?_) (λi af c hi aa ab fu=>?_) (λaf c aa ab uf=>?_) (λc=>Iff.rfl),λc ab=>?_⟩,λaf ff y aa az=>?_⟩
     ·rw [r7 (by omega)] at hu
      split at hu
      ·exact gW _ u hu
      ·exact h1 af u hu
     ·rw [r7 hk] at J
      rw [r7 (by omega),<- hlen] at hu
      by_cases eP:k<=af/\af<k+cs'.length
      ·rw [if_pos eP] at J hu
       simpa [eP] using new (af - k) x u J hu
      ·rw [if_neg eP] at J hu
       have fr:af<cs.length:=(List.getElem?_eq_some_iff.1 J).1
       rw [if_neg eP]
       exact (ay af x u J hu).frame tL (λ_ h=>h) lz λc ab=>oj c λe=>Kp af fr (e ▸ ab)
     ·rw [qv hk] at hi aa
      by_cases h1:k<=i/\i<k+cs'.length <;> by_cases al:k<=af/\af<k+cs'.length <;> simp only [h1,al,if_false] at ab fu
      ·have:=hH.e8 (i - k) (af - k) c (by omega) (by omega) (by simpa using ab) (by simpa using fu)
       omega
      ·exact absurd (fh af c aa fu) (hH.off (i - k) _ c (by omega) (by simpa using ab))
      ·exact absurd (fh i c hi ab) (hH.off (af - k) _ c (by omega) (by simpa using fu))
      ·exact aY i af c hi aa ab fu
     ·rw [qv hk] at aa
      by_cases h1:k<=af/\af<k+cs'.length
      ·rw [if_pos h1] at ab
       simp only [Value.ownBlock,Option.some.injEq] at uf
       subst uf
       exact hH.off (af - k) p.root hT (by omega) ab (dG hT l2)
      ·rw [if_neg h1] at ab; exact kb af c aa ab uf
     ·rcases ab with ab | ⟨af,aa,ab⟩
      ·exact .inl ((aQ c).2 (.inl ab))
      ·rw [qv hk] at aa
       by_cases h1:k<=af/\af<k+cs'.length
       ·rw [if_pos h1] at ab; exact .inr ⟨af - k,by omega,ab⟩
       ·rw [if_neg h1] at ab; exact .inl ((aQ c).2 (.inr ⟨af,aa,ab⟩))
     ·obtain ⟨c,n0,ab⟩:=aj.tx az
      simp only [aj.kids] at n0
      have fr:af<cs.length:=(List.getElem?_eq_some_iff.1 n0).1
      have hu:us[af]?=some us[af]:=List.getElem?_eq_getElem (by omega)
      have l3:child w (.slice (some ⟨hT,0,none⟩) n cap) af=some us[af]:=by
       refine oa (e:=e) (z:=z) (n:=n) (us:=us) ⟨mD,.inr ⟨hT,cap,arr,rfl,ql,lx,s8,rh,uz,s9⟩⟩ hu
      have zS:child w' (.slice (some ⟨hT,0,none⟩) n cap) af=some us[af]:=by
       refine oa mA ?_
       rw [r7 (by omega),if_neg (by omega)]; exact hu
      have:=R.oW (w':=w') ff (ay af c _ n0 hu) ab λc ab=>oj c λe=>Kp af fr (e ▸ ab)
      simp [walk,l3,zS,this]
  ·cases d' with
   | ref J=>simp [aj.isRef] at J
   | @obj _ hT cX jt bK _ bh ao h1 ay aY kb aQ =>
    simp only [addrOf,Option.some.injEq,Addr.mk.injEq,and_true] at aJ
    subst aJ
    rw [lx] at bh
    cases bh
    have vg:cs.length=arr.toList.length:=by simp [ao]
    have fh:∀ af c,af<cs.length->bK af c->Fs p.root c:=λaf c aa ab=>dG c ((aQ c).2 (.inr ⟨af,aa,ab⟩))
    refine ⟨⟨_,.obj (Fs:=λaf=>if k<=af/\af<k+cs'.length then dZ (af - k) else bK af) BE (by rw [qv hk,List.size_toArray,qv (by omega),vg]) (λaf u hu=>?_) (λaf x u J hu=>?_) (λi af c hi aa ab fu=>?_) (λaf aa ab=>?_) (λc=>Iff.rfl),λc ab=>?_⟩,λaf ff y aa az=>?_⟩
    ·rw [List.getElem?_toArray,r7 (by omega)] at hu
     split at hu
     ·exact gW _ u hu
     ·exact h1 af u (by simpa using hu)
    ·rw [r7 hk] at J
     rw [List.getElem?_toArray,r7 (by omega),<- hlen] at hu
     by_cases eP:k<=af/\af<k+cs'.length
     ·rw [if_pos eP] at J hu
      simpa [eP] using new (af - k) x u J hu
     ·rw [if_neg eP] at J hu
      have fr:af<cs.length:=(List.getElem?_eq_some_iff.1 J).1
      rw [if_neg eP]
      exact (ay af x u J (by simpa using hu)).frame tL (λ_ h=>h) lz λc ab=>oj c λe=>kb af fr (e ▸ ab)
    ·rw [qv hk] at hi aa
     by_cases h1:k<=i/\i<k+cs'.length <;> by_cases al:k<=af/\af<k+cs'.length <;> simp only [h1,al,if_false] at ab fu
     ·have:=hH.e8 (i - k) (af - k) c (by omega) (by omega) (by simpa using ab) (by simpa using fu)
      omega
     ·exact absurd (fh af c aa fu) (hH.off (i - k) _ c (by omega) (by simpa using ab))
     ·exact absurd (fh i c hi ab) (hH.off (af - k) _ c (by omega) (by simpa using fu))
     ·exact aY i af c hi aa ab fu
    ·rw [qv hk] at aa
     by_cases h1:k<=af/\af<k+cs'.length
     ·rw [if_pos h1] at ab
      exact hH.off (af - k) p.root hT (by omega) ab (dG hT l2)
     ·rw [if_neg h1] at ab; exact kb af aa ab
    ·rcases ab with ab | ⟨af,aa,ab⟩
     ·exact .inl ((aQ c).2 (.inl ab))
     ·rw [qv hk] at aa
      by_cases h1:k<=af/\af<k+cs'.length
      ·rw [if_pos h1] at ab; exact .inr ⟨af - k,by omega,ab⟩
      ·rw [if_neg h1] at ab; exact .inl ((aQ c).2 (.inr ⟨af,aa,ab⟩))
    ·obtain ⟨c,n0,ab⟩:=aj.tx az
     simp only [aj.kids] at n0
     have fr:af<cs.length:=(List.getElem?_eq_some_iff.1 n0).1
     have hu:arr[af]?=some arr[af]:=Array.getElem?_eq_getElem (by omega)
     have l3:child w (.pointer (some ⟨hT,0,none⟩)) af=some arr[af]:=by simp [child,World.cell?,lx,hu]
     have zS:child w' (.pointer (some ⟨hT,0,none⟩)) af=some arr[af]:=by
      have aP:(fY arr.toList k iS)[af]?=some arr[af]:=by
       rw [r7 (by omega),if_neg (by omega)]; simp
      simp [child,World.cell?,BE,aP]
     have:=R.oW (w':=w') ff (ay af c _ n0 hu) ab λc ab=>oj c λe=>kb af fr (e ▸ ab)
     simp [walk,l3,zS,this]
 have val:∀ q y,b7 g q=some y->(q.root=p.root->∀ af ff,q.path=p.path++af::ff->af<k\/k+cs'.length<=af)->eo w' T q=eo w T q:=by
  intro q y bN h3
  by_cases ay:q.root=p.root
  ·have gu:fl.at q.path=some y:=by simpa [b7,ay,jO] using bN
   rcases Vj q.path y gu with ⟨ff,eX⟩ | h
   ·have uh:walk w' v0 q.path=walk w v0 q.path:=by
     rw [eX,BF,BF,Vi,hw]
     simp only [Option.bind_some]
     cases ff with
     | nil=>rfl
     | cons af ff =>
      rw [eX,aj.Er,oI] at gu
      exact (LI (λ_ _=>True) (λ_ _ _=>trivial)).2 af ff y (h3 ay af ff eX) gu
    simp [eo,ay,iO,uh]
   ·simp [eo,ay,iO,h]
  ·unfold b7 at bN
   cases J:g q.root with
   | none=>rw [J] at bN; cases bN
   | some x =>
    rw [J] at bN
    obtain ⟨u,hu,bj⟩:=bU.rel _ _ J
    cases bj with
    | tree bj =>
     have:=R.oW (w':=w') q.path bj bN λc ab=>oj c λe=>C0 _ ay (e ▸ ab)
     simp [eo,hu,this]
    | bR bj=>simp [eo,hu,(aj.rG bN).1,walk]
 have slot:∀ {q:Place}{x:aj},q.path=[]->g q.root=some x->eo w' T q=eo w T q:=by
  intro q x bN J
  obtain ⟨u,hu,_⟩:=bU.rel _ _ J
  simp [eo,bN,walk]
 have refs:∀ r u,Im r u->er w' T g2 r u:=by
  rintro r u ⟨h1,al,aP,b3⟩
  refine ⟨?_,b3⟩
  cases r <;> simp only [fV,gK] at h1 al ⊢
  case ptr q af=>obtain ⟨y,az,_⟩:=al; rw [val q y az (aP q rfl)]; exact h1
  case bl cN q cY =>
   rcases al with ⟨_,_,al,_⟩ | ⟨bd,_,_,_,_,al,_⟩
   ·rw [val q _ al (aP q rfl)]; exact h1
   ·rw [slot bd al]; exact h1
  case sub cN q lo cY=>obtain ⟨_,_,al,_⟩:=al; rw [val q _ al (aP q rfl)]; exact h1
  case hN q=>obtain ⟨_,al⟩:=al; rw [val q _ al (aP q rfl)]; exact h1
  case bR cN q cY m' dq =>
   rcases al with ⟨_,al⟩ | ⟨bd,_,_,_,_,_,al,_⟩
   ·rw [val q _ al (aP q rfl)]; exact h1
   ·rw [slot bd al]; exact h1
 obtain ⟨⟨Fn,Q1,Kq⟩,_⟩:=LI (er w' T g2) refs
 obtain ⟨fO,zK,nC⟩:=kg w' I (er w' T g2) _ Fn ⟨tL,λc ab aL=>oj c λe=>aL (e ▸ l2),λ_ h=>h,refs⟩ Q1 λc ab fu=>by
  rcases Kq c ab with h | ⟨af,aa,h⟩
  ·exact h
  ·exact absurd fu (hH.off af _ c aa h)
 have zC:∀ c,fO c->Fs p.root c\/∃ af,af<cs'.length/\dZ af c:=by
  intro c ab
  rcases (nC c).1 ab with h | h
  ·exact .inl h.1
  ·rcases Kq c h with h | h
   ·exact .inl (dG c h)
   ·exact .inr h
 let cp:Nat->br:=λt c=>if t=p.root then fO c else g2 t≠none/\Fs t c
 have oE:∀ t c,cp t c->Fs t c\/∃ af,af<cs'.length/\dZ af c:=by
  intro t c ab
  by_cases aE:t=p.root
  ·simp only [cp,if_pos aE] at ab; rw [aE]; exact zC c ab
  ·simp only [cp,if_neg aE] at ab; exact .inl ab.2
 refine ⟨cp,⟨λt x J=>?_,λt aE c ab=>?_,λt ds c ab fu=>?_,λt c ab hi=>?_,λc ab=>by have:=bU.lt c ab; omega,λt ds z q n m new cN cY m' dq h1=>absurd h1 (k8 _ _ _ _ _ _)⟩,oE⟩
 ·have f':=xA t x J
  by_cases aE:t=p.root
  ·subst aE
   have An:fl.setAt p.path (nd.fY k cs')=x:=by simpa [df,jO] using f'
   refine ⟨v0,iO,.tree ?_⟩
   have ve:cp p.root=fO:=by funext c; simp [cp]
   rw [<- An,ve]; exact zK
  ·rw [rm aE] at f'
   obtain ⟨u,hu,bj⟩:=bU.rel t x f'
   replace bj:=bj.hM (by rintro z q n m new rfl; exact k8 _ _ _ _ _ _ J)
   have ve:cp t=Fs t:=by
    funext c
    exact propext ⟨λh=>by simp only [cp,if_neg aE] at h; exact h.2,λh=>by simp only [cp,if_neg aE]; exact ⟨by rw [J]; simp,h⟩⟩
   refine ⟨u,hu,.tree ?_⟩
   rw [ve]
   exact (bj.wo (uc t x J x f')).frame tL (λ_ h=>h) refs λc ab=>oj c λe=>C0 t aE (e ▸ ab)
 ·by_cases h5:t=p.root
  ·exact jW (h5 ▸ aE)
  ·simp only [cp,if_neg h5] at ab; exact ab.1 aE
 ·by_cases h1:t=p.root <;> by_cases al:ds=p.root
  ·rw [h1,al]
  ·simp only [cp,if_pos h1] at ab; simp only [cp,if_neg al] at fu
   rcases zC c ab with h | ⟨af,aa,h⟩
   ·exact absurd (bU.e8 _ _ _ h fu.2) (Ne.symm al)
   ·exact absurd fu.2 (hH.off af _ c aa h)
  ·simp only [cp,if_neg h1] at ab; simp only [cp,if_pos al] at fu
   rcases zC c fu with h | ⟨af,aa,h⟩
   ·exact absurd (bU.e8 _ _ _ ab.2 h) h1
   ·exact absurd ab.2 (hH.off af _ c aa h)
  ·simp only [cp,if_neg h1] at ab; simp only [cp,if_neg al] at fu
   exact bU.e8 _ _ _ ab.2 fu.2
 ·rcases oE t c ab with h | ⟨af,aa,h⟩
  ·exact bU.aF _ c h hi
  ·exact hH.aF af c aa h hi
end
end Go.Own
namespace Go.Own
open Go
section
variable {P:Program}{w:World}{I:br}{T:Array Value}{g:aZ}{Fs:Nat->br}
theorem View.MH (h:jI w I T g Fs) {x x':aj}(hv:View g x x'):∀ {v:Value}{F:br},R w I (fV w T) x v F->(∀ c,F c->∃ t,Fs t c)->∀ ρ',R w (λc=>I c\/∃ t,Fs t c) ρ' x' v cW:=by
 induction hv with
 | py =>
  intro v F bj aQ ρ'
  have:=bj.q8
  subst this
  exact .hY λ_ h=>h
 | mp =>
  intro v F bj aQ ρ'
  cases bj with
  | ref J=>simp [aj.isRef] at J
  | mp bh aH aJ=>exact .imp (λ_ h=>h) (.inr (aQ _ ((aJ _).2 rfl))) bh aH
 | hN aH =>
  intro v F bj aQ ρ'
  cases bj with
  | ref _ ay _ =>
   obtain ⟨b,aJ,rfl⟩:=ay
   obtain ⟨hQ,cO,iE,d',dG,_⟩:=h.part aH (by simp)
   rw [aJ] at iE
   cases iE
   cases d' with
   | ref J=>simp [aj.isRef] at J
   | mp bh aH aJ=>exact .imp (λ_ h=>h) (.inr ⟨_,dG _ ((aJ _).2 rfl)⟩) bh aH
 | self aL h1 al aP b3 dF =>
  intro v F bj aQ ρ'
  refine ((bj.bI aL).nn λc ab=>.inl ab).empty ?_
  cases bj with
  | mp=>exact absurd rfl (dF _)
  | lit _ aQ | aI aQ | dead aQ | ref _ _ aQ | hY aQ | aF aQ | bo aQ | ey aQ | imp aQ=>exact aQ
  | own=>exact absurd rfl (h1 _ _ _)
  | obj=>exact absurd rfl (al _)
  | agg=>exact absurd rfl (aP _)
  | cG=>exact absurd rfl (b3 _)
 | @agg cs cs' ao _ aR =>
  intro v F bj aQ ρ'
  cases bj with
  | ref J=>simp [aj.isRef] at J
  | @agg _ vs bK _ ia h1 ay aY k6 =>
   refine .agg (Fs:=λ_=>cW) (by rw [ao,ia]) h1 (λk y u az hu=>?_) (λ_ _ _ _ _ h=>h.elim) (λc=>⟨λh=>h.elim,λ⟨_,_,h⟩=>h⟩)
   have hk:k<cs.length:=by rw [<- ao]; exact (List.getElem?_eq_some_iff.1 az).1
   have J:=List.getElem?_eq_getElem hk
   exact aR k _ y J az (ay k _ u J hu) (λc ab=>aQ c ((k6 c).2 ⟨k,hk,ab⟩)) ρ'
 | @ey fn cs cs' ao _ aR =>
  intro v F bj aQ ρ'
  cases bj with
  | ref J=>simp [aj.isRef] at J
  | @ey _ _ _ v1 v2 _ qS h1 al jV iN =>
   refine .ey (λ_ h=>h) h1 (by rw [ao,al]) (λk x u J=>by simp at J) (λk y u az hu=>?_)
   have hk:k<cs.length:=by rw [<- ao]; exact (List.getElem?_eq_some_iff.1 az).1
   have J:=List.getElem?_eq_getElem hk
   exact aR k _ y J az (iN k _ u J hu) (λc ab=>ab.elim) ρ'
 | @own z n cs cs' ao _ aR =>
  intro v F bj aQ ρ'
  obtain ⟨a,cap,us,bK,rfl,aL,hlen,bm,ab⟩:=bj.x4
  cases a with
  | none =>
   have hF:cs=[]:=by
    cases cs with
    | nil=>rfl
    | cons c cs=>obtain ⟨b,aJ,_⟩:=ab 0 c rfl; cases aJ
   subst hF
   have ly:cs'=[]:=List.eq_nil_of_length_eq_zero (by simpa using ao)
   subst ly
   have pk:n=0:=by
    cases bj with
    | ref J=>simp [aj.isRef] at J
    | own bh =>
     obtain ⟨_,b6⟩:=bh
     rcases b6 with ⟨b6,bd⟩ | ⟨b,c2,cur,b6,_⟩
     ·exact bd
     ·cases b6
   subst pk
   exact .hY λ_ h=>h
  | some ad =>
   obtain ⟨b,rfl,qT⟩:=bm ad rfl
   refine .aF (us:=us) (λ_ h=>h) aL (.inr (aQ b qT)) rfl (by rw [ao,hlen]) (λk y az=>?_) (λk y az=>?_) λk y az=>?_
   all_goals
    have hk:k<cs.length:=by rw [<- ao]; exact (List.getElem?_eq_some_iff.1 az).1
    have J:=List.getElem?_eq_getElem hk
    obtain ⟨hT,kI,h1,al,aP,b3⟩:=ab k _ J
    cases kI
   ·exact al
   ·simpa using h1
   ·exact aR k _ y J az aP (λc ab=>aQ c (b3 c ab)) ρ'
 | @obj cs cs' ao _ aR =>
  intro v F bj aQ ρ'
  cases bj with
  | ref J=>simp [aj.isRef] at J
  | @obj _ b e arr bK _ bh ia h1 ay aY aJ k6 =>
   refine .bo (us:=λk=>arr.getD k undef) (λ_ h=>h) (.inr (aQ b ((k6 b).2 (.inl rfl)))) rfl (λk y az=>?_) (λk y az=>?_) λk y az=>?_
   all_goals
    have hk:k<cs.length:=by rw [<- ao]; exact (List.getElem?_eq_some_iff.1 az).1
    have J:=List.getElem?_eq_getElem hk
    have hu:arr[k]?=some arr[k]:=Array.getElem?_eq_getElem (ia ▸ hk)
   ·simpa [hu] using h1 k _ hu
   ·simp [World.cell?,bh,hu]
   ·simpa [hu] using aR k _ y J az (ay k _ _ J hu) (λc ab=>aQ c ((k6 c).2 (.inr ⟨k,hk,ab⟩))) ρ'
 | @bl z n N p cs cs' aH aL ao _ aR =>
  intro v F bj aQ ρ'
  obtain ⟨a,jf,cap,h1,rfl,aP⟩:=bj.mG
  obtain ⟨pJ,pM,gX,hX,l0,_⟩:=h.part aH (by simp)
  rw [h1] at gX
  cases gX
  obtain ⟨a2,qK,us,bK,kc,k7,hlen,bm,ab⟩:=hX.x4
  cases kc
  have hle:n * z<=N * z:=Nat.mul_le_mul_right _ aL
  have cell:∀ k,k<cs'.length->∃ x b,(cs.take (n * z))[k]?=some x/\a=some ⟨b,0,none⟩/\w.cell? ⟨b,k,none⟩=some (us k)/\(us k).oneCell'=true/\R w I (fV w T) x (us k) (bK k)/\∀ c,bK k c->pM c:=by
   intro k hk
   rw [ao,List.length_take] at hk
   have J:cs[k]?=some cs[k]:=List.getElem?_eq_getElem (by omega)
   obtain ⟨b,r⟩:=ab k _ J
   exact ⟨_,b,by rw [List.getElem?_take,if_pos (by omega)]; exact J,r⟩
  cases a with
  | none =>
   have ly:cs'=[]:=by
    cases cs' with
    | nil=>rfl
    | cons c l=>obtain ⟨_,b,_,aJ,_⟩:=cell 0 (by simp); cases aJ
   subst ly
   obtain ⟨_,_,kc,_,_,_,rT⟩:=hX.mJ
   cases kc
   have pk:n=0:=by
    rcases Nat.eq_zero_or_pos n with bd | bd
    ·exact bd
    ·have:=rT (by omega); simp at this
   subst pk
   exact .hY λ_ h=>h
  | some ad =>
   obtain ⟨b,rfl,qT⟩:=bm ad rfl
   refine .aF (us:=us) (λ_ h=>h) (by omega) (.inr ⟨_,l0 b qT⟩) rfl (by rw [ao,List.length_take,hlen]; omega) (λk y az=>?_) (λk y az=>?_) λk y az=>?_
   all_goals
    obtain ⟨x,hT,J,kI,b3,dF,e0,lK⟩:=cell k (List.getElem?_eq_some_iff.1 az).1
    cases kI
   ·exact dF
   ·simpa using b3
   ·exact aR k x y J az e0 (λc ab=>⟨_,l0 c (lK c ab)⟩) ρ'
 | @sub z lo n N p cs cs' aH aL ao _ aR =>
  intro v F bj aQ ρ'
  obtain ⟨a,jf,cap,cI,lY,h1,rfl,F9,aP,dF⟩:=bj.vD
  obtain ⟨pJ,pM,gX,hX,l0,_⟩:=h.part aH (by simp)
  rw [h1] at gX
  cases gX
  obtain ⟨a2,qK,us,bK,kc,k7,hlen,bm,ab⟩:=hX.x4
  cases kc
  have hle:lo * z+n * z<=N * z:=by rw [<- Nat.add_mul]; exact Nat.mul_le_mul_right _ aL
  have ia:cs'.length=n * z:=by rw [ao,List.length_take,List.length_drop,hlen]; omega
  have cell:∀ k,k<cs'.length->∃ x b,((cs.drop (lo * z)).take (n * z))[k]?=some x/\a=some ⟨b,0,none⟩/\w.cell? ⟨b,lo * z+k,none⟩=some (us (lo * z+k))/\(us (lo * z+k)).oneCell'=true/\R w I (fV w T) x (us (lo * z+k)) (bK (lo * z+k))/\∀ c,bK (lo * z+k) c->pM c:=by
   intro k hk
   have J:cs[lo * z+k]?=some cs[lo * z+k]:=List.getElem?_eq_getElem (by omega)
   obtain ⟨b,r⟩:=ab _ _ J
   exact ⟨_,b,by rw [List.getElem?_take,if_pos (by omega),List.getElem?_drop]; exact J,r⟩
  by_cases pk:n=0
  ·subst pk
   have ly:cs'=[]:=List.eq_nil_of_length_eq_zero (by simpa using ia)
   subst ly
   exact .hY λ_ h=>h
  ·obtain ⟨ad,rfl,rfl⟩:=dF (by omega)
   obtain ⟨b,rfl,qT⟩:=bm ad rfl
   refine .aF (us:=λk=>us (lo * z+k)) (λ_ h=>h) F9 (.inr ⟨_,l0 b qT⟩) rfl ia (λk y az=>?_) (λk y az=>?_) λk y az=>?_
   all_goals
    obtain ⟨x,hT,J,kI,b3,E',e0,lK⟩:=cell k (List.getElem?_eq_some_iff.1 az).1
    cases kI
   ·exact E'
   ·simpa using b3
   ·exact aR k x y J az e0 (λc ab=>⟨_,l0 c (lK c ab)⟩) ρ'
 | @rows z n p cs cs' aH ao _ aR =>
  intro v F bj aQ ρ'
  obtain ⟨a,jf,cap,h1,rfl,aP⟩:=bj.mG
  obtain ⟨v0,e,us,iO,bh,hlen,nB,aJ,ay⟩:=Rows.sound (w:=w) (I:=I) (T:=T) (Fs:=Fs) (λt z q n m new aE=>h.rel t _ aE) (λp z n cs aH=>by obtain ⟨v,cO,h1,al,aP,_⟩:=h.part aH (by simp); exact ⟨v,cO,h1,al,aP⟩) (λz p n v hv=>by obtain ⟨a,cap,h1,rfl⟩:=hv; exact h1) aH
  rw [h1] at iO
  cases iO
  refine Mg bh hlen nB aJ ao λk x y u J az hu=>?_
  obtain ⟨bK,j_,fh⟩:=ay k x u J hu
  exact aR k x y J az j_ fh ρ'
 | @ptr p k z n y cs cs' aH az hk ao _ aR =>
  intro v F bj aQ ρ'
  obtain ⟨u,ad,h1,al,rfl⟩:=bj.ni
  obtain ⟨pJ,pM,gX,hX,l0,_⟩:=h.part aH (by rcases az with rfl | rfl <;> simp)
  rw [h1] at gX
  cases gX
  have cell:∀ af,af<cs'.length->∃ gH kz uO,w.cell? ⟨ad.block,k+af,none⟩=some gH/\gH.oneCell'=true/\(cs.drop k)[af]?=some kz/\R w I (fV w T) kz gH uO/\(∀ c,uO c->∃ t,Fs t c):=by
   intro af aa
   rw [ao,List.length_drop] at aa
   have f':cs[k+af]?=some cs[k+af]:=List.getElem?_eq_getElem (by omega)
   obtain ⟨b,gH,fZ,lL,l3,gW,_⟩:=hX.node az f'
   rw [al] at fZ
   cases fZ
   have gu:b7 g (p.push (k+af))=some cs[k+af]:=by rw [sm,aH]; rcases az with rfl | rfl <;> simp [aj.kids]
   by_cases hG:∃ cN gb cY m' dq,cs[k+af]=.bR cN gb cY m' dq
   ·obtain ⟨cN,gb,cY,m',dq,hG⟩:=hG
    obtain ⟨b,U',_,_,zS,_,bK,j_⟩:=hX.node az f'
    rw [hG] at j_
    exact j_.lf.elim
   ·obtain ⟨oi,D',q5,Fj,k6,_⟩:=h.part gu (λcN gb cY m' dq e=>hG ⟨_,_,_,_,_,e⟩)
    rw [wB,h1] at q5
    simp only [Option.bind_some] at q5
    rw [l3] at q5
    cases q5
    exact ⟨gH,_,D',lL,gW,by rw [List.getElem?_drop]; exact f',Fj,λc ab=>⟨_,k6 c ab⟩⟩
  obtain ⟨b,gH,fZ,_⟩:=hX.node az (List.getElem?_eq_getElem hk)
  rw [al] at fZ
  cases fZ
  have hblk:∃ t,Fs t b:=⟨_,l0 b (hX.Dt az al)⟩
  refine .bo (us:=λaf=>(w.cell? ⟨b,k+af,none⟩).getD undef) (λ_ h=>h) (.inr hblk) rfl (λaf kA ng=>?_) (λaf kA ng=>?_) λaf kA ng=>?_
  all_goals
   obtain ⟨gH,kz,uO,c1,c2,kn,c4,kF⟩:=cell af (List.getElem?_eq_some_iff.1 ng).1
  ·simpa [c1] using c2
  ·simp [c1]
  ·simpa [c1] using aR af kz kA kn ng c4 kF ρ'
end
end Go.Own
namespace Go.Own
open Go
def pD (g:aZ):List (Place × aj)->aZ
 | []=>g
 | (p,x)::l=>pD (df g p x) l
structure Nq (g g2:aZ) (all:List aj) (outs:List (Option aj)) (k:Nat) (p:Place) (x:aj):Prop where
 out:outs[k]?=some (some x)
 IY:b7 g2 p=some .dead
 arg:(∃ z n cs,all[k]?=some (.bl z p n)/\b7 g p=some (.own z n cs))\/(∃ cs,all[k]?=some (.ptr p 0)/\b7 g p=some (.obj cs))
section
variable {P:Program}{w:World}{I:br}{T:Array Value}{g:aZ}{Fs:Nat->br}
theorem N3 (h:c_ w I T g Fs) {z n:Nat}{p:Place}{cs:List aj}{v:Value}{F:br}(bj:R w I (er w T g) (.bl z p n) v F) (aH:b7 g p=some (.own z n cs)):eo w T p=some v:=by
 obtain ⟨⟨a,jf,cap,h1,rfl,aP⟩,_⟩:=bj.mG
 obtain ⟨pJ,pM,gX,hX,l0⟩:=h.part aH (by simp)
 rw [h1] at gX
 cases gX
 obtain ⟨a2,qK,kc,_⟩:=hX.mJ
 cases kc
 exact h1
theorem N2 (h:c_ w I T g Fs) {p:Place}{cs:List aj}{v:Value}{F:br}(bj:R w I (er w T g) (.ptr p 0) v F) (aH:b7 g p=some (.obj cs)):eo w T p=some v:=by
 obtain ⟨⟨u,ad,h1,al,rfl⟩,_⟩:=bj.ni
 obtain ⟨pJ,pM,gX,hX,l0⟩:=h.part aH (by simp)
 rw [h1] at gX
 cases gX
 cases hX with
 | ref J=>simp [aj.isRef] at J
 | obj=>simp only [addrOf,Option.some.injEq] at al; subst al; exact h1
theorem Uv {g:aZ}{p q:Place}{y:aj}(bN:b7 g q=some .dead) (aH:b7 g p=some .dead) (eK:p≠q):b7 (df g p y) q=some .dead:=by
 by_cases ay:q.root=p.root
 ·obtain ⟨r,pp⟩:=p
  obtain ⟨ff,r1⟩:=q
  simp only at ay
  subst ay
  have C1:pp≠r1:=λe=>eK (by rw [e])
  simp only [b7,df,if_true] at *
  cases J:g ff with
  | none=>rw [J] at aH; cases aH
  | some x =>
   rw [J] at aH bN
   simp only [Option.map_some]
   have:∀ (pp r1:List Nat) (x:aj),pp≠r1->x.at pp=some .dead->x.at r1=some .dead->(x.setAt pp y).at r1=some .dead:=by
    intro pp
    induction pp with
    | nil =>
     intro r1 x eK h1 al
     simp only [aj.at,Option.some.injEq] at h1
     subst h1
     cases r1 with
     | nil=>exact absurd rfl eK
     | cons k q=>simp [aj.at,aj.kids] at al
    | cons k pp aR =>
     intro r1 x eK h1 al
     cases r1 with
     | nil =>
      simp only [aj.at,Option.some.injEq] at al
      subst al
      simp [aj.at,aj.kids] at h1
     | cons af q =>
      simp only [aj.at] at h1 al
      cases hk:x.kids[k]? with
      | none=>rw [hk] at h1; cases h1
      | some c =>
       rw [hk] at h1
       simp only at h1
       have xM:x.setAt (k::pp) y=x.uF k (c.setAt pp y):=by simp only [aj.setAt,hk]
       rw [xM]
       have eh:k<x.kids.length:=(List.getElem?_eq_some_iff.1 hk).1
       have FY:(x.uF k (c.setAt pp y)).kids=x.kids.set k (c.setAt pp y):=by
        cases x <;> simp [aj.uF,aj.kids] at eh ⊢
       simp only [aj.at,FY]
       by_cases eP:af=k
       ·subst eP
        rw [List.getElem?_set_self eh]
        rw [hk] at al
        exact aR q c (λe=>eK (by rw [e])) h1 al
       ·rw [List.getElem?_set_ne (Ne.symm eP)]
        exact al
   exact this pp r1 x C1 aH bN
 ·rw [DO ay]; exact bN
theorem jI.pD:∀ (l:List (Place × aj)) (dZ:Nat->br) (vs:Nat->Value) {g:aZ}{Fs:Nat->br},jI w I T g Fs->(l.map (·.1)).Nodup->(∀ (af:Nat) (p:Place) (x:aj),l[af]?=some (p,x)->b7 g p=some .dead/\eo w T p=some (vs af)/\R w I (fV w T) x (vs af) (dZ af)) ->
  (∀ (af t c:Nat),af<l.length->dZ af c->¬ Fs t c)->(∀ (af c:Nat),af<l.length->dZ af c->¬ I c)->(∀ (i af c:Nat),i<l.length->af<l.length->dZ i c->dZ af c->i=af) ->
  ∃ cp,jI w I T (pD g l) cp/\∀ t c,cp t c->Fs t c\/∃ af,af<l.length/\dZ af c
 | [],_,_,g,Fs,bU,_,_,_,_,_=>⟨Fs,bU,λ_ _ h=>.inl h⟩
 | (p,x)::l,dZ,vs,g,Fs,bU,gD,ao,p8,KX,mv=>by
  obtain ⟨h1,al,aP⟩:=ao 0 p x rfl
  obtain ⟨v,cO,hv,d',dG,put⟩:=bU.part h1 (by simp)
  rw [al] at hv
  cases hv
  obtain ⟨gi,jh,zD,zE⟩:=put x (dZ 0) aP (λc ab bn=>absurd bn (p8 0 _ c (by simp) ab)) (λc ab=>KX 0 c (by simp) ab) (λt c _ ab=>p8 0 t c (by simp) ab)
  have gE:∀ t c,gi t c->Fs t c\/dZ 0 c:=by
   intro t c ab
   by_cases aE:t=p.root
   ·subst aE
    rcases (zD c).1 ab with ⟨h,_⟩ | h
    ·exact .inl h
    ·exact .inr h
   ·rw [zE t aE] at ab; exact .inl ab
  simp only [List.map_cons,List.nodup_cons] at gD
  obtain ⟨je,il,CO⟩:=jI.pD l (λaf=>dZ (af+1)) (λaf=>vs (af+1)) jh gD.2 (λaf q y aa=>by
    obtain ⟨aw,a2,a3⟩:=ao (af+1) q y (by simpa using aa)
    refine ⟨Uv aw h1 ?_,a2,a3⟩
    rintro rfl
    exact gD.1 (List.mem_map.2 ⟨(p,y),List.mem_of_getElem? aa,rfl⟩))
   (λaf t c aa ab bn=>by
    rcases gE t c bn with h | h
    ·exact p8 (af+1) t c (by simpa using aa) ab h
    ·have:=mv (af+1) 0 c (by simpa using aa) (by simp) ab h; omega)
   (λaf c aa ab=>KX (af+1) c (by simpa using aa) ab)
   (λi af c hi aa h1 al=>by have:=mv (i+1) (af+1) c (by simpa using hi) (by simpa using aa) h1 al; omega)
  refine ⟨je,il,λt c ab=>?_⟩
  rcases CO t c ab with h | ⟨af,aa,h⟩
  ·rcases gE t c h with h | h
   ·exact .inl h
   ·exact .inr ⟨0,by simp,h⟩
  ·exact .inr ⟨af+1,by simpa using aa,h⟩
end
end Go.Own
namespace Go.Own
open Go
inductive jF:aj->aj->Prop
 | refl {x:aj}:jF x x
 | Hh {z:Nat}:jF .aI (.own z 0 [])
 | q7 {x y:aj}(aL:dp x) (h:View (λ_=>none) x y):jF x y
 | own {z n:Nat}{cs cs':List aj}(ao:cs'.length=cs.length) (h:∀ (k:Nat) (x y:aj),cs[k]?=some x->cs'[k]?=some y->jF x y):jF (.own z n cs) (.own z n cs')
 | obj {cs cs':List aj}(ao:cs'.length=cs.length) (h:∀ (k:Nat) (x y:aj),cs[k]?=some x->cs'[k]?=some y->jF x y):jF (.obj cs) (.obj cs')
 | agg {cs cs':List aj}(ao:cs'.length=cs.length) (h:∀ (k:Nat) (x y:aj),cs[k]?=some x->cs'[k]?=some y->jF x y):jF (.agg cs) (.agg cs')
theorem View.up {g g':aZ}(h:∀ t x,g t=some x->g' t=some x) {x y:aj}(hv:View g x y):View g' x y:=by
 induction hv with
 | py=>exact .py
 | self h1 al aP b3 dF e0=>exact .self h1 al aP b3 dF e0
 | mp=>exact .mp
 | hN aH=>exact .hN (kE h aH)
 | agg ao _ aR=>exact .agg ao aR
 | own ao _ aR=>exact .own ao aR
 | obj ao _ aR=>exact .obj ao aR
 | ey ao _ aR=>exact .ey ao aR
 | bl aH aL ao _ aR=>exact .bl (kE h aH) aL ao aR
 | sub aH aL ao _ aR=>exact .sub (kE h aH) aL ao aR
 | ptr aH az hk ao _ aR=>exact .ptr (kE h aH) az hk ao aR
 | rows aH ao _ aR=>exact .rows (aH.mono (λaH=>kE h aH) h) ao aR
theorem vU {cs cs':List aj}(ao:cs'.length=cs.length) (aL:∀ x∈cs,dp x) (aR:∀ (k:Nat) (x y:aj),cs[k]?=some x->cs'[k]?=some y->dp x->dp y):∀ y∈cs',dp y:=by
 intro y az
 obtain ⟨k,hk⟩:=List.getElem?_of_mem az
 have eh:=(List.getElem?_eq_some_iff.1 hk).1
 have J:=List.getElem?_eq_getElem (ao ▸ eh:k<cs.length)
 exact aR k _ y J hk (aL _ (List.mem_of_getElem? J))
section
variable {w:World}{I:br}
theorem R.q7 {ρ:aj->Value->Prop}{x y:aj}{v:Value}{F:br}(bj:R w I ρ x v F) (aL:dp x) (h:View (λ_=>none) x y) (bt:∀ c,F c->¬ I c) (bg:∀ c,I c->c<w.heap.size):R w (λc=>I c\/F c) ρ y v cW:=by
 have bU:jI w I #[v] (λt=>if t=0 then some x else none) (λt c=>t=0/\F c):=by
  refine ⟨λt z bJ=>?_,λt aE c ab=>?_,λt ds c ab fu=>ab.1.trans fu.1.symm,λt c ab=>bt c ab.2,bg⟩
  ·by_cases bd:t=0
   ·subst bd
    rw [if_pos rfl] at bJ
    cases bJ
    exact ⟨v,rfl,.tree ((bj.bI aL).xi λc=>⟨λh=>⟨rfl,h⟩,λh=>h.2⟩)⟩
   ·rw [if_neg bd] at bJ; cases bJ
  ·rw [if_pos ab.1] at aE; cases aE
 have:=View.MH bU (h.up λ_ _ h=>by cases h) (bj.bI aL) (λc ab=>⟨0,rfl,ab⟩) ρ
 exact this.nn λc ab=>by
  rcases ab with h | ⟨t,_,h⟩
  ·exact .inl h
  ·exact .inr h
theorem jF.bI {x y:aj}(h:jF x y):dp x->dp y:=by
 induction h with
 | refl=>exact id
 | Hh=>exact λ_=>.own (by simp)
 | q7 aL h =>
  intro _
  have key:∀ {x y:aj},View (λ_=>none) x y->dp x->dp y:=by
   intro x y h
   induction h with
   | py=>exact λ_=>.aF (by simp)
   | self h=>exact λ_=>h
   | mp=>exact λ_=>.imp
   | hN aH=>simp [b7] at aH
   | agg ao _ aR=>intro aL; cases aL with | agg aL=>exact .agg (vU ao aL aR)
   | own ao _ aR=>intro aL; cases aL with | own aL=>exact .aF (vU ao aL aR)
   | obj ao _ aR=>intro aL; cases aL with | obj aL=>exact .bo (vU ao aL aR)
   | ey ao _ aR=>intro aL; cases aL with | ey h1 al=>exact .ey h1 (vU ao al aR)
   | bl aH=>simp [b7] at aH
   | sub aH=>simp [b7] at aH
   | ptr aH=>simp [b7] at aH
   | rows aH =>
    cases aH with
    | own aH=>simp [b7] at aH
    | bR aE=>cases aE
  exact key h aL
 | own ao _ aR=>intro aL; cases aL with | own aL=>exact .own (vU ao aL aR)
 | obj ao _ aR=>intro aL; cases aL with | obj aL=>exact .obj (vU ao aL aR)
 | agg ao _ aR=>intro aL; cases aL with | agg aL=>exact .agg (vU ao aL aR)
theorem E7 {ρ:aj->Value->Prop}{cs cs':List aj}{get:Nat->Option Value}{Fs:Nat->br}{F B:br}(ao:cs'.length=cs.length)
  (a':∀ k,k<cs.length->∃ u,get k=some u)
  (aY:∀ (af k c:Nat),af<cs.length->k<cs.length->Fs af c->Fs k c->af=k) (aJ:∀ k c,k<cs.length->Fs k c->¬ B c) (aQ:∀ c,F c↔B c\/∃ k,k<cs.length/\Fs k c)
  (aR:∀ (k:Nat) (x y:aj),cs[k]?=some x->cs'[k]?=some y->∀ u,get k=some u->∃ fO,(∀ c,fO c->Fs k c)/\R w (λc=>I c\/(Fs k c/\¬ fO c)) ρ y u fO) :
  ∃ rA:Nat->br,(∀ k c,k<cs'.length->rA k c->Fs k c)/\(∀ (k:Nat) (y:aj) (u:Value),cs'[k]?=some y->get k=some u->R w (λc=>I c\/(F c/\¬ (B c\/∃ af,af<cs'.length/\rA af c))) ρ y u (rA k)):=by
 have:∀ k,∃ G:br,k<cs.length->(∀ c,G c->Fs k c)/\∀ (y:aj) (u:Value),cs'[k]?=some y->get k=some u->R w (λc=>I c\/(Fs k c/\¬ G c)) ρ y u G:=by
  intro k
  by_cases hk:k<cs.length
  ·have J:=List.getElem?_eq_getElem hk
   have az:=List.getElem?_eq_getElem (ao ▸ hk:k<cs'.length)
   obtain ⟨u,hu⟩:=a' k hk
   obtain ⟨G,h1,al⟩:=aR k _ _ J az u hu
   refine ⟨G,λ_=>⟨h1,λy tc mF fQ=>?_⟩⟩
   rw [az] at mF; cases mF
   rw [hu] at fQ; cases fQ
   exact al
  ·exact ⟨cW,λh=>absurd h hk⟩
 obtain ⟨rA,Fg⟩:=Classical.axiomOfChoice this
 refine ⟨rA,λk c hk=>(Fg k (ao ▸ hk)).1 c,λk y u az hu=>?_⟩
 have hk:k<cs'.length:=(List.getElem?_eq_some_iff.1 az).1
 have iD:k<cs.length:=ao ▸ hk
 refine ((Fg k iD).2 y u az hu).nn λc ab=>?_
 rcases ab with h | ⟨h1,al⟩
 ·exact .inl h
 ·refine .inr ⟨(aQ c).2 (.inr ⟨k,iD,h1⟩),?_⟩
  rintro (h | ⟨af,aa,h⟩)
  ·exact aJ k c iD h1 h
  ·have tY:af<cs.length:=ao ▸ aa
   have:=aY af k c tY iD ((Fg af tY).1 c h) h1
   subst this
   exact al h
theorem R.eF {ρ:aj->Value->Prop}{x y:aj}(h:jF x y):∀ {v:Value}{F:br},R w I ρ x v F->dp x->(∀ c,F c->¬ I c)->(∀ c,I c->c<w.heap.size)->∃ fO,(∀ c,fO c->F c)/\R w (λc=>I c\/(F c/\¬ fO c)) ρ y v fO:=by
 induction h with
 | refl=>exact λbj _ _ _=>⟨_,λ_ h=>h,bj.nn λ_ h=>.inl h⟩
 | Hh =>
  intro v F bj _ _ _
  have:=bj.q8
  subst this
  refine ⟨cW,λ_ h=>h.elim,.own (e:=0) (us:=[]) (Fs:=λ_=>cW) ⟨by simp,.inl ⟨rfl,rfl⟩⟩ rfl (by simp) (by simp) (λ_ _ _ _ _ h=>h.elim) (λ_ _ _ h=>h.elim) λc=>⟨λh=>h.elim,λh=>?_⟩⟩
  rcases h with h | ⟨_,_,h⟩
  ·cases h
  ·exact h
 | q7 aL h=>exact λbj _ bt bg=>⟨cW,λ_ h=>h.elim,(bj.q7 aL h bt bg).nn λc ab=>ab.elim .inl λh=>.inr ⟨h,λh=>h⟩⟩
 | @own z n cs cs' ao _ aR =>
  intro v F bj aL bt bg
  cases bj with
  | ref J=>simp [aj.isRef] at J
  | @own _ _ _ _ e us Fs _ bh ia h1 ay aY aJ aQ =>
   cases aL with
   | own aL =>
    obtain ⟨rA,pf,zF⟩:=E7 (get:=λk=>us[k]?) (B:=λc=>v.ownBlock=some c) ao (λk hk=>⟨_,List.getElem?_eq_getElem (ia ▸ hk)⟩) aY (λk c hk ab e=>aJ k c hk ab e) aQ (λk x y J az u hu=>aR k x y J az (ay k x u J hu) (aL x (List.mem_of_getElem? J)) (λc ab=>bt c ((aQ c).2 (.inr ⟨k,(List.getElem?_eq_some_iff.1 J).1,ab⟩))) bg)
    exact ⟨_,λc ab=>(aQ c).2 (ab.imp id λ⟨k,hk,h⟩=>⟨k,ao ▸ hk,pf k c hk h⟩),
     .own bh (by rw [ao,ia]) h1 (λk y u az hu=>zF k y u az hu) (λaf k c aa hk al aP=>aY af k c (ao ▸ aa) (ao ▸ hk) (pf af c aa al) (pf k c hk aP)) (λk c hk ab=>aJ k c (ao ▸ hk) (pf k c hk ab)) (λc=>Iff.rfl)⟩
 | @obj cs cs' ao _ aR =>
  intro v F bj aL bt bg
  cases bj with
  | ref J=>simp [aj.isRef] at J
  | @obj _ b e arr Fs _ bh ia h1 ay aY aJ aQ =>
   cases aL with
   | obj aL =>
    obtain ⟨rA,pf,zF⟩:=E7 (get:=λk=>arr[k]?) (B:=λc=>c=b) ao (λk hk=>⟨_,Array.getElem?_eq_getElem (ia ▸ hk)⟩) aY (λk c hk ab e=>aJ k hk (e ▸ ab)) aQ (λk x y J az u hu=>aR k x y J az (ay k x u J hu) (aL x (List.mem_of_getElem? J)) (λc ab=>bt c ((aQ c).2 (.inr ⟨k,(List.getElem?_eq_some_iff.1 J).1,ab⟩))) bg)
    exact ⟨_,λc ab=>(aQ c).2 (ab.imp id λ⟨k,hk,h⟩=>⟨k,ao ▸ hk,pf k c hk h⟩),
     .obj bh (by rw [ao,ia]) h1 (λk y u az hu=>zF k y u az hu) (λaf k c aa hk al aP=>aY af k c (ao ▸ aa) (ao ▸ hk) (pf af c aa al) (pf k c hk aP)) (λk hk ab=>aJ k (ao ▸ hk) (pf k b hk ab)) (λc=>Iff.rfl)⟩
 | @agg cs cs' ao _ aR =>
  intro v F bj aL bt bg
  cases bj with
  | ref J=>simp [aj.isRef] at J
  | @agg _ vs Fs _ ia h1 ay aY aQ =>
   cases aL with
   | agg aL =>
    obtain ⟨rA,pf,zF⟩:=E7 (get:=λk=>vs[k]?) (B:=λ_=>False) ao (λk hk=>⟨_,Array.getElem?_eq_getElem (ia ▸ hk)⟩) aY (λk c hk ab e=>e) (λc=>(aQ c).trans ⟨.inr,λh=>h.elim (λh=>h.elim) id⟩) (λk x y J az u hu=>aR k x y J az (ay k x u J hu) (aL x (List.mem_of_getElem? J)) (λc ab=>bt c ((aQ c).2 ⟨k,(List.getElem?_eq_some_iff.1 J).1,ab⟩)) bg)
    refine ⟨λc=>∃ k,k<cs'.length/\rA k c,λc ⟨k,hk,h⟩=>(aQ c).2 ⟨k,ao ▸ hk,pf k c hk h⟩,
     .agg (Fs:=rA) (by rw [ao,ia]) h1 (λk y u az hu=>(zF k y u az hu).nn λc ab=>ab.imp id λ⟨h1,al⟩=>⟨h1,λh=>al (.inr h)⟩) (λaf k c aa hk al aP=>aY af k c (ao ▸ aa) (ao ▸ hk) (pf af c aa al) (pf k c hk aP)) (λc=>Iff.rfl)⟩
end
end Go.Own
