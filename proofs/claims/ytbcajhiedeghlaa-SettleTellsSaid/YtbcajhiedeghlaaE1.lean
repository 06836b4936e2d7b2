/-
  What is proved here: parts of the proof that the last text states: rules for walks through code, and of this program's functions what they answer. No condition of their own.
-/
import Derived.Orders
import Derived.WalkKit
namespace Go.Own
open Go
structure Place where
 root:Nat
 path:List Nat
 deriving DecidableEq,Repr
def Place.push (p:Place) (k:Nat):Place:=⟨p.root,p.path++[k]⟩
inductive aj where
 | lit (v:Value)
 | aF
 | aD (z n:Nat) (cs:List aj)
 | own (z n:Nat) (cs:List aj)
 | obj (cs:List aj)
 | agg (cs:List aj)
 | cA (cs:List aj)
 | bn (cs:List aj)
 | ptr (p:Place) (k:Nat)
 | bh (z:Nat) (p:Place) (n:Nat)
 | sub (z:Nat) (p:Place) (lo n:Nat)
 | bY (z:Nat) (p:Place) (n m:Nat) (new:List aj)
 | eB (fn:Fn) (first caps:List aj)
 | mp (p:Array MapEntry->Nat->Prop)
 | i' (p:Place)
 | imp (p:Array MapEntry->Nat->Prop)
 | dead
 deriving Inhabited
abbrev bu:=Nat->Prop
def aj.isRef:aj->Bool
 | .ptr .. | .bh .. | .sub .. | .i' ..=>true
 | _=>false
inductive R (w:World) (I:bu) (ρ:aj->Value->Prop):aj->Value->bu->Prop
 | lit {v:Value}{F:bu}(hv:v.oneCell'=true) (aQ:∀ c,¬ F c):R w I ρ (.lit v) v F
 | aF {F:bu}(aQ:∀ c,¬ F c):R w I ρ .aF (.slice none 0 0) F
 | dead {v:Value}{F:bu}(aQ:∀ c,¬ F c):R w I ρ .dead v F
 | ref {x:aj}{v:Value}{F:bu}(J:x.isRef=true) (h:ρ x v) (aQ:∀ c,¬ F c):R w I ρ x v F
 | hW {z cap:Nat}{a:Option Addr}{F:bu}(aQ:∀ c,¬ F c):R w I ρ (.aD z 0 []) (.slice a 0 cap) F
 | aD {z n cap:Nat}{cs:List aj}{ad:Addr}{us:Nat->Value}{F:bu}(aQ:∀ c,¬ F c) (k5:n<=cap) (bt:I ad.block) (aO:ad.spot=none) (aq:cs.length=n * z) (h1:∀ (k:Nat) (x:aj),cs[k]?=some x->(us k).oneCell'=true)
   (ae:∀ (k:Nat) (x:aj),cs[k]?=some x->w.cell? ⟨ad.block,ad.off+k,none⟩=some (us k)) (ax:∀ (k:Nat) (x:aj),cs[k]?=some x->R w I ρ x (us k) (λ_=>False)) :
   R w I ρ (.aD z n cs) (.slice (some ad) n cap) F
 | bn {cs:List aj}{ad:Addr}{us:Nat->Value}{F:bu}(aQ:∀ c,¬ F c) (bt:I ad.block) (aO:ad.spot=none) (h1:∀ (k:Nat) (x:aj),cs[k]?=some x->(us k).oneCell'=true)
   (ae:∀ (k:Nat) (x:aj),cs[k]?=some x->w.cell? ⟨ad.block,ad.off+k,none⟩=some (us k)) (ax:∀ (k:Nat) (x:aj),cs[k]?=some x->R w I ρ x (us k) (λ_=>False)) :
   R w I ρ (.bn cs) (.pointer (some ad)) F
 | own {z n:Nat}{cs:List aj}{v:Value}{e:TypeId}{us:List Value}{Fs:Nat->bu}{F:bu}
   (bj:w.ownsRow 0 e z v n us) (aq:cs.length=us.length) (h1:∀ (k:Nat) (u:Value),us[k]?=some u->u.oneCell'=true)
   (ax:∀ (k:Nat) (x:aj) (u:Value),cs[k]?=some x->us[k]?=some u->R w I ρ x u (Fs k))
   (aZ:∀ (af k c:Nat),af<cs.length->k<cs.length->Fs af c->Fs k c->af=k) (aJ:∀ (k c:Nat),k<cs.length->Fs k c->v.ownBlock≠some c)
   (aQ:∀ c,F c↔v.ownBlock=some c\/∃ k,k<cs.length/\Fs k c):R w I ρ (.own z n cs) v F
 | obj {cs:List aj}{b:Nat}{e:TypeId}{arr:Array Value}{Fs:Nat->bu}{F:bu}
   (bj:w.heap[b]?=some (.cells arr e (0,0))) (aq:cs.length=arr.size) (h1:∀ (k:Nat) (u:Value),arr[k]?=some u->u.oneCell'=true)
   (ax:∀ (k:Nat) (x:aj) (u:Value),cs[k]?=some x->arr[k]?=some u->R w I ρ x u (Fs k))
   (aZ:∀ (af k c:Nat),af<cs.length->k<cs.length->Fs af c->Fs k c->af=k) (aJ:∀ (k:Nat),k<cs.length->¬ Fs k b)
   (aQ:∀ c,F c↔c=b\/∃ k,k<cs.length/\Fs k c):R w I ρ (.obj cs) (.pointer (some ⟨b,0,none⟩)) F
 | agg {cs:List aj}{vs:Array Value}{Fs:Nat->bu}{F:bu}(aq:cs.length=vs.size) (h1:∀ (k:Nat) (u:Value),vs[k]?=some u->u.oneCell'=true)
   (ax:∀ (k:Nat) (x:aj) (u:Value),cs[k]?=some x->vs[k]?=some u->R w I ρ x u (Fs k))
   (aZ:∀ (af k c:Nat),af<cs.length->k<cs.length->Fs af c->Fs k c->af=k)
   (aQ:∀ c,F c↔∃ k,k<cs.length/\Fs k c):R w I ρ (.agg cs) (.agg vs) F
 | cA {cs:List aj}{vs:Array Value}{Fs:Nat->bu}{F:bu}(aq:cs.length=vs.size)
   (ax:∀ (k:Nat) (x:aj) (u:Value),cs[k]?=some x->vs[k]?=some u->R w I ρ x u (Fs k))
   (aZ:∀ (af k c:Nat),af<cs.length->k<cs.length->Fs af c->Fs k c->af=k)
   (aQ:∀ c,F c↔∃ k,k<cs.length/\Fs k c):R w I ρ (.cA cs) (.tuple vs) F
 | eB {fn:Fn}{first caps:List aj}{v1 v2:Array Value}{F:bu}(aQ:∀ c,¬ F c) (h1:first.length=v1.size) (al:caps.length=v2.size)
   (j0:∀ (k:Nat) (x:aj) (u:Value),first[k]?=some x->v1[k]?=some u->R w I ρ x u (λ_=>False))
   (iL:∀ (k:Nat) (x:aj) (u:Value),caps[k]?=some x->v2[k]?=some u->R w I ρ x u (λ_=>False)):R w I ρ (.eB fn first caps) (.func fn v1 v2) F
 | mp {p:Array MapEntry->Nat->Prop}{b:Nat}{es:Array MapEntry}{clock:Nat}{F:bu}(bj:w.heap[b]?=some (.map es clock)) (aH:p es clock) (aQ:∀ c,F c↔c=b):R w I ρ (.mp p) (.map (some b)) F
 | imp {p:Array MapEntry->Nat->Prop}{b:Nat}{es:Array MapEntry}{clock:Nat}{F:bu}(aQ:∀ c,¬ F c) (bt:I b) (bj:w.heap[b]?=some (.map es clock)) (aH:p es clock):R w I ρ (.imp p) (.map (some b)) F
theorem R.xi {w:World}{I:bu}{ρ:aj->Value->Prop}{x:aj}{v:Value}{F gg:bu}(h:R w I ρ x v F) (aQ:∀ c,F c↔gg c):R w I ρ x v gg:=by
 have:F=gg:=funext λc=>propext (aQ c);exact this ▸ h
theorem R.lt {w:World}{I:bu}{ρ:aj->Value->Prop}{x:aj}{v:Value}{F:bu}(h:R w I ρ x v F):∀ c,F c->c<w.heap.size:=by
 induction h with
 | lit _ aQ | aF aQ | dead aQ | ref _ _ aQ | hW aQ | aD aQ | bn aQ | eB aQ | imp aQ=>exact λc ae=>absurd ae (aQ c)
 | mp bj _ aQ=>exact λc ae=>by rw [(aQ c).1 ae]; exact (Array.getElem?_eq_some_iff.1 bj).1
 | own bj aq h1 ax aZ aJ aQ aR =>
  intro c ae;rcases (aQ c).1 ae with h | ⟨k,hk,h⟩
  ·exact (bj.lt c h).2
  ·exact aR k _ _ (List.getElem?_eq_getElem hk) (List.getElem?_eq_getElem (aq ▸ hk)) c h
 | obj bj aq h1 ax aZ aJ aQ aR =>
  intro c ae;rcases (aQ c).1 ae with rfl | ⟨k,hk,h⟩
  ·exact (Array.getElem?_eq_some_iff.1 bj).1
  ·exact aR k _ _ (List.getElem?_eq_getElem hk) (Array.getElem?_eq_getElem (aq ▸ hk)) c h
 | agg aq h1 ax aZ aQ aR =>
  intro c ae;obtain ⟨k,hk,h⟩:=(aQ c).1 ae;exact aR k _ _ (List.getElem?_eq_getElem hk) (Array.getElem?_eq_getElem (aq ▸ hk)) c h
 | cA aq ax aZ aQ aR =>
  intro c ae;obtain ⟨k,hk,h⟩:=(aQ c).1 ae;exact aR k _ _ (List.getElem?_eq_getElem hk) (Array.getElem?_eq_getElem (aq ▸ hk)) c h
theorem uy {w w':World}{e:TypeId}{z n:Nat}{v:Value}{us:List Value}(h:w.ownsRow 0 e z v n us) (aJ:∀ c,v.ownBlock=some c->w'.heap[c]?=w.heap[c]?):w'.ownsRow 0 e z v n us:=by
 obtain ⟨h1,al⟩:=h;refine ⟨h1,?_⟩;rcases al with al | ⟨g,cap,cur,rfl,bb,ca,rest⟩
 ·exact .inl al
 ·exact .inr ⟨g,cap,cur,rfl,bb,by rw [aJ g rfl]; exact ca,rest⟩
theorem R.frame {w w':World}{I I':bu}{ρ ρ':aj->Value->Prop}{x:aj}{v:Value}{F:bu}(h:R w I ρ x v F)
  (bt:∀ c,I c->w'.heap[c]?=w.heap[c]?) (oE:∀ c,I c->I' c) (lx:∀ x v,ρ x v->ρ' x v) :
  (∀ c,F c->w'.heap[c]?=w.heap[c]?)->R w' I' ρ' x v F:=by
 induction h with
 | lit hv aQ=>exact λ_=>.lit hv aQ
 | aF aQ=>exact λ_=>.aF aQ
 | dead aQ=>exact λ_=>.dead aQ
 | ref J h aQ=>exact λ_=>.ref J (lx _ _ h) aQ
 | hW aQ=>exact λ_=>.hW aQ
 | aD aQ k5 hi aO aq h1 ae ax aR =>
  exact λ_=>.aD aQ k5 (oE _ hi) aO aq h1 (λk x hk=>(World.cell?_of_block (a:=⟨_,_,none⟩) (bt _ hi)).trans (ae k x hk)) λk x hk=>aR k x hk (λc ae=>ae.elim)
 | bn aQ hi aO h1 ae ax aR =>
  exact λ_=>.bn aQ (oE _ hi) aO h1 (λk x hk=>(World.cell?_of_block (a:=⟨_,_,none⟩) (bt _ hi)).trans (ae k x hk)) λk x hk=>aR k x hk (λc ae=>ae.elim)
 | own bj aq h1 ax aZ aJ aQ aR =>
  intro bp;refine .own (uy bj λc ae=>bp c ((aQ c).2 (.inl ae))) aq h1 (λk x u J hu=>aR k x u J hu λc ae=>bp c ((aQ c).2 (.inr ⟨k,?_,ae⟩))) aZ aJ aQ;exact (List.getElem?_eq_some_iff.1 J).1
 | obj bj aq h1 ax aZ aJ aQ aR =>
  intro bp;refine .obj ((bp _ ((aQ _).2 (.inl rfl))).trans bj) aq h1 (λk x u J hu=>aR k x u J hu λc ae=>bp c ((aQ c).2 (.inr ⟨k,?_,ae⟩))) aZ aJ aQ;exact (List.getElem?_eq_some_iff.1 J).1
 | agg aq h1 ax aZ aQ aR =>
  intro bp;refine .agg aq h1 (λk x u J hu=>aR k x u J hu λc ae=>bp c ((aQ c).2 ⟨k,?_,ae⟩)) aZ aQ;exact (List.getElem?_eq_some_iff.1 J).1
 | cA aq ax aZ aQ aR =>
  intro bp;refine .cA aq (λk x u J hu=>aR k x u J hu λc ae=>bp c ((aQ c).2 ⟨k,?_,ae⟩)) aZ aQ;exact (List.getElem?_eq_some_iff.1 J).1
 | imp aQ hi bj aH=>exact λ_=>.imp aQ (oE _ hi) ((bt _ hi).trans bj) aH
 | mp bj aH aQ=>exact λbp=>.mp ((bp _ ((aQ _).2 rfl)).trans bj) aH aQ
 | eB aQ h1 al j0 iL gD gx=>exact λ_=>.eB aQ h1 al (λk x u J hu=>gD k x u J hu λc ae=>ae.elim) (λk x u J hu=>gx k x u J hu λc ae=>ae.elim)
def aj.kids:aj->List aj
 | .own _ _ cs=>cs
 | .obj cs=>cs
 | .agg cs=>cs
 | .cA cs=>cs
 | _=>[]
def aj.uO (x:aj) (k:Nat) (y:aj):aj :=
 match x with
 | .own z n cs=>.own z n (cs.set k y)
 | .obj cs=>.obj (cs.set k y)
 | .agg cs=>.agg (cs.set k y)
 | .cA cs=>.cA (cs.set k y)
 | x=>x
def aj.at:aj->List Nat->Option aj
 | x,[]=>some x
 | x,k::p =>
  match x.kids[k]? with
  | some c=>c.at p
  | none=>none
def aj.setAt:aj->List Nat->aj->aj
 | _,[],y=>y
 | x,k::p,y =>
  match x.kids[k]? with
  | some c=>x.uO k (c.setAt p y)
  | none=>x
def child (w:World) (v:Value) (k:Nat):Option Value :=
 match v with
 | .agg cs=>cs[k]?
 | .tuple cs=>cs[k]?
 | .slice (some a) _ _=>w.cell? ⟨a.block,a.off+k,none⟩
 | .pointer (some a)=>w.cell? ⟨a.block,a.off+k,none⟩
 | _=>none
def walk (w:World):Value->List Nat->Option Value
 | v,[]=>some v
 | v,k::p =>
  match child w v k with
  | some u=>walk w u p
  | none=>none
theorem ob {w:World}{e:TypeId}{z n:Nat}{v:Value}{us:List Value}(h:w.ownsRow 0 e z v n us) {k:Nat}{u:Value}(hu:us[k]?=some u):child w v k=some u:=by
 obtain ⟨h1,al⟩:=h;rcases al with ⟨rfl,rfl⟩ | ⟨g,cap,cur,rfl,bb,ca,aP,ae,aO,aG⟩
 ·simp at h1; subst h1; simp at hu
 ·rw [<- aG] at hu;rw [List.getElem?_take] at hu
  split at hu
  ·simpa [child,World.cell?,ca] using hu
  ·cases hu
theorem Vj {α:Type}{l:List α}{k af:Nat}{y x:α}(h:(l.set k y)[af]?=some x):(af=k/\x=y/\k<l.length)\/(af≠k/\l[af]?=some x):=by
 by_cases eS:af=k
 ·subst eS;by_cases bg:af<l.length
  ·rw [List.getElem?_set_self bg] at h; exact .inl ⟨rfl,(Option.some.inj h).symm,bg⟩
  ·rw [List.set_eq_of_length_le (by omega)] at h; rw [List.getElem?_eq_none (by omega)] at h; cases h
 ·rw [List.getElem?_set_ne (Ne.symm eS)] at h; exact .inr ⟨eS,h⟩
structure Out (w w':World) (I I':bu) (ρ ρ':aj->Value->Prop) (F cR:bu):Prop where
 aD:∀ c,I c->w'.heap[c]?=w.heap[c]?
 rest:∀ c,F c->¬ cR c->w'.heap[c]?=w.heap[c]?
 more:∀ c,I c->I' c
 ref:∀ x v,ρ x v->ρ' x v
theorem Out.mono {w w':World}{I I':bu}{ρ ρ':aj->Value->Prop}{F cR gg jv:bu}(h:Out w w' I I' ρ ρ' F cR) (h1:∀ c,gg c->F c) (al:∀ c,gg c->¬ jv c->¬ cR c):Out w w' I I' ρ ρ' gg jv :=
 ⟨h.aD,λc ae aP=>h.rest c (h1 c ae) (al c ae aP),h.more,h.ref⟩
theorem R.outside {w w':World}{I I':bu}{ρ ρ':aj->Value->Prop}{F cR:bu}(o:Out w w' I I' ρ ρ' F cR) {x:aj}{v:Value}{G:bu}(h:R w I ρ x v G) (eD:∀ c,G c->F c/\¬ cR c):R w' I' ρ' x v G :=
 h.frame o.aD o.more o.ref λc ae=>o.rest c (eD c ae).1 (eD c ae).2
theorem Dq {w w':World}{I I':bu}{ρ ρ':aj->Value->Prop}{cs:List aj}{get:Nat->Option Value}{Fs:Nat->bu}{F cR:bu}
  (ax:∀ (k:Nat) (x:aj) (u:Value),cs[k]?=some x->get k=some u->R w I ρ x u (Fs k))
  (aZ:∀ (af k c:Nat),af<cs.length->k<cs.length->Fs af c->Fs k c->af=k)
  (aQ:∀ k c,k<cs.length->Fs k c->F c) {k:Nat}(hk:k<cs.length) (aA:∀ c,cR c->Fs k c) (o:Out w w' I I' ρ ρ' F cR)
  {y:aj}{u:Value}{bR:bu}(hu:get k=some u) (bm:R w' I' ρ' y u bR) (fj:∀ c,bR c↔(Fs k c/\¬ cR c)\/(bR c/\¬ (F c/\¬ cR c))) :
  (∀ (af:Nat) (x:aj) (u:Value),(cs.set k y)[af]?=some x->get af=some u->R w' I' ρ' x u (if af=k then bR else Fs af)) /\
  (∀ (i af c:Nat),i<(cs.set k y).length->af<(cs.set k y).length->(if i=k then bR else Fs i) c->(if af=k then bR else Fs af) c->i=af):=by
 constructor
 ·intro af x td J fP;rcases Vj J with ⟨rfl,rfl,bg⟩ | ⟨eL,J⟩
  ·rw [if_pos rfl]; rw [hu] at fP; cases fP; exact bm
  ·rw [if_neg eL];have aa:af<cs.length:=(List.getElem?_eq_some_iff.1 J).1;exact (ax af x td J fP).outside o λc ae=>⟨aQ af c aa ae,λeM=>eL (aZ af k c aa hk ae (aA c eM))⟩
 ·intro i af c hi aa h1 al;rw [List.length_set] at hi aa;by_cases t_:i=k <;> by_cases eS:af=k
  ·exact t_.trans eS.symm
  ·rw [if_pos t_] at h1; rw [if_neg eS] at al;exfalso;have eM:¬ cR c:=λh=>eS (aZ af k c aa hk al (aA c h));rcases (fj c).1 h1 with ⟨h,_⟩ | ⟨_,h⟩
   ·exact eS (aZ af k c aa hk al h)
   ·exact h ⟨aQ af c aa al,eM⟩
  ·rw [if_neg t_] at h1; rw [if_pos eS] at al;exfalso;have eM:¬ cR c:=λh=>t_ (aZ i k c hi hk h1 (aA c h));rcases (fj c).1 al with ⟨h,_⟩ | ⟨_,h⟩
   ·exact t_ (aZ i k c hi hk h1 h)
   ·exact h ⟨aQ i c hi h1,eM⟩
  ·rw [if_neg t_] at h1; rw [if_neg eS] at al;exact aZ i af c hi aa h1 al
theorem Dr {m:Nat}{Fs:Nat->bu}{bR cR jv:bu}{k:Nat}(hk:k<m)
  (aZ:∀ (af k c:Nat),af<m->k<m->Fs af c->Fs k c->af=k) (aA:∀ c,cR c->Fs k c) (fj:∀ c,bR c↔(Fs k c/\¬ cR c)\/jv c) (c:Nat) :
  (∃ af,af<m/\(if af=k then bR else Fs af) c)↔((∃ af,af<m/\Fs af c)/\¬ cR c)\/jv c:=by
 constructor
 ·rintro ⟨af,aa,h⟩;by_cases eS:af=k
  ·rw [if_pos eS] at h;rcases (fj c).1 h with ⟨h1,al⟩ | h1
   ·exact .inl ⟨⟨k,hk,h1⟩,al⟩
   ·exact .inr h1
  ·rw [if_neg eS] at h;exact .inl ⟨⟨af,aa,h⟩,λeM=>eS (aZ af k c aa hk h (aA c eM))⟩
 ·rintro (⟨⟨af,aa,h⟩,aP⟩ | h)
  ·by_cases eS:af=k
   ·subst eS; exact ⟨af,aa,by rw [if_pos rfl]; exact (fj c).2 (.inl ⟨h,aP⟩)⟩
   ·exact ⟨af,aa,by rw [if_neg eS]; exact h⟩
  ·exact ⟨k,hk,by rw [if_pos rfl]; exact (fj c).2 (.inr h)⟩
theorem R.o3 {w w':World}{I:bu}{ρ:aj->Value->Prop}:∀ (r:List Nat) {x:aj}{v:Value}{F:bu}{y:aj},R w I ρ x v F->x.at r=some y ->
  (∀ c,F c->w'.heap[c]?=w.heap[c]?)->walk w' v r=walk w v r
 | [],_,_,_,_,_,_,_=>rfl
 | k::p,x,v,F,y,h,ga,bp=>by
  simp only [aj.at] at ga;cases hA:x.kids[k]? with
  | none=>rw [hA] at ga; cases ga
  | some rG =>
   rw [hA] at ga;simp only at ga;cases h with
   | @own z n cs _ e us Fs _ bj aq h1 ax aZ aJ aQ =>
    simp only [aj.kids] at hA;have hk:k<cs.length:=(List.getElem?_eq_some_iff.1 hA).1;have hu:us[k]?=some us[k]:=List.getElem?_eq_getElem (aq ▸ hk);have mA:=uy (w':=w') bj λc ae=>bp c ((aQ c).2 (.inl ae));have:=R.o3 (w':=w') p (ax k rG _ hA hu) ga λc ae=>bp c ((aQ c).2 (.inr ⟨k,hk,ae⟩));simp [walk,ob bj hu,ob mA hu,this]
   | @obj cs b e arr Fs _ bj aq h1 ax aZ aJ aQ =>
    simp only [aj.kids] at hA;have hk:k<cs.length:=(List.getElem?_eq_some_iff.1 hA).1;have hu:arr[k]?=some arr[k]:=Array.getElem?_eq_getElem (aq ▸ hk);have mA:=(bp b ((aQ b).2 (.inl rfl))).trans bj;have:=R.o3 (w':=w') p (ax k rG _ hA hu) ga λc ae=>bp c ((aQ c).2 (.inr ⟨k,hk,ae⟩));simp [walk,child,World.cell?,bj,mA,hu,this]
   | @agg cs vs Fs _ aq h1 ax aZ aQ =>
    simp only [aj.kids] at hA;have hk:k<cs.length:=(List.getElem?_eq_some_iff.1 hA).1;have hu:vs[k]?=some vs[k]:=Array.getElem?_eq_getElem (aq ▸ hk);have:=R.o3 (w':=w') p (ax k rG _ hA hu) ga λc ae=>bp c ((aQ c).2 ⟨k,hk,ae⟩);simp [walk,child,hu,this]
   | @cA cs vs Fs _ aq ax aZ aQ =>
    simp only [aj.kids] at hA;have hk:k<cs.length:=(List.getElem?_eq_some_iff.1 hA).1;have hu:vs[k]?=some vs[k]:=Array.getElem?_eq_getElem (aq ▸ hk);have:=R.o3 (w':=w') p (ax k rG _ hA hu) ga λc ae=>bp c ((aQ c).2 ⟨k,hk,ae⟩);simp [walk,child,hu,this]
   | ref J _ _=>cases x <;> simp [aj.isRef,aj.kids] at J hA
   | _=>simp [aj.kids] at hA
theorem R.focus {w:World}{I:bu}{ρ:aj->Value->Prop}:∀ (q:List Nat) {x:aj}{v:Value}{F:bu}{y:aj},R w I ρ x v F->x.at q=some y ->
  ∃ iG cR,walk w v q=some iG/\R w I ρ y iG cR/\(∀ c,cR c->F c) /\
   (∀ (w':World),(∀ c,F c->¬ cR c->w'.heap[c]?=w.heap[c]?)->walk w' v q=some iG/\∀ r ti,x.at r=some ti->(∃ fg,r=q++fg)\/walk w' v r=walk w v r) /\
   ∀ (w':World) (I':bu) (ρ':aj->Value->Prop) (y':aj) (jv:bu),Out w w' I I' ρ ρ' F cR->R w' I' ρ' y' iG jv->(∀ c,jv c->F c->cR c) ->
    ∃ gg,R w' I' ρ' (x.setAt q y') v gg/\∀ c,gg c↔(F c/\¬ cR c)\/jv c
 | [],x,v,F,y,h,ga=>by
  simp only [aj.at,Option.some.injEq] at ga;subst ga;exact ⟨v,F,rfl,h,λ_ h=>h,λ_ _=>⟨rfl,λr _ _=>.inl ⟨r,rfl⟩⟩,λw' I' ρ' y' jv _ bm _=>⟨jv,bm,λc=>by simp⟩⟩
 | k::p,x,v,F,y,h,ga=>by
  simp only [aj.at] at ga;cases hA:x.kids[k]? with
  | none=>rw [hA] at ga; cases ga
  | some rG =>
   rw [hA] at ga;simp only at ga;have uf:∀ y',x.setAt (k::p) y'=x.uO k (rG.setAt p y'):=λy'=>by simp [aj.setAt,hA]
   cases h with
   | @own z n cs _ e us Fs _ bj aq h1 ax aZ aJ aQ =>
    simp only [aj.kids] at hA;have hk:k<cs.length:=(List.getElem?_eq_some_iff.1 hA).1;have hu:us[k]?=some us[k]:=List.getElem?_eq_getElem (aq ▸ hk);obtain ⟨iG,cR,hw,eb,dS,gj,kO⟩:=R.focus p (ax k rG _ hA hu) ga;refine ⟨iG,cR,by simp [walk,ob bj hu,hw],eb,λc ae=>(aQ c).2 (.inr ⟨k,hk,dS c ae⟩),?_,?_⟩
    ·intro w' aO;have oK:∀ af c,af<cs.length->Fs af c->¬ cR c->w'.heap[c]?=w.heap[c]?:=λaf c aa ae aP=>aO c ((aQ c).2 (.inr ⟨af,aa,ae⟩)) aP;obtain ⟨jH,iw⟩:=gj w' λc ae aP=>oK k c hk ae aP;have mA:=uy (w':=w') bj λc ae=>aO c ((aQ c).2 (.inl ae)) λeM=>aJ k c hk (dS c eM) ae;refine ⟨by simp [walk,ob mA hu,jH],?_⟩;intro r ti e2;cases r with
     | nil=>exact .inr rfl
     | cons af r =>
      simp only [aj.at,aj.kids] at e2;cases aa:cs[af]? with
      | none=>rw [aa] at e2; cases e2
      | some vc =>
       rw [aa] at e2;simp only at e2;have fp:af<cs.length:=(List.getElem?_eq_some_iff.1 aa).1;have qd:us[af]?=some us[af]:=List.getElem?_eq_getElem (aq ▸ fp);by_cases eS:af=k
       ·subst eS;rw [hA] at aa;cases aa;rcases iw r ti e2 with ⟨fg,rfl⟩ | h
        ·exact .inl ⟨fg,rfl⟩
        ·exact .inr (by simp [walk,ob bj hu,ob mA hu,h])
       ·have h:=R.o3 (w':=w') r (ax af vc _ aa qd) e2 λc ae=>oK af c fp ae λeM=>eS (aZ af k c fp hk ae (dS c eM));exact .inr (by simp [walk,ob bj qd,ob mA qd,h])
    intro w' I' ρ' y' jv o jC mv;have jB:∀ af c,af<cs.length->Fs af c->F c:=λaf c aa ae=>(aQ c).2 (.inr ⟨af,aa,ae⟩);obtain ⟨bR,ka,fj⟩:=kO w' I' ρ' y' jv (o.mono (λc ae=>jB k c hk ae) λc _ h=>h) jC λc ae n2=>mv c ae (jB k c hk n2);obtain ⟨e2,n1⟩:=Dq (get:=λaf=>us[af]?) ax aZ jB hk dS o hu ka λc=>by
     constructor
     ·intro h;rcases (fj c).1 h with h1 | h1
      ·exact .inl h1
      ·exact .inr ⟨h,λ⟨al,aS⟩=>aS (mv c h1 al)⟩
     ·rintro (h1 | ⟨h1,_⟩)
      ·exact (fj c).2 (.inl h1)
      ·exact h1
    rw [uf];refine ⟨_,.own (Fs:=λaf=>if af=k then bR else Fs af) (uy bj λc ae=>o.rest c ((aQ c).2 (.inl ae)) λeM=>aJ k c hk (dS c eM) ae) (by simpa using aq) h1 e2 n1 ?_ (λc=>Iff.rfl),λc=>?_⟩
    ·intro af c aa ae ui;rw [List.length_set] at aa;by_cases eS:af=k
     ·rw [if_pos eS] at ae;rcases (fj c).1 ae with ⟨h1,_⟩ | h1
      ·exact aJ k c hk h1 ui
      ·exact aJ k c hk (dS c (mv c h1 ((aQ c).2 (.inl ui)))) ui
     ·rw [if_neg eS] at ae; exact aJ af c aa ae ui
    ·have hu:=Dr hk aZ dS fj c;simp only [List.length_set];rw [hu,aQ c];have hc:v.ownBlock=some c->¬ cR c:=λh1 al=>aJ k c hk (dS c al) h1;constructor
     ·rintro (h1 | ⟨h1,al⟩ | h1)
      ·exact .inl ⟨.inl h1,hc h1⟩
      ·exact .inl ⟨.inr h1,al⟩
      ·exact .inr h1
     ·rintro (⟨h1 | h1,al⟩ | h1)
      ·exact .inl h1
      ·exact .inr (.inl ⟨h1,al⟩)
      ·exact .inr (.inr h1)
   | @obj cs b e arr Fs _ bj aq h1 ax aZ aJ aQ =>
    simp only [aj.kids] at hA;have hk:k<cs.length:=(List.getElem?_eq_some_iff.1 hA).1;have hu:arr[k]?=some arr[k]:=Array.getElem?_eq_getElem (aq ▸ hk);obtain ⟨iG,cR,hw,eb,dS,gj,kO⟩:=R.focus p (ax k rG _ hA hu) ga;refine ⟨iG,cR,by simp [walk,child,World.cell?,bj,hu,hw],eb,λc ae=>(aQ c).2 (.inr ⟨k,hk,dS c ae⟩),?_,?_⟩
    ·intro w' aO;have oK:∀ af c,af<cs.length->Fs af c->¬ cR c->w'.heap[c]?=w.heap[c]?:=λaf c aa ae aP=>aO c ((aQ c).2 (.inr ⟨af,aa,ae⟩)) aP;obtain ⟨jH,iw⟩:=gj w' λc ae aP=>oK k c hk ae aP;have mA:=(aO b ((aQ b).2 (.inl rfl)) λeM=>aJ k hk (dS b eM)).trans bj;refine ⟨by simp [walk,child,World.cell?,mA,hu,jH],?_⟩;intro r ti e2;cases r with
     | nil=>exact .inr rfl
     | cons af r =>
      simp only [aj.at,aj.kids] at e2;cases aa:cs[af]? with
      | none=>rw [aa] at e2; cases e2
      | some vc =>
       rw [aa] at e2;simp only at e2;have fp:af<cs.length:=(List.getElem?_eq_some_iff.1 aa).1;have qd:arr[af]?=some arr[af]:=Array.getElem?_eq_getElem (aq ▸ fp);by_cases eS:af=k
       ·subst eS;rw [hA] at aa;cases aa;rcases iw r ti e2 with ⟨fg,rfl⟩ | h
        ·exact .inl ⟨fg,rfl⟩
        ·exact .inr (by simp [walk,child,World.cell?,bj,mA,hu,h])
       ·have h:=R.o3 (w':=w') r (ax af vc _ aa qd) e2 λc ae=>oK af c fp ae λeM=>eS (aZ af k c fp hk ae (dS c eM));exact .inr (by simp [walk,child,World.cell?,bj,mA,qd,h])
    intro w' I' ρ' y' jv o jC mv;have jB:∀ af c,af<cs.length->Fs af c->F c:=λaf c aa ae=>(aQ c).2 (.inr ⟨af,aa,ae⟩);obtain ⟨bR,ka,fj⟩:=kO w' I' ρ' y' jv (o.mono (λc ae=>jB k c hk ae) λc _ h=>h) jC λc ae n2=>mv c ae (jB k c hk n2);obtain ⟨e2,n1⟩:=Dq (get:=λaf=>arr[af]?) ax aZ jB hk dS o hu ka λc=>by
     constructor
     ·intro h;rcases (fj c).1 h with h1 | h1
      ·exact .inl h1
      ·exact .inr ⟨h,λ⟨al,aS⟩=>aS (mv c h1 al)⟩
     ·rintro (h1 | ⟨h1,_⟩)
      ·exact (fj c).2 (.inl h1)
      ·exact h1
    rw [uf];have n0:F b:=(aQ b).2 (.inl rfl);have F6:¬ cR b:=λh=>aJ k hk (dS b h);refine ⟨_,.obj (Fs:=λaf=>if af=k then bR else Fs af) ((o.rest b n0 F6).trans bj) (by simpa using aq) h1 e2 n1 ?_ (λc=>Iff.rfl),λc=>?_⟩
    ·intro af aa ae;rw [List.length_set] at aa;by_cases eS:af=k
     ·rw [if_pos eS] at ae;rcases (fj b).1 ae with ⟨h1,_⟩ | h1
      ·exact aJ k hk h1
      ·exact F6 (mv b h1 n0)
     ·rw [if_neg eS] at ae; exact aJ af aa ae
    ·have hu:=Dr hk aZ dS fj c;simp only [List.length_set];rw [hu,aQ c];constructor
     ·rintro (rfl | ⟨h1,al⟩ | h1)
      ·exact .inl ⟨.inl rfl,F6⟩
      ·exact .inl ⟨.inr h1,al⟩
      ·exact .inr h1
     ·rintro (⟨h1 | h1,al⟩ | h1)
      ·exact .inl h1
      ·exact .inr (.inl ⟨h1,al⟩)
      ·exact .inr (.inr h1)
   | @agg cs vs Fs _ aq h1 ax aZ aQ =>
    simp only [aj.kids] at hA;have hk:k<cs.length:=(List.getElem?_eq_some_iff.1 hA).1;have hu:vs[k]?=some vs[k]:=Array.getElem?_eq_getElem (aq ▸ hk);obtain ⟨iG,cR,hw,eb,dS,gj,kO⟩:=R.focus p (ax k rG _ hA hu) ga;refine ⟨iG,cR,by simp [walk,child,hu,hw],eb,λc ae=>(aQ c).2 ⟨k,hk,dS c ae⟩,?_,?_⟩
    ·intro w' aO;have oK:∀ af c,af<cs.length->Fs af c->¬ cR c->w'.heap[c]?=w.heap[c]?:=λaf c aa ae aP=>aO c ((aQ c).2 ⟨af,aa,ae⟩) aP;obtain ⟨jH,iw⟩:=gj w' λc ae aP=>oK k c hk ae aP
     
     refine ⟨by simp [walk,child,hu,jH],?_⟩;intro r ti e2;cases r with
     | nil=>exact .inr rfl
     | cons af r =>
      simp only [aj.at,aj.kids] at e2;cases aa:cs[af]? with
      | none=>rw [aa] at e2; cases e2
      | some vc =>
       rw [aa] at e2;simp only at e2;have fp:af<cs.length:=(List.getElem?_eq_some_iff.1 aa).1;have qd:vs[af]?=some vs[af]:=Array.getElem?_eq_getElem (aq ▸ fp);by_cases eS:af=k
       ·subst eS;rw [hA] at aa;cases aa;rcases iw r ti e2 with ⟨fg,rfl⟩ | h
        ·exact .inl ⟨fg,rfl⟩
        ·exact .inr (by simp [walk,child,hu,h])
       ·have h:=R.o3 (w':=w') r (ax af vc _ aa qd) e2 λc ae=>oK af c fp ae λeM=>eS (aZ af k c fp hk ae (dS c eM));exact .inr (by simp [walk,child,qd,h])
    intro w' I' ρ' y' jv o jC mv;have jB:∀ af c,af<cs.length->Fs af c->F c:=λaf c aa ae=>(aQ c).2 ⟨af,aa,ae⟩;obtain ⟨bR,ka,fj⟩:=kO w' I' ρ' y' jv (o.mono (λc ae=>jB k c hk ae) λc _ h=>h) jC λc ae n2=>mv c ae (jB k c hk n2);obtain ⟨e2,n1⟩:=Dq (get:=λaf=>vs[af]?) ax aZ jB hk dS o hu ka λc=>by
     constructor
     ·intro h;rcases (fj c).1 h with h1 | h1
      ·exact .inl h1
      ·exact .inr ⟨h,λ⟨al,aS⟩=>aS (mv c h1 al)⟩
     ·rintro (h1 | ⟨h1,_⟩)
      ·exact (fj c).2 (.inl h1)
      ·exact h1
    rw [uf];refine ⟨_,.agg (Fs:=λaf=>if af=k then bR else Fs af) (by simpa using aq) h1 e2 n1 (λc=>Iff.rfl),λc=>?_⟩;have hu:=Dr hk aZ dS fj c;simp only [List.length_set];rw [hu,aQ c]
   | @cA cs vs Fs _ aq ax aZ aQ =>
    simp only [aj.kids] at hA;have hk:k<cs.length:=(List.getElem?_eq_some_iff.1 hA).1;have hu:vs[k]?=some vs[k]:=Array.getElem?_eq_getElem (aq ▸ hk);obtain ⟨iG,cR,hw,eb,dS,gj,kO⟩:=R.focus p (ax k rG _ hA hu) ga;refine ⟨iG,cR,by simp [walk,child,hu,hw],eb,λc ae=>(aQ c).2 ⟨k,hk,dS c ae⟩,?_,?_⟩
    ·intro w' aO;have oK:∀ af c,af<cs.length->Fs af c->¬ cR c->w'.heap[c]?=w.heap[c]?:=λaf c aa ae aP=>aO c ((aQ c).2 ⟨af,aa,ae⟩) aP;obtain ⟨jH,iw⟩:=gj w' λc ae aP=>oK k c hk ae aP
     
     refine ⟨by simp [walk,child,hu,jH],?_⟩;intro r ti e2;cases r with
     | nil=>exact .inr rfl
     | cons af r =>
      simp only [aj.at,aj.kids] at e2;cases aa:cs[af]? with
      | none=>rw [aa] at e2; cases e2
      | some vc =>
       rw [aa] at e2;simp only at e2;have fp:af<cs.length:=(List.getElem?_eq_some_iff.1 aa).1;have qd:vs[af]?=some vs[af]:=Array.getElem?_eq_getElem (aq ▸ fp);by_cases eS:af=k
       ·subst eS;rw [hA] at aa;cases aa;rcases iw r ti e2 with ⟨fg,rfl⟩ | h
        ·exact .inl ⟨fg,rfl⟩
        ·exact .inr (by simp [walk,child,hu,h])
       ·have h:=R.o3 (w':=w') r (ax af vc _ aa qd) e2 λc ae=>oK af c fp ae λeM=>eS (aZ af k c fp hk ae (dS c eM));exact .inr (by simp [walk,child,qd,h])
    intro w' I' ρ' y' jv o jC mv;have jB:∀ af c,af<cs.length->Fs af c->F c:=λaf c aa ae=>(aQ c).2 ⟨af,aa,ae⟩;obtain ⟨bR,ka,fj⟩:=kO w' I' ρ' y' jv (o.mono (λc ae=>jB k c hk ae) λc _ h=>h) jC λc ae n2=>mv c ae (jB k c hk n2);obtain ⟨e2,n1⟩:=Dq (get:=λaf=>vs[af]?) ax aZ jB hk dS o hu ka λc=>by
     constructor
     ·intro h;rcases (fj c).1 h with h1 | h1
      ·exact .inl h1
      ·exact .inr ⟨h,λ⟨al,aS⟩=>aS (mv c h1 al)⟩
     ·rintro (h1 | ⟨h1,_⟩)
      ·exact (fj c).2 (.inl h1)
      ·exact h1
    rw [uf];refine ⟨_,.cA (Fs:=λaf=>if af=k then bR else Fs af) (by simpa using aq) e2 n1 (λc=>Iff.rfl),λc=>?_⟩;have hu:=Dr hk aZ dS fj c;simp only [List.length_set];rw [hu,aQ c]
   | ref J _ _=>cases x <;> simp [aj.isRef,aj.kids] at J hA
   | _=>simp [aj.kids] at hA
end Go.Own
namespace Go.Own
open Go
abbrev a7:=Nat->Option aj
def cd (g:a7) (p:Place):Option aj :=
 match g p.root with
 | some x=>x.at p.path
 | none=>none
def eI (w:World) (T:Array Value) (p:Place):Option Value :=
 match T[p.root]? with
 | some v=>walk w v p.path
 | none=>none
def addrOf:Value->Option Addr
 | .slice (some a) _ _=>some a
 | .pointer (some a)=>some a
 | _=>none
def gr (w:World) (T:Array Value):aj->Value->Prop
 | .ptr p k,v=>∃ u a,eI w T p=some u/\addrOf u=some a/\v=.pointer (some ⟨a.block,a.off+k,none⟩)
 | .bh _ p n,v=>∃ a N cap,eI w T p=some (.slice a N cap)/\v=.slice a n cap/\n<=N
 | .sub z p lo n,v=>∃ a N cap cJ l0,eI w T p=some (.slice a N cap)/\v=.slice cJ n l0/\n<=l0/\lo+n<=N/\(0<n->∃ ad,a=some ad/\cJ=some ⟨ad.block,ad.off+lo * z,none⟩)
 | .bY _ p n _ _,v=>∃ a cap,eI w T p=some (.slice a n cap)/\v=.slice a n cap
 | .i' p,v=>∃ b,eI w T p=some (.map b)/\v=.map b
 | _,_=>False
def hq (g:a7):aj->Prop
 | .ptr p k=>∃ y,cd g p=some y/\(∃ z n cs,(y=.own z n cs\/y=.obj cs)/\k<cs.length)
 | .bh z p n=>(∃ N cs,cd g p=some (.own z N cs)/\n<=N)\/(p.path=[]/\∃ q hB m new,g p.root=some (.bY z q hB m new)/\n=hB+m)
 | .sub z p lo n=>∃ N cs,cd g p=some (.own z N cs)/\lo+n<=N
 | .bY z p n _ _=>(∃ cs,cd g p=some (.own z n cs))\/(p.path=[]/\∃ q hB m new cs,g p.root=some (.bY z q hB m new)/\n=hB+m/\cd g q=some (.own z hB cs))
 | .i' p=>∃ q,cd g p=some (.mp q)
 | _=>False
def eG (w:World) (T:Array Value) (g:a7) (r:aj) (v:Value):Prop:=gr w T r v/\hq g r
structure Eu (w:World) (I:bu) (ρ:aj->Value->Prop) (z:Nat) (p:Place) (n m:Nat) (new:List aj) (v:Value) (F:bu) (bv:Value) (e de:TypeId) (us news:List Value):Prop where
 kp:ρ (.bY z p n 0 []) bv
 k6:w.ownsRow 0 e z bv n us
 mB:w.ownsRow 0 de z v (n+m) (us++news)
 aq:new.length=news.length
 h1:∀ (k:Nat) (u:Value),news[k]?=some u->u.oneCell'=true
 ax:∀ (k:Nat) (x:aj) (u:Value),new[k]?=some x->news[k]?=some u->R w I ρ x u (λ_=>False)
 aQ:∀ c,F c↔v.ownBlock=some c/\bv.ownBlock≠some c
inductive jM (w:World) (I:bu) (ρ:aj->Value->Prop):aj->Value->bu->Prop
 | tree {x:aj}{v:Value}{F:bu}(h:R w I ρ x v F):jM w I ρ x v F
 | bY {z n m:Nat}{p:Place}{new:List aj}{v bv:Value}{e de:TypeId}{us news:List Value}{F:bu}(h:Eu w I ρ z p n m new v F bv e de us news):jM w I ρ (.bY z p n m new) v F
theorem R.k_ {w:World}{I:bu}{ρ:aj->Value->Prop}{z n m:Nat}{p:Place}{new:List aj}{v:Value}{F:bu}(h:R w I ρ (.bY z p n m new) v F):False:=by
 cases h with
 | ref J=>simp [aj.isRef] at J
theorem jM.h9 {w:World}{I:bu}{ρ:aj->Value->Prop}{x:aj}{v:Value}{F:bu}(h:jM w I ρ x v F) (J:∀ z p n m new,x≠.bY z p n m new):R w I ρ x v F:=by
 cases h with
 | tree h=>exact h
 | bY=>exact absurd rfl (J _ _ _ _ _)
theorem jM.uo {w:World}{I:bu}{ρ:aj->Value->Prop}{z n m:Nat}{p:Place}{new:List aj}{v:Value}{F:bu}(h:jM w I ρ (.bY z p n m new) v F):∃ bv e de us news,Eu w I ρ z p n m new v F bv e de us news:=by
 cases h with
 | tree h=>exact h.k_.elim
 | bY h=>exact ⟨_,_,_,_,_,h⟩
theorem jM.lt {w:World}{I:bu}{ρ:aj->Value->Prop}{x:aj}{v:Value}{F:bu}(h:jM w I ρ x v F):∀ c,F c->c<w.heap.size:=by
 cases h with
 | tree h=>exact h.lt
 | bY h=>exact λc ae=>(h.mB.lt c ((h.aQ c).1 ae).1).2
theorem jM.frame {w w':World}{I I':bu}{ρ ρ':aj->Value->Prop}{x:aj}{v:Value}{F:bu}(h:jM w I ρ x v F)
  (bt:∀ c,I c->w'.heap[c]?=w.heap[c]?) (oE:∀ c,I c->I' c) (lx:∀ x v,ρ x v->ρ' x v)
  (di:∀ z p n bv,ρ (.bY z p n 0 []) bv->∀ c,bv.ownBlock=some c->w'.heap[c]?=w.heap[c]?)
  (bp:∀ c,F c->w'.heap[c]?=w.heap[c]?):jM w' I' ρ' x v F:=by
 cases h with
 | tree h=>exact .tree (h.frame bt oE lx bp)
 | @bY z n m p new v bv e de us news F h =>
  have aJ:=di _ _ _ _ h.kp;refine .bY ⟨lx _ _ h.kp,uy h.k6 aJ,uy h.mB λc ae=>?_,h.aq,h.h1,λk x u J hu=>(h.ax k x u J hu).frame bt oE lx λc ae=>ae.elim,h.aQ⟩;by_cases p9:bv.ownBlock=some c
  ·exact aJ c p9
  ·exact bp c ((h.aQ c).2 ⟨ae,p9⟩)
theorem aj.sj {z n m:Nat}{p:Place}{new:List aj}{q:List Nat}{y:aj}(h:(aj.bY z p n m new).at q=some y):q=[]/\y=.bY z p n m new:=by
 cases q with
 | nil=>simp [aj.at] at h; exact ⟨rfl,h.symm⟩
 | cons k q=>simp [aj.at,aj.kids] at h
structure dd (w:World) (I:bu) (T:Array Value) (g:a7) (Fs:Nat->bu):Prop where
 rel:∀ t x,g t=some x->∃ v,T[t]?=some v/\jM w I (eG w T g) x v (Fs t)
 kL:∀ t,g t=none->∀ c,¬ Fs t c
 fi:∀ t dD c,Fs t c->Fs dD c->t=dD
 aD:∀ t c,Fs t c->¬ I c
 lt:∀ c,I c->c<w.heap.size
 qj:∀ t dD z p n m new cN c5 cb ds,g t=some (.bY z p n m new)->g dD=some (.bY cN p c5 cb ds)->t=dD
section
variable {w:World}{I:bu}{T:Array Value}{g:a7}{Fs:Nat->bu}
theorem dd.part (h:dd w I T g Fs) {p:Place}{y:aj}(aH:cd g p=some y) (aA:∀ z q n m new,y≠.bY z q n m new):∃ v cR,eI w T p=some v/\R w I (eG w T g) y v cR/\(∀ c,cR c->Fs p.root c):=by
 unfold cd at aH;cases J:g p.root with
 | none=>rw [J] at aH; cases aH
 | some x =>
  rw [J] at aH;obtain ⟨v,hv,bm⟩:=h.rel _ _ J;replace bm:=bm.h9 (by
   rintro z q n m new rfl;exact aA _ _ _ _ _ (aj.sj aH).2)
  obtain ⟨iG,cR,hw,eb,dS,_⟩:=R.focus p.path bm aH;exact ⟨iG,cR,by simp [eI,hv,hw],eb,dS⟩
theorem R.pL {ρ:aj->Value->Prop}{z n:Nat}{cs:List aj}{v:Value}{F:bu}(h:R w I ρ (.own z n cs) v F):∀ c,v.ownBlock=some c->F c:=by
 cases h with
 | own bj aq h1 ax aZ aJ aQ=>exact λc ae=>(aQ c).2 (.inl ae)
 | ref J=>simp [aj.isRef] at J
theorem R.mL {ρ:aj->Value->Prop}{z n:Nat}{cs:List aj}{v:Value}{F:bu}(h:R w I ρ (.own z n cs) v F) :
  ∃ a cap,v=.slice a n cap/\n<=cap/\cs.length=n * z/\(∀ ad,a=some ad->ad.off=0/\ad.spot=none)/\(0<n->a.isSome=true):=by
 cases h with
 | own bj aq h1 ax aZ aJ aQ =>
  obtain ⟨h1,al⟩:=bj;rcases al with ⟨rfl,rfl⟩ | ⟨b,cap,cur,rfl,_,_,aP,_⟩
  ·exact ⟨none,0,rfl,Nat.le_refl _,by simp [aq,h1],by simp,by simp⟩
  ·exact ⟨_,cap,rfl,aP,by simp [aq,h1],by rintro ad ⟨⟩; exact ⟨rfl,rfl⟩,by simp⟩
 | ref J=>simp [aj.isRef] at J
theorem dd.wA (h:dd w I T g Fs) {w':World}{T':Array Value}(fO:∀ t,g t≠none->T'[t]?=T[t]?) (aQ:∀ t c,Fs t c->w'.heap[c]?=w.heap[c]?) {p:Place}{y:aj}(aH:cd g p=some y) :
  eI w' T' p=eI w T p:=by
 unfold cd at aH;cases J:g p.root with
 | none=>rw [J] at aH; cases aH
 | some x =>
  rw [J] at aH;obtain ⟨v,hv,bm⟩:=h.rel _ _ J;have jk:T'[p.root]?=some v:=by rw [fO _ (by rw [J]; simp),hv]
  cases bm with
  | tree bm =>
   have:=R.o3 (w':=w') p.path bm aH λc ae=>aQ _ c ae;simp [eI,hv,jk,this]
  | bY bm=>simp [eI,hv,jk,(aj.sj aH).1,walk]
theorem kE {g g':a7}(bb:∀ t x,g t=some x->g' t=some x) {p:Place}{y:aj}(aH:cd g p=some y):cd g' p=some y:=by
 unfold cd at *;cases J:g p.root with
 | none=>rw [J] at aH; cases aH
 | some x=>rw [J] at aH; rw [bb _ _ J]; exact aH
theorem hq.mono {g g':a7}(bb:∀ t x,g t=some x->g' t=some x) {r:aj}(h:hq g r):hq g' r:=by
 cases r <;> simp only [hq] at h ⊢
 case ptr p k=>obtain ⟨y,aA,h⟩:=h; exact ⟨y,kE bb aA,h⟩
 case bh z p n =>
  rcases h with ⟨N,cs,h1,al⟩ | ⟨bf,q,hB,m,new,h1,al⟩
  ·exact .inl ⟨N,cs,kE bb h1,al⟩
  ·exact .inr ⟨bf,q,hB,m,new,bb _ _ h1,al⟩
 case sub z p lo n=>obtain ⟨N,cs,h1,al⟩:=h; exact ⟨N,cs,kE bb h1,al⟩
 case bY z p n m new =>
  rcases h with ⟨cs,h1⟩ | ⟨bf,q,hB,cb,ds,cs,h1,al,aS⟩
  ·exact .inl ⟨cs,kE bb h1⟩
  ·exact .inr ⟨bf,q,hB,cb,ds,cs,bb _ _ h1,al,kE bb aS⟩
 case i' p=>obtain ⟨q,h⟩:=h; exact ⟨q,kE bb h⟩
theorem dd.DU (h:dd w I T g Fs) {w':World}{T':Array Value}{g':a7}(fO:∀ t,g t≠none->T'[t]?=T[t]?) (aQ:∀ t c,Fs t c->w'.heap[c]?=w.heap[c]?)
  (bb:∀ t x,g t=some x->g' t=some x) {r:aj}{v:Value}(ax:eG w T g r v):eG w' T' g' r v:=by
 obtain ⟨h1,al⟩:=ax;refine ⟨?_,al.mono bb⟩;have slot:∀ {p:Place}{x:aj},p.path=[]->g p.root=some x->eI w' T' p=eI w T p:=by
  intro p x aH J;obtain ⟨v,hv,_⟩:=h.rel _ _ J;simp [eI,aH,walk,fO p.root (by rw [J]; simp)]
 cases r <;> simp only [gr,hq] at h1 al ⊢
 case ptr p k =>
  obtain ⟨y,aA,_⟩:=al;rw [h.wA fO aQ aA]; exact h1
 case bh z p n =>
  rcases al with ⟨N,cs,al,_⟩ | ⟨bf,q,hB,m,new,al,_⟩
  ·rw [h.wA fO aQ al]; exact h1
  ·rw [slot bf al]; exact h1
 case sub z p lo n =>
  obtain ⟨N,cs,al,_⟩:=al;rw [h.wA fO aQ al]; exact h1
 case bY z p n m new =>
  rcases al with ⟨cs,al⟩ | ⟨bf,q,hB,cb,ds,cs,al,_⟩
  ·rw [h.wA fO aQ al]; exact h1
  ·rw [slot bf al]; exact h1
 case i' p =>
  obtain ⟨q,al⟩:=al;rw [h.wA fO aQ al]; exact h1
theorem dd.Cd (h:dd w I T g Fs) {z n:Nat}{p:Place}{bv:Value}(ax:eG w T g (.bY z p n 0 []) bv):∀ c,bv.ownBlock=some c->∃ t,Fs t c:=by
 obtain ⟨⟨a,cap,h1,rfl⟩,al⟩:=ax;intro c ae;have own:∀ {q:Place}{hB:Nat}{cs:List aj}{v:Value},cd g q=some (.own z hB cs)->eI w T q=some v->v.ownBlock=some c->∃ t,Fs t c:=by
  intro q hB cs v bW hv ae;obtain ⟨h0,cR,jk,bm,dS⟩:=h.part bW (by simp);rw [hv] at jk;cases jk;exact ⟨_,dS c (bm.pL c ae)⟩
 rcases al with ⟨cs,al⟩ | ⟨bf,q,hB,m,new,cs,al,rfl,aS⟩
 ·exact own al h1 ae
 ·obtain ⟨v,hv,bm⟩:=h.rel _ _ al;have qV:v=.slice a (hB+m) cap:=by
   simp only [eI,hv,bf,walk,Option.some.injEq] at h1;exact h1
  obtain ⟨JC,e,de,us,news,bm⟩:=bm.uo;by_cases cZ:JC.ownBlock=some c
  ·obtain ⟨⟨a2,qC,b7,rfl⟩,_⟩:=bm.kp;exact own aS b7 cZ
  ·exact ⟨_,(bm.aQ c).2 ⟨by rw [qV]; exact ae,cZ⟩⟩
theorem dd.frame (h:dd w I T g Fs) {w':World}{I':bu}{T':Array Value}{g':a7}(fO:∀ t,g t≠none->T'[t]?=T[t]?) (aQ:∀ t c,Fs t c->w'.heap[c]?=w.heap[c]?)
  (bt:∀ c,I c->w'.heap[c]?=w.heap[c]?) (oE:∀ c,I c->I' c) (bb:∀ t x,g t=some x->g' t=some x) {x:aj}{v:Value}{F:bu}(bm:R w I (eG w T g) x v F)
  (k4:∀ c,F c->w'.heap[c]?=w.heap[c]?):R w' I' (eG w' T' g') x v F :=
 bm.frame bt oE (λ_ _ ax=>h.DU fO aQ bb ax) k4
theorem dd.vn (h:dd w I T g Fs) {w':World}{I':bu}{T':Array Value}{g':a7}(fO:∀ t,g t≠none->T'[t]?=T[t]?) (aQ:∀ t c,Fs t c->w'.heap[c]?=w.heap[c]?)
  (bt:∀ c,I c->w'.heap[c]?=w.heap[c]?) (oE:∀ c,I c->I' c) (bb:∀ t x,g t=some x->g' t=some x) {x:aj}{v:Value}{F:bu}(bm:jM w I (eG w T g) x v F)
  (k4:∀ c,F c->w'.heap[c]?=w.heap[c]?):jM w' I' (eG w' T' g') x v F :=
 bm.frame bt oE (λ_ _ ax=>h.DU fO aQ bb ax) (λ_ _ _ _ ax c ae=>by obtain ⟨t,aG⟩:=h.Cd ax c ae; exact aQ t c aG) k4
def fc (g:a7) (d:Nat) (x:aj):a7:=λt=>if t=d then some x else g t
def te (Fs:Nat->bu) (d:Nat) (F:bu):Nat->bu:=λt=>if t=d then F else Fs t
theorem NC {d:Nat}{x:aj}(aZ:g d=none):∀ t y,g t=some y->fc g d x t=some y:=by
 intro t y aA;unfold fc;split
 ·rename_i h; subst h; rw [aZ] at aA; cases aA
 ·exact aA
end
end Go.Own
namespace Go.Own
open Go
theorem NH (w:World):∀ (p:List Nat) (v:Value) (k:Nat),walk w v (p++[k])=(walk w v p).bind λu=>child w u k
 | [],v,k=>by simp [walk]; cases child w v k <;> rfl
 | af::p,v,k=>by
  simp only [List.cons_append,walk];cases child w v af with
  | none=>rfl
  | some u=>exact NH w p u k
theorem Jw:∀ (p:List Nat) (x:aj) (k:Nat),x.at (p++[k])=(x.at p).bind λy=>y.kids[k]?
 | [],x,k=>by simp [aj.at]; cases x.kids[k]? <;> rfl
 | af::p,x,k=>by
  simp only [List.cons_append,aj.at];cases x.kids[af]? with
  | none=>rfl
  | some u=>exact Jw p u k
theorem si (g:a7) (p:Place) (k:Nat):cd g (p.push k)=(cd g p).bind λy=>y.kids[k]?:=by
 unfold cd Place.push;cases g p.root with
 | none=>rfl
 | some x=>simp [Jw]
theorem wz (w:World) (T:Array Value) (p:Place) (k:Nat):eI w T (p.push k)=(eI w T p).bind λu=>child w u k:=by
 unfold eI Place.push;cases T[p.root]? with
 | none=>rfl
 | some x=>simp [NH]
def ig:Nat->Place->aj->aj
 | _,p,.own z n _=>.bh z p n
 | _,p,.obj (_::_)=>.ptr p 0
 | _,_,.obj []=>.dead
 | _,_,.bY ..=>.dead
 | _,p,.mp _=>.i' p
 | d+1,p,.agg cs=>.agg (cs.mapIdx λi x=>ig d (p.push i) x)
 | d+1,p,.cA cs=>.cA (cs.mapIdx λi x=>ig d (p.push i) x)
 | 0,_,.agg _=>.dead
 | 0,_,.cA _=>.dead
 | _,_,x=>x
def q6 (t:Nat):aj->aj
 | .bY z _ n m _=>.bh z ⟨t,[]⟩ (n+m)
 | x=>ig 2 ⟨t,[]⟩ x
def oa:Value->aj
 | .slice none 0 0=>.aF
 | .agg _=>.dead
 | .tuple _=>.dead
 | v=>.lit v
def ofConst:Value->aj
 | .agg vs=>if vs.all Value.oneCell' then .agg (vs.toList.map oa) else .dead
 | .tuple _=>.dead
 | v=>oa v
def bT (g:a7):Operand->Option aj
 | .tmp t=>(g t).map (q6 t)
 | .const v=>some (ofConst v)
 | .func f=>some (.eB (.func f) [] [])
 | .global _=>none
abbrev c0:bu:=λ_=>False
section
variable {w:World}{I:bu}{T:Array Value}{g:a7}{Fs:Nat->bu}
theorem R.empty {ρ:aj->Value->Prop}{x:aj}{v:Value}{F:bu}(h:R w I ρ x v F) (aQ:∀ c,¬ F c):R w I ρ x v c0:=h.xi λc=>⟨λae=>aQ c ae,λae=>ae.elim⟩
theorem DT:∀ (d:Nat) {p:Place}{x:aj}{v:Value}{F:bu},cd g p=some x->eI w T p=some v->R w I (eG w T g) x v F->R w I (eG w T g) (ig d p x) v c0:=by
 intro d
 induction d with
 | zero =>
  intro p x v F aH hv bm;cases bm with
  | lit aq aQ=>exact .lit aq λ_ h=>h
  | aF aQ=>exact .aF λ_ h=>h
  | dead aQ=>exact .dead λ_ h=>h
  | ref J ax aQ=>cases x <;> simp [aj.isRef] at J <;> exact .ref rfl ax λ_ h=>h
  | mp=>exact .ref rfl ⟨⟨_,hv,rfl⟩,⟨_,aH⟩⟩ λ_ h=>h
  | imp aQ bt bj bW=>exact .imp (λ_ h=>h) bt bj bW
  | hW aQ=>exact .hW λ_ h=>h
  | aD aQ k5 bt aO aq h1 ae ax=>exact .aD (λ_ h=>h) k5 bt aO aq h1 ae ax
  | bn aQ bt aO h1 ae ax=>exact .bn (λ_ h=>h) bt aO h1 ae ax
  | own bj aq h1 ax aZ aJ aQ =>
   have GB:=R.own (I:=I) (ρ:=eG w T g) bj aq h1 ax aZ aJ aQ;obtain ⟨a,cap,rfl,aP,_⟩:=GB.mL;exact .ref rfl ⟨⟨a,_,cap,hv,rfl,Nat.le_refl _⟩,.inl ⟨_,_,aH,Nat.le_refl _⟩⟩ λ_ h=>h
  | @obj cs b e arr cB _ bj aq h1 ax aZ aJ aQ =>
   cases cs with
   | nil=>exact .dead λ_ h=>h
   | cons c cs=>exact .ref rfl ⟨⟨_,_,hv,rfl,rfl⟩,⟨_,aH,0,0,_,.inr rfl,by simp⟩⟩ λ_ h=>h
  | agg=>exact .dead λ_ h=>h
  | cA=>exact .dead λ_ h=>h
  | eB aQ h1 al j0 iL=>exact .eB (λ_ h=>h) h1 al j0 iL
 | succ d aR =>
  intro p x v F aH hv bm;cases bm with
  | lit aq aQ=>exact .lit aq λ_ h=>h
  | aF aQ=>exact .aF λ_ h=>h
  | dead aQ=>exact .dead λ_ h=>h
  | ref J ax aQ=>cases x <;> simp [aj.isRef] at J <;> exact .ref rfl ax λ_ h=>h
  | mp=>exact .ref rfl ⟨⟨_,hv,rfl⟩,⟨_,aH⟩⟩ λ_ h=>h
  | imp aQ bt bj bW=>exact .imp (λ_ h=>h) bt bj bW
  | hW aQ=>exact .hW λ_ h=>h
  | aD aQ k5 bt aO aq h1 ae ax=>exact .aD (λ_ h=>h) k5 bt aO aq h1 ae ax
  | bn aQ bt aO h1 ae ax=>exact .bn (λ_ h=>h) bt aO h1 ae ax
  | own bj aq h1 ax aZ aJ aQ =>
   have GB:=R.own (I:=I) (ρ:=eG w T g) bj aq h1 ax aZ aJ aQ;obtain ⟨a,cap,rfl,aP,_⟩:=GB.mL;exact .ref rfl ⟨⟨a,_,cap,hv,rfl,Nat.le_refl _⟩,.inl ⟨_,_,aH,Nat.le_refl _⟩⟩ λ_ h=>h
  | @obj cs b e arr cB _ bj aq h1 ax aZ aJ aQ =>
   cases cs with
   | nil=>exact .dead λ_ h=>h
   | cons c cs=>exact .ref rfl ⟨⟨_,_,hv,rfl,rfl⟩,⟨_,aH,0,0,_,.inr rfl,by simp⟩⟩ λ_ h=>h
  | @agg cs vs cB _ aq h1 ax aZ aQ =>
   refine .agg (Fs:=λ_=>c0) (by simpa using aq) h1 ?_ (λ_ _ _ _ _ h=>h.elim) (λc=>⟨λh=>h.elim,λ⟨_,_,h⟩=>h⟩);intro k y u aA hu;rw [List.getElem?_mapIdx] at aA;cases hk:cs[k]? with
   | none=>rw [hk] at aA; cases aA
   | some z =>
    rw [hk] at aA;cases aA;exact aR (by rw [si,aH]; exact hk) (by rw [wz,hv]; exact hu) (ax k z u hk hu)
  | @cA cs vs cB _ aq ax aZ aQ =>
   refine .cA (Fs:=λ_=>c0) (by simpa using aq) ?_ (λ_ _ _ _ _ h=>h.elim) (λc=>⟨λh=>h.elim,λ⟨_,_,h⟩=>h⟩);intro k y u aA hu;rw [List.getElem?_mapIdx] at aA;cases hk:cs[k]? with
   | none=>rw [hk] at aA; cases aA
   | some z =>
    rw [hk] at aA;cases aA;exact aR (by rw [si,aH]; exact hk) (by rw [wz,hv]; exact hu) (ax k z u hk hu)
  | eB aQ h1 al j0 iL=>exact .eB (λ_ h=>h) h1 al j0 iL
theorem Ax {ρ:aj->Value->Prop}(v:Value):R w I ρ (oa v) v c0:=by
 unfold oa;split
 ·exact .aF λ_ h=>h
 ·exact .dead λ_ h=>h
 ·exact .dead λ_ h=>h
 ·rename_i h1 al aS;refine .lit ?_ λ_ h=>h;cases v <;> first | rfl | (exact absurd rfl (al _)) | (exact absurd rfl (aS _))
theorem UC {ρ:aj->Value->Prop}(v:Value):R w I ρ (ofConst v) v c0:=by
 unfold ofConst;split
 ·rename_i vs;split
  ·rename_i hs;refine .agg (Fs:=λ_=>c0) (by simp) (λk u hu=>?_) ?_ (λ_ _ _ _ _ h=>h.elim) (λc=>⟨λh=>h.elim,λ⟨_,_,h⟩=>h⟩)
   ·exact Array.all_eq_true_iff_forall_mem.1 hs u (Array.mem_of_getElem? hu)
   ·intro k x u J hu;simp only [List.getElem?_map,Array.getElem?_toList,hu,Option.map_some,Option.some.injEq] at J;subst J;exact Ax u
  ·exact .dead λ_ h=>h
 ·exact .dead λ_ h=>h
 ·exact Ax v
theorem la (h:dd w I T g Fs) {x:Operand}{y:aj}(aA:bT g x=some y) {a:Act}(bk:a.tmps=T):R w I (eG w T g) y (a.eval x) c0:=by
 cases x with
 | tmp t =>
  simp only [bT] at aA;cases J:g t with
  | none=>rw [J] at aA; cases aA
  | some z =>
   rw [J] at aA;simp only [Option.map_some,Option.some.injEq] at aA;obtain ⟨v,hv,bm⟩:=h.rel t z J;have p':a.eval (.tmp t)=v:=by simp [Act.eval,bk,hv]
   rw [p'];have aH:cd g ⟨t,[]⟩=some z:=by simp [cd,J,aj.at]
   have LY:eI w T ⟨t,[]⟩=some v:=by simp [eI,hv,walk]
   subst aA;cases bm with
   | tree bm =>
    cases z with
    | bY=>exact bm.k_.elim
    | _=>exact DT 2 aH LY bm
   | @bY hP n m p new v bv e de us news _ bm =>
    simp only [q6];have:∃ a cap,v=.slice a (n+m) cap:=by
     obtain ⟨_,al⟩:=bm.mB;rcases al with ⟨al,aS⟩ | ⟨b,cap,cur,al,_⟩
     ·exact ⟨none,0,by rw [al]; congr 1; omega⟩
     ·exact ⟨_,cap,al⟩
    obtain ⟨cJ,cap,rfl⟩:=this;exact .ref rfl ⟨⟨cJ,_,cap,LY,rfl,Nat.le_refl _⟩,.inr ⟨rfl,p,n,m,new,J,rfl⟩⟩ λ_ h=>h
 | const v=>simp only [bT,Option.some.injEq] at aA; subst aA; exact UC v
 | global n=>simp [bT] at aA
 | func f =>
  simp only [bT,Option.some.injEq] at aA;subst aA;exact .eB (λ_ h=>h) rfl rfl (by simp) (by simp)
end
end Go.Own
namespace Go.Own
open Go
def hE (P:Program) (t:TypeId):Bool :=
 match P.underlying t,P.info? t with
 | some (.struct _),_=>false
 | some (.array ..),_=>false
 | some _,some i=>i.size == 1
 | _,_=>false
def iI (P:Program) (t:TypeId) (k:Nat):Bool :=
 match P.underlying t,P.info? t with
 | some (.struct _),some i=>i.size == k
 | some (.array ..),some i=>i.size == k
 | _,_=>false
def fu (P:Program) (t e:TypeId) (z:Nat):Bool :=
 match P.underlying t,P.info? e with
 | some (.slice cY),some i=>cY == e&&i.size == z
 | _,_=>false
def B9 (P:Program) (t e:TypeId) (n z:Nat):Bool :=
 match P.underlying t,P.info? e with
 | some (.array c5 cY),some i=>c5 == n&&cY == e&&i.size == z
 | _,_=>false
def o1 (P:Program) (t:TypeId):Bool :=
 match P.underlying t with
 | some .string=>true
 | _=>false
def u6 (P:Program) (s d:TypeId):Bool :=
 match P.underlying s,P.underlying d with
 | some (.slice e),some .string=>match P.underlying e with
  | some (.int .u8)=>true
  | _=>false
 | _,_=>false
def dN (P:Program) (s:TypeId) (f off:Nat) (t:TypeId):Bool :=
 match P.underlying s with
 | some (.struct fs) =>
  match fs[f]? with
  | some fd=>fd.offset == off&&fd.type == t&&(match P.info? t with | some i=>i.size != 0 | none=>false)
  | none=>false
 | _=>false
section
variable {P:Program}{w:World}
theorem EZ {t:TypeId}(h:hE P t=true):(isAgg t).run P w=.ok false w/\(sizeOf t).run P w=.ok 1 w:=by
 unfold hE at h;cases hu:P.underlying t with
 | none=>simp [hu] at h
 | some d =>
  cases hi:P.info? t with
  | none=>cases d <;> simp [hu,hi] at h
  | some i=>cases d <;> simp [hu,hi] at h <;> simp [isAgg,run_underlying hu,sizeOf,typeInfo,hi,h]
theorem B4 {t:TypeId}{k:Nat}(h:iI P t k=true):(isAgg t).run P w=.ok true w/\(sizeOf t).run P w=.ok k w:=by
 unfold iI at h;cases hu:P.underlying t with
 | none=>simp [hu] at h
 | some d =>
  cases hi:P.info? t with
  | none=>cases d <;> simp [hu,hi] at h
  | some i=>cases d <;> simp [hu,hi] at h <;> simp [isAgg,run_underlying hu,sizeOf,typeInfo,hi,h]
theorem pS {t e:TypeId}{z:Nat}(h:fu P t e z=true):P.underlying t=some (.slice e)/\P.elem t=e/\(sizeOf e).run P w=.ok z w:=by
 unfold fu at h;cases hu:P.underlying t with
 | none=>simp [hu] at h
 | some d =>
  cases hi:P.info? e with
  | none=>cases d <;> simp [hu,hi] at h
  | some i =>
   cases d <;> simp [hu,hi] at h;obtain ⟨rfl,h⟩:=h;exact ⟨rfl,by simp [Program.elem,hu],by simp [sizeOf,typeInfo,hi,h]⟩
theorem Jp {t e:TypeId}{n z:Nat}(h:B9 P t e n z=true):P.underlying t=some (.array n e)/\(sizeOf e).run P w=.ok z w:=by
 unfold B9 at h;cases hu:P.underlying t with
 | none=>simp [hu] at h
 | some d =>
  cases hi:P.info? e with
  | none=>cases d <;> simp [hu,hi] at h
  | some i =>
   cases d <;> simp [hu,hi] at h;obtain ⟨⟨rfl,rfl⟩,h⟩:=h;exact ⟨rfl,by simp [sizeOf,typeInfo,hi,h]⟩
theorem JF {s d:TypeId}(h:u6 P s d=true):∃ e,P.underlying s=some (.slice e)/\P.underlying e=some (.int .u8)/\P.underlying d=some .string:=by
 unfold u6 at h
 split at h
 ·rename_i e h1 al
  split at h
  ·rename_i aS;exact ⟨e,h1,aS,al⟩
  ·cases h
 ·cases h
theorem It {t:TypeId}(h:o1 P t=true):P.underlying t=some .string:=by
 unfold o1 at h;cases hu:P.underlying t with
 | none=>simp [hu] at h
 | some d=>cases d <;> simp [hu] at h; rfl
theorem Fq {s:TypeId}{f off:Nat}{t:TypeId}(h:dN P s f off t=true):∃ fs fd,P.underlying s=some (.struct fs)/\fs[f]?=some fd/\fd.offset=off/\fd.type=t/\∃ i,P.info? t=some i/\i.size≠0:=by
 unfold dN at h;cases hu:P.underlying s with
 | none=>simp [hu] at h
 | some d =>
  cases d <;> simp [hu] at h;rename_i fs;cases bp:fs[f]? with
  | none=>simp [bp] at h
  | some fd =>
   simp [bp] at h;obtain ⟨⟨h1,al⟩,aS⟩:=h;cases hi:P.info? t with
   | none=>simp [hi] at aS
   | some i=>simp [hi] at aS; exact ⟨fs,fd,rfl,bp,h1,al,i,rfl,aS⟩
theorem add_eq (b o k:Nat):(⟨b,o,none⟩:Addr).add k=⟨b,o+k,none⟩:=by
 unfold Addr.add;split
 ·rename_i h; subst h; rfl
 ·rfl
theorem MZ {s:TypeId}{f off:Nat}{t:TypeId}(h:dN P s f off t=true) (b o:Nat):(Instr.fieldAt s (.pointer (some ⟨b,o,none⟩)) f).run P w=.ok (.pointer (some ⟨b,o+off,none⟩)) w:=by
 obtain ⟨fs,fd,hu,bp,rfl,rfl,i,hi,bf⟩:=Fq h;simp [Instr.fieldAt,run_underlying hu,bp,Instr.sureAddr,fieldPlace,sizeOf,typeInfo,hi,bf,add_eq]
theorem M1 {t:TypeId}(h:hE P t=true) {a:Addr}{v:Value}(ae:w.cell? a=some v):(Instr.loadAt t (.pointer (some a))).run P w=.ok v w:=by
 obtain ⟨h1,al⟩:=EZ (w:=w) h;simp [Instr.loadAt,Instr.sureAddr,loadVar,h1,ae]
theorem M0 {t:TypeId}{k:Nat}(h:iI P t k=true) {b o:Nat}{vs:List Value}(aq:vs.length=k) (ae:∀ af v,vs[af]?=some v->w.cell? ⟨b,o+af,none⟩=some v) :
  (Instr.loadAt t (.pointer (some ⟨b,o,none⟩))).run P w=.ok (.agg vs.toArray) w:=by
 obtain ⟨h1,al⟩:=B4 (w:=w) h;have:=run_loadCells_list (P:=P) w ⟨b,o,none⟩ vs (λaf v aa=>by rw [add_eq]; exact ae af v aa);rw [aq] at this;simp [Instr.loadAt,Instr.sureAddr,loadVar,h1,al,this]
end
end Go.Own
namespace Go.Own
open Go
section
variable {w:World}{I:bu}{ρ:aj->Value->Prop}{v:Value}{F:bu}
theorem R.iu {a:Value}(h:R w I ρ (.lit a) v F):v=a/\a.oneCell'=true:=by
 cases h with
 | lit hv=>exact ⟨rfl,hv⟩
 | ref J=>simp [aj.isRef] at J
theorem R.q0 (h:R w I ρ .aF v F):v=.slice none 0 0:=by
 cases h with
 | aF=>rfl
 | ref J=>simp [aj.isRef] at J
theorem R.ni {p:Place}{k:Nat}(h:R w I ρ (.ptr p k) v F):ρ (.ptr p k) v:=by
 cases h with
 | ref J h=>exact h
theorem R.mI {z:Nat}{p:Place}{n:Nat}(h:R w I ρ (.bh z p n) v F):ρ (.bh z p n) v:=by
 cases h with
 | ref J h=>exact h
theorem R.vJ {z:Nat}{p:Place}{lo n:Nat}(h:R w I ρ (.sub z p lo n) v F):ρ (.sub z p lo n) v:=by
 cases h with
 | ref J h=>exact h
theorem R.xS {z n:Nat}{cs:List aj}(h:R w I ρ (.aD z n cs) v F):∃ a cap,v=.slice a n cap/\n<=cap/\cs.length=n * z /\
  (cs≠[]\/0<n->∃ (ad:Addr) (us:Nat->Value),a=some ad/\I ad.block/\ad.spot=none/\(∀ (k:Nat) (x:aj),cs[k]?=some x->(us k).oneCell'=true)/\(∀ (k:Nat) (x:aj),cs[k]?=some x->w.cell? ⟨ad.block,ad.off+k,none⟩=some (us k))/\∀ (k:Nat) (x:aj),cs[k]?=some x->R w I ρ x (us k) c0):=by
 cases h with
 | @hW _ cap a=>exact ⟨a,cap,rfl,Nat.zero_le _,by simp,λh=>by simp at h⟩
 | @aD _ _ cap _ ad us _ aQ k5 bt aO aq h1 ae ax=>exact ⟨_,cap,rfl,k5,aq,λ_=>⟨ad,us,rfl,bt,aO,h1,ae,ax⟩⟩
 | ref J=>simp [aj.isRef] at J
theorem R.vI {cs:List aj}(h:R w I ρ (.bn cs) v F):∃ (ad:Addr) (us:Nat->Value),v=.pointer (some ad)/\I ad.block/\ad.spot=none/\(∀ (k:Nat) (x:aj),cs[k]?=some x->(us k).oneCell'=true)/\(∀ (k:Nat) (x:aj),cs[k]?=some x->w.cell? ⟨ad.block,ad.off+k,none⟩=some (us k))/\∀ (k:Nat) (x:aj),cs[k]?=some x->R w I ρ x (us k) c0:=by
 cases h with
 | @bn _ ad us _ aQ bt aO h1 ae ax=>exact ⟨ad,us,rfl,bt,aO,h1,ae,ax⟩
 | ref J=>simp [aj.isRef] at J
theorem R.Ae {cs:List aj}(h:R w I ρ (.agg cs) v F) (aQ:∀ c,¬ F c):∃ vs:Array Value,v=.agg vs/\cs.length=vs.size/\(∀ (k:Nat) (u:Value),vs[k]?=some u->u.oneCell'=true)/\∀ (k:Nat) (x:aj) (u:Value),cs[k]?=some x->vs[k]?=some u->R w I ρ x u c0:=by
 cases h with
 | @agg _ vs Fs _ aq h1 ax aZ oD=>exact ⟨vs,rfl,aq,h1,λk x u J hu=>(ax k x u J hu).empty λc ae=>aQ c ((oD c).2 ⟨k,(List.getElem?_eq_some_iff.1 J).1,ae⟩)⟩
 | ref J=>simp [aj.isRef] at J
theorem R.Uh {cs:List aj}(h:R w I ρ (.cA cs) v F) (aQ:∀ c,¬ F c):∃ vs:Array Value,v=.tuple vs/\cs.length=vs.size/\∀ (k:Nat) (x:aj) (u:Value),cs[k]?=some x->vs[k]?=some u->R w I ρ x u c0:=by
 cases h with
 | @cA _ vs Fs _ aq ax aZ oD=>exact ⟨vs,rfl,aq,λk x u J hu=>(ax k x u J hu).empty λc ae=>aQ c ((oD c).2 ⟨k,(List.getElem?_eq_some_iff.1 J).1,ae⟩)⟩
 | ref J=>simp [aj.isRef] at J
theorem R.node {y:aj}{z n:Nat}{cs:List aj}(h:R w I ρ y v F) (aA:y=.own z n cs\/y=.obj cs) {k:Nat}{x:aj}(hk:cs[k]?=some x) :
  ∃ b u,addrOf v=some ⟨b,0,none⟩/\w.cell? ⟨b,k,none⟩=some u/\child w v k=some u/\u.oneCell'=true/\∃ bR,R w I ρ x u bR:=by
 rcases aA with rfl | rfl
 ·cases h with
  | @own _ _ _ _ e us Fs _ bj aq h1 ax aZ aJ aQ =>
   have bg:k<cs.length:=(List.getElem?_eq_some_iff.1 hk).1;have hu:us[k]?=some us[k]:=List.getElem?_eq_getElem (aq ▸ bg);have l6:=ob bj hu;obtain ⟨mE,al⟩:=bj;rcases al with ⟨rfl,rfl⟩ | ⟨b,cap,cur,rfl,bb,ca,rest⟩
   ·simp at mE; rw [mE] at aq; simp at aq; subst aq; simp at bg
   ·exact ⟨b,_,rfl,by simpa [child] using l6,l6,h1 k _ hu,Fs k,ax k x _ hk hu⟩
  | ref J=>simp [aj.isRef] at J
 ·cases h with
  | @obj _ b e arr Fs _ bj aq h1 ax aZ aJ aQ =>
   have bg:k<cs.length:=(List.getElem?_eq_some_iff.1 hk).1;have hu:arr[k]?=some arr[k]:=Array.getElem?_eq_getElem (aq ▸ bg);exact ⟨b,_,rfl,by simp [World.cell?,bj,hu],by simp [child,World.cell?,bj,hu],h1 k _ hu,Fs k,ax k x _ hk hu⟩
  | ref J=>simp [aj.isRef] at J
end
def o6 (g:a7) (d:Nat):Option Operand->Nat->Prop
 | none,af=>af=d
 | some o,af=>∃ k,bT g o=some (.lit (.int k (af:Int)))
inductive dB (P:Program) (g:a7):Op->TypeId->aj->Prop
 | move {x:Operand}{ty:TypeId}{y:aj}(J:bT g x=some y):dB P g (.move x) ty y
 | assign {x:Operand}{ty:TypeId}{y:aj}(J:bT g x=some y):dB P g (.assign x) ty y
 | pick {c a b:Operand}{ty:TypeId}{t:Bool}{r:aj}(ae:bT g c=some (.lit (.bool t))) (ax:bT g (if t then a else b)=some r):dB P g (.pick c a b) ty r
 | DA {x:Operand}{ty:TypeId}{p:Place}{k:Nat}(J:bT g x=some (.ptr p k)):dB P g (.nilCheck x) ty (.ptr p k)
 | pK {x:Operand}{ty:TypeId}{cs:List aj}(J:bT g x=some (.bn cs)):dB P g (.nilCheck x) ty (.bn cs)
 | zo {x:Operand}{ty s t:TypeId}{f off:Nat}{p:Place}{k:Nat}(J:bT g x=some (.ptr p k)) (bp:dN P s f off t=true) (e8:hq g (.ptr p (k+off))):dB P g (.fieldAddr s x f) ty (.ptr p (k+off))
 | CH {x:Operand}{ty s t:TypeId}{f off:Nat}{cs:List aj}(J:bT g x=some (.bn cs)) (bp:dN P s f off t=true):dB P g (.fieldAddr s x f) ty (.bn (cs.drop off))
 | CG {x:Operand}{ty s t:TypeId}{f off:Nat}{cs:List aj}{y:aj}(J:bT g x=some (.agg cs)) (bp:dN P s f off t=true) (aG:hE P t=true) (aA:cs[off]?=some y):dB P g (.field s x f) ty y
 | Fp {x:Operand}{ty s t:TypeId}{f off k:Nat}{cs:List aj}(J:bT g x=some (.agg cs)) (bp:dN P s f off t=true) (aG:iI P t k=true) (hk:off+k<=cs.length):dB P g (.field s x f) ty (.agg ((cs.drop off).take k))
 | Di {x i:Operand}{ty t e:TypeId}{z n:Nat}{cs:List aj}{nk:IntKind}{af:Nat}(J:bT g x=some (.aD z n cs)) (hi:bT g i=some (.lit (.int nk (af:Int)))) (aG:fu P t e z=true) (aa:af<n):dB P g (.indexAddr t x i) ty (.bn (cs.drop (af * z)))
 | Dh {x i:Operand}{ty t e:TypeId}{z n:Nat}{p:Place}{nk:IntKind}{af:Nat}(J:bT g x=some (.bh z p n)) (hi:bT g i=some (.lit (.int nk (af:Int)))) (aG:fu P t e z=true) (aa:af<n) (e8:hq g (.ptr p (af * z))):dB P g (.indexAddr t x i) ty (.ptr p (af * z))
 | Hd {x i:Operand}{ty t e:TypeId}{z lo n:Nat}{p:Place}{nk:IntKind}{af:Nat}(J:bT g x=some (.sub z p lo n)) (hi:bT g i=some (.lit (.int nk (af:Int)))) (aG:fu P t e z=true) (aa:af<n) (e8:hq g (.ptr p ((lo+af) * z))):dB P g (.indexAddr t x i) ty (.ptr p ((lo+af) * z))
 | Hc {x i:Operand}{ty t e:TypeId}{n z k:Nat}{p:Place}{nk:IntKind}{af:Nat}(J:bT g x=some (.ptr p k)) (hi:bT g i=some (.lit (.int nk (af:Int)))) (aG:B9 P t e n z=true) (aa:af<n) (e8:hq g (.ptr p (k+af * z))):dB P g (.indexAddr t x i) ty (.ptr p (k+af * z))
 | Hb {x i:Operand}{ty t e:TypeId}{n z:Nat}{cs:List aj}{nk:IntKind}{af:Nat}(J:bT g x=some (.bn cs)) (hi:bT g i=some (.lit (.int nk (af:Int)))) (aG:B9 P t e n z=true) (aa:af<n):dB P g (.indexAddr t x i) ty (.bn (cs.drop (af * z)))
 | Dv {x:Operand}{ty t:TypeId}{c:aj}{cs:List aj}(J:bT g x=some (.bn (c::cs))) (aG:hE P t=true):dB P g (.load t x) ty c
 | Dw {x:Operand}{ty t:TypeId}{k:Nat}{cs:List aj}(J:bT g x=some (.bn cs)) (aG:iI P t k=true) (hk:k<=cs.length):dB P g (.load t x) ty (.agg (cs.take k))
 | An {x:Operand}{ty t:TypeId}{p:Place}{k:Nat}{y:aj}(J:bT g x=some (.ptr p k)) (aG:hE P t=true) (aA:cd g (p.push k)=some y):dB P g (.load t x) ty (ig 0 (p.push k) y)
 | vT {x:Operand}{ty t:TypeId}{p:Place}{k m z n:Nat}{y:aj}{cs:List aj}(J:bT g x=some (.ptr p k)) (aG:iI P t m=true) (aA:cd g p=some y) (ae:y=.own z n cs\/y=.obj cs) (hm:k+m<=cs.length):dB P g (.load t x) ty (.agg (((cs.drop k).take m).mapIdx λi x=>ig 0 (p.push (k+i)) x))
 | Dj {x i:Operand}{ty t:TypeId}{s:ByteArray}{nk:IntKind}{af:Nat}{b:UInt8}(J:bT g x=some (.lit (.string s))) (hi:bT g i=some (.lit (.int nk (af:Int)))) (aG:o1 P t=true) (aJ:s[af]?=some b):dB P g (.index t x i) ty (.lit (.int .u8 b.toNat))
 | bin {op:BinOp}{x y:Operand}{ty t t2:TypeId}{a b v:Value}(J:bT g x=some (.lit a)) (aA:bT g y=some (.lit b)) (hv:v.oneCell'=true) (ax:∀ w,(do eqGuard op t x y a b; binOp op t a b:Sem Value).run P w=.ok v w):dB P g (.binOp op t x y t2) ty (.lit v)
 | yT {op:BinOp}{x y:Operand}{ty t t2:TypeId}{dK dF:List Value}{v:Value}(J:bT g x=some (.agg (dK.map .lit))) (aA:bT g y=some (.agg (dF.map .lit))) (hv:v.oneCell'=true) (ax:∀ w,(do eqGuard op t x y (.agg dK.toArray) (.agg dF.toArray); binOp op t (.agg dK.toArray) (.agg dF.toArray):Sem Value).run P w=.ok v w):dB P g (.binOp op t x y t2) ty (.lit v)
 | un {op:UnOp}{x:Operand}{ty t:TypeId}{a v:Value}(J:bT g x=some (.lit a)) (hv:v.oneCell'=true) (ax:∀ w,(Op.unary op a).run P w=.ok v w):dB P g (.unOp op t x) ty (.lit v)
 | conv {x:Operand}{ty s d:TypeId}{a v:Value}(J:bT g x=some (.lit a)) (hv:v.oneCell'=true) (ax:∀ w,(convert s d a).run P w=.ok v w):dB P g (.convert s d x) ty (.lit v)
 | Cr {x:Operand}{ty s d:TypeId}{n N:Nat}{p:Place}{cs:List aj}{xs:List Int}(J:bT g x=some (.bh 1 p n)) (aH:cd g p=some (.own 1 N cs)) (aP:n<=N) (hI:cs.take n=xs.map λb=>.lit (.int .u8 b)) (aG:u6 P s d=true):dB P g (.convert s d x) ty (.lit (.string (strOfNums xs)))
 | Cs {x:Operand}{ty s d:TypeId}{n:Nat}{xs:List Int}(J:bT g x=some (.aD 1 n (xs.map λb=>.lit (.int .u8 b)))) (aG:u6 P s d=true):dB P g (.convert s d x) ty (.lit (.string (strOfNums xs)))
 | Fk {xs:Array Operand}{iF:Array TypeId}{ty:TypeId}{f:FuncId}{vs:List Value}{v:Value}(J:xs.toList.map (bT g)=vs.map λv=>some (.lit v)) (hv:v.oneCell'=true)
   (ax:∀ w,(callFunc f vs.toArray).run P w=.ok (.value v) w):dB P g (.call { callee:=.value (.func f),args:=xs,argTypes:=iF }) ty (.lit v)
 | Cw {x:Operand}{ty:TypeId}{i:Nat}{cs:List aj}{y:aj}(J:bT g x=some (.cA cs)) (aA:cs[i]?=some y):dB P g (.extract x i) ty y
 | Bt {x:Operand}{lo hi:Option Operand}{ty t e:TypeId}{z n l h:Nat}{cs:List aj}(J:bT g x=some (.aD z n cs)) (aq:o6 g 0 lo l) (ca:o6 g n hi h) (aG:fu P t e z=true) (rN:l<=h) (aP:h<=n):dB P g (.slice t x lo hi none) ty (.aD z (h - l) ((cs.drop (l * z)).take ((h - l) * z)))
 | D4 {x:Operand}{lo hi:Option Operand}{ty t e:TypeId}{z n h:Nat}{p:Place}(J:bT g x=some (.bh z p n)) (aq:o6 g 0 lo 0) (ca:o6 g n hi h) (aG:fu P t e z=true) (aP:h<=n) (e8:hq g (.bh z p h)):dB P g (.slice t x lo hi none) ty (.bh z p h)
 | D3 {x:Operand}{lo hi:Option Operand}{ty t e:TypeId}{z n l h:Nat}{p:Place}(J:bT g x=some (.bh z p n)) (aq:o6 g 0 lo l) (ca:o6 g n hi h) (aG:fu P t e z=true) (rN:l<=h) (aP:h<=n) (e8:hq g (.sub z p l (h - l))):dB P g (.slice t x lo hi none) ty (.sub z p l (h - l))
 | Bu {x:Operand}{lo hi:Option Operand}{ty t:TypeId}{l h:Nat}{s:ByteArray}(J:bT g x=some (.lit (.string s))) (aq:o6 g 0 lo l) (ca:o6 g s.size hi h) (aG:o1 P t=true) (rN:l<=h) (aP:h<=s.size):dB P g (.slice t x lo hi none) ty (.lit (.string (s.extract l h)))
 | Al {x:Operand}{ty t e:TypeId}{z cN n:Nat}{cs:List aj}(J:bT g x=some (.aD z n cs)) (aG:fu P t e cN=true):dB P g (.call { callee:=.builtin .len,args:=#[x],argTypes:=#[t] }) ty (.lit (.int .i64 n))
 | Ak {x:Operand}{ty t e:TypeId}{z cN n:Nat}{p:Place}(J:bT g x=some (.bh z p n)) (aG:fu P t e cN=true):dB P g (.call { callee:=.builtin .len,args:=#[x],argTypes:=#[t] }) ty (.lit (.int .i64 n))
 | Hw {x:Operand}{ty t e:TypeId}{z cN lo n:Nat}{p:Place}(J:bT g x=some (.sub z p lo n)) (aG:fu P t e cN=true):dB P g (.call { callee:=.builtin .len,args:=#[x],argTypes:=#[t] }) ty (.lit (.int .i64 n))
 | Hv {x:Operand}{ty t e:TypeId}{cN:Nat}(J:bT g x=some .aF) (aG:fu P t e cN=true):dB P g (.call { callee:=.builtin .len,args:=#[x],argTypes:=#[t] }) ty (.lit (.int .i64 0))
 | lits {b:Builtin}{xs:Array Operand}{iF:Array TypeId}{ty:TypeId}{vs:List Value}{v:Value}(J:xs.toList.map (bT g)=vs.map λv=>some (.lit v)) (hv:v.oneCell'=true)
   (ax:∀ w (cs:Array Bool),(builtin b iF ty cs vs.toArray).run P w=.ok (.value v) w):dB P g (.call { callee:=.builtin b,args:=xs,argTypes:=iF }) ty (.lit v)
 | Hx {x y:Operand}{ty t:TypeId}{p:Place}{q:Array MapEntry->Nat->Prop}{ok:Bool}{Y X:aj}{pI V:Value}(J:bT g x=some (.i' p)) (aH:cd g p=some (.mp q)) (aA:bT g y=some Y)
   (eJ:∀ (w:World) (I:bu) (ρ:aj->Value->Prop) (v:Value),R w I ρ Y v c0->v=pI) (bm:∀ (w:World) (I:bu) (ρ:aj->Value->Prop),R w I ρ X V c0)
   (ax:∀ (w:World) (b:Nat) (es:Array MapEntry) (clock:Nat),w.heap[b]?=some (.map es clock)->q es clock->(Instr.lookup t (.map (some b)) pI ok).run P w=.ok V w):dB P g (.lookup t x y ok) ty X
 | Am {x y:Operand}{ty t:TypeId}{q:Array MapEntry->Nat->Prop}{ok:Bool}{Y X:aj}{pI V:Value}(J:bT g x=some (.imp q)) (aA:bT g y=some Y)
   (eJ:∀ (w:World) (I:bu) (ρ:aj->Value->Prop) (v:Value),R w I ρ Y v c0->v=pI) (bm:∀ (w:World) (I:bu) (ρ:aj->Value->Prop),R w I ρ X V c0)
   (ax:∀ (w:World) (b:Nat) (es:Array MapEntry) (clock:Nat),w.heap[b]?=some (.map es clock)->q es clock->(Instr.lookup t (.map (some b)) pI ok).run P w=.ok V w):dB P g (.lookup t x y ok) ty X
theorem R.Ug {w:World}{I:bu}{ρ:aj->Value->Prop}{p:Place}{v:Value}{F:bu}(h:R w I ρ (.i' p) v F):ρ (.i' p) v:=by
 cases h with
 | ref _ h _=>exact h
theorem R.Uf {w:World}{I:bu}{ρ:aj->Value->Prop}{q:Array MapEntry->Nat->Prop}{v:Value}{F:bu}(h:R w I ρ (.mp q) v F):∃ b es clock,v=.map (some b)/\w.heap[b]?=some (.map es clock)/\q es clock/\∀ c,F c↔c=b:=by
 cases h with
 | ref J=>simp [aj.isRef] at J
 | mp bj bW aQ=>exact ⟨_,_,_,rfl,bj,bW,aQ⟩
theorem R.Ue {w:World}{I:bu}{ρ:aj->Value->Prop}{q:Array MapEntry->Nat->Prop}{v:Value}{F:bu}(h:R w I ρ (.imp q) v F):∃ b es clock,v=.map (some b)/\w.heap[b]?=some (.map es clock)/\q es clock:=by
 cases h with
 | ref J=>simp [aj.isRef] at J
 | imp _ _ bj bW=>exact ⟨_,_,_,rfl,bj,bW⟩
end Go.Own
namespace Go.Own
open Go
section
variable {P:Program}{w:World}{I:bu}{T:Array Value}{g:a7}{Fs:Nat->bu}
theorem o6.sound (h:dd w I T g Fs) {d:Nat}{x:Option Operand}{af:Nat}(aJ:o6 g d x af) {a:Act}(bk:a.tmps=T):(x.map a.eval=none/\af=d)\/∃ k,x.map a.eval=some (.int k (af:Int)):=by
 cases x with
 | none=>exact .inl ⟨rfl,aJ⟩
 | some o =>
  obtain ⟨k,hk⟩:=aJ;exact .inr ⟨k,by rw [Option.map_some,(la h hk bk).iu.1]⟩
theorem DW {len cap l h:Nat}{lo hi:Option Value}(aq:(lo=none/\l=0)\/∃ k,lo=some (.int k (l:Int))) (ca:(hi=none/\h=len)\/∃ k,hi=some (.int k (h:Int))) (b:Bool) (rN:l<=h) (ae:h<=cap) :
  (Instr.sliceBounds b len cap lo hi none).run P w=.ok (l,h,cap) w:=by
 rcases aq with ⟨rfl,rfl⟩ | ⟨k,rfl⟩ <;> rcases ca with ⟨rfl,rfl⟩ | ⟨lz,rfl⟩ <;> simp [Instr.sliceBounds,Instr.sliceBound,asIntOf,rN,ae]
theorem Mj (h:dd w I T g Fs) {a:Act}(bk:a.tmps=T):∀ (xs:List Operand) (vs:List Value),xs.map (bT g)=vs.map (λv=>some (.lit v))->xs.map a.eval=vs
 | [],[],_=>rfl
 | [],_::_,h=>by simp at h
 | _::_,[],h=>by simp at h
 | x::xs,v::vs,J=>by
  simp only [List.map_cons,List.cons.injEq] at J;rw [List.map_cons,(la h J.1 bk).iu.1,Mj h bk xs vs J.2]
theorem Jd {w:World}{I:bu}{ρ:aj->Value->Prop}{v:Value}{dK:List Value}
  (h:∃ vs:Array Value,v=.agg vs/\(dK.map aj.lit).length=vs.size/\(∀ (k:Nat) (u:Value),vs[k]?=some u->u.oneCell'=true)/\∀ (k:Nat) (x:aj) (u:Value),(dK.map aj.lit)[k]?=some x->vs[k]?=some u->R w I ρ x u c0):v=.agg dK.toArray:=by
 obtain ⟨vs,rfl,aq,-,ax⟩:=h;congr 1;apply Array.ext (by simpa using aq.symm);intro i h1 al;have aS:i<dK.length:=by simpa using al
 have:=(ax i (.lit dK[i]) vs[i] (by simp [aS]) (Array.getElem?_eq_getElem h1)).iu.1;simpa using this
theorem dB.sound (h:dd w I T g Fs) {a:Act}(bk:a.tmps=T) {o:Oper}{ki:aj}(aH:dB P g o.op o.type ki) :
  ∃ v,(execOp a.eval o).run P w=.ok (.value v) w/\R w I (eG w T g) ki v c0:=by
 obtain ⟨dst,op,ty,pos,after,guard⟩:=o;simp only at aH;have gu:∀ {x:Operand}{y:aj},bT g x=some y->R w I (eG w T g) y (a.eval x) c0:=λaA=>la h aA bk;have no:∀ c,¬ c0 c:=λ_ h=>h;cases aH with
 | move J=>exact ⟨_,by simp [execOp],gu J⟩
 | assign J=>exact ⟨_,by simp [execOp],gu J⟩
 | @pick c x y _ t r ae ax =>
  have tU:=(gu ae).iu.1;refine ⟨_,?_,gu ax⟩;simp [execOp,tU,asBool];cases t <;> rfl
 | @DA x _ p k J =>
  have ax:=gu J;obtain ⟨⟨u,ad,h1,al,aS⟩,b7⟩:=ax.ni;exact ⟨_,by simp [execOp,aS],aS ▸ ax⟩
 | @pK x _ cs J =>
  have ax:=gu J;obtain ⟨ad,us,aS,_⟩:=ax.vI;exact ⟨_,by simp [execOp,aS],aS ▸ ax⟩
 | @zo x _ s t f off p k J bp e8 =>
  obtain ⟨⟨u,ad,h1,al,aS⟩,b7⟩:=(gu J).ni;refine ⟨.pointer (some ⟨ad.block,ad.off+k+off,none⟩),by simp [execOp,aS,MZ bp],.ref rfl ⟨⟨u,ad,h1,al,by rw [Nat.add_assoc]⟩,e8⟩ no⟩
 | @CH x _ s t f off cs J bp =>
  obtain ⟨ad,us,aS,bt,aO,hd,ae,ax⟩:=(gu J).vI;obtain ⟨b,o,sp⟩:=ad;simp only at aO;subst aO;refine ⟨.pointer (some ⟨b,o+off,none⟩),by simp [execOp,aS,MZ bp],.bn (us:=λk=>us (off+k)) no bt rfl (λk x hk=>hd _ x (by rwa [List.getElem?_drop] at hk)) (λk x hk=>?_) λk x hk=>?_⟩
  ·rw [List.getElem?_drop] at hk; simpa [Nat.add_assoc] using ae _ x hk
  ·rw [List.getElem?_drop] at hk; exact ax _ x hk
 | @CG x _ s t f off cs y J bp aG aA =>
  obtain ⟨vs,aS,aq,hd,ax⟩:=(gu J).Ae no;obtain ⟨fs,fd,hu,Gb,rfl,rfl,i,hi,bf⟩:=Fq bp;have hk:fd.offset<cs.length:=(List.getElem?_eq_some_iff.1 aA).1;have hv:vs[fd.offset]?=some vs[fd.offset]:=Array.getElem?_eq_getElem (aq ▸ hk);refine ⟨_,?_,ax _ ki _ aA hv⟩;simp [execOp,aS,Instr.field,run_underlying hu,Gb,asAgg,part,(EZ (w:=w) aG).1,hv]
 | @Fp x _ s t f off k cs J bp aG hk =>
  obtain ⟨vs,aS,aq,hd,ax⟩:=(gu J).Ae no;obtain ⟨fs,fd,hu,Gb,rfl,rfl,i,hi,bf⟩:=Fq bp;refine ⟨.agg (vs.extract fd.offset (fd.offset+k)),?_,.agg (Fs:=λ_=>c0) (by simp [aq]; omega) (λaf u fP=>by
   rw [Array.getElem?_extract] at fP
   split at fP
   ·exact hd _ u fP
   ·cases fP) (λaf y u aA fP=>?_) (λ_ _ _ _ _ h=>h.elim) (λc=>⟨λh=>h.elim,λ⟨_,_,h⟩=>h⟩)⟩
  ·simp [execOp,aS,Instr.field,run_underlying hu,Gb,asAgg,part,(B4 (w:=w) aG).1,(B4 (w:=w) aG).2]
  ·rw [List.getElem?_take] at aA
   split at aA
   ·rw [List.getElem?_drop] at aA;rw [Array.getElem?_extract] at fP
    split at fP
    ·exact ax _ y u aA fP
    ·cases fP
   ·cases aA
 | @Di x i _ t e z n cs nk af J hi aG aa =>
  obtain ⟨hu,he,bH⟩:=pS (w:=w) aG;obtain ⟨kY,cap,aS,_,aq,hm⟩:=(gu J).xS;obtain ⟨ad,us,rfl,bt,aO,hd,ae,ax⟩:=hm (.inr (by omega));obtain ⟨b,o,sp⟩:=ad;simp only at aO;subst aO;have qO:=(gu hi).iu.1;refine ⟨.pointer (some ⟨b,o+af * z,none⟩),?_,.bn (us:=λk=>us (af * z+k)) no bt rfl (λk x hk=>hd _ x (by rwa [List.getElem?_drop] at hk)) (λk x hk=>?_) λk x hk=>?_⟩
  ·simp [execOp,aS,qO,Instr.indexAt,run_underlying hu,asIntOf,aa,bH,add_eq]
  ·rw [List.getElem?_drop] at hk; simpa [Nat.add_assoc] using ae _ x hk
  ·rw [List.getElem?_drop] at hk; exact ax _ x hk
 | @Dh x i _ t e z n p nk af J hi aG aa e8 =>
  obtain ⟨hu,he,bH⟩:=pS (w:=w) aG;obtain ⟨⟨kY,N,cap,h1,al,aS⟩,b7⟩:=(gu J).mI;have qO:=(gu hi).iu.1;obtain ⟨y,aA,hP,hZ,cs,eM,bg⟩:=e8;obtain ⟨v,cR,hv,eb,_⟩:=h.part aA (by rcases eM with rfl | rfl <;> simp);rw [h1] at hv;cases hv;obtain ⟨b,u,f',lI,_,_⟩:=eb.node eM (List.getElem?_eq_getElem bg);cases kY with
  | none=>simp [addrOf] at f'
  | some ad =>
   simp only [addrOf,Option.some.injEq] at f';subst f';refine ⟨.pointer (some ⟨b,af * z,none⟩),?_,.ref rfl ⟨⟨_,_,h1,rfl,by simp⟩,y,aA,hP,hZ,cs,eM,bg⟩ no⟩;simp [execOp,al,qO,Instr.indexAt,run_underlying hu,asIntOf,aa,bH,add_eq]
 | @Hd x i _ t e z lo n p nk af J hi aG aa e8 =>
  obtain ⟨hu,he,bH⟩:=pS (w:=w) aG;obtain ⟨⟨kY,N,cap,cJ,l0,h1,al,_,aS,dv⟩,b7⟩:=(gu J).vJ;obtain ⟨ad,rfl,rfl⟩:=dv (by omega);have qO:=(gu hi).iu.1;obtain ⟨y,aA,hP,hZ,cs,eM,bg⟩:=e8;obtain ⟨v,cR,hv,eb,_⟩:=h.part aA (by rcases eM with rfl | rfl <;> simp);rw [h1] at hv;cases hv;obtain ⟨b,u,f',lI,_,_⟩:=eb.node eM (List.getElem?_eq_getElem bg);simp only [addrOf,Option.some.injEq] at f';subst f';refine ⟨.pointer (some ⟨b,(lo+af) * z,none⟩),?_,.ref rfl ⟨⟨_,_,h1,rfl,by simp⟩,y,aA,hP,hZ,cs,eM,bg⟩ no⟩;simp [execOp,al,qO,Instr.indexAt,run_underlying hu,asIntOf,aa,bH,add_eq,Nat.add_mul]
 | @Hc x i _ t e n z k p nk af J hi aG aa e8 =>
  obtain ⟨hu,bH⟩:=Jp (w:=w) aG;obtain ⟨⟨u,ad,h1,al,aS⟩,b7⟩:=(gu J).ni;have qO:=(gu hi).iu.1;refine ⟨.pointer (some ⟨ad.block,ad.off+k+af * z,none⟩),?_,.ref rfl ⟨⟨u,ad,h1,al,by rw [Nat.add_assoc]⟩,e8⟩ no⟩;simp [execOp,aS,qO,Instr.indexAt,run_underlying hu,Instr.sureAddr,asIntOf,aa,bH,add_eq]
 | @Hb x i _ t e n z cs nk af J hi aG aa =>
  obtain ⟨hu,bH⟩:=Jp (w:=w) aG;obtain ⟨ad,us,aS,bt,aO,hd,ae,ax⟩:=(gu J).vI;obtain ⟨b,o,sp⟩:=ad;simp only at aO;subst aO;have qO:=(gu hi).iu.1;refine ⟨.pointer (some ⟨b,o+af * z,none⟩),?_,.bn (us:=λk=>us (af * z+k)) no bt rfl (λk x hk=>hd _ x (by rwa [List.getElem?_drop] at hk)) (λk x hk=>?_) λk x hk=>?_⟩
  ·simp [execOp,aS,qO,Instr.indexAt,run_underlying hu,Instr.sureAddr,asIntOf,aa,bH,add_eq]
  ·rw [List.getElem?_drop] at hk; simpa [Nat.add_assoc] using ae _ x hk
  ·rw [List.getElem?_drop] at hk; exact ax _ x hk
 | @Dv x _ t c cs J aG =>
  obtain ⟨ad,us,aS,bt,aO,hd,ae,ax⟩:=(gu J).vI;obtain ⟨b,o,sp⟩:=ad;simp only at aO;subst aO;have bf:w.cell? ⟨b,o,none⟩=some (us 0):=by simpa using ae 0 ki rfl
  exact ⟨us 0,by simp [execOp,aS,M1 aG bf],ax 0 ki rfl⟩
 | @Dw x _ t k cs J aG hk =>
  obtain ⟨ad,us,aS,bt,aO,hd,ae,ax⟩:=(gu J).vI;obtain ⟨b,o,sp⟩:=ad;simp only at aO;subst aO;have SV:∀ af v,((List.range k).map us)[af]?=some v->w.cell? ⟨b,o+af,none⟩=some v:=by
   intro af v aa;rw [List.getElem?_map] at aa;by_cases eS:af<k
   ·rw [List.getElem?_range eS] at aa;simp only [Option.map_some,Option.some.injEq] at aa;rw [<- aa];exact ae af _ (List.getElem?_eq_getElem (by omega))
   ·rw [List.getElem?_eq_none (by simp; omega)] at aa; cases aa
  refine ⟨.agg ((List.range k).map us).toArray,by simp [execOp,aS,M0 aG (by simp) SV],.agg (Fs:=λ_=>c0) (by simp; omega) (λaf u fP=>by
   simp only [List.getElem?_toArray,List.getElem?_map] at fP;by_cases eS:af<k
   ·rw [List.getElem?_range eS] at fP;simp only [Option.map_some,Option.some.injEq] at fP;rw [<- fP];exact hd af _ (List.getElem?_eq_getElem (by omega))
   ·rw [List.getElem?_eq_none (by simp; omega)] at fP; cases fP) (λaf y u aA fP=>?_) (λ_ _ _ _ _ h=>h.elim) (λc=>⟨λh=>h.elim,λ⟨_,_,h⟩=>h⟩)⟩
  rw [List.getElem?_take] at aA
  split at aA
  ·rename_i eS;simp [eS] at fP;rw [<- fP];exact ax af y aA
  ·cases aA
 | @An x _ t p k y J aG aA =>
  obtain ⟨⟨u,ad,h1,al,aS⟩,b7⟩:=(gu J).ni;rw [si] at aA;cases aP:cd g p with
  | none=>rw [aP] at aA; cases aA
  | some nd =>
   rw [aP] at aA;simp only [Option.bind_some] at aA;obtain ⟨y',mH,hP,hZ,cs,eM,bg⟩:=b7;rw [aP] at mH;cases mH;obtain ⟨v,cR,hv,eb,dS⟩:=h.part aP (by rcases eM with rfl | rfl <;> simp);rw [h1] at hv;cases hv;have iD:cs[k]?=some y:=by rcases eM with rfl | rfl <;> simpa [aj.kids] using aA
   obtain ⟨b,gJ,f',lI,l6,hd,bR,ka⟩:=eb.node eM iD;rw [f'] at al;cases al;refine ⟨gJ,by simp only [execOp,aS]; simp [M1 aG lI],DT 0 (by rw [si,aP]; exact aA) (by rw [wz,h1]; exact l6) ka⟩
 | @vT x _ t p k m z n y cs J aG aA eM hm =>
  obtain ⟨⟨u,ad,h1,al,aS⟩,b7⟩:=(gu J).ni;obtain ⟨v,cR,hv,eb,dS⟩:=h.part aA (by rcases eM with rfl | rfl <;> simp);rw [h1] at hv;cases hv;have tS:∃ b,ad=⟨b,0,none⟩:=by
   obtain ⟨y',mH,hP,hZ,cs',L_,bg⟩:=b7;rw [aA] at mH;cases mH;have:cs'=cs:=by rcases eM with rfl | rfl <;> rcases L_ with ca | ca <;> cases ca <;> rfl
   subst this;obtain ⟨b,gJ,f',_⟩:=eb.node L_ (List.getElem?_eq_getElem bg);rw [f'] at al;exact ⟨b,(Option.some.inj al).symm⟩
  obtain ⟨b,rfl⟩:=tS;have Gm:y.kids=cs:=by rcases eM with rfl | rfl <;> rfl
  have cell:∀ af,af<m->∃ gJ,w.cell? ⟨b,k+af,none⟩=some gJ/\gJ.oneCell'=true/\∃ kz,cs[k+af]?=some kz/\R w I (eG w T g) (ig 0 (p.push (k+af)) kz) gJ c0:=by
   intro af aa;have gC:cs[k+af]?=some cs[k+af]:=List.getElem?_eq_getElem (by omega);obtain ⟨iW,gJ,f',lI,l6,hd,bR,ka⟩:=eb.node eM gC;rw [al] at f';cases f';exact ⟨gJ,lI,hd,_,gC,DT 0 (by rw [si,aA]; simp [Gm]) (by rw [wz,h1]; exact l6) ka⟩
  have hex:∃ us:List Value,us.length=m/\∀ af v,us[af]?=some v->w.cell? ⟨b,k+af,none⟩=some v:=by
   refine ⟨(List.range m).map λaf=>(w.cell? ⟨b,k+af,none⟩).getD undef,by simp,?_⟩;intro af v aa;rw [List.getElem?_map] at aa;by_cases xD:af<m
   ·rw [List.getElem?_range xD] at aa;simp only [Option.map_some,Option.some.injEq] at aa;obtain ⟨gJ,ae,_⟩:=cell af xD;rw [ae] at aa;simp only [Option.getD_some] at aa;rw [ae,aa]
   ·rw [List.getElem?_eq_none (by simp; omega)] at aa; cases aa
  obtain ⟨us,qT,GL⟩:=hex;refine ⟨.agg us.toArray,by simp only [execOp,aS]; simp [M0 aG qT (b:=b) (o:=k) GL],.agg (Fs:=λ_=>c0) (by simp; omega) (λaf u fP=>by
   have aa:=GL af u (by simpa using fP);have xD:af<m:=by rw [<- qT]; exact (List.getElem?_eq_some_iff.1 (by simpa using fP:us[af]?=some u)).1
   obtain ⟨gJ,ae,zr,_⟩:=cell af xD;rw [ae] at aa; cases aa; exact zr) (λaf jX u nh fP=>?_) (λ_ _ _ _ _ h=>h.elim) (λc=>⟨λh=>h.elim,λ⟨_,_,h⟩=>h⟩)⟩
  rw [List.getElem?_mapIdx,List.getElem?_take] at nh
  split at nh
  ·rename_i xD;rw [List.getElem?_drop] at nh;obtain ⟨gJ,ae,_,kz,TZ,bm⟩:=cell af xD;rw [TZ] at nh;simp only [Option.map_some,Option.some.injEq] at nh;subst nh;have:=GL af u (by simpa using fP);rw [ae] at this;cases this;exact bm
  ·cases nh
 | @Cr x _ s d n N p cs xs J aH aP hI aG =>
  obtain ⟨e,aO,he,aZ⟩:=JF aG;obtain ⟨⟨kY,je,cap,h1,al,aS⟩,_⟩:=(gu J).mI;obtain ⟨v,cR,hv,eb,dS⟩:=h.part aH (by simp);rw [h1] at hv;cases hv;have hG:(cs.take n).length=n:=by
   obtain ⟨_,_,_,aq⟩:=eb.mL;rw [List.length_take]; omega
  have hlen:xs.length=n:=by rw [<- hG,hI,List.length_map]
  refine ⟨_,?_,.lit rfl no⟩;obtain ⟨_,_,kd,_,_,qb,rP⟩:=eb.mL;cases kd;cases kY with
  | none =>
   have bf:n=0:=by
    rcases Nat.eq_zero_or_pos N with h | h
    ·omega
    ·exact absurd (rP h) (by simp)
   have:xs=[]:=List.eq_nil_of_length_eq_zero (hlen.trans bf);subst this;have ax:=run_convert_bytes_nil (P:=P) (w:=w) s e aO he n cap d aZ;simp [execOp,al,ax];rfl
  | some ad =>
   obtain ⟨b,o,sp⟩:=ad;obtain ⟨rfl,rfl⟩:=qb _ rfl;have ax:=run_convert_bytes_arg (P:=P) w s e aO he b 0 n cap xs hlen (λi hi=>by
    have zH:(cs.take n)[i]?=some (.lit (.int .u8 (xs.getD i 0))):=by
     rw [hI,List.getElem?_map,List.getElem?_eq_getElem (by omega)];simp [List.getD,List.getElem?_eq_getElem (show i<xs.length by omega)]
    have Su:cs[i]?=some (.lit (.int .u8 (xs.getD i 0))):=by
     rw [List.getElem?_take] at zH;simpa [hi] using zH
    obtain ⟨iW,u,f',lI,_,_,bR,ka⟩:=eb.node (.inl rfl) Su;simp only [addrOf,Option.some.injEq,Addr.mk.injEq,and_true] at f';subst f';rw [Nat.zero_add,lI,ka.iu.1]) d aZ
   simp [execOp,al,ax]
 | @Cs x _ s d n xs J aG =>
  obtain ⟨e,aO,he,aZ⟩:=JF aG;have bm:=gu J;generalize p':a.eval x=v at bm;refine ⟨_,?_,.lit rfl no⟩;generalize hI:(xs.map λb=>aj.lit (.int .u8 b))=cs at bm;cases bm with
  | ref J=>simp [aj.isRef] at J
  | @hW _ cap kY _ aQ =>
   have:xs=[]:=by simpa using hI
   subst this;cases kY with
   | none =>
    have ax:=run_convert_bytes_nil (P:=P) (w:=w) s e aO he 0 cap d aZ;simp [execOp,p',ax];rfl
   | some ad =>
    have aq:(loadCells ad 0).run P w=.ok (([]:List Int).map (Value.int .u8)).toArray w:=by
     have:=run_loadCells_list (P:=P) w ad [] (λaf v aa=>by simp at aa);simpa using this
    have ax:=run_bytesToString w ad 0 cap [] aq;have ae:=run_convert_bytes_string (P:=P) w s d e (some ad) 0 cap aO he aZ;rw [ax] at ae;simp [execOp,p',ae];rfl
  | @aD _ _ cap _ ad us _ aQ k5 bt xN aq h1 ae ax =>
   obtain ⟨b,o,sp⟩:=ad;simp only at xN;subst xN;have hlen:xs.length=n:=by rw [<- List.length_map (f:=λb=>aj.lit (.int .u8 b)),hI,aq,Nat.mul_one]
   have e2:=run_convert_bytes_arg (P:=P) w s e aO he b o n cap xs hlen (λi hi=>by
    have zH:cs[i]?=some (.lit (.int .u8 (xs.getD i 0))):=by
     rw [<- hI,List.getElem?_map,List.getElem?_eq_getElem (by omega)];simp [List.getD,List.getElem?_eq_getElem (show i<xs.length by omega)]
    have:=ae i _ zH;simp only at this;rw [this,(ax i _ zH).iu.1]) d aZ
   simp [execOp,p',e2]
 | @Fk xs iF _ f vs v J hv ax =>
  refine ⟨v,?_,.lit hv no⟩;have xO:xs.map a.eval=vs.toArray:=by
   apply Array.toList_inj.1;apply List.ext_getElem?;intro k;have:=congrArg (·[k]?) J;simp only [List.getElem?_map] at this;rw [Array.toList_map,List.getElem?_map];cases hk:xs.toList[k]? with
   | none =>
    rw [hk] at this;cases hv:vs[k]? with
    | none=>simp
    | some v=>rw [hv] at this; cases this
   | some o =>
    rw [hk] at this;cases hv:vs[k]? with
    | none=>rw [hv] at this; cases this
    | some v =>
     rw [hv] at this;simp only [Option.map_some,Option.some.injEq] at this ⊢;rw [(gu this).iu.1]
  have bp:a.eval (.func f)=.func (.func f) #[] #[]:=rfl;simp [execOp,resolve,Deferred.ofValue,invoke,bp,xO,ax]
 | @Dj x i _ t s nk af b J hi aG aJ =>
  have sS:=(gu J).iu.1;have qO:=(gu hi).iu.1;refine ⟨.int .u8 b.toNat,?_,.lit rfl no⟩;simp [execOp,sS,qO,Instr.index,run_underlying (It aG),asIntOf,aJ]
 | @bin op x y _ t t2 cJ b v J aA hv ax =>
  have h1:=(gu J).iu.1;have al:=(gu aA).iu.1;refine ⟨v,?_,.lit hv no⟩;simp only [execOp,h1,al,Sem.run_bind (x:=do eqGuard op t x y cJ b; binOp op t cJ b),ax,Result.andThen_ok,Sem.run_pure]
 | @yT op x y _ t t2 dK dF v J aA hv ax =>
  have h1:=Jd ((gu J).Ae no);have al:=Jd ((gu aA).Ae no);refine ⟨v,?_,.lit hv no⟩;simp only [execOp,h1,al,Sem.run_bind (x:=do eqGuard op t x y (.agg dK.toArray) (.agg dF.toArray); binOp op t (.agg dK.toArray) (.agg dF.toArray)),ax,Result.andThen_ok,Sem.run_pure]
 | @un op x _ t cJ v J hv ax =>
  have h1:=(gu J).iu.1;exact ⟨v,by simp [execOp,h1,ax],.lit hv no⟩
 | @conv x _ s d cJ v J hv ax =>
  have h1:=(gu J).iu.1;exact ⟨v,by simp [execOp,h1,ax],.lit hv no⟩
 | @Cw x _ i cs y J aA =>
  obtain ⟨vs,aS,aq,ax⟩:=(gu J).Uh no;have hk:i<cs.length:=(List.getElem?_eq_some_iff.1 aA).1;have hv:vs[i]?=some vs[i]:=Array.getElem?_eq_getElem (aq ▸ hk);exact ⟨_,by simp [execOp,aS,Instr.extract,hv],ax _ ki _ aA hv⟩
 | @Bt x lo hi _ t e z n l ca cs J aq tZ aG rN aP =>
  obtain ⟨hu,he,bH⟩:=pS (w:=w) aG;obtain ⟨kY,cap,aS,k5,hlen,hm⟩:=(gu J).xS;have aJ:=DW (P:=P) (w:=w) (len:=n) (cap:=cap) (aq.sound h bk) (tZ.sound h bk) true rN (by omega);have iq:(execOp a.eval { dst:=dst,op:=.slice t x lo hi none,type:=ty,pos:=pos,after:=after,guard:=guard }).run P w=.ok (.value (sliced kY l ca cap z)) w:=by
   simp [execOp,aS,Instr.sliceAt,run_underlying hu,Instr.slice,aJ,bH,sliced]
  refine ⟨_,iq,?_⟩;by_cases bf:ca - l=0
  ·rw [bf];simp only [Nat.zero_mul,List.take_zero,sliced,bf];exact .hW no
  ·obtain ⟨ad,us,rfl,bt,aO,hd,ae,ax⟩:=hm (.inr (by omega));obtain ⟨b,o,sp⟩:=ad;simp only at aO;subst aO;have hG:cap≠l:=by omega
   simp only [sliced,hG,if_false,Option.map_some,add_eq];have zN:((cs.drop (l * z)).take ((ca - l) * z)).length=(ca - l) * z:=by
    rw [List.length_take,List.length_drop,hlen];have:(ca - l) * z+l * z<=n * z:=by rw [<- Nat.add_mul]; exact Nat.mul_le_mul_right _ (by omega)
    omega
   refine .aD (us:=λk=>us (l * z+k)) no (by omega) bt rfl zN (λk x hk=>hd (l * z+k) x (by
    rw [List.getElem?_take] at hk
    split at hk
    ·rwa [List.getElem?_drop] at hk
    ·cases hk)) (λk x hk=>?_) λk x hk=>?_
   ·rw [List.getElem?_take] at hk
    split at hk
    ·rw [List.getElem?_drop] at hk; simpa [Nat.add_assoc] using ae _ x hk
    ·cases hk
   ·rw [List.getElem?_take] at hk
    split at hk
    ·rw [List.getElem?_drop] at hk; exact ax _ x hk
    ·cases hk
 | @D4 x lo hi _ t e z n ca p J aq tZ aG aP e8 =>
  obtain ⟨hu,he,bH⟩:=pS (w:=w) aG;obtain ⟨⟨kY,N,cap,h1,al,aS⟩,b7⟩:=(gu J).mI;have k5:N<=cap:=by
   rcases b7 with ⟨je,cs,dv,eC⟩ | ⟨bf,q,hB,m,new,dv,eC⟩
   ·obtain ⟨v,cR,hv,eb,_⟩:=h.part dv (by simp);rw [h1] at hv;obtain ⟨_,qC,Gd,hle,_⟩:=eb.mL;rw [Gd] at hv;cases hv;exact hle
   ·obtain ⟨v,hv,eb⟩:=h.rel _ _ dv;simp only [eI,hv,bf,walk,Option.some.injEq] at h1;subst h1;obtain ⟨bv,cY,de,us,news,eb⟩:=eb.uo;obtain ⟨_,mB⟩:=eb.mB;rcases mB with ⟨ca,bf⟩ | ⟨b,c2,cur,ca,_,_,hle,_⟩
    ·cases ca; exact Nat.le_refl _
    ·cases ca; exact hle
  have aJ:=DW (P:=P) (w:=w) (len:=n) (cap:=cap) (aq.sound h bk) (tZ.sound h bk) true (Nat.zero_le _) (by omega);refine ⟨.slice kY ca cap,?_,.ref rfl ⟨⟨kY,N,cap,h1,rfl,by omega⟩,e8⟩ no⟩;simp [execOp,al,Instr.sliceAt,run_underlying hu,Instr.slice,aJ,bH];cases kY with
  | none=>simp
  | some ad=>simp [Addr.add]
 | @D3 x lo hi _ t e z n l ca p J aq tZ aG rN aP e8 =>
  obtain ⟨hu,he,bH⟩:=pS (w:=w) aG;obtain ⟨⟨kY,N,cap,h1,al,aS⟩,b7⟩:=(gu J).mI;obtain ⟨je,cs,dv,eC⟩:=e8;obtain ⟨v,cR,hv,eb,_⟩:=h.part dv (by simp);rw [h1] at hv;obtain ⟨a2,qC,Gd,hle,hlen,qb,rP⟩:=eb.mL;rw [Gd] at hv;cases hv;have aJ:=DW (P:=P) (w:=w) (len:=n) (cap:=cap) (aq.sound h bk) (tZ.sound h bk) true rN (by omega);refine ⟨sliced kY l ca cap z,?_,.ref rfl ⟨⟨kY,_,cap,_,_,h1,rfl,by omega,by omega,λue=>?_⟩,_,cs,dv,eC⟩ no⟩
  ·simp [execOp,al,Instr.sliceAt,run_underlying hu,Instr.slice,aJ,bH,sliced]
  ·have aO:=rP (by omega);cases kY with
   | none=>simp at aO
   | some ad =>
    obtain ⟨bf,k7⟩:=qb ad rfl;obtain ⟨b,o,sp⟩:=ad;simp only at bf k7;subst bf k7;exact ⟨_,rfl,by rw [if_neg (by omega)]; simp [add_eq]⟩
 | @Bu x lo hi _ t l ca s J aq tZ aG rN aP =>
  have sS:=(gu J).iu.1;have aJ:=DW (P:=P) (w:=w) (len:=s.size) (cap:=s.size) (aq.sound h bk) (tZ.sound h bk) false rN aP;exact ⟨.string (s.extract l ca),by simp [execOp,sS,Instr.sliceAt,run_underlying (It aG),Instr.slice,aJ],.lit rfl no⟩
 | @Al x _ t e z cN n cs J aG =>
  obtain ⟨hu,he,bH⟩:=pS (w:=w) aG;obtain ⟨kY,cap,aS,_⟩:=(gu J).xS;exact ⟨_,by simp [execOp,resolve,invoke,builtin,aS,Builtin.len_,run_underlying hu,goInt],.lit rfl no⟩
 | @Ak x _ t e z cN n p J aG =>
  obtain ⟨hu,he,bH⟩:=pS (w:=w) aG;obtain ⟨⟨kY,N,cap,h1,al,aS⟩,b7⟩:=(gu J).mI;exact ⟨_,by simp [execOp,resolve,invoke,builtin,al,Builtin.len_,run_underlying hu,goInt],.lit rfl no⟩
 | @Hw x _ t e z cN lo n p J aG =>
  obtain ⟨hu,he,bH⟩:=pS (w:=w) aG;obtain ⟨⟨kY,N,cap,cJ,l0,h1,al,_,aS,dv⟩,b7⟩:=(gu J).vJ;exact ⟨_,by simp [execOp,resolve,invoke,builtin,al,Builtin.len_,run_underlying hu,goInt],.lit rfl no⟩
 | @Hv x _ t e cN J aG =>
  obtain ⟨hu,he,bH⟩:=pS (w:=w) aG;have al:=(gu J).q0;exact ⟨_,by simp [execOp,resolve,invoke,builtin,al,Builtin.len_,run_underlying hu,goInt],.lit rfl no⟩
 | @lits b xs iF _ vs v J hv ax =>
  have oG:xs.map a.eval=vs.toArray:=by
   apply Array.ext';rw [Array.toList_map];exact Mj h bk xs.toList vs J
  refine ⟨v,?_,.lit hv no⟩;simp [execOp,resolve,invoke,oG,ax]
 | @Hx x y _ t p q ok Y _ pI V J aH aA eJ bm ax =>
  obtain ⟨⟨b,aJ,hv⟩,_⟩:=(gu J).Ug;obtain ⟨h0,cR,jk,eb,_⟩:=h.part aH (by simp);rw [aJ] at jk;cases jk;obtain ⟨iW,es,clock,e,bj,bW,_⟩:=eb.Uf;cases e;refine ⟨V,?_,bm _ _ _⟩;simp [execOp,hv,eJ _ _ _ _ (gu aA),ax w _ _ _ bj bW]
 | @Am x y _ t q ok Y _ pI V J aA eJ bm ax =>
  obtain ⟨b,es,clock,hv,bj,bW⟩:=(gu J).Ue;refine ⟨V,?_,bm _ _ _⟩;simp [execOp,hv,eJ _ _ _ _ (gu aA),ax w _ _ _ bj bW]
end
end Go.Own
namespace Go.Own
open Go
structure Fr (w w':World) (U:bu):Prop where
 os:w'.os=w.os
 tape:w'.tape=w.tape
 output:w'.output=w.output
 size:w.heap.size<=w'.heap.size
 block:∀ b,b<w.heap.size->¬ U b->w'.heap[b]?=w.heap[b]?
 e7:∀ a,a.block<w.heap.size->w'.frozen? a=w.frozen? a
 xj:w.drawn<=w'.drawn
theorem Fr.refl (w:World) (U:bu):Fr w w U:=⟨rfl,rfl,rfl,Nat.le_refl _,λ_ _ _=>rfl,λ_ _=>rfl,Nat.le_refl _⟩
theorem Fr.mono {w w':World}{U B2:bu}(h:Fr w w' U) (gQ:∀ b,b<w.heap.size->U b->B2 b):Fr w w' B2:=⟨h.os,h.tape,h.output,h.size,λb aJ aP=>h.block b aJ λhu=>aP (gQ b aJ hu),h.e7,h.xj⟩
theorem Fr.trans {w jH iw:World}{U w1:bu}(h:Fr w jH U) (h1:Fr jH iw w1) (gQ:∀ b,b<w.heap.size->w1 b->U b):Fr w iw U :=
 ⟨h1.os.trans h.os,h1.tape.trans h.tape,h1.output.trans h.output,Nat.le_trans h.size h1.size,λb aJ aP=>(h1.block b (Nat.lt_of_lt_of_le aJ h.size) λhu=>aP (gQ b aJ hu)).trans (h.block b aJ aP),λa bk=>(h1.e7 a (Nat.lt_of_lt_of_le bk h.size)).trans (h.e7 a bk),Nat.le_trans h.xj h1.xj⟩
theorem rq (w:World) (o:Obj) (k:Nat) (h:k<w.heap.size):(w.alloc o).heap[k]?=w.heap[k]?:=by
 show (w.heap.push o)[k]?=_;rw [Array.getElem?_push,if_neg (by omega)]
theorem sg (w:World) (o:Obj):(w.alloc o).heap[w.heap.size]?=some o:=by
 show (w.heap.push o)[w.heap.size]?=_;simp
theorem Ft (w:World) (arr:Array Value) (t:TypeId) (a:Addr):(w.alloc (.cells arr t (0,0))).frozen? a=w.frozen? a:=by
 unfold World.frozen?;by_cases h:a.block=w.heap.size
 ·rw [h,sg];have:w.heap[w.heap.size]?=none:=by simp
  rw [this];simp
 ·by_cases al:a.block<w.heap.size
  ·rw [rq w _ _ al]
  ·have aS:(w.alloc (.cells arr t (0,0))).heap[a.block]?=none:=by
    show (w.heap.push _)[a.block]?=_;rw [Array.getElem?_eq_none];simp; omega
   have b7:w.heap[a.block]?=none:=Array.getElem?_eq_none (by omega);rw [aS,b7]
theorem Fv (w:World) (g:Nat) (cs:Array Value) (a:Addr):(w.setRow g cs).frozen? a=w.frozen? a:=by
 unfold World.frozen? World.setRow;simp only [Array.getElem?_modify];by_cases h:g=a.block
 ·subst h;rw [if_pos rfl];cases ca:w.heap[a.block]? with
  | none=>rfl
  | some o=>cases o <;> rfl
 ·rw [if_neg h]
theorem Q1 (w:World) (es:Array MapEntry) (n:Nat) (a:Addr):(w.alloc (.map es n)).frozen? a=w.frozen? a:=by
 unfold World.frozen?;by_cases h:a.block=w.heap.size
 ·rw [h,sg];have:w.heap[w.heap.size]?=none:=by simp
  rw [this]
 ·by_cases al:a.block<w.heap.size
  ·rw [rq w _ _ al]
  ·have aS:(w.alloc (.map es n)).heap[a.block]?=none:=by
    show (w.heap.push _)[a.block]?=_;rw [Array.getElem?_eq_none];simp; omega
   have b7:w.heap[a.block]?=none:=Array.getElem?_eq_none (by omega);rw [aS,b7]
def ML (o:Obj):Prop:=(∃ arr e,o=.cells arr e (0,0))\/∃ es n,o=.map es n
theorem Fr.alloc (w:World) (o:Obj) (U:bu) (bj:ML o):Fr w (w.alloc o) U:=by
 refine ⟨rfl,rfl,rfl,by simp,λb aJ _=>rq w o b aJ,λa _=>?_,Nat.le_refl _⟩;rcases bj with ⟨arr,e,rfl⟩ | ⟨es,n,rfl⟩
 ·exact Ft w arr e a
 ·exact Q1 w es n a
theorem R.UX {w:World}{I:bu}{ρ:aj->Value->Prop}{x:aj}{v:Value}{F:bu}(h:R w I ρ x v F):∀ c,F c->∃ o,w.heap[c]?=some o/\ML o:=by
 induction h with
 | mp bj _ aQ =>
  intro c ae;cases (aQ c).1 ae;exact ⟨_,bj,.inr ⟨_,_,rfl⟩⟩
 | lit _ aQ | aF aQ | dead aQ | ref _ _ aQ | hW aQ | aD aQ | bn aQ | eB aQ | imp aQ=>exact λc ae=>absurd ae (aQ c)
 | own bj aq h1 ax aZ aJ aQ aR =>
  intro c ae;rcases (aQ c).1 ae with h | ⟨k,hk,h⟩
  ·obtain ⟨_,ca⟩:=bj;rcases ca with ⟨rfl,_⟩ | ⟨b,cap,cur,rfl,_,fR,_⟩
   ·simp [Value.ownBlock] at h
   ·simp only [Value.ownBlock,Option.some.injEq] at h;subst h;exact ⟨_,fR,.inl ⟨_,_,rfl⟩⟩
  ·exact aR k _ _ (List.getElem?_eq_getElem hk) (List.getElem?_eq_getElem (aq ▸ hk)) c h
 | obj bj aq h1 ax aZ aJ aQ aR =>
  intro c ae;rcases (aQ c).1 ae with rfl | ⟨k,hk,h⟩
  ·exact ⟨_,bj,.inl ⟨_,_,rfl⟩⟩
  ·exact aR k _ _ (List.getElem?_eq_getElem hk) (Array.getElem?_eq_getElem (aq ▸ hk)) c h
 | agg aq h1 ax aZ aQ aR =>
  intro c ae;obtain ⟨k,hk,h⟩:=(aQ c).1 ae;exact aR k _ _ (List.getElem?_eq_getElem hk) (Array.getElem?_eq_getElem (aq ▸ hk)) c h
 | cA aq ax aZ aQ aR =>
  intro c ae;obtain ⟨k,hk,h⟩:=(aQ c).1 ae;exact aR k _ _ (List.getElem?_eq_getElem hk) (Array.getElem?_eq_getElem (aq ▸ hk)) c h
theorem Fr.drew {w w':World}{U:bu}(h:Fr w w' U):Fr w w'.drew U:=⟨h.os,h.tape,h.output,h.size,h.block,h.e7,Nat.le_succ_of_le h.xj⟩
section
variable {w:World}{I:bu}{T:Array Value}{g:a7}{Fs:Nat->bu}
theorem dd.j3 (h:dd w I T g Fs):∀ t c,Fs t c->c<w.heap.size:=by
 intro t c ae;cases J:g t with
 | none=>exact absurd ae (h.kL t J c)
 | some y=>obtain ⟨u,_,eb⟩:=h.rel t y J; exact eb.lt c ae
theorem dd.world (h:dd w I T g Fs) {w':World}(aQ:∀ t c,Fs t c->w'.heap[c]?=w.heap[c]?) (bt:∀ c,I c->w'.heap[c]?=w.heap[c]?) (gy:w.heap.size<=w'.heap.size):dd w' I T g Fs :=
  ⟨λt x J=>by
    obtain ⟨v,hv,bm⟩:=h.rel t x J;exact ⟨v,hv,h.vn (λ_ _=>rfl) aQ bt (λ_ h=>h) (λ_ _ h=>h) bm λc ae=>aQ t c ae⟩,
   h.kL,h.fi,h.aD,λc ae=>Nat.lt_of_lt_of_le (h.lt c ae) gy,h.qj⟩
theorem dd.alloc (h:dd w I T g Fs) (o:Obj):dd (w.alloc o) I T g Fs :=
 h.world (λt c ae=>rq w o c (h.j3 t c ae)) (λc ae=>rq w o c (h.lt c ae)) (by simp)
theorem dd.s7 (h:dd w I T g Fs) {d:Nat}{x:aj}{v:Value}{F:bu}(aZ:g d=none) (Sz:d<T.size)
  (bm:jM w I (eG w T g) x v F) (qQ:∀ t c,F c->¬ Fs t c) (S2:∀ c,F c->¬ I c)
  (aH:∀ z p n m new,x=.bY z p n m new->∀ t cN c5 cb ds,g t≠some (.bY cN p c5 cb ds)) :
  dd w I (T.setIfInBounds d v) (fc g d x) (te Fs d F):=by
 have fO:∀ t,g t≠none->(T.setIfInBounds d v)[t]?=T[t]?:=by
  intro t aG;rw [Array.getElem?_setIfInBounds_ne];rintro rfl; exact aG aZ
 refine ⟨?_,?_,?_,?_,h.lt,?_⟩
 ·intro t y aA;unfold fc at aA
  split at aA
  ·rename_i sT;subst sT;cases aA;exact ⟨v,by simp [Sz],by simpa [te] using h.vn fO (λ_ _ _=>rfl) (λ_ _=>rfl) (λ_ h=>h) (NC aZ) bm λ_ _=>rfl⟩
  ·rename_i sT;obtain ⟨u,hu,eb⟩:=h.rel t y aA;exact ⟨u,by rw [fO t (by rw [aA]; simp)]; exact hu,by simpa [te,sT] using h.vn fO (λ_ _ _=>rfl) (λ_ _=>rfl) (λ_ h=>h) (NC aZ) eb λ_ _=>rfl⟩
 ·intro t aG c;unfold fc at aG
  split at aG
  ·cases aG
  ·rename_i sT; simpa [te,sT] using h.kL t aG c
 ·intro t dD c ae fz;by_cases h1:t=d <;> by_cases al:dD=d <;> simp [te,h1,al] at ae fz
  ·rw [h1,al]
  ·exact absurd fz (qQ dD c ae)
  ·exact absurd ae (qQ t c fz)
  ·exact h.fi t dD c ae fz
 ·intro t c ae hi;by_cases h1:t=d <;> simp [te,h1] at ae
  ·exact S2 c ae hi
  ·exact h.aD t c ae hi
 ·intro t dD z p n m new cN c5 cb ds h1 al;unfold fc at h1 al
  split at h1 <;> split at al
  ·rename_i a b; rw [a,b]
  ·cases h1; exact absurd al (aH z p n m new rfl dD cN c5 cb ds)
  ·cases al; exact absurd h1 (aH cN p c5 cb ds rfl t z n m new)
  ·exact h.qj _ _ _ _ _ _ _ _ _ _ _ h1 al
end
def lY:aj->Option (List aj)
 | .agg cs=>some cs
 | .lit v=>some [.lit v]
 | .aF=>some [.aF]
 | .aD z n cs=>some [.aD z n cs]
 | .bn cs=>some [.bn cs]
 | .ptr p k=>some [.ptr p k]
 | .bh z p n=>some [.bh z p n]
 | .sub z p l n=>some [.sub z p l n]
 | .eB f a b=>some [.eB f a b]
 | _=>none
theorem R.lY {w:World}{I:bu}{ρ:aj->Value->Prop}{y:aj}{v:Value}{F:bu}(h:R w I ρ y v F) (aQ:∀ c,¬ F c) (lx:∀ x v,x.isRef=true->ρ x v->v.oneCell'=true) {cs:List aj}(ae:lY y=some cs) :
  cs.length=v.cells.size/\(∀ (k:Nat) (u:Value),v.cells[k]?=some u->u.oneCell'=true)/\(∀ (k:Nat) (x:aj) (u:Value),cs[k]?=some x->v.cells[k]?=some u->R w I ρ x u c0):=by
 have one:∀ {y:aj},R w I ρ y v F->v.oneCell'=true->[y].length=v.cells.size/\(∀ (k:Nat) (u:Value),v.cells[k]?=some u->u.oneCell'=true)/\(∀ (k:Nat) (x:aj) (u:Value),[y][k]?=some x->v.cells[k]?=some u->R w I ρ x u c0):=by
  intro y h h1;have xA:v.cells=#[v]:=by cases v <;> first | rfl | (simp [Value.oneCell'] at h1)
  refine ⟨by simp [xA],λk u hu=>?_,λk x u J hu=>?_⟩
  ·rw [xA] at hu;cases k with
   | zero=>simp at hu; subst hu; exact h1
   | succ k=>simp at hu
  rw [xA] at hu;cases k with
  | zero=>simp at J hu; subst J hu; exact h.empty aQ
  | succ k=>simp at J
 cases y <;> simp only [Go.Own.lY,Option.some.injEq,reduceCtorEq] at ae
 case agg l =>
  subst ae;obtain ⟨vs,rfl,aq,h1,ax⟩:=h.Ae aQ;exact ⟨aq,h1,ax⟩
 case lit a=>subst ae; exact one h (by obtain ⟨rfl,h1⟩:=h.iu; exact h1)
 case aF=>subst ae; exact one h (by rw [h.q0]; rfl)
 case aD z n l=>subst ae; exact one h (by obtain ⟨a,cap,rfl,_⟩:=h.xS; rfl)
 case bn l=>subst ae; exact one h (by obtain ⟨ad,us,rfl,_⟩:=h.vI; rfl)
 case ptr p k=>subst ae; exact one h (lx _ _ rfl h.ni)
 case bh z p n=>subst ae; exact one h (lx _ _ rfl h.mI)
 case sub z p l n=>subst ae; exact one h (lx _ _ rfl h.vJ)
 case eB f a b =>
  subst ae;refine one h ?_;cases h with
  | eB=>rfl
  | ref J=>simp [aj.isRef] at J
theorem eG.DE {w:World}{T:Array Value}{g:a7}{x:aj}{v:Value}(J:x.isRef=true) (h:eG w T g x v):v.oneCell'=true:=by
 obtain ⟨h,_⟩:=h;cases x <;> simp [aj.isRef] at J
 case ptr p k=>obtain ⟨_,_,_,_,rfl⟩:=h; rfl
 case bh z p n=>obtain ⟨_,_,_,_,rfl,_⟩:=h; rfl
 case sub z p lo n=>obtain ⟨_,_,_,_,_,_,rfl,_⟩:=h; rfl
 case i' p=>obtain ⟨_,_,rfl⟩:=h; rfl
def pf:List aj->Option (List aj)
 | []=>some []
 | y::ys =>
  match lY y,pf ys with
  | some a,some b=>some (a++b)
  | _,_=>none
def iN (g:a7):List Operand->Option (List aj)
 | []=>some []
 | x::xs =>
  match bT g x,iN g xs with
  | some y,some ys=>some (y::ys)
  | _,_=>none
def xt (place:Nat->Option (Nat × Nat)) (cells:List aj):List (Nat × List aj)->Option (List aj)
 | []=>some cells
 | (i,c)::rest =>
  match place i with
  | none=>none
  | some (off,size)=>if c.length=size/\off+c.length<=cells.length then xt place (cells.take off++c++cells.drop (off+c.length)) rest else none
def q5 (g:a7):List (Nat × Operand)->Option (List (Nat × List aj))
 | []=>some []
 | (i,x)::xs =>
  match bT g x,q5 g xs with
  | some y,some ys=>(lY y).map λc=>(i,c)::ys
  | _,_=>none
def kP (P:Program) (t:TypeId) (pl:List (Nat × Nat)):Bool :=
 match P.underlying t with
 | some (.struct fs)=>fs.toList.map (λf=>(f.offset,(P.info? f.type).map (·.size))) == pl.map λ(a,b)=>(a,some b)
 | _=>false
inductive o8 (P:Program) (g:a7):Op->TypeId->aj->Prop
 | box {e ty:TypeId}{x:Operand}{y:aj}{cs:List aj}(J:bT g x=some y) (ae:lY y=some cs):o8 P g (.box e x) ty (.obj cs)
 | alloc {e ty:TypeId}{z:Value}(bH:(P.info? e).bind (·.zero)=some z) (h1:z.cells.all Value.oneCell'=true):o8 P g (.alloc e) ty (.obj (z.cells.toList.map oa))
 | buildSlice {t e ty:TypeId}{z:Nat}{parts:Array (Nat × Operand)}{xs:List Operand}{ys:List aj}{cs:List aj}(aG:fu P t e z=true)
   (aH:parts.toList=xs.mapIdx (λi x=>(i,x))) (J:iN g xs=some ys) (bH:∀ y∈ys,∃ c,lY y=some c/\c.length=z) (ae:pf ys=some cs) (aJ:xs.length * z<=16777216) (aP:xs.length<=16777216) (hzero:xs.length * z=0\/∃ v,(P.info? e).bind (·.zero)=some v/\v.cells.size=z) :
   o8 P g (.buildSlice t xs.length parts) ty (.own z xs.length cs)
 | makeSlice {t e ty:TypeId}{x y:Operand}{z n b:Nat}{ur q1:IntKind}{eF:Value}(aG:fu P t e z=true) (J:bT g x=some (.lit (.int ur (n:Int)))) (aA:bT g y=some (.lit (.int q1 (n:Int))))
   (hzero:(P.info? e).bind (·.zero)=some eF) (h1:eF.cells.all Value.oneCell'=true) (n9:eF.cells.size=z) (aJ:(P.info? e).map (·.bytes)=some b) (aP:n * b<=140737488355328) (oH:n<=4611686018427387904) {wF:List aj}(s0:wF.length=eF.cells.size)
   (Dg:∀ (k:Nat) (u:Value) (x:aj),eF.cells[k]?=some u->wF[k]?=some x->x=oa u\/(oa u=.aF/\∃ cN,x=.aD cN 0 [])) :
   o8 P g (.makeSlice t x y) ty (.own z n (List.replicate n wF).flatten)
 | makeMap {t ty:TypeId}{q:Array MapEntry->Nat->Prop}(bW:q #[] 0):o8 P g (.makeMap t none) ty (.mp q)
inductive tt (P:Program) (g:a7):Op->TypeId->aj->Prop
 | build {t ty:TypeId}{parts:Array (Nat × Operand)}{pl:List (Nat × Nat)}{eF:Value}{ps:List (Nat × List aj)}{cs:List aj}(aG:kP P t pl=true) (bH:(P.info? t).bind (·.zero)=some eF) (h1:eF.cells.all Value.oneCell'=true)
   (aH:q5 g parts.toList=some ps) (ae:xt (λi=>pl[i]?) (eF.cells.toList.map oa) ps=some cs):tt P g (.build t parts) ty (.agg cs)
 | makeFunc {fn:Fn}{first caps:Array Operand}{ty:TypeId}{a b:List aj}(bk:iN g first.toList=some a) (aJ:iN g caps.toList=some b):tt P g (.makeFunc fn first caps) ty (.eB fn a b)
section
variable {P:Program}{w:World}{I:bu}{T:Array Value}{g:a7}{Fs:Nat->bu}
theorem x3 (h:dd w I T g Fs) {a:Act}(bk:a.tmps=T):∀ {xs:List Operand}{ys:List aj},iN g xs=some ys->ys.length=xs.length/\∀ (k:Nat) (y:aj) (x:Operand),ys[k]?=some y->xs[k]?=some x->R w I (eG w T g) y (a.eval x) c0
 | [],ys,aA=>by simp only [iN,Option.some.injEq] at aA; subst aA; simp
 | x::xs,ys,aA=>by
  simp only [iN] at aA;cases J:bT g x with
  | none=>simp [J] at aA
  | some y =>
   cases qY:iN g xs with
   | none=>simp [J,qY] at aA
   | some BE =>
    simp only [J,qY,Option.some.injEq] at aA;subst aA;obtain ⟨h1,al⟩:=x3 h bk qY;refine ⟨by simp [h1],λk y' x' mH gC=>?_⟩;cases k with
    | zero=>simp at mH gC; subst mH gC; exact la h J bk
    | succ k=>simp at mH gC; exact al k y' x' mH gC
theorem R.alloc (h:dd w I T g Fs) (o:Obj) {x:aj}{v:Value}{F:bu}(bm:R w I (eG w T g) x v F) (aQ:∀ c,F c->c<w.heap.size):R (w.alloc o) I (eG (w.alloc o) T g) x v F :=
 h.frame (λ_ _=>rfl) (λt c ae=>rq w o c (h.j3 t c ae)) (λc ae=>rq w o c (h.lt c ae)) (λ_ h=>h) (λ_ _ h=>h) bm λc ae=>rq w o c (aQ c ae)
theorem Mr {ρ:aj->Value->Prop}{vs:List Value}:∀ (k:Nat) (x:aj) (u:Value),(vs.map oa)[k]?=some x->vs[k]?=some u->R w I ρ x u c0:=by
 intro k x u J hu;rw [List.getElem?_map,hu] at J;simp only [Option.map_some,Option.some.injEq] at J;subst J;exact Ax u
theorem R.Mq {ρ:aj->Value->Prop}{cs:List aj}{b:Nat}{e:TypeId}{arr:Array Value}(bj:w.heap[b]?=some (.cells arr e (0,0))) (aq:cs.length=arr.size) (h1:∀ (k:Nat) (u:Value),arr[k]?=some u->u.oneCell'=true)
  (ax:∀ (k:Nat) (x:aj) (u:Value),cs[k]?=some x->arr[k]?=some u->R w I ρ x u c0):R w I ρ (.obj cs) (.pointer (some ⟨b,0,none⟩)) (λc=>c=b) :=
 .obj (Fs:=λ_=>c0) bj aq h1 ax (λ_ _ _ _ _ h=>h.elim) (λ_ _ h=>h) (λ_=>⟨λh=>.inl h,λh=>h.elim id λ⟨_,_,h⟩=>h.elim⟩)
theorem R.Mz {ρ:aj->Value->Prop}{z n:Nat}{cs:List aj}{b cap:Nat}{e:TypeId}{arr:Array Value}(bj:w.heap[b]?=some (.cells arr e (0,0))) (aP:n<=cap) (ae:cap<=maxLen) (aO:arr.size=cap * z) (aq:cs.length=n * z) (h1:∀ (k:Nat) (u:Value),arr[k]?=some u->u.oneCell'=true)
  (ax:∀ (k:Nat) (x:aj) (u:Value),cs[k]?=some x->arr[k]?=some u->R w I ρ x u c0):R w I ρ (.own z n cs) (.slice (some ⟨b,0,none⟩) n cap) (λc=>c=b):=by
 have hle:n * z<=arr.size:=by rw [aO]; exact Nat.mul_le_mul_right _ aP
 refine .own (e:=e) (us:=arr.toList.take (n * z)) (Fs:=λ_=>c0) ⟨by simp; omega,.inr ⟨b,cap,arr,rfl,Nat.zero_le _,bj,aP,ae,aO,rfl⟩⟩ (by simp; omega) (λk u hu=>?_) ?_ (λ_ _ _ _ _ h=>h.elim) (λ_ _ _ h=>h.elim) (λc=>?_)
 ·rw [List.getElem?_take] at hu
  split at hu
  ·exact h1 k u (by simpa using hu)
  ·cases hu
 ·intro k x u J hu;rw [List.getElem?_take] at hu
  split at hu
  ·exact ax k x u J (by simpa using hu)
  ·cases hu
 ·simp only [Value.ownBlock,Option.some.injEq];exact ⟨λh=>.inl h.symm,λh=>h.elim Eq.symm λ⟨_,_,h⟩=>h.elim⟩
theorem JB {ρ:aj->Value->Prop}(lx:∀ x v,x.isRef=true->ρ x v->v.oneCell'=true):∀ {ys:List aj}{vs:List Value}{cs:List aj},ys.length=vs.length->(∀ (k:Nat) (y:aj) (v:Value),ys[k]?=some y->vs[k]?=some v->R w I ρ y v c0)->pf ys=some cs ->
  cs.length=(vs.flatMap λv=>v.cells.toList).length/\(∀ (k:Nat) (u:Value),(vs.flatMap λv=>v.cells.toList)[k]?=some u->u.oneCell'=true)/\∀ (k:Nat) (x:aj) (u:Value),cs[k]?=some x->(vs.flatMap λv=>v.cells.toList)[k]?=some u->R w I ρ x u c0
 | [],vs,cs,aq,ax,ae=>by
  cases vs with
  | nil=>simp only [pf,Option.some.injEq] at ae; subst ae; simp
  | cons=>simp at aq
 | y::ys,vs,cs,aq,ax,ae=>by
  cases vs with
  | nil=>simp at aq
  | cons v vs =>
   simp only [pf] at ae;cases bk:lY y with
   | none=>simp [bk] at ae
   | some a =>
    cases aJ:pf ys with
    | none=>simp [bk,aJ] at ae
    | some b =>
     simp only [bk,aJ,Option.some.injEq] at ae;subst ae;obtain ⟨h1,zr,al⟩:=(ax 0 y v rfl rfl).lY (λ_ h=>h) lx bk;obtain ⟨aS,Ra,b7⟩:=JB lx (by simpa using aq) (λk y' h0 aA hv=>ax (k+1) y' h0 aA hv) aJ;refine ⟨by simp [h1,aS],λk u hu=>?_,λk x u J hu=>?_⟩
     ·simp only [List.flatMap_cons] at hu;by_cases hk:k<v.cells.toList.length
      ·rw [List.getElem?_append_left hk] at hu;exact zr k u (by simpa using hu)
      ·rw [List.getElem?_append_right (by omega)] at hu;exact Ra _ u hu
     simp only [List.flatMap_cons] at hu;by_cases hk:k<a.length
     ·rw [List.getElem?_append_left hk] at J;rw [List.getElem?_append_left (by simp; omega)] at hu;exact al k x u J (by simpa using hu)
     ·rw [List.getElem?_append_right (by omega)] at J;rw [List.getElem?_append_right (by simp; omega)] at hu;refine b7 (k - a.length) x u J ?_;rw [<- hu]; simp [h1]
end
end Go.Own
namespace Go.Own
open Go
theorem KJ (off:Nat):∀ (l:List Value) (s:Nat) (arr:Array Value),off+s+l.length<=arr.size ->
  ((l.zipIdx s).foldl (λcs (x:Value × Nat)=>cs.setIfInBounds (off+x.2) x.1) arr).toList=arr.toList.take (off+s)++l++arr.toList.drop (off+s+l.length)
 | [],s,arr,h=>by simp
 | v::l,s,arr,h=>by
  simp only [List.length_cons] at h;rw [List.zipIdx_cons,List.foldl_cons,KJ off l (s+1) _ (by simp; omega)];simp only [Array.toList_setIfInBounds,List.length_cons];have h1:(arr.toList.set (off+s) v).take (off+(s+1))=arr.toList.take (off+s)++[v]:=by
   rw [show off+(s+1)=off+s+1 by omega,List.take_succ_eq_append_getElem (by simp; omega)];rw [List.take_set_of_le (Nat.le_refl _)];simp
  have al:(arr.toList.set (off+s) v).drop (off+(s+1)+l.length)=arr.toList.drop (off+s+(l.length+1)):=by
   rw [List.drop_set_of_lt (by omega)];congr 1; omega
  rw [h1,al];simp
theorem KH {place:Nat->Option (Nat × Nat)}{i off size:Nat}(aH:place i=some (off,size)) {arr:Array Value}{v:Value}(h1:v.cells.size=size) (al:off+v.cells.size<=arr.size) (rest:List (Nat × Value)) :
  ∃ jz:Array Value,Instr.fill place arr ((i,v)::rest)=Instr.fill place jz rest/\jz.toList=arr.toList.take off++v.cells.toList++arr.toList.drop (off+v.cells.size):=by
 refine ⟨_,by simp only [Instr.fill,aH]; rw [if_neg (by simp; omega)],?_⟩;have:=KJ off v.cells.toList 0 arr (by simpa using al);rw [<- Array.foldl_toList,Array.toList_zipIdx];simpa using this
theorem KG (z:Nat):∀ (vs:List Value) (k:Nat) (arr:Array Value) (done rest:List Value),(∀ v∈vs,v.cells.size=z)->arr.toList=done++rest->done.length=k * z->rest.length=vs.length * z ->
  ∃ jz:Array Value,Instr.fill (λi=>some (i * z,z)) arr (vs.mapIdx λi v=>(k+i,v))=some jz/\jz.toList=done++vs.flatMap λv=>v.cells.toList
 | [],k,arr,done,rest,_,h1,al,aS=>by
  have:rest=[]:=List.eq_nil_of_length_eq_zero (by simpa using aS);subst this;exact ⟨arr,rfl,by simpa using h1⟩
 | v::vs,k,arr,done,rest,bH,h1,al,aS=>by
  have hv:=bH v (by simp);have hlen:arr.size=done.length+rest.length:=by rw [<- Array.length_toList,h1,List.length_append]
  simp only [List.length_cons,Nat.add_mul,Nat.one_mul] at aS;rw [List.mapIdx_cons];obtain ⟨B8,dz,de⟩:=KH (place:=λi=>some (i * z,z)) (i:=k+0) (off:=k * z) (size:=z) (by simp) (arr:=arr) (v:=v) hv (by omega) ((vs.mapIdx λi v=>(k+(i+1),v)));have ss:B8.toList=(done++v.cells.toList)++rest.drop z:=by
   rw [de,h1,<- al,List.take_left,hv,List.drop_append];simp
  obtain ⟨jz,j',rH⟩:=KG z vs (k+1) B8 (done++v.cells.toList) (rest.drop z) (λu hu=>bH u (by simp [hu])) ss (by simp [al,hv,Nat.add_mul]) (by simp; omega);refine ⟨jz,?_,by rw [rH]; simp⟩;rw [dz,<- j'];congr 1;congr 1;funext i u;congr 1; omega
theorem EA {vs:Array Value}(h:vs.all Value.oneCell'=true):∀ (k:Nat) (u:Value),vs[k]?=some u->u.oneCell'=true :=
 λ_ u hu=>Array.all_eq_true_iff_forall_mem.1 h u (Array.mem_of_getElem? hu)
theorem EK {P:Program}{e:TypeId}{z:Value}(h:(P.info? e).bind (·.zero)=some z) (w:World):(zeroValue e).run P w=.ok z w:=by
 cases hi:P.info? e with
 | none=>simp [hi] at h
 | some i=>simp [hi] at h; simp [zeroValue,typeInfo,hi,h]
theorem KL {α:Type}(l:List α):∀ (n k:Nat),k<n * l.length->(List.replicate n l).flatten[k]?=l[k % l.length]?
 | 0,k,h=>by simp at h
 | n+1,k,h=>by
  rw [List.replicate_succ,List.flatten_cons];by_cases hk:k<l.length
  ·rw [List.getElem?_append_left hk,Nat.mod_eq_of_lt hk]
  ·rw [List.getElem?_append_right (by omega),KL l n (k - l.length) (by rw [Nat.add_mul] at h; omega)];rw [<- Nat.mod_eq_sub_mod (by omega)]
section
variable {P:Program}{w:World}{I:bu}{T:Array Value}{g:a7}{Fs:Nat->bu}
theorem OT {ys cs:List aj}{z:Nat}(bH:∀ y∈ys,∃ c,lY y=some c/\c.length=z) (ae:pf ys=some cs):cs.length=ys.length * z:=by
 induction ys generalizing cs with
 | nil=>simp [pf] at ae; subst ae; simp
 | cons y ys aR =>
  obtain ⟨c,h1,al⟩:=bH y (by simp);simp only [pf,h1] at ae;cases aJ:pf ys with
  | none=>simp [aJ] at ae
  | some b =>
   simp only [aJ,Option.some.injEq] at ae;subst ae;rw [List.length_append,aR (λy aA=>bH y (by simp [aA])) aJ,al,List.length_cons,Nat.add_mul];omega
theorem o8.sound (h:dd w I T g Fs) {a:Act}(bk:a.tmps=T) {o:Oper}{ki:aj}(aH:o8 P g o.op o.type ki) :
  ∃ v q3,(execOp a.eval o).run P w=.ok (.value v) (w.alloc q3)/\R (w.alloc q3) I (eG (w.alloc q3) T g) ki v (λc=>c=w.heap.size):=by
 obtain ⟨dst,op,ty,pos,after,guard⟩:=o;simp only at aH;have lO:∀ (q3:Obj) {x:aj}{v:Value},R w I (eG w T g) x v c0->R (w.alloc q3) I (eG (w.alloc q3) T g) x v c0:=λq3 _ _ bm=>R.alloc h q3 bm λ_ h=>h.elim;cases aH with
 | @box e _ x y cs J ae =>
  have aA:=la h J bk;obtain ⟨h1,zr,al⟩:=aA.lY (λ_ h=>h) (λ_ _ J ax=>ax.DE J) ae;refine ⟨_,.cells (a.eval x).cells e,by simp [execOp,Instr.box,newVar,newRow],R.Mq (e:=e) (sg w _) h1 zr λk x u J hu=>lO _ (al k x u J hu)⟩
 | @alloc e _ z bH hd =>
  refine ⟨_,.cells z.cells e,by simp [execOp,Instr.alloc,newVar,newRow,EK bH],R.Mq (e:=e) (sg w _) (by simp) (EA hd) λk x u J hu=>lO _ (Mr k x u J (by simpa using hu))⟩
 | @makeMap t _ q bW =>
  have Gx:(Instr.makeMap t none).run P w=.ok (.map (some w.heap.size)) (w.alloc (.map #[] 0)):=rfl;exact ⟨.map (some w.heap.size),.map #[] 0,by simp [execOp,Gx],.mp (sg w _) bW λc=>Iff.rfl⟩
 | @buildSlice t e _ z parts xs ys cs aG aH J bH ae aJ C5 hzero =>
  obtain ⟨hu,he,gy⟩:=pS (w:=w) aG;obtain ⟨aq,ax⟩:=x3 h bk J;have hG:=OT bH ae;have Tv:∀ v∈xs.map a.eval,v.cells.size=z:=by
   intro v hv;obtain ⟨x,G7,rfl⟩:=List.mem_map.1 hv;obtain ⟨k,hk,rfl⟩:=List.mem_iff_getElem.1 G7;have mH:ys[k]?=some (ys[k]'(by omega)):=List.getElem?_eq_getElem (by omega);obtain ⟨c,h1,al⟩:=bH _ (List.getElem_mem (l:=ys) (n:=k) (by omega));obtain ⟨aS,_,_⟩:=(ax k _ _ mH (List.getElem?_eq_getElem hk)).lY (λ_ h=>h) (λ_ _ J ax=>ax.DE J) h1;rw [<- aS,al]
  obtain ⟨eF,T5⟩:∃ eF:Array Value,(xs.length * z=0/\eF=#[])\/(xs.length * z≠0/\∃ v,eF=v.cells/\(zeroValue e).run P w=.ok v w):=by
   by_cases bf:xs.length * z=0
   ·exact ⟨#[],.inl ⟨bf,rfl⟩⟩
   ·rcases hzero with h1 | ⟨v,h1,al⟩
    ·exact absurd h1 bf
    ·exact ⟨v.cells,.inr ⟨bf,v,rfl,EK h1 w⟩⟩
  obtain ⟨arr,dz,de⟩:=KG z (xs.map a.eval) 0 ((Array.range (xs.length * z)).map (eF[· % eF.size]!)) [] ((Array.range (xs.length * z)).map (eF[· % eF.size]!)).toList Tv (by simp) (by simp) (by simp);have LK:(parts.map λ(p:Nat × Operand)=>(p.1,a.eval p.2)).toList=(xs.map a.eval).mapIdx λi v=>(0+i,v):=by
   rw [Array.toList_map,aH];apply List.ext_getElem?;intro k;simp only [List.getElem?_map,List.getElem?_mapIdx];cases xs[k]? <;> simp
  obtain ⟨hI,iZ,Sy⟩:=JB (ρ:=eG w T g) (λ_ _ J ax=>ax.DE J) (ys:=ys) (vs:=xs.map a.eval) (by simp [aq]) (λk y v aA hv=>by
   rw [List.getElem?_map] at hv;cases pE:xs[k]? with
   | none=>simp [pE] at hv
   | some x=>simp [pE] at hv; subst hv; exact ax k y x aA pE) ae
  have vp:arr.toList=(xs.map a.eval).flatMap λv=>v.cells.toList:=by simpa using de
  have Ti:arr.size=xs.length * z:=by rw [<- Array.length_toList,vp,<- hI,hG,aq]
  have iq:(execOp a.eval { dst:=dst,op:=.buildSlice t xs.length parts,type:=ty,pos:=pos,after:=after,guard:=guard }).run P w=.ok (.value (.slice (some ⟨w.heap.size,0,none⟩) xs.length xs.length)) (w.alloc (.cells arr e)):=by
   have hle:¬ (16777216<xs.length * z):=by omega
   rcases T5 with ⟨bf,rfl⟩ | ⟨bf,v,rfl,T4⟩
   ·simp only [bf] at dz;rw [<- LK] at dz;simp at dz;simp [execOp,Instr.buildSlice,run_underlying hu,gy,bf,dz,newRow]
   ·rw [<- LK] at dz;simp at dz;simp [execOp,Instr.buildSlice,run_underlying hu,gy,bf,hle,T4,dz,newRow]
  refine ⟨_,_,iq,R.Mz (e:=e) (arr:=arr) (sg w _) (Nat.le_refl _) ?_ Ti (by rw [hG,aq]) (λk u hu=>iZ k u (by rw [<- vp]; simpa using hu)) λk x u J hu=>lO _ (Sy k x u J ?_)⟩
  ·unfold maxLen; omega
  ·rw [<- vp]; simpa using hu
 | @makeSlice t e _ x y z n b ur q1 eF aG J aA hzero hd n9 aJ aP oH wF s0 Dg =>
  obtain ⟨hu,he,gy⟩:=pS (w:=w) aG;have h1:=(la h J bk).iu.1;have al:=(la h aA bk).iu.1;cases hi:P.info? e with
  | none=>simp [hi] at aJ
  | some i =>
   simp [hi] at aJ hzero;have Gg:i.size=z:=by
    unfold fu at aG;rw [hu] at aG;simp [hi] at aG;exact aG
   have CW:(i.bytes:Int) * (n:Int)<=281474976710656:=by
    have:((b * n:Nat):Int)<=281474976710656:=by have:=Nat.mul_comm n b; omega
    rw [aJ,<- Int.natCast_mul]; exact this
   have ax:=run_make (P:=P) w t e i eF hu hi hzero ur q1 n n (by omega) (Int.le_refl _) CW (by omega);simp only [Int.toNat_natCast] at ax;refine ⟨_,.cells (madeCells eF.cells (n * i.size)) e,by simp [execOp,h1,al,ax],R.Mz (e:=e) (sg w _) (Nat.le_refl _) (by unfold maxLen; omega) (by rw [size_madeCells,Gg]) (by simp [n9,s0]) (λk u hu=>?_) λk x u J hu=>?_⟩
   ·rw [madeCells,Array.getElem?_map,Array.getElem?_range] at hu
    split at hu
    ·rename_i hk;have bf:0<eF.cells.size:=by
      rcases Nat.eq_zero_or_pos eF.cells.size with h | h
      ·rw [Gg,<- n9,h] at hk; simp at hk
      ·exact h
     have hm:k % eF.cells.size<eF.cells.size:=Nat.mod_lt _ bf;simp only [Option.map_some,Option.some.injEq] at hu;rw [<- hu,show eF.cells[k % eF.cells.size]! = eF.cells[k % eF.cells.size] by simp [hm]];exact EA hd _ _ (Array.getElem?_eq_getElem hm)
    ·cases hu
   have hk:k<n * eF.cells.size:=by
    have:=(List.getElem?_eq_some_iff.1 J).1;simpa [Nat.mul_comm,s0] using this
   have bf:0<eF.cells.size:=by
    rcases Nat.eq_zero_or_pos eF.cells.size with h | h
    ·rw [h] at hk; simp at hk
    ·exact h
   have hm:k % eF.cells.size<eF.cells.size:=Nat.mod_lt _ bf;rw [KL _ n k (by simpa [s0] using hk),s0] at J;rw [madeCells,Array.getElem?_map,Array.getElem?_range,if_pos (by rw [Gg,<- n9]; exact hk)] at hu;simp only [Option.map_some,Option.some.injEq] at hu;have fP:eF.cells[k % eF.cells.size]! = eF.cells[k % eF.cells.size]:=by simp [hm]
   rw [fP] at hu;subst hu;rcases Dg _ _ x (Array.getElem?_eq_getElem hm) J with rfl | ⟨h1,cN,rfl⟩
   ·exact lO _ (Ax _)
   ·have bm:=Ax (w:=w) (I:=I) (ρ:=eG w T g) eF.cells[k % eF.cells.size];rw [h1] at bm;rw [bm.q0];exact .hW λ_ h=>h
def Cells (w:World) (I:bu) (ρ:aj->Value->Prop) (cs:List aj) (vs:List Value):Prop :=
 cs.length=vs.length/\(∀ (k:Nat) (u:Value),vs[k]?=some u->u.oneCell'=true)/\∀ (k:Nat) (x:aj) (u:Value),cs[k]?=some x->vs[k]?=some u->R w I ρ x u c0
theorem Cells.append {ρ:aj->Value->Prop}{a b:List aj}{u v:List Value}(h:Cells w I ρ a u) (aU:Cells w I ρ b v):Cells w I ρ (a++b) (u++v):=by
 refine ⟨by simp [h.1,aU.1],λk y aA=>?_,λk x y J aA=>?_⟩
 ·by_cases hk:k<u.length
  ·rw [List.getElem?_append_left hk] at aA; exact h.2.1 k y aA
  ·rw [List.getElem?_append_right (by omega)] at aA; exact aU.2.1 _ y aA
 ·by_cases hk:k<a.length
  ·rw [List.getElem?_append_left hk] at J;rw [List.getElem?_append_left (by rw [<- h.1]; exact hk)] at aA;exact h.2.2 k x y J aA
  ·rw [List.getElem?_append_right (by omega)] at J;rw [List.getElem?_append_right (by rw [<- h.1]; omega)] at aA;exact aU.2.2 _ x y J (by rw [h.1]; exact aA)
theorem Cells.take {ρ:aj->Value->Prop}{a:List aj}{u:List Value}(h:Cells w I ρ a u) (n:Nat):Cells w I ρ (a.take n) (u.take n):=by
 refine ⟨by simp [h.1],λk y aA=>?_,λk x y J aA=>?_⟩
 ·rw [List.getElem?_take] at aA
  split at aA
  ·exact h.2.1 k y aA
  ·cases aA
 ·rw [List.getElem?_take] at J aA
  split at J
  ·rename_i hk; rw [if_pos hk] at aA; exact h.2.2 k x y J aA
  ·cases J
theorem Cells.drop {ρ:aj->Value->Prop}{a:List aj}{u:List Value}(h:Cells w I ρ a u) (n:Nat):Cells w I ρ (a.drop n) (u.drop n):=by
 refine ⟨by simp [h.1],λk y aA=>?_,λk x y J aA=>?_⟩
 ·rw [List.getElem?_drop] at aA; exact h.2.1 _ y aA
 ·rw [List.getElem?_drop] at J aA;exact h.2.2 _ x y J aA
theorem KF {ρ:aj->Value->Prop}{place:Nat->Option (Nat × Nat)}:∀ (ps:List (Nat × List aj)) (r5:List (Nat × Value)) {cells cs:List aj}{arr:Array Value},Cells w I ρ cells arr.toList ->
  ps.map (·.1)=r5.map (·.1)->(∀ (k:Nat) (p:Nat × List aj) (q:Nat × Value),ps[k]?=some p->r5[k]?=some q->Cells w I ρ p.2 q.2.cells.toList)->xt place cells ps=some cs ->
  ∃ jz:Array Value,Instr.fill place arr r5=some jz/\Cells w I ρ cs jz.toList
 | [],r5,cells,cs,arr,ae,hk,_,bp=>by
  cases r5 with
  | nil=>simp only [xt,Option.some.injEq] at bp; subst bp; exact ⟨arr,rfl,ae⟩
  | cons=>simp at hk
 | (i,c)::ps,r5,cells,cs,arr,ae,hk,ax,bp=>by
  cases r5 with
  | nil=>simp at hk
  | cons q r5 =>
   obtain ⟨af,v⟩:=q;simp only [List.map_cons,List.cons.injEq] at hk;obtain ⟨rfl,hk⟩:=hk;have bf:=ax 0 _ _ rfl rfl;simp only [xt] at bp;cases aH:place i with
   | none=>simp [aH] at bp
   | some os =>
    obtain ⟨off,size⟩:=os;simp only [aH] at bp
    split at bp
    ·rename_i WZ;have hlen:v.cells.size=c.length:=by rw [<- Array.length_toList]; exact bf.1.symm
     have Xd:arr.size=cells.length:=by rw [<- Array.length_toList]; exact ae.1.symm
     obtain ⟨B8,dz,de⟩:=KH (arr:=arr) (v:=v) aH (by omega) (by omega) r5;have iZ:Cells w I ρ (cells.take off++c++cells.drop (off+c.length)) B8.toList:=by
      rw [de,hlen];exact ((ae.take off).append bf).append (ae.drop _)
     obtain ⟨jz,j',rH⟩:=KF ps r5 iZ hk (λk p q aH bW=>ax (k+1) p q aH bW) bp;exact ⟨jz,by rw [dz,j'],rH⟩
    ·cases bp
theorem MC (h:dd w I T g Fs) {a:Act}(bk:a.tmps=T):∀ {l:List (Nat × Operand)}{ps:List (Nat × List aj)},q5 g l=some ps ->
  ps.map (·.1)=(l.map λp=>(p.1,a.eval p.2)).map (·.1)/\∀ (k:Nat) (p:Nat × List aj) (q:Nat × Value),ps[k]?=some p->(l.map λp=>(p.1,a.eval p.2))[k]?=some q->Cells w I (eG w T g) p.2 q.2.cells.toList
 | [],ps,aH=>by simp only [q5,Option.some.injEq] at aH; subst aH; simp
 | (i,x)::l,ps,aH=>by
  simp only [q5] at aH;cases J:bT g x with
  | none=>simp [J] at aH
  | some y =>
   cases aq:q5 g l with
   | none=>simp [J,aq] at aH
   | some XB =>
    simp only [J,aq,Option.map_eq_some_iff] at aH;obtain ⟨c,ae,rfl⟩:=aH;obtain ⟨h1,al⟩:=MC h bk aq;refine ⟨by simp [h1],λk p q aH bW=>?_⟩;cases k with
    | zero =>
     simp at aH bW;subst aH bW;obtain ⟨aS,Q',b7⟩:=(la h J bk).lY (λ_ h=>h) (λ_ _ J ax=>ax.DE J) ae;exact ⟨by simpa using aS,λk u hu=>Q' k u (by simpa using hu),λk x u J hu=>b7 k x u J (by simpa using hu)⟩
    | succ k=>simp at aH bW; exact al k p q aH (by simpa using bW)
theorem Vu {t:TypeId}{pl:List (Nat × Nat)}(h:kP P t pl=true):∃ fs,P.underlying t=some (.struct fs)/\fs.toList.mapM (λf=>(P.info? f.type).map λi=>(f.offset,i.size))=some pl:=by
 unfold kP at h;cases hu:P.underlying t with
 | none=>simp [hu] at h
 | some d =>
  cases d <;> simp only [hu,Bool.false_eq_true] at h;rename_i fs;refine ⟨fs,rfl,?_⟩;replace h:=LawfulBEq.eq_of_beq h;generalize fs.toList=l at h
  induction l generalizing pl with
  | nil=>cases pl with
   | nil=>rfl
   | cons=>simp at h
  | cons f l aR =>
   cases pl with
   | nil=>simp at h
   | cons p pl =>
    obtain ⟨o,s⟩:=p;simp only [List.map_cons,List.cons.injEq,Prod.mk.injEq] at h;obtain ⟨⟨rfl,h1⟩,al⟩:=h;have:=aR al;rw [List.mapM_cons,this];cases hi:P.info? f.type with
    | none=>simp [hi] at h1
    | some i=>simp [hi] at h1; subst h1; rfl
theorem tt.sound (h:dd w I T g Fs) {a:Act}(bk:a.tmps=T) {o:Oper}{ki:aj}(aH:tt P g o.op o.type ki) :
  ∃ v,(execOp a.eval o).run P w=.ok (.value v) w/\R w I (eG w T g) ki v c0:=by
 obtain ⟨dst,op,ty,pos,after,guard⟩:=o;simp only at aH;cases aH with
 | @build t _ parts pl eF ps cs aG bH hd aH ae =>
  obtain ⟨fs,hu,vy⟩:=Vu aG;obtain ⟨h1,al⟩:=MC h bk aH;obtain ⟨jz,dz,de⟩:=KF (w:=w) (I:=I) (ρ:=eG w T g) (place:=λi=>pl[i]?) ps _ (arr:=eF.cells) ⟨by simp,λk u hu=>EA hd k u (by simpa using hu),λk x u J hu=>Mr k x u J hu⟩ h1 al ae;refine ⟨.agg jz,?_,.agg (Fs:=λ_=>c0) (by simpa using de.1) (λk u hu=>de.2.1 k u (by simpa using hu)) (λk x u J hu=>de.2.2 k x u J (by simpa using hu)) (λ_ _ _ _ _ h=>h.elim) (λc=>⟨λh=>h.elim,λ⟨_,_,h⟩=>h⟩)⟩;have Xm:=run_places (P:=P) w fs.toList pl vy;have aJ:P.built t ((parts.map λ(p:Nat × Operand)=>(p.1,a.eval p.2))).toList=some jz:=by
   rw [Array.toList_map];cases hi:P.info? t with
   | none=>simp [hi] at bH
   | some it =>
    simp [hi] at bH;simp only [Program.built,hu,vy,hi,bH];simpa using dz
  have:=run_build (P:=P) w t _ _ aJ;simp only [execOp,Sem.run_bind];have hm:(parts.map λ(x:Nat × Operand)=>match x with | (i,x)=>(i,a.eval x))=parts.map λ(p:Nat × Operand)=>(p.1,a.eval p.2):=rfl
  rw [hm,this];rfl
 | @makeFunc fn first caps _ Xq Dt h1 al =>
  obtain ⟨ar,a2⟩:=x3 h bk h1;obtain ⟨gZ,hD⟩:=x3 h bk al;refine ⟨.func fn (first.map a.eval) (caps.map a.eval),by simp [execOp,Instr.makeFunc],.eB (λ_ h=>h) (by simpa using ar) (by simpa using gZ) (λk x u J hu=>?_) (λk x u J hu=>?_)⟩
  ·rw [Array.getElem?_map] at hu;cases hk:first[k]? with
   | none=>simp [hk] at hu
   | some y=>simp [hk] at hu; subst hu; exact a2 k x y J (by simpa using hk)
  ·rw [Array.getElem?_map] at hu;cases hk:caps[k]? with
   | none=>simp [hk] at hu
   | some y=>simp [hk] at hu; subst hu; exact hD k x y J (by simpa using hk)
end
end Go.Own
namespace Go.Own
open Go
structure BM (w w':World) (bv h0:Value) (e de:TypeId) (z n m:Nat) (us news:List Value):Prop where
 lO:w'.ownsRow 0 e z bv n us
 new:w'.ownsRow 0 de z h0 (n+m) (us++news)
 fI:Fr w w' (λc=>bv.ownBlock=some c)
 Ce:∀ c,h0.ownBlock=some c->bv.ownBlock=some c\/w.heap.size<=c
 sp:∀ c,bv.ownBlock=some c->∃ arr jz:Array Value,w.heap[c]?=some (.cells arr e (0,0))/\w'.heap[c]?=some (.cells jz e (0,0))/\jz.size=arr.size/\jz.toList.take (n * z)=arr.toList.take (n * z)
section
variable {P:Program}{w:World}
theorem BM.same {bv h0:Value}{e de:TypeId}{z n m:Nat}{us news:List Value}{w':World}(k6:w.ownsRow 0 e z bv n us) (aJ:∀ c,c<w.heap.size->w'.heap[c]?=w.heap[c]?) (aO:w.heap.size<=w'.heap.size)
  (h1:w'.os=w.os) (al:w'.tape=w.tape) (aS:w'.output=w.output) (qQ:w'.ownsRow 0 de z h0 (n+m) (us++news)) (hblk:∀ c,h0.ownBlock=some c->bv.ownBlock=some c\/w.heap.size<=c) (qa:∀ a,w'.frozen? a=w.frozen? a) (SA:w.drawn<=w'.drawn:=by first | exact Nat.le_refl _ | exact Nat.le_succ _):BM w w' bv h0 e de z n m us news:=by
 have bg:=k6.lt;refine ⟨uy k6 λc ae=>aJ c (bg c ae).2,qQ,⟨h1,al,aS,aO,λb kH _=>aJ b kH,λa _=>qa a,SA⟩,hblk,λc ae=>?_⟩;obtain ⟨_,ca⟩:=k6;rcases ca with ⟨rfl,_⟩ | ⟨b,cap,cur,rfl,_,bb,_⟩
 ·simp [Value.ownBlock] at ae
 ·simp only [Value.ownBlock,Option.some.injEq] at ae;subst ae;exact ⟨cur,cur,bb,(aJ _ (bg b rfl).2).trans bb,rfl,rfl⟩
theorem U_ (t ty e cY:TypeId) (i:TypeInfo) (aG:P.underlying t=some (.slice e)) (hi:P.info? e=some i)
  (b wu Ic:Nat) (cur:Array Value) (bb:w.heap[b]?=some (.cells cur cY (0,0)))
  (a:Addr) (m c:Nat) (news:List Value) (aq:news.length=m * i.size) (sQ:∀ af u,news[af]?=some u->w.cell? (a.add af)=some u) (h1:∀ u∈news,u.oneCell'=true)
  (z1:wu+m<=Ic) (Gc:wu * i.size+news.length<=cur.size) :
  (Builtin.append_ #[t,t] ty #[.slice (some ⟨b,0,none⟩) wu Ic,.slice (some a) m c]).run P w =
   .ok (.slice (some ⟨b,0,none⟩) (wu+m) Ic) (w.setRow b (cur.toList.take (wu * i.size)++news++cur.toList.drop (wu * i.size+news.length)).toArray):=by
 have bp:=run_firstCells_some (P:=P) w i.size m a m c news aq sQ;have cp:=run_storeCells_at P b (wu * i.size) cY news 0 cur w bb (by simpa using Gc) h1;simp only [Nat.add_zero] at cp;simp [Builtin.append_,run_underlying aG,sizeOf,typeInfo,hi,Builtin.lenOf,z1,bp,Addr.add_lit,cp]
theorem MY (t ty e cY:TypeId) (i:TypeInfo) (eF:Value) (aG:P.underlying t=some (.slice e)) (hi:P.info? e=some i) (bH:i.zero=some eF) (n9:eF.cells.size=i.size) (_h0:0<i.size)
  {bv:Value}{n m c:Nat}{us news:List Value}(k6:w.ownsRow 0 cY i.size bv n us) {a:Option Addr}(bk:0<m->a.isSome=true)
  (aq:news.length=m * i.size) (sQ:∀ ad,a=some ad->∀ (af:Nat) (u:Value),news[af]?=some u->w.cell? (ad.add af)=some u) (h1:∀ u∈news,u.oneCell'=true)
  (p7:n+m<=maxLen) (CW:(n+m) * i.bytes<=140737488355328) :
  ∃ h0 w' de,(Builtin.append_ #[t,t] ty #[bv,.slice a m c]).run P w=.ok h0 w'/\BM w w' bv h0 cY de i.size n m us news:=by
 have mE:=k6.1;by_cases hm:m=0
 ·subst hm;have aP:news=[]:=List.eq_nil_of_length_eq_zero (by simpa using aq);subst aP;refine ⟨bv,w,cY,?_,.same k6 (λ_ _=>rfl) (Nat.le_refl _) rfl rfl rfl (by simpa using k6) (λc ae=>.inl ae) λ_=>rfl⟩;obtain ⟨_,ca⟩:=k6;rcases ca with ⟨rfl,rfl⟩ | ⟨b,cap,cur,rfl,_,bb,hle,_⟩
  ·cases a <;> simp [Builtin.append_,run_underlying aG,sizeOf,typeInfo,hi,Builtin.lenOf,Builtin.firstCells,loadCells,loadCellsFrom]
  ·cases a <;> simp [Builtin.append_,run_underlying aG,sizeOf,typeInfo,hi,Builtin.lenOf,Builtin.firstCells,loadCells,loadCellsFrom,hle,storeCells]
 ·cases a with
  | none=>simp at bk; omega
  | some ad =>
   replace sQ:=sQ ad rfl;have Xn:n+m<=9223372036854775807:=by simp only [maxLen] at p7; omega
   have grown:∀ (lO:Nat),lO<n+m ->
     (w.drew.alloc (.cells (us.toArray++news.toArray++Builtin.zeroCells eF.cells (grownCap w (n+m) lO e - (n+m))) e)).ownsRow 0 e i.size (.slice (some ⟨w.heap.size,0,none⟩) (n+m) (grownCap w (n+m) lO e)) (n+m) (us++news):=by
    intro lO bj;have ew:=grownCap_ge w (n+m) lO e;have hlen:(us++news).length=(n+m) * i.size:=by rw [List.length_append,mE,aq,Nat.add_mul]
    refine ⟨hlen,.inr ⟨w.heap.size,_,_,rfl,Nat.zero_le _,sg w.drew _,ew,grownCap_le_maxLen w (n+m) lO e p7,?_,?_⟩⟩
    ·simp only [Array.size_append,List.size_toArray,size_zeroCells,n9,mE,aq,<- Nat.add_mul];congr 1;omega
    ·simp only [Array.toList_append,List.append_assoc];rw [<- List.append_assoc,<- hlen];exact List.take_left
   have GA:=k6;obtain ⟨_,ca⟩:=k6;rcases ca with ⟨rfl,rfl⟩ | ⟨b,cap,cur,rfl,_,bb,hle,p_,hI,LV⟩
   ·have J:us=[]:=List.eq_nil_of_length_eq_zero (by simpa using mE);subst J;have ax:=run_append_nil (P:=P) w t ty e i eF aG hi bH ad m c news aq sQ (by omega) (by omega) (by simp only [Nat.zero_add] at CW; omega);have qN:=grown 0 (by omega);simp only [Nat.zero_add,List.nil_append,Array.empty_append] at qN;exact ⟨_,_,e,ax,.same GA (λc ae=>rq w.drew _ c ae) (by simp) rfl rfl rfl (by simpa using qN) (λc ae=>.inr (by simp [Value.ownBlock] at ae; omega)) (λa=>Ft w.drew _ _ a)⟩
   ·by_cases z1:n+m<=cap
    ·have Gc:n * i.size+news.length<=cur.size:=by rw [aq,hI,<- Nat.add_mul]; exact Nat.mul_le_mul_right _ z1
     have ax:=U_ (P:=P) (w:=w) t ty e cY i aG hi b n cap cur bb ad m c news aq sQ h1 z1 Gc;have hlen:(us++news).length=(n+m) * i.size:=by rw [List.length_append,mE,aq,Nat.add_mul]
     have gy:(cur.toList.take (n * i.size)++news++cur.toList.drop (n * i.size+news.length)).toArray.size=cur.size:=by
      simp only [List.size_toArray,List.length_append,List.length_take,List.length_drop,Array.length_toList];omega
     have gi:(cur.toList.take (n * i.size)++news++cur.toList.drop (n * i.size+news.length)).take (n * i.size)=cur.toList.take (n * i.size):=by
      rw [List.append_assoc];exact List.take_left' (by simp; omega)
     refine ⟨_,_,cY,ax,⟨⟨mE,.inr ⟨b,cap,_,rfl,Nat.zero_le _,setRow_heap w b cur _ cY _ bb,hle,p_,gy.trans hI,?_⟩⟩,⟨hlen,.inr ⟨b,cap,_,rfl,Nat.zero_le _,setRow_heap w b cur _ cY _ bb,z1,p_,gy.trans hI,?_⟩⟩,
      ⟨rfl,rfl,rfl,by simp,λk _ hk=>setRow_other w b k _ (λe=>hk (by simp [Value.ownBlock,e])),λa _=>Fv w b _ a,Nat.le_refl _⟩,λc ae=>.inl ae,λc ae=>?_⟩⟩
     ·rw [<- LV]; exact gi
     ·rw [LV,<- hlen];exact List.take_left
     ·simp only [Value.ownBlock,Option.some.injEq] at ae;subst ae;exact ⟨cur,_,bb,setRow_heap w b cur _ cY _ bb,gy,gi⟩
    ·have holds:∀ (af:Nat) (u:Value),us[af]?=some u->w.cell? ((⟨b,0,none⟩:Addr).add af)=some u:=GA.cells (g:=b) rfl;have ax:=run_append_grow (P:=P) w t ty e i eF aG hi bH ⟨b,0,none⟩ n cap us mE holds ad m c news aq sQ (by omega) (by omega) (growslice_fits (by omega) CW);have qN:=grown cap (by omega);exact ⟨_,_,e,ax,.same GA (λc ae=>rq w.drew _ c ae) (by simp) rfl rfl rfl qN (λc ae=>.inr (by simp [Value.ownBlock] at ae; omega)) (λa=>Ft w.drew _ _ a)⟩
end
end Go.Own
namespace Go.Own
open Go
section
variable {w w':World}{I:bu}{ρ ρ':aj->Value->Prop}
theorem R.kids {x:aj}{v:Value}{F:bu}(h:R w I ρ x v F) (J:x.kids≠[]):∃ Fs:Nat->bu,
  (∀ k y,x.kids[k]?=some y->∃ u,child w v k=some u/\R w I ρ y u (Fs k))/\(∀ (af k c:Nat),af<x.kids.length->k<x.kids.length->Fs af c->Fs k c->af=k) /\
  (∀ k c,k<x.kids.length->Fs k c->F c)/\(∀ z n cs,x=.own z n cs->∀ c,v.ownBlock=some c->∀ k,k<x.kids.length->¬ Fs k c):=by
 cases h with
 | @own z n cs _ e us Fs _ bj aq h1 ax aZ aJ aQ =>
  refine ⟨Fs,λk y hk=>?_,aZ,λk c hk ae=>(aQ c).2 (.inr ⟨k,hk,ae⟩),λ_ _ _ _ c ae k hk h=>aJ k c hk h ae⟩;simp only [aj.kids] at hk;have bg:k<cs.length:=(List.getElem?_eq_some_iff.1 hk).1;have hu:us[k]?=some us[k]:=List.getElem?_eq_getElem (aq ▸ bg);exact ⟨_,ob bj hu,ax k y _ hk hu⟩
 | @obj cs b e arr Fs _ bj aq h1 ax aZ aJ aQ =>
  refine ⟨Fs,λk y hk=>?_,aZ,λk c hk ae=>(aQ c).2 (.inr ⟨k,hk,ae⟩),λ_ _ _ h=>by simp at h⟩;simp only [aj.kids] at hk;have bg:k<cs.length:=(List.getElem?_eq_some_iff.1 hk).1;have hu:arr[k]?=some arr[k]:=Array.getElem?_eq_getElem (aq ▸ bg);exact ⟨_,by simp [child,World.cell?,bj,hu],ax k y _ hk hu⟩
 | @agg cs vs Fs _ aq h1 ax aZ aQ =>
  refine ⟨Fs,λk y hk=>?_,aZ,λk c hk ae=>(aQ c).2 ⟨k,hk,ae⟩,λ_ _ _ h=>by simp at h⟩;simp only [aj.kids] at hk;have bg:k<cs.length:=(List.getElem?_eq_some_iff.1 hk).1;have hu:vs[k]?=some vs[k]:=Array.getElem?_eq_getElem (aq ▸ bg);exact ⟨_,by simp [child,hu],ax k y _ hk hu⟩
 | @cA cs vs Fs _ aq ax aZ aQ =>
  refine ⟨Fs,λk y hk=>?_,aZ,λk c hk ae=>(aQ c).2 ⟨k,hk,ae⟩,λ_ _ _ h=>by simp at h⟩;simp only [aj.kids] at hk;have bg:k<cs.length:=(List.getElem?_eq_some_iff.1 hk).1;have hu:vs[k]?=some vs[k]:=Array.getElem?_eq_getElem (aq ▸ bg);exact ⟨_,by simp [child,hu],ax k y _ hk hu⟩
 | ref gC=>cases x <;> simp [aj.isRef,aj.kids] at gC J
 | _=>simp [aj.kids] at J
theorem aj.tA {x y:aj}{k:Nat}{p:List Nat}(h:x.at (k::p)=some y):∃ c,x.kids[k]?=some c/\c.at p=some y:=by
 simp only [aj.at] at h;cases hk:x.kids[k]? with
 | none=>rw [hk] at h; cases h
 | some c=>rw [hk] at h; exact ⟨c,rfl,h⟩
theorem R.HI {b:Nat}:∀ (q r:List Nat) {x:aj}{v:Value}{F:bu}{z n cN c5:Nat}{cs cs':List aj}{o2 Bx:Value},R w I ρ x v F->x.at q=some (.own z n cs)->x.at r=some (.own cN c5 cs') ->
  walk w v q=some o2->walk w v r=some Bx->o2.ownBlock=some b->Bx.ownBlock=some b->q=r
 | [],[],_,_,_,_,_,_,_,_,_,_,_,_,_,_,_,_,_,_=>rfl
 | [],k::r,x,v,F,z,n,cN,c5,cs,cs',o2,Bx,h,bW,ax,rf,wr,xa,xb=>by
  obtain ⟨c,hk,ae⟩:=aj.tA ax;simp only [aj.at,Option.some.injEq] at bW;simp only [walk,Option.some.injEq] at rf;subst bW rf;have bg:k<(aj.own z n cs).kids.length:=(List.getElem?_eq_some_iff.1 hk).1;obtain ⟨Fs,h1,al,aS,b7⟩:=h.kids (by intro e; rw [e] at bg; simp at bg);obtain ⟨u,hu,mu⟩:=h1 k c hk;simp only [walk,hu] at wr;obtain ⟨iG,cR,hw,eb,dS,_⟩:=R.focus r mu ae;rw [hw] at wr;cases wr;exact absurd (dS b (eb.pL b xb)) (b7 z n cs rfl b xa k bg)
 | af::q,[],x,v,F,z,n,cN,c5,cs,cs',o2,Bx,h,bW,ax,rf,wr,xa,xb=>by
  obtain ⟨c,hk,ae⟩:=aj.tA bW;simp only [aj.at,Option.some.injEq] at ax;simp only [walk,Option.some.injEq] at wr;subst ax wr;have bg:af<(aj.own cN c5 cs').kids.length:=(List.getElem?_eq_some_iff.1 hk).1;obtain ⟨Fs,h1,al,aS,b7⟩:=h.kids (by intro e; rw [e] at bg; simp at bg);obtain ⟨u,hu,mu⟩:=h1 af c hk;simp only [walk,hu] at rf;obtain ⟨iG,cR,hw,eb,dS,_⟩:=R.focus q mu ae;rw [hw] at rf;cases rf;exact absurd (dS b (eb.pL b xa)) (b7 cN c5 cs' rfl b xb af bg)
 | af::q,k::r,x,v,F,z,n,cN,c5,cs,cs',o2,Bx,h,bW,ax,rf,wr,xa,xb=>by
  obtain ⟨c,aa,ae⟩:=aj.tA bW;obtain ⟨d,hk,aZ⟩:=aj.tA ax;have fp:af<x.kids.length:=(List.getElem?_eq_some_iff.1 aa).1;have ec:k<x.kids.length:=(List.getElem?_eq_some_iff.1 hk).1;obtain ⟨Fs,h1,al,aS,b7⟩:=h.kids (by intro e; rw [e] at fp; simp at fp);obtain ⟨u,hu,mu⟩:=h1 af c aa;obtain ⟨td,fP,FQ⟩:=h1 k d hk;simp only [walk,hu] at rf;simp only [walk,fP] at wr;by_cases eS:af=k
  ·subst eS;rw [aa] at hk; cases hk;rw [hu] at fP; cases fP;rw [R.HI q r mu ae aZ rf wr xa xb]
  ·exfalso;obtain ⟨iG,cR,hw,eb,dS,_⟩:=R.focus q mu ae;obtain ⟨V1,jv,vB,zz,RB,_⟩:=R.focus r FQ aZ;rw [hw] at rf; cases rf;rw [vB] at wr; cases wr;exact eS (al af k b fp ec (dS b (eb.pL b xa)) (RB b (zz.pL b xb)))
theorem aj.Nc:∀ (q:List Nat) {x y:aj},x.at q=some y->x.setAt q y=x
 | [],x,y,h=>by simp [aj.at] at h; simp [aj.setAt,h]
 | k::q,x,y,h=>by
  obtain ⟨c,hk,ae⟩:=aj.tA h;simp only [aj.setAt,hk,aj.Nc q ae];have:∀ (l:List aj),l[k]?=some c->l.set k c=l:=by
   intro l aq;apply List.ext_getElem?;intro af;by_cases eS:k=af
   ·subst eS;have bg:k<l.length:=(List.getElem?_eq_some_iff.1 aq).1;rw [List.getElem?_set_self bg,aq]
   ·rw [List.getElem?_set_ne eS]
  cases x <;> simp [aj.kids] at hk <;> simp [aj.uO,this _ hk]
theorem Bz (w:World):∀ (p:List Nat) (v:Value) (r:List Nat),walk w v (p++r)=(walk w v p).bind λu=>walk w u r
 | [],v,r=>rfl
 | k::p,v,r=>by
  simp only [List.cons_append,walk];cases child w v k with
  | none=>rfl
  | some u=>exact Bz w p u r
theorem aj.EH:∀ (p:List Nat) (x:aj) (r:List Nat),x.at (p++r)=(x.at p).bind λy=>y.at r
 | [],x,r=>rfl
 | k::p,x,r=>by
  simp only [List.cons_append,aj.at];cases x.kids[k]? with
  | none=>rfl
  | some u=>exact aj.EH p u r
structure B1 (w w':World) (b M:Nat):Prop where
 other:∀ c,c<w.heap.size->c≠b->w'.heap[c]?=w.heap[c]?
 here:∃ (arr jz:Array Value) (e:TypeId),w.heap[b]?=some (.cells arr e (0,0))/\w'.heap[b]?=some (.cells jz e (0,0))/\jz.size=arr.size/\jz.toList.take M=arr.toList.take M
theorem B1.row {b M:Nat}(s:B1 w w' b M) {e:TypeId}{z n:Nat}{v:Value}{us:List Value}(h:w.ownsRow 0 e z v n us) (aP:v.ownBlock=some b->n * z<=M):w'.ownsRow 0 e z v n us:=by
 by_cases aJ:v.ownBlock=some b
 ·obtain ⟨arr,jz,dz,h1,al,aS,b7⟩:=s.here;obtain ⟨hu,ca⟩:=h;rcases ca with ⟨rfl,rfl⟩ | ⟨g,cap,cur,rfl,bb,ae,oX,fR,uF,r0⟩
  ·simp [Value.ownBlock] at aJ
  ·simp only [Value.ownBlock,Option.some.injEq] at aJ;subst aJ;rw [h1] at ae;cases ae;refine ⟨hu,.inr ⟨g,cap,jz,rfl,bb,al,oX,fR,by omega,?_⟩⟩;rw [<- r0];have:=congrArg (List.take (n * z)) b7
   rwa [List.take_take,List.take_take,Nat.min_eq_left (aP rfl)] at this
 ·exact uy h λc ae=>s.other c (h.lt c ae).2 λe=>aJ (e ▸ ae)
theorem R.spare {b M:Nat}(s:B1 w w' b M) (bt:∀ c,I c->c<w.heap.size/\c≠b) (lx:∀ x v,ρ x v->ρ' x v) {x:aj}{v:Value}{F:bu}(h:R w I ρ x v F) {q:List Nat}{z n:Nat}{cs:List aj}{iG:Value}
  (ga:x.at q=some (.own z n cs)) (hw:walk w v q=some iG) (aJ:iG.ownBlock=some b) (aP:n * z<=M) :
  R w' I ρ' x v F/\∀ r y,x.at r=some y->walk w' v r=walk w v r:=by
 obtain ⟨V1,cR,vB,eb,dS,gj,kO⟩:=R.focus q h ga;rw [hw] at vB;cases vB;have n0:cR b:=eb.pL b aJ;have bg:=h.lt;have same:∀ c,F c->c≠b->w'.heap[c]?=w.heap[c]?:=λc ae eL=>s.other c (bg c ae) eL;have WU:=eb;cases eb with
 | ref J=>simp [aj.isRef] at J
 | @own _ _ _ _ e us Fs _ bj aq h1 ax aZ kc aQ =>
  have mA:=s.row bj λ_=>aP;have eL:∀ k c,k<cs.length->Fs k c->c≠b:=λk c hk ae e=>kc k c hk ae (e ▸ aJ);have jB:∀ k c,k<cs.length->Fs k c->F c:=λk c hk ae=>dS c ((aQ c).2 (.inr ⟨k,hk,ae⟩));have qQ:R w' I ρ' (.own z n cs) iG cR:=by
   refine .own mA aq h1 (λk x u J hu=>?_) aZ kc aQ;have hk:k<cs.length:=(List.getElem?_eq_some_iff.1 J).1;exact (ax k x u J hu).frame (λc ae=>s.other c (bt c ae).1 (bt c ae).2) (λ_ h=>h) lx λc ae=>same c (jB k c hk ae) (eL k c hk ae)
  constructor
  ·obtain ⟨gg,jC,oD⟩:=kO w' I ρ' _ cR ⟨λc ae=>s.other c (bt c ae).1 (bt c ae).2,λc ae aP=>same c ae λe=>aP (e ▸ n0),λ_ h=>h,lx⟩ qQ λc ae _=>ae;rw [aj.Nc q ga] at jC;refine jC.xi λc=>?_;rw [oD c];constructor
   ·rintro (⟨h,_⟩ | h)
    ·exact h
    ·exact dS c h
   ·intro h;by_cases ae:cR c
    ·exact .inr ae
    ·exact .inl ⟨h,ae⟩
  ·obtain ⟨jH,iw⟩:=gj w' λc ae aP=>same c ae λe=>aP (e ▸ n0);intro r y e2;rcases iw r y e2 with ⟨fg,rfl⟩ | h
   ·rw [Bz,Bz,jH,hw];simp only [Option.bind_some];cases fg with
    | nil=>rfl
    | cons k fg =>
     rw [aj.EH,ga] at e2;obtain ⟨c,hk,ae⟩:=aj.tA (x:=.own z n cs) e2;simp only [aj.kids] at hk;have ec:k<cs.length:=(List.getElem?_eq_some_iff.1 hk).1;have hu:us[k]?=some us[k]:=List.getElem?_eq_getElem (aq ▸ ec);have:=R.o3 (w':=w') fg (ax k c _ hk hu) ae λc ae=>same c (jB k c ec ae) (eL k c ec ae);simp [walk,ob bj hu,ob mA hu,this]
   ·exact h
end
end Go.Own
namespace Go.Own
open Go
section
variable {w w':World}{I:bu}{T:Array Value}{g:a7}{Fs:Nat->bu}
theorem dd.Is (h:dd w I T g Fs) {t:Nat}{x:aj}(J:g t=some x):∃ v,T[t]?=some v/\eI w T ⟨t,[]⟩=some v/\jM w I (eG w T g) x v (Fs t):=by
 obtain ⟨v,hv,bm⟩:=h.rel t x J;exact ⟨v,hv,by simp [eI,hv,walk],bm⟩
theorem dd.app (h:dd w I T g Fs) {z n m:Nat}{p:Place}{bv h0:Value}{e de:TypeId}{us news:List Value}(kp:eG w T g (.bY z p n 0 []) bv)
  (hc:∀ t cN c5 cb ds,g t≠some (.bY cN p c5 cb ds)) (A:BM w w' bv h0 e de z n m us news):dd w' I T g Fs/\∀ r v,eG w T g r v->eG w' T g r v:=by
 cases kc:bv.ownBlock with
 | none =>
  have same:∀ c,c<w.heap.size->w'.heap[c]?=w.heap[c]?:=λc ae=>A.fI.block c ae (by rw [kc]; simp);exact ⟨h.world (λt c ae=>same c (h.j3 t c ae)) (λc ae=>same c (h.lt c ae)) A.fI.size,λr v ax=>h.DU (λ_ _=>rfl) (λt c ae=>same c (h.j3 t c ae)) (λ_ _ h=>h) ax⟩
 | some b =>
  have s:B1 w w' b (n * z):=by
   refine ⟨λc ae eL=>A.fI.block c ae (by rw [kc]; simpa using Ne.symm eL),?_⟩;obtain ⟨arr,jz,h1,al,aS,b7⟩:=A.sp b kc;exact ⟨arr,jz,e,h1,al,aS,b7⟩
  obtain ⟨t0,rQ⟩:=h.Cd kp b kc;have bt:∀ c,I c->c<w.heap.size/\c≠b:=λc ae=>⟨h.lt c ae,λe=>h.aD t0 b rQ (e ▸ ae)⟩;obtain ⟨⟨u4,u5,F7,rfl⟩,e8⟩:=kp
  -- the home of the block
  have home:∃ N:Place->Prop,(∀ q cN c5 cs' o2,cd g q=some (.own cN c5 cs')->eI w T q=some o2->o2.ownBlock=some b->N q) /\
    (∀ q,N q->∀ t cN c5 cb ds,g t=some (.bY cN q c5 cb ds)->t=p.root/\p.path=[]) /\
    (∀ t cN hj c5 cb ds,Fs t b->g t=some (.bY cN hj c5 cb ds)->t=p.root/\p.path=[]) /\
    (∀ cN hj c5 cb ds,p.path=[]->g p.root=some (.bY cN hj c5 cb ds)->cN=z/\n=c5+cb) /\
    (∀ t x v,Fs t b->g t=some x->T[t]?=some v->R w I (eG w T g) x v (Fs t)->∃ q cN c5 cs' iG,x.at q=some (.own cN c5 cs')/\walk w v q=some iG/\iG.ownBlock=some b/\c5 * cN<=n * z):=by
   rcases e8 with ⟨cs,aH⟩ | ⟨i_,jW,lN,m1,Xv,cs,aH,aP,zW⟩
   ·-- the base is a row of a tree
    obtain ⟨pT,pW,hf,hS,l2⟩:=h.part aH (by simp);rw [F7] at hf;cases hf;have mD:t0=p.root:=h.fi _ _ _ rQ (l2 b (hS.pL b kc));obtain ⟨fE,k8⟩:∃ fE,g p.root=some fE:=by
     unfold cd at aH;cases J:g p.root with
     | none=>rw [J] at aH; cases aH
     | some x=>exact ⟨x,rfl⟩
    have qL:fE.at p.path=some (.own z n cs):=by simpa [cd,k8] using aH
    have k_:∀ cN hj c5 cb ds,g p.root≠some (.bY cN hj c5 cb ds):=by
     intro cN hj c5 cb ds ca;rw [k8] at ca;cases ca;have:=(aj.sj qL).2;simp at this
    obtain ⟨v0,jE,gP⟩:=h.rel _ _ k8;have FJ:=gP.h9 (λcN hj c5 cb ds e=>k_ cN hj c5 cb ds (by rw [k8,e]));have Aa:walk w v0 p.path=some (.slice u4 n u5):=by simpa [eI,jE] using F7
    refine ⟨λq=>q=p,?_,?_,?_,?_,?_⟩
    ·intro q cN c5 cs' o2 bW rS vt;obtain ⟨NG,NT,uj,FO,FD⟩:=h.part bW (by simp);rw [rS] at uj;cases uj;have ax:q.root=p.root:=(h.fi _ _ _ (FD b (FO.pL b vt)) rQ).trans mD;have zC:fE.at q.path=some (.own cN c5 cs'):=by simpa [cd,ax,k8] using bW
     have GR:walk w v0 q.path=some o2:=by simpa [eI,ax,jE] using rS
     have:=R.HI q.path p.path FJ zC qL GR Aa vt kc;cases q; cases p; simp_all
    ·rintro q rfl t cN c5 cb ds ca; exact absurd ca (hc t cN c5 cb ds)
    ·intro t cN hj c5 cb ds oL ca;have:t=p.root:=(h.fi _ _ _ oL rQ).trans mD;rw [this] at ca;exact absurd ca (k_ _ _ _ _ _)
    ·intro cN hj c5 cb ds _ ca; exact absurd ca (k_ _ _ _ _ _)
    ·intro t x v oL J hv bm;have:t=p.root:=(h.fi _ _ _ oL rQ).trans mD;subst this;rw [k8] at J; cases J;rw [jE] at hv; cases hv;exact ⟨_,_,_,_,_,qL,Aa,kc,Nat.le_refl _⟩
   ·-- the base is behind an append itself
    obtain ⟨v0,jE,z',gP⟩:=h.Is aH;have To:v0=.slice u4 n u5:=by
     have:(⟨p.root,[]⟩:Place)=p:=by cases p; simp_all
     rw [this,F7] at z';exact (Option.some.inj z').symm
    subst To;obtain ⟨OV,dz,Wv,VW,Xx,gP⟩:=gP.uo;by_cases c3:OV.ownBlock=some b
    ·obtain ⟨⟨ar,JQ,L1,rfl⟩,_⟩:=gP.kp;obtain ⟨o2,NT,rS,FO,FD⟩:=h.part zW (by simp);rw [L1] at rS;cases rS;have mD:t0=jW.root:=h.fi _ _ _ rQ (FD b (FO.pL b c3));obtain ⟨fE,k8⟩:∃ fE,g jW.root=some fE:=by
      unfold cd at zW;cases J:g jW.root with
      | none=>rw [J] at zW; cases zW
      | some x=>exact ⟨x,rfl⟩
     have qL:fE.at jW.path=some (.own z lN cs):=by simpa [cd,k8] using zW
     have k_:∀ cN hj c5 cb ds,g jW.root≠some (.bY cN hj c5 cb ds):=by
      intro cN hj c5 cb ds ca;rw [k8] at ca;cases ca;have:=(aj.sj qL).2;simp at this
     obtain ⟨v1,oN,FK⟩:=h.rel _ _ k8;have RO:=FK.h9 (λcN hj c5 cb ds e=>k_ cN hj c5 cb ds (by rw [k8,e]));have Aa:walk w v1 jW.path=some (.slice ar lN JQ):=by simpa [eI,oN] using L1
     refine ⟨λq=>q=jW,?_,?_,?_,?_,?_⟩
     ·intro q cN c5 cs' o2 bW rS vt;obtain ⟨NG,NU,uj,FP,FE⟩:=h.part bW (by simp);rw [rS] at uj;cases uj;have ax:q.root=jW.root:=(h.fi _ _ _ (FE b (FP.pL b vt)) rQ).trans mD;have zC:fE.at q.path=some (.own cN c5 cs'):=by simpa [cd,ax,k8] using bW
      have GR:walk w v1 q.path=some o2:=by simpa [eI,ax,oN] using rS
      have:=R.HI q.path jW.path RO zC qL GR Aa vt c3;cases q; cases jW; simp_all
     ·rintro q rfl t cN c5 cb ds ca; exact ⟨h.qj _ _ _ _ _ _ _ _ _ _ _ ca aH,i_⟩
     ·intro t cN hj c5 cb ds oL ca;have:t=jW.root:=(h.fi _ _ _ oL rQ).trans mD;rw [this] at ca;exact absurd ca (k_ _ _ _ _ _)
     ·intro cN hj c5 cb ds _ ca;rw [aH] at ca; cases ca; exact ⟨rfl,aP⟩
     ·intro t x v oL J hv bm;have:t=jW.root:=(h.fi _ _ _ oL rQ).trans mD;subst this;rw [k8] at J; cases J;rw [oN] at hv; cases hv;exact ⟨_,_,_,_,_,qL,Aa,c3,Nat.mul_le_mul_right _ (by omega)⟩
    ·have xy:Fs p.root b:=(gP.aQ b).2 ⟨kc,c3⟩;have mD:t0=p.root:=h.fi _ _ _ rQ xy;refine ⟨λ_=>False,?_,λ_ h=>h.elim,?_,?_,?_⟩
     ·intro q cN c5 cs' o2 bW rS vt;obtain ⟨NG,NU,uj,FP,FE⟩:=h.part bW (by simp);rw [rS] at uj;cases uj;have ax:q.root=p.root:=h.fi _ _ _ (FE b (FP.pL b vt)) xy;unfold cd at bW;rw [ax,aH] at bW;have:=(aj.sj bW).2;simp at this
     ·intro t cN hj c5 cb ds oL _; exact ⟨h.fi _ _ _ oL xy,i_⟩
     ·intro cN hj c5 cb ds _ ca;rw [aH] at ca; cases ca; exact ⟨rfl,aP⟩
     ·intro t x v oL J hv bm;have:t=p.root:=h.fi _ _ _ oL xy;subst this;rw [aH] at J; cases J;exact bm.k_.elim
  obtain ⟨N,K2,K3,K4,RL,RM⟩:=home
  -- rows of pends
  have pends:∀ t cN hj c5 cb ds v xc cY ss iQ Dz,g t=some (.bY cN hj c5 cb ds)->T[t]?=some v->Eu w I (eG w T g) cN hj c5 cb ds v (Fs t) xc cY ss iQ Dz ->
    (v.ownBlock=some b->(c5+cb) * cN<=n * z)/\(xc.ownBlock=some b->c5 * cN<=n * z):=by
   intro t cN hj c5 cb ds v xc cY ss iQ Dz bb hv bm;by_cases aG:t=p.root/\p.path=[]
   ·obtain ⟨rfl,i_⟩:=aG;obtain ⟨rfl,rfl⟩:=RL _ _ _ _ _ i_ bb;exact ⟨λ_=>Nat.le_refl _,λ_=>Nat.mul_le_mul_right _ (by omega)⟩
   ·have tS:xc.ownBlock≠some b:=by
     intro kH;obtain ⟨⟨a2,qC,L2,rfl⟩,S4⟩:=bm.kp;rcases S4 with ⟨cs2,al⟩ | ⟨bf,Bk,Uw,m3,Xw,Ws,al,aS,b7⟩
     ·exact aG (K3 hj (K2 hj _ _ _ _ al L2 kH) t _ _ _ _ bb)
     ·obtain ⟨v2,qe,LZ,l3⟩:=h.Is al;have C9:(⟨hj.root,[]⟩:Place)=hj:=by cases hj; simp_all
      rw [C9,L2] at LZ;cases LZ;have LP:hj.root=p.root/\p.path=[]->False:=by
       rintro ⟨ax,i_⟩;have:hj=p:=by cases hj; cases p; simp_all
       exact hc t cN c5 cb ds (this ▸ bb)
      obtain ⟨OW,j',Ww,XF,Xy,l3⟩:=l3.uo;by_cases eP:OW.ownBlock=some b
      ·obtain ⟨⟨a4,Wr,Tr,rfl⟩,_⟩:=l3.kp;exact LP (K3 Bk (K2 Bk _ _ _ _ b7 Tr eP) _ _ _ _ _ al)
      ·exact LP (K4 _ _ _ _ _ _ ((l3.aQ b).2 ⟨kH,eP⟩) al)
    refine ⟨λTs=>?_,λkH=>absurd kH tS⟩;exact absurd (K4 _ _ _ _ _ _ ((bm.aQ b).2 ⟨Ts,tS⟩) bb) aG
  -- trees
  have bg:=h.j3;have trees:∀ t x v (ρ':aj->Value->Prop),(∀ x v,eG w T g x v->ρ' x v)->g t=some x->T[t]?=some v->R w I (eG w T g) x v (Fs t)->R w' I ρ' x v (Fs t)/\∀ r y,x.at r=some y->walk w' v r=walk w v r:=by
   intro t x v ρ' lx J hv bm;by_cases oL:Fs t b
   ·obtain ⟨q,cN,c5,cs',iG,h1,al,aS,b7⟩:=RM t x v oL J hv bm;exact bm.spare s bt lx h1 al aS b7
   ·have same:∀ c,Fs t c->w'.heap[c]?=w.heap[c]?:=λc ae=>s.other c (bg t c ae) λe=>oL (e ▸ ae);exact ⟨bm.frame (λc ae=>s.other c (bt c ae).1 (bt c ae).2) (λ_ h=>h) lx same,λr y ax=>R.o3 r bm ax same⟩
  have val:∀ q y,cd g q=some y->eI w' T q=eI w T q:=by
   intro q y bW;unfold cd at bW;cases J:g q.root with
   | none=>rw [J] at bW; cases bW
   | some x =>
    rw [J] at bW;obtain ⟨v,hv,bm⟩:=h.rel _ _ J;cases bm with
    | tree bm=>have:=(trees _ x v _ (λ_ _ h=>h) J hv bm).2 q.path y bW; simp [eI,hv,this]
    | bY bm=>simp [eI,hv,(aj.sj bW).1,walk]
  have slot:∀ {q:Place}{x:aj},q.path=[]->g q.root=some x->eI w' T q=eI w T q:=by
   intro q x bW J;obtain ⟨v,hv,_⟩:=h.rel _ _ J;simp [eI,bW,walk]
  have refs:∀ r v,eG w T g r v->eG w' T g r v:=by
   rintro r v ⟨h1,al⟩;refine ⟨?_,al⟩;cases r <;> simp only [gr,hq] at h1 al ⊢
   case ptr q k=>obtain ⟨y,aA,_⟩:=al; rw [val q y aA]; exact h1
   case bh cN q c5 =>
    rcases al with ⟨_,_,al,_⟩ | ⟨bf,_,_,_,_,al,_⟩
    ·rw [val q _ al]; exact h1
    ·rw [slot bf al]; exact h1
   case sub cN q lo c5=>obtain ⟨_,_,al,_⟩:=al; rw [val q _ al]; exact h1
   case i' q=>obtain ⟨_,al⟩:=al; rw [val q _ al]; exact h1
   case bY cN q c5 cb ds =>
    rcases al with ⟨_,al⟩ | ⟨bf,_,_,_,_,_,al,_⟩
    ·rw [val q _ al]; exact h1
    ·rw [slot bf al]; exact h1
  refine ⟨⟨λt x J=>?_,h.kL,h.fi,h.aD,λc ae=>Nat.lt_of_lt_of_le (h.lt c ae) A.fI.size,h.qj⟩,refs⟩;obtain ⟨v,hv,bm⟩:=h.rel t x J;refine ⟨v,hv,?_⟩;cases bm with
  | tree bm=>exact .tree (trees t x v _ refs J hv bm).1
  | @bY cN c5 cb hj ds _ xc cY ss iQ Dz _ bm =>
   obtain ⟨fl,q4⟩:=pends t _ _ _ _ _ v xc cY ss iQ Dz J hv bm;refine .bY ⟨refs _ _ bm.kp,s.row bm.k6 q4,s.row bm.mB fl,bm.aq,bm.h1,λk x u J hu=>?_,bm.aQ⟩;exact (bm.ax k x u J hu).frame (λc ae=>s.other c (bt c ae).1 (bt c ae).2) (λ_ h=>h) refs λc ae=>ae.elim
end
end Go.Own
namespace Go.Own
open Go
def tp (w:World) (I:bu) (T:Array Value) (g:a7) (Fs:Nat->bu) (x:aj) (v:Value) (w':World):Prop :=
 ∃ F I',dd w' I' T g Fs/\jM w' I' (eG w' T g) x v F/\(∀ t c,F c->¬ Fs t c)/\(∀ c,F c->w.heap.size<=c/\¬ I' c)/\(∀ c,I c->I' c)/\(∀ c,I' c->I c\/w.heap.size<=c)/\Fr w w' (λc=>∃ t,Fs t c)/\(∀ z p n m new,x=.bY z p n m new->∀ t cN c5 cb ds,g t≠some (.bY cN p c5 cb ds))
inductive Src (g:a7):aj->Nat->Nat->List aj->Prop
 | aD {z m:Nat}{cs:List aj}:Src g (.aD z m cs) z m cs
 | aF {z:Nat}:Src g .aF z 0 []
 | bh {z m N:Nat}{q:Place}{cs:List aj}(bW:cd g q=some (.own z N cs)) (hm:m<=N):Src g (.bh z q m) z m ((cs.take (m * z)).mapIdx λi x=>ig 0 (q.push i) x)
 | sub {z lo m N:Nat}{q:Place}{cs:List aj}(bW:cd g q=some (.own z N cs)) (hm:lo+m<=N):Src g (.sub z q lo m) z m (((cs.drop (lo * z)).take (m * z)).mapIdx λi x=>ig 0 (q.push (lo * z+i)) x)
def iV (P:Program) (t e:TypeId) (z b:Nat):Bool :=
 match P.underlying t,P.info? e with
 | some (.slice cY),some i=>cY == e&&i.size == z&&i.bytes == b&&z != 0&&(match i.zero with | some v=>v.cells.size == z | none=>false)
 | _,_=>false
section
variable {P:Program}{w:World}{I:bu}{T:Array Value}{g:a7}{Fs:Nat->bu}
theorem Jo {t e:TypeId}{z b:Nat}(h:iV P t e z b=true):∃ i eF,P.underlying t=some (.slice e)/\P.info? e=some i/\i.size=z/\i.bytes=b/\0<z/\i.zero=some eF/\eF.cells.size=z:=by
 unfold iV at h;cases hu:P.underlying t with
 | none=>simp [hu] at h
 | some d =>
  cases hi:P.info? e with
  | none=>cases d <;> simp [hu,hi] at h
  | some i =>
   cases d <;> simp [hu,hi] at h;obtain ⟨⟨⟨⟨rfl,h1⟩,al⟩,aS⟩,b7⟩:=h;cases bH:i.zero with
   | none=>simp [bH] at b7
   | some eF=>simp [bH] at b7; exact ⟨i,eF,rfl,rfl,h1,al,by omega,bH,b7⟩
theorem Src.sound (h:dd w I T g Fs) {y:aj}{v:Value}{z m:Nat}{cells:List aj}(aO:Src g y z m cells) (bm:R w I (eG w T g) y v c0) :
  ∃ (a:Option Addr) (c:Nat) (news:List Value),v=.slice a m c/\news.length=m * z/\(0<m->0<z->a.isSome=true)/\(∀ ad,a=some ad->∀ (af:Nat) (u:Value),news[af]?=some u->w.cell? (ad.add af)=some u)/\Cells w I (eG w T g) cells news:=by
 have Ms:∀ {q:Place}{N:Nat}{cs:List aj}(lo:Nat) {a:Option Addr}{cap:Nat},cd g q=some (.own z N cs)->eI w T q=some (.slice a N cap)->lo+m<=N ->
   ∃ news:List Value,news.length=m * z/\(∀ ad,a=some ad->∀ (af:Nat) (u:Value),news[af]?=some u->w.cell? ⟨ad.block,lo * z+af,none⟩=some u)/\Cells w I (eG w T g) (((cs.drop (lo * z)).take (m * z)).mapIdx λi x=>ig 0 (q.push (lo * z+i)) x) news/\(0<m->0<z->∃ b,a=some ⟨b,0,none⟩):=by
  intro q N cs lo a cap bW hv hm;obtain ⟨h0,cR,jk,eb,_⟩:=h.part bW (by simp);rw [hv] at jk;cases jk;obtain ⟨cJ,l0,kd,_,hlen,qb,_⟩:=eb.mL;cases kd;have WX:lo * z+m * z<=cs.length:=by rw [hlen,<- Nat.add_mul]; exact Nat.mul_le_mul_right _ hm
  have cell:∀ af,af<m * z->∃ b gJ kz,a=some ⟨b,0,none⟩/\w.cell? ⟨b,lo * z+af,none⟩=some gJ/\gJ.oneCell'=true/\cs[lo * z+af]?=some kz/\R w I (eG w T g) (ig 0 (q.push (lo * z+af)) kz) gJ c0:=by
   intro af aa;have gC:cs[lo * z+af]?=some cs[lo * z+af]:=List.getElem?_eq_getElem (by omega);obtain ⟨b,gJ,f',lI,l6,hd,bR,ka⟩:=eb.node (.inl rfl) gC;refine ⟨b,gJ,_,?_,lI,hd,gC,DT 0 (by rw [si,bW]; simp [aj.kids]) (by rw [wz,hv]; exact l6) ka⟩;cases a with
   | none=>simp [addrOf] at f'
   | some ad=>simp only [addrOf] at f'; rw [Option.some.inj f']
  have sQ:∃ news:List Value,news.length=m * z/\∀ af,af<m * z->∃ b gJ kz,news[af]?=some gJ/\a=some ⟨b,0,none⟩/\w.cell? ⟨b,lo * z+af,none⟩=some gJ/\gJ.oneCell'=true/\cs[lo * z+af]?=some kz/\R w I (eG w T g) (ig 0 (q.push (lo * z+af)) kz) gJ c0:=by
   refine ⟨(List.range (m * z)).map λaf=>(w.cell? ⟨(a.map (·.block)).getD 0,lo * z+af,none⟩).getD undef,by simp,λaf aa=>?_⟩;obtain ⟨b,gJ,kz,h1,al,aS,b7,dv⟩:=cell af aa;refine ⟨b,gJ,kz,?_,h1,al,aS,b7,dv⟩;rw [List.getElem?_map,List.getElem?_range aa,h1];simp [al]
  obtain ⟨news,aq,aP⟩:=sQ;refine ⟨news,aq,λad f' af u aa=>?_,⟨?_,λaf u aa=>?_,λaf x u J aa=>?_⟩,λGv G_=>?_⟩
  ·obtain ⟨b,gJ,kz,h1,al,aS,_⟩:=aP af (by rw [<- aq]; exact (List.getElem?_eq_some_iff.1 aa).1);rw [h1] at aa; cases aa;rw [f'] at al; cases al;exact aS
  ·simp; omega
  ·obtain ⟨b,gJ,kz,h1,al,aS,b7,_⟩:=aP af (by rw [<- aq]; exact (List.getElem?_eq_some_iff.1 aa).1);rw [h1] at aa; cases aa; exact b7
  ·obtain ⟨b,gJ,kz,h1,al,aS,b7,dv,eC⟩:=aP af (by rw [<- aq]; exact (List.getElem?_eq_some_iff.1 aa).1);rw [h1] at aa; cases aa;rw [List.getElem?_mapIdx,List.getElem?_take] at J
   split at J
   ·rw [List.getElem?_drop,dv] at J;simp only [Option.map_some,Option.some.injEq] at J;rw [<- J]; exact eC
   ·cases J
  ·obtain ⟨b,_,_,h1,_⟩:=cell 0 (Nat.mul_pos Gv G_);exact ⟨b,h1⟩
 cases aO with
 | aD =>
  obtain ⟨a,cap,rfl,_,hlen,hm⟩:=bm.xS;by_cases bf:cells≠[]\/0<m
  ·obtain ⟨ad,us,rfl,bt,k7,hd,ae,ax⟩:=hm bf;refine ⟨_,cap,(List.range cells.length).map us,rfl,by simp [hlen],by simp,λOh f' af u aa=>?_,⟨by simp,λaf u aa=>?_,λaf x u J aa=>?_⟩⟩
   ·cases f';rw [List.getElem?_map] at aa;by_cases fp:af<cells.length
    ·rw [List.getElem?_range fp] at aa;simp only [Option.map_some,Option.some.injEq] at aa;obtain ⟨b,o,sp⟩:=ad;simp only at k7;subst k7;rw [add_eq,<- aa];exact ae af _ (List.getElem?_eq_getElem fp)
    ·rw [List.getElem?_eq_none (by simp; omega)] at aa; cases aa
   ·rw [List.getElem?_map] at aa;by_cases fp:af<cells.length
    ·rw [List.getElem?_range fp] at aa;simp only [Option.map_some,Option.some.injEq] at aa;rw [<- aa];exact hd af _ (List.getElem?_eq_getElem fp)
    ·rw [List.getElem?_eq_none (by simp; omega)] at aa; cases aa
   ·rw [List.getElem?_map] at aa;have fp:af<cells.length:=(List.getElem?_eq_some_iff.1 J).1;rw [List.getElem?_range fp] at aa;simp only [Option.map_some,Option.some.injEq] at aa;rw [<- aa];exact ax af x J
  ·have Gv:m=0:=by omega
   have Ss:cells=[]:=Classical.byContradiction λe=>bf (.inl e);subst Gv Ss;exact ⟨a,cap,[],rfl,by simp,by simp,by simp,by simp [Cells]⟩
 | aF =>
  rw [bm.q0];exact ⟨none,0,[],rfl,by simp,by simp,by simp,by simp [Cells]⟩
 | @bh _ _ N q cs bW hm =>
  obtain ⟨⟨a,je,cap,h1,rfl,aS⟩,b7⟩:=bm.mI;obtain ⟨h0,cR,jk,eb,_⟩:=h.part bW (by simp);obtain ⟨cJ,l0,kd,_⟩:=eb.mL;rw [h1] at jk;cases jk;cases kd;obtain ⟨news,aq,ae,hI,bk⟩:=Ms 0 bW h1 (by omega);simp only [Nat.zero_mul,List.drop_zero,Nat.zero_add] at hI ae;refine ⟨a,cap,news,rfl,aq,λbf CK=>by obtain ⟨b,rfl⟩:=bk bf CK; rfl,λad f' af u aa=>?_,hI⟩;have t':=ae ad f' af u aa;by_cases bf:0<m/\0<z
  ·obtain ⟨b,aJ⟩:=bk bf.1 bf.2;rw [f'] at aJ; cases aJ;rw [add_eq]; simpa using t'
  ·have:m * z=0:=by
    rcases Nat.eq_zero_or_pos m with h | h
    ·simp [h]
    ·rcases Nat.eq_zero_or_pos z with aU | aU
     ·simp [aU]
     ·exact absurd ⟨h,aU⟩ bf
   have:=(List.getElem?_eq_some_iff.1 aa).1;omega
 | @sub _ lo _ N q cs bW hm =>
  obtain ⟨⟨a,je,cap,cJ,l0,h1,rfl,_,aS,dv⟩,b7⟩:=bm.vJ;obtain ⟨h0,cR,jk,eb,_⟩:=h.part bW (by simp);obtain ⟨a2,qC,kd,_⟩:=eb.mL;rw [h1] at jk;cases jk;cases kd;obtain ⟨news,aq,ae,hI,bk⟩:=Ms lo bW h1 hm;refine ⟨cJ,l0,news,rfl,aq,λbf _=>by obtain ⟨ad,_,rfl⟩:=dv bf; rfl,λad f' af u aa=>?_,hI⟩;have bg:=(List.getElem?_eq_some_iff.1 aa).1;have bf:0<m:=(Nat.eq_zero_or_pos m).elim (λh=>by rw [h] at aq; omega) id

  have bH:0<z:=(Nat.eq_zero_or_pos z).elim (λh=>by rw [h] at aq; omega) id

  obtain ⟨Oh,eC,kG⟩:=dv bf;obtain ⟨b,aJ⟩:=bk bf bH;rw [eC] at aJ; cases aJ;rw [f'] at kG; cases kG;have t':=ae _ eC af u aa;rw [add_eq]; simpa using t'
end
end Go.Own
namespace Go.Own
open Go
inductive yJ (P:Program) (g:a7):Op->TypeId->aj->Prop
 | grow {s x:Operand}{t e ty:TypeId}{z b n m:Nat}{p:Place}{y:aj}{cells:List aj}(aO:bT g s=some (.bh z p n)) (e8:hq g (.bY z p n 0 [])) (hc:∀ t cN c5 cb ds,g t≠some (.bY cN p c5 cb ds))
   (J:bT g x=some y) (qS:Src g y z m cells) (aG:iV P t e z b=true) (p7:n+m<=4611686018427387904) (aJ:(n+m) * b<=140737488355328) :
   yJ P g (.call { callee:=.builtin .append,args:=#[s,x],argTypes:=#[t,t] }) ty (.bY z p n m cells)
 | nil {s x:Operand}{t e ty:TypeId}{z b m:Nat}{y:aj}{cells:List aj}(aO:bT g s=some .aF)
   (J:bT g x=some y) (qS:Src g y z m cells) (aG:iV P t e z b=true) (p7:m<=4611686018427387904) (aJ:m * b<=140737488355328) :
   yJ P g (.call { callee:=.builtin .append,args:=#[s,x],argTypes:=#[t,t] }) ty (.own z m cells)
inductive dI (P:Program) (g:a7):Op->TypeId->aj->Prop
 | fl {op:Op}{ty:TypeId}{x:aj}(h:dB P g op ty x):dI P g op ty x
 | q4 {op:Op}{ty:TypeId}{x:aj}(h:o8 P g op ty x):dI P g op ty x
 | DG {op:Op}{ty:TypeId}{x:aj}(h:tt P g op ty x):dI P g op ty x
 | lB {op:Op}{ty:TypeId}{x:aj}(h:yJ P g op ty x):dI P g op ty x
section
variable {P:Program}{w:World}{I:bu}{T:Array Value}{g:a7}{Fs:Nat->bu}
theorem Cells.frame {w':World}{cells:List aj}{news:List Value}(ae:Cells w I (eG w T g) cells news) (bt:∀ c,I c->w'.heap[c]?=w.heap[c]?) (ax:∀ r v,eG w T g r v->eG w' T g r v):Cells w' I (eG w' T g) cells news :=
 ⟨ae.1,ae.2.1,λk x u J hu=>(ae.2.2 k x u J hu).frame bt (λ_ h=>h) ax λ_ h=>h.elim⟩
theorem yJ.sound (h:dd w I T g Fs) {a:Act}(bk:a.tmps=T) {o:Oper}{ki:aj}(aH:yJ P g o.op o.type ki) :
  ∃ v w',(execOp a.eval o).run P w=.ok (.value v) w'/\tp w I T g Fs ki v w':=by
 obtain ⟨dst,op,ty,pos,after,guard⟩:=o;simp only at aH;cases aH with
 | @grow s x t e _ z b n m p y cells aO e8 hc J qS aG p7 aJ =>
  obtain ⟨i,eF,hu,hi,rfl,rfl,bf,bH,n9⟩:=Jo aG;obtain ⟨⟨u4,N,u5,h1,al,aS⟩,b7⟩:=(la h aO bk).mI;obtain ⟨Bp,Ig,news,sS,aq,z6,GI,hI⟩:=qS.sound h (la h J bk)
  -- the row of the base
  have oJ:N=n/\∃ cY us,w.ownsRow 0 cY i.size (.slice u4 n u5) n us:=by
   rcases e8 with ⟨cs,aH⟩ | ⟨i_,q,hB,m0,new,cs,aH,rfl,_⟩
   ·obtain ⟨h0,cR,jk,eb,_⟩:=h.part aH (by simp);rw [h1] at jk;cases jk;obtain ⟨cJ,l0,kd,_⟩:=eb.mL;cases kd;cases eb with
    | own bj=>exact ⟨rfl,_,_,bj⟩
    | ref J=>simp [aj.isRef] at J
   ·obtain ⟨v0,jE,z',gP⟩:=h.Is aH;have bW:(⟨p.root,[]⟩:Place)=p:=by cases p; simp_all
    rw [bW,h1] at z';cases z';obtain ⟨bv,dz,de,us,Xz,gP⟩:=gP.uo;have b1:N=hB+m0:=by
     obtain ⟨_,ca⟩:=gP.mB;rcases ca with ⟨ca,aP⟩ | ⟨g,cap,cur,ca,_⟩
     ·cases ca; omega
     ·cases ca; rfl
    subst b1;exact ⟨rfl,_,_,gP.mB⟩
  obtain ⟨rfl,cY,us,k6⟩:=oJ;have kp:eG w T g (.bY i.size p N 0 []) (.slice u4 N u5):=⟨⟨u4,u5,h1,rfl⟩,e8⟩;obtain ⟨h0,w',de,iq,A⟩:=MY (P:=P) (w:=w) t ty e cY i eF hu hi bH n9 bf k6 (a:=Bp) (c:=Ig) (m:=m) (news:=news) (λhm=>z6 hm bf) aq GI (λu hu=>by
   obtain ⟨k,hk,rfl⟩:=List.mem_iff_getElem.1 hu;exact hI.2.1 k _ (List.getElem?_eq_getElem hk)) (by unfold maxLen; omega) aJ
  obtain ⟨b5,hrefs⟩:=h.app kp hc A;refine ⟨h0,w',by simp [execOp,resolve,invoke,builtin,al,sS,iq],(λc=>h0.ownBlock=some c/\(Value.slice u4 N u5).ownBlock≠some c),I,b5,?_,?_,?_,λ_ h=>h,λ_ h=>.inl h,?_,?_⟩
  ·have bt:∀ c,I c->w'.heap[c]?=w.heap[c]?:=by
    intro c ae;refine A.fI.block c (h.lt c ae) λaJ=>?_;obtain ⟨t,aG⟩:=h.Cd kp c aJ;exact h.aD t c aG ae
   have lu:=hI.frame bt hrefs;exact .bY ⟨hrefs _ _ kp,A.lO,A.new,lu.1,lu.2.1,lu.2.2,λc=>Iff.rfl⟩
  ·rintro t c ⟨iZ,sM⟩ bp;rcases A.Ce c iZ with h | aU
   ·exact sM h
   ·have:=h.j3 t c bp; omega
  ·rintro c ⟨iZ,sM⟩;rcases A.Ce c iZ with aU | aU
   ·exact absurd aU sM
   ·exact ⟨aU,λhi=>by have:=h.lt c hi; omega⟩
  ·exact A.fI.mono λc _ ae=>h.Cd kp c ae
  ·intro cN UM c5 cb ds he;cases he;exact hc
 | @nil s x t e _ z b m y cells aO J qS aG p7 aJ =>
  obtain ⟨i,eF,hu,hi,rfl,rfl,bf,bH,n9⟩:=Jo aG;have al:=(la h aO bk).q0;obtain ⟨Bp,Ig,news,sS,aq,z6,GI,hI⟩:=qS.sound h (la h J bk);obtain ⟨h0,w',de,iq,A⟩:=MY (P:=P) (w:=w) t ty e e i eF hu hi bH n9 bf (World.ownsRow_nil w 0 e i.size) (a:=Bp) (c:=Ig) (m:=m) (news:=news) (λhm=>z6 hm bf) aq GI (λu hu=>by
   obtain ⟨k,hk,rfl⟩:=List.mem_iff_getElem.1 hu;exact hI.2.1 k _ (List.getElem?_eq_getElem hk)) (by unfold maxLen; omega) (by simpa using aJ)
  have same:∀ c,c<w.heap.size->w'.heap[c]?=w.heap[c]?:=λc ae=>A.fI.block c ae (by simp [Value.ownBlock]);have qQ:=A.new;simp only [Nat.zero_add,List.nil_append] at qQ;have lu:=hI.frame (λc ae=>same c (h.lt c ae)) λr v ax=>h.DU (λ_ _=>rfl) (λt c ae=>same c (h.j3 t c ae)) (λ_ _ h=>h) ax;have hblk:∀ c,h0.ownBlock=some c->w.heap.size<=c:=λc ae=>(A.Ce c ae).elim (λh=>by simp [Value.ownBlock] at h) id;refine ⟨h0,w',by simp [execOp,resolve,invoke,builtin,al,sS,iq],(λc=>h0.ownBlock=some c),I,h.world (λt c ae=>same c (h.j3 t c ae)) (λc ae=>same c (h.lt c ae)) A.fI.size,?_,?_,λc ae=>⟨hblk c ae,λhi=>by have:=h.lt c hi; have:=hblk c ae; omega⟩,λ_ h=>h,λ_ h=>.inl h,?_,?_⟩
  ·exact .tree (.own (Fs:=λ_=>c0) qQ lu.1 lu.2.1 lu.2.2 (λ_ _ _ _ _ h=>h.elim) (λ_ _ _ h=>h.elim) λc=>⟨.inl,λh=>h.elim id λ⟨_,_,h⟩=>h.elim⟩)
  ·intro t c ae bp; have:=hblk c ae; have:=h.j3 t c bp; omega
  ·exact A.fI.mono λc _ ae=>by simp [Value.ownBlock] at ae
  ·intro cN UM c5 cb ds he; cases he
theorem dI.sound (h:dd w I T g Fs) {a:Act}(bk:a.tmps=T) {o:Oper}{ki:aj}(aH:dI P g o.op o.type ki) :
  ∃ v w',(execOp a.eval o).run P w=.ok (.value v) w'/\tp w I T g Fs ki v w':=by
 have Au:∀ {v:Value}{F:bu},R w I (eG w T g) ki v F->∀ z p n m new,ki=.bY z p n m new->∀ t cN c5 cb ds,g t≠some (.bY cN p c5 cb ds):=by
  rintro v F bm z p n m new rfl;exact bm.k_.elim
 cases aH with
 | fl aH =>
  obtain ⟨v,ax,bm⟩:=aH.sound h bk;exact ⟨v,w,ax,c0,I,h,.tree bm,λ_ _ h=>h.elim,λ_ h=>h.elim,λ_ h=>h,λ_ h=>.inl h,Fr.refl _ _,Au bm⟩
 | DG aH =>
  obtain ⟨v,ax,bm⟩:=aH.sound h bk;exact ⟨v,w,ax,c0,I,h,.tree bm,λ_ _ h=>h.elim,λ_ h=>h.elim,λ_ h=>h,λ_ h=>.inl h,Fr.refl _ _,Au bm⟩
 | q4 aH =>
  obtain ⟨v,q3,ax,bm⟩:=aH.sound h bk;refine ⟨v,_,ax,_,I,h.alloc q3,.tree bm,λt c ae bp=>?_,λc ae=>⟨by rw [ae]; exact Nat.le_refl _,λhi=>by have:=h.lt c hi; omega⟩,λ_ h=>h,λ_ h=>.inl h,Fr.alloc w q3 _ (by
   obtain ⟨o,h1,al⟩:=bm.UX w.heap.size rfl;rw [sg] at h1;cases h1;exact al),?_⟩
  ·have:=h.j3 t c bp; omega
  ·rintro z p n m new rfl; exact bm.k_.elim
 | lB aH=>exact aH.sound h bk
end
end Go.Own
namespace Go.Own
open Go
inductive dn:aj->Prop
 | lit {v:Value}:dn (.lit v)
 | aF:dn .aF
 | dead:dn .dead
 | aD {z n:Nat}{cs:List aj}(h:∀ x∈cs,dn x):dn (.aD z n cs)
 | own {z n:Nat}{cs:List aj}(h:∀ x∈cs,dn x):dn (.own z n cs)
 | obj {cs:List aj}(h:∀ x∈cs,dn x):dn (.obj cs)
 | agg {cs:List aj}(h:∀ x∈cs,dn x):dn (.agg cs)
 | cA {cs:List aj}(h:∀ x∈cs,dn x):dn (.cA cs)
 | bn {cs:List aj}(h:∀ x∈cs,dn x):dn (.bn cs)
 | eB {fn:Fn}{a b:List aj}(h1:∀ x∈a,dn x) (al:∀ x∈b,dn x):dn (.eB fn a b)
 | mp {p:Array MapEntry->Nat->Prop}:dn (.mp p)
 | imp {p:Array MapEntry->Nat->Prop}:dn (.imp p)
inductive kB:aj->Prop
 | lit {v:Value}:kB (.lit v)
 | aF:kB .aF
 | dead:kB .dead
 | own {z n:Nat}{cs:List aj}(h:∀ x∈cs,kB x):kB (.own z n cs)
 | obj {cs:List aj}(h:∀ x∈cs,kB x):kB (.obj cs)
 | agg {cs:List aj}(h:∀ x∈cs,kB x):kB (.agg cs)
 | cA {cs:List aj}(h:∀ x∈cs,kB x):kB (.cA cs)
 | mp {p:Array MapEntry->Nat->Prop}:kB (.mp p)
theorem kB.bP {x:aj}(h:kB x):dn x:=by
 induction h with
 | lit=>exact .lit
 | aF=>exact .aF
 | dead=>exact .dead
 | own _ aR=>exact .own aR
 | obj _ aR=>exact .obj aR
 | agg _ aR=>exact .agg aR
 | cA _ aR=>exact .cA aR
 | mp=>exact .mp
inductive Rows (g:a7):Place->Nat->Nat->List aj->Prop
 | own {p:Place}{z n:Nat}{cs:List aj}(aH:cd g p=some (.own z n cs)):Rows g p z n cs
 | bY {t z n m:Nat}{q:Place}{new cs:List aj}(aG:g t=some (.bY z q n m new)) (bW:Rows g q z n cs):Rows g ⟨t,[]⟩ z (n+m) (cs++new)
theorem Rows.mono {g g':a7}(h:∀ {p:Place}{y:aj},cd g p=some y->cd g' p=some y) {p:Place}{z n:Nat}{cs:List aj}(ax:Rows g p z n cs) (al:∀ t x,g t=some x->g' t=some x):Rows g' p z n cs:=by
 induction ax with
 | own aH=>exact .own (h aH)
 | bY aG _ aR=>exact .bY (al _ _ aG) aR
inductive View (g:a7):aj->aj->Prop
 | self {x:aj}(h:dn x) (J:∀ z n cs,x≠.own z n cs) (bj:∀ cs,x≠.obj cs) (bk:∀ cs,x≠.agg cs) (aG:∀ cs,x≠.cA cs) (hm:∀ p,x≠.mp p):View g x x
 | mp {p:Array MapEntry->Nat->Prop}:View g (.mp p) (.imp p)
 | i' {p:Place}{q:Array MapEntry->Nat->Prop}(aH:cd g p=some (.mp q)):View g (.i' p) (.imp q)
 | pK {z:Nat}:View g .aF (.aD z 0 [])
 | agg {cs cs':List aj}(aq:cs'.length=cs.length) (h:∀ (k:Nat) (x y:aj),cs[k]?=some x->cs'[k]?=some y->View g x y):View g (.agg cs) (.agg cs')
 | own {z n:Nat}{cs cs':List aj}(aq:cs'.length=cs.length) (h:∀ (k:Nat) (x y:aj),cs[k]?=some x->cs'[k]?=some y->View g x y):View g (.own z n cs) (.aD z n cs')
 | obj {cs cs':List aj}(aq:cs'.length=cs.length) (h:∀ (k:Nat) (x y:aj),cs[k]?=some x->cs'[k]?=some y->View g x y):View g (.obj cs) (.bn cs')
 | bh {z n N:Nat}{p:Place}{cs cs':List aj}(aH:cd g p=some (.own z N cs)) (aP:n<=N) (aq:cs'.length=(cs.take (n * z)).length) (h:∀ (k:Nat) (x y:aj),(cs.take (n * z))[k]?=some x->cs'[k]?=some y->View g x y):View g (.bh z p n) (.aD z n cs')
 | sub {z lo n N:Nat}{p:Place}{cs cs':List aj}(aH:cd g p=some (.own z N cs)) (aP:lo+n<=N) (aq:cs'.length=((cs.drop (lo * z)).take (n * z)).length) (h:∀ (k:Nat) (x y:aj),((cs.drop (lo * z)).take (n * z))[k]?=some x->cs'[k]?=some y->View g x y):View g (.sub z p lo n) (.aD z n cs')
 | ptr {p:Place}{k z n:Nat}{y:aj}{cs cs':List aj}(aH:cd g p=some y) (aA:y=.own z n cs\/y=.obj cs) (hk:k<cs.length) (aq:cs'.length=(cs.drop k).length) (h:∀ (af:Nat) (x y:aj),(cs.drop k)[af]?=some x->cs'[af]?=some y->View g x y):View g (.ptr p k) (.bn cs')
 | eB {fn:Fn}{cs cs':List aj}(aq:cs'.length=cs.length) (h:∀ (k:Nat) (x y:aj),cs[k]?=some x->cs'[k]?=some y->View g x y):View g (.eB fn [] cs) (.eB fn [] cs')
 | rows {z n:Nat}{p:Place}{cs cs':List aj}(aH:Rows g p z n cs) (aq:cs'.length=cs.length) (h:∀ (k:Nat) (x y:aj),cs[k]?=some x->cs'[k]?=some y->View g x y):View g (.bh z p n) (.aD z n cs')
section
variable {P:Program}{w:World}{I:bu}{T:Array Value}{g:a7}{Fs:Nat->bu}
theorem R.bP {ρ ρ':aj->Value->Prop}{x:aj}{v:Value}{F:bu}(h:R w I ρ x v F):dn x->R w I ρ' x v F:=by
 induction h with
 | lit h aQ=>exact λ_=>.lit h aQ
 | aF aQ=>exact λ_=>.aF aQ
 | dead aQ=>exact λ_=>.dead aQ
 | @ref x _ _ J h aQ=>intro aP; cases aP <;> simp [aj.isRef] at J
 | hW aQ=>exact λ_=>.hW aQ
 | aD aQ k5 bt aO aq h1 ae ax aR=>exact λaP=>.aD aQ k5 bt aO aq h1 ae λk x J=>aR k x J (by cases aP with | aD h=>exact h x (List.mem_of_getElem? J))
 | bn aQ bt aO h1 ae ax aR=>exact λaP=>.bn aQ bt aO h1 ae λk x J=>aR k x J (by cases aP with | bn h=>exact h x (List.mem_of_getElem? J))
 | own bj aq h1 ax aZ aJ aQ aR=>exact λaP=>.own bj aq h1 (λk x u J hu=>aR k x u J hu (by cases aP with | own h=>exact h x (List.mem_of_getElem? J))) aZ aJ aQ
 | obj bj aq h1 ax aZ aJ aQ aR=>exact λaP=>.obj bj aq h1 (λk x u J hu=>aR k x u J hu (by cases aP with | obj h=>exact h x (List.mem_of_getElem? J))) aZ aJ aQ
 | agg aq h1 ax aZ aQ aR=>exact λaP=>.agg aq h1 (λk x u J hu=>aR k x u J hu (by cases aP with | agg h=>exact h x (List.mem_of_getElem? J))) aZ aQ
 | cA aq ax aZ aQ aR=>exact λaP=>.cA aq (λk x u J hu=>aR k x u J hu (by cases aP with | cA h=>exact h x (List.mem_of_getElem? J))) aZ aQ
 | mp bj aH aQ=>exact λ_=>.mp bj aH aQ
 | imp aQ bt bj aH=>exact λ_=>.imp aQ bt bj aH
 | eB aQ h1 al j0 iL gD gx=>exact λaP=>.eB aQ h1 al (λk x u J hu=>gD k x u J hu (by cases aP with | eB h _=>exact h x (List.mem_of_getElem? J))) (λk x u J hu=>gx k x u J hu (by cases aP with | eB _ h=>exact h x (List.mem_of_getElem? J)))
theorem R.nm {ρ:aj->Value->Prop}{I':bu}{x:aj}{v:Value}{F:bu}(h:R w I ρ x v F) (bt:∀ c,I c->I' c):R w I' ρ x v F :=
 h.frame (λ_ _=>rfl) bt (λ_ _ h=>h) λ_ _=>rfl
theorem R.k' {ρ ρ':aj->Value->Prop}{I':bu}{x:aj}{v:Value}{F:bu}(h:R w I ρ x v F):kB x->R w I' ρ' x v F:=by
 induction h with
 | lit h aQ=>exact λ_=>.lit h aQ
 | aF aQ=>exact λ_=>.aF aQ
 | dead aQ=>exact λ_=>.dead aQ
 | @ref x _ _ J h aQ=>intro aP; cases aP <;> simp [aj.isRef] at J
 | hW=>intro aP; cases aP
 | aD=>intro aP; cases aP
 | bn=>intro aP; cases aP
 | own bj aq h1 ax aZ aJ aQ aR=>exact λaP=>.own bj aq h1 (λk x u J hu=>aR k x u J hu (by cases aP with | own h=>exact h x (List.mem_of_getElem? J))) aZ aJ aQ
 | obj bj aq h1 ax aZ aJ aQ aR=>exact λaP=>.obj bj aq h1 (λk x u J hu=>aR k x u J hu (by cases aP with | obj h=>exact h x (List.mem_of_getElem? J))) aZ aJ aQ
 | agg aq h1 ax aZ aQ aR=>exact λaP=>.agg aq h1 (λk x u J hu=>aR k x u J hu (by cases aP with | agg h=>exact h x (List.mem_of_getElem? J))) aZ aQ
 | cA aq ax aZ aQ aR=>exact λaP=>.cA aq (λk x u J hu=>aR k x u J hu (by cases aP with | cA h=>exact h x (List.mem_of_getElem? J))) aZ aQ
 | eB=>intro aP; cases aP
 | mp bj aH aQ=>exact λ_=>.mp bj aH aQ
 | imp=>intro aP; cases aP
theorem R.x5 {ρ:aj->Value->Prop}{z n:Nat}{cs:List aj}{v:Value}{F:bu}(h:R w I ρ (.own z n cs) v F):∃ (a:Option Addr) (cap:Nat) (us:Nat->Value) (bR:Nat->bu),v=.slice a n cap/\n<=cap/\cs.length=n * z /\
  (∀ ad,a=some ad->∃ b,ad=⟨b,0,none⟩/\F b)/\(∀ (k:Nat) (x:aj),cs[k]?=some x->∃ b,a=some ⟨b,0,none⟩/\w.cell? ⟨b,k,none⟩=some (us k)/\(us k).oneCell'=true/\R w I ρ x (us k) (bR k)/\∀ c,bR k c->F c):=by
 have bf:=h;cases h with
 | ref J=>simp [aj.isRef] at J
 | @own _ _ _ _ e us Fs _ bj aq h1 ax aZ aJ aQ =>
  obtain ⟨a,cap,rfl,aP,hlen,qb,rP⟩:=bf.mL;refine ⟨a,cap,λk=>us.getD k undef,Fs,rfl,aP,hlen,λad f'=>?_,λk x hk=>?_⟩
  ·obtain ⟨zQ,zR⟩:=qb ad f';obtain ⟨b,o,sp⟩:=ad;simp only at zQ zR;subst zQ zR;exact ⟨b,rfl,(aQ b).2 (.inl (by rw [f']; rfl))⟩
  ·have bg:k<cs.length:=(List.getElem?_eq_some_iff.1 hk).1;have hu:us[k]?=some us[k]:=List.getElem?_eq_getElem (aq ▸ bg);obtain ⟨b,u,f',lI,l6,hd,_⟩:=bf.node (.inl rfl) hk;have:a=some ⟨b,0,none⟩:=by
    cases a with
    | none=>simp [addrOf] at f'
    | some ad=>simp only [addrOf] at f'; rw [Option.some.inj f']
   rw [ob bj hu] at l6;cases l6;refine ⟨b,this,?_,?_,?_,λc ae=>(aQ c).2 (.inr ⟨k,bg,ae⟩)⟩
   ·simpa [List.getD,hu] using lI
   ·simpa [List.getD,hu] using hd
   ·simpa [List.getD,hu] using ax k x _ hk hu
theorem R.DB {ρ:aj->Value->Prop}{y:aj}{v:Value}{F:bu}{z n:Nat}{cs:List aj}(h:R w I ρ y v F) (aA:y=.own z n cs\/y=.obj cs) {ad:Addr}(bk:addrOf v=some ad):F ad.block:=by
 rcases aA with rfl | rfl
 ·obtain ⟨a,cap,rfl,_⟩:=h.mL;refine h.pL _ ?_;cases a with
  | none=>simp [addrOf] at bk
  | some a=>simp only [addrOf,Option.some.injEq] at bk; subst bk; rfl
 ·cases h with
  | ref J=>simp [aj.isRef] at J
  | obj bj aq h1 ax aZ aJ aQ=>simp only [addrOf,Option.some.injEq] at bk; subst bk; exact (aQ _).2 (.inl rfl)
theorem UK {w:World}{e cY:TypeId}{z n:Nat}{v:Value}{us iQ:List Value}(h:w.ownsRow 0 e z v n us) (aU:w.ownsRow 0 cY z v n iQ):us=iQ:=by
 obtain ⟨h1,al⟩:=h;obtain ⟨aS,b7⟩:=aU;rcases al with ⟨rfl,rfl⟩ | ⟨b,cap,cur,rfl,_,ca,_,_,_,aG⟩
 ·have dz:us=[]:=List.eq_nil_of_length_eq_zero (by simpa using h1);have de:iQ=[]:=List.eq_nil_of_length_eq_zero (by simpa using aS);rw [dz,de]
 ·rcases b7 with ⟨dz,_⟩ | ⟨iW,l0,Qk,dz,_,Lr,_,_,_,qc⟩
  ·cases dz
  ·cases dz;rw [ca] at Lr;cases Lr;rw [<- aG,<- qc]
theorem Rows.sound {ρ:aj->Value->Prop}(H1:∀ t z q n m new,g t=some (.bY z q n m new)->∃ v,T[t]?=some v/\jM w I ρ (.bY z q n m new) v (Fs t))
  (NW:∀ p z n cs,cd g p=some (.own z n cs)->∃ v cR,eI w T p=some v/\R w I ρ (.own z n cs) v cR/\∀ c,cR c->Fs p.root c) (yG:∀ z p n v,ρ (.bY z p n 0 []) v->eI w T p=some v) {p:Place}{z n:Nat}{cs:List aj}(h:Rows g p z n cs) :
  ∃ v e us,eI w T p=some v/\w.ownsRow 0 e z v n us/\us.length=cs.length/\(∀ (k:Nat) (u:Value),us[k]?=some u->u.oneCell'=true)/\(∀ c,v.ownBlock=some c->∃ t,Fs t c) /\
   (∀ (k:Nat) (x:aj) (u:Value),cs[k]?=some x->us[k]?=some u->∃ bR,R w I ρ x u bR/\∀ c,bR c->∃ t,Fs t c):=by
 induction h with
 | @own p z n cs aH =>
  obtain ⟨v,cR,hv,bm,aQ⟩:=NW p z n cs aH;cases bm with
  | ref J=>simp [aj.isRef] at J
  | @own _ _ _ _ e us bR _ bj aq h1 ax aZ aJ k4 =>
   refine ⟨v,e,us,hv,bj,aq.symm,h1,λc ae=>⟨_,aQ c ((k4 c).2 (.inl ae))⟩,λk x u J hu=>⟨bR k,ax k x u J hu,λc ae=>⟨_,aQ c ((k4 c).2 (.inr ⟨k,(List.getElem?_eq_some_iff.1 J).1,ae⟩))⟩⟩⟩
 | @bY t z n m q new cs aG _ aR =>
  obtain ⟨v,hv,bm⟩:=H1 t z q n m new aG;obtain ⟨v0,e,us,jE,bj,aq,h1,aJ,ax⟩:=aR;cases bm with
  | tree bm=>exact bm.k_.elim
  | @bY _ _ _ _ _ _ bv dz de VW news _ bm =>
   have j_:=yG _ _ _ _ bm.kp;rw [jE] at j_;cases j_;have:=UK bj bm.k6;subst this;refine ⟨v,de,us++news,by simp [eI,hv,walk],bm.mB,by rw [List.length_append,List.length_append,aq,bm.aq],λk u hu=>?_,λc ae=>?_,λk x u J hu=>?_⟩
   ·by_cases hk:k<us.length
    ·rw [List.getElem?_append_left hk] at hu; exact h1 k u hu
    ·rw [List.getElem?_append_right (by omega)] at hu; exact bm.h1 _ u hu
   ·by_cases p9:v0.ownBlock=some c
    ·exact aJ c p9
    ·exact ⟨t,(bm.aQ c).2 ⟨ae,p9⟩⟩
   ·by_cases hk:k<us.length
    ·rw [List.getElem?_append_left (by omega)] at J;rw [List.getElem?_append_left hk] at hu;exact ax k x u J hu
    ·rw [List.getElem?_append_right (by omega)] at J;rw [List.getElem?_append_right (by omega),aq] at hu;exact ⟨_,bm.ax _ x u J hu,λc ae=>ae.elim⟩
theorem MT {ρ':aj->Value->Prop}{e:TypeId}{z n N cap:Nat}{a:Option Addr}{us:List Value}{cs cs':List aj}(bj:w.ownsRow 0 e z (.slice a N cap) n us) (hlen:us.length=cs.length) (h1:∀ (k:Nat) (u:Value),us[k]?=some u->u.oneCell'=true) (aJ:∀ c,(Value.slice a N cap).ownBlock=some c->∃ t,Fs t c) (aq:cs'.length=cs.length)
  (ax:∀ (k:Nat) (x y:aj) (u:Value),cs[k]?=some x->cs'[k]?=some y->us[k]?=some u->R w (λc=>I c\/∃ t,Fs t c) ρ' y u c0):R w (λc=>I c\/∃ t,Fs t c) ρ' (.aD z n cs') (.slice a n cap) c0:=by
 obtain ⟨Lz,bj⟩:=bj;rcases bj with ⟨j_,bf⟩ | ⟨b,qC,cur,dz,_,ca,C4,ae,aO,aG⟩
 ·cases j_;subst bf;have lu:cs'=[]:=List.eq_nil_of_length_eq_zero (by rw [aq,<- hlen,Lz]; simp);subst lu;exact .hW λ_ h=>h
 ·cases dz;refine .aD (us:=λk=>us.getD k undef) (λ_ h=>h) C4 (.inr (aJ b rfl)) rfl (by rw [aq,<- hlen,Lz]) (λk y aA=>?_) (λk y aA=>?_) λk y aA=>?_
  all_goals
   have hk:k<us.length:=by rw [hlen,<- aq]; exact (List.getElem?_eq_some_iff.1 aA).1
   have hu:us[k]?=some us[k]:=List.getElem?_eq_getElem hk;have bb:us.getD k undef=us[k]:=by simp [List.getD,hu]
  ·rw [bb]; exact h1 k _ hu
  ·rw [bb];have uh:∀ u,us[k]?=some u->w.cell? ⟨b,k,none⟩=some u:=λu uh=>by
    rw [<- aG,List.getElem?_take] at uh
    split at uh
    ·simpa [World.cell?,ca] using uh
    ·cases uh
   simpa using uh _ hu
  ·rw [bb];exact ax k _ y _ (List.getElem?_eq_getElem (by omega)) aA hu
theorem View.sound (h:dd w I T g Fs) {x x':aj}(hv:View g x x'):∀ {v:Value}{F:bu},R w I (eG w T g) x v F->(∀ c,F c->∃ t,Fs t c)->∀ ρ',R w (λc=>I c\/∃ t,Fs t c) ρ' x' v c0:=by
 induction hv with
 | pK =>
  intro v F bm aQ ρ';have:=bm.q0;subst this;exact .hW λ_ h=>h
 | mp =>
  intro v F bm aQ ρ';cases bm with
  | ref J=>simp [aj.isRef] at J
  | mp bj aH aJ=>exact .imp (λ_ h=>h) (.inr (aQ _ ((aJ _).2 rfl))) bj aH
 | i' aH =>
  intro v F bm aQ ρ';cases bm with
  | ref _ ax _ =>
   obtain ⟨⟨b,aJ,rfl⟩,_⟩:=ax;obtain ⟨h0,cR,jk,eb,dS⟩:=h.part aH (by simp);rw [aJ] at jk;cases jk;cases eb with
   | ref J=>simp [aj.isRef] at J
   | mp bj aH aJ=>exact .imp (λ_ h=>h) (.inr ⟨_,dS _ ((aJ _).2 rfl)⟩) bj aH
 | self aP h1 al aS b7 dv =>
  intro v F bm aQ ρ';refine ((bm.bP aP).nm λc ae=>.inl ae).empty ?_;cases bm with
  | mp=>exact absurd rfl (dv _)
  | lit _ aQ | aF aQ | dead aQ | ref _ _ aQ | hW aQ | aD aQ | bn aQ | eB aQ | imp aQ=>exact aQ
  | own=>exact absurd rfl (h1 _ _ _)
  | obj=>exact absurd rfl (al _)
  | agg=>exact absurd rfl (aS _)
  | cA=>exact absurd rfl (b7 _)
 | @agg cs cs' aq _ aR =>
  intro v F bm aQ ρ';cases bm with
  | ref J=>simp [aj.isRef] at J
  | @agg _ vs bR _ ic h1 ax aZ k4 =>
   refine .agg (Fs:=λ_=>c0) (by rw [aq,ic]) h1 (λk y u aA hu=>?_) (λ_ _ _ _ _ h=>h.elim) (λc=>⟨λh=>h.elim,λ⟨_,_,h⟩=>h⟩);have hk:k<cs.length:=by rw [<- aq]; exact (List.getElem?_eq_some_iff.1 aA).1
   have J:=List.getElem?_eq_getElem hk;exact aR k _ y J aA (ax k _ u J hu) (λc ae=>aQ c ((k4 c).2 ⟨k,hk,ae⟩)) ρ'
 | @eB fn cs cs' aq _ aR =>
  intro v F bm aQ ρ';cases bm with
  | ref J=>simp [aj.isRef] at J
  | @eB _ _ _ v1 v2 _ xy h1 al j0 iL =>
   refine .eB (λ_ h=>h) h1 (by rw [aq,al]) (λk x u J=>by simp at J) (λk y u aA hu=>?_);have hk:k<cs.length:=by rw [<- aq]; exact (List.getElem?_eq_some_iff.1 aA).1
   have J:=List.getElem?_eq_getElem hk;exact aR k _ y J aA (iL k _ u J hu) (λc ae=>ae.elim) ρ'
 | @own z n cs cs' aq _ aR =>
  intro v F bm aQ ρ';obtain ⟨a,cap,us,bR,rfl,aP,hlen,bk,ae⟩:=bm.x5;cases a with
  | none =>
   have hI:cs=[]:=by
    cases cs with
    | nil=>rfl
    | cons c cs=>obtain ⟨b,aJ,_⟩:=ae 0 c rfl; cases aJ
   subst hI;have lu:cs'=[]:=List.eq_nil_of_length_eq_zero (by simpa using aq);subst lu;have pA:n=0:=by
    cases bm with
    | ref J=>simp [aj.isRef] at J
    | own bj =>
     obtain ⟨_,ca⟩:=bj;rcases ca with ⟨ca,bf⟩ | ⟨b,c2,cur,ca,_⟩
     ·exact bf
     ·cases ca
   subst pA;exact .hW λ_ h=>h
  | some ad =>
   obtain ⟨b,rfl,qJ⟩:=bk ad rfl;refine .aD (us:=us) (λ_ h=>h) aP (.inr (aQ b qJ)) rfl (by rw [aq,hlen]) (λk y aA=>?_) (λk y aA=>?_) λk y aA=>?_
   all_goals
    have hk:k<cs.length:=by rw [<- aq]; exact (List.getElem?_eq_some_iff.1 aA).1
    have J:=List.getElem?_eq_getElem hk;obtain ⟨iW,kH,h1,al,aS,b7⟩:=ae k _ J;cases kH
   ·exact al
   ·simpa using h1
   ·exact aR k _ y J aA aS (λc ae=>aQ c (b7 c ae)) ρ'
 | @obj cs cs' aq _ aR =>
  intro v F bm aQ ρ';cases bm with
  | ref J=>simp [aj.isRef] at J
  | @obj _ b e arr bR _ bj ic h1 ax aZ aJ k4 =>
   refine .bn (us:=λk=>arr.getD k undef) (λ_ h=>h) (.inr (aQ b ((k4 b).2 (.inl rfl)))) rfl (λk y aA=>?_) (λk y aA=>?_) λk y aA=>?_
   all_goals
    have hk:k<cs.length:=by rw [<- aq]; exact (List.getElem?_eq_some_iff.1 aA).1
    have J:=List.getElem?_eq_getElem hk;have hu:arr[k]?=some arr[k]:=Array.getElem?_eq_getElem (ic ▸ hk)
   ·simpa [hu] using h1 k _ hu
   ·simp [World.cell?,bj,hu]
   ·simpa [hu] using aR k _ y J aA (ax k _ _ J hu) (λc ae=>aQ c ((k4 c).2 (.inr ⟨k,hk,ae⟩))) ρ'
 | @bh z n N p cs cs' aH aP aq _ aR =>
  intro v F bm aQ ρ';obtain ⟨⟨a,je,cap,h1,rfl,aS⟩,_⟩:=bm.mI;obtain ⟨pT,pW,hf,hS,l2⟩:=h.part aH (by simp);rw [h1] at hf;cases hf;obtain ⟨a2,qC,us,bR,kd,k5,hlen,bk,ae⟩:=hS.x5;cases kd;have hle:n * z<=N * z:=Nat.mul_le_mul_right _ aP;have cell:∀ k,k<cs'.length->∃ x b,(cs.take (n * z))[k]?=some x/\a=some ⟨b,0,none⟩/\w.cell? ⟨b,k,none⟩=some (us k)/\(us k).oneCell'=true/\R w I (eG w T g) x (us k) (bR k)/\∀ c,bR k c->pW c:=by
   intro k hk;rw [aq,List.length_take] at hk;have J:cs[k]?=some cs[k]:=List.getElem?_eq_getElem (by omega);obtain ⟨b,r⟩:=ae k _ J;exact ⟨_,b,by rw [List.getElem?_take,if_pos (by omega)]; exact J,r⟩
  cases a with
  | none =>
   have lu:cs'=[]:=by
    cases cs' with
    | nil=>rfl
    | cons c l=>obtain ⟨_,b,_,aJ,_⟩:=cell 0 (by simp); cases aJ
   subst lu;obtain ⟨_,_,kd,_,_,_,rP⟩:=hS.mL;cases kd;have pA:n=0:=by
    rcases Nat.eq_zero_or_pos n with bf | bf
    ·exact bf
    ·have:=rP (by omega); simp at this
   subst pA;exact .hW λ_ h=>h
  | some ad =>
   obtain ⟨b,rfl,qJ⟩:=bk ad rfl;refine .aD (us:=us) (λ_ h=>h) (by omega) (.inr ⟨_,l2 b qJ⟩) rfl (by rw [aq,List.length_take,hlen]; omega) (λk y aA=>?_) (λk y aA=>?_) λk y aA=>?_
   all_goals
    obtain ⟨x,iW,J,kH,b7,dv,eC,kG⟩:=cell k (List.getElem?_eq_some_iff.1 aA).1;cases kH
   ·exact dv
   ·simpa using b7
   ·exact aR k x y J aA eC (λc ae=>⟨_,l2 c (kG c ae)⟩) ρ'
 | @sub z lo n N p cs cs' aH aP aq _ aR =>
  intro v F bm aQ ρ';obtain ⟨⟨a,je,cap,cJ,l0,h1,rfl,Gy,aS,dv⟩,_⟩:=bm.vJ;obtain ⟨pT,pW,hf,hS,l2⟩:=h.part aH (by simp);rw [h1] at hf;cases hf;obtain ⟨a2,qC,us,bR,kd,k5,hlen,bk,ae⟩:=hS.x5;cases kd;have hle:lo * z+n * z<=N * z:=by rw [<- Nat.add_mul]; exact Nat.mul_le_mul_right _ aP
  have ic:cs'.length=n * z:=by rw [aq,List.length_take,List.length_drop,hlen]; omega
  have cell:∀ k,k<cs'.length->∃ x b,((cs.drop (lo * z)).take (n * z))[k]?=some x/\a=some ⟨b,0,none⟩/\w.cell? ⟨b,lo * z+k,none⟩=some (us (lo * z+k))/\(us (lo * z+k)).oneCell'=true/\R w I (eG w T g) x (us (lo * z+k)) (bR (lo * z+k))/\∀ c,bR (lo * z+k) c->pW c:=by
   intro k hk;have J:cs[lo * z+k]?=some cs[lo * z+k]:=List.getElem?_eq_getElem (by omega);obtain ⟨b,r⟩:=ae _ _ J;exact ⟨_,b,by rw [List.getElem?_take,if_pos (by omega),List.getElem?_drop]; exact J,r⟩
  by_cases pA:n=0
  ·subst pA;have lu:cs'=[]:=List.eq_nil_of_length_eq_zero (by simpa using ic);subst lu;exact .hW λ_ h=>h
  ·obtain ⟨ad,rfl,rfl⟩:=dv (by omega);obtain ⟨b,rfl,qJ⟩:=bk ad rfl;refine .aD (us:=λk=>us (lo * z+k)) (λ_ h=>h) Gy (.inr ⟨_,l2 b qJ⟩) rfl ic (λk y aA=>?_) (λk y aA=>?_) λk y aA=>?_
   all_goals
    obtain ⟨x,iW,J,kH,b7,Fy,eC,kG⟩:=cell k (List.getElem?_eq_some_iff.1 aA).1;cases kH
   ·exact Fy
   ·simpa using b7
   ·exact aR k x y J aA eC (λc ae=>⟨_,l2 c (kG c ae)⟩) ρ'
 | @ptr p k z n y cs cs' aH aA hk aq _ aR =>
  intro v F bm aQ ρ';obtain ⟨⟨u,ad,h1,al,rfl⟩,_⟩:=bm.ni;obtain ⟨pT,pW,hf,hS,l2⟩:=h.part aH (by rcases aA with rfl | rfl <;> simp);rw [h1] at hf;cases hf;have cell:∀ af,af<cs'.length->∃ gJ kz uY,w.cell? ⟨ad.block,k+af,none⟩=some gJ/\gJ.oneCell'=true/\(cs.drop k)[af]?=some kz/\R w I (eG w T g) kz gJ uY/\(∀ c,uY c->∃ t,Fs t c):=by
   intro af aa;rw [aq,List.length_drop] at aa;have gC:cs[k+af]?=some cs[k+af]:=List.getElem?_eq_getElem (by omega);obtain ⟨b,gJ,f',lI,l6,hd,_⟩:=hS.node aA gC;rw [al] at f';cases f';have ga:cd g (p.push (k+af))=some cs[k+af]:=by rw [si,aH]; rcases aA with rfl | rfl <;> simp [aj.kids]
   by_cases hJ:∃ cN hj c5 cb ds,cs[k+af]=.bY cN hj c5 cb ds
   ·obtain ⟨cN,hj,c5,cb,ds,hJ⟩:=hJ;obtain ⟨b,VY,_,_,zG,_,bR,ka⟩:=hS.node aA gC;rw [hJ] at ka;exact ka.k_.elim
   ·obtain ⟨om,Er,qV,FM,k4⟩:=h.part ga (λcN hj c5 cb ds e=>hJ ⟨_,_,_,_,_,e⟩);rw [wz,h1] at qV;simp only [Option.bind_some] at qV;rw [l6] at qV;cases qV;exact ⟨gJ,_,Er,lI,hd,by rw [List.getElem?_drop]; exact gC,FM,λc ae=>⟨_,k4 c ae⟩⟩
  obtain ⟨b,gJ,f',_⟩:=hS.node aA (List.getElem?_eq_getElem hk);rw [al] at f';cases f';have hblk:∃ t,Fs t b:=⟨_,l2 b (hS.DB aA al)⟩;refine .bn (us:=λaf=>(w.cell? ⟨b,k+af,none⟩).getD undef) (λ_ h=>h) (.inr hblk) rfl (λaf jX nh=>?_) (λaf jX nh=>?_) λaf jX nh=>?_
  all_goals
   obtain ⟨gJ,kz,uY,c1,c2,k1,c4,kF⟩:=cell af (List.getElem?_eq_some_iff.1 nh).1
  ·simpa [c1] using c2
  ·simp [c1]
  ·simpa [c1] using aR af kz jX k1 nh c4 kF ρ'
 | @rows z n p cs cs' aH aq _ aR =>
  intro v F bm aQ ρ';obtain ⟨a,je,cap,h1,rfl,aS⟩:=bm.mI.1;obtain ⟨v0,e,us,jE,bj,hlen,mr,aJ,ax⟩:=Rows.sound (w:=w) (I:=I) (T:=T) (Fs:=Fs) (λt z q n m new aG=>h.rel t _ aG) (λp z n cs aH=>h.part aH (by simp)) (λz p n v hv=>by obtain ⟨⟨a,cap,h1,rfl⟩,_⟩:=hv; exact h1) aH;rw [h1] at jE;cases jE;refine MT bj hlen mr aJ aq λk x y u J aA hu=>?_;obtain ⟨bR,ka,fj⟩:=ax k x u J hu;exact aR k x y J aA ka fj ρ'
end
end Go.Own
namespace Go.Own
open Go
def pe (args:List aj):a7:=λt=>args[t]?
def oV (outs:List (Option aj)) (res:aj):a7:=λt=>if t=outs.length then some res else (outs[t]?).join
structure kW (w:World) (I U:bu) (w':World) (I' B2:bu):Prop where
 fI:Fr w w' U
 more:∀ c,I c->I' c
 new:∀ c,I' c->I c\/U c\/w.heap.size<=c
 own:∀ c,B2 c->U c\/w.heap.size<=c
def b6 (P:Program) (f:FuncId) (args:List aj) (outs:List (Option aj)) (res:aj):Prop :=
 outs.length=args.length/\∀ (w:World) (I:bu) (vs:List Value) (Fs:Nat->bu),vs.length=args.length->dd w I vs.toArray (pe args) Fs ->
  Calls P f vs.toArray w λe w'=>∃ v I' cB,e=.returned v/\dd w' I' (vs++[v]).toArray (oV outs res) cB/\kW w I (λc=>∃ t,Fs t c) w' I' (λc=>∃ t,cB t c)
def du (P:Program) (f:FuncId):Bool :=
 match P.funcs[f]? with
 | some fn => fn.name != "runtime.NumGoroutine" && fn.body.isSome
 | none=>false
inductive ct (P:Program) (g:a7):Op->aj->Prop
 | plain {c:Operand}{xs:Array Operand}{iF:Array TypeId}{f:FuncId}{first caps ys:List aj}{res:aj}(ae:bT g c=some (.eB (.func f) first caps)) (J:iN g xs.toList=some ys) (bp:du P f=true)
   (aP:∀ y∈first++ys++caps,dn y) (jj:b6 P f (first++ys++caps) ((first++ys++caps).map λ_=>none) res) (ax:dn res):ct P g (.call { callee:=.value c,args:=xs,argTypes:=iF }) res
 | Du {c:Operand}{xs:Array Operand}{iF:Array TypeId}{f:FuncId}{first caps ys args:List aj}{res:aj}(ae:bT g c=some (.eB (.func f) first caps)) (J:iN g xs.toList=some ys) (bp:du P f=true)
   (aq:args.length=(first++ys++caps).length) (hv:∀ (k:Nat) (x y:aj),(first++ys++caps)[k]?=some x->args[k]?=some y->View g x y) (jj:b6 P f args (args.map λ_=>none) res) (ax:kB res) :
   ct P g (.call { callee:=.value c,args:=xs,argTypes:=iF }) res
section
variable {P:Program}{w:World}{I:bu}{T:Array Value}{g:a7}{Fs:Nat->bu}
theorem EX {f:FuncId}(h:du P f=true) (args:Array Value):(callFunc f args).run P w=.ok (.enter f args) w:=by
 unfold du at h;cases bp:P.funcs[f]? with
 | none=>simp [bp] at h
 | some fn =>
  simp [bp] at h;obtain ⟨h1,al⟩:=h;cases aJ:fn.body with
  | none=>simp [aJ] at al
  | some c=>simp [callFunc,bp,h1,aJ]
theorem EW (h:dd w I T g Fs) {a:Act}(bk:a.tmps=T) {c:Operand}{xs:Array Operand}{f:FuncId}{first caps ys:List aj}(ae:bT g c=some (.eB (.func f) first caps)) (J:iN g xs.toList=some ys) :
  ∃ v1 v2:Array Value,a.eval c=.func (.func f) v1 v2/\(first++ys++caps).length=(v1++xs.map a.eval++v2).toList.length /\
   ∀ (k:Nat) (x:aj) (u:Value),(first++ys++caps)[k]?=some x->(v1++xs.map a.eval++v2).toList[k]?=some u->R w I (eG w T g) x u c0:=by
 have K7:=la h ae bk;obtain ⟨aq,ax⟩:=x3 h bk J;generalize tU:a.eval c=XG at K7;cases K7 with
 | ref J=>simp [aj.isRef] at J
 | @eB _ _ _ v1 v2 _ _ h1 al j0 iL =>
  have hlen:xs.size=ys.length:=by rw [<- Array.length_toList,aq]
  refine ⟨v1,v2,rfl,by simp [h1,al,hlen],λk x u pE oM=>?_⟩;simp only [Array.toList_append,Array.toList_map] at oM;by_cases hz:k<first.length
  ·rw [List.append_assoc,List.getElem?_append_left hz] at pE;rw [List.append_assoc,List.getElem?_append_left (by simp; omega)] at oM;exact j0 k x u pE (by simpa using oM)
  ·rw [List.append_assoc,List.getElem?_append_right (by omega)] at pE;rw [List.append_assoc,List.getElem?_append_right (by simp; omega)] at oM;simp only [Array.length_toList,<- h1] at oM;by_cases hb:k - first.length<ys.length
   ·rw [List.getElem?_append_left hb] at pE;rw [List.getElem?_append_left (by simp; omega),List.getElem?_map] at oM;cases G8:xs.toList[k - first.length]? with
    | none=>rw [G8] at oM; cases oM
    | some o=>rw [G8] at oM; cases oM; exact ax _ x o pE G8
   ·rw [List.getElem?_append_right (by omega)] at pE;rw [List.getElem?_append_right (by simp; omega)] at oM;simp only [List.length_map,Array.length_toList] at oM;rw [hlen] at oM;exact iL _ x u pE (by simpa using oM)
theorem dd.args {I':bu}(h:dd w I T g Fs) (bt:∀ c,I' c->I c\/∃ t,Fs t c) {args:List aj}{vs:List Value}(aq:args.length=vs.length)
  (ax:∀ (ρ':aj->Value->Prop) (k:Nat) (x:aj) (u:Value),args[k]?=some x->vs[k]?=some u->R w I' ρ' x u c0):dd w I' vs.toArray (pe args) (λ_=>c0):=by
 refine ⟨λt x J=>?_,λ_ _ _ h=>h,λ_ _ _ h=>h.elim,λ_ _ h=>h.elim,λc ae=>?_,λt dD z p n m new cN c5 cb ds h1 al=>?_⟩
 ·have aG:t<args.length:=(List.getElem?_eq_some_iff.1 J).1;have hu:vs[t]?=some vs[t]:=List.getElem?_eq_getElem (aq ▸ aG);exact ⟨vs[t],by rw [List.getElem?_toArray]; exact hu,.tree (ax _ t x _ J hu)⟩
 ·rcases bt c ae with aU | ⟨t,aU⟩
  ·exact h.lt c aU
  ·exact h.j3 t c aU
 ·have aG:t<args.length:=(List.getElem?_eq_some_iff.1 h1).1;exact (ax (λ_ _=>False) t _ _ h1 (List.getElem?_eq_getElem (aq ▸ aG))).k_.elim
theorem ct.sound (h:dd w I T g Fs) {a:Act}(bk:a.tmps=T) {o:Oper}{ki:aj}(aH:ct P g o.op ki) {K:Act->World->Prop}{Q:Exit->Act->World->Prop}
  (eJ:∀ v w',tp w I T g Fs ki v w'->K (a.put o.dst v) w'):o.wp P a w K Q:=by
 obtain ⟨dst,op,ty,pos,after,guard⟩:=o;simp only at aH eJ;have Au:dn ki->∀ z p n m new,ki=.bY z p n m new->∀ t cN c5 cb ds,g t≠some (.bY cN p c5 cb ds):=by
  rintro aP z p n m new rfl;cases aP
 have last:∀ {args:List aj}{res:aj}{v:Value}{vs:List Value}{w':World}{I':bu}{cB:Nat->bu},vs.length=args.length->dd w' I' (vs++[v]).toArray (oV (args.map λ_=>none) res) cB->jM w' I' (eG w' (vs++[v]).toArray (oV (args.map λ_=>none) res)) res v (cB args.length)/\∀ t,t≠args.length->∀ c,¬ cB t c:=by
  intro args res v vs w' I' cB aq b5;constructor
  ·obtain ⟨u,hu,bm⟩:=b5.rel args.length res (by simp [oV]);have:u=v:=by
    rw [<- aq] at hu;simpa using hu.symm
   subst this; exact bm
  ·intro t aG c ae;refine b5.kL t ?_ c ae;have qc:t≠(args.map λ_=>(none:Option aj)).length:=by simpa using aG
   simp only [oV,if_neg qc,List.getElem?_map];cases args[t]? <;> rfl
 cases aH with
 | @plain c xs iF f first caps ys _ ae J bp aP jj ax =>
  obtain ⟨v1,v2,tU,aq,oG⟩:=EW h bk ae J;have iq:(execOp a.eval { dst:=dst,op:=.call { callee:=.value c,args:=xs,argTypes:=iF },type:=ty,pos:=pos,after:=after,guard:=guard }).run P w=.ok (.enter f (v1++xs.map a.eval++v2)) w:=by
   simp [execOp,resolve,Deferred.ofValue,tU,invoke,EX bp]
  have b5:=h.args (I':=I) (λc ae=>.inl ae) aq λρ' k x u J hu=>(oG k x u J hu).bP (aP x (List.mem_of_getElem? J));have tT:=jj.2 w I (v1++xs.map a.eval++v2).toList _ aq.symm b5;unfold Oper.wp Oper.upon;simp only [iq];rw [Array.toArray_toList] at tT;refine Calls.mono tT ?_;rintro e w' ⟨v,I',cB,rfl,eO,cp⟩;obtain ⟨xM,hc⟩:=last aq.symm eO;have sN:Fr w w' (λ_=>False):=cp.fI.mono λb _ ⟨_,aJ⟩=>aJ;refine eJ v w' ⟨cB (first++ys++caps).length,I',?_,?_,?_,?_,cp.more,?_,sN.mono λ_ _ h=>h.elim,Au ax⟩
  ·have:=h.world (w':=w') (λt c ae=>sN.block c (h.j3 t c ae) (λh=>h)) (λc ae=>sN.block c (h.lt c ae) λh=>h) sN.size;refine ⟨λt x J=>?_,this.kL,this.fi,λt c ae hi=>?_,eO.lt,this.qj⟩
   ·obtain ⟨v,hv,bm⟩:=this.rel t x J;exact ⟨v,hv,bm.frame (λ_ _=>rfl) cp.more (λ_ _ h=>h) (λ_ _ _ _ _ _ _=>rfl) λ_ _=>rfl⟩
   ·rcases cp.new c hi with aU | ⟨_,aU⟩ | aU
    ·exact h.aD t c ae aU
    ·exact aU
    ·have:=h.j3 t c ae; omega
  ·exact .tree ((xM.h9 (by rintro z p n m new rfl; cases ax)).bP ax)
  ·intro t c ae tW;rcases cp.own c ⟨_,ae⟩ with ⟨_,aU⟩ | aU
   ·exact aU
   ·have:=h.j3 t c tW; omega
  ·intro c ae;rcases cp.own c ⟨_,ae⟩ with ⟨_,aU⟩ | aU
   ·exact aU.elim
   ·exact ⟨aU,eO.aD _ c ae⟩
  ·intro c ae;rcases cp.new c ae with aU | ⟨_,aU⟩ | aU
   ·exact .inl aU
   ·exact aU.elim
   ·exact .inr aU
 | @Du c xs iF f first caps ys args _ ae J bp Gp hv jj ax =>
  obtain ⟨v1,v2,tU,aq,oG⟩:=EW h bk ae J;have iq:(execOp a.eval { dst:=dst,op:=.call { callee:=.value c,args:=xs,argTypes:=iF },type:=ty,pos:=pos,after:=after,guard:=guard }).run P w=.ok (.enter f (v1++xs.map a.eval++v2)) w:=by
   simp [execOp,resolve,Deferred.ofValue,tU,invoke,EX bp]
  have ic:args.length=(v1++xs.map a.eval++v2).toList.length:=by rw [Gp,aq]
  have b5:=h.args (I':=λc=>I c\/∃ t,Fs t c) (λc ae=>ae) ic λρ' k x u J hu=>by
   have hk:k<(first++ys++caps).length:=by rw [<- Gp]; exact (List.getElem?_eq_some_iff.1 J).1
   have k8:=List.getElem?_eq_getElem hk;exact (hv k _ x k8 J).sound h (oG k _ u k8 hu) (λ_ h=>h.elim) ρ'
  have tT:=jj.2 w _ (v1++xs.map a.eval++v2).toList _ ic.symm b5;unfold Oper.wp Oper.upon;simp only [iq];rw [Array.toArray_toList] at tT;refine Calls.mono tT ?_;rintro e w' ⟨v,I',cB,rfl,eO,cp⟩;obtain ⟨xM,hc⟩:=last ic.symm eO;have sN:Fr w w' (λ_=>False):=cp.fI.mono λb _ ⟨_,aJ⟩=>aJ;refine eJ v w' ⟨cB args.length,I,?_,?_,?_,?_,λ_ h=>h,λ_ h=>.inl h,sN.mono λ_ _ h=>h.elim,Au ax.bP⟩
  ·exact h.world (w':=w') (λt c ae=>sN.block c (h.j3 t c ae) (λh=>h)) (λc ae=>sN.block c (h.lt c ae) λh=>h) sN.size
  ·exact .tree ((xM.h9 (by rintro z p n m new rfl; cases ax)).k' ax)
  ·intro t c ae tW;rcases cp.own c ⟨_,ae⟩ with ⟨_,aU⟩ | aU
   ·exact aU
   ·have:=h.j3 t c tW; omega
  ·intro c ae;rcases cp.own c ⟨_,ae⟩ with ⟨_,aU⟩ | aU
   ·exact aU.elim
   ·exact ⟨aU,λhi=>by have:=h.lt c hi; omega⟩
end
end Go.Own
namespace Go.Own
open Go
structure jN (w:World) (I:bu) (T:Array Value) (g:a7) (Fs:Nat->bu):Prop where
 rel:∀ t x,g t=some x->∃ v,T[t]?=some v/\jM w I (gr w T) x v (Fs t)
 kL:∀ t,g t=none->∀ c,¬ Fs t c
 fi:∀ t dD c,Fs t c->Fs dD c->t=dD
 aD:∀ t c,Fs t c->¬ I c
 lt:∀ c,I c->c<w.heap.size
def dh (g:a7) (p:Place) (y:aj):a7:=λt=>if t=p.root then (g t).map λx=>x.setAt p.path y else g t
inductive e' (g:a7):aj->Prop
 | bP {x:aj}(h:dn x):e' g x
 | ref {x:aj}(J:x.isRef=true) (h:hq g x):e' g x
 | own {z n:Nat}{cs:List aj}(h:∀ x∈cs,e' g x):e' g (.own z n cs)
 | obj {cs:List aj}(h:∀ x∈cs,e' g x):e' g (.obj cs)
 | agg {cs:List aj}(h:∀ x∈cs,e' g x):e' g (.agg cs)
 | cA {cs:List aj}(h:∀ x∈cs,e' g x):e' g (.cA cs)
 | eB {fn:Fn}{a b:List aj}(h1:∀ x∈a,e' g x) (al:∀ x∈b,e' g x):e' g (.eB fn a b)
 | bY {z n m:Nat}{p:Place}{new:List aj}(aH:hq g (.bY z p n 0 [])) (h:∀ x∈new,e' g x):e' g (.bY z p n m new)
section
variable {w:World}{I:bu}{T:Array Value}{g:a7}{Fs:Nat->bu}
theorem R.bo {x:aj}{v:Value}{F:bu}(h:R w I (gr w T) x v F):e' g x->R w I (eG w T g) x v F:=by
 induction h with
 | lit h aQ=>exact λ_=>.lit h aQ
 | aF aQ=>exact λ_=>.aF aQ
 | dead aQ=>exact λ_=>.dead aQ
 | @ref x _ _ J h aQ =>
  intro hk;refine .ref J ⟨h,?_⟩ aQ;cases hk with
  | ref _ h=>exact h
  | bP h=>cases h <;> simp [aj.isRef] at J
  | _=>simp [aj.isRef] at J
 | hW aQ=>exact λ_=>.hW aQ
 | mp bj aH aQ=>exact λ_=>.mp bj aH aQ
 | imp aQ bt bj aH=>exact λ_=>.imp aQ bt bj aH
 | aD aQ k5 bt aO aq h1 ae ax aR =>
  intro hk;cases hk with
  | ref J=>simp [aj.isRef] at J
  | bP h=>cases h with | aD h=>exact .aD aQ k5 bt aO aq h1 ae λk x J=>aR k x J (.bP (h x (List.mem_of_getElem? J)))
 | bn aQ bt aO h1 ae ax aR =>
  intro hk;cases hk with
  | ref J=>simp [aj.isRef] at J
  | bP h=>cases h with | bn h=>exact .bn aQ bt aO h1 ae λk x J=>aR k x J (.bP (h x (List.mem_of_getElem? J)))
 | own bj aq h1 ax aZ aJ aQ aR =>
  intro hk;refine .own bj aq h1 (λk x u J hu=>aR k x u J hu ?_) aZ aJ aQ;cases hk with
  | ref J=>simp [aj.isRef] at J
  | bP h=>cases h with | own h=>exact .bP (h x (List.mem_of_getElem? J))
  | own h=>exact h x (List.mem_of_getElem? J)
 | obj bj aq h1 ax aZ aJ aQ aR =>
  intro hk;refine .obj bj aq h1 (λk x u J hu=>aR k x u J hu ?_) aZ aJ aQ;cases hk with
  | ref J=>simp [aj.isRef] at J
  | bP h=>cases h with | obj h=>exact .bP (h x (List.mem_of_getElem? J))
  | obj h=>exact h x (List.mem_of_getElem? J)
 | agg aq h1 ax aZ aQ aR =>
  intro hk;refine .agg aq h1 (λk x u J hu=>aR k x u J hu ?_) aZ aQ;cases hk with
  | ref J=>simp [aj.isRef] at J
  | bP h=>cases h with | agg h=>exact .bP (h x (List.mem_of_getElem? J))
  | agg h=>exact h x (List.mem_of_getElem? J)
 | cA aq ax aZ aQ aR =>
  intro hk;refine .cA aq (λk x u J hu=>aR k x u J hu ?_) aZ aQ;cases hk with
  | ref J=>simp [aj.isRef] at J
  | bP h=>cases h with | cA h=>exact .bP (h x (List.mem_of_getElem? J))
  | cA h=>exact h x (List.mem_of_getElem? J)
 | @eB fn first caps v1 v2 F aQ h1 al j0 iL gD gx =>
  intro hk;have:(∀ x∈first,e' g x)/\∀ x∈caps,e' g x:=by
   cases hk with
   | ref J=>simp [aj.isRef] at J
   | bP h=>cases h with | eB h1 al=>exact ⟨λx J=>.bP (h1 x J),λx J=>.bP (al x J)⟩
   | eB h1 al=>exact ⟨h1,al⟩
  exact .eB aQ h1 al (λk x u J hu=>gD k x u J hu (this.1 x (List.mem_of_getElem? J))) (λk x u J hu=>gx k x u J hu (this.2 x (List.mem_of_getElem? J)))
theorem jM.bo {x:aj}{v:Value}{F:bu}(h:jM w I (gr w T) x v F) (hk:e' g x):jM w I (eG w T g) x v F:=by
 cases h with
 | tree h=>exact .tree (h.bo hk)
 | bY h =>
  cases hk with
  | bP h=>cases h
  | ref J=>simp [aj.isRef] at J
  | bY aH aP=>exact .bY ⟨⟨h.kp,aH⟩,h.k6,h.mB,h.aq,h.h1,λk x u J hu=>(h.ax k x u J hu).bo (aP x (List.mem_of_getElem? J)),h.aQ⟩
theorem dd.mj (h:dd w I T g Fs):jN w I T g Fs :=
  ⟨λt x J=>by
    obtain ⟨v,hv,bm⟩:=h.rel t x J;refine ⟨v,hv,?_⟩;cases bm with
    | tree bm=>exact .tree (bm.frame (λ_ _=>rfl) (λ_ h=>h) (λ_ _ h=>h.1) λ_ _=>rfl)
    | bY bm=>exact .bY ⟨bm.kp.1,bm.k6,bm.mB,bm.aq,bm.h1,λk x u J hu=>(bm.ax k x u J hu).frame (λ_ _=>rfl) (λ_ h=>h) (λ_ _ h=>h.1) λ_ _=>rfl,bm.aQ⟩,
   h.kL,h.fi,h.aD,h.lt⟩
theorem jN.VO (h:jN w I T g Fs) {g':a7}(bb:∀ t x,g' t=some x->g t=some x) (hk:∀ t x,g' t=some x->e' g' x)
  (aH:∀ t dD z p n m new cN c5 cb ds,g' t=some (.bY z p n m new)->g' dD=some (.bY cN p c5 cb ds)->t=dD):dd w I T g' (λt c=>g' t≠none/\Fs t c):=by
 refine ⟨λt x J=>?_,λt aG c ae=>ae.1 aG,λt dD c ae fz=>h.fi t dD c ae.2 fz.2,λt c ae=>h.aD t c ae.2,h.lt,aH⟩;obtain ⟨v,hv,bm⟩:=h.rel t x (bb t x J);have:Fs t=λc=>g' t≠none/\Fs t c:=by
  funext c;exact propext ⟨λae=>⟨by rw [J]; simp,ae⟩,λae=>ae.2⟩
 refine ⟨v,hv,?_⟩;rw [<- this];exact bm.bo (hk t x J)
theorem jN.part (h:jN w I T g Fs) {p:Place}{y:aj}(aH:cd g p=some y) (aA:∀ z q n m new,y≠.bY z q n m new):∃ v cR,eI w T p=some v/\R w I (gr w T) y v cR/\(∀ c,cR c->Fs p.root c) /\
  ∀ (y':aj) (jv:bu),R w I (gr w T) y' v jv->(∀ c,jv c->Fs p.root c->cR c)->(∀ c,jv c->¬ I c)->(∀ t c,t≠p.root->jv c->¬ Fs t c) ->
   ∃ cB,jN w I T (dh g p y') cB/\(∀ c,cB p.root c↔(Fs p.root c/\¬ cR c)\/jv c)/\∀ t,t≠p.root->cB t=Fs t:=by
 unfold cd at aH;cases J:g p.root with
 | none=>rw [J] at aH; cases aH
 | some x =>
  rw [J] at aH;obtain ⟨v,hv,bm⟩:=h.rel _ _ J;replace bm:=bm.h9 (by
   rintro z q n m new rfl;exact aA _ _ _ _ _ (aj.sj aH).2)
  obtain ⟨iG,cR,hw,eb,dS,gj,kO⟩:=R.focus p.path bm aH;refine ⟨iG,cR,by simp [eI,hv,hw],eb,dS,λy' jv jC mv bt LI=>?_⟩;obtain ⟨gg,FL,oD⟩:=kO w I (gr w T) y' jv ⟨λ_ _=>rfl,λ_ _ _=>rfl,λ_ h=>h,λ_ _ h=>h⟩ jC mv;refine ⟨λt=>if t=p.root then gg else Fs t,⟨λt x' gC=>?_,λt aG c=>?_,λt dD c ae fz=>?_,λt c ae=>?_,h.lt⟩,λc=>by simp [oD c],λt aG=>by simp [aG]⟩
  ·by_cases ie:t=p.root
   ·subst ie;have Tx:x.setAt p.path y'=x':=by simpa [dh,J] using gC
    subst Tx;exact ⟨v,hv,.tree (by simpa using FL)⟩
   ·simp only [dh,if_neg ie] at gC;simpa [ie] using h.rel t x' gC
  ·by_cases ie:t=p.root
   ·subst ie; simp [dh,J] at aG
   ·simp only [dh,if_neg ie] at aG; simpa [ie] using h.kL t aG c
  ·by_cases h1:t=p.root <;> by_cases al:dD=p.root <;> simp only [h1,al,if_true,if_false] at ae fz
   ·rw [h1,al]
   ·rcases (oD c).1 ae with ⟨aS,_⟩ | aS
    ·rw [h1]; exact h.fi _ _ _ aS fz
    ·exact absurd fz (LI dD c al aS)
   ·rcases (oD c).1 fz with ⟨aS,_⟩ | aS
    ·rw [al]; exact h.fi _ _ _ ae aS
    ·exact absurd ae (LI t c h1 aS)
   ·exact h.fi _ _ _ ae fz
  ·by_cases h1:t=p.root <;> simp only [h1,if_true,if_false] at ae
   ·rcases (oD c).1 ae with ⟨aS,_⟩ | aS
    ·exact h.aD _ c aS
    ·exact bt c aS
   ·exact h.aD t c ae
end
end Go.Own
namespace Go.Own
open Go
inductive Take:a7->List aj->List aj->a7->Prop
 | bP {g:a7}{xs:List aj}(h:∀ x∈xs,dn x):Take g xs xs g
 | cons {g g':a7}{x:aj}{xs xs':List aj}(h:dn x) (aG:Take g xs xs' g'):Take g (x::xs) (x::xs') g'
 | bh {g g1 g':a7}{z n N:Nat}{p:Place}{cs cs' xs xs':List aj}(aH:cd g p=some (.own z N cs)) (aP:n<=N) (h1:Take (dh g p .dead) (cs.take (n * z)) cs' g1) (al:Take g1 xs xs' g') :
   Take g (.bh z p n::xs) (.own z n cs'::xs') g'
 | bY {g g1 g':a7}{z n m t:Nat}{q:Place}{cs new cs' xs xs':List aj}(aG:g t=some (.bY z q n m new)) (aH:cd g q=some (.own z n cs)) (bW:q.root≠t) (h1:Take (dh (dh g ⟨t,[]⟩ .dead) q .dead) (cs++new) cs' g1) (al:Take g1 xs xs' g') :
   Take g (.bh z ⟨t,[]⟩ (n+m)::xs) (.own z (n+m) cs'::xs') g'
 | DH {g g1 g':a7}{z n m t qh m2 t2:Nat}{q:Place}{cs new xX cs' xs xs':List aj}(aG:g t=some (.bY z ⟨t2,[]⟩ n m new)) (LU:g t2=some (.bY z q qh m2 xX)) (aP:n=qh+m2) (aH:cd g q=some (.own z qh cs)) (bW:q.root≠t) (rO:q.root≠t2) (Tm:t≠t2)
   (h1:Take (dh (dh (dh g ⟨t,[]⟩ .dead) ⟨t2,[]⟩ .dead) q .dead) (cs++xX++new) cs' g1) (al:Take g1 xs xs' g') :
   Take g (.bh z ⟨t,[]⟩ (n+m)::xs) (.own z (n+m) cs'::xs') g'
 | obj {g g1 g':a7}{p:Place}{cs cs' xs xs':List aj}(aH:cd g p=some (.obj cs)) (h1:Take (dh g p .dead) cs cs' g1) (al:Take g1 xs xs' g'):Take g (.ptr p 0::xs) (.obj cs'::xs') g'
 | mp {g g1 g':a7}{p:Place}{q:Array MapEntry->Nat->Prop}{xs xs':List aj}(aH:cd g p=some (.mp q)) (h1:Take (dh g p .dead) [] [] g1) (al:Take g1 xs xs' g'):Take g (.i' p::xs) (.mp q::xs') g'
 | agg {g g1 g':a7}{cs cs' xs xs':List aj}(h1:Take g cs cs' g1) (al:Take g1 xs xs' g'):Take g (.agg cs::xs) (.agg cs'::xs') g'
 | cA {g g1 g':a7}{cs cs' xs xs':List aj}(h1:Take g cs cs' g1) (al:Take g1 xs xs' g'):Take g (.cA cs::xs) (.cA cs'::xs') g'
structure Hand (w:World) (I:bu) (ρ:aj->Value->Prop) (Fs:Nat->bu) (xs:List aj) (vs:List Value) (dU:Nat->bu):Prop where
 len:xs.length=vs.length
 rel:∀ (k:Nat) (x:aj) (u:Value),xs[k]?=some x->vs[k]?=some u->R w I ρ x u (dU k)
 fi:∀ (af k c:Nat),af<xs.length->k<xs.length->dU af c->dU k c->af=k
 off:∀ (k t c:Nat),k<xs.length->dU k c->¬ Fs t c
 aD:∀ (k c:Nat),k<xs.length->dU k c->¬ I c
def lg (Fs:Nat->bu) (n:Nat) (dU:Nat->bu):bu:=λc=>(∃ t,Fs t c)\/∃ k,k<n/\dU k c
section
variable {w:World}{I:bu}{T:Array Value}
theorem Take.length {g g':a7}{xs xs':List aj}(h:Take g xs xs' g'):xs'.length=xs.length:=by
 induction h with
 | bP=>rfl
 | cons _ _ aR=>simp [aR]
 | bh _ _ _ _ _ aR=>simp [aR]
 | bY _ _ _ _ _ _ aR=>simp [aR]
 | DH _ _ _ _ _ _ _ _ _ _ aR=>simp [aR]
 | obj _ _ _ _ aR=>simp [aR]
 | mp _ _ _ _ aR=>simp [aR]
 | agg _ _ _ aR=>simp [aR]
 | cA _ _ _ aR=>simp [aR]
theorem Hand.cons {ρ:aj->Value->Prop}{Fs:Nat->bu}{x:aj}{v:Value}{F:bu}{xs:List aj}{vs:List Value}{dU:Nat->bu}(h:Hand w I ρ Fs xs vs dU) (J:R w I ρ x v F)
  (aZ:∀ k c,k<xs.length->F c->¬ dU k c) (bj:∀ t c,F c->¬ Fs t c) (hi:∀ c,F c->¬ I c):Hand w I ρ Fs (x::xs) (v::vs) (λk=>match k with | 0=>F | k+1=>dU k):=by
 refine ⟨by simp [h.len],λk y u aA hu=>?_,λaf k c aa hk h1 al=>?_,λk t c hk ae=>?_,λk c hk ae=>?_⟩
 ·cases k with
  | zero=>simp at aA hu; subst aA hu; exact J
  | succ k=>simp at aA hu; exact h.rel k y u aA hu
 ·cases af <;> cases k
  ·rfl
  ·exact absurd al (aZ _ c (by simpa using hk) h1)
  ·exact absurd h1 (aZ _ c (by simpa using aa) al)
  ·rw [h.fi _ _ c (by simpa using aa) (by simpa using hk) h1 al]
 ·cases k with
  | zero=>exact bj t c ae
  | succ k=>exact h.off k t c (by simpa using hk) ae
 ·cases k with
  | zero=>exact hi c ae
  | succ k=>exact h.aD k c (by simpa using hk) ae
theorem Hand.tail {ρ:aj->Value->Prop}{Fs:Nat->bu}{x:aj}{v:Value}{xs:List aj}{vs:List Value}{dU:Nat->bu}(h:Hand w I ρ Fs (x::xs) (v::vs) dU):Hand w I ρ Fs xs vs (λk=>dU (k+1)) :=
  ⟨by simpa using h.len,λk y u aA hu=>h.rel (k+1) y u aA hu,λaf k c aa hk h1 al=>by have:=h.fi (af+1) (k+1) c (by simpa using aa) (by simpa using hk) h1 al; omega,
   λk t c hk ae=>h.off (k+1) t c (by simpa using hk) ae,λk c hk ae=>h.aD (k+1) c (by simpa using hk) ae⟩
theorem oS {x:aj}{xs:List aj}(h:dn x) (aR:∀ y∈xs,dn y):∀ y∈x::xs,dn y:=by
 intro y aA;rcases List.mem_cons.1 aA with rfl | aA
 ·exact h
 ·exact aR y aA
theorem Take.Aw {g g':a7}{xs xs':List aj}(h:Take g xs xs' g'):∀ x∈xs',dn x:=by
 induction h with
 | bP h=>exact h
 | cons h _ aR=>exact oS h aR
 | bh _ _ _ _ gD gx=>exact oS (.own gD) gx
 | bY _ _ _ _ _ gD gx=>exact oS (.own gD) gx
 | DH _ _ _ _ _ _ _ _ _ gD gx=>exact oS (.own gD) gx
 | obj _ _ _ gD gx=>exact oS (.obj gD) gx
 | mp _ _ _ _ gx=>exact oS .mp gx
 | agg _ _ gD gx=>exact oS (.agg gD) gx
 | cA _ _ gD gx=>exact oS (.cA gD) gx
def Ex (w:World) (I:bu) (T:Array Value) (g:a7) (xs xs':List aj) (g':a7):Prop :=
 ∀ {Fs:Nat->bu}{vs:List Value}{dU:Nat->bu},jN w I T g Fs->Hand w I (gr w T) Fs xs vs dU ->
  ∃ cB jL,jN w I T g' cB/\Hand w I (gr w T) cB xs' vs jL/\∀ c,lg cB xs'.length jL c->lg Fs xs.length dU c
theorem HQ {w:World}{e cY:TypeId}{z n:Nat}{v:Value}{us iQ:List Value}(h:w.ownsRow 0 e z v n us) (aU:w.ownsRow 0 cY z v n iQ):us=iQ:=by
 obtain ⟨h1,al⟩:=h;obtain ⟨mr,CM⟩:=aU;rcases al with ⟨rfl,rfl⟩ | ⟨b,cap,cur,rfl,_,bb,_,_,_,aG⟩
 ·simp at h1 mr; rw [h1,mr]
 ·rcases CM with ⟨ca,_⟩ | ⟨iW,l0,Qk,ca,_,Ln,_,_,_,qc⟩
  ·cases ca
  ·cases ca;rw [bb] at Ln;cases Ln;rw [<- aG,<- qc]
theorem Take.node {g1 g2 g':a7}{Fs gp:Nat->bu}{B H0:bu}{cs cs' xs xs':List aj}{us vs:List Value}{bR dU:Nat->bu}{X:aj}{v0:Value}
  (b5:jN w I T g1 gp) (hH:Hand w I (gr w T) gp cs us bR) (iC:∀ c,B c->(∃ t,Fs t c)/\(∀ t,¬ gp t c)/\(∀ k,k<cs.length->¬ bR k c)/\¬ I c)
  (gT:∀ c,lg gp cs.length bR c->(∃ t,Fs t c)\/H0 c) (fO:Hand w I (gr w T) Fs xs vs dU) (tO:∀ c,H0 c->(∀ t,¬ Fs t c)/\∀ k,k<xs.length->¬ dU k c)
  (gD:Ex w I T g1 cs cs' g2) (gx:Ex w I T g2 xs xs' g')
  (build:∀ jL:Nat->bu,(∀ (k:Nat) (x:aj) (u:Value),cs'[k]?=some x->us[k]?=some u->R w I (gr w T) x u (jL k))->(∀ (af k c:Nat),af<cs'.length->k<cs'.length->jL af c->jL k c->af=k) ->
   (∀ k c,k<cs'.length->jL k c->¬ B c)->R w I (gr w T) X v0 (λc=>B c\/∃ k,k<cs'.length/\jL k c)) :
  ∃ cB jL,jN w I T g' cB/\Hand w I (gr w T) cB (X::xs') (v0::vs) jL/\∀ c,lg cB (X::xs').length jL c->(∃ t,Fs t c)\/H0 c\/∃ k,k<xs.length/\dU k c:=by
 obtain ⟨jd,H1,im,CR,zB⟩:=gD b5 hH;have UE:∀ k t c,k<xs.length->dU k c->¬ jd t c:=by
  intro k t c hk ae bp;rcases gT c (zB c (.inl ⟨t,bp⟩)) with ⟨dD,h⟩ | h
  ·exact fO.off k dD c hk ae h
  ·exact (tO c h).2 k hk ae
 obtain ⟨wR,yG,FT,RE,K_⟩:=gx im (⟨fO.len,fO.rel,fO.fi,UE,fO.aD⟩:Hand w I (gr w T) jd xs vs dU);have Ru:∀ k c,k<cs'.length->H1 k c->¬ B c:=by
  intro k c hk ae aJ;obtain ⟨_,h1,al,_⟩:=iC c aJ;rcases zB c (.inr ⟨k,hk,ae⟩) with ⟨t,h⟩ | ⟨af,aa,h⟩
  ·exact h1 t h
  ·exact al af aa h
 have FW:=build H1 CR.rel CR.fi Ru
 -- the node's blocks: apart from all else
 have key:∀ c,(B c\/∃ k,k<cs'.length/\H1 k c)->(∀ t,¬ jd t c)/\(∀ k,k<xs.length->¬ dU k c)/\¬ I c/\((∃ t,Fs t c)\/H0 c):=by
  rintro c (aJ | ⟨k,hk,ae⟩)
  ·obtain ⟨⟨t0,bf⟩,h1,al,aS⟩:=iC c aJ;refine ⟨λt bp=>?_,λk hk ae=>fO.off k t0 c hk ae bf,aS,.inl ⟨t0,bf⟩⟩;rcases zB c (.inl ⟨t,bp⟩) with ⟨dD,h⟩ | ⟨af,aa,h⟩
   ·exact h1 dD h
   ·exact al af aa h
  ·have aO:=gT c (zB c (.inr ⟨k,hk,ae⟩));refine ⟨λt bp=>CR.off k t c hk ae bp,λaf aa vv=>?_,CR.aD k c hk ae,aO⟩;rcases aO with ⟨t,h⟩ | h
   ·exact fO.off af t c aa vv h
   ·exact (tO c h).2 af aa vv
 have fin:∀ c,(B c\/∃ k,k<cs'.length/\H1 k c)->(∀ t,¬ wR t c)/\∀ k,k<xs'.length->¬ yG k c:=by
  intro c ae;obtain ⟨h1,al,_,_⟩:=key c ae;have none:¬ lg wR xs'.length yG c:=by
   intro h;rcases K_ c h with ⟨t,h⟩ | ⟨k,hk,h⟩
   ·exact h1 t h
   ·exact al k hk h
  exact ⟨λt h=>none (.inl ⟨t,h⟩),λk hk h=>none (.inr ⟨k,hk,h⟩)⟩
 refine ⟨wR,_,FT,RE.cons FW (λk c hk ae=>(fin c ae).2 k hk) (λt c ae=>(fin c ae).1 t) (λc ae=>(key c ae).2.2.1),?_⟩;have back:∀ c,lg wR xs'.length yG c->(∃ t,Fs t c)\/H0 c\/∃ k,k<xs.length/\dU k c:=by
  intro c h;rcases K_ c h with ⟨t,h⟩ | h
  ·rcases gT c (zB c (.inl ⟨t,h⟩)) with h | h
   ·exact .inl h
   ·exact .inr (.inl h)
  ·exact .inr (.inr h)
 rintro c (h | ⟨k,hk,ae⟩)
 ·exact back c (.inl h)
 ·cases k with
  | zero =>
   rcases (key c ae).2.2.2 with h | h
   ·exact .inl h
   ·exact .inr (.inl h)
  | succ k=>exact back c (.inr ⟨k,by simpa using hk,ae⟩)
end
end Go.Own
namespace Go.Own
open Go
section
variable {w:World}{I:bu}{T:Array Value}
theorem jN.kill {g:a7}{Fs:Nat->bu}(h:jN w I T g Fs) (t:Nat):∃ cB,jN w I T (dh g ⟨t,[]⟩ .dead) cB/\(∀ c,¬ cB t c)/\∀ s,s≠t->cB s=Fs s:=by
 refine ⟨λs=>if s=t then c0 else Fs s,⟨λs x J=>?_,λs aO c=>?_,λs eT c ae fz=>?_,λs c ae=>?_,h.lt⟩,λc=>by simp,λs aO=>by simp [aO]⟩
 ·by_cases cp:s=t
  ·subst cp;simp only [dh,if_pos] at J;cases bb:g s with
   | none=>rw [bb] at J; cases J
   | some y =>
    rw [bb] at J;have:x=.dead:=by simpa [aj.setAt] using J.symm
    subst this;obtain ⟨v,hv,_⟩:=h.rel s y bb;exact ⟨v,hv,.tree (.dead (by simp))⟩
  ·simp only [dh,if_neg cp] at J; simpa [cp] using h.rel s x J
 ·by_cases cp:s=t
  ·simp [cp]
  ·simp only [dh,if_neg cp] at aO; simpa [cp] using h.kL s aO c
 ·by_cases h1:s=t <;> by_cases al:eT=t <;> simp [h1,al,c0] at ae fz;exact h.fi _ _ _ ae fz
 ·by_cases h1:s=t <;> simp [h1,c0] at ae;exact h.aD _ _ ae
theorem R.tV {ρ:aj->Value->Prop}{Fs:Nat->bu}{x:aj}{v:Value}{xs:List aj}{vs:List Value}{dU:Nat->bu}(h:Hand w I ρ Fs (x::xs) (v::vs) dU):∀ c,dU 0 c->(∀ t,¬ Fs t c)/\∀ k,k<xs.length->¬ dU (k+1) c:=by
 intro c ae;refine ⟨λt=>h.off 0 t c (by simp) ae,λk hk iD=>?_⟩;have:=h.fi 0 (k+1) c (by simp) (by simpa using hk) ae iD;omega
theorem lg.head {Fs:Nat->bu}{x:aj}{xs:List aj}{dU:Nat->bu}{c:Nat}(h:(∃ t,Fs t c)\/dU 0 c\/∃ k,k<xs.length/\dU (k+1) c):lg Fs (x::xs).length dU c:=by
 rcases h with h | h | ⟨k,hk,h⟩
 ·exact .inl h
 ·exact .inr ⟨0,by simp,h⟩
 ·exact .inr ⟨k+1,by simpa using hk,h⟩
theorem D1 {g:a7}{p:Place}{y:aj}{q:Place}(h:q.root≠p.root):cd (dh g p y) q=cd g q:=by
 simp [cd,dh,h]
theorem ta {g:a7}{p:Place}{y:aj}{t:Nat}(h:t≠p.root):dh g p y t=g t:=by
 simp [dh,h]
theorem My {a:Option Addr}{n cap c5 l0:Nat}:(Value.slice a n cap).ownBlock=(Value.slice a c5 l0).ownBlock:=by cases a <;> rfl
theorem UL {e:TypeId}{z n N:Nat}{a:Option Addr}{cap:Nat}{us:List Value}(h:w.ownsRow 0 e z (.slice a N cap) N us) (aP:n<=N):w.ownsRow 0 e z (.slice a n cap) n (us.take (n * z)):=by
 have hle:n * z<=N * z:=Nat.mul_le_mul_right _ aP;obtain ⟨hu,ca⟩:=h;refine ⟨by rw [List.length_take,hu]; omega,?_⟩;rcases ca with ⟨ca,bf⟩ | ⟨b,c2,cur,ca,oX,fR,uF,r0,uG,s9⟩
 ·cases ca; exact .inl ⟨by simp; omega,by omega⟩
 ·cases ca;refine .inr ⟨b,cap,cur,rfl,oX,fR,by omega,r0,uG,?_⟩;rw [<- s9,List.take_take,Nat.min_eq_left hle]
theorem Take.sound {g g':a7}{xs xs':List aj}(h:Take g xs xs' g'):Ex w I T g xs xs' g':=by
 induction h with
 | bP h=>exact λ{Fs vs dU} b5 hH=>⟨Fs,dU,b5,hH,λ_ h=>h⟩
 | @cons g g' x xs xs' J _ aR =>
  intro Fs vs dU b5 hH;cases vs with
  | nil=>have:=hH.len; simp at this
  | cons v vs =>
   obtain ⟨cB,jL,eO,RD,hs⟩:=aR b5 hH.tail;have bf:=R.tV hH;have off:∀ c,dU 0 c->¬ lg cB xs'.length jL c:=by
    intro c ae aJ;rcases hs c aJ with ⟨t,h⟩ | ⟨k,hk,h⟩
    ·exact (bf c ae).1 t h
    ·exact (bf c ae).2 k hk h
   refine ⟨cB,_,eO,RD.cons (hH.rel 0 x v rfl rfl) (λk c hk ae h=>off c ae (.inr ⟨k,hk,h⟩)) (λt c ae h=>off c ae (.inl ⟨t,h⟩)) (λc ae=>hH.aD 0 c (by simp) ae),?_⟩;rintro c (h | ⟨k,hk,h⟩)
   ·rcases hs c (.inl h) with h | ⟨af,aa,h⟩
    ·exact .inl h
    ·exact .inr ⟨af+1,by simpa using aa,h⟩
   ·cases k with
    | zero=>exact .inr ⟨0,by simp,h⟩
    | succ k =>
     rcases hs c (.inr ⟨k,by simpa using hk,h⟩) with h | ⟨af,aa,h⟩
     ·exact .inl h
     ·exact .inr ⟨af+1,by simpa using aa,h⟩
 | @bh g g1 g' z n N p cs cs' xs xs' aH aP t1 _ gD gx =>
  intro Fs vs dU b5 hH;cases vs with
  | nil=>have:=hH.len; simp at this
  | cons v vs =>
   obtain ⟨pT,cR,hf,hS,dS,kO⟩:=b5.part aH (by simp);obtain ⟨a,je,cap,h1,rfl,aS⟩:=(hH.rel 0 _ v rfl rfl).mI;rw [h1] at hf;cases hf;obtain ⟨a2,qC,kd,_⟩:=hS.mL;cases kd;obtain ⟨gp,jf,j0,iL⟩:=kO .dead c0 (.dead λ_ h=>h) (λ_ h=>h.elim) (λ_ h=>h.elim) (λ_ _ _ h=>h.elim);have lp:∀ t c,gp t c->Fs t c/\¬ cR c:=by
    intro t c ae;by_cases aG:t=p.root
    ·subst aG;rcases (j0 c).1 ae with h | h
     ·exact h
     ·exact h.elim
    ·rw [iL t aG] at ae;exact ⟨ae,λeM=>aG (b5.fi _ _ _ ae (dS c eM))⟩
   cases hS with
   | ref J=>simp [aj.isRef] at J
   | @own _ _ _ _ e us bR _ bj aq mr ax aZ aJ aQ =>
    have Da:∀ k,k<(cs.take (n * z)).length->k<cs.length:=λk hk=>by rw [List.length_take] at hk; omega
    have fj:∀ k c,k<(cs.take (n * z)).length->bR k c->cR c:=λk c hk ae=>(aQ c).2 (.inr ⟨k,Da k hk,ae⟩);have iJ:Hand w I (gr w T) gp (cs.take (n * z)) (us.take (n * z)) bR:=by
     refine ⟨by simp [aq],λk x u J hu=>?_,λaf k c aa hk=>aZ af k c (Da af aa) (Da k hk),λk t c hk ae bp=>(lp t c bp).2 (fj k c hk ae),λk c hk ae=>b5.aD _ c (dS c (fj k c hk ae))⟩;rw [List.getElem?_take] at J hu
     split at J
     ·rename_i ec; rw [if_pos ec] at hu; exact ax k x u J hu
     ·cases J
    have oJ:=UL bj aP;obtain ⟨cB,jL,ar,a2,a3⟩:=Take.node (g1:=dh g p .dead) (Fs:=Fs) (B:=λc=>(Value.slice a n cap).ownBlock=some c) (H0:=dU 0) (X:=.own z n cs') (v0:=.slice a n cap) jf iJ
     (λc ae=>by
      have eM:cR c:=(aQ c).2 (.inl (by rw [<- ae]; exact My));exact ⟨⟨_,dS c eM⟩,λt bp=>(lp t c bp).2 eM,λk hk iD=>aJ k c (Da k hk) iD (by rw [<- ae]; exact My),b5.aD _ c (dS c eM)⟩)
     (λc ae=>by
      rcases ae with ⟨t,h⟩ | ⟨k,hk,h⟩
      ·exact .inl ⟨t,(lp t c h).1⟩
      ·exact .inl ⟨_,dS c (fj k c hk h)⟩)
     hH.tail (R.tV hH) gD gx (λwT gZ hD lk=>by
      refine .own oJ (by rw [t1.length]; simp [aq]) (λk u hu=>?_) gZ hD (λk c hk ae h=>lk k c hk ae h) λc=>Iff.rfl;rw [List.getElem?_take] at hu
      split at hu
      ·exact mr k u hu
      ·cases hu)
    exact ⟨cB,jL,ar,a2,λc ae=>lg.head (a3 c ae)⟩
 | @bY g g1 g' z n m t q cs new cs' xs xs' aG aH bW t1 _ gD gx =>
  intro Fs vs dU b5 hH;cases vs with
  | nil=>have:=hH.len; simp at this
  | cons v vs =>
   obtain ⟨a,je,cap,h1,rfl,aS⟩:=(hH.rel 0 _ v rfl rfl).mI;obtain ⟨v0,jE,gP⟩:=b5.rel t _ aG;simp only [eI,jE,walk,Option.some.injEq] at h1;subst h1;obtain ⟨bv,e,de,us,news,gP⟩:=gP.uo;have b1:je=n+m:=by
    obtain ⟨_,ca⟩:=gP.mB;rcases ca with ⟨ca,bf⟩ | ⟨_,_,_,ca,_⟩
    ·cases ca; omega
    ·cases ca; rfl
   subst b1;obtain ⟨NV,FV,hz,hb⟩:=b5.kill t;have GC:cd (dh g ⟨t,[]⟩ .dead) q=some (.own z n cs):=by rw [D1 (by simpa using bW)]; exact aH
   obtain ⟨pT,cR,hf,hS,dS,kO⟩:=FV.part GC (by simp);obtain ⟨cJ,l0,b7,rfl⟩:=gP.kp;rw [b7] at hf;cases hf;obtain ⟨gp,jf,j0,iL⟩:=kO .dead c0 (.dead λ_ h=>h) (λ_ h=>h.elim) (λ_ h=>h.elim) (λ_ _ _ h=>h.elim);have pw:∀ c,cR c->Fs q.root c:=λc ae=>by have:=dS c ae; rwa [hb _ bW] at this
   have lp:∀ s c,gp s c->Fs s c/\¬ cR c/\s≠t:=by
    intro s c ae;have cp:s≠t:=by
     rintro rfl;by_cases ug:s=q.root
     ·exact bW ug.symm
     ·rw [iL s ug] at ae; exact hz c ae
    by_cases aO:s=q.root
    ·subst aO;rcases (j0 c).1 ae with h | h
     ·exact ⟨by have:=h.1; rwa [hb _ bW] at this,h.2,cp⟩
     ·exact h.elim
    ·rw [iL s aO,hb s cp] at ae;exact ⟨ae,λeM=>aO (b5.fi _ _ _ ae (pw c eM)),cp⟩
   cases hS with
   | ref J=>simp [aj.isRef] at J
   | @own _ _ _ _ cY iQ bR _ bj aq mr ax aZ aJ aQ =>
    have:=HQ bj gP.k6;subst this;have fj:∀ k c,k<cs.length->bR k c->cR c:=λk c hk ae=>(aQ c).2 (.inr ⟨k,hk,ae⟩);have iJ:Hand w I (gr w T) gp (cs++new) (iQ++news) (λk=>if k<cs.length then bR k else c0):=by
     refine ⟨by simp [aq,gP.aq],λk x u J hu=>?_,λaf k c aa hk ae fz=>?_,λk s c hk ae bp=>?_,λk c hk ae=>?_⟩
     ·by_cases ec:k<cs.length
      ·rw [List.getElem?_append_left ec] at J;rw [List.getElem?_append_left (by omega)] at hu;simpa [ec] using ax k x u J hu
      ·rw [List.getElem?_append_right (by omega)] at J;rw [List.getElem?_append_right (by omega),<- aq] at hu;simpa [ec] using gP.ax _ x u J hu
     ·by_cases fp:af<cs.length <;> by_cases ec:k<cs.length <;> simp [fp,ec,c0] at ae fz;exact aZ af k c fp ec ae fz
     ·by_cases ec:k<cs.length <;> simp [ec,c0] at ae;exact (lp s c bp).2.1 (fj k c ec ae)
     ·by_cases ec:k<cs.length <;> simp [ec,c0] at ae;exact b5.aD _ c (pw c (fj k c ec ae))
    obtain ⟨cB,jL,ar,a2,a3⟩:=Take.node (g1:=dh (dh g ⟨t,[]⟩ .dead) q .dead) (Fs:=Fs) (B:=λc=>(Value.slice a (n+m) cap).ownBlock=some c) (H0:=dU 0) (X:=.own z (n+m) cs') (v0:=.slice a (n+m) cap) jf iJ
     (λc ae=>by
      by_cases p9:(Value.slice cJ n l0).ownBlock=some c
      ·have eM:cR c:=(aQ c).2 (.inl p9);refine ⟨⟨_,pw c eM⟩,λs bp=>(lp s c bp).2.1 eM,λk hk iD=>?_,b5.aD _ c (pw c eM)⟩;by_cases ec:k<cs.length <;> simp [ec,c0] at iD;exact aJ k c ec iD p9
      ·have Db:Fs t c:=(gP.aQ c).2 ⟨ae,p9⟩;refine ⟨⟨_,Db⟩,λs bp=>(lp s c bp).2.2 (b5.fi _ _ _ (lp s c bp).1 Db),λk hk iD=>?_,b5.aD _ c Db⟩;by_cases ec:k<cs.length <;> simp [ec,c0] at iD;exact bW (b5.fi _ _ _ (pw c (fj k c ec iD)) Db))
     (λc ae=>by
      rcases ae with ⟨s,h⟩ | ⟨k,hk,h⟩
      ·exact .inl ⟨s,(lp s c h).1⟩
      ·by_cases ec:k<cs.length <;> simp [ec,c0] at h;exact .inl ⟨_,pw c (fj k c ec h)⟩)
     hH.tail (R.tV hH) gD gx (λwT gZ hD lk=>by
      refine .own gP.mB (by rw [t1.length]; simp [aq,gP.aq]) (λk u hu=>?_) gZ hD (λk c hk ae h=>lk k c hk ae h) λc=>Iff.rfl;by_cases ec:k<iQ.length
      ·rw [List.getElem?_append_left ec] at hu; exact mr k u hu
      ·rw [List.getElem?_append_right (by omega)] at hu; exact gP.h1 _ u hu)
    exact ⟨cB,jL,ar,a2,λc ae=>lg.head (a3 c ae)⟩
 | @DH g g1 g' z n m t qh m2 t2 q cs new xX cs' xs xs' aG LU aP aH bW rO Tm t1 _ gD gx =>
  subst aP;intro Fs vs dU b5 hH;cases vs with
  | nil=>have:=hH.len; simp at this
  | cons v vs =>
   obtain ⟨a,je,cap,h1,rfl,aS⟩:=(hH.rel 0 _ v rfl rfl).mI;obtain ⟨v0,jE,gP⟩:=b5.rel t _ aG;simp only [eI,jE,walk,Option.some.injEq] at h1;subst h1;obtain ⟨bv,e,de,us,news,gP⟩:=gP.uo;have b1:je=qh+m2+m:=by
    obtain ⟨_,ca⟩:=gP.mB;rcases ca with ⟨ca,bf⟩ | ⟨_,_,_,ca,_⟩
    ·cases ca; omega
    ·cases ca; rfl
   subst b1;obtain ⟨v2,qe,l3⟩:=b5.rel t2 _ LU;obtain ⟨JC,cY,ss,VX,HG,l3⟩:=l3.uo;have kp:bv=v2:=by
    obtain ⟨ar,JQ,dv,rfl⟩:=gP.kp;simp only [eI,qe,walk,Option.some.injEq] at dv;exact dv.symm
   subst kp;have mE:us=VX++HG:=HQ gP.k6 l3.mB;subst mE;obtain ⟨Wj,RV,SP,Gi⟩:=b5.kill t;obtain ⟨NV,FV,hz,hb⟩:=RV.kill t2;have GC:cd (dh (dh g ⟨t,[]⟩ .dead) ⟨t2,[]⟩ .dead) q=some (.own z qh cs):=by rw [D1 (by simpa using rO),D1 (by simpa using bW)]; exact aH
   obtain ⟨pT,cR,hf,hS,dS,kO⟩:=FV.part GC (by simp);obtain ⟨cJ,l0,b7,rfl⟩:=l3.kp;rw [b7] at hf;cases hf;obtain ⟨gp,jf,j0,iL⟩:=kO .dead c0 (.dead λ_ h=>h) (λ_ h=>h.elim) (λ_ h=>h.elim) (λ_ _ _ h=>h.elim);have pw:∀ c,cR c->Fs q.root c:=λc ae=>by have:=dS c ae; rwa [hb _ rO,Gi _ bW] at this
   have lp:∀ s c,gp s c->Fs s c/\¬ cR c/\s≠t/\s≠t2:=by
    intro s c ae;have nz:s≠t2:=by
     rintro rfl;by_cases ug:s=q.root
     ·exact rO ug.symm
     ·rw [iL s ug] at ae; exact hz c ae
    have cp:s≠t:=by
     rintro rfl;by_cases ug:s=q.root
     ·exact bW ug.symm
     ·rw [iL s ug,hb s nz] at ae; exact SP c ae
    by_cases aO:s=q.root
    ·subst aO;rcases (j0 c).1 ae with h | h
     ·exact ⟨by have:=h.1; rwa [hb _ rO,Gi _ bW] at this,h.2,cp,nz⟩
     ·exact h.elim
    ·rw [iL s aO,hb s nz,Gi s cp] at ae;exact ⟨ae,λeM=>aO (b5.fi _ _ _ ae (pw c eM)),cp,nz⟩
   cases hS with
   | ref J=>simp [aj.isRef] at J
   | @own _ _ _ _ j' iQ bR _ bj aq mr ax aZ aJ aQ =>
    have:=HQ bj l3.k6;subst this;have fj:∀ k c,k<cs.length->bR k c->cR c:=λk c hk ae=>(aQ c).2 (.inr ⟨k,hk,ae⟩);have iJ:Hand w I (gr w T) gp (cs++xX++new) (iQ++HG++news) (λk=>if k<cs.length then bR k else c0):=by
     have Dt:=l3.aq;have Aj:=gP.aq;refine ⟨by simp [aq,Dt,Aj],λk x u J hu=>?_,λaf k c aa hk ae fz=>?_,λk s c hk ae bp=>?_,λk c hk ae=>?_⟩
     ·rw [List.append_assoc] at J hu;by_cases ec:k<cs.length
      ·rw [List.getElem?_append_left ec] at J;rw [List.getElem?_append_left (by omega)] at hu;simpa [ec] using ax k x u J hu
      ·rw [List.getElem?_append_right (by omega)] at J;rw [List.getElem?_append_right (by omega),<- aq] at hu;simp only [ec,if_false];by_cases Gn:k - cs.length<xX.length
       ·rw [List.getElem?_append_left Gn] at J;rw [List.getElem?_append_left (by omega)] at hu;exact l3.ax _ x u J hu
       ·rw [List.getElem?_append_right (by omega)] at J;rw [List.getElem?_append_right (by omega),<- Dt] at hu;exact gP.ax _ x u J hu
     ·by_cases fp:af<cs.length <;> by_cases ec:k<cs.length <;> simp [fp,ec,c0] at ae fz;exact aZ af k c fp ec ae fz
     ·by_cases ec:k<cs.length <;> simp [ec,c0] at ae;exact (lp s c bp).2.1 (fj k c ec ae)
     ·by_cases ec:k<cs.length <;> simp [ec,c0] at ae;exact b5.aD _ c (pw c (fj k c ec ae))
    have Ni:∀ s c,Fs s c->s=t\/s=t2->(∃ s,Fs s c)/\(∀ s,¬ gp s c)/\(∀ k,k<(cs++xX++new).length->¬ (if k<cs.length then bR k else c0) c)/\¬ I c:=by
     intro s c ae aO;refine ⟨⟨_,ae⟩,λeT bp=>?_,λk hk iD=>?_,b5.aD _ c ae⟩
     ·obtain ⟨f1,_,f2,f3⟩:=lp eT c bp;have:=b5.fi _ _ _ f1 ae;rcases aO with rfl | rfl
      ·exact f2 this
      ·exact f3 this
     ·by_cases ec:k<cs.length <;> simp [ec,c0] at iD;have:=b5.fi _ _ _ (pw c (fj k c ec iD)) ae;rcases aO with rfl | rfl
      ·exact bW this
      ·exact rO this
    obtain ⟨cB,jL,ar,a2,a3⟩:=Take.node (g1:=dh (dh (dh g ⟨t,[]⟩ .dead) ⟨t2,[]⟩ .dead) q .dead) (Fs:=Fs) (B:=λc=>(Value.slice a (qh+m2+m) cap).ownBlock=some c) (H0:=dU 0) (X:=.own z (qh+m2+m) cs') (v0:=.slice a (qh+m2+m) cap) jf iJ
     (λc ae=>by
      by_cases p9:bv.ownBlock=some c
      ·by_cases F5:(Value.slice cJ qh l0).ownBlock=some c
       ·have eM:cR c:=(aQ c).2 (.inl F5);refine ⟨⟨_,pw c eM⟩,λs bp=>(lp s c bp).2.1 eM,λk hk iD=>?_,b5.aD _ c (pw c eM)⟩;by_cases ec:k<cs.length <;> simp [ec,c0] at iD;exact aJ k c ec iD F5
       ·exact Ni t2 c ((l3.aQ c).2 ⟨p9,F5⟩) (.inr rfl)
      ·exact Ni t c ((gP.aQ c).2 ⟨ae,p9⟩) (.inl rfl))
     (λc ae=>by
      rcases ae with ⟨s,h⟩ | ⟨k,hk,h⟩
      ·exact .inl ⟨s,(lp s c h).1⟩
      ·by_cases ec:k<cs.length <;> simp [ec,c0] at h;exact .inl ⟨_,pw c (fj k c ec h)⟩)
     hH.tail (R.tV hH) gD gx (λwT gZ hD lk=>by
      refine .own gP.mB (by rw [t1.length]; simp [aq,l3.aq,gP.aq]) (λk u hu=>?_) gZ hD (λk c hk ae h=>lk k c hk ae h) λc=>Iff.rfl;rw [List.append_assoc] at hu;by_cases ec:k<iQ.length
      ·rw [List.getElem?_append_left ec] at hu; exact mr k u hu
      ·rw [List.getElem?_append_right (by omega)] at hu;by_cases Gn:k - iQ.length<HG.length
       ·rw [List.getElem?_append_left Gn] at hu; exact l3.h1 _ u hu
       ·rw [List.getElem?_append_right (by omega)] at hu; exact gP.h1 _ u hu)
    exact ⟨cB,jL,ar,a2,λc ae=>lg.head (a3 c ae)⟩
 | @obj g g1 g' p cs cs' xs xs' aH t1 _ gD gx =>
  intro Fs vs dU b5 hH;cases vs with
  | nil=>have:=hH.len; simp at this
  | cons v vs =>
   obtain ⟨pT,cR,hf,hS,dS,kO⟩:=b5.part aH (by simp);obtain ⟨u,ad,h1,al,rfl⟩:=(hH.rel 0 _ v rfl rfl).ni;rw [h1] at hf;cases hf;obtain ⟨gp,jf,j0,iL⟩:=kO .dead c0 (.dead λ_ h=>h) (λ_ h=>h.elim) (λ_ h=>h.elim) (λ_ _ _ h=>h.elim);have lp:∀ t c,gp t c->Fs t c/\¬ cR c:=by
    intro t c ae;by_cases aG:t=p.root
    ·subst aG;rcases (j0 c).1 ae with h | h
     ·exact h
     ·exact h.elim
    ·rw [iL t aG] at ae;exact ⟨ae,λeM=>aG (b5.fi _ _ _ ae (dS c eM))⟩
   cases hS with
   | ref J=>simp [aj.isRef] at J
   | @obj _ b e arr bR _ bj aq mr ax aZ aJ aQ =>
    simp only [addrOf,Option.some.injEq] at al;subst al;have fj:∀ k c,k<cs.length->bR k c->cR c:=λk c hk ae=>(aQ c).2 (.inr ⟨k,hk,ae⟩);have iJ:Hand w I (gr w T) gp cs arr.toList bR :=
     ⟨by simp [aq],λk x u J hu=>ax k x u J (by simpa using hu),aZ,λk t c hk ae bp=>(lp t c bp).2 (fj k c hk ae),λk c hk ae=>b5.aD _ c (dS c (fj k c hk ae))⟩
    obtain ⟨cB,jL,ar,a2,a3⟩:=Take.node (g1:=dh g p .dead) (Fs:=Fs) (B:=λc=>c=b) (H0:=dU 0) (X:=.obj cs') (v0:=.pointer (some ⟨b,0,none⟩)) jf iJ
     (λc ae=>by
      subst ae;have eM:cR c:=(aQ c).2 (.inl rfl);exact ⟨⟨_,dS c eM⟩,λt bp=>(lp t c bp).2 eM,λk hk iD=>aJ k hk iD,b5.aD _ c (dS c eM)⟩)
     (λc ae=>by
      rcases ae with ⟨t,h⟩ | ⟨k,hk,h⟩
      ·exact .inl ⟨t,(lp t c h).1⟩
      ·exact .inl ⟨_,dS c (fj k c hk h)⟩)
     hH.tail (R.tV hH) gD gx (λwT gZ hD lk=>by
      refine .obj bj (by rw [t1.length,aq]) mr (λk x u J hu=>gZ k x u J (by simpa using hu)) hD (λk hk h=>lk k b hk h rfl) λc=>Iff.rfl)
    exact ⟨cB,jL,ar,a2,λc ae=>lg.head (a3 c ae)⟩
 | @mp g g1 g' p q xs xs' aH t1 _ gD gx =>
  intro Fs vs dU b5 hH;cases vs with
  | nil=>have:=hH.len; simp at this
  | cons v vs =>
   obtain ⟨pT,cR,hf,hS,dS,kO⟩:=b5.part aH (by simp);have hm:=hH.rel 0 _ v rfl rfl;cases hm with
   | ref _ hm _ =>
   obtain ⟨EI,h1,rfl⟩:=hm;rw [h1] at hf;cases hf;obtain ⟨gp,jf,j0,iL⟩:=kO .dead c0 (.dead λ_ h=>h) (λ_ h=>h.elim) (λ_ h=>h.elim) (λ_ _ _ h=>h.elim);have lp:∀ t c,gp t c->Fs t c/\¬ cR c:=by
    intro t c ae;by_cases aG:t=p.root
    ·subst aG;rcases (j0 c).1 ae with h | h
     ·exact h
     ·exact h.elim
    ·rw [iL t aG] at ae;exact ⟨ae,λeM=>aG (b5.fi _ _ _ ae (dS c eM))⟩
   cases hS with
   | ref J=>simp [aj.isRef] at J
   | @mp _ b es clock _ bj bW aQ =>
    have iJ:Hand w I (gr w T) gp [] [] (λ_=>c0) :=
     ⟨rfl,λk x u J=>by simp at J,λ_ _ _ _ _ h=>h.elim,λ_ _ _ _ h=>h.elim,λ_ _ _ h=>h.elim⟩
    obtain ⟨cB,jL,ar,a2,a3⟩:=Take.node (g1:=dh g p .dead) (Fs:=Fs) (B:=λc=>c=b) (H0:=dU 0) (X:=.mp q) (v0:=.map (some b)) jf iJ
     (λc ae=>by
      subst ae;have eM:cR c:=(aQ c).2 rfl;exact ⟨⟨_,dS c eM⟩,λt bp=>(lp t c bp).2 eM,λk hk _=>by simp at hk,b5.aD _ c (dS c eM)⟩)
     (λc ae=>by
      rcases ae with ⟨t,h⟩ | ⟨k,hk,h⟩
      ·exact .inl ⟨t,(lp t c h).1⟩
      ·exact h.elim)
     hH.tail (R.tV hH) gD gx (λwT gZ hD lk=>by
      refine .mp bj bW λc=>⟨λh=>h.elim id λ⟨_,hk,_⟩=>by simp at hk,.inl⟩)
    exact ⟨cB,jL,ar,a2,λc ae=>lg.head (a3 c ae)⟩
 | @agg g g1 g' cs cs' xs xs' t1 _ gD gx =>
  intro Fs vs dU b5 hH;cases vs with
  | nil=>have:=hH.len; simp at this
  | cons v vs =>
   have J:=hH.rel 0 _ v rfl rfl;have bf:=R.tV hH;cases J with
   | ref J=>simp [aj.isRef] at J
   | @agg _ us bR _ aq mr ax aZ aQ =>
    have fj:∀ k c,k<cs.length->bR k c->dU 0 c:=λk c hk ae=>(aQ c).2 ⟨k,hk,ae⟩;obtain ⟨cB,jL,ar,a2,a3⟩:=Take.node (g1:=g) (Fs:=Fs) (B:=c0) (H0:=dU 0) (X:=.agg cs') (v0:=.agg us) b5
     (⟨by simp [aq],λk x u J hu=>ax k x u J (by simpa using hu),aZ,λk t c hk ae=>(bf c (fj k c hk ae)).1 t,λk c hk ae=>hH.aD 0 c (by simp) (fj k c hk ae)⟩:Hand w I (gr w T) Fs cs us.toList bR)
     (λc ae=>ae.elim)
     (λc ae=>by
      rcases ae with h | ⟨k,hk,h⟩
      ·exact .inl h
      ·exact .inr (fj k c hk h))
     hH.tail bf gD gx (λwT gZ hD lk=>by
      refine .agg (by rw [t1.length,aq]) mr (λk x u J hu=>gZ k x u J (by simpa using hu)) hD λc=>⟨λh=>h.elim (λh=>h.elim) id,.inr⟩)
    exact ⟨cB,jL,ar,a2,λc ae=>lg.head (a3 c ae)⟩
 | @cA g g1 g' cs cs' xs xs' t1 _ gD gx =>
  intro Fs vs dU b5 hH;cases vs with
  | nil=>have:=hH.len; simp at this
  | cons v vs =>
   have J:=hH.rel 0 _ v rfl rfl;have bf:=R.tV hH;cases J with
   | ref J=>simp [aj.isRef] at J
   | @cA _ us bR _ aq ax aZ aQ =>
    have fj:∀ k c,k<cs.length->bR k c->dU 0 c:=λk c hk ae=>(aQ c).2 ⟨k,hk,ae⟩;obtain ⟨cB,jL,ar,a2,a3⟩:=Take.node (g1:=g) (Fs:=Fs) (B:=c0) (H0:=dU 0) (X:=.cA cs') (v0:=.tuple us) b5
     (⟨by simp [aq],λk x u J hu=>ax k x u J (by simpa using hu),aZ,λk t c hk ae=>(bf c (fj k c hk ae)).1 t,λk c hk ae=>hH.aD 0 c (by simp) (fj k c hk ae)⟩:Hand w I (gr w T) Fs cs us.toList bR)
     (λc ae=>ae.elim)
     (λc ae=>by
      rcases ae with h | ⟨k,hk,h⟩
      ·exact .inl h
      ·exact .inr (fj k c hk h))
     hH.tail bf gD gx (λwT gZ hD lk=>by
      refine .cA (by rw [t1.length,aq]) (λk x u J hu=>gZ k x u J (by simpa using hu)) hD λc=>⟨λh=>h.elim (λh=>h.elim) id,.inr⟩)
    exact ⟨cB,jL,ar,a2,λc ae=>lg.head (a3 c ae)⟩
end
end Go.Own
namespace Go.Own
open Go
inductive kk (mm:aj->Prop):aj->Prop
 | bP {x:aj}(h:dn x):kk mm x
 | ref {x:aj}(J:x.isRef=true) (h:mm x):kk mm x
 | own {z n:Nat}{cs:List aj}(h:∀ x∈cs,kk mm x):kk mm (.own z n cs)
 | obj {cs:List aj}(h:∀ x∈cs,kk mm x):kk mm (.obj cs)
 | agg {cs:List aj}(h:∀ x∈cs,kk mm x):kk mm (.agg cs)
 | cA {cs:List aj}(h:∀ x∈cs,kk mm x):kk mm (.cA cs)
 | eB {fn:Fn}{a b:List aj}(h1:∀ x∈a,kk mm x) (al:∀ x∈b,kk mm x):kk mm (.eB fn a b)
def yo:aj->Option Place
 | .ptr p _=>some p
 | .bh _ p _=>some p
 | .sub _ p _ _=>some p
 | .bY _ p _ _ _=>some p
 | .i' p=>some p
 | _=>none
def Clear (p:Place) (k m:Nat) (r:aj):Prop:=∀ q,yo r=some q->q.root=p.root->∀ af fg,q.path=p.path++af::fg->af<k\/k+m<=af
def fM {α:Type}(l:List α) (k:Nat) (c:List α):List α:=l.take k++c++l.drop (k+c.length)
theorem qq {α:Type}{l:List α}{k:Nat}{c:List α}(h:k+c.length<=l.length):(fM l k c).length=l.length:=by
 simp [fM]; omega
theorem r2 {α:Type}{l:List α}{k:Nat}{c:List α}(h:k+c.length<=l.length) (af:Nat):(fM l k c)[af]?=if k<=af/\af<k+c.length then c[af - k]? else l[af]?:=by
 unfold fM;rw [List.append_assoc];by_cases h1:af<k
 ·rw [List.getElem?_append_left (by simp; omega),List.getElem?_take,if_pos h1,if_neg (by omega)]
 ·rw [List.getElem?_append_right (by simp; omega)];have:(l.take k).length=k:=by simp; omega
  rw [this];by_cases al:af<k+c.length
  ·rw [List.getElem?_append_left (by omega),if_pos ⟨by omega,al⟩]
  ·rw [List.getElem?_append_right (by omega),List.getElem?_drop,if_neg (by omega)];congr 1; omega
theorem Vr {α:Type}{l:List α}{k:Nat}{c:List α}{m:Nat}(h:k+c.length<=m) (hm:m<=l.length):(fM l k c).take m=fM (l.take m) k c:=by
 have h1:k+c.length<=(l.take m).length:=by rw [List.length_take]; omega
 apply List.ext_getElem?;intro af;rw [List.getElem?_take,r2 h1,r2 (l:=l) (by omega),List.getElem?_take];by_cases aa:af<m
 ·rw [if_pos aa,if_pos aa]
 ·rw [if_neg aa,if_neg aa,if_neg (by omega)]
def aj.fM (x:aj) (k:Nat) (c:List aj):aj :=
 match x with
 | .own z n cs=>.own z n (Own.fM cs k c)
 | .obj cs=>.obj (Own.fM cs k c)
 | x=>x
section
variable {w:World}{I:bu}{T:Array Value}{g:a7}{Fs:Nat->bu}
theorem R.Bn {ρ:aj->Value->Prop}{mm:aj->Prop}{x:aj}{v:Value}{F:bu}(h:R w I ρ x v F):kk mm x->R w I (λr u=>ρ r u/\mm r) x v F:=by
 induction h with
 | lit h aQ=>exact λ_=>.lit h aQ
 | aF aQ=>exact λ_=>.aF aQ
 | dead aQ=>exact λ_=>.dead aQ
 | @ref x _ _ J h aQ =>
  intro hk;refine .ref J ⟨h,?_⟩ aQ;cases hk with
  | ref _ h=>exact h
  | bP h=>cases h <;> simp [aj.isRef] at J
  | _=>simp [aj.isRef] at J
 | hW aQ=>exact λ_=>.hW aQ
 | mp bj aH aQ=>exact λ_=>.mp bj aH aQ
 | imp aQ bt bj aH=>exact λ_=>.imp aQ bt bj aH
 | aD aQ k5 bt aO aq h1 ae ax aR =>
  intro hk;cases hk with
  | ref J=>simp [aj.isRef] at J
  | bP h=>cases h with | aD h=>exact .aD aQ k5 bt aO aq h1 ae λk x J=>aR k x J (.bP (h x (List.mem_of_getElem? J)))
 | bn aQ bt aO h1 ae ax aR =>
  intro hk;cases hk with
  | ref J=>simp [aj.isRef] at J
  | bP h=>cases h with | bn h=>exact .bn aQ bt aO h1 ae λk x J=>aR k x J (.bP (h x (List.mem_of_getElem? J)))
 | own bj aq h1 ax aZ aJ aQ aR =>
  intro hk;refine .own bj aq h1 (λk x u J hu=>aR k x u J hu ?_) aZ aJ aQ;cases hk with
  | ref J=>simp [aj.isRef] at J
  | bP h=>cases h with | own h=>exact .bP (h x (List.mem_of_getElem? J))
  | own h=>exact h x (List.mem_of_getElem? J)
 | obj bj aq h1 ax aZ aJ aQ aR =>
  intro hk;refine .obj bj aq h1 (λk x u J hu=>aR k x u J hu ?_) aZ aJ aQ;cases hk with
  | ref J=>simp [aj.isRef] at J
  | bP h=>cases h with | obj h=>exact .bP (h x (List.mem_of_getElem? J))
  | obj h=>exact h x (List.mem_of_getElem? J)
 | agg aq h1 ax aZ aQ aR =>
  intro hk;refine .agg aq h1 (λk x u J hu=>aR k x u J hu ?_) aZ aQ;cases hk with
  | ref J=>simp [aj.isRef] at J
  | bP h=>cases h with | agg h=>exact .bP (h x (List.mem_of_getElem? J))
  | agg h=>exact h x (List.mem_of_getElem? J)
 | cA aq ax aZ aQ aR =>
  intro hk;refine .cA aq (λk x u J hu=>aR k x u J hu ?_) aZ aQ;cases hk with
  | ref J=>simp [aj.isRef] at J
  | bP h=>cases h with | cA h=>exact .bP (h x (List.mem_of_getElem? J))
  | cA h=>exact h x (List.mem_of_getElem? J)
 | @eB fn first caps v1 v2 F aQ h1 al j0 iL gD gx =>
  intro hk;have:(∀ x∈first,kk mm x)/\∀ x∈caps,kk mm x:=by
   cases hk with
   | ref J=>simp [aj.isRef] at J
   | bP h=>cases h with | eB h1 al=>exact ⟨λx J=>.bP (h1 x J),λx J=>.bP (al x J)⟩
   | eB h1 al=>exact ⟨h1,al⟩
  exact .eB aQ h1 al (λk x u J hu=>gD k x u J hu (this.1 x (List.mem_of_getElem? J))) (λk x u J hu=>gx k x u J hu (this.2 x (List.mem_of_getElem? J)))
theorem jN.store (b5:jN w I T g Fs) {p:Place}{nd:aj}{z n:Nat}{cs:List aj}(aH:cd g p=some nd) (gv:nd=.own z n cs\/nd=.obj cs) {k:Nat}{cs':List aj}(hk:k+cs'.length<=cs.length)
  {iQ:List Value}{dU:Nat->bu}(hH:Hand w I (gr w T) Fs cs' iQ dU) (mz:∀ x∈cs',dn x) (hd:∀ (af:Nat) (u:Value),iQ[af]?=some u->u.oneCell'=true)
  {g2:a7}(CZ:∀ t x,g2 t=some x->dh g p (nd.fM k cs') t=some x)
  (zZ:∀ t x,g2 t=some x->∀ y,g t=some y->kk (λr=>hq g r/\Clear p k cs'.length r/\hq g2 r) y) (l8:∀ t z q n m new,g2 t≠some (.bY z q n m new)) (mD:g2 p.root≠none) {b:Nat}{v:Value}
  (hv:eI w T p=some v) (aJ:addrOf v=some ⟨b,0,none⟩) {e:TypeId}{arr:Array Value}(lq:w.heap[b]?=some (.cells arr e (0,0))) :
  ∃ cB,dd (w.setRow b (fM arr.toList k iQ).toArray) I T g2 cB/\∀ t c,cB t c->Fs t c\/∃ af,af<cs'.length/\dU af c:=by
 have k_:∀ z q n m new,nd≠.bY z q n m new:=by rcases gv with rfl | rfl <;> simp
 have hlen:=hH.len;have re:∀ c,c≠b->(w.setRow b (fM arr.toList k iQ).toArray).heap[c]?=w.heap[c]?:=λc ae=>setRow_other w b c _ ae;have IB:(w.setRow b (fM arr.toList k iQ).toArray).heap[b]?=some (.cells (fM arr.toList k iQ).toArray e (0,0)):=setRow_heap w b arr _ e (0,0) lq;have XJ:(w.setRow b (fM arr.toList k iQ).toArray).heap.size=w.heap.size:=by simp
 generalize vB:w.setRow b (fM arr.toList k iQ).toArray=w' at *
 -- the slot of the node
 obtain ⟨fE,k8⟩:∃ fE,g p.root=some fE:=by
  unfold cd at aH;cases J:g p.root with
  | none=>rw [J] at aH; cases aH
  | some x=>exact ⟨x,rfl⟩
 have qL:fE.at p.path=some nd:=by simpa [cd,k8] using aH
 obtain ⟨v0,jE,gP⟩:=b5.rel _ _ k8;have FJ:=gP.h9 (by rintro z q n m new rfl; exact k_ _ _ _ _ _ (aj.sj qL).2);have xF:kk (λr=>hq g r/\Clear p k cs'.length r/\hq g2 r) fE:=by
  cases al:g2 p.root with
  | none=>exact absurd al mD
  | some y=>exact zZ _ _ al _ k8
 let IW:aj->Value->Prop:=λr u=>gr w T r u/\hq g r/\Clear p k cs'.length r/\hq g2 r;have FK:R w I IW fE v0 (Fs p.root):=FJ.Bn xF;obtain ⟨iG,cR,hw,eb,dS,gj,kO⟩:=R.focus p.path FK qL;have Tu:iG=v:=by simp only [eI,jE,hw,Option.some.injEq] at hv; exact hv
 subst Tu;have n0:cR b:=eb.DB (z:=z) (n:=n) gv aJ;have same:∀ t c,Fs t c->c≠b->w'.heap[c]?=w.heap[c]?:=λ_ c _ ae=>re c ae;have zx:∀ c,I c->w'.heap[c]?=w.heap[c]?:=λc ae=>re c λe=>b5.aD _ b (dS b n0) (e ▸ ae);have LJ:∀ t,t≠p.root->¬ Fs t b:=λt aG h=>aG (b5.fi _ _ _ h (dS b n0))
 -- ways that are clear of the cells
 obtain ⟨V6,V7⟩:=gj w' λc ae aP=>re c λe=>aP (e ▸ n0);have Mg:∀ (ρ':aj->Value->Prop),(∀ x v,IW x v->ρ' x v)->(∃ gg,R w' I ρ' (nd.fM k cs') iG gg/\∀ c,gg c->cR c\/∃ af,af<cs'.length/\dU af c)/\∀ af fg y,(af<k\/k+cs'.length<=af)->nd.at (af::fg)=some y->walk w' iG (af::fg)=walk w iG (af::fg):=by
  intro ρ' lx;have new:∀ (af:Nat) (x:aj) (u:Value),cs'[af]?=some x->iQ[af]?=some u->R w' I ρ' x u (dU af):=by
   intro af x u J hu;have aa:af<cs'.length:=(List.getElem?_eq_some_iff.1 J).1;have:=(hH.rel af x u J hu).bP (ρ':=ρ') (mz x (List.mem_of_getElem? J));exact this.frame zx (λ_ h=>h) (λ_ _ h=>h) λc ae=>re c λe=>hH.off af p.root b aa (e ▸ ae) (dS b n0)
  rcases gv with rfl | rfl
  ·cases eb with
   | ref J=>simp [aj.isRef] at J
   | @own _ _ _ _ cY us bR _ bj aq h1 ax aZ kc aQ =>
    obtain ⟨mE,ca⟩:=bj;rcases ca with ⟨rfl,_⟩ | ⟨iW,cap,cur,rfl,oX,fR,uF,r0,uG,s9⟩
    ·simp [addrOf] at aJ
    ·simp only [addrOf,Option.some.injEq,Addr.mk.injEq,and_true] at aJ;subst aJ;rw [lq] at fR;cases fR;have Lf:n * z<=arr.toList.length:=by
      rw [<- mE,<- s9,List.length_take] ; simp; omega
     have Xo:us.length=cs.length:=aq.symm;have mA:w'.ownsRow 0 e z (.slice (some ⟨iW,0,none⟩) n cap) n (fM us k iQ):=by
      refine ⟨by rw [qq (by omega),mE],.inr ⟨iW,cap,_,rfl,oX,IB,uF,r0,?_,?_⟩⟩
      ·rw [List.size_toArray,qq (by omega),Array.length_toList,uG]
      ·show (fM arr.toList k iQ).take (n * z)=_;rw [Vr (by omega) Lf,s9]
     have KX:∀ af,af<cs.length->¬ bR af iW:=λaf aa h=>kc af iW aa h rfl;have fj:∀ af c,af<cs.length->bR af c->Fs p.root c:=λaf c aa ae=>dS c ((aQ c).2 (.inr ⟨af,aa,ae⟩));refine ⟨⟨_,.own (Fs:=λaf=>if k<=af/\af<k+cs'.length then dU (af - k) else bR af) mA (by rw [qq hk,qq (by omega),aq]) (λaf u hu=>?_) (λaf x u J hu=>?_) (λi af c hi aa ae fz=>?_) (λaf c aa ae ui=>?_) (λc=>Iff.rfl),λc ae=>?_⟩,λaf fg y aa aA=>?_⟩
     ·rw [r2 (by omega)] at hu
      split at hu
      ·exact hd _ u hu
      ·exact h1 af u hu
     ·rw [r2 hk] at J;rw [r2 (by omega),<- hlen] at hu;by_cases eS:k<=af/\af<k+cs'.length
      ·rw [if_pos eS] at J hu;simpa [eS] using new (af - k) x u J hu
      ·rw [if_neg eS] at J hu;have fp:af<cs.length:=(List.getElem?_eq_some_iff.1 J).1;rw [if_neg eS];exact (ax af x u J hu).frame zx (λ_ h=>h) lx λc ae=>re c λe=>KX af fp (e ▸ ae)
     ·rw [qq hk] at hi aa;by_cases h1:k<=i/\i<k+cs'.length <;> by_cases al:k<=af/\af<k+cs'.length <;> simp only [h1,al,if_false] at ae fz
      ·have:=hH.fi (i - k) (af - k) c (by omega) (by omega) (by simpa using ae) (by simpa using fz);omega
      ·exact absurd (fj af c aa fz) (hH.off (i - k) _ c (by omega) (by simpa using ae))
      ·exact absurd (fj i c hi ae) (hH.off (af - k) _ c (by omega) (by simpa using fz))
      ·exact aZ i af c hi aa ae fz
     ·rw [qq hk] at aa;by_cases h1:k<=af/\af<k+cs'.length
      ·rw [if_pos h1] at ae;simp only [Value.ownBlock,Option.some.injEq] at ui;subst ui;exact hH.off (af - k) p.root iW (by omega) ae (dS iW n0)
      ·rw [if_neg h1] at ae; exact kc af c aa ae ui
     ·rcases ae with ae | ⟨af,aa,ae⟩
      ·exact .inl ((aQ c).2 (.inl ae))
      ·rw [qq hk] at aa;by_cases h1:k<=af/\af<k+cs'.length
       ·rw [if_pos h1] at ae; exact .inr ⟨af - k,by omega,ae⟩
       ·rw [if_neg h1] at ae; exact .inl ((aQ c).2 (.inr ⟨af,aa,ae⟩))
     ·obtain ⟨c,n2,ae⟩:=aj.tA aA;simp only [aj.kids] at n2;have fp:af<cs.length:=(List.getElem?_eq_some_iff.1 n2).1;have hu:us[af]?=some us[af]:=List.getElem?_eq_getElem (by omega);have l6:child w (.slice (some ⟨iW,0,none⟩) n cap) af=some us[af]:=by
       refine ob (e:=e) (z:=z) (n:=n) (us:=us) ⟨mE,.inr ⟨iW,cap,arr,rfl,oX,lq,uF,r0,uG,s9⟩⟩ hu
      have zG:child w' (.slice (some ⟨iW,0,none⟩) n cap) af=some us[af]:=by
       refine ob mA ?_;rw [r2 (by omega),if_neg (by omega)]; exact hu
      have:=R.o3 (w':=w') fg (ax af c _ n2 hu) ae λc ae=>re c λe=>KX af fp (e ▸ ae);simp [walk,l6,zG,this]
  ·cases eb with
   | ref J=>simp [aj.isRef] at J
   | @obj _ iW cY jz bR _ bj aq h1 ax aZ kc aQ =>
    simp only [addrOf,Option.some.injEq,Addr.mk.injEq,and_true] at aJ;subst aJ;rw [lq] at bj;cases bj;have vp:cs.length=arr.toList.length:=by simp [aq]
    have fj:∀ af c,af<cs.length->bR af c->Fs p.root c:=λaf c aa ae=>dS c ((aQ c).2 (.inr ⟨af,aa,ae⟩));refine ⟨⟨_,.obj (Fs:=λaf=>if k<=af/\af<k+cs'.length then dU (af - k) else bR af) IB (by rw [qq hk,List.size_toArray,qq (by omega),vp]) (λaf u hu=>?_) (λaf x u J hu=>?_) (λi af c hi aa ae fz=>?_) (λaf aa ae=>?_) (λc=>Iff.rfl),λc ae=>?_⟩,λaf fg y aa aA=>?_⟩
    ·rw [List.getElem?_toArray,r2 (by omega)] at hu
     split at hu
     ·exact hd _ u hu
     ·exact h1 af u (by simpa using hu)
    ·rw [r2 hk] at J;rw [List.getElem?_toArray,r2 (by omega),<- hlen] at hu;by_cases eS:k<=af/\af<k+cs'.length
     ·rw [if_pos eS] at J hu;simpa [eS] using new (af - k) x u J hu
     ·rw [if_neg eS] at J hu;have fp:af<cs.length:=(List.getElem?_eq_some_iff.1 J).1;rw [if_neg eS];exact (ax af x u J (by simpa using hu)).frame zx (λ_ h=>h) lx λc ae=>re c λe=>kc af fp (e ▸ ae)
    ·rw [qq hk] at hi aa;by_cases h1:k<=i/\i<k+cs'.length <;> by_cases al:k<=af/\af<k+cs'.length <;> simp only [h1,al,if_false] at ae fz
     ·have:=hH.fi (i - k) (af - k) c (by omega) (by omega) (by simpa using ae) (by simpa using fz);omega
     ·exact absurd (fj af c aa fz) (hH.off (i - k) _ c (by omega) (by simpa using ae))
     ·exact absurd (fj i c hi ae) (hH.off (af - k) _ c (by omega) (by simpa using fz))
     ·exact aZ i af c hi aa ae fz
    ·rw [qq hk] at aa;by_cases h1:k<=af/\af<k+cs'.length
     ·rw [if_pos h1] at ae;exact hH.off (af - k) p.root iW (by omega) ae (dS iW n0)
     ·rw [if_neg h1] at ae; exact kc af aa ae
    ·rcases ae with ae | ⟨af,aa,ae⟩
     ·exact .inl ((aQ c).2 (.inl ae))
     ·rw [qq hk] at aa;by_cases h1:k<=af/\af<k+cs'.length
      ·rw [if_pos h1] at ae; exact .inr ⟨af - k,by omega,ae⟩
      ·rw [if_neg h1] at ae; exact .inl ((aQ c).2 (.inr ⟨af,aa,ae⟩))
    ·obtain ⟨c,n2,ae⟩:=aj.tA aA;simp only [aj.kids] at n2;have fp:af<cs.length:=(List.getElem?_eq_some_iff.1 n2).1;have hu:arr[af]?=some arr[af]:=Array.getElem?_eq_getElem (by omega);have l6:child w (.pointer (some ⟨iW,0,none⟩)) af=some arr[af]:=by simp [child,World.cell?,lq,hu]
     have zG:child w' (.pointer (some ⟨iW,0,none⟩)) af=some arr[af]:=by
      have aS:(fM arr.toList k iQ)[af]?=some arr[af]:=by
       rw [r2 (by omega),if_neg (by omega)]; simp
      simp [child,World.cell?,IB,aS]
     have:=R.o3 (w':=w') fg (ax af c _ n2 hu) ae λc ae=>re c λe=>kc af fp (e ▸ ae);simp [walk,l6,zG,this]
 have val:∀ q y,cd g q=some y->(q.root=p.root->∀ af fg,q.path=p.path++af::fg->af<k\/k+cs'.length<=af)->eI w' T q=eI w T q:=by
  intro q y bW hG;by_cases ax:q.root=p.root
  ·have ga:fE.at q.path=some y:=by simpa [cd,ax,k8] using bW
   rcases V7 q.path y ga with ⟨fg,e2⟩ | h
   ·have vB:walk w' v0 q.path=walk w v0 q.path:=by
     rw [e2,Bz,Bz,V6,hw];simp only [Option.bind_some];cases fg with
     | nil=>rfl
     | cons af fg =>
      rw [e2,aj.EH,qL] at ga;exact (Mg (λ_ _=>True) (λ_ _ _=>trivial)).2 af fg y (hG ax af fg e2) ga
    simp [eI,ax,jE,vB]
   ·simp [eI,ax,jE,h]
  ·unfold cd at bW;cases J:g q.root with
   | none=>rw [J] at bW; cases bW
   | some x =>
    rw [J] at bW;obtain ⟨u,hu,bm⟩:=b5.rel _ _ J;cases bm with
    | tree bm =>
     have:=R.o3 (w':=w') q.path bm bW λc ae=>re c λe=>LJ _ ax (e ▸ ae);simp [eI,hu,this]
    | bY bm=>simp [eI,hu,(aj.sj bW).1,walk]
 have slot:∀ {q:Place}{x:aj},q.path=[]->g q.root=some x->eI w' T q=eI w T q:=by
  intro q x bW J;obtain ⟨u,hu,_⟩:=b5.rel _ _ J;simp [eI,bW,walk]
 have refs:∀ r u,IW r u->eG w' T g2 r u:=by
  rintro r u ⟨h1,al,aS,b7⟩;refine ⟨?_,b7⟩;cases r <;> simp only [gr,hq] at h1 al ⊢
  case ptr q af=>obtain ⟨y,aA,_⟩:=al; rw [val q y aA (aS q rfl)]; exact h1
  case bh cN q c5 =>
   rcases al with ⟨_,_,al,_⟩ | ⟨bf,_,_,_,_,al,_⟩
   ·rw [val q _ al (aS q rfl)]; exact h1
   ·rw [slot bf al]; exact h1
  case sub cN q lo c5=>obtain ⟨_,_,al,_⟩:=al; rw [val q _ al (aS q rfl)]; exact h1
  case i' q=>obtain ⟨_,al⟩:=al; rw [val q _ al (aS q rfl)]; exact h1
  case bY cN q c5 cb ds =>
   rcases al with ⟨_,al⟩ | ⟨bf,_,_,_,_,_,al,_⟩
   ·rw [val q _ al (aS q rfl)]; exact h1
   ·rw [slot bf al]; exact h1
 obtain ⟨⟨Fn,RQ,KY⟩,_⟩:=Mg (eG w' T g2) refs;obtain ⟨gg,FL,oD⟩:=kO w' I (eG w' T g2) _ Fn ⟨zx,λc ae aP=>re c λe=>aP (e ▸ n0),λ_ h=>h,refs⟩ RQ λc ae fz=>by
  rcases KY c ae with h | ⟨af,aa,h⟩
  ·exact h
  ·exact absurd fz (hH.off af _ c aa h)
 have Fz:∀ c,gg c->Fs p.root c\/∃ af,af<cs'.length/\dU af c:=by
  intro c ae;rcases (oD c).1 ae with h | h
  ·exact .inl h.1
  ·rcases KY c h with h | h
   ·exact .inl (dS c h)
   ·exact .inr h
 let cB:Nat->bu:=λt c=>if t=p.root then gg c else g2 t≠none/\Fs t c
 have sF:∀ t c,cB t c->Fs t c\/∃ af,af<cs'.length/\dU af c:=by
  intro t c ae;by_cases aG:t=p.root
  ·simp only [cB,if_pos aG] at ae; rw [aG]; exact Fz c ae
  ·simp only [cB,if_neg aG] at ae; exact .inl ae.2
 refine ⟨cB,⟨λt x J=>?_,λt aG c ae=>?_,λt dD c ae fz=>?_,λt c ae hi=>?_,λc ae=>by have:=b5.lt c ae; omega,λt dD z q n m new cN c5 cb ds h1=>absurd h1 (l8 _ _ _ _ _ _)⟩,sF⟩
 ·have gC:=CZ t x J;by_cases aG:t=p.root
  ·subst aG;have G3:fE.setAt p.path (nd.fM k cs')=x:=by simpa [dh,k8] using gC
   refine ⟨v0,jE,.tree ?_⟩;have FC:cB p.root=gg:=by funext c; simp [cB]
   rw [<- G3,FC]; exact FL
  ·rw [ta aG] at gC;obtain ⟨u,hu,bm⟩:=b5.rel t x gC;replace bm:=bm.h9 (by rintro z q n m new rfl; exact l8 _ _ _ _ _ _ J);have FC:cB t=Fs t:=by
    funext c;exact propext ⟨λh=>by simp only [cB,if_neg aG] at h; exact h.2,λh=>by simp only [cB,if_neg aG]; exact ⟨by rw [J]; simp,h⟩⟩
   refine ⟨u,hu,.tree ?_⟩;rw [FC];exact (bm.Bn (zZ t x J x gC)).frame zx (λ_ h=>h) refs λc ae=>re c λe=>LJ t aG (e ▸ ae)
 ·by_cases ie:t=p.root
  ·exact mD (ie ▸ aG)
  ·simp only [cB,if_neg ie] at ae; exact ae.1 aG
 ·by_cases h1:t=p.root <;> by_cases al:dD=p.root
  ·rw [h1,al]
  ·simp only [cB,if_pos h1] at ae; simp only [cB,if_neg al] at fz;rcases Fz c ae with h | ⟨af,aa,h⟩
   ·exact absurd (b5.fi _ _ _ h fz.2) (Ne.symm al)
   ·exact absurd fz.2 (hH.off af _ c aa h)
  ·simp only [cB,if_neg h1] at ae; simp only [cB,if_pos al] at fz;rcases Fz c fz with h | ⟨af,aa,h⟩
   ·exact absurd (b5.fi _ _ _ ae.2 h) h1
   ·exact absurd ae.2 (hH.off af _ c aa h)
  ·simp only [cB,if_neg h1] at ae; simp only [cB,if_neg al] at fz;exact b5.fi _ _ _ ae.2 fz.2
 ·rcases sF t c ae with h | ⟨af,aa,h⟩
  ·exact b5.aD _ c h hi
  ·exact hH.aD af c aa h hi
end
end Go.Own
namespace Go.Own
open Go
section
variable {P:Program}{w:World}{I:bu}{T:Array Value}{g:a7}{Fs:Nat->bu}
theorem View.Nj (h:jN w I T g Fs) {x x':aj}(hv:View g x x'):∀ {v:Value}{F:bu},R w I (gr w T) x v F->(∀ c,F c->∃ t,Fs t c)->∀ ρ',R w (λc=>I c\/∃ t,Fs t c) ρ' x' v c0:=by
 induction hv with
 | pK =>
  intro v F bm aQ ρ';have:=bm.q0;subst this;exact .hW λ_ h=>h
 | mp =>
  intro v F bm aQ ρ';cases bm with
  | ref J=>simp [aj.isRef] at J
  | mp bj aH aJ=>exact .imp (λ_ h=>h) (.inr (aQ _ ((aJ _).2 rfl))) bj aH
 | i' aH =>
  intro v F bm aQ ρ';cases bm with
  | ref _ ax _ =>
   obtain ⟨b,aJ,rfl⟩:=ax;obtain ⟨h0,cR,jk,eb,dS,_⟩:=h.part aH (by simp);rw [aJ] at jk;cases jk;cases eb with
   | ref J=>simp [aj.isRef] at J
   | mp bj aH aJ=>exact .imp (λ_ h=>h) (.inr ⟨_,dS _ ((aJ _).2 rfl)⟩) bj aH
 | self aP h1 al aS b7 dv =>
  intro v F bm aQ ρ';refine ((bm.bP aP).nm λc ae=>.inl ae).empty ?_;cases bm with
  | mp=>exact absurd rfl (dv _)
  | lit _ aQ | aF aQ | dead aQ | ref _ _ aQ | hW aQ | aD aQ | bn aQ | eB aQ | imp aQ=>exact aQ
  | own=>exact absurd rfl (h1 _ _ _)
  | obj=>exact absurd rfl (al _)
  | agg=>exact absurd rfl (aS _)
  | cA=>exact absurd rfl (b7 _)
 | @agg cs cs' aq _ aR =>
  intro v F bm aQ ρ';cases bm with
  | ref J=>simp [aj.isRef] at J
  | @agg _ vs bR _ ic h1 ax aZ k4 =>
   refine .agg (Fs:=λ_=>c0) (by rw [aq,ic]) h1 (λk y u aA hu=>?_) (λ_ _ _ _ _ h=>h.elim) (λc=>⟨λh=>h.elim,λ⟨_,_,h⟩=>h⟩);have hk:k<cs.length:=by rw [<- aq]; exact (List.getElem?_eq_some_iff.1 aA).1
   have J:=List.getElem?_eq_getElem hk;exact aR k _ y J aA (ax k _ u J hu) (λc ae=>aQ c ((k4 c).2 ⟨k,hk,ae⟩)) ρ'
 | @eB fn cs cs' aq _ aR =>
  intro v F bm aQ ρ';cases bm with
  | ref J=>simp [aj.isRef] at J
  | @eB _ _ _ v1 v2 _ xy h1 al j0 iL =>
   refine .eB (λ_ h=>h) h1 (by rw [aq,al]) (λk x u J=>by simp at J) (λk y u aA hu=>?_);have hk:k<cs.length:=by rw [<- aq]; exact (List.getElem?_eq_some_iff.1 aA).1
   have J:=List.getElem?_eq_getElem hk;exact aR k _ y J aA (iL k _ u J hu) (λc ae=>ae.elim) ρ'
 | @own z n cs cs' aq _ aR =>
  intro v F bm aQ ρ';obtain ⟨a,cap,us,bR,rfl,aP,hlen,bk,ae⟩:=bm.x5;cases a with
  | none =>
   have hI:cs=[]:=by
    cases cs with
    | nil=>rfl
    | cons c cs=>obtain ⟨b,aJ,_⟩:=ae 0 c rfl; cases aJ
   subst hI;have lu:cs'=[]:=List.eq_nil_of_length_eq_zero (by simpa using aq);subst lu;have pA:n=0:=by
    cases bm with
    | ref J=>simp [aj.isRef] at J
    | own bj =>
     obtain ⟨_,ca⟩:=bj;rcases ca with ⟨ca,bf⟩ | ⟨b,c2,cur,ca,_⟩
     ·exact bf
     ·cases ca
   subst pA;exact .hW λ_ h=>h
  | some ad =>
   obtain ⟨b,rfl,qJ⟩:=bk ad rfl;refine .aD (us:=us) (λ_ h=>h) aP (.inr (aQ b qJ)) rfl (by rw [aq,hlen]) (λk y aA=>?_) (λk y aA=>?_) λk y aA=>?_
   all_goals
    have hk:k<cs.length:=by rw [<- aq]; exact (List.getElem?_eq_some_iff.1 aA).1
    have J:=List.getElem?_eq_getElem hk;obtain ⟨iW,kH,h1,al,aS,b7⟩:=ae k _ J;cases kH
   ·exact al
   ·simpa using h1
   ·exact aR k _ y J aA aS (λc ae=>aQ c (b7 c ae)) ρ'
 | @obj cs cs' aq _ aR =>
  intro v F bm aQ ρ';cases bm with
  | ref J=>simp [aj.isRef] at J
  | @obj _ b e arr bR _ bj ic h1 ax aZ aJ k4 =>
   refine .bn (us:=λk=>arr.getD k undef) (λ_ h=>h) (.inr (aQ b ((k4 b).2 (.inl rfl)))) rfl (λk y aA=>?_) (λk y aA=>?_) λk y aA=>?_
   all_goals
    have hk:k<cs.length:=by rw [<- aq]; exact (List.getElem?_eq_some_iff.1 aA).1
    have J:=List.getElem?_eq_getElem hk;have hu:arr[k]?=some arr[k]:=Array.getElem?_eq_getElem (ic ▸ hk)
   ·simpa [hu] using h1 k _ hu
   ·simp [World.cell?,bj,hu]
   ·simpa [hu] using aR k _ y J aA (ax k _ _ J hu) (λc ae=>aQ c ((k4 c).2 (.inr ⟨k,hk,ae⟩))) ρ'
 | @bh z n N p cs cs' aH aP aq _ aR =>
  intro v F bm aQ ρ';obtain ⟨a,je,cap,h1,rfl,aS⟩:=bm.mI;obtain ⟨pT,pW,hf,hS,l2,_⟩:=h.part aH (by simp);rw [h1] at hf;cases hf;obtain ⟨a2,qC,us,bR,kd,k5,hlen,bk,ae⟩:=hS.x5;cases kd;have hle:n * z<=N * z:=Nat.mul_le_mul_right _ aP;have cell:∀ k,k<cs'.length->∃ x b,(cs.take (n * z))[k]?=some x/\a=some ⟨b,0,none⟩/\w.cell? ⟨b,k,none⟩=some (us k)/\(us k).oneCell'=true/\R w I (gr w T) x (us k) (bR k)/\∀ c,bR k c->pW c:=by
   intro k hk;rw [aq,List.length_take] at hk;have J:cs[k]?=some cs[k]:=List.getElem?_eq_getElem (by omega);obtain ⟨b,r⟩:=ae k _ J;exact ⟨_,b,by rw [List.getElem?_take,if_pos (by omega)]; exact J,r⟩
  cases a with
  | none =>
   have lu:cs'=[]:=by
    cases cs' with
    | nil=>rfl
    | cons c l=>obtain ⟨_,b,_,aJ,_⟩:=cell 0 (by simp); cases aJ
   subst lu;obtain ⟨_,_,kd,_,_,_,rP⟩:=hS.mL;cases kd;have pA:n=0:=by
    rcases Nat.eq_zero_or_pos n with bf | bf
    ·exact bf
    ·have:=rP (by omega); simp at this
   subst pA;exact .hW λ_ h=>h
  | some ad =>
   obtain ⟨b,rfl,qJ⟩:=bk ad rfl;refine .aD (us:=us) (λ_ h=>h) (by omega) (.inr ⟨_,l2 b qJ⟩) rfl (by rw [aq,List.length_take,hlen]; omega) (λk y aA=>?_) (λk y aA=>?_) λk y aA=>?_
   all_goals
    obtain ⟨x,iW,J,kH,b7,dv,eC,kG⟩:=cell k (List.getElem?_eq_some_iff.1 aA).1;cases kH
   ·exact dv
   ·simpa using b7
   ·exact aR k x y J aA eC (λc ae=>⟨_,l2 c (kG c ae)⟩) ρ'
 | @sub z lo n N p cs cs' aH aP aq _ aR =>
  intro v F bm aQ ρ';obtain ⟨a,je,cap,cJ,l0,h1,rfl,Gy,aS,dv⟩:=bm.vJ;obtain ⟨pT,pW,hf,hS,l2,_⟩:=h.part aH (by simp);rw [h1] at hf;cases hf;obtain ⟨a2,qC,us,bR,kd,k5,hlen,bk,ae⟩:=hS.x5;cases kd;have hle:lo * z+n * z<=N * z:=by rw [<- Nat.add_mul]; exact Nat.mul_le_mul_right _ aP
  have ic:cs'.length=n * z:=by rw [aq,List.length_take,List.length_drop,hlen]; omega
  have cell:∀ k,k<cs'.length->∃ x b,((cs.drop (lo * z)).take (n * z))[k]?=some x/\a=some ⟨b,0,none⟩/\w.cell? ⟨b,lo * z+k,none⟩=some (us (lo * z+k))/\(us (lo * z+k)).oneCell'=true/\R w I (gr w T) x (us (lo * z+k)) (bR (lo * z+k))/\∀ c,bR (lo * z+k) c->pW c:=by
   intro k hk;have J:cs[lo * z+k]?=some cs[lo * z+k]:=List.getElem?_eq_getElem (by omega);obtain ⟨b,r⟩:=ae _ _ J;exact ⟨_,b,by rw [List.getElem?_take,if_pos (by omega),List.getElem?_drop]; exact J,r⟩
  by_cases pA:n=0
  ·subst pA;have lu:cs'=[]:=List.eq_nil_of_length_eq_zero (by simpa using ic);subst lu;exact .hW λ_ h=>h
  ·obtain ⟨ad,rfl,rfl⟩:=dv (by omega);obtain ⟨b,rfl,qJ⟩:=bk ad rfl;refine .aD (us:=λk=>us (lo * z+k)) (λ_ h=>h) Gy (.inr ⟨_,l2 b qJ⟩) rfl ic (λk y aA=>?_) (λk y aA=>?_) λk y aA=>?_
   all_goals
    obtain ⟨x,iW,J,kH,b7,Fy,eC,kG⟩:=cell k (List.getElem?_eq_some_iff.1 aA).1;cases kH
   ·exact Fy
   ·simpa using b7
   ·exact aR k x y J aA eC (λc ae=>⟨_,l2 c (kG c ae)⟩) ρ'
 | @rows z n p cs cs' aH aq _ aR =>
  intro v F bm aQ ρ';obtain ⟨a,je,cap,h1,rfl,aS⟩:=bm.mI;obtain ⟨v0,e,us,jE,bj,hlen,mr,aJ,ax⟩:=Rows.sound (w:=w) (I:=I) (T:=T) (Fs:=Fs) (λt z q n m new aG=>h.rel t _ aG) (λp z n cs aH=>by obtain ⟨v,cR,h1,al,aS,_⟩:=h.part aH (by simp); exact ⟨v,cR,h1,al,aS⟩) (λz p n v hv=>by obtain ⟨a,cap,h1,rfl⟩:=hv; exact h1) aH;rw [h1] at jE;cases jE;refine MT bj hlen mr aJ aq λk x y u J aA hu=>?_;obtain ⟨bR,ka,fj⟩:=ax k x u J hu;exact aR k x y J aA ka fj ρ'
 | @ptr p k z n y cs cs' aH aA hk aq _ aR =>
  intro v F bm aQ ρ';obtain ⟨u,ad,h1,al,rfl⟩:=bm.ni;obtain ⟨pT,pW,hf,hS,l2,_⟩:=h.part aH (by rcases aA with rfl | rfl <;> simp);rw [h1] at hf;cases hf;have cell:∀ af,af<cs'.length->∃ gJ kz uY,w.cell? ⟨ad.block,k+af,none⟩=some gJ/\gJ.oneCell'=true/\(cs.drop k)[af]?=some kz/\R w I (gr w T) kz gJ uY/\(∀ c,uY c->∃ t,Fs t c):=by
   intro af aa;rw [aq,List.length_drop] at aa;have gC:cs[k+af]?=some cs[k+af]:=List.getElem?_eq_getElem (by omega);obtain ⟨b,gJ,f',lI,l6,hd,_⟩:=hS.node aA gC;rw [al] at f';cases f';have ga:cd g (p.push (k+af))=some cs[k+af]:=by rw [si,aH]; rcases aA with rfl | rfl <;> simp [aj.kids]
   by_cases hJ:∃ cN hj c5 cb ds,cs[k+af]=.bY cN hj c5 cb ds
   ·obtain ⟨cN,hj,c5,cb,ds,hJ⟩:=hJ;obtain ⟨b,VY,_,_,zG,_,bR,ka⟩:=hS.node aA gC;rw [hJ] at ka;exact ka.k_.elim
   ·obtain ⟨om,Er,qV,FM,k4,_⟩:=h.part ga (λcN hj c5 cb ds e=>hJ ⟨_,_,_,_,_,e⟩);rw [wz,h1] at qV;simp only [Option.bind_some] at qV;rw [l6] at qV;cases qV;exact ⟨gJ,_,Er,lI,hd,by rw [List.getElem?_drop]; exact gC,FM,λc ae=>⟨_,k4 c ae⟩⟩
  obtain ⟨b,gJ,f',_⟩:=hS.node aA (List.getElem?_eq_getElem hk);rw [al] at f';cases f';have hblk:∃ t,Fs t b:=⟨_,l2 b (hS.DB aA al)⟩;refine .bn (us:=λaf=>(w.cell? ⟨b,k+af,none⟩).getD undef) (λ_ h=>h) (.inr hblk) rfl (λaf jX nh=>?_) (λaf jX nh=>?_) λaf jX nh=>?_
  all_goals
   obtain ⟨gJ,kz,uY,c1,c2,k1,c4,kF⟩:=cell af (List.getElem?_eq_some_iff.1 nh).1
  ·simpa [c1] using c2
  ·simp [c1]
  ·simpa [c1] using aR af kz jX k1 nh c4 kF ρ'
end
end Go.Own
namespace Go.Own
open Go
def pO (g:a7):List (Place × aj)->a7
 | []=>g
 | (p,x)::l=>pO (dh g p x) l
structure NX (g g2:a7) (all:List aj) (outs:List (Option aj)) (k:Nat) (p:Place) (x:aj):Prop where
 out:outs[k]?=some (some x)
 Ju:cd g2 p=some .dead
 arg:(∃ z n cs,all[k]?=some (.bh z p n)/\cd g p=some (.own z n cs))\/(∃ cs,all[k]?=some (.ptr p 0)/\cd g p=some (.obj cs))
section
variable {P:Program}{w:World}{I:bu}{T:Array Value}{g:a7}{Fs:Nat->bu}
theorem OB (h:dd w I T g Fs) {z n:Nat}{p:Place}{cs:List aj}{v:Value}{F:bu}(bm:R w I (eG w T g) (.bh z p n) v F) (aH:cd g p=some (.own z n cs)):eI w T p=some v:=by
 obtain ⟨⟨a,je,cap,h1,rfl,aS⟩,_⟩:=bm.mI;obtain ⟨pT,pW,hf,hS,l2⟩:=h.part aH (by simp);rw [h1] at hf;cases hf;obtain ⟨a2,qC,kd,_⟩:=hS.mL;cases kd;exact h1
theorem OA (h:dd w I T g Fs) {p:Place}{cs:List aj}{v:Value}{F:bu}(bm:R w I (eG w T g) (.ptr p 0) v F) (aH:cd g p=some (.obj cs)):eI w T p=some v:=by
 obtain ⟨⟨u,ad,h1,al,rfl⟩,_⟩:=bm.ni;obtain ⟨pT,pW,hf,hS,l2⟩:=h.part aH (by simp);rw [h1] at hf;cases hf;cases hS with
 | ref J=>simp [aj.isRef] at J
 | obj=>simp only [addrOf,Option.some.injEq] at al; subst al; exact h1
theorem Vi {g:a7}{p q:Place}{y:aj}(bW:cd g q=some .dead) (aH:cd g p=some .dead) (eL:p≠q):cd (dh g p y) q=some .dead:=by
 by_cases ax:q.root=p.root
 ·obtain ⟨r,pp⟩:=p;obtain ⟨fg,rZ⟩:=q;simp only at ax;subst ax;have C8:pp≠rZ:=λe=>eL (by rw [e]);simp only [cd,dh,if_true] at *;cases J:g fg with
  | none=>rw [J] at aH; cases aH
  | some x =>
   rw [J] at aH bW;simp only [Option.map_some];have:∀ (pp rZ:List Nat) (x:aj),pp≠rZ->x.at pp=some .dead->x.at rZ=some .dead->(x.setAt pp y).at rZ=some .dead:=by
    intro pp
    induction pp with
    | nil =>
     intro rZ x eL h1 al;simp only [aj.at,Option.some.injEq] at h1;subst h1;cases rZ with
     | nil=>exact absurd rfl eL
     | cons k q=>simp [aj.at,aj.kids] at al
    | cons k pp aR =>
     intro rZ x eL h1 al;cases rZ with
     | nil =>
      simp only [aj.at,Option.some.injEq] at al;subst al;simp [aj.at,aj.kids] at h1
     | cons af q =>
      simp only [aj.at] at h1 al;cases hk:x.kids[k]? with
      | none=>rw [hk] at h1; cases h1
      | some c =>
       rw [hk] at h1;simp only at h1;have uf:x.setAt (k::pp) y=x.uO k (c.setAt pp y):=by simp only [aj.setAt,hk]
       rw [uf];have ec:k<x.kids.length:=(List.getElem?_eq_some_iff.1 hk).1;have Gm:(x.uO k (c.setAt pp y)).kids=x.kids.set k (c.setAt pp y):=by
        cases x <;> simp [aj.uO,aj.kids] at ec ⊢
       simp only [aj.at,Gm];by_cases eS:af=k
       ·subst eS;rw [List.getElem?_set_self ec];rw [hk] at al;exact aR q c (λe=>eL (by rw [e])) h1 al
       ·rw [List.getElem?_set_ne (Ne.symm eS)];exact al
   exact this pp rZ x C8 aH bW
 ·rw [D1 ax]; exact bW
theorem jN.pO:∀ (l:List (Place × aj)) (dU:Nat->bu) (vs:Nat->Value) {g:a7}{Fs:Nat->bu},jN w I T g Fs->(l.map (·.1)).Nodup->(∀ (af:Nat) (p:Place) (x:aj),l[af]?=some (p,x)->cd g p=some .dead/\eI w T p=some (vs af)/\R w I (gr w T) x (vs af) (dU af)) ->
  (∀ (af t c:Nat),af<l.length->dU af c->¬ Fs t c)->(∀ (af c:Nat),af<l.length->dU af c->¬ I c)->(∀ (i af c:Nat),i<l.length->af<l.length->dU i c->dU af c->i=af) ->
  ∃ cB,jN w I T (pO g l) cB/\∀ t c,cB t c->Fs t c\/∃ af,af<l.length/\dU af c
 | [],_,_,g,Fs,b5,_,_,_,_,_=>⟨Fs,b5,λ_ _ h=>.inl h⟩
 | (p,x)::l,dU,vs,g,Fs,b5,gv,aq,qb,Ls,mv=>by
  obtain ⟨h1,al,aS⟩:=aq 0 p x rfl;obtain ⟨v,cR,hv,eb,dS,put⟩:=b5.part h1 (by simp);rw [al] at hv;cases hv;obtain ⟨gp,jf,zt,zu⟩:=put x (dU 0) aS (λc ae bp=>absurd bp (qb 0 _ c (by simp) ae)) (λc ae=>Ls 0 c (by simp) ae) (λt c _ ae=>qb 0 t c (by simp) ae);have gT:∀ t c,gp t c->Fs t c\/dU 0 c:=by
   intro t c ae;by_cases aG:t=p.root
   ·subst aG;rcases (zt c).1 ae with ⟨h,_⟩ | h
    ·exact .inl h
    ·exact .inr h
   ·rw [zu t aG] at ae; exact .inl ae
  simp only [List.map_cons,List.nodup_cons] at gv;obtain ⟨jd,im,CQ⟩:=jN.pO l (λaf=>dU (af+1)) (λaf=>vs (af+1)) jf gv.2 (λaf q y aa=>by
    obtain ⟨ar,a2,a3⟩:=aq (af+1) q y (by simpa using aa);refine ⟨Vi ar h1 ?_,a2,a3⟩;rintro rfl;exact gv.1 (List.mem_map.2 ⟨(p,y),List.mem_of_getElem? aa,rfl⟩))
   (λaf t c aa ae bp=>by
    rcases gT t c bp with h | h
    ·exact qb (af+1) t c (by simpa using aa) ae h
    ·have:=mv (af+1) 0 c (by simpa using aa) (by simp) ae h; omega)
   (λaf c aa ae=>Ls (af+1) c (by simpa using aa) ae)
   (λi af c hi aa h1 al=>by have:=mv (i+1) (af+1) c (by simpa using hi) (by simpa using aa) h1 al; omega)
  refine ⟨jd,im,λt c ae=>?_⟩;rcases CQ t c ae with h | ⟨af,aa,h⟩
  ·rcases gT t c h with h | h
   ·exact .inl h
   ·exact .inr ⟨0,by simp,h⟩
  ·exact .inr ⟨af+1,by simpa using aa,h⟩
end
end Go.Own
namespace Go.Own
open Go
inductive jK:aj->aj->Prop
 | refl {x:aj}:jK x x
 | HH {z:Nat}:jK .aF (.own z 0 [])
 | qZ {x y:aj}(aP:dn x) (h:View (λ_=>none) x y):jK x y
 | own {z n:Nat}{cs cs':List aj}(aq:cs'.length=cs.length) (h:∀ (k:Nat) (x y:aj),cs[k]?=some x->cs'[k]?=some y->jK x y):jK (.own z n cs) (.own z n cs')
 | obj {cs cs':List aj}(aq:cs'.length=cs.length) (h:∀ (k:Nat) (x y:aj),cs[k]?=some x->cs'[k]?=some y->jK x y):jK (.obj cs) (.obj cs')
 | agg {cs cs':List aj}(aq:cs'.length=cs.length) (h:∀ (k:Nat) (x y:aj),cs[k]?=some x->cs'[k]?=some y->jK x y):jK (.agg cs) (.agg cs')
theorem View.up {g g':a7}(h:∀ t x,g t=some x->g' t=some x) {x y:aj}(hv:View g x y):View g' x y:=by
 induction hv with
 | pK=>exact .pK
 | self h1 al aS b7 dv eC=>exact .self h1 al aS b7 dv eC
 | mp=>exact .mp
 | i' aH=>exact .i' (kE h aH)
 | agg aq _ aR=>exact .agg aq aR
 | own aq _ aR=>exact .own aq aR
 | obj aq _ aR=>exact .obj aq aR
 | eB aq _ aR=>exact .eB aq aR
 | bh aH aP aq _ aR=>exact .bh (kE h aH) aP aq aR
 | sub aH aP aq _ aR=>exact .sub (kE h aH) aP aq aR
 | ptr aH aA hk aq _ aR=>exact .ptr (kE h aH) aA hk aq aR
 | rows aH aq _ aR=>exact .rows (aH.mono (λaH=>kE h aH) h) aq aR
theorem vW {cs cs':List aj}(aq:cs'.length=cs.length) (aP:∀ x∈cs,dn x) (aR:∀ (k:Nat) (x y:aj),cs[k]?=some x->cs'[k]?=some y->dn x->dn y):∀ y∈cs',dn y:=by
 intro y aA;obtain ⟨k,hk⟩:=List.getElem?_of_mem aA;have ec:=(List.getElem?_eq_some_iff.1 hk).1;have J:=List.getElem?_eq_getElem (aq ▸ ec:k<cs.length);exact aR k _ y J hk (aP _ (List.mem_of_getElem? J))
section
variable {w:World}{I:bu}
theorem R.qZ {ρ:aj->Value->Prop}{x y:aj}{v:Value}{F:bu}(bm:R w I ρ x v F) (aP:dn x) (h:View (λ_=>none) x y) (bt:∀ c,F c->¬ I c) (bg:∀ c,I c->c<w.heap.size):R w (λc=>I c\/F c) ρ y v c0:=by
 have b5:jN w I #[v] (λt=>if t=0 then some x else none) (λt c=>t=0/\F c):=by
  refine ⟨λt z bH=>?_,λt aG c ae=>?_,λt dD c ae fz=>ae.1.trans fz.1.symm,λt c ae=>bt c ae.2,bg⟩
  ·by_cases bf:t=0
   ·subst bf;rw [if_pos rfl] at bH;cases bH;exact ⟨v,rfl,.tree ((bm.bP aP).xi λc=>⟨λh=>⟨rfl,h⟩,λh=>h.2⟩)⟩
   ·rw [if_neg bf] at bH; cases bH
  ·rw [if_pos ae.1] at aG; cases aG
 have:=View.Nj b5 (h.up λ_ _ h=>by cases h) (bm.bP aP) (λc ae=>⟨0,rfl,ae⟩) ρ;exact this.nm λc ae=>by
  rcases ae with h | ⟨t,_,h⟩
  ·exact .inl h
  ·exact .inr h
theorem jK.bP {x y:aj}(h:jK x y):dn x->dn y:=by
 induction h with
 | refl=>exact id
 | HH=>exact λ_=>.own (by simp)
 | qZ aP h =>
  intro _;have key:∀ {x y:aj},View (λ_=>none) x y->dn x->dn y:=by
   intro x y h
   induction h with
   | pK=>exact λ_=>.aD (by simp)
   | self h=>exact λ_=>h
   | mp=>exact λ_=>.imp
   | i' aH=>simp [cd] at aH
   | agg aq _ aR=>intro aP; cases aP with | agg aP=>exact .agg (vW aq aP aR)
   | own aq _ aR=>intro aP; cases aP with | own aP=>exact .aD (vW aq aP aR)
   | obj aq _ aR=>intro aP; cases aP with | obj aP=>exact .bn (vW aq aP aR)
   | eB aq _ aR=>intro aP; cases aP with | eB h1 al=>exact .eB h1 (vW aq al aR)
   | bh aH=>simp [cd] at aH
   | sub aH=>simp [cd] at aH
   | ptr aH=>simp [cd] at aH
   | rows aH =>
    cases aH with
    | own aH=>simp [cd] at aH
    | bY aG=>cases aG
  exact key h aP
 | own aq _ aR=>intro aP; cases aP with | own aP=>exact .own (vW aq aP aR)
 | obj aq _ aR=>intro aP; cases aP with | obj aP=>exact .obj (vW aq aP aR)
 | agg aq _ aR=>intro aP; cases aP with | agg aP=>exact .agg (vW aq aP aR)
theorem Fu {ρ:aj->Value->Prop}{cs cs':List aj}{get:Nat->Option Value}{Fs:Nat->bu}{F B:bu}(aq:cs'.length=cs.length)
  (bb:∀ k,k<cs.length->∃ u,get k=some u)
  (aZ:∀ (af k c:Nat),af<cs.length->k<cs.length->Fs af c->Fs k c->af=k) (aJ:∀ k c,k<cs.length->Fs k c->¬ B c) (aQ:∀ c,F c↔B c\/∃ k,k<cs.length/\Fs k c)
  (aR:∀ (k:Nat) (x y:aj),cs[k]?=some x->cs'[k]?=some y->∀ u,get k=some u->∃ gg,(∀ c,gg c->Fs k c)/\R w (λc=>I c\/(Fs k c/\¬ gg c)) ρ y u gg) :
  ∃ rm:Nat->bu,(∀ k c,k<cs'.length->rm k c->Fs k c)/\(∀ (k:Nat) (y:aj) (u:Value),cs'[k]?=some y->get k=some u->R w (λc=>I c\/(F c/\¬ (B c\/∃ af,af<cs'.length/\rm af c))) ρ y u (rm k)):=by
 have:∀ k,∃ G:bu,k<cs.length->(∀ c,G c->Fs k c)/\∀ (y:aj) (u:Value),cs'[k]?=some y->get k=some u->R w (λc=>I c\/(Fs k c/\¬ G c)) ρ y u G:=by
  intro k;by_cases hk:k<cs.length
  ·have J:=List.getElem?_eq_getElem hk;have aA:=List.getElem?_eq_getElem (aq ▸ hk:k<cs'.length);obtain ⟨u,hu⟩:=bb k hk;obtain ⟨G,h1,al⟩:=aR k _ _ J aA u hu;refine ⟨G,λ_=>⟨h1,λy td mH fP=>?_⟩⟩;rw [aA] at mH; cases mH;rw [hu] at fP; cases fP;exact al
  ·exact ⟨c0,λh=>absurd h hk⟩
 obtain ⟨rm,FG⟩:=Classical.axiomOfChoice this;refine ⟨rm,λk c hk=>(FG k (aq ▸ hk)).1 c,λk y u aA hu=>?_⟩;have hk:k<cs'.length:=(List.getElem?_eq_some_iff.1 aA).1;have iD:k<cs.length:=aq ▸ hk;refine ((FG k iD).2 y u aA hu).nm λc ae=>?_;rcases ae with h | ⟨h1,al⟩
 ·exact .inl h
 ·refine .inr ⟨(aQ c).2 (.inr ⟨k,iD,h1⟩),?_⟩;rintro (h | ⟨af,aa,h⟩)
  ·exact aJ k c iD h1 h
  ·have t':af<cs.length:=aq ▸ aa;have:=aZ af k c t' iD ((FG af t').1 c h) h1;subst this;exact al h
theorem R.e7 {ρ:aj->Value->Prop}{x y:aj}(h:jK x y):∀ {v:Value}{F:bu},R w I ρ x v F->dn x->(∀ c,F c->¬ I c)->(∀ c,I c->c<w.heap.size)->∃ gg,(∀ c,gg c->F c)/\R w (λc=>I c\/(F c/\¬ gg c)) ρ y v gg:=by
 induction h with
 | refl=>exact λbm _ _ _=>⟨_,λ_ h=>h,bm.nm λ_ h=>.inl h⟩
 | HH =>
  intro v F bm _ _ _;have:=bm.q0;subst this;refine ⟨c0,λ_ h=>h.elim,.own (e:=0) (us:=[]) (Fs:=λ_=>c0) ⟨by simp,.inl ⟨rfl,rfl⟩⟩ rfl (by simp) (by simp) (λ_ _ _ _ _ h=>h.elim) (λ_ _ _ h=>h.elim) λc=>⟨λh=>h.elim,λh=>?_⟩⟩;rcases h with h | ⟨_,_,h⟩
  ·cases h
  ·exact h
 | qZ aP h=>exact λbm _ bt bg=>⟨c0,λ_ h=>h.elim,(bm.qZ aP h bt bg).nm λc ae=>ae.elim .inl λh=>.inr ⟨h,λh=>h⟩⟩
 | @own z n cs cs' aq _ aR =>
  intro v F bm aP bt bg;cases bm with
  | ref J=>simp [aj.isRef] at J
  | @own _ _ _ _ e us Fs _ bj ic h1 ax aZ aJ aQ =>
   cases aP with
   | own aP =>
    obtain ⟨rm,px,zv⟩:=Fu (get:=λk=>us[k]?) (B:=λc=>v.ownBlock=some c) aq (λk hk=>⟨_,List.getElem?_eq_getElem (ic ▸ hk)⟩) aZ (λk c hk ae e=>aJ k c hk ae e) aQ (λk x y J aA u hu=>aR k x y J aA (ax k x u J hu) (aP x (List.mem_of_getElem? J)) (λc ae=>bt c ((aQ c).2 (.inr ⟨k,(List.getElem?_eq_some_iff.1 J).1,ae⟩))) bg);exact ⟨_,λc ae=>(aQ c).2 (ae.imp id λ⟨k,hk,h⟩=>⟨k,aq ▸ hk,px k c hk h⟩),
     .own bj (by rw [aq,ic]) h1 (λk y u aA hu=>zv k y u aA hu) (λaf k c aa hk al aS=>aZ af k c (aq ▸ aa) (aq ▸ hk) (px af c aa al) (px k c hk aS)) (λk c hk ae=>aJ k c (aq ▸ hk) (px k c hk ae)) (λc=>Iff.rfl)⟩
 | @obj cs cs' aq _ aR =>
  intro v F bm aP bt bg;cases bm with
  | ref J=>simp [aj.isRef] at J
  | @obj _ b e arr Fs _ bj ic h1 ax aZ aJ aQ =>
   cases aP with
   | obj aP =>
    obtain ⟨rm,px,zv⟩:=Fu (get:=λk=>arr[k]?) (B:=λc=>c=b) aq (λk hk=>⟨_,Array.getElem?_eq_getElem (ic ▸ hk)⟩) aZ (λk c hk ae e=>aJ k hk (e ▸ ae)) aQ (λk x y J aA u hu=>aR k x y J aA (ax k x u J hu) (aP x (List.mem_of_getElem? J)) (λc ae=>bt c ((aQ c).2 (.inr ⟨k,(List.getElem?_eq_some_iff.1 J).1,ae⟩))) bg);exact ⟨_,λc ae=>(aQ c).2 (ae.imp id λ⟨k,hk,h⟩=>⟨k,aq ▸ hk,px k c hk h⟩),
     .obj bj (by rw [aq,ic]) h1 (λk y u aA hu=>zv k y u aA hu) (λaf k c aa hk al aS=>aZ af k c (aq ▸ aa) (aq ▸ hk) (px af c aa al) (px k c hk aS)) (λk hk ae=>aJ k (aq ▸ hk) (px k b hk ae)) (λc=>Iff.rfl)⟩
 | @agg cs cs' aq _ aR =>
  intro v F bm aP bt bg;cases bm with
  | ref J=>simp [aj.isRef] at J
  | @agg _ vs Fs _ ic h1 ax aZ aQ =>
   cases aP with
   | agg aP =>
    obtain ⟨rm,px,zv⟩:=Fu (get:=λk=>vs[k]?) (B:=λ_=>False) aq (λk hk=>⟨_,Array.getElem?_eq_getElem (ic ▸ hk)⟩) aZ (λk c hk ae e=>e) (λc=>(aQ c).trans ⟨.inr,λh=>h.elim (λh=>h.elim) id⟩) (λk x y J aA u hu=>aR k x y J aA (ax k x u J hu) (aP x (List.mem_of_getElem? J)) (λc ae=>bt c ((aQ c).2 ⟨k,(List.getElem?_eq_some_iff.1 J).1,ae⟩)) bg);refine ⟨λc=>∃ k,k<cs'.length/\rm k c,λc ⟨k,hk,h⟩=>(aQ c).2 ⟨k,aq ▸ hk,px k c hk h⟩,
     .agg (Fs:=rm) (by rw [aq,ic]) h1 (λk y u aA hu=>(zv k y u aA hu).nm λc ae=>ae.imp id λ⟨h1,al⟩=>⟨h1,λh=>al (.inr h)⟩) (λaf k c aa hk al aS=>aZ af k c (aq ▸ aa) (aq ▸ hk) (px af c aa al) (px k c hk aS)) (λc=>Iff.rfl)⟩
end
end Go.Own
