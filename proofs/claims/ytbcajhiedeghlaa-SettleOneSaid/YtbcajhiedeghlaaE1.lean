/-
  What is proved here: parts of the proof that the last text states: rules for walks through code, and of this program's functions what they answer. No condition of their own.
-/
import Derived.Orders
import Derived.WalkKit
namespace Go.Own
open Go
structure Place where
 root:Nat
 path:List Nat
 deriving DecidableEq,Repr
def Place.push (p:Place) (k:Nat):Place:=⟨p.root,p.path++[k]⟩
inductive ag where
 | lit (v:Value)
 | aJ
 | aD (z n:Nat) (cs:List ag)
 | own (z n:Nat) (cs:List ag)
 | obj (cs:List ag)
 | agg (cs:List ag)
 | cw (cs:List ag)
 | bn (cs:List ag)
 | ptr (p:Place) (k:Nat)
 | bm (z:Nat) (p:Place) (n:Nat)
 | sub (z:Nat) (p:Place) (lo n:Nat)
 | b2 (z:Nat) (p:Place) (n m:Nat) (new:List ag)
 | ef (fn:Fn) (first caps:List ag)
 | mp (p:Array MapEntry->Nat->Prop)
 | iK (p:Place)
 | imp (p:Array MapEntry->Nat->Prop)
 | dead
 deriving Inhabited
abbrev bt:=Nat->Prop
def ag.isRef:ag->Bool
 | .ptr .. | .bm .. | .sub .. | .iK ..=>true
 | _=>false
inductive R (w:World) (I:bt) (ρ:ag->Value->Prop):ag->Value->bt->Prop
 | lit {v:Value}{F:bt}(hv:v.oneCell'=true) (aQ:∀ c,¬ F c):R w I ρ (.lit v) v F
 | aJ {F:bt}(aQ:∀ c,¬ F c):R w I ρ .aJ (.slice none 0 0) F
 | dead {v:Value}{F:bt}(aQ:∀ c,¬ F c):R w I ρ .dead v F
 | ref {x:ag}{v:Value}{F:bt}(J:x.isRef=true) (h:ρ x v) (aQ:∀ c,¬ F c):R w I ρ x v F
 | hM {z cap:Nat}{a:Option Addr}{F:bt}(aQ:∀ c,¬ F c):R w I ρ (.aD z 0 []) (.slice a 0 cap) F
 | aD {z n cap:Nat}{cs:List ag}{ad:Addr}{us:Nat->Value}{F:bt}(aQ:∀ c,¬ F c) (kM:n<=cap) (bs:I ad.block) (aP:ad.spot=none) (ao:cs.length=n * z) (h1:∀ (k:Nat) (x:ag),cs[k]?=some x->(us k).oneCell'=true)
   (ab:∀ (k:Nat) (x:ag),cs[k]?=some x->w.cell? ⟨ad.block,ad.off+k,none⟩=some (us k)) (aw:∀ (k:Nat) (x:ag),cs[k]?=some x->R w I ρ x (us k) (λ_=>False)) :
   R w I ρ (.aD z n cs) (.slice (some ad) n cap) F
 | bn {cs:List ag}{ad:Addr}{us:Nat->Value}{F:bt}(aQ:∀ c,¬ F c) (bs:I ad.block) (aP:ad.spot=none) (h1:∀ (k:Nat) (x:ag),cs[k]?=some x->(us k).oneCell'=true)
   (ab:∀ (k:Nat) (x:ag),cs[k]?=some x->w.cell? ⟨ad.block,ad.off+k,none⟩=some (us k)) (aw:∀ (k:Nat) (x:ag),cs[k]?=some x->R w I ρ x (us k) (λ_=>False)) :
   R w I ρ (.bn cs) (.pointer (some ad)) F
 | own {z n:Nat}{cs:List ag}{v:Value}{e:TypeId}{us:List Value}{Fs:Nat->bt}{F:bt}
   (bf:w.ownsRow 0 e z v n us) (ao:cs.length=us.length) (h1:∀ (k:Nat) (u:Value),us[k]?=some u->u.oneCell'=true)
   (aw:∀ (k:Nat) (x:ag) (u:Value),cs[k]?=some x->us[k]?=some u->R w I ρ x u (Fs k))
   (aV:∀ (ae k c:Nat),ae<cs.length->k<cs.length->Fs ae c->Fs k c->ae=k) (aI:∀ (k c:Nat),k<cs.length->Fs k c->v.ownBlock≠some c)
   (aQ:∀ c,F c↔v.ownBlock=some c\/∃ k,k<cs.length/\Fs k c):R w I ρ (.own z n cs) v F
 | obj {cs:List ag}{b:Nat}{e:TypeId}{arr:Array Value}{Fs:Nat->bt}{F:bt}
   (bf:w.heap[b]?=some (.cells arr e (0,0))) (ao:cs.length=arr.size) (h1:∀ (k:Nat) (u:Value),arr[k]?=some u->u.oneCell'=true)
   (aw:∀ (k:Nat) (x:ag) (u:Value),cs[k]?=some x->arr[k]?=some u->R w I ρ x u (Fs k))
   (aV:∀ (ae k c:Nat),ae<cs.length->k<cs.length->Fs ae c->Fs k c->ae=k) (aI:∀ (k:Nat),k<cs.length->¬ Fs k b)
   (aQ:∀ c,F c↔c=b\/∃ k,k<cs.length/\Fs k c):R w I ρ (.obj cs) (.pointer (some ⟨b,0,none⟩)) F
 | agg {cs:List ag}{vs:Array Value}{Fs:Nat->bt}{F:bt}(ao:cs.length=vs.size) (h1:∀ (k:Nat) (u:Value),vs[k]?=some u->u.oneCell'=true)
   (aw:∀ (k:Nat) (x:ag) (u:Value),cs[k]?=some x->vs[k]?=some u->R w I ρ x u (Fs k))
   (aV:∀ (ae k c:Nat),ae<cs.length->k<cs.length->Fs ae c->Fs k c->ae=k)
   (aQ:∀ c,F c↔∃ k,k<cs.length/\Fs k c):R w I ρ (.agg cs) (.agg vs) F
 | cw {cs:List ag}{vs:Array Value}{Fs:Nat->bt}{F:bt}(ao:cs.length=vs.size)
   (aw:∀ (k:Nat) (x:ag) (u:Value),cs[k]?=some x->vs[k]?=some u->R w I ρ x u (Fs k))
   (aV:∀ (ae k c:Nat),ae<cs.length->k<cs.length->Fs ae c->Fs k c->ae=k)
   (aQ:∀ c,F c↔∃ k,k<cs.length/\Fs k c):R w I ρ (.cw cs) (.tuple vs) F
 | ef {fn:Fn}{first caps:List ag}{v1 v2:Array Value}{F:bt}(aQ:∀ c,¬ F c) (h1:first.length=v1.size) (al:caps.length=v2.size)
   (jK:∀ (k:Nat) (x:ag) (u:Value),first[k]?=some x->v1[k]?=some u->R w I ρ x u (λ_=>False))
   (iy:∀ (k:Nat) (x:ag) (u:Value),caps[k]?=some x->v2[k]?=some u->R w I ρ x u (λ_=>False)):R w I ρ (.ef fn first caps) (.func fn v1 v2) F
 | mp {p:Array MapEntry->Nat->Prop}{b:Nat}{es:Array MapEntry}{clock:Nat}{F:bt}(bf:w.heap[b]?=some (.map es clock)) (aF:p es clock) (aQ:∀ c,F c↔c=b):R w I ρ (.mp p) (.map (some b)) F
 | imp {p:Array MapEntry->Nat->Prop}{b:Nat}{es:Array MapEntry}{clock:Nat}{F:bt}(aQ:∀ c,¬ F c) (bs:I b) (bf:w.heap[b]?=some (.map es clock)) (aF:p es clock):R w I ρ (.imp p) (.map (some b)) F
theorem R.wP {w:World}{I:bt}{ρ:ag->Value->Prop}{x:ag}{v:Value}{F fU:bt}(h:R w I ρ x v F) (aQ:∀ c,F c↔fU c):R w I ρ x v fU:=by
 have:F=fU:=funext λc=>propext (aQ c)
 exact this ▸ h
theorem R.lt {w:World}{I:bt}{ρ:ag->Value->Prop}{x:ag}{v:Value}{F:bt}(h:R w I ρ x v F):∀ c,F c->c<w.heap.size:=by
 induction h with
 | lit _ aQ | aJ aQ | dead aQ | ref _ _ aQ | hM aQ | aD aQ | bn aQ | ef aQ | imp aQ=>exact λc ab=>absurd ab (aQ c)
 | mp bf _ aQ=>exact λc ab=>by rw [(aQ c).1 ab]; exact (Array.getElem?_eq_some_iff.1 bf).1
 | own bf ao h1 aw aV aI aQ aS =>
  intro c ab
  rcases (aQ c).1 ab with h | ⟨k,hk,h⟩
  ·exact (bf.lt c h).2
  ·exact aS k _ _ (List.getElem?_eq_getElem hk) (List.getElem?_eq_getElem (ao ▸ hk)) c h
 | obj bf ao h1 aw aV aI aQ aS =>
  intro c ab
  rcases (aQ c).1 ab with rfl | ⟨k,hk,h⟩
  ·exact (Array.getElem?_eq_some_iff.1 bf).1
  ·exact aS k _ _ (List.getElem?_eq_getElem hk) (Array.getElem?_eq_getElem (ao ▸ hk)) c h
 | agg ao h1 aw aV aQ aS =>
  intro c ab
  obtain ⟨k,hk,h⟩:=(aQ c).1 ab
  exact aS k _ _ (List.getElem?_eq_getElem hk) (Array.getElem?_eq_getElem (ao ▸ hk)) c h
 | cw ao aw aV aQ aS =>
  intro c ab
  obtain ⟨k,hk,h⟩:=(aQ c).1 ab
  exact aS k _ _ (List.getElem?_eq_getElem hk) (Array.getElem?_eq_getElem (ao ▸ hk)) c h
theorem tO {w w':World}{e:TypeId}{z n:Nat}{v:Value}{us:List Value}(h:w.ownsRow 0 e z v n us) (aI:∀ c,v.ownBlock=some c->w'.heap[c]?=w.heap[c]?):w'.ownsRow 0 e z v n us:=by
 obtain ⟨h1,al⟩:=h
 refine ⟨h1,?_⟩
 rcases al with al | ⟨g,cap,cur,rfl,a7,b9,rest⟩
 ·exact .inl al
 ·exact .inr ⟨g,cap,cur,rfl,a7,by rw [aI g rfl]; exact b9,rest⟩
theorem R.frame {w w':World}{I I':bt}{ρ ρ':ag->Value->Prop}{x:ag}{v:Value}{F:bt}(h:R w I ρ x v F)
  (bs:∀ c,I c->w'.heap[c]?=w.heap[c]?) (n3:∀ c,I c->I' c) (k9:∀ x v,ρ x v->ρ' x v) :
  (∀ c,F c->w'.heap[c]?=w.heap[c]?)->R w' I' ρ' x v F:=by
 induction h with
 | lit hv aQ=>exact λ_=>.lit hv aQ
 | aJ aQ=>exact λ_=>.aJ aQ
 | dead aQ=>exact λ_=>.dead aQ
 | ref J h aQ=>exact λ_=>.ref J (k9 _ _ h) aQ
 | hM aQ=>exact λ_=>.hM aQ
 | aD aQ kM hi aP ao h1 ab aw aS =>
  exact λ_=>.aD aQ kM (n3 _ hi) aP ao h1 (λk x hk=>(World.cell?_of_block (a:=⟨_,_,none⟩) (bs _ hi)).trans (ab k x hk)) λk x hk=>aS k x hk (λc ab=>ab.elim)
 | bn aQ hi aP h1 ab aw aS =>
  exact λ_=>.bn aQ (n3 _ hi) aP h1 (λk x hk=>(World.cell?_of_block (a:=⟨_,_,none⟩) (bs _ hi)).trans (ab k x hk)) λk x hk=>aS k x hk (λc ab=>ab.elim)
 | own bf ao h1 aw aV aI aQ aS =>
  intro bj
  refine .own (tO bf λc ab=>bj c ((aQ c).2 (.inl ab))) ao h1 (λk x u J hu=>aS k x u J hu λc ab=>bj c ((aQ c).2 (.inr ⟨k,?_,ab⟩))) aV aI aQ
  exact (List.getElem?_eq_some_iff.1 J).1
 | obj bf ao h1 aw aV aI aQ aS =>
  intro bj
  refine .obj ((bj _ ((aQ _).2 (.inl rfl))).trans bf) ao h1 (λk x u J hu=>aS k x u J hu λc ab=>bj c ((aQ c).2 (.inr ⟨k,?_,ab⟩))) aV aI aQ
  exact (List.getElem?_eq_some_iff.1 J).1
 | agg ao h1 aw aV aQ aS =>
  intro bj
  refine .agg ao h1 (λk x u J hu=>aS k x u J hu λc ab=>bj c ((aQ c).2 ⟨k,?_,ab⟩)) aV aQ
  exact (List.getElem?_eq_some_iff.1 J).1
 | cw ao aw aV aQ aS =>
  intro bj
  refine .cw ao (λk x u J hu=>aS k x u J hu λc ab=>bj c ((aQ c).2 ⟨k,?_,ab⟩)) aV aQ
  exact (List.getElem?_eq_some_iff.1 J).1
 | imp aQ hi bf aF=>exact λ_=>.imp aQ (n3 _ hi) ((bs _ hi).trans bf) aF
 | mp bf aF aQ=>exact λbj=>.mp ((bj _ ((aQ _).2 rfl)).trans bf) aF aQ
 | ef aQ h1 al jK iy gl gf=>exact λ_=>.ef aQ h1 al (λk x u J hu=>gl k x u J hu λc ab=>ab.elim) (λk x u J hu=>gf k x u J hu λc ab=>ab.elim)
def ag.kids:ag->List ag
 | .own _ _ cs=>cs
 | .obj cs=>cs
 | .agg cs=>cs
 | .cw cs=>cs
 | _=>[]
def ag.ua (x:ag) (k:Nat) (y:ag):ag :=
 match x with
 | .own z n cs=>.own z n (cs.set k y)
 | .obj cs=>.obj (cs.set k y)
 | .agg cs=>.agg (cs.set k y)
 | .cw cs=>.cw (cs.set k y)
 | x=>x
def ag.at:ag->List Nat->Option ag
 | x,[]=>some x
 | x,k::p =>
  match x.kids[k]? with
  | some c=>c.at p
  | none=>none
def ag.setAt:ag->List Nat->ag->ag
 | _,[],y=>y
 | x,k::p,y =>
  match x.kids[k]? with
  | some c=>x.ua k (c.setAt p y)
  | none=>x
def child (w:World) (v:Value) (k:Nat):Option Value :=
 match v with
 | .agg cs=>cs[k]?
 | .tuple cs=>cs[k]?
 | .slice (some a) _ _=>w.cell? ⟨a.block,a.off+k,none⟩
 | .pointer (some a)=>w.cell? ⟨a.block,a.off+k,none⟩
 | _=>none
def walk (w:World):Value->List Nat->Option Value
 | v,[]=>some v
 | v,k::p =>
  match child w v k with
  | some u=>walk w u p
  | none=>none
theorem nH {w:World}{e:TypeId}{z n:Nat}{v:Value}{us:List Value}(h:w.ownsRow 0 e z v n us) {k:Nat}{u:Value}(hu:us[k]?=some u):child w v k=some u:=by
 obtain ⟨h1,al⟩:=h
 rcases al with ⟨rfl,rfl⟩ | ⟨g,cap,cur,rfl,a7,b9,aN,ab,aP,aG⟩
 ·simp at h1; subst h1; simp at hu
 ·rw [<- aG] at hu
  rw [List.getElem?_take] at hu
  split at hu
  ·simpa [child,World.cell?,b9] using hu
  ·cases hu
theorem TW {α:Type}{l:List α}{k ae:Nat}{y x:α}(h:(l.set k y)[ae]?=some x):(ae=k/\x=y/\k<l.length)\/(ae≠k/\l[ae]?=some x):=by
 by_cases eM:ae=k
 ·subst eM
  by_cases bd:ae<l.length
  ·rw [List.getElem?_set_self bd] at h; exact .inl ⟨rfl,(Option.some.inj h).symm,bd⟩
  ·rw [List.set_eq_of_length_le (by omega)] at h; rw [List.getElem?_eq_none (by omega)] at h; cases h
 ·rw [List.getElem?_set_ne (Ne.symm eM)] at h; exact .inr ⟨eM,h⟩
structure Out (w w':World) (I I':bt) (ρ ρ':ag->Value->Prop) (F cJ:bt):Prop where
 aD:∀ c,I c->w'.heap[c]?=w.heap[c]?
 rest:∀ c,F c->¬ cJ c->w'.heap[c]?=w.heap[c]?
 more:∀ c,I c->I' c
 ref:∀ x v,ρ x v->ρ' x v
theorem Out.mono {w w':World}{I I':bt}{ρ ρ':ag->Value->Prop}{F cJ fU ja:bt}(h:Out w w' I I' ρ ρ' F cJ) (h1:∀ c,fU c->F c) (al:∀ c,fU c->¬ ja c->¬ cJ c):Out w w' I I' ρ ρ' fU ja :=
 ⟨h.aD,λc ab aN=>h.rest c (h1 c ab) (al c ab aN),h.more,h.ref⟩
theorem R.outside {w w':World}{I I':bt}{ρ ρ':ag->Value->Prop}{F cJ:bt}(o:Out w w' I I' ρ ρ' F cJ) {x:ag}{v:Value}{G:bt}(h:R w I ρ x v G) (eh:∀ c,G c->F c/\¬ cJ c):R w' I' ρ' x v G :=
 h.frame o.aD o.more o.ref λc ab=>o.rest c (eh c ab).1 (eh c ab).2
theorem CD {w w':World}{I I':bt}{ρ ρ':ag->Value->Prop}{cs:List ag}{get:Nat->Option Value}{Fs:Nat->bt}{F cJ:bt}
  (aw:∀ (k:Nat) (x:ag) (u:Value),cs[k]?=some x->get k=some u->R w I ρ x u (Fs k))
  (aV:∀ (ae k c:Nat),ae<cs.length->k<cs.length->Fs ae c->Fs k c->ae=k)
  (aQ:∀ k c,k<cs.length->Fs k c->F c) {k:Nat}(hk:k<cs.length) (ay:∀ c,cJ c->Fs k c) (o:Out w w' I I' ρ ρ' F cJ)
  {y:ag}{u:Value}{bR:bt}(hu:get k=some u) (bh:R w' I' ρ' y u bR) (e9:∀ c,bR c↔(Fs k c/\¬ cJ c)\/(bR c/\¬ (F c/\¬ cJ c))) :
  (∀ (ae:Nat) (x:ag) (u:Value),(cs.set k y)[ae]?=some x->get ae=some u->R w' I' ρ' x u (if ae=k then bR else Fs ae)) /\
  (∀ (i ae c:Nat),i<(cs.set k y).length->ae<(cs.set k y).length->(if i=k then bR else Fs i) c->(if ae=k then bR else Fs ae) c->i=ae):=by
 constructor
 ·intro ae x sM J fG
  rcases TW J with ⟨rfl,rfl,bd⟩ | ⟨ez,J⟩
  ·rw [if_pos rfl]; rw [hu] at fG; cases fG; exact bh
  ·rw [if_neg ez]
   have aa:ae<cs.length:=(List.getElem?_eq_some_iff.1 J).1
   exact (aw ae x sM J fG).outside o λc ab=>⟨aQ ae c aa ab,λeH=>ez (aV ae k c aa hk ab (ay c eH))⟩
 ·intro i ae c hi aa h1 al
  rw [List.length_set] at hi aa
  by_cases tv:i=k <;> by_cases eM:ae=k
  ·exact tv.trans eM.symm
  ·rw [if_pos tv] at h1; rw [if_neg eM] at al
   exfalso
   have eH:¬ cJ c:=λh=>eM (aV ae k c aa hk al (ay c h))
   rcases (e9 c).1 h1 with ⟨h,_⟩ | ⟨_,h⟩
   ·exact eM (aV ae k c aa hk al h)
   ·exact h ⟨aQ ae c aa al,eH⟩
  ·rw [if_neg tv] at h1; rw [if_pos eM] at al
   exfalso
   have eH:¬ cJ c:=λh=>tv (aV i k c hi hk h1 (ay c h))
   rcases (e9 c).1 al with ⟨h,_⟩ | ⟨_,h⟩
   ·exact tv (aV i k c hi hk h1 h)
   ·exact h ⟨aQ i c hi h1,eH⟩
  ·rw [if_neg tv] at h1; rw [if_neg eM] at al
   exact aV i ae c hi aa h1 al
theorem CE {m:Nat}{Fs:Nat->bt}{bR cJ ja:bt}{k:Nat}(hk:k<m)
  (aV:∀ (ae k c:Nat),ae<m->k<m->Fs ae c->Fs k c->ae=k) (ay:∀ c,cJ c->Fs k c) (e9:∀ c,bR c↔(Fs k c/\¬ cJ c)\/ja c) (c:Nat) :
  (∃ ae,ae<m/\(if ae=k then bR else Fs ae) c)↔((∃ ae,ae<m/\Fs ae c)/\¬ cJ c)\/ja c:=by
 constructor
 ·rintro ⟨ae,aa,h⟩
  by_cases eM:ae=k
  ·rw [if_pos eM] at h
   rcases (e9 c).1 h with ⟨h1,al⟩ | h1
   ·exact .inl ⟨⟨k,hk,h1⟩,al⟩
   ·exact .inr h1
  ·rw [if_neg eM] at h
   exact .inl ⟨⟨ae,aa,h⟩,λeH=>eM (aV ae k c aa hk h (ay c eH))⟩
 ·rintro (⟨⟨ae,aa,h⟩,aN⟩ | h)
  ·by_cases eM:ae=k
   ·subst eM; exact ⟨ae,aa,by rw [if_pos rfl]; exact (e9 c).2 (.inl ⟨h,aN⟩)⟩
   ·exact ⟨ae,aa,by rw [if_neg eM]; exact h⟩
  ·exact ⟨k,hk,by rw [if_pos rfl]; exact (e9 c).2 (.inr h)⟩
theorem R.ov {w w':World}{I:bt}{ρ:ag->Value->Prop}:∀ (r:List Nat) {x:ag}{v:Value}{F:bt}{y:ag},R w I ρ x v F->x.at r=some y ->
  (∀ c,F c->w'.heap[c]?=w.heap[c]?)->walk w' v r=walk w v r
 | [],_,_,_,_,_,_,_=>rfl
 | k::p,x,v,F,y,h,fS,bj=>by
  simp only [ag.at] at fS
  cases hn:x.kids[k]? with
  | none=>rw [hn] at fS; cases fS
  | some q3 =>
   rw [hn] at fS
   simp only at fS
   cases h with
   | @own z n cs _ e us Fs _ bf ao h1 aw aV aI aQ =>
    simp only [ag.kids] at hn
    have hk:k<cs.length:=(List.getElem?_eq_some_iff.1 hn).1
    have hu:us[k]?=some us[k]:=List.getElem?_eq_getElem (ao ▸ hk)
    have ma:=tO (w':=w') bf λc ab=>bj c ((aQ c).2 (.inl ab))
    have:=R.ov (w':=w') p (aw k q3 _ hn hu) fS λc ab=>bj c ((aQ c).2 (.inr ⟨k,hk,ab⟩))
    simp [walk,nH bf hu,nH ma hu,this]
   | @obj cs b e arr Fs _ bf ao h1 aw aV aI aQ =>
    simp only [ag.kids] at hn
    have hk:k<cs.length:=(List.getElem?_eq_some_iff.1 hn).1
    have hu:arr[k]?=some arr[k]:=Array.getElem?_eq_getElem (ao ▸ hk)
    have ma:=(bj b ((aQ b).2 (.inl rfl))).trans bf
    have:=R.ov (w':=w') p (aw k q3 _ hn hu) fS λc ab=>bj c ((aQ c).2 (.inr ⟨k,hk,ab⟩))
    simp [walk,child,World.cell?,bf,ma,hu,this]
   | @agg cs vs Fs _ ao h1 aw aV aQ =>
    simp only [ag.kids] at hn
    have hk:k<cs.length:=(List.getElem?_eq_some_iff.1 hn).1
    have hu:vs[k]?=some vs[k]:=Array.getElem?_eq_getElem (ao ▸ hk)
    have:=R.ov (w':=w') p (aw k q3 _ hn hu) fS λc ab=>bj c ((aQ c).2 ⟨k,hk,ab⟩)
    simp [walk,child,hu,this]
   | @cw cs vs Fs _ ao aw aV aQ =>
    simp only [ag.kids] at hn
    have hk:k<cs.length:=(List.getElem?_eq_some_iff.1 hn).1
    have hu:vs[k]?=some vs[k]:=Array.getElem?_eq_getElem (ao ▸ hk)
    have:=R.ov (w':=w') p (aw k q3 _ hn hu) fS λc ab=>bj c ((aQ c).2 ⟨k,hk,ab⟩)
    simp [walk,child,hu,this]
   | ref J _ _=>cases x <;> simp [ag.isRef,ag.kids] at J hn
   | _=>simp [ag.kids] at hn
theorem R.focus {w:World}{I:bt}{ρ:ag->Value->Prop}:∀ (q:List Nat) {x:ag}{v:Value}{F:bt}{y:ag},R w I ρ x v F->x.at q=some y ->
  ∃ iu cJ,walk w v q=some iu/\R w I ρ y iu cJ/\(∀ c,cJ c->F c) /\
   (∀ (w':World),(∀ c,F c->¬ cJ c->w'.heap[c]?=w.heap[c]?)->walk w' v q=some iu/\∀ r sQ,x.at r=some sQ->(∃ e5,r=q++e5)\/walk w' v r=walk w v r) /\
   ∀ (w':World) (I':bt) (ρ':ag->Value->Prop) (y':ag) (ja:bt),Out w w' I I' ρ ρ' F cJ->R w' I' ρ' y' iu ja->(∀ c,ja c->F c->cJ c) ->
    ∃ fU,R w' I' ρ' (x.setAt q y') v fU/\∀ c,fU c↔(F c/\¬ cJ c)\/ja c
 | [],x,v,F,y,h,fS=>by
  simp only [ag.at,Option.some.injEq] at fS
  subst fS
  exact ⟨v,F,rfl,h,λ_ h=>h,λ_ _=>⟨rfl,λr _ _=>.inl ⟨r,rfl⟩⟩,λw' I' ρ' y' ja _ bh _=>⟨ja,bh,λc=>by simp⟩⟩
 | k::p,x,v,F,y,h,fS=>by
  simp only [ag.at] at fS
  cases hn:x.kids[k]? with
  | none=>rw [hn] at fS; cases fS
  | some q3 =>
   rw [hn] at fS
   simp only at fS
   have tC:∀ y',x.setAt (k::p) y'=x.ua k (q3.setAt p y'):=λy'=>by simp [ag.setAt,hn]
   cases h with
   | @own z n cs _ e us Fs _ bf ao h1 aw aV aI aQ =>
    simp only [ag.kids] at hn
    have hk:k<cs.length:=(List.getElem?_eq_some_iff.1 hn).1
    have hu:us[k]?=some us[k]:=List.getElem?_eq_getElem (ao ▸ hk)
    obtain ⟨iu,cJ,hw,dQ,dz,fW,kx⟩:=R.focus p (aw k q3 _ hn hu) fS
    refine ⟨iu,cJ,by simp [walk,nH bf hu,hw],dQ,λc ab=>(aQ c).2 (.inr ⟨k,hk,dz c ab⟩),?_,?_⟩
    ·intro w' aP
     have n':∀ ae c,ae<cs.length->Fs ae c->¬ cJ c->w'.heap[c]?=w.heap[c]?:=λae c aa ab aN=>aP c ((aQ c).2 (.inr ⟨ae,aa,ab⟩)) aN
     obtain ⟨jq,ia⟩:=fW w' λc ab aN=>n' k c hk ab aN
     have ma:=tO (w':=w') bf λc ab=>aP c ((aQ c).2 (.inl ab)) λeH=>aI k c hk (dz c eH) ab
     refine ⟨by simp [walk,nH ma hu,jq],?_⟩
     intro r sQ eQ
     cases r with
     | nil=>exact .inr rfl
     | cons ae r =>
      simp only [ag.at,ag.kids] at eQ
      cases aa:cs[ae]? with
      | none=>rw [aa] at eQ; cases eQ
      | some uC =>
       rw [aa] at eQ
       simp only at eQ
       have fg:ae<cs.length:=(List.getElem?_eq_some_iff.1 aa).1
       have pJ:us[ae]?=some us[ae]:=List.getElem?_eq_getElem (ao ▸ fg)
       by_cases eM:ae=k
       ·subst eM
        rw [hn] at aa
        cases aa
        rcases ia r sQ eQ with ⟨e5,rfl⟩ | h
        ·exact .inl ⟨e5,rfl⟩
        ·exact .inr (by simp [walk,nH bf hu,nH ma hu,h])
       ·have h:=R.ov (w':=w') r (aw ae uC _ aa pJ) eQ λc ab=>n' ae c fg ab λeH=>eM (aV ae k c fg hk ab (dz c eH))
        exact .inr (by simp [walk,nH bf pJ,nH ma pJ,h])
    intro w' I' ρ' y' ja o jg l8
    have jf:∀ ae c,ae<cs.length->Fs ae c->F c:=λae c aa ab=>(aQ c).2 (.inr ⟨ae,aa,ab⟩)
    obtain ⟨bR,jW,e9⟩:=kx w' I' ρ' y' ja (o.mono (λc ab=>jf k c hk ab) λc _ h=>h) jg λc ab nA=>l8 c ab (jf k c hk nA)
    obtain ⟨eQ,nz⟩:=CD (get:=λae=>us[ae]?) aw aV jf hk dz o hu jW λc=>by
     constructor
     ·intro h
      rcases (e9 c).1 h with h1 | h1
      ·exact .inl h1
      ·exact .inr ⟨h,λ⟨al,aR⟩=>aR (l8 c h1 al)⟩
     ·rintro (h1 | ⟨h1,_⟩)
      ·exact (e9 c).2 (.inl h1)
      ·exact h1
    rw [tC]
    refine ⟨_,.own (Fs:=λae=>if ae=k then bR else Fs ae) (tO bf λc ab=>o.rest c ((aQ c).2 (.inl ab)) λeH=>aI k c hk (dz c eH) ab) (by simpa using ao) h1 eQ nz ?_ (λc=>Iff.rfl),λc=>?_⟩
    ·intro ae c aa ab tG
     rw [List.length_set] at aa
     by_cases eM:ae=k
     ·rw [if_pos eM] at ab
      rcases (e9 c).1 ab with ⟨h1,_⟩ | h1
      ·exact aI k c hk h1 tG
      ·exact aI k c hk (dz c (l8 c h1 ((aQ c).2 (.inl tG)))) tG
     ·rw [if_neg eM] at ab; exact aI ae c aa ab tG
    ·have hu:=CE hk aV dz e9 c
     simp only [List.length_set]
     rw [hu,aQ c]
     have gY:v.ownBlock=some c->¬ cJ c:=λh1 al=>aI k c hk (dz c al) h1
     constructor
     ·rintro (h1 | ⟨h1,al⟩ | h1)
      ·exact .inl ⟨.inl h1,gY h1⟩
      ·exact .inl ⟨.inr h1,al⟩
      ·exact .inr h1
     ·rintro (⟨h1 | h1,al⟩ | h1)
      ·exact .inl h1
      ·exact .inr (.inl ⟨h1,al⟩)
      ·exact .inr (.inr h1)
   | @obj cs b e arr Fs _ bf ao h1 aw aV aI aQ =>
    simp only [ag.kids] at hn
    have hk:k<cs.length:=(List.getElem?_eq_some_iff.1 hn).1
    have hu:arr[k]?=some arr[k]:=Array.getElem?_eq_getElem (ao ▸ hk)
    obtain ⟨iu,cJ,hw,dQ,dz,fW,kx⟩:=R.focus p (aw k q3 _ hn hu) fS
    refine ⟨iu,cJ,by simp [walk,child,World.cell?,bf,hu,hw],dQ,λc ab=>(aQ c).2 (.inr ⟨k,hk,dz c ab⟩),?_,?_⟩
    ·intro w' aP
     have n':∀ ae c,ae<cs.length->Fs ae c->¬ cJ c->w'.heap[c]?=w.heap[c]?:=λae c aa ab aN=>aP c ((aQ c).2 (.inr ⟨ae,aa,ab⟩)) aN
     obtain ⟨jq,ia⟩:=fW w' λc ab aN=>n' k c hk ab aN
     have ma:=(aP b ((aQ b).2 (.inl rfl)) λeH=>aI k hk (dz b eH)).trans bf
     refine ⟨by simp [walk,child,World.cell?,ma,hu,jq],?_⟩
     intro r sQ eQ
     cases r with
     | nil=>exact .inr rfl
     | cons ae r =>
      simp only [ag.at,ag.kids] at eQ
      cases aa:cs[ae]? with
      | none=>rw [aa] at eQ; cases eQ
      | some uC =>
       rw [aa] at eQ
       simp only at eQ
       have fg:ae<cs.length:=(List.getElem?_eq_some_iff.1 aa).1
       have pJ:arr[ae]?=some arr[ae]:=Array.getElem?_eq_getElem (ao ▸ fg)
       by_cases eM:ae=k
       ·subst eM
        rw [hn] at aa
        cases aa
        rcases ia r sQ eQ with ⟨e5,rfl⟩ | h
        ·exact .inl ⟨e5,rfl⟩
        ·exact .inr (by simp [walk,child,World.cell?,bf,ma,hu,h])
       ·have h:=R.ov (w':=w') r (aw ae uC _ aa pJ) eQ λc ab=>n' ae c fg ab λeH=>eM (aV ae k c fg hk ab (dz c eH))
        exact .inr (by simp [walk,child,World.cell?,bf,ma,pJ,h])
    intro w' I' ρ' y' ja o jg l8
    have jf:∀ ae c,ae<cs.length->Fs ae c->F c:=λae c aa ab=>(aQ c).2 (.inr ⟨ae,aa,ab⟩)
    obtain ⟨bR,jW,e9⟩:=kx w' I' ρ' y' ja (o.mono (λc ab=>jf k c hk ab) λc _ h=>h) jg λc ab nA=>l8 c ab (jf k c hk nA)
    obtain ⟨eQ,nz⟩:=CD (get:=λae=>arr[ae]?) aw aV jf hk dz o hu jW λc=>by
     constructor
     ·intro h
      rcases (e9 c).1 h with h1 | h1
      ·exact .inl h1
      ·exact .inr ⟨h,λ⟨al,aR⟩=>aR (l8 c h1 al)⟩
     ·rintro (h1 | ⟨h1,_⟩)
      ·exact (e9 c).2 (.inl h1)
      ·exact h1
    rw [tC]
    have ny:F b:=(aQ b).2 (.inl rfl)
    have E_:¬ cJ b:=λh=>aI k hk (dz b h)
    refine ⟨_,.obj (Fs:=λae=>if ae=k then bR else Fs ae) ((o.rest b ny E_).trans bf) (by simpa using ao) h1 eQ nz ?_ (λc=>Iff.rfl),λc=>?_⟩
    ·intro ae aa ab
     rw [List.length_set] at aa
     by_cases eM:ae=k
     ·rw [if_pos eM] at ab
      rcases (e9 b).1 ab with ⟨h1,_⟩ | h1
      ·exact aI k hk h1
      ·exact E_ (l8 b h1 ny)
     ·rw [if_neg eM] at ab; exact aI ae aa ab
    ·have hu:=CE hk aV dz e9 c
     simp only [List.length_set]
     rw [hu,aQ c]
     constructor
     ·rintro (rfl | ⟨h1,al⟩ | h1)
      ·exact .inl ⟨.inl rfl,E_⟩
      ·exact .inl ⟨.inr h1,al⟩
      ·exact .inr h1
     ·rintro (⟨h1 | h1,al⟩ | h1)
      ·exact .inl h1
      ·exact .inr (.inl ⟨h1,al⟩)
      ·exact .inr (.inr h1)
   | @agg cs vs Fs _ ao h1 aw aV aQ =>
    simp only [ag.kids] at hn
    have hk:k<cs.length:=(List.getElem?_eq_some_iff.1 hn).1
    have hu:vs[k]?=some vs[k]:=Array.getElem?_eq_getElem (ao ▸ hk)
    obtain ⟨iu,cJ,hw,dQ,dz,fW,kx⟩:=R.focus p (aw k q3 _ hn hu) fS
    refine ⟨iu,cJ,by simp [walk,child,hu,hw],dQ,λc ab=>(aQ c).2 ⟨k,hk,dz c ab⟩,?_,?_⟩
    ·intro w' aP
     have n':∀ ae c,ae<cs.length->Fs ae c->¬ cJ c->w'.heap[c]?=w.heap[c]?:=λae c aa ab aN=>aP c ((aQ c).2 ⟨ae,aa,ab⟩) aN
     obtain ⟨jq,ia⟩:=fW w' λc ab aN=>n' k c hk ab aN
     
     refine ⟨by simp [walk,child,hu,jq],?_⟩
     intro r sQ eQ
     cases r with
     | nil=>exact .inr rfl
     | cons ae r =>
      simp only [ag.at,ag.kids] at eQ
      cases aa:cs[ae]? with
      | none=>rw [aa] at eQ; cases eQ
      | some uC =>
       rw [aa] at eQ
       simp only at eQ
       have fg:ae<cs.length:=(List.getElem?_eq_some_iff.1 aa).1
       have pJ:vs[ae]?=some vs[ae]:=Array.getElem?_eq_getElem (ao ▸ fg)
       by_cases eM:ae=k
       ·subst eM
        rw [hn] at aa
        cases aa
        rcases ia r sQ eQ with ⟨e5,rfl⟩ | h
        ·exact .inl ⟨e5,rfl⟩
        ·exact .inr (by simp [walk,child,hu,h])
       ·have h:=R.ov (w':=w') r (aw ae uC _ aa pJ) eQ λc ab=>n' ae c fg ab λeH=>eM (aV ae k c fg hk ab (dz c eH))
        exact .inr (by simp [walk,child,pJ,h])
    intro w' I' ρ' y' ja o jg l8
    have jf:∀ ae c,ae<cs.length->Fs ae c->F c:=λae c aa ab=>(aQ c).2 ⟨ae,aa,ab⟩
    obtain ⟨bR,jW,e9⟩:=kx w' I' ρ' y' ja (o.mono (λc ab=>jf k c hk ab) λc _ h=>h) jg λc ab nA=>l8 c ab (jf k c hk nA)
    obtain ⟨eQ,nz⟩:=CD (get:=λae=>vs[ae]?) aw aV jf hk dz o hu jW λc=>by
     constructor
     ·intro h
      rcases (e9 c).1 h with h1 | h1
      ·exact .inl h1
      ·exact .inr ⟨h,λ⟨al,aR⟩=>aR (l8 c h1 al)⟩
     ·rintro (h1 | ⟨h1,_⟩)
      ·exact (e9 c).2 (.inl h1)
      ·exact h1
    rw [tC]
    refine ⟨_,.agg (Fs:=λae=>if ae=k then bR else Fs ae) (by simpa using ao) h1 eQ nz (λc=>Iff.rfl),λc=>?_⟩
    have hu:=CE hk aV dz e9 c
    simp only [List.length_set]
    rw [hu,aQ c]
   | @cw cs vs Fs _ ao aw aV aQ =>
    simp only [ag.kids] at hn
    have hk:k<cs.length:=(List.getElem?_eq_some_iff.1 hn).1
    have hu:vs[k]?=some vs[k]:=Array.getElem?_eq_getElem (ao ▸ hk)
    obtain ⟨iu,cJ,hw,dQ,dz,fW,kx⟩:=R.focus p (aw k q3 _ hn hu) fS
    refine ⟨iu,cJ,by simp [walk,child,hu,hw],dQ,λc ab=>(aQ c).2 ⟨k,hk,dz c ab⟩,?_,?_⟩
    ·intro w' aP
     have n':∀ ae c,ae<cs.length->Fs ae c->¬ cJ c->w'.heap[c]?=w.heap[c]?:=λae c aa ab aN=>aP c ((aQ c).2 ⟨ae,aa,ab⟩) aN
     obtain ⟨jq,ia⟩:=fW w' λc ab aN=>n' k c hk ab aN
     
     refine ⟨by simp [walk,child,hu,jq],?_⟩
     intro r sQ eQ
     cases r with
     | nil=>exact .inr rfl
     | cons ae r =>
      simp only [ag.at,ag.kids] at eQ
      cases aa:cs[ae]? with
      | none=>rw [aa] at eQ; cases eQ
      | some uC =>
       rw [aa] at eQ
       simp only at eQ
       have fg:ae<cs.length:=(List.getElem?_eq_some_iff.1 aa).1
       have pJ:vs[ae]?=some vs[ae]:=Array.getElem?_eq_getElem (ao ▸ fg)
       by_cases eM:ae=k
       ·subst eM
        rw [hn] at aa
        cases aa
        rcases ia r sQ eQ with ⟨e5,rfl⟩ | h
        ·exact .inl ⟨e5,rfl⟩
        ·exact .inr (by simp [walk,child,hu,h])
       ·have h:=R.ov (w':=w') r (aw ae uC _ aa pJ) eQ λc ab=>n' ae c fg ab λeH=>eM (aV ae k c fg hk ab (dz c eH))
        exact .inr (by simp [walk,child,pJ,h])
    intro w' I' ρ' y' ja o jg l8
    have jf:∀ ae c,ae<cs.length->Fs ae c->F c:=λae c aa ab=>(aQ c).2 ⟨ae,aa,ab⟩
    obtain ⟨bR,jW,e9⟩:=kx w' I' ρ' y' ja (o.mono (λc ab=>jf k c hk ab) λc _ h=>h) jg λc ab nA=>l8 c ab (jf k c hk nA)
    obtain ⟨eQ,nz⟩:=CD (get:=λae=>vs[ae]?) aw aV jf hk dz o hu jW λc=>by
     constructor
     ·intro h
      rcases (e9 c).1 h with h1 | h1
      ·exact .inl h1
      ·exact .inr ⟨h,λ⟨al,aR⟩=>aR (l8 c h1 al)⟩
     ·rintro (h1 | ⟨h1,_⟩)
      ·exact (e9 c).2 (.inl h1)
      ·exact h1
    rw [tC]
    refine ⟨_,.cw (Fs:=λae=>if ae=k then bR else Fs ae) (by simpa using ao) eQ nz (λc=>Iff.rfl),λc=>?_⟩
    have hu:=CE hk aV dz e9 c
    simp only [List.length_set]
    rw [hu,aQ c]
   | ref J _ _=>cases x <;> simp [ag.isRef,ag.kids] at J hn
   | _=>simp [ag.kids] at hn
end Go.Own
namespace Go.Own
open Go
abbrev aU:=Nat->Option ag
def b8 (g:aU) (p:Place):Option ag :=
 match g p.root with
 | some x=>x.at p.path
 | none=>none
def ep (w:World) (T:Array Value) (p:Place):Option Value :=
 match T[p.root]? with
 | some v=>walk w v p.path
 | none=>none
def addrOf:Value->Option Addr
 | .slice (some a) _ _=>some a
 | .pointer (some a)=>some a
 | _=>none
def f_ (w:World) (T:Array Value):ag->Value->Prop
 | .ptr p k,v=>∃ u a,ep w T p=some u/\addrOf u=some a/\v=.pointer (some ⟨a.block,a.off+k,none⟩)
 | .bm _ p n,v=>∃ a N cap,ep w T p=some (.slice a N cap)/\v=.slice a n cap/\n<=N
 | .sub z p lo n,v=>∃ a N cap cy lG,ep w T p=some (.slice a N cap)/\v=.slice cy n lG/\n<=lG/\lo+n<=N/\(0<n->∃ ad,a=some ad/\cy=some ⟨ad.block,ad.off+lo * z,none⟩)
 | .b2 _ p n _ _,v=>∃ a cap,ep w T p=some (.slice a n cap)/\v=.slice a n cap
 | .iK p,v=>∃ b,ep w T p=some (.map b)/\v=.map b
 | _,_=>False
def hc (g:aU):ag->Prop
 | .ptr p k=>∃ y,b8 g p=some y/\(∃ z n cs,(y=.own z n cs\/y=.obj cs)/\k<cs.length)
 | .bm z p n=>(∃ N cs,b8 g p=some (.own z N cs)/\n<=N)\/(p.path=[]/\∃ q hp m new,g p.root=some (.b2 z q hp m new)/\n=hp+m)
 | .sub z p lo n=>∃ N cs,b8 g p=some (.own z N cs)/\lo+n<=N
 | .b2 z p n _ _=>(∃ cs,b8 g p=some (.own z n cs))\/(p.path=[]/\∃ q hp m new cs,g p.root=some (.b2 z q hp m new)/\n=hp+m/\b8 g q=some (.own z hp cs))
 | .iK p=>∃ q,b8 g p=some (.mp q)
 | _=>False
def ej (w:World) (T:Array Value) (g:aU) (r:ag) (v:Value):Prop:=f_ w T r v/\hc g r
structure DA (w:World) (I:bt) (ρ:ag->Value->Prop) (z:Nat) (p:Place) (n m:Nat) (new:List ag) (v:Value) (F:bt) (bv:Value) (e cZ:TypeId) (us news:List Value):Prop where
 j':ρ (.b2 z p n 0 []) bv
 kN:w.ownsRow 0 e z bv n us
 mb:w.ownsRow 0 cZ z v (n+m) (us++news)
 ao:new.length=news.length
 h1:∀ (k:Nat) (u:Value),news[k]?=some u->u.oneCell'=true
 aw:∀ (k:Nat) (x:ag) (u:Value),new[k]?=some x->news[k]?=some u->R w I ρ x u (λ_=>False)
 aQ:∀ c,F c↔v.ownBlock=some c/\bv.ownBlock≠some c
inductive jx (w:World) (I:bt) (ρ:ag->Value->Prop):ag->Value->bt->Prop
 | tree {x:ag}{v:Value}{F:bt}(h:R w I ρ x v F):jx w I ρ x v F
 | b2 {z n m:Nat}{p:Place}{new:List ag}{v bv:Value}{e cZ:TypeId}{us news:List Value}{F:bt}(h:DA w I ρ z p n m new v F bv e cZ us news):jx w I ρ (.b2 z p n m new) v F
theorem R.kR {w:World}{I:bt}{ρ:ag->Value->Prop}{z n m:Nat}{p:Place}{new:List ag}{v:Value}{F:bt}(h:R w I ρ (.b2 z p n m new) v F):False:=by
 cases h with
 | ref J=>simp [ag.isRef] at J
theorem jx.hT {w:World}{I:bt}{ρ:ag->Value->Prop}{x:ag}{v:Value}{F:bt}(h:jx w I ρ x v F) (J:∀ z p n m new,x≠.b2 z p n m new):R w I ρ x v F:=by
 cases h with
 | tree h=>exact h
 | b2=>exact absurd rfl (J _ _ _ _ _)
theorem jx.tK {w:World}{I:bt}{ρ:ag->Value->Prop}{z n m:Nat}{p:Place}{new:List ag}{v:Value}{F:bt}(h:jx w I ρ (.b2 z p n m new) v F):∃ bv e cZ us news,DA w I ρ z p n m new v F bv e cZ us news:=by
 cases h with
 | tree h=>exact h.kR.elim
 | b2 h=>exact ⟨_,_,_,_,_,h⟩
theorem jx.lt {w:World}{I:bt}{ρ:ag->Value->Prop}{x:ag}{v:Value}{F:bt}(h:jx w I ρ x v F):∀ c,F c->c<w.heap.size:=by
 cases h with
 | tree h=>exact h.lt
 | b2 h=>exact λc ab=>(h.mb.lt c ((h.aQ c).1 ab).1).2
theorem jx.frame {w w':World}{I I':bt}{ρ ρ':ag->Value->Prop}{x:ag}{v:Value}{F:bt}(h:jx w I ρ x v F)
  (bs:∀ c,I c->w'.heap[c]?=w.heap[c]?) (n3:∀ c,I c->I' c) (k9:∀ x v,ρ x v->ρ' x v)
  (c6:∀ z p n bv,ρ (.b2 z p n 0 []) bv->∀ c,bv.ownBlock=some c->w'.heap[c]?=w.heap[c]?)
  (bj:∀ c,F c->w'.heap[c]?=w.heap[c]?):jx w' I' ρ' x v F:=by
 cases h with
 | tree h=>exact .tree (h.frame bs n3 k9 bj)
 | @b2 z n m p new v bv e cZ us news F h =>
  have aI:=c6 _ _ _ _ h.j'
  refine .b2 ⟨k9 _ _ h.j',tO h.kN aI,tO h.mb λc ab=>?_,h.ao,h.h1,λk x u J hu=>(h.aw k x u J hu).frame bs n3 k9 λc ab=>ab.elim,h.aQ⟩
  by_cases pE:bv.ownBlock=some c
  ·exact aI c pE
  ·exact bj c ((h.aQ c).2 ⟨ab,pE⟩)
theorem ag.rQ {z n m:Nat}{p:Place}{new:List ag}{q:List Nat}{y:ag}(h:(ag.b2 z p n m new).at q=some y):q=[]/\y=.b2 z p n m new:=by
 cases q with
 | nil=>simp [ag.at] at h; exact ⟨rfl,h.symm⟩
 | cons k q=>simp [ag.at,ag.kids] at h
structure cW (w:World) (I:bt) (T:Array Value) (g:aU) (Fs:Nat->bt):Prop where
 rel:∀ t x,g t=some x->∃ v,T[t]?=some v/\jx w I (ej w T g) x v (Fs t)
 kt:∀ t,g t=none->∀ c,¬ Fs t c
 e8:∀ t dh c,Fs t c->Fs dh c->t=dh
 aD:∀ t c,Fs t c->¬ I c
 lt:∀ c,I c->c<w.heap.size
 pQ:∀ t dh z p n m new cG cT b7 da,g t=some (.b2 z p n m new)->g dh=some (.b2 cG p cT b7 da)->t=dh
section
variable {w:World}{I:bt}{T:Array Value}{g:aU}{Fs:Nat->bt}
theorem cW.part (h:cW w I T g Fs) {p:Place}{y:ag}(aF:b8 g p=some y) (ay:∀ z q n m new,y≠.b2 z q n m new):∃ v cJ,ep w T p=some v/\R w I (ej w T g) y v cJ/\(∀ c,cJ c->Fs p.root c):=by
 unfold b8 at aF
 cases J:g p.root with
 | none=>rw [J] at aF; cases aF
 | some x =>
  rw [J] at aF
  obtain ⟨v,hv,bh⟩:=h.rel _ _ J
  replace bh:=bh.hT (by
   rintro z q n m new rfl
   exact ay _ _ _ _ _ (ag.rQ aF).2)
  obtain ⟨iu,cJ,hw,dQ,dz,_⟩:=R.focus p.path bh aF
  exact ⟨iu,cJ,by simp [ep,hv,hw],dQ,dz⟩
theorem R.o5 {ρ:ag->Value->Prop}{z n:Nat}{cs:List ag}{v:Value}{F:bt}(h:R w I ρ (.own z n cs) v F):∀ c,v.ownBlock=some c->F c:=by
 cases h with
 | own bf ao h1 aw aV aI aQ=>exact λc ab=>(aQ c).2 (.inl ab)
 | ref J=>simp [ag.isRef] at J
theorem R.mq {ρ:ag->Value->Prop}{z n:Nat}{cs:List ag}{v:Value}{F:bt}(h:R w I ρ (.own z n cs) v F) :
  ∃ a cap,v=.slice a n cap/\n<=cap/\cs.length=n * z/\(∀ ad,a=some ad->ad.off=0/\ad.spot=none)/\(0<n->a.isSome=true):=by
 cases h with
 | own bf ao h1 aw aV aI aQ =>
  obtain ⟨h1,al⟩:=bf
  rcases al with ⟨rfl,rfl⟩ | ⟨b,cap,cur,rfl,_,_,aN,_⟩
  ·exact ⟨none,0,rfl,Nat.le_refl _,by simp [ao,h1],by simp,by simp⟩
  ·exact ⟨_,cap,rfl,aN,by simp [ao,h1],by rintro ad ⟨⟩; exact ⟨rfl,rfl⟩,by simp⟩
 | ref J=>simp [ag.isRef] at J
theorem cW.vZ (h:cW w I T g Fs) {w':World}{T':Array Value}(fF:∀ t,g t≠none->T'[t]?=T[t]?) (aQ:∀ t c,Fs t c->w'.heap[c]?=w.heap[c]?) {p:Place}{y:ag}(aF:b8 g p=some y) :
  ep w' T' p=ep w T p:=by
 unfold b8 at aF
 cases J:g p.root with
 | none=>rw [J] at aF; cases aF
 | some x =>
  rw [J] at aF
  obtain ⟨v,hv,bh⟩:=h.rel _ _ J
  have iU:T'[p.root]?=some v:=by rw [fF _ (by rw [J]; simp),hv]
  cases bh with
  | tree bh =>
   have:=R.ov (w':=w') p.path bh aF λc ab=>aQ _ c ab
   simp [ep,hv,iU,this]
  | b2 bh=>simp [ep,hv,iU,(ag.rQ aF).1,walk]
theorem kj {g g':aU}(a7:∀ t x,g t=some x->g' t=some x) {p:Place}{y:ag}(aF:b8 g p=some y):b8 g' p=some y:=by
 unfold b8 at *
 cases J:g p.root with
 | none=>rw [J] at aF; cases aF
 | some x=>rw [J] at aF; rw [a7 _ _ J]; exact aF
theorem hc.mono {g g':aU}(a7:∀ t x,g t=some x->g' t=some x) {r:ag}(h:hc g r):hc g' r:=by
 cases r <;> simp only [hc] at h ⊢
 case ptr p k=>obtain ⟨y,ay,h⟩:=h; exact ⟨y,kj a7 ay,h⟩
 case bm z p n =>
  rcases h with ⟨N,cs,h1,al⟩ | ⟨bc,q,hp,m,new,h1,al⟩
  ·exact .inl ⟨N,cs,kj a7 h1,al⟩
  ·exact .inr ⟨bc,q,hp,m,new,a7 _ _ h1,al⟩
 case sub z p lo n=>obtain ⟨N,cs,h1,al⟩:=h; exact ⟨N,cs,kj a7 h1,al⟩
 case b2 z p n m new =>
  rcases h with ⟨cs,h1⟩ | ⟨bc,q,hp,b7,da,cs,h1,al,aR⟩
  ·exact .inl ⟨cs,kj a7 h1⟩
  ·exact .inr ⟨bc,q,hp,b7,da,cs,a7 _ _ h1,al,kj a7 aR⟩
 case iK p=>obtain ⟨q,h⟩:=h; exact ⟨q,kj a7 h⟩
theorem cW.C5 (h:cW w I T g Fs) {w':World}{T':Array Value}{g':aU}(fF:∀ t,g t≠none->T'[t]?=T[t]?) (aQ:∀ t c,Fs t c->w'.heap[c]?=w.heap[c]?)
  (a7:∀ t x,g t=some x->g' t=some x) {r:ag}{v:Value}(aw:ej w T g r v):ej w' T' g' r v:=by
 obtain ⟨h1,al⟩:=aw
 refine ⟨?_,al.mono a7⟩
 have slot:∀ {p:Place}{x:ag},p.path=[]->g p.root=some x->ep w' T' p=ep w T p:=by
  intro p x aF J
  obtain ⟨v,hv,_⟩:=h.rel _ _ J
  simp [ep,aF,walk,fF p.root (by rw [J]; simp)]
 cases r <;> simp only [f_,hc] at h1 al ⊢
 case ptr p k =>
  obtain ⟨y,ay,_⟩:=al
  rw [h.vZ fF aQ ay]; exact h1
 case bm z p n =>
  rcases al with ⟨N,cs,al,_⟩ | ⟨bc,q,hp,m,new,al,_⟩
  ·rw [h.vZ fF aQ al]; exact h1
  ·rw [slot bc al]; exact h1
 case sub z p lo n =>
  obtain ⟨N,cs,al,_⟩:=al
  rw [h.vZ fF aQ al]; exact h1
 case b2 z p n m new =>
  rcases al with ⟨cs,al⟩ | ⟨bc,q,hp,b7,da,cs,al,_⟩
  ·rw [h.vZ fF aQ al]; exact h1
  ·rw [slot bc al]; exact h1
 case iK p =>
  obtain ⟨q,al⟩:=al
  rw [h.vZ fF aQ al]; exact h1
theorem cW.Br (h:cW w I T g Fs) {z n:Nat}{p:Place}{bv:Value}(aw:ej w T g (.b2 z p n 0 []) bv):∀ c,bv.ownBlock=some c->∃ t,Fs t c:=by
 obtain ⟨⟨a,cap,h1,rfl⟩,al⟩:=aw
 intro c ab
 have own:∀ {q:Place}{hp:Nat}{cs:List ag}{v:Value},b8 g q=some (.own z hp cs)->ep w T q=some v->v.ownBlock=some c->∃ t,Fs t c:=by
  intro q hp cs v bP hv ab
  obtain ⟨hP,cJ,iU,bh,dz⟩:=h.part bP (by simp)
  rw [hv] at iU
  cases iU
  exact ⟨_,dz c (bh.o5 c ab)⟩
 rcases al with ⟨cs,al⟩ | ⟨bc,q,hp,m,new,cs,al,rfl,aR⟩
 ·exact own al h1 ab
 ·obtain ⟨v,hv,bh⟩:=h.rel _ _ al
  have qn:v=.slice a (hp+m) cap:=by
   simp only [ep,hv,bc,walk,Option.some.injEq] at h1
   exact h1
  obtain ⟨Ix,e,cZ,us,news,bh⟩:=bh.tK
  by_cases cX:Ix.ownBlock=some c
  ·obtain ⟨⟨a2,p8,b3,rfl⟩,_⟩:=bh.j'
   exact own aR b3 cX
  ·exact ⟨_,(bh.aQ c).2 ⟨by rw [qn]; exact ab,cX⟩⟩
theorem cW.frame (h:cW w I T g Fs) {w':World}{I':bt}{T':Array Value}{g':aU}(fF:∀ t,g t≠none->T'[t]?=T[t]?) (aQ:∀ t c,Fs t c->w'.heap[c]?=w.heap[c]?)
  (bs:∀ c,I c->w'.heap[c]?=w.heap[c]?) (n3:∀ c,I c->I' c) (a7:∀ t x,g t=some x->g' t=some x) {x:ag}{v:Value}{F:bt}(bh:R w I (ej w T g) x v F)
  (kL:∀ c,F c->w'.heap[c]?=w.heap[c]?):R w' I' (ej w' T' g') x v F :=
 bh.frame bs n3 (λ_ _ aw=>h.C5 fF aQ a7 aw) kL
theorem cW.uV (h:cW w I T g Fs) {w':World}{I':bt}{T':Array Value}{g':aU}(fF:∀ t,g t≠none->T'[t]?=T[t]?) (aQ:∀ t c,Fs t c->w'.heap[c]?=w.heap[c]?)
  (bs:∀ c,I c->w'.heap[c]?=w.heap[c]?) (n3:∀ c,I c->I' c) (a7:∀ t x,g t=some x->g' t=some x) {x:ag}{v:Value}{F:bt}(bh:jx w I (ej w T g) x v F)
  (kL:∀ c,F c->w'.heap[c]?=w.heap[c]?):jx w' I' (ej w' T' g') x v F :=
 bh.frame bs n3 (λ_ _ aw=>h.C5 fF aQ a7 aw) (λ_ _ _ _ aw c ab=>by obtain ⟨t,aG⟩:=h.Br aw c ab; exact aQ t c aG) kL
def e2 (g:aU) (d:Nat) (x:ag):aU:=λt=>if t=d then some x else g t
def sN (Fs:Nat->bt) (d:Nat) (F:bt):Nat->bt:=λt=>if t=d then F else Fs t
theorem Mw {d:Nat}{x:ag}(aV:g d=none):∀ t y,g t=some y->e2 g d x t=some y:=by
 intro t y ay
 unfold e2
 split
 ·rename_i h; subst h; rw [aV] at ay; cases ay
 ·exact ay
end
end Go.Own
namespace Go.Own
open Go
theorem MA (w:World):∀ (p:List Nat) (v:Value) (k:Nat),walk w v (p++[k])=(walk w v p).bind λu=>child w u k
 | [],v,k=>by simp [walk]; cases child w v k <;> rfl
 | ae::p,v,k=>by
  simp only [List.cons_append,walk]
  cases child w v ae with
  | none=>rfl
  | some u=>exact MA w p u k
theorem It:∀ (p:List Nat) (x:ag) (k:Nat),x.at (p++[k])=(x.at p).bind λy=>y.kids[k]?
 | [],x,k=>by simp [ag.at]; cases x.kids[k]? <;> rfl
 | ae::p,x,k=>by
  simp only [List.cons_append,ag.at]
  cases x.kids[ae]? with
  | none=>rfl
  | some u=>exact It p u k
theorem rP (g:aU) (p:Place) (k:Nat):b8 g (p.push k)=(b8 g p).bind λy=>y.kids[k]?:=by
 unfold b8 Place.push
 cases g p.root with
 | none=>rfl
 | some x=>simp [It]
theorem vY (w:World) (T:Array Value) (p:Place) (k:Nat):ep w T (p.push k)=(ep w T p).bind λu=>child w u k:=by
 unfold ep Place.push
 cases T[p.root]? with
 | none=>rfl
 | some x=>simp [MA]
def h_:Nat->Place->ag->ag
 | _,p,.own z n _=>.bm z p n
 | _,p,.obj (_::_)=>.ptr p 0
 | _,_,.obj []=>.dead
 | _,_,.b2 ..=>.dead
 | _,p,.mp _=>.iK p
 | d+1,p,.agg cs=>.agg (cs.mapIdx λi x=>h_ d (p.push i) x)
 | d+1,p,.cw cs=>.cw (cs.mapIdx λi x=>h_ d (p.push i) x)
 | 0,_,.agg _=>.dead
 | 0,_,.cw _=>.dead
 | _,_,x=>x
def qA (t:Nat):ag->ag
 | .b2 z _ n m _=>.bm z ⟨t,[]⟩ (n+m)
 | x=>h_ 2 ⟨t,[]⟩ x
def nG:Value->ag
 | .slice none 0 0=>.aJ
 | .agg _=>.dead
 | .tuple _=>.dead
 | v=>.lit v
def ofConst:Value->ag
 | .agg vs=>if vs.all Value.oneCell' then .agg (vs.toList.map nG) else .dead
 | .tuple _=>.dead
 | v=>nG v
def bL (g:aU):Operand->Option ag
 | .tmp t=>(g t).map (qA t)
 | .const v=>some (ofConst v)
 | .func f=>some (.ef (.func f) [] [])
 | .global _=>none
abbrev cS:bt:=λ_=>False
section
variable {w:World}{I:bt}{T:Array Value}{g:aU}{Fs:Nat->bt}
theorem R.empty {ρ:ag->Value->Prop}{x:ag}{v:Value}{F:bt}(h:R w I ρ x v F) (aQ:∀ c,¬ F c):R w I ρ x v cS:=h.wP λc=>⟨λab=>aQ c ab,λab=>ab.elim⟩
theorem C4:∀ (d:Nat) {p:Place}{x:ag}{v:Value}{F:bt},b8 g p=some x->ep w T p=some v->R w I (ej w T g) x v F->R w I (ej w T g) (h_ d p x) v cS:=by
 intro d
 induction d with
 | zero =>
  intro p x v F aF hv bh
  cases bh with
  | lit ao aQ=>exact .lit ao λ_ h=>h
  | aJ aQ=>exact .aJ λ_ h=>h
  | dead aQ=>exact .dead λ_ h=>h
  | ref J aw aQ=>cases x <;> simp [ag.isRef] at J <;> exact .ref rfl aw λ_ h=>h
  | mp=>exact .ref rfl ⟨⟨_,hv,rfl⟩,⟨_,aF⟩⟩ λ_ h=>h
  | imp aQ bs bf bP=>exact .imp (λ_ h=>h) bs bf bP
  | hM aQ=>exact .hM λ_ h=>h
  | aD aQ kM bs aP ao h1 ab aw=>exact .aD (λ_ h=>h) kM bs aP ao h1 ab aw
  | bn aQ bs aP h1 ab aw=>exact .bn (λ_ h=>h) bs aP h1 ab aw
  | own bf ao h1 aw aV aI aQ =>
   have FI:=R.own (I:=I) (ρ:=ej w T g) bf ao h1 aw aV aI aQ
   obtain ⟨a,cap,rfl,aN,_⟩:=FI.mq
   exact .ref rfl ⟨⟨a,_,cap,hv,rfl,Nat.le_refl _⟩,.inl ⟨_,_,aF,Nat.le_refl _⟩⟩ λ_ h=>h
  | @obj cs b e arr cq _ bf ao h1 aw aV aI aQ =>
   cases cs with
   | nil=>exact .dead λ_ h=>h
   | cons c cs=>exact .ref rfl ⟨⟨_,_,hv,rfl,rfl⟩,⟨_,aF,0,0,_,.inr rfl,by simp⟩⟩ λ_ h=>h
  | agg=>exact .dead λ_ h=>h
  | cw=>exact .dead λ_ h=>h
  | ef aQ h1 al jK iy=>exact .ef (λ_ h=>h) h1 al jK iy
 | succ d aS =>
  intro p x v F aF hv bh
  cases bh with
  | lit ao aQ=>exact .lit ao λ_ h=>h
  | aJ aQ=>exact .aJ λ_ h=>h
  | dead aQ=>exact .dead λ_ h=>h
  | ref J aw aQ=>cases x <;> simp [ag.isRef] at J <;> exact .ref rfl aw λ_ h=>h
  | mp=>exact .ref rfl ⟨⟨_,hv,rfl⟩,⟨_,aF⟩⟩ λ_ h=>h
  | imp aQ bs bf bP=>exact .imp (λ_ h=>h) bs bf bP
  | hM aQ=>exact .hM λ_ h=>h
  | aD aQ kM bs aP ao h1 ab aw=>exact .aD (λ_ h=>h) kM bs aP ao h1 ab aw
  | bn aQ bs aP h1 ab aw=>exact .bn (λ_ h=>h) bs aP h1 ab aw
  | own bf ao h1 aw aV aI aQ =>
   have FI:=R.own (I:=I) (ρ:=ej w T g) bf ao h1 aw aV aI aQ
   obtain ⟨a,cap,rfl,aN,_⟩:=FI.mq
   exact .ref rfl ⟨⟨a,_,cap,hv,rfl,Nat.le_refl _⟩,.inl ⟨_,_,aF,Nat.le_refl _⟩⟩ λ_ h=>h
  | @obj cs b e arr cq _ bf ao h1 aw aV aI aQ =>
   cases cs with
   | nil=>exact .dead λ_ h=>h
   | cons c cs=>exact .ref rfl ⟨⟨_,_,hv,rfl,rfl⟩,⟨_,aF,0,0,_,.inr rfl,by simp⟩⟩ λ_ h=>h
  | @agg cs vs cq _ ao h1 aw aV aQ =>
   refine .agg (Fs:=λ_=>cS) (by simpa using ao) h1 ?_ (λ_ _ _ _ _ h=>h.elim) (λc=>⟨λh=>h.elim,λ⟨_,_,h⟩=>h⟩)
   intro k y u ay hu
   rw [List.getElem?_mapIdx] at ay
   cases hk:cs[k]? with
   | none=>rw [hk] at ay; cases ay
   | some z =>
    rw [hk] at ay
    cases ay
    exact aS (by rw [rP,aF]; exact hk) (by rw [vY,hv]; exact hu) (aw k z u hk hu)
  | @cw cs vs cq _ ao aw aV aQ =>
   refine .cw (Fs:=λ_=>cS) (by simpa using ao) ?_ (λ_ _ _ _ _ h=>h.elim) (λc=>⟨λh=>h.elim,λ⟨_,_,h⟩=>h⟩)
   intro k y u ay hu
   rw [List.getElem?_mapIdx] at ay
   cases hk:cs[k]? with
   | none=>rw [hk] at ay; cases ay
   | some z =>
    rw [hk] at ay
    cases ay
    exact aS (by rw [rP,aF]; exact hk) (by rw [vY,hv]; exact hu) (aw k z u hk hu)
  | ef aQ h1 al jK iy=>exact .ef (λ_ h=>h) h1 al jK iy
theorem zR {ρ:ag->Value->Prop}(v:Value):R w I ρ (nG v) v cS:=by
 unfold nG
 split
 ·exact .aJ λ_ h=>h
 ·exact .dead λ_ h=>h
 ·exact .dead λ_ h=>h
 ·rename_i h1 al aR
  refine .lit ?_ λ_ h=>h
  cases v <;> first | rfl | (exact absurd rfl (al _)) | (exact absurd rfl (aR _))
theorem Te {ρ:ag->Value->Prop}(v:Value):R w I ρ (ofConst v) v cS:=by
 unfold ofConst
 split
 ·rename_i vs
  split
  ·rename_i hf
   refine .agg (Fs:=λ_=>cS) (by simp) (λk u hu=>?_) ?_ (λ_ _ _ _ _ h=>h.elim) (λc=>⟨λh=>h.elim,λ⟨_,_,h⟩=>h⟩)
   ·exact Array.all_eq_true_iff_forall_mem.1 hf u (Array.mem_of_getElem? hu)
   ·intro k x u J hu
    simp only [List.getElem?_map,Array.getElem?_toList,hu,Option.map_some,Option.some.injEq] at J
    subst J
    exact zR u
  ·exact .dead λ_ h=>h
 ·exact .dead λ_ h=>h
 ·exact zR v
theorem kT (h:cW w I T g Fs) {x:Operand}{y:ag}(ay:bL g x=some y) {a:Act}(bg:a.tmps=T):R w I (ej w T g) y (a.eval x) cS:=by
 cases x with
 | tmp t =>
  simp only [bL] at ay
  cases J:g t with
  | none=>rw [J] at ay; cases ay
  | some z =>
   rw [J] at ay
   simp only [Option.map_some,Option.some.injEq] at ay
   obtain ⟨v,hv,bh⟩:=h.rel t z J
   have pF:a.eval (.tmp t)=v:=by simp [Act.eval,bg,hv]
   rw [pF]
   have aF:b8 g ⟨t,[]⟩=some z:=by simp [b8,J,ag.at]
   have KR:ep w T ⟨t,[]⟩=some v:=by simp [ep,hv,walk]
   subst ay
   cases bh with
   | tree bh =>
    cases z with
    | b2=>exact bh.kR.elim
    | _=>exact C4 2 aF KR bh
   | @b2 js n m p new v bv e cZ us news _ bh =>
    simp only [qA]
    have:∃ a cap,v=.slice a (n+m) cap:=by
     obtain ⟨_,al⟩:=bh.mb
     rcases al with ⟨al,aR⟩ | ⟨b,cap,cur,al,_⟩
     ·exact ⟨none,0,by rw [al]; congr 1; omega⟩
     ·exact ⟨_,cap,al⟩
    obtain ⟨cy,cap,rfl⟩:=this
    exact .ref rfl ⟨⟨cy,_,cap,KR,rfl,Nat.le_refl _⟩,.inr ⟨rfl,p,n,m,new,J,rfl⟩⟩ λ_ h=>h
 | const v=>simp only [bL,Option.some.injEq] at ay; subst ay; exact Te v
 | global n=>simp [bL] at ay
 | func f =>
  simp only [bL,Option.some.injEq] at ay
  subst ay
  exact .ef (λ_ h=>h) rfl rfl (by simp) (by simp)
end
end Go.Own
namespace Go.Own
open Go
def hr (P:Program) (t:TypeId):Bool :=
 match P.underlying t,P.info? t with
 | some (.struct _),_=>false
 | some (.array ..),_=>false
 | some _,some i=>i.size == 1
 | _,_=>false
def iH (P:Program) (t:TypeId) (k:Nat):Bool :=
 match P.underlying t,P.info? t with
 | some (.struct _),some i=>i.size == k
 | some (.array ..),some i=>i.size == k
 | _,_=>false
def fm (P:Program) (t e:TypeId) (z:Nat):Bool :=
 match P.underlying t,P.info? e with
 | some (.slice cQ),some i=>cQ == e&&i.size == z
 | _,_=>false
def Bm (P:Program) (t e:TypeId) (n z:Nat):Bool :=
 match P.underlying t,P.info? e with
 | some (.array cT cQ),some i=>cT == n&&cQ == e&&i.size == z
 | _,_=>false
def pW (P:Program) (t:TypeId):Bool :=
 match P.underlying t with
 | some .string=>true
 | _=>false
def uy (P:Program) (s d:TypeId):Bool :=
 match P.underlying s,P.underlying d with
 | some (.slice e),some .string=>match P.underlying e with
  | some (.int .u8)=>true
  | _=>false
 | _,_=>false
def du (P:Program) (s:TypeId) (f off:Nat) (t:TypeId):Bool :=
 match P.underlying s with
 | some (.struct fs) =>
  match fs[f]? with
  | some fd=>fd.offset == off&&fd.type == t&&(match P.info? t with | some i=>i.size != 0 | none=>false)
  | none=>false
 | _=>false
section
variable {P:Program}{w:World}
theorem D5 {t:TypeId}(h:hr P t=true):(isAgg t).run P w=.ok false w/\(sizeOf t).run P w=.ok 1 w:=by
 unfold hr at h
 cases hu:P.underlying t with
 | none=>simp [hu] at h
 | some d =>
  cases hi:P.info? t with
  | none=>cases d <;> simp [hu,hi] at h
  | some i=>cases d <;> simp [hu,hi] at h <;> simp [isAgg,run_underlying hu,sizeOf,typeInfo,hi,h]
theorem Bk {t:TypeId}{k:Nat}(h:iH P t k=true):(isAgg t).run P w=.ok true w/\(sizeOf t).run P w=.ok k w:=by
 unfold iH at h
 cases hu:P.underlying t with
 | none=>simp [hu] at h
 | some d =>
  cases hi:P.info? t with
  | none=>cases d <;> simp [hu,hi] at h
  | some i=>cases d <;> simp [hu,hi] at h <;> simp [isAgg,run_underlying hu,sizeOf,typeInfo,hi,h]
theorem pa {t e:TypeId}{z:Nat}(h:fm P t e z=true):P.underlying t=some (.slice e)/\P.elem t=e/\(sizeOf e).run P w=.ok z w:=by
 unfold fm at h
 cases hu:P.underlying t with
 | none=>simp [hu] at h
 | some d =>
  cases hi:P.info? e with
  | none=>cases d <;> simp [hu,hi] at h
  | some i =>
   cases d <;> simp [hu,hi] at h
   obtain ⟨rfl,h⟩:=h
   exact ⟨rfl,by simp [Program.elem,hu],by simp [sizeOf,typeInfo,hi,h]⟩
theorem Il {t e:TypeId}{n z:Nat}(h:Bm P t e n z=true):P.underlying t=some (.array n e)/\(sizeOf e).run P w=.ok z w:=by
 unfold Bm at h
 cases hu:P.underlying t with
 | none=>simp [hu] at h
 | some d =>
  cases hi:P.info? e with
  | none=>cases d <;> simp [hu,hi] at h
  | some i =>
   cases d <;> simp [hu,hi] at h
   obtain ⟨⟨rfl,rfl⟩,h⟩:=h
   exact ⟨rfl,by simp [sizeOf,typeInfo,hi,h]⟩
theorem Iy {s d:TypeId}(h:uy P s d=true):∃ e,P.underlying s=some (.slice e)/\P.underlying e=some (.int .u8)/\P.underlying d=some .string:=by
 unfold uy at h
 split at h
 ·rename_i e h1 al
  split at h
  ·rename_i aR
   exact ⟨e,h1,aR,al⟩
  ·cases h
 ·cases h
theorem Hn {t:TypeId}(h:pW P t=true):P.underlying t=some .string:=by
 unfold pW at h
 cases hu:P.underlying t with
 | none=>simp [hu] at h
 | some d=>cases d <;> simp [hu] at h; rfl
theorem Ew {s:TypeId}{f off:Nat}{t:TypeId}(h:du P s f off t=true):∃ fs fd,P.underlying s=some (.struct fs)/\fs[f]?=some fd/\fd.offset=off/\fd.type=t/\∃ i,P.info? t=some i/\i.size≠0:=by
 unfold du at h
 cases hu:P.underlying s with
 | none=>simp [hu] at h
 | some d =>
  cases d <;> simp [hu] at h
  rename_i fs
  cases bj:fs[f]? with
  | none=>simp [bj] at h
  | some fd =>
   simp [bj] at h
   obtain ⟨⟨h1,al⟩,aR⟩:=h
   cases hi:P.info? t with
   | none=>simp [hi] at aR
   | some i=>simp [hi] at aR; exact ⟨fs,fd,rfl,bj,h1,al,i,rfl,aR⟩
theorem add_eq (b o k:Nat):(⟨b,o,none⟩:Addr).add k=⟨b,o+k,none⟩:=by
 unfold Addr.add
 split
 ·rename_i h; subst h; rfl
 ·rfl
theorem LW {s:TypeId}{f off:Nat}{t:TypeId}(h:du P s f off t=true) (b o:Nat):(Instr.fieldAt s (.pointer (some ⟨b,o,none⟩)) f).run P w=.ok (.pointer (some ⟨b,o+off,none⟩)) w:=by
 obtain ⟨fs,fd,hu,bj,rfl,rfl,i,hi,bc⟩:=Ew h
 simp [Instr.fieldAt,run_underlying hu,bj,Instr.sureAddr,fieldPlace,sizeOf,typeInfo,hi,bc,add_eq]
theorem LY {t:TypeId}(h:hr P t=true) {a:Addr}{v:Value}(ab:w.cell? a=some v):(Instr.loadAt t (.pointer (some a))).run P w=.ok v w:=by
 obtain ⟨h1,al⟩:=D5 (w:=w) h
 simp [Instr.loadAt,Instr.sureAddr,loadVar,h1,ab]
theorem LX {t:TypeId}{k:Nat}(h:iH P t k=true) {b o:Nat}{vs:List Value}(ao:vs.length=k) (ab:∀ ae v,vs[ae]?=some v->w.cell? ⟨b,o+ae,none⟩=some v) :
  (Instr.loadAt t (.pointer (some ⟨b,o,none⟩))).run P w=.ok (.agg vs.toArray) w:=by
 obtain ⟨h1,al⟩:=Bk (w:=w) h
 have:=run_loadCells_list (P:=P) w ⟨b,o,none⟩ vs (λae v aa=>by rw [add_eq]; exact ab ae v aa)
 rw [ao] at this
 simp [Instr.loadAt,Instr.sureAddr,loadVar,h1,al,this]
end
end Go.Own
namespace Go.Own
open Go
section
variable {w:World}{I:bt}{ρ:ag->Value->Prop}{v:Value}{F:bt}
theorem R.h9 {a:Value}(h:R w I ρ (.lit a) v F):v=a/\a.oneCell'=true:=by
 cases h with
 | lit hv=>exact ⟨rfl,hv⟩
 | ref J=>simp [ag.isRef] at J
theorem R.qv (h:R w I ρ .aJ v F):v=.slice none 0 0:=by
 cases h with
 | aJ=>rfl
 | ref J=>simp [ag.isRef] at J
theorem R.mN {p:Place}{k:Nat}(h:R w I ρ (.ptr p k) v F):ρ (.ptr p k) v:=by
 cases h with
 | ref J h=>exact h
theorem R.mj {z:Nat}{p:Place}{n:Nat}(h:R w I ρ (.bm z p n) v F):ρ (.bm z p n) v:=by
 cases h with
 | ref J h=>exact h
theorem R.vh {z:Nat}{p:Place}{lo n:Nat}(h:R w I ρ (.sub z p lo n) v F):ρ (.sub z p lo n) v:=by
 cases h with
 | ref J h=>exact h
theorem R.xj {z n:Nat}{cs:List ag}(h:R w I ρ (.aD z n cs) v F):∃ a cap,v=.slice a n cap/\n<=cap/\cs.length=n * z /\
  (cs≠[]\/0<n->∃ (ad:Addr) (us:Nat->Value),a=some ad/\I ad.block/\ad.spot=none/\(∀ (k:Nat) (x:ag),cs[k]?=some x->(us k).oneCell'=true)/\(∀ (k:Nat) (x:ag),cs[k]?=some x->w.cell? ⟨ad.block,ad.off+k,none⟩=some (us k))/\∀ (k:Nat) (x:ag),cs[k]?=some x->R w I ρ x (us k) cS):=by
 cases h with
 | @hM _ cap a=>exact ⟨a,cap,rfl,Nat.zero_le _,by simp,λh=>by simp at h⟩
 | @aD _ _ cap _ ad us _ aQ kM bs aP ao h1 ab aw=>exact ⟨_,cap,rfl,kM,ao,λ_=>⟨ad,us,rfl,bs,aP,h1,ab,aw⟩⟩
 | ref J=>simp [ag.isRef] at J
theorem R.vg {cs:List ag}(h:R w I ρ (.bn cs) v F):∃ (ad:Addr) (us:Nat->Value),v=.pointer (some ad)/\I ad.block/\ad.spot=none/\(∀ (k:Nat) (x:ag),cs[k]?=some x->(us k).oneCell'=true)/\(∀ (k:Nat) (x:ag),cs[k]?=some x->w.cell? ⟨ad.block,ad.off+k,none⟩=some (us k))/\∀ (k:Nat) (x:ag),cs[k]?=some x->R w I ρ x (us k) cS:=by
 cases h with
 | @bn _ ad us _ aQ bs aP h1 ab aw=>exact ⟨ad,us,rfl,bs,aP,h1,ab,aw⟩
 | ref J=>simp [ag.isRef] at J
theorem R.zx {cs:List ag}(h:R w I ρ (.agg cs) v F) (aQ:∀ c,¬ F c):∃ vs:Array Value,v=.agg vs/\cs.length=vs.size/\(∀ (k:Nat) (u:Value),vs[k]?=some u->u.oneCell'=true)/\∀ (k:Nat) (x:ag) (u:Value),cs[k]?=some x->vs[k]?=some u->R w I ρ x u cS:=by
 cases h with
 | @agg _ vs Fs _ ao h1 aw aV n2=>exact ⟨vs,rfl,ao,h1,λk x u J hu=>(aw k x u J hu).empty λc ab=>aQ c ((n2 c).2 ⟨k,(List.getElem?_eq_some_iff.1 J).1,ab⟩)⟩
 | ref J=>simp [ag.isRef] at J
theorem R.SU {cs:List ag}(h:R w I ρ (.cw cs) v F) (aQ:∀ c,¬ F c):∃ vs:Array Value,v=.tuple vs/\cs.length=vs.size/\∀ (k:Nat) (x:ag) (u:Value),cs[k]?=some x->vs[k]?=some u->R w I ρ x u cS:=by
 cases h with
 | @cw _ vs Fs _ ao aw aV n2=>exact ⟨vs,rfl,ao,λk x u J hu=>(aw k x u J hu).empty λc ab=>aQ c ((n2 c).2 ⟨k,(List.getElem?_eq_some_iff.1 J).1,ab⟩)⟩
 | ref J=>simp [ag.isRef] at J
theorem R.node {y:ag}{z n:Nat}{cs:List ag}(h:R w I ρ y v F) (ay:y=.own z n cs\/y=.obj cs) {k:Nat}{x:ag}(hk:cs[k]?=some x) :
  ∃ b u,addrOf v=some ⟨b,0,none⟩/\w.cell? ⟨b,k,none⟩=some u/\child w v k=some u/\u.oneCell'=true/\∃ bR,R w I ρ x u bR:=by
 rcases ay with rfl | rfl
 ·cases h with
  | @own _ _ _ _ e us Fs _ bf ao h1 aw aV aI aQ =>
   have bd:k<cs.length:=(List.getElem?_eq_some_iff.1 hk).1
   have hu:us[k]?=some us[k]:=List.getElem?_eq_getElem (ao ▸ bd)
   have lM:=nH bf hu
   obtain ⟨mf,al⟩:=bf
   rcases al with ⟨rfl,rfl⟩ | ⟨b,cap,cur,rfl,a7,b9,rest⟩
   ·simp at mf; rw [mf] at ao; simp at ao; subst ao; simp at bd
   ·exact ⟨b,_,rfl,by simpa [child] using lM,lM,h1 k _ hu,Fs k,aw k x _ hk hu⟩
  | ref J=>simp [ag.isRef] at J
 ·cases h with
  | @obj _ b e arr Fs _ bf ao h1 aw aV aI aQ =>
   have bd:k<cs.length:=(List.getElem?_eq_some_iff.1 hk).1
   have hu:arr[k]?=some arr[k]:=Array.getElem?_eq_getElem (ao ▸ bd)
   exact ⟨b,_,rfl,by simp [World.cell?,bf,hu],by simp [child,World.cell?,bf,hu],h1 k _ hu,Fs k,aw k x _ hk hu⟩
  | ref J=>simp [ag.isRef] at J
end
def ox (g:aU) (d:Nat):Option Operand->Nat->Prop
 | none,ae=>ae=d
 | some o,ae=>∃ k,bL g o=some (.lit (.int k (ae:Int)))
inductive dj (P:Program) (g:aU):Op->TypeId->ag->Prop
 | move {x:Operand}{ty:TypeId}{y:ag}(J:bL g x=some y):dj P g (.move x) ty y
 | assign {x:Operand}{ty:TypeId}{y:ag}(J:bL g x=some y):dj P g (.assign x) ty y
 | pick {c a b:Operand}{ty:TypeId}{t:Bool}{r:ag}(ab:bL g c=some (.lit (.bool t))) (aw:bL g (if t then a else b)=some r):dj P g (.pick c a b) ty r
 | CL {x:Operand}{ty:TypeId}{p:Place}{k:Nat}(J:bL g x=some (.ptr p k)):dj P g (.nilCheck x) ty (.ptr p k)
 | o3 {x:Operand}{ty:TypeId}{cs:List ag}(J:bL g x=some (.bn cs)):dj P g (.nilCheck x) ty (.bn cs)
 | yL {x:Operand}{ty s t:TypeId}{f off:Nat}{p:Place}{k:Nat}(J:bL g x=some (.ptr p k)) (bj:du P s f off t=true) (eA:hc g (.ptr p (k+off))):dj P g (.fieldAddr s x f) ty (.ptr p (k+off))
 | BX {x:Operand}{ty s t:TypeId}{f off:Nat}{cs:List ag}(J:bL g x=some (.bn cs)) (bj:du P s f off t=true):dj P g (.fieldAddr s x f) ty (.bn (cs.drop off))
 | BW {x:Operand}{ty s t:TypeId}{f off:Nat}{cs:List ag}{y:ag}(J:bL g x=some (.agg cs)) (bj:du P s f off t=true) (aG:hr P t=true) (ay:cs[off]?=some y):dj P g (.field s x f) ty y
 | Ev {x:Operand}{ty s t:TypeId}{f off k:Nat}{cs:List ag}(J:bL g x=some (.agg cs)) (bj:du P s f off t=true) (aG:iH P t k=true) (hk:off+k<=cs.length):dj P g (.field s x f) ty (.agg ((cs.drop off).take k))
 | Cw {x i:Operand}{ty t e:TypeId}{z n:Nat}{cs:List ag}{mP:IntKind}{ae:Nat}(J:bL g x=some (.aD z n cs)) (hi:bL g i=some (.lit (.int mP (ae:Int)))) (aG:fm P t e z=true) (aa:ae<n):dj P g (.indexAddr t x i) ty (.bn (cs.drop (ae * z)))
 | Cv {x i:Operand}{ty t e:TypeId}{z n:Nat}{p:Place}{mP:IntKind}{ae:Nat}(J:bL g x=some (.bm z p n)) (hi:bL g i=some (.lit (.int mP (ae:Int)))) (aG:fm P t e z=true) (aa:ae<n) (eA:hc g (.ptr p (ae * z))):dj P g (.indexAddr t x i) ty (.ptr p (ae * z))
 | Ga {x i:Operand}{ty t e:TypeId}{z lo n:Nat}{p:Place}{mP:IntKind}{ae:Nat}(J:bL g x=some (.sub z p lo n)) (hi:bL g i=some (.lit (.int mP (ae:Int)))) (aG:fm P t e z=true) (aa:ae<n) (eA:hc g (.ptr p ((lo+ae) * z))):dj P g (.indexAddr t x i) ty (.ptr p ((lo+ae) * z))
 | F' {x i:Operand}{ty t e:TypeId}{n z k:Nat}{p:Place}{mP:IntKind}{ae:Nat}(J:bL g x=some (.ptr p k)) (hi:bL g i=some (.lit (.int mP (ae:Int)))) (aG:Bm P t e n z=true) (aa:ae<n) (eA:hc g (.ptr p (k+ae * z))):dj P g (.indexAddr t x i) ty (.ptr p (k+ae * z))
 | F_ {x i:Operand}{ty t e:TypeId}{n z:Nat}{cs:List ag}{mP:IntKind}{ae:Nat}(J:bL g x=some (.bn cs)) (hi:bL g i=some (.lit (.int mP (ae:Int)))) (aG:Bm P t e n z=true) (aa:ae<n):dj P g (.indexAddr t x i) ty (.bn (cs.drop (ae * z)))
 | CH {x:Operand}{ty t:TypeId}{c:ag}{cs:List ag}(J:bL g x=some (.bn (c::cs))) (aG:hr P t=true):dj P g (.load t x) ty c
 | CI {x:Operand}{ty t:TypeId}{k:Nat}{cs:List ag}(J:bL g x=some (.bn cs)) (aG:iH P t k=true) (hk:k<=cs.length):dj P g (.load t x) ty (.agg (cs.take k))
 | zH {x:Operand}{ty t:TypeId}{p:Place}{k:Nat}{y:ag}(J:bL g x=some (.ptr p k)) (aG:hr P t=true) (ay:b8 g (p.push k)=some y):dj P g (.load t x) ty (h_ 0 (p.push k) y)
 | xm {x:Operand}{ty t:TypeId}{p:Place}{k m z n:Nat}{y:ag}{cs:List ag}(J:bL g x=some (.ptr p k)) (aG:iH P t m=true) (ay:b8 g p=some y) (ab:y=.own z n cs\/y=.obj cs) (hm:k+m<=cs.length):dj P g (.load t x) ty (.agg (((cs.drop k).take m).mapIdx λi x=>h_ 0 (p.push (k+i)) x))
 | Cx {x i:Operand}{ty t:TypeId}{s:ByteArray}{mP:IntKind}{ae:Nat}{b:UInt8}(J:bL g x=some (.lit (.string s))) (hi:bL g i=some (.lit (.int mP (ae:Int)))) (aG:pW P t=true) (aI:s[ae]?=some b):dj P g (.index t x i) ty (.lit (.int .u8 b.toNat))
 | bin {op:BinOp}{x y:Operand}{ty t t2:TypeId}{a b v:Value}(J:bL g x=some (.lit a)) (ay:bL g y=some (.lit b)) (hv:v.oneCell'=true) (aw:∀ w,(do eqGuard op t x y a b; binOp op t a b:Sem Value).run P w=.ok v w):dj P g (.binOp op t x y t2) ty (.lit v)
 | yj {op:BinOp}{x y:Operand}{ty t t2:TypeId}{dv dF:List Value}{v:Value}(J:bL g x=some (.agg (dv.map .lit))) (ay:bL g y=some (.agg (dF.map .lit))) (hv:v.oneCell'=true) (aw:∀ w,(do eqGuard op t x y (.agg dv.toArray) (.agg dF.toArray); binOp op t (.agg dv.toArray) (.agg dF.toArray):Sem Value).run P w=.ok v w):dj P g (.binOp op t x y t2) ty (.lit v)
 | un {op:UnOp}{x:Operand}{ty t:TypeId}{a v:Value}(J:bL g x=some (.lit a)) (hv:v.oneCell'=true) (aw:∀ w,(Op.unary op a).run P w=.ok v w):dj P g (.unOp op t x) ty (.lit v)
 | conv {x:Operand}{ty s d:TypeId}{a v:Value}(J:bL g x=some (.lit a)) (hv:v.oneCell'=true) (aw:∀ w,(convert s d a).run P w=.ok v w):dj P g (.convert s d x) ty (.lit v)
 | BH {x:Operand}{ty s d:TypeId}{n N:Nat}{p:Place}{cs:List ag}{xs:List Int}(J:bL g x=some (.bm 1 p n)) (aF:b8 g p=some (.own 1 N cs)) (aN:n<=N) (hx:cs.take n=xs.map λb=>.lit (.int .u8 b)) (aG:uy P s d=true):dj P g (.convert s d x) ty (.lit (.string (strOfNums xs)))
 | BI {x:Operand}{ty s d:TypeId}{n:Nat}{xs:List Int}(J:bL g x=some (.aD 1 n (xs.map λb=>.lit (.int .u8 b)))) (aG:uy P s d=true):dj P g (.convert s d x) ty (.lit (.string (strOfNums xs)))
 | Ep {xs:Array Operand}{ir:Array TypeId}{ty:TypeId}{f:FuncId}{vs:List Value}{v:Value}(J:xs.toList.map (bL g)=vs.map λv=>some (.lit v)) (hv:v.oneCell'=true)
   (aw:∀ w,(callFunc f vs.toArray).run P w=.ok (.value v) w):dj P g (.call { callee:=.value (.func f),args:=xs,argTypes:=ir }) ty (.lit v)
 | BN {x:Operand}{ty:TypeId}{i:Nat}{cs:List ag}{y:ag}(J:bL g x=some (.cw cs)) (ay:cs[i]?=some y):dj P g (.extract x i) ty y
 | AM {x:Operand}{lo hi:Option Operand}{ty t e:TypeId}{z n l h:Nat}{cs:List ag}(J:bL g x=some (.aD z n cs)) (ao:ox g 0 lo l) (b9:ox g n hi h) (aG:fm P t e z=true) (re:l<=h) (aN:h<=n):dj P g (.slice t x lo hi none) ty (.aD z (h - l) ((cs.drop (l * z)).take ((h - l) * z)))
 | Dc {x:Operand}{lo hi:Option Operand}{ty t e:TypeId}{z n h:Nat}{p:Place}(J:bL g x=some (.bm z p n)) (ao:ox g 0 lo 0) (b9:ox g n hi h) (aG:fm P t e z=true) (aN:h<=n) (eA:hc g (.bm z p h)):dj P g (.slice t x lo hi none) ty (.bm z p h)
 | Db {x:Operand}{lo hi:Option Operand}{ty t e:TypeId}{z n l h:Nat}{p:Place}(J:bL g x=some (.bm z p n)) (ao:ox g 0 lo l) (b9:ox g n hi h) (aG:fm P t e z=true) (re:l<=h) (aN:h<=n) (eA:hc g (.sub z p l (h - l))):dj P g (.slice t x lo hi none) ty (.sub z p l (h - l))
 | Dd {x:Operand}{lo hi:Option Operand}{ty t:TypeId}{l h:Nat}{s:ByteArray}(J:bL g x=some (.lit (.string s))) (ao:ox g 0 lo l) (b9:ox g s.size hi h) (aG:pW P t=true) (re:l<=h) (aN:h<=s.size):dj P g (.slice t x lo hi none) ty (.lit (.string (s.extract l h)))
 | zF {x:Operand}{ty t e:TypeId}{z cG n:Nat}{cs:List ag}(J:bL g x=some (.aD z n cs)) (aG:fm P t e cG=true):dj P g (.call { callee:=.builtin .len,args:=#[x],argTypes:=#[t] }) ty (.lit (.int .i64 n))
 | zE {x:Operand}{ty t e:TypeId}{z cG n:Nat}{p:Place}(J:bL g x=some (.bm z p n)) (aG:fm P t e cG=true):dj P g (.call { callee:=.builtin .len,args:=#[x],argTypes:=#[t] }) ty (.lit (.int .i64 n))
 | Gv {x:Operand}{ty t e:TypeId}{z cG lo n:Nat}{p:Place}(J:bL g x=some (.sub z p lo n)) (aG:fm P t e cG=true):dj P g (.call { callee:=.builtin .len,args:=#[x],argTypes:=#[t] }) ty (.lit (.int .i64 n))
 | Gu {x:Operand}{ty t e:TypeId}{cG:Nat}(J:bL g x=some .aJ) (aG:fm P t e cG=true):dj P g (.call { callee:=.builtin .len,args:=#[x],argTypes:=#[t] }) ty (.lit (.int .i64 0))
 | lits {b:Builtin}{xs:Array Operand}{ir:Array TypeId}{ty:TypeId}{vs:List Value}{v:Value}(J:xs.toList.map (bL g)=vs.map λv=>some (.lit v)) (hv:v.oneCell'=true)
   (aw:∀ w (cs:Array Bool),(builtin b ir ty cs vs.toArray).run P w=.ok (.value v) w):dj P g (.call { callee:=.builtin b,args:=xs,argTypes:=ir }) ty (.lit v)
 | Gw {x y:Operand}{ty t:TypeId}{p:Place}{q:Array MapEntry->Nat->Prop}{ok:Bool}{Y X:ag}{o1 V:Value}(J:bL g x=some (.iK p)) (aF:b8 g p=some (.mp q)) (ay:bL g y=some Y)
   (eC:∀ (w:World) (I:bt) (ρ:ag->Value->Prop) (v:Value),R w I ρ Y v cS->v=o1) (bh:∀ (w:World) (I:bt) (ρ:ag->Value->Prop),R w I ρ X V cS)
   (aw:∀ (w:World) (b:Nat) (es:Array MapEntry) (clock:Nat),w.heap[b]?=some (.map es clock)->q es clock->(Instr.lookup t (.map (some b)) o1 ok).run P w=.ok V w):dj P g (.lookup t x y ok) ty X
 | zG {x y:Operand}{ty t:TypeId}{q:Array MapEntry->Nat->Prop}{ok:Bool}{Y X:ag}{o1 V:Value}(J:bL g x=some (.imp q)) (ay:bL g y=some Y)
   (eC:∀ (w:World) (I:bt) (ρ:ag->Value->Prop) (v:Value),R w I ρ Y v cS->v=o1) (bh:∀ (w:World) (I:bt) (ρ:ag->Value->Prop),R w I ρ X V cS)
   (aw:∀ (w:World) (b:Nat) (es:Array MapEntry) (clock:Nat),w.heap[b]?=some (.map es clock)->q es clock->(Instr.lookup t (.map (some b)) o1 ok).run P w=.ok V w):dj P g (.lookup t x y ok) ty X
theorem R.SS {w:World}{I:bt}{ρ:ag->Value->Prop}{p:Place}{v:Value}{F:bt}(h:R w I ρ (.iK p) v F):ρ (.iK p) v:=by
 cases h with
 | ref _ h _=>exact h
theorem R.SR {w:World}{I:bt}{ρ:ag->Value->Prop}{q:Array MapEntry->Nat->Prop}{v:Value}{F:bt}(h:R w I ρ (.mp q) v F):∃ b es clock,v=.map (some b)/\w.heap[b]?=some (.map es clock)/\q es clock/\∀ c,F c↔c=b:=by
 cases h with
 | ref J=>simp [ag.isRef] at J
 | mp bf bP aQ=>exact ⟨_,_,_,rfl,bf,bP,aQ⟩
theorem R.SQ {w:World}{I:bt}{ρ:ag->Value->Prop}{q:Array MapEntry->Nat->Prop}{v:Value}{F:bt}(h:R w I ρ (.imp q) v F):∃ b es clock,v=.map (some b)/\w.heap[b]?=some (.map es clock)/\q es clock:=by
 cases h with
 | ref J=>simp [ag.isRef] at J
 | imp _ _ bf bP=>exact ⟨_,_,_,rfl,bf,bP⟩
end Go.Own
namespace Go.Own
open Go
section
variable {P:Program}{w:World}{I:bt}{T:Array Value}{g:aU}{Fs:Nat->bt}
theorem ox.sound (h:cW w I T g Fs) {d:Nat}{x:Option Operand}{ae:Nat}(aI:ox g d x ae) {a:Act}(bg:a.tmps=T):(x.map a.eval=none/\ae=d)\/∃ k,x.map a.eval=some (.int k (ae:Int)):=by
 cases x with
 | none=>exact .inl ⟨rfl,aI⟩
 | some o =>
  obtain ⟨k,hk⟩:=aI
  exact .inr ⟨k,by rw [Option.map_some,(kT h hk bg).h9.1]⟩
theorem C8 {len cap l h:Nat}{lo hi:Option Value}(ao:(lo=none/\l=0)\/∃ k,lo=some (.int k (l:Int))) (b9:(hi=none/\h=len)\/∃ k,hi=some (.int k (h:Int))) (b:Bool) (re:l<=h) (ab:h<=cap) :
  (Instr.sliceBounds b len cap lo hi none).run P w=.ok (l,h,cap) w:=by
 rcases ao with ⟨rfl,rfl⟩ | ⟨k,rfl⟩ <;> rcases b9 with ⟨rfl,rfl⟩ | ⟨k',rfl⟩ <;> simp [Instr.sliceBounds,Instr.sliceBound,asIntOf,re,ab]
theorem Lc (h:cW w I T g Fs) {a:Act}(bg:a.tmps=T):∀ (xs:List Operand) (vs:List Value),xs.map (bL g)=vs.map (λv=>some (.lit v))->xs.map a.eval=vs
 | [],[],_=>rfl
 | [],_::_,h=>by simp at h
 | _::_,[],h=>by simp at h
 | x::xs,v::vs,J=>by
  simp only [List.map_cons,List.cons.injEq] at J
  rw [List.map_cons,(kT h J.1 bg).h9.1,Lc h bg xs vs J.2]
theorem H9 {w:World}{I:bt}{ρ:ag->Value->Prop}{v:Value}{dv:List Value}
  (h:∃ vs:Array Value,v=.agg vs/\(dv.map ag.lit).length=vs.size/\(∀ (k:Nat) (u:Value),vs[k]?=some u->u.oneCell'=true)/\∀ (k:Nat) (x:ag) (u:Value),(dv.map ag.lit)[k]?=some x->vs[k]?=some u->R w I ρ x u cS):v=.agg dv.toArray:=by
 obtain ⟨vs,rfl,ao,-,aw⟩:=h
 congr 1
 apply Array.ext (by simpa using ao.symm)
 intro i h1 al
 have aR:i<dv.length:=by simpa using al
 have:=(aw i (.lit dv[i]) vs[i] (by simp [aR]) (Array.getElem?_eq_getElem h1)).h9.1
 simpa using this
theorem dj.sound (h:cW w I T g Fs) {a:Act}(bg:a.tmps=T) {o:Oper}{j5:ag}(aF:dj P g o.op o.type j5) :
  ∃ v,(execOp a.eval o).run P w=.ok (.value v) w/\R w I (ej w T g) j5 v cS:=by
 obtain ⟨dst,op,ty,pos,after,guard⟩:=o
 simp only at aF
 have f':∀ {x:Operand}{y:ag},bL g x=some y->R w I (ej w T g) y (a.eval x) cS:=λay=>kT h ay bg
 have no:∀ c,¬ cS c:=λ_ h=>h
 cases aF with
 | move J=>exact ⟨_,by simp [execOp],f' J⟩
 | assign J=>exact ⟨_,by simp [execOp],f' J⟩
 | @pick c x y _ t r ab aw =>
  have tp:=(f' ab).h9.1
  refine ⟨_,?_,f' aw⟩
  simp [execOp,tp,asBool]
  cases t <;> rfl
 | @CL x _ p k J =>
  have aw:=f' J
  obtain ⟨⟨u,ad,h1,al,aR⟩,b3⟩:=aw.mN
  exact ⟨_,by simp [execOp,aR],aR ▸ aw⟩
 | @o3 x _ cs J =>
  have aw:=f' J
  obtain ⟨ad,us,aR,_⟩:=aw.vg
  exact ⟨_,by simp [execOp,aR],aR ▸ aw⟩
 | @yL x _ s t f off p k J bj eA =>
  obtain ⟨⟨u,ad,h1,al,aR⟩,b3⟩:=(f' J).mN
  refine ⟨.pointer (some ⟨ad.block,ad.off+k+off,none⟩),by simp [execOp,aR,LW bj],.ref rfl ⟨⟨u,ad,h1,al,by rw [Nat.add_assoc]⟩,eA⟩ no⟩
 | @BX x _ s t f off cs J bj =>
  obtain ⟨ad,us,aR,bs,aP,gx,ab,aw⟩:=(f' J).vg
  obtain ⟨b,o,sp⟩:=ad
  simp only at aP
  subst aP
  refine ⟨.pointer (some ⟨b,o+off,none⟩),by simp [execOp,aR,LW bj],.bn (us:=λk=>us (off+k)) no bs rfl (λk x hk=>gx _ x (by rwa [List.getElem?_drop] at hk)) (λk x hk=>?_) λk x hk=>?_⟩
  ·rw [List.getElem?_drop] at hk; simpa [Nat.add_assoc] using ab _ x hk
  ·rw [List.getElem?_drop] at hk; exact aw _ x hk
 | @BW x _ s t f off cs y J bj aG ay =>
  obtain ⟨vs,aR,ao,gx,aw⟩:=(f' J).zx no
  obtain ⟨fs,fd,hu,Fg,rfl,rfl,i,hi,bc⟩:=Ew bj
  have hk:fd.offset<cs.length:=(List.getElem?_eq_some_iff.1 ay).1
  have hv:vs[fd.offset]?=some vs[fd.offset]:=Array.getElem?_eq_getElem (ao ▸ hk)
  refine ⟨_,?_,aw _ j5 _ ay hv⟩
  simp [execOp,aR,Instr.field,run_underlying hu,Fg,asAgg,part,(D5 (w:=w) aG).1,hv]
 | @Ev x _ s t f off k cs J bj aG hk =>
  obtain ⟨vs,aR,ao,gx,aw⟩:=(f' J).zx no
  obtain ⟨fs,fd,hu,Fg,rfl,rfl,i,hi,bc⟩:=Ew bj
  refine ⟨.agg (vs.extract fd.offset (fd.offset+k)),?_,.agg (Fs:=λ_=>cS) (by simp [ao]; omega) (λae u fG=>by
   rw [Array.getElem?_extract] at fG
   split at fG
   ·exact gx _ u fG
   ·cases fG) (λae y u ay fG=>?_) (λ_ _ _ _ _ h=>h.elim) (λc=>⟨λh=>h.elim,λ⟨_,_,h⟩=>h⟩)⟩
  ·simp [execOp,aR,Instr.field,run_underlying hu,Fg,asAgg,part,(Bk (w:=w) aG).1,(Bk (w:=w) aG).2]
  ·rw [List.getElem?_take] at ay
   split at ay
   ·rw [List.getElem?_drop] at ay
    rw [Array.getElem?_extract] at fG
    split at fG
    ·exact aw _ y u ay fG
    ·cases fG
   ·cases ay
 | @Cw x i _ t e z n cs mP ae J hi aG aa =>
  obtain ⟨hu,he,bG⟩:=pa (w:=w) aG
  obtain ⟨kH,cap,aR,_,ao,hm⟩:=(f' J).xj
  obtain ⟨ad,us,rfl,bs,aP,gx,ab,aw⟩:=hm (.inr (by omega))
  obtain ⟨b,o,sp⟩:=ad
  simp only at aP
  subst aP
  have qg:=(f' hi).h9.1
  refine ⟨.pointer (some ⟨b,o+ae * z,none⟩),?_,.bn (us:=λk=>us (ae * z+k)) no bs rfl (λk x hk=>gx _ x (by rwa [List.getElem?_drop] at hk)) (λk x hk=>?_) λk x hk=>?_⟩
  ·simp [execOp,aR,qg,Instr.indexAt,run_underlying hu,asIntOf,aa,bG,add_eq]
  ·rw [List.getElem?_drop] at hk; simpa [Nat.add_assoc] using ab _ x hk
  ·rw [List.getElem?_drop] at hk; exact aw _ x hk
 | @Cv x i _ t e z n p mP ae J hi aG aa eA =>
  obtain ⟨hu,he,bG⟩:=pa (w:=w) aG
  obtain ⟨⟨kH,N,cap,h1,al,aR⟩,b3⟩:=(f' J).mj
  have qg:=(f' hi).h9.1
  obtain ⟨y,ay,js,hU,cs,eH,bd⟩:=eA
  obtain ⟨v,cJ,hv,dQ,_⟩:=h.part ay (by rcases eH with rfl | rfl <;> simp)
  rw [h1] at hv
  cases hv
  obtain ⟨b,u,fR,ll,_,_⟩:=dQ.node eH (List.getElem?_eq_getElem bd)
  cases kH with
  | none=>simp [addrOf] at fR
  | some ad =>
   simp only [addrOf,Option.some.injEq] at fR
   subst fR
   refine ⟨.pointer (some ⟨b,ae * z,none⟩),?_,.ref rfl ⟨⟨_,_,h1,rfl,by simp⟩,y,ay,js,hU,cs,eH,bd⟩ no⟩
   simp [execOp,al,qg,Instr.indexAt,run_underlying hu,asIntOf,aa,bG,add_eq]
 | @Ga x i _ t e z lo n p mP ae J hi aG aa eA =>
  obtain ⟨hu,he,bG⟩:=pa (w:=w) aG
  obtain ⟨⟨kH,N,cap,cy,lG,h1,al,_,aR,c3⟩,b3⟩:=(f' J).vh
  obtain ⟨ad,rfl,rfl⟩:=c3 (by omega)
  have qg:=(f' hi).h9.1
  obtain ⟨y,ay,js,hU,cs,eH,bd⟩:=eA
  obtain ⟨v,cJ,hv,dQ,_⟩:=h.part ay (by rcases eH with rfl | rfl <;> simp)
  rw [h1] at hv
  cases hv
  obtain ⟨b,u,fR,ll,_,_⟩:=dQ.node eH (List.getElem?_eq_getElem bd)
  simp only [addrOf,Option.some.injEq] at fR
  subst fR
  refine ⟨.pointer (some ⟨b,(lo+ae) * z,none⟩),?_,.ref rfl ⟨⟨_,_,h1,rfl,by simp⟩,y,ay,js,hU,cs,eH,bd⟩ no⟩
  simp [execOp,al,qg,Instr.indexAt,run_underlying hu,asIntOf,aa,bG,add_eq,Nat.add_mul]
 | @F' x i _ t e n z k p mP ae J hi aG aa eA =>
  obtain ⟨hu,bG⟩:=Il (w:=w) aG
  obtain ⟨⟨u,ad,h1,al,aR⟩,b3⟩:=(f' J).mN
  have qg:=(f' hi).h9.1
  refine ⟨.pointer (some ⟨ad.block,ad.off+k+ae * z,none⟩),?_,.ref rfl ⟨⟨u,ad,h1,al,by rw [Nat.add_assoc]⟩,eA⟩ no⟩
  simp [execOp,aR,qg,Instr.indexAt,run_underlying hu,Instr.sureAddr,asIntOf,aa,bG,add_eq]
 | @F_ x i _ t e n z cs mP ae J hi aG aa =>
  obtain ⟨hu,bG⟩:=Il (w:=w) aG
  obtain ⟨ad,us,aR,bs,aP,gx,ab,aw⟩:=(f' J).vg
  obtain ⟨b,o,sp⟩:=ad
  simp only at aP
  subst aP
  have qg:=(f' hi).h9.1
  refine ⟨.pointer (some ⟨b,o+ae * z,none⟩),?_,.bn (us:=λk=>us (ae * z+k)) no bs rfl (λk x hk=>gx _ x (by rwa [List.getElem?_drop] at hk)) (λk x hk=>?_) λk x hk=>?_⟩
  ·simp [execOp,aR,qg,Instr.indexAt,run_underlying hu,Instr.sureAddr,asIntOf,aa,bG,add_eq]
  ·rw [List.getElem?_drop] at hk; simpa [Nat.add_assoc] using ab _ x hk
  ·rw [List.getElem?_drop] at hk; exact aw _ x hk
 | @CH x _ t c cs J aG =>
  obtain ⟨ad,us,aR,bs,aP,gx,ab,aw⟩:=(f' J).vg
  obtain ⟨b,o,sp⟩:=ad
  simp only at aP
  subst aP
  have bc:w.cell? ⟨b,o,none⟩=some (us 0):=by simpa using ab 0 j5 rfl
  exact ⟨us 0,by simp [execOp,aR,LY aG bc],aw 0 j5 rfl⟩
 | @CI x _ t k cs J aG hk =>
  obtain ⟨ad,us,aR,bs,aP,gx,ab,aw⟩:=(f' J).vg
  obtain ⟨b,o,sp⟩:=ad
  simp only at aP
  subst aP
  have RB:∀ ae v,((List.range k).map us)[ae]?=some v->w.cell? ⟨b,o+ae,none⟩=some v:=by
   intro ae v aa
   rw [List.getElem?_map] at aa
   by_cases eM:ae<k
   ·rw [List.getElem?_range eM] at aa
    simp only [Option.map_some,Option.some.injEq] at aa
    rw [<- aa]
    exact ab ae _ (List.getElem?_eq_getElem (by omega))
   ·rw [List.getElem?_eq_none (by simp; omega)] at aa; cases aa
  refine ⟨.agg ((List.range k).map us).toArray,by simp [execOp,aR,LX aG (by simp) RB],.agg (Fs:=λ_=>cS) (by simp; omega) (λae u fG=>by
   simp only [List.getElem?_toArray,List.getElem?_map] at fG
   by_cases eM:ae<k
   ·rw [List.getElem?_range eM] at fG
    simp only [Option.map_some,Option.some.injEq] at fG
    rw [<- fG]
    exact gx ae _ (List.getElem?_eq_getElem (by omega))
   ·rw [List.getElem?_eq_none (by simp; omega)] at fG; cases fG) (λae y u ay fG=>?_) (λ_ _ _ _ _ h=>h.elim) (λc=>⟨λh=>h.elim,λ⟨_,_,h⟩=>h⟩)⟩
  rw [List.getElem?_take] at ay
  split at ay
  ·rename_i eM
   simp [eM] at fG
   rw [<- fG]
   exact aw ae y ay
  ·cases ay
 | @zH x _ t p k y J aG ay =>
  obtain ⟨⟨u,ad,h1,al,aR⟩,b3⟩:=(f' J).mN
  rw [rP] at ay
  cases aN:b8 g p with
  | none=>rw [aN] at ay; cases ay
  | some nd =>
   rw [aN] at ay
   simp only [Option.bind_some] at ay
   obtain ⟨y',mi,js,hU,cs,eH,bd⟩:=b3
   rw [aN] at mi
   cases mi
   obtain ⟨v,cJ,hv,dQ,dz⟩:=h.part aN (by rcases eH with rfl | rfl <;> simp)
   rw [h1] at hv
   cases hv
   have ik:cs[k]?=some y:=by rcases eH with rfl | rfl <;> simpa [ag.kids] using ay
   obtain ⟨b,gA,fR,ll,lM,gx,bR,jW⟩:=dQ.node eH ik
   rw [fR] at al
   cases al
   refine ⟨gA,by simp only [execOp,aR]; simp [LY aG ll],C4 0 (by rw [rP,aN]; exact ay) (by rw [vY,h1]; exact lM) jW⟩
 | @xm x _ t p k m z n y cs J aG ay eH hm =>
  obtain ⟨⟨u,ad,h1,al,aR⟩,b3⟩:=(f' J).mN
  obtain ⟨v,cJ,hv,dQ,dz⟩:=h.part ay (by rcases eH with rfl | rfl <;> simp)
  rw [h1] at hv
  cases hv
  have tm:∃ b,ad=⟨b,0,none⟩:=by
   obtain ⟨y',mi,js,hU,cs',K3,bd⟩:=b3
   rw [ay] at mi
   cases mi
   have:cs'=cs:=by rcases eH with rfl | rfl <;> rcases K3 with b9 | b9 <;> cases b9 <;> rfl
   subst this
   obtain ⟨b,gA,fR,_⟩:=dQ.node K3 (List.getElem?_eq_getElem bd)
   rw [fR] at al
   exact ⟨b,(Option.some.inj al).symm⟩
  obtain ⟨b,rfl⟩:=tm
  have Ft:y.kids=cs:=by rcases eH with rfl | rfl <;> rfl
  have cell:∀ ae,ae<m->∃ gA,w.cell? ⟨b,k+ae,none⟩=some gA/\gA.oneCell'=true/\∃ ke,cs[k+ae]?=some ke/\R w I (ej w T g) (h_ 0 (p.push (k+ae)) ke) gA cS:=by
   intro ae aa
   have gk:cs[k+ae]?=some cs[k+ae]:=List.getElem?_eq_getElem (by omega)
   obtain ⟨iI,gA,fR,ll,lM,gx,bR,jW⟩:=dQ.node eH gk
   rw [al] at fR
   cases fR
   exact ⟨gA,ll,gx,_,gk,C4 0 (by rw [rP,ay]; simp [Ft]) (by rw [vY,h1]; exact lM) jW⟩
  have hex:∃ us:List Value,us.length=m/\∀ ae v,us[ae]?=some v->w.cell? ⟨b,k+ae,none⟩=some v:=by
   refine ⟨(List.range m).map λae=>(w.cell? ⟨b,k+ae,none⟩).getD undef,by simp,?_⟩
   intro ae v aa
   rw [List.getElem?_map] at aa
   by_cases w5:ae<m
   ·rw [List.getElem?_range w5] at aa
    simp only [Option.map_some,Option.some.injEq] at aa
    obtain ⟨gA,ab,_⟩:=cell ae w5
    rw [ab] at aa
    simp only [Option.getD_some] at aa
    rw [ab,aa]
   ·rw [List.getElem?_eq_none (by simp; omega)] at aa; cases aa
  obtain ⟨us,ql,FR⟩:=hex
  refine ⟨.agg us.toArray,by simp only [execOp,aR]; simp [LX aG ql (b:=b) (o:=k) FR],.agg (Fs:=λ_=>cS) (by simp; omega) (λae u fG=>by
   have aa:=FR ae u (by simpa using fG)
   have w5:ae<m:=by rw [<- ql]; exact (List.getElem?_eq_some_iff.1 (by simpa using fG:us[ae]?=some u)).1
   obtain ⟨gA,ab,yQ,_⟩:=cell ae w5
   rw [ab] at aa; cases aa; exact yQ) (λae jF u mM fG=>?_) (λ_ _ _ _ _ h=>h.elim) (λc=>⟨λh=>h.elim,λ⟨_,_,h⟩=>h⟩)⟩
  rw [List.getElem?_mapIdx,List.getElem?_take] at mM
  split at mM
  ·rename_i w5
   rw [List.getElem?_drop] at mM
   obtain ⟨gA,ab,_,ke,SA,bh⟩:=cell ae w5
   rw [SA] at mM
   simp only [Option.map_some,Option.some.injEq] at mM
   subst mM
   have:=FR ae u (by simpa using fG)
   rw [ab] at this
   cases this
   exact bh
  ·cases mM
 | @BH x _ s d n N p cs xs J aF aN hx aG =>
  obtain ⟨e,aP,he,aV⟩:=Iy aG
  obtain ⟨⟨kH,iO,cap,h1,al,aR⟩,_⟩:=(f' J).mj
  obtain ⟨v,cJ,hv,dQ,dz⟩:=h.part aF (by simp)
  rw [h1] at hv
  cases hv
  have hK:(cs.take n).length=n:=by
   obtain ⟨_,_,_,ao⟩:=dQ.mq
   rw [List.length_take]; omega
  have hlen:xs.length=n:=by rw [<- hK,hx,List.length_map]
  refine ⟨_,?_,.lit rfl no⟩
  obtain ⟨_,_,jZ,_,_,pH,rh⟩:=dQ.mq
  cases jZ
  cases kH with
  | none =>
   have bc:n=0:=by
    rcases Nat.eq_zero_or_pos N with h | h
    ·omega
    ·exact absurd (rh h) (by simp)
   have:xs=[]:=List.eq_nil_of_length_eq_zero (hlen.trans bc)
   subst this
   have aw:=run_convert_bytes_nil (P:=P) (w:=w) s e aP he n cap d aV
   simp [execOp,al,aw]
   rfl
  | some ad =>
   obtain ⟨b,o,sp⟩:=ad
   obtain ⟨rfl,rfl⟩:=pH _ rfl
   have aw:=run_convert_bytes_arg (P:=P) w s e aP he b 0 n cap xs hlen (λi hi=>by
    have y7:(cs.take n)[i]?=some (.lit (.int .u8 (xs.getD i 0))):=by
     rw [hx,List.getElem?_map,List.getElem?_eq_getElem (by omega)]
     simp [List.getD,List.getElem?_eq_getElem (show i<xs.length by omega)]
    have Ra:cs[i]?=some (.lit (.int .u8 (xs.getD i 0))):=by
     rw [List.getElem?_take] at y7
     simpa [hi] using y7
    obtain ⟨iI,u,fR,ll,_,_,bR,jW⟩:=dQ.node (.inl rfl) Ra
    simp only [addrOf,Option.some.injEq,Addr.mk.injEq,and_true] at fR
    subst fR
    rw [Nat.zero_add,ll,jW.h9.1]) d aV
   simp [execOp,al,aw]
 | @BI x _ s d n xs J aG =>
  obtain ⟨e,aP,he,aV⟩:=Iy aG
  have bh:=f' J
  generalize pF:a.eval x=v at bh
  refine ⟨_,?_,.lit rfl no⟩
  generalize hx:(xs.map λb=>ag.lit (.int .u8 b))=cs at bh
  cases bh with
  | ref J=>simp [ag.isRef] at J
  | @hM _ cap kH _ aQ =>
   have:xs=[]:=by simpa using hx
   subst this
   cases kH with
   | none =>
    have aw:=run_convert_bytes_nil (P:=P) (w:=w) s e aP he 0 cap d aV
    simp [execOp,pF,aw]
    rfl
   | some ad =>
    have ao:(loadCells ad 0).run P w=.ok (([]:List Int).map (Value.int .u8)).toArray w:=by
     have:=run_loadCells_list (P:=P) w ad [] (λae v aa=>by simp at aa)
     simpa using this
    have aw:=run_bytesToString w ad 0 cap [] ao
    have ab:=run_convert_bytes_string (P:=P) w s d e (some ad) 0 cap aP he aV
    rw [aw] at ab
    simp [execOp,pF,ab]
    rfl
  | @aD _ _ cap _ ad us _ aQ kM bs xe ao h1 ab aw =>
   obtain ⟨b,o,sp⟩:=ad
   simp only at xe
   subst xe
   have hlen:xs.length=n:=by rw [<- List.length_map (f:=λb=>ag.lit (.int .u8 b)),hx,ao,Nat.mul_one]
   have eQ:=run_convert_bytes_arg (P:=P) w s e aP he b o n cap xs hlen (λi hi=>by
    have y7:cs[i]?=some (.lit (.int .u8 (xs.getD i 0))):=by
     rw [<- hx,List.getElem?_map,List.getElem?_eq_getElem (by omega)]
     simp [List.getD,List.getElem?_eq_getElem (show i<xs.length by omega)]
    have:=ab i _ y7
    simp only at this
    rw [this,(aw i _ y7).h9.1]) d aV
   simp [execOp,pF,eQ]
 | @Ep xs ir _ f vs v J hv aw =>
  refine ⟨v,?_,.lit hv no⟩
  have xf:xs.map a.eval=vs.toArray:=by
   apply Array.toList_inj.1
   apply List.ext_getElem?
   intro k
   have:=congrArg (·[k]?) J
   simp only [List.getElem?_map] at this
   rw [Array.toList_map,List.getElem?_map]
   cases hk:xs.toList[k]? with
   | none =>
    rw [hk] at this
    cases hv:vs[k]? with
    | none=>simp
    | some v=>rw [hv] at this; cases this
   | some o =>
    rw [hk] at this
    cases hv:vs[k]? with
    | none=>rw [hv] at this; cases this
    | some v =>
     rw [hv] at this
     simp only [Option.map_some,Option.some.injEq] at this ⊢
     rw [(f' this).h9.1]
  have bj:a.eval (.func f)=.func (.func f) #[] #[]:=rfl
  simp [execOp,resolve,Deferred.ofValue,invoke,bj,xf,aw]
 | @Cx x i _ t s mP ae b J hi aG aI =>
  have sh:=(f' J).h9.1
  have qg:=(f' hi).h9.1
  refine ⟨.int .u8 b.toNat,?_,.lit rfl no⟩
  simp [execOp,sh,qg,Instr.index,run_underlying (Hn aG),asIntOf,aI]
 | @bin op x y _ t t2 cy b v J ay hv aw =>
  have h1:=(f' J).h9.1
  have al:=(f' ay).h9.1
  refine ⟨v,?_,.lit hv no⟩
  simp only [execOp,h1,al,Sem.run_bind (x:=do eqGuard op t x y cy b; binOp op t cy b),aw,Result.andThen_ok,Sem.run_pure]
 | @yj op x y _ t t2 dv dF v J ay hv aw =>
  have h1:=H9 ((f' J).zx no)
  have al:=H9 ((f' ay).zx no)
  refine ⟨v,?_,.lit hv no⟩
  simp only [execOp,h1,al,Sem.run_bind (x:=do eqGuard op t x y (.agg dv.toArray) (.agg dF.toArray); binOp op t (.agg dv.toArray) (.agg dF.toArray)),aw,Result.andThen_ok,Sem.run_pure]
 | @un op x _ t cy v J hv aw =>
  have h1:=(f' J).h9.1
  exact ⟨v,by simp [execOp,h1,aw],.lit hv no⟩
 | @conv x _ s d cy v J hv aw =>
  have h1:=(f' J).h9.1
  exact ⟨v,by simp [execOp,h1,aw],.lit hv no⟩
 | @BN x _ i cs y J ay =>
  obtain ⟨vs,aR,ao,aw⟩:=(f' J).SU no
  have hk:i<cs.length:=(List.getElem?_eq_some_iff.1 ay).1
  have hv:vs[i]?=some vs[i]:=Array.getElem?_eq_getElem (ao ▸ hk)
  exact ⟨_,by simp [execOp,aR,Instr.extract,hv],aw _ j5 _ ay hv⟩
 | @AM x lo hi _ t e z n l b9 cs J ao tu aG re aN =>
  obtain ⟨hu,he,bG⟩:=pa (w:=w) aG
  obtain ⟨kH,cap,aR,kM,hlen,hm⟩:=(f' J).xj
  have aI:=C8 (P:=P) (w:=w) (len:=n) (cap:=cap) (ao.sound h bg) (tu.sound h bg) true re (by omega)
  have h7:(execOp a.eval { dst:=dst,op:=.slice t x lo hi none,type:=ty,pos:=pos,after:=after,guard:=guard }).run P w=.ok (.value (sliced kH l b9 cap z)) w:=by
   simp [execOp,aR,Instr.sliceAt,run_underlying hu,Instr.slice,aI,bG,sliced]
  refine ⟨_,h7,?_⟩
  by_cases bc:b9 - l=0
  ·rw [bc]
   simp only [Nat.zero_mul,List.take_zero,sliced,bc]
   exact .hM no
  ·obtain ⟨ad,us,rfl,bs,aP,gx,ab,aw⟩:=hm (.inr (by omega))
   obtain ⟨b,o,sp⟩:=ad
   simp only at aP
   subst aP
   have hK:cap≠l:=by omega
   simp only [sliced,hK,if_false,Option.map_some,add_eq]
   have za:((cs.drop (l * z)).take ((b9 - l) * z)).length=(b9 - l) * z:=by
    rw [List.length_take,List.length_drop,hlen]
    have:(b9 - l) * z+l * z<=n * z:=by rw [<- Nat.add_mul]; exact Nat.mul_le_mul_right _ (by omega)
    omega
   refine .aD (us:=λk=>us (l * z+k)) no (by omega) bs rfl za (λk x hk=>gx (l * z+k) x (by
    rw [List.getElem?_take] at hk
    split at hk
    ·rwa [List.getElem?_drop] at hk
    ·cases hk)) (λk x hk=>?_) λk x hk=>?_
   ·rw [List.getElem?_take] at hk
    split at hk
    ·rw [List.getElem?_drop] at hk; simpa [Nat.add_assoc] using ab _ x hk
    ·cases hk
   ·rw [List.getElem?_take] at hk
    split at hk
    ·rw [List.getElem?_drop] at hk; exact aw _ x hk
    ·cases hk
 | @Dc x lo hi _ t e z n b9 p J ao tu aG aN eA =>
  obtain ⟨hu,he,bG⟩:=pa (w:=w) aG
  obtain ⟨⟨kH,N,cap,h1,al,aR⟩,b3⟩:=(f' J).mj
  have kM:N<=cap:=by
   rcases b3 with ⟨iO,cs,c3,eg⟩ | ⟨bc,q,hp,m,new,c3,eg⟩
   ·obtain ⟨v,cJ,hv,dQ,_⟩:=h.part c3 (by simp)
    rw [h1] at hv
    obtain ⟨_,p8,Fi,hle,_⟩:=dQ.mq
    rw [Fi] at hv
    cases hv
    exact hle
   ·obtain ⟨v,hv,dQ⟩:=h.rel _ _ c3
    simp only [ep,hv,bc,walk,Option.some.injEq] at h1
    subst h1
    obtain ⟨bv,cQ,cZ,us,news,dQ⟩:=dQ.tK
    obtain ⟨_,mb⟩:=dQ.mb
    rcases mb with ⟨b9,bc⟩ | ⟨b,c2,cur,b9,_,_,hle,_⟩
    ·cases b9; exact Nat.le_refl _
    ·cases b9; exact hle
  have aI:=C8 (P:=P) (w:=w) (len:=n) (cap:=cap) (ao.sound h bg) (tu.sound h bg) true (Nat.zero_le _) (by omega)
  refine ⟨.slice kH b9 cap,?_,.ref rfl ⟨⟨kH,N,cap,h1,rfl,by omega⟩,eA⟩ no⟩
  simp [execOp,al,Instr.sliceAt,run_underlying hu,Instr.slice,aI,bG]
  cases kH with
  | none=>simp
  | some ad=>simp [Addr.add]
 | @Db x lo hi _ t e z n l b9 p J ao tu aG re aN eA =>
  obtain ⟨hu,he,bG⟩:=pa (w:=w) aG
  obtain ⟨⟨kH,N,cap,h1,al,aR⟩,b3⟩:=(f' J).mj
  obtain ⟨iO,cs,c3,eg⟩:=eA
  obtain ⟨v,cJ,hv,dQ,_⟩:=h.part c3 (by simp)
  rw [h1] at hv
  obtain ⟨a2,p8,Fi,hle,hlen,pH,rh⟩:=dQ.mq
  rw [Fi] at hv
  cases hv
  have aI:=C8 (P:=P) (w:=w) (len:=n) (cap:=cap) (ao.sound h bg) (tu.sound h bg) true re (by omega)
  refine ⟨sliced kH l b9 cap z,?_,.ref rfl ⟨⟨kH,_,cap,_,_,h1,rfl,by omega,by omega,λtB=>?_⟩,_,cs,c3,eg⟩ no⟩
  ·simp [execOp,al,Instr.sliceAt,run_underlying hu,Instr.slice,aI,bG,sliced]
  ·have aP:=rh (by omega)
   cases kH with
   | none=>simp at aP
   | some ad =>
    obtain ⟨bc,kO⟩:=pH ad rfl
    obtain ⟨b,o,sp⟩:=ad
    simp only at bc kO
    subst bc kO
    exact ⟨_,rfl,by rw [if_neg (by omega)]; simp [add_eq]⟩
 | @Dd x lo hi _ t l b9 s J ao tu aG re aN =>
  have sh:=(f' J).h9.1
  have aI:=C8 (P:=P) (w:=w) (len:=s.size) (cap:=s.size) (ao.sound h bg) (tu.sound h bg) false re aN
  exact ⟨.string (s.extract l b9),by simp [execOp,sh,Instr.sliceAt,run_underlying (Hn aG),Instr.slice,aI],.lit rfl no⟩
 | @zF x _ t e z cG n cs J aG =>
  obtain ⟨hu,he,bG⟩:=pa (w:=w) aG
  obtain ⟨kH,cap,aR,_⟩:=(f' J).xj
  exact ⟨_,by simp [execOp,resolve,invoke,builtin,aR,Builtin.len_,run_underlying hu,goInt],.lit rfl no⟩
 | @zE x _ t e z cG n p J aG =>
  obtain ⟨hu,he,bG⟩:=pa (w:=w) aG
  obtain ⟨⟨kH,N,cap,h1,al,aR⟩,b3⟩:=(f' J).mj
  exact ⟨_,by simp [execOp,resolve,invoke,builtin,al,Builtin.len_,run_underlying hu,goInt],.lit rfl no⟩
 | @Gv x _ t e z cG lo n p J aG =>
  obtain ⟨hu,he,bG⟩:=pa (w:=w) aG
  obtain ⟨⟨kH,N,cap,cy,lG,h1,al,_,aR,c3⟩,b3⟩:=(f' J).vh
  exact ⟨_,by simp [execOp,resolve,invoke,builtin,al,Builtin.len_,run_underlying hu,goInt],.lit rfl no⟩
 | @Gu x _ t e cG J aG =>
  obtain ⟨hu,he,bG⟩:=pa (w:=w) aG
  have al:=(f' J).qv
  exact ⟨_,by simp [execOp,resolve,invoke,builtin,al,Builtin.len_,run_underlying hu,goInt],.lit rfl no⟩
 | @lits b xs ir _ vs v J hv aw =>
  have n5:xs.map a.eval=vs.toArray:=by
   apply Array.ext'
   rw [Array.toList_map]
   exact Lc h bg xs.toList vs J
  refine ⟨v,?_,.lit hv no⟩
  simp [execOp,resolve,invoke,n5,aw]
 | @Gw x y _ t p q ok Y _ o1 V J aF ay eC bh aw =>
  obtain ⟨⟨b,aI,hv⟩,_⟩:=(f' J).SS
  obtain ⟨hP,cJ,iU,dQ,_⟩:=h.part aF (by simp)
  rw [aI] at iU
  cases iU
  obtain ⟨iI,es,clock,e,bf,bP,_⟩:=dQ.SR
  cases e
  refine ⟨V,?_,bh _ _ _⟩
  simp [execOp,hv,eC _ _ _ _ (f' ay),aw w _ _ _ bf bP]
 | @zG x y _ t q ok Y _ o1 V J ay eC bh aw =>
  obtain ⟨b,es,clock,hv,bf,bP⟩:=(f' J).SQ
  refine ⟨V,?_,bh _ _ _⟩
  simp [execOp,hv,eC _ _ _ _ (f' ay),aw w _ _ _ bf bP]
end
end Go.Own
namespace Go.Own
open Go
structure Fr (w w':World) (U:bt):Prop where
 os:w'.os=w.os
 tape:w'.tape=w.tape
 output:w'.output=w.output
 size:w.heap.size<=w'.heap.size
 block:∀ b,b<w.heap.size->¬ U b->w'.heap[b]?=w.heap[b]?
 fE:∀ a,a.block<w.heap.size->w'.frozen? a=w.frozen? a
 wS:w.drawn<=w'.drawn
theorem Fr.refl (w:World) (U:bt):Fr w w U:=⟨rfl,rfl,rfl,Nat.le_refl _,λ_ _ _=>rfl,λ_ _=>rfl,Nat.le_refl _⟩
theorem Fr.mono {w w':World}{U Bi:bt}(h:Fr w w' U) (gO:∀ b,b<w.heap.size->U b->Bi b):Fr w w' Bi:=⟨h.os,h.tape,h.output,h.size,λb aI aN=>h.block b aI λhu=>aN (gO b aI hu),h.fE,h.wS⟩
theorem Fr.trans {w jq ia:World}{U wB:bt}(h:Fr w jq U) (h1:Fr jq ia wB) (gO:∀ b,b<w.heap.size->wB b->U b):Fr w ia U :=
 ⟨h1.os.trans h.os,h1.tape.trans h.tape,h1.output.trans h.output,Nat.le_trans h.size h1.size,λb aI aN=>(h1.block b (Nat.lt_of_lt_of_le aI h.size) λhu=>aN (gO b aI hu)).trans (h.block b aI aN),λa bg=>(h1.fE a (Nat.lt_of_lt_of_le bg h.size)).trans (h.fE a bg),Nat.le_trans h.wS h1.wS⟩
theorem qS (w:World) (o:Obj) (k:Nat) (h:k<w.heap.size):(w.alloc o).heap[k]?=w.heap[k]?:=by
 show (w.heap.push o)[k]?=_
 rw [Array.getElem?_push,if_neg (by omega)]
theorem rN (w:World) (o:Obj):(w.alloc o).heap[w.heap.size]?=some o:=by
 show (w.heap.push o)[w.heap.size]?=_
 simp
theorem Ex (w:World) (arr:Array Value) (t:TypeId) (a:Addr):(w.alloc (.cells arr t (0,0))).frozen? a=w.frozen? a:=by
 unfold World.frozen?
 by_cases h:a.block=w.heap.size
 ·rw [h,rN]
  have:w.heap[w.heap.size]?=none:=by simp
  rw [this]
  simp
 ·by_cases al:a.block<w.heap.size
  ·rw [qS w _ _ al]
  ·have aR:(w.alloc (.cells arr t (0,0))).heap[a.block]?=none:=by
    show (w.heap.push _)[a.block]?=_
    rw [Array.getElem?_eq_none]
    simp; omega
   have b3:w.heap[a.block]?=none:=Array.getElem?_eq_none (by omega)
   rw [aR,b3]
theorem Ez (w:World) (g:Nat) (cs:Array Value) (a:Addr):(w.setRow g cs).frozen? a=w.frozen? a:=by
 unfold World.frozen? World.setRow
 simp only [Array.getElem?_modify]
 by_cases h:g=a.block
 ·subst h
  rw [if_pos rfl]
  cases b9:w.heap[a.block]? with
  | none=>rfl
  | some o=>cases o <;> rfl
 ·rw [if_neg h]
theorem PN (w:World) (es:Array MapEntry) (n:Nat) (a:Addr):(w.alloc (.map es n)).frozen? a=w.frozen? a:=by
 unfold World.frozen?
 by_cases h:a.block=w.heap.size
 ·rw [h,rN]
  have:w.heap[w.heap.size]?=none:=by simp
  rw [this]
 ·by_cases al:a.block<w.heap.size
  ·rw [qS w _ _ al]
  ·have aR:(w.alloc (.map es n)).heap[a.block]?=none:=by
    show (w.heap.push _)[a.block]?=_
    rw [Array.getElem?_eq_none]
    simp; omega
   have b3:w.heap[a.block]?=none:=Array.getElem?_eq_none (by omega)
   rw [aR,b3]
def LD (o:Obj):Prop:=(∃ arr e,o=.cells arr e (0,0))\/∃ es n,o=.map es n
theorem Fr.alloc (w:World) (o:Obj) (U:bt) (bf:LD o):Fr w (w.alloc o) U:=by
 refine ⟨rfl,rfl,rfl,by simp,λb aI _=>qS w o b aI,λa _=>?_,Nat.le_refl _⟩
 rcases bf with ⟨arr,e,rfl⟩ | ⟨es,n,rfl⟩
 ·exact Ex w arr e a
 ·exact PN w es n a
theorem R.Ty {w:World}{I:bt}{ρ:ag->Value->Prop}{x:ag}{v:Value}{F:bt}(h:R w I ρ x v F):∀ c,F c->∃ o,w.heap[c]?=some o/\LD o:=by
 induction h with
 | mp bf _ aQ =>
  intro c ab
  cases (aQ c).1 ab
  exact ⟨_,bf,.inr ⟨_,_,rfl⟩⟩
 | lit _ aQ | aJ aQ | dead aQ | ref _ _ aQ | hM aQ | aD aQ | bn aQ | ef aQ | imp aQ=>exact λc ab=>absurd ab (aQ c)
 | own bf ao h1 aw aV aI aQ aS =>
  intro c ab
  rcases (aQ c).1 ab with h | ⟨k,hk,h⟩
  ·obtain ⟨_,b9⟩:=bf
   rcases b9 with ⟨rfl,_⟩ | ⟨b,cap,cur,rfl,_,gm,_⟩
   ·simp [Value.ownBlock] at h
   ·simp only [Value.ownBlock,Option.some.injEq] at h
    subst h
    exact ⟨_,gm,.inl ⟨_,_,rfl⟩⟩
  ·exact aS k _ _ (List.getElem?_eq_getElem hk) (List.getElem?_eq_getElem (ao ▸ hk)) c h
 | obj bf ao h1 aw aV aI aQ aS =>
  intro c ab
  rcases (aQ c).1 ab with rfl | ⟨k,hk,h⟩
  ·exact ⟨_,bf,.inl ⟨_,_,rfl⟩⟩
  ·exact aS k _ _ (List.getElem?_eq_getElem hk) (Array.getElem?_eq_getElem (ao ▸ hk)) c h
 | agg ao h1 aw aV aQ aS =>
  intro c ab
  obtain ⟨k,hk,h⟩:=(aQ c).1 ab
  exact aS k _ _ (List.getElem?_eq_getElem hk) (Array.getElem?_eq_getElem (ao ▸ hk)) c h
 | cw ao aw aV aQ aS =>
  intro c ab
  obtain ⟨k,hk,h⟩:=(aQ c).1 ab
  exact aS k _ _ (List.getElem?_eq_getElem hk) (Array.getElem?_eq_getElem (ao ▸ hk)) c h
theorem Fr.drew {w w':World}{U:bt}(h:Fr w w' U):Fr w w'.drew U:=⟨h.os,h.tape,h.output,h.size,h.block,h.fE,Nat.le_succ_of_le h.wS⟩
section
variable {w:World}{I:bt}{T:Array Value}{g:aU}{Fs:Nat->bt}
theorem cW.jN (h:cW w I T g Fs):∀ t c,Fs t c->c<w.heap.size:=by
 intro t c ab
 cases J:g t with
 | none=>exact absurd ab (h.kt t J c)
 | some y=>obtain ⟨u,_,dQ⟩:=h.rel t y J; exact dQ.lt c ab
theorem cW.world (h:cW w I T g Fs) {w':World}(aQ:∀ t c,Fs t c->w'.heap[c]?=w.heap[c]?) (bs:∀ c,I c->w'.heap[c]?=w.heap[c]?) (gh:w.heap.size<=w'.heap.size):cW w' I T g Fs :=
  ⟨λt x J=>by
    obtain ⟨v,hv,bh⟩:=h.rel t x J
    exact ⟨v,hv,h.uV (λ_ _=>rfl) aQ bs (λ_ h=>h) (λ_ _ h=>h) bh λc ab=>aQ t c ab⟩,
   h.kt,h.e8,h.aD,λc ab=>Nat.lt_of_lt_of_le (h.lt c ab) gh,h.pQ⟩
theorem cW.alloc (h:cW w I T g Fs) (o:Obj):cW (w.alloc o) I T g Fs :=
 h.world (λt c ab=>qS w o c (h.jN t c ab)) (λc ab=>qS w o c (h.lt c ab)) (by simp)
theorem cW.sw (h:cW w I T g Fs) {d:Nat}{x:ag}{v:Value}{F:bt}(aV:g d=none) (Rg:d<T.size)
  (bh:jx w I (ej w T g) x v F) (qi:∀ t c,F c->¬ Fs t c) (RH:∀ c,F c->¬ I c)
  (aF:∀ z p n m new,x=.b2 z p n m new->∀ t cG cT b7 da,g t≠some (.b2 cG p cT b7 da)) :
  cW w I (T.setIfInBounds d v) (e2 g d x) (sN Fs d F):=by
 have fF:∀ t,g t≠none->(T.setIfInBounds d v)[t]?=T[t]?:=by
  intro t aG
  rw [Array.getElem?_setIfInBounds_ne]
  rintro rfl; exact aG aV
 refine ⟨?_,?_,?_,?_,h.lt,?_⟩
 ·intro t y ay
  unfold e2 at ay
  split at ay
  ·rename_i si
   subst si
   cases ay
   exact ⟨v,by simp [Rg],by simpa [sN] using h.uV fF (λ_ _ _=>rfl) (λ_ _=>rfl) (λ_ h=>h) (Mw aV) bh λ_ _=>rfl⟩
  ·rename_i si
   obtain ⟨u,hu,dQ⟩:=h.rel t y ay
   exact ⟨u,by rw [fF t (by rw [ay]; simp)]; exact hu,by simpa [sN,si] using h.uV fF (λ_ _ _=>rfl) (λ_ _=>rfl) (λ_ h=>h) (Mw aV) dQ λ_ _=>rfl⟩
 ·intro t aG c
  unfold e2 at aG
  split at aG
  ·cases aG
  ·rename_i si; simpa [sN,si] using h.kt t aG c
 ·intro t dh c ab fq
  by_cases h1:t=d <;> by_cases al:dh=d <;> simp [sN,h1,al] at ab fq
  ·rw [h1,al]
  ·exact absurd fq (qi dh c ab)
  ·exact absurd ab (qi t c fq)
  ·exact h.e8 t dh c ab fq
 ·intro t c ab hi
  by_cases h1:t=d <;> simp [sN,h1] at ab
  ·exact RH c ab hi
  ·exact h.aD t c ab hi
 ·intro t dh z p n m new cG cT b7 da h1 al
  unfold e2 at h1 al
  split at h1 <;> split at al
  ·rename_i a b; rw [a,b]
  ·cases h1; exact absurd al (aF z p n m new rfl dh cG cT b7 da)
  ·cases al; exact absurd h1 (aF cG p cT b7 da rfl t z n m new)
  ·exact h.pQ _ _ _ _ _ _ _ _ _ _ _ h1 al
end
def lF:ag->Option (List ag)
 | .agg cs=>some cs
 | .lit v=>some [.lit v]
 | .aJ=>some [.aJ]
 | .aD z n cs=>some [.aD z n cs]
 | .bn cs=>some [.bn cs]
 | .ptr p k=>some [.ptr p k]
 | .bm z p n=>some [.bm z p n]
 | .sub z p l n=>some [.sub z p l n]
 | .ef f a b=>some [.ef f a b]
 | _=>none
theorem R.lF {w:World}{I:bt}{ρ:ag->Value->Prop}{y:ag}{v:Value}{F:bt}(h:R w I ρ y v F) (aQ:∀ c,¬ F c) (k9:∀ x v,x.isRef=true->ρ x v->v.oneCell'=true) {cs:List ag}(ab:lF y=some cs) :
  cs.length=v.cells.size/\(∀ (k:Nat) (u:Value),v.cells[k]?=some u->u.oneCell'=true)/\(∀ (k:Nat) (x:ag) (u:Value),cs[k]?=some x->v.cells[k]?=some u->R w I ρ x u cS):=by
 have one:∀ {y:ag},R w I ρ y v F->v.oneCell'=true->[y].length=v.cells.size/\(∀ (k:Nat) (u:Value),v.cells[k]?=some u->u.oneCell'=true)/\(∀ (k:Nat) (x:ag) (u:Value),[y][k]?=some x->v.cells[k]?=some u->R w I ρ x u cS):=by
  intro y h h1
  have w4:v.cells=#[v]:=by cases v <;> first | rfl | (simp [Value.oneCell'] at h1)
  refine ⟨by simp [w4],λk u hu=>?_,λk x u J hu=>?_⟩
  ·rw [w4] at hu
   cases k with
   | zero=>simp at hu; subst hu; exact h1
   | succ k=>simp at hu
  rw [w4] at hu
  cases k with
  | zero=>simp at J hu; subst J hu; exact h.empty aQ
  | succ k=>simp at J
 cases y <;> simp only [Go.Own.lF,Option.some.injEq,reduceCtorEq] at ab
 case agg l =>
  subst ab
  obtain ⟨vs,rfl,ao,h1,aw⟩:=h.zx aQ
  exact ⟨ao,h1,aw⟩
 case lit a=>subst ab; exact one h (by obtain ⟨rfl,h1⟩:=h.h9; exact h1)
 case aJ=>subst ab; exact one h (by rw [h.qv]; rfl)
 case aD z n l=>subst ab; exact one h (by obtain ⟨a,cap,rfl,_⟩:=h.xj; rfl)
 case bn l=>subst ab; exact one h (by obtain ⟨ad,us,rfl,_⟩:=h.vg; rfl)
 case ptr p k=>subst ab; exact one h (k9 _ _ rfl h.mN)
 case bm z p n=>subst ab; exact one h (k9 _ _ rfl h.mj)
 case sub z p l n=>subst ab; exact one h (k9 _ _ rfl h.vh)
 case ef f a b =>
  subst ab
  refine one h ?_
  cases h with
  | ef=>rfl
  | ref J=>simp [ag.isRef] at J
theorem ej.CQ {w:World}{T:Array Value}{g:aU}{x:ag}{v:Value}(J:x.isRef=true) (h:ej w T g x v):v.oneCell'=true:=by
 obtain ⟨h,_⟩:=h
 cases x <;> simp [ag.isRef] at J
 case ptr p k=>obtain ⟨_,_,_,_,rfl⟩:=h; rfl
 case bm z p n=>obtain ⟨_,_,_,_,rfl,_⟩:=h; rfl
 case sub z p lo n=>obtain ⟨_,_,_,_,_,_,rfl,_⟩:=h; rfl
 case iK p=>obtain ⟨_,_,rfl⟩:=h; rfl
def oJ:List ag->Option (List ag)
 | []=>some []
 | y::ys =>
  match lF y,oJ ys with
  | some a,some b=>some (a++b)
  | _,_=>none
def iz (g:aU):List Operand->Option (List ag)
 | []=>some []
 | x::xs =>
  match bL g x,iz g xs with
  | some y,some ys=>some (y::ys)
  | _,_=>none
def wY (place:Nat->Option (Nat × Nat)) (cells:List ag):List (Nat × List ag)->Option (List ag)
 | []=>some cells
 | (i,c)::rest =>
  match place i with
  | none=>none
  | some (off,size)=>if c.length=size/\off+c.length<=cells.length then wY place (cells.take off++c++cells.drop (off+c.length)) rest else none
def qz (g:aU):List (Nat × Operand)->Option (List (Nat × List ag))
 | []=>some []
 | (i,x)::xs =>
  match bL g x,qz g xs with
  | some y,some ys=>(lF y).map λc=>(i,c)::ys
  | _,_=>none
def ky (P:Program) (t:TypeId) (pl:List (Nat × Nat)):Bool :=
 match P.underlying t with
 | some (.struct fs)=>fs.toList.map (λf=>(f.offset,(P.info? f.type).map (·.size))) == pl.map λ(a,b)=>(a,some b)
 | _=>false
inductive oz (P:Program) (g:aU):Op->TypeId->ag->Prop
 | box {e ty:TypeId}{x:Operand}{y:ag}{cs:List ag}(J:bL g x=some y) (ab:lF y=some cs):oz P g (.box e x) ty (.obj cs)
 | alloc {e ty:TypeId}{z:Value}(bG:(P.info? e).bind (·.zero)=some z) (h1:z.cells.all Value.oneCell'=true):oz P g (.alloc e) ty (.obj (z.cells.toList.map nG))
 | buildSlice {t e ty:TypeId}{z:Nat}{parts:Array (Nat × Operand)}{xs:List Operand}{ys:List ag}{cs:List ag}(aG:fm P t e z=true)
   (aF:parts.toList=xs.mapIdx (λi x=>(i,x))) (J:iz g xs=some ys) (bG:∀ y∈ys,∃ c,lF y=some c/\c.length=z) (ab:oJ ys=some cs) (aI:xs.length * z<=16777216) (aN:xs.length<=16777216) (hzero:xs.length * z=0\/∃ v,(P.info? e).bind (·.zero)=some v/\v.cells.size=z) :
   oz P g (.buildSlice t xs.length parts) ty (.own z xs.length cs)
 | makeSlice {t e ty:TypeId}{x y:Operand}{z n b:Nat}{vm sq:IntKind}{ei:Value}(aG:fm P t e z=true) (J:bL g x=some (.lit (.int vm (n:Int)))) (ay:bL g y=some (.lit (.int sq (n:Int))))
   (hzero:(P.info? e).bind (·.zero)=some ei) (h1:ei.cells.all Value.oneCell'=true) (nE:ei.cells.size=z) (aI:(P.info? e).map (·.bytes)=some b) (aN:n * b<=140737488355328) (n9:n<=4611686018427387904) {v':List ag}(sm:v'.length=ei.cells.size)
   (Cu:∀ (k:Nat) (u:Value) (x:ag),ei.cells[k]?=some u->v'[k]?=some x->x=nG u\/(nG u=.aJ/\∃ cG,x=.aD cG 0 [])) :
   oz P g (.makeSlice t x y) ty (.own z n (List.replicate n v').flatten)
 | makeMap {t ty:TypeId}{q:Array MapEntry->Nat->Prop}(bP:q #[] 0):oz P g (.makeMap t none) ty (.mp q)
inductive sX (P:Program) (g:aU):Op->TypeId->ag->Prop
 | build {t ty:TypeId}{parts:Array (Nat × Operand)}{pl:List (Nat × Nat)}{ei:Value}{ps:List (Nat × List ag)}{cs:List ag}(aG:ky P t pl=true) (bG:(P.info? t).bind (·.zero)=some ei) (h1:ei.cells.all Value.oneCell'=true)
   (aF:qz g parts.toList=some ps) (ab:wY (λi=>pl[i]?) (ei.cells.toList.map nG) ps=some cs):sX P g (.build t parts) ty (.agg cs)
 | makeFunc {fn:Fn}{first caps:Array Operand}{ty:TypeId}{a b:List ag}(bg:iz g first.toList=some a) (aI:iz g caps.toList=some b):sX P g (.makeFunc fn first caps) ty (.ef fn a b)
section
variable {P:Program}{w:World}{I:bt}{T:Array Value}{g:aU}{Fs:Nat->bt}
theorem xu (h:cW w I T g Fs) {a:Act}(bg:a.tmps=T):∀ {xs:List Operand}{ys:List ag},iz g xs=some ys->ys.length=xs.length/\∀ (k:Nat) (y:ag) (x:Operand),ys[k]?=some y->xs[k]?=some x->R w I (ej w T g) y (a.eval x) cS
 | [],ys,ay=>by simp only [iz,Option.some.injEq] at ay; subst ay; simp
 | x::xs,ys,ay=>by
  simp only [iz] at ay
  cases J:bL g x with
  | none=>simp [J] at ay
  | some y =>
   cases qt:iz g xs with
   | none=>simp [J,qt] at ay
   | some AZ =>
    simp only [J,qt,Option.some.injEq] at ay
    subst ay
    obtain ⟨h1,al⟩:=xu h bg qt
    refine ⟨by simp [h1],λk y' x' mi gk=>?_⟩
    cases k with
    | zero=>simp at mi gk; subst mi gk; exact kT h J bg
    | succ k=>simp at mi gk; exact al k y' x' mi gk
theorem R.alloc (h:cW w I T g Fs) (o:Obj) {x:ag}{v:Value}{F:bt}(bh:R w I (ej w T g) x v F) (aQ:∀ c,F c->c<w.heap.size):R (w.alloc o) I (ej (w.alloc o) T g) x v F :=
 h.frame (λ_ _=>rfl) (λt c ab=>qS w o c (h.jN t c ab)) (λc ab=>qS w o c (h.lt c ab)) (λ_ h=>h) (λ_ _ h=>h) bh λc ab=>qS w o c (aQ c ab)
theorem Lj {ρ:ag->Value->Prop}{vs:List Value}:∀ (k:Nat) (x:ag) (u:Value),(vs.map nG)[k]?=some x->vs[k]?=some u->R w I ρ x u cS:=by
 intro k x u J hu
 rw [List.getElem?_map,hu] at J
 simp only [Option.map_some,Option.some.injEq] at J
 subst J
 exact zR u
theorem R.Li {ρ:ag->Value->Prop}{cs:List ag}{b:Nat}{e:TypeId}{arr:Array Value}(bf:w.heap[b]?=some (.cells arr e (0,0))) (ao:cs.length=arr.size) (h1:∀ (k:Nat) (u:Value),arr[k]?=some u->u.oneCell'=true)
  (aw:∀ (k:Nat) (x:ag) (u:Value),cs[k]?=some x->arr[k]?=some u->R w I ρ x u cS):R w I ρ (.obj cs) (.pointer (some ⟨b,0,none⟩)) (λc=>c=b) :=
 .obj (Fs:=λ_=>cS) bf ao h1 aw (λ_ _ _ _ _ h=>h.elim) (λ_ _ h=>h) (λ_=>⟨λh=>.inl h,λh=>h.elim id λ⟨_,_,h⟩=>h.elim⟩)
theorem R.Lr {ρ:ag->Value->Prop}{z n:Nat}{cs:List ag}{b cap:Nat}{e:TypeId}{arr:Array Value}(bf:w.heap[b]?=some (.cells arr e (0,0))) (aN:n<=cap) (ab:cap<=maxLen) (aP:arr.size=cap * z) (ao:cs.length=n * z) (h1:∀ (k:Nat) (u:Value),arr[k]?=some u->u.oneCell'=true)
  (aw:∀ (k:Nat) (x:ag) (u:Value),cs[k]?=some x->arr[k]?=some u->R w I ρ x u cS):R w I ρ (.own z n cs) (.slice (some ⟨b,0,none⟩) n cap) (λc=>c=b):=by
 have hle:n * z<=arr.size:=by rw [aP]; exact Nat.mul_le_mul_right _ aN
 refine .own (e:=e) (us:=arr.toList.take (n * z)) (Fs:=λ_=>cS) ⟨by simp; omega,.inr ⟨b,cap,arr,rfl,Nat.zero_le _,bf,aN,ab,aP,rfl⟩⟩ (by simp; omega) (λk u hu=>?_) ?_ (λ_ _ _ _ _ h=>h.elim) (λ_ _ _ h=>h.elim) (λc=>?_)
 ·rw [List.getElem?_take] at hu
  split at hu
  ·exact h1 k u (by simpa using hu)
  ·cases hu
 ·intro k x u J hu
  rw [List.getElem?_take] at hu
  split at hu
  ·exact aw k x u J (by simpa using hu)
  ·cases hu
 ·simp only [Value.ownBlock,Option.some.injEq]
  exact ⟨λh=>.inl h.symm,λh=>h.elim Eq.symm λ⟨_,_,h⟩=>h.elim⟩
theorem Iw {ρ:ag->Value->Prop}(k9:∀ x v,x.isRef=true->ρ x v->v.oneCell'=true):∀ {ys:List ag}{vs:List Value}{cs:List ag},ys.length=vs.length->(∀ (k:Nat) (y:ag) (v:Value),ys[k]?=some y->vs[k]?=some v->R w I ρ y v cS)->oJ ys=some cs ->
  cs.length=(vs.flatMap λv=>v.cells.toList).length/\(∀ (k:Nat) (u:Value),(vs.flatMap λv=>v.cells.toList)[k]?=some u->u.oneCell'=true)/\∀ (k:Nat) (x:ag) (u:Value),cs[k]?=some x->(vs.flatMap λv=>v.cells.toList)[k]?=some u->R w I ρ x u cS
 | [],vs,cs,ao,aw,ab=>by
  cases vs with
  | nil=>simp only [oJ,Option.some.injEq] at ab; subst ab; simp
  | cons=>simp at ao
 | y::ys,vs,cs,ao,aw,ab=>by
  cases vs with
  | nil=>simp at ao
  | cons v vs =>
   simp only [oJ] at ab
   cases bg:lF y with
   | none=>simp [bg] at ab
   | some a =>
    cases aI:oJ ys with
    | none=>simp [bg,aI] at ab
    | some b =>
     simp only [bg,aI,Option.some.injEq] at ab
     subst ab
     obtain ⟨h1,yQ,al⟩:=(aw 0 y v rfl rfl).lF (λ_ h=>h) k9 bg
     obtain ⟨aR,PW,b3⟩:=Iw k9 (by simpa using ao) (λk y' hP ay hv=>aw (k+1) y' hP ay hv) aI
     refine ⟨by simp [h1,aR],λk u hu=>?_,λk x u J hu=>?_⟩
     ·simp only [List.flatMap_cons] at hu
      by_cases hk:k<v.cells.toList.length
      ·rw [List.getElem?_append_left hk] at hu
       exact yQ k u (by simpa using hu)
      ·rw [List.getElem?_append_right (by omega)] at hu
       exact PW _ u hu
     simp only [List.flatMap_cons] at hu
     by_cases hk:k<a.length
     ·rw [List.getElem?_append_left hk] at J
      rw [List.getElem?_append_left (by simp; omega)] at hu
      exact al k x u J (by simpa using hu)
     ·rw [List.getElem?_append_right (by omega)] at J
      rw [List.getElem?_append_right (by simp; omega)] at hu
      refine b3 (k - a.length) x u J ?_
      rw [<- hu]; simp [h1]
end
end Go.Own
namespace Go.Own
open Go
theorem JF (off:Nat):∀ (l:List Value) (s:Nat) (arr:Array Value),off+s+l.length<=arr.size ->
  ((l.zipIdx s).foldl (λcs (x:Value × Nat)=>cs.setIfInBounds (off+x.2) x.1) arr).toList=arr.toList.take (off+s)++l++arr.toList.drop (off+s+l.length)
 | [],s,arr,h=>by simp
 | v::l,s,arr,h=>by
  simp only [List.length_cons] at h
  rw [List.zipIdx_cons,List.foldl_cons,JF off l (s+1) _ (by simp; omega)]
  simp only [Array.toList_setIfInBounds,List.length_cons]
  have h1:(arr.toList.set (off+s) v).take (off+(s+1))=arr.toList.take (off+s)++[v]:=by
   rw [show off+(s+1)=off+s+1 by omega,List.take_succ_eq_append_getElem (by simp; omega)]
   rw [List.take_set_of_le (Nat.le_refl _)]
   simp
  have al:(arr.toList.set (off+s) v).drop (off+(s+1)+l.length)=arr.toList.drop (off+s+(l.length+1)):=by
   rw [List.drop_set_of_lt (by omega)]
   congr 1; omega
  rw [h1,al]
  simp
theorem JD {place:Nat->Option (Nat × Nat)}{i off size:Nat}(aF:place i=some (off,size)) {arr:Array Value}{v:Value}(h1:v.cells.size=size) (al:off+v.cells.size<=arr.size) (rest:List (Nat × Value)) :
  ∃ jd:Array Value,Instr.fill place arr ((i,v)::rest)=Instr.fill place jd rest/\jd.toList=arr.toList.take off++v.cells.toList++arr.toList.drop (off+v.cells.size):=by
 refine ⟨_,by simp only [Instr.fill,aF]; rw [if_neg (by simp; omega)],?_⟩
 have:=JF off v.cells.toList 0 arr (by simpa using al)
 rw [<- Array.foldl_toList,Array.toList_zipIdx]
 simpa using this
theorem JC (z:Nat):∀ (vs:List Value) (k:Nat) (arr:Array Value) (done rest:List Value),(∀ v∈vs,v.cells.size=z)->arr.toList=done++rest->done.length=k * z->rest.length=vs.length * z ->
  ∃ jd:Array Value,Instr.fill (λi=>some (i * z,z)) arr (vs.mapIdx λi v=>(k+i,v))=some jd/\jd.toList=done++vs.flatMap λv=>v.cells.toList
 | [],k,arr,done,rest,_,h1,al,aR=>by
  have:rest=[]:=List.eq_nil_of_length_eq_zero (by simpa using aR)
  subst this
  exact ⟨arr,rfl,by simpa using h1⟩
 | v::vs,k,arr,done,rest,bG,h1,al,aR=>by
  have hv:=bG v (by simp)
  have hlen:arr.size=done.length+rest.length:=by rw [<- Array.length_toList,h1,List.length_append]
  simp only [List.length_cons,Nat.add_mul,Nat.one_mul] at aR
  rw [List.mapIdx_cons]
  obtain ⟨Bl,dn,cZ⟩:=JD (place:=λi=>some (i * z,z)) (i:=k+0) (off:=k * z) (size:=z) (by simp) (arr:=arr) (v:=v) hv (by omega) ((vs.mapIdx λi v=>(k+(i+1),v)))
  have rY:Bl.toList=(done++v.cells.toList)++rest.drop z:=by
   rw [cZ,h1,<- al,List.take_left,hv,List.drop_append]
   simp
  obtain ⟨jd,jV,q4⟩:=JC z vs (k+1) Bl (done++v.cells.toList) (rest.drop z) (λu hu=>bG u (by simp [hu])) rY (by simp [al,hv,Nat.add_mul]) (by simp; omega)
  refine ⟨jd,?_,by rw [q4]; simp⟩
  rw [dn,<- jV]
  congr 1
  congr 1
  funext i u
  congr 1; omega
theorem DF {vs:Array Value}(h:vs.all Value.oneCell'=true):∀ (k:Nat) (u:Value),vs[k]?=some u->u.oneCell'=true :=
 λ_ u hu=>Array.all_eq_true_iff_forall_mem.1 h u (Array.mem_of_getElem? hu)
theorem DR {P:Program}{e:TypeId}{z:Value}(h:(P.info? e).bind (·.zero)=some z) (w:World):(zeroValue e).run P w=.ok z w:=by
 cases hi:P.info? e with
 | none=>simp [hi] at h
 | some i=>simp [hi] at h; simp [zeroValue,typeInfo,hi,h]
theorem JJ {α:Type}(l:List α):∀ (n k:Nat),k<n * l.length->(List.replicate n l).flatten[k]?=l[k % l.length]?
 | 0,k,h=>by simp at h
 | n+1,k,h=>by
  rw [List.replicate_succ,List.flatten_cons]
  by_cases hk:k<l.length
  ·rw [List.getElem?_append_left hk,Nat.mod_eq_of_lt hk]
  ·rw [List.getElem?_append_right (by omega),JJ l n (k - l.length) (by rw [Nat.add_mul] at h; omega)]
   rw [<- Nat.mod_eq_sub_mod (by omega)]
section
variable {P:Program}{w:World}{I:bt}{T:Array Value}{g:aU}{Fs:Nat->bt}
theorem NM {ys cs:List ag}{z:Nat}(bG:∀ y∈ys,∃ c,lF y=some c/\c.length=z) (ab:oJ ys=some cs):cs.length=ys.length * z:=by
 induction ys generalizing cs with
 | nil=>simp [oJ] at ab; subst ab; simp
 | cons y ys aS =>
  obtain ⟨c,h1,al⟩:=bG y (by simp)
  simp only [oJ,h1] at ab
  cases aI:oJ ys with
  | none=>simp [aI] at ab
  | some b =>
   simp only [aI,Option.some.injEq] at ab
   subst ab
   rw [List.length_append,aS (λy ay=>bG y (by simp [ay])) aI,al,List.length_cons,Nat.add_mul]
   omega
theorem oz.sound (h:cW w I T g Fs) {a:Act}(bg:a.tmps=T) {o:Oper}{j5:ag}(aF:oz P g o.op o.type j5) :
  ∃ v qx,(execOp a.eval o).run P w=.ok (.value v) (w.alloc qx)/\R (w.alloc qx) I (ej (w.alloc qx) T g) j5 v (λc=>c=w.heap.size):=by
 obtain ⟨dst,op,ty,pos,after,guard⟩:=o
 simp only at aF
 have lv:∀ (qx:Obj) {x:ag}{v:Value},R w I (ej w T g) x v cS->R (w.alloc qx) I (ej (w.alloc qx) T g) x v cS:=λqx _ _ bh=>R.alloc h qx bh λ_ h=>h.elim
 cases aF with
 | @box e _ x y cs J ab =>
  have ay:=kT h J bg
  obtain ⟨h1,yQ,al⟩:=ay.lF (λ_ h=>h) (λ_ _ J aw=>aw.CQ J) ab
  refine ⟨_,.cells (a.eval x).cells e,by simp [execOp,Instr.box,newVar,newRow],R.Li (e:=e) (rN w _) h1 yQ λk x u J hu=>lv _ (al k x u J hu)⟩
 | @alloc e _ z bG gx =>
  refine ⟨_,.cells z.cells e,by simp [execOp,Instr.alloc,newVar,newRow,DR bG],R.Li (e:=e) (rN w _) (by simp) (DF gx) λk x u J hu=>lv _ (Lj k x u J (by simpa using hu))⟩
 | @makeMap t _ q bP =>
  have FD:(Instr.makeMap t none).run P w=.ok (.map (some w.heap.size)) (w.alloc (.map #[] 0)):=rfl
  exact ⟨.map (some w.heap.size),.map #[] 0,by simp [execOp,FD],.mp (rN w _) bP λc=>Iff.rfl⟩
 | @buildSlice t e _ z parts xs ys cs aG aF J bG ab aI FG hzero =>
  obtain ⟨hu,he,gh⟩:=pa (w:=w) aG
  obtain ⟨ao,aw⟩:=xu h bg J
  have hK:=NM bG ab
  have Sb:∀ v∈xs.map a.eval,v.cells.size=z:=by
   intro v hv
   obtain ⟨x,F5,rfl⟩:=List.mem_map.1 hv
   obtain ⟨k,hk,rfl⟩:=List.mem_iff_getElem.1 F5
   have mi:ys[k]?=some (ys[k]'(by omega)):=List.getElem?_eq_getElem (by omega)
   obtain ⟨c,h1,al⟩:=bG _ (List.getElem_mem (l:=ys) (n:=k) (by omega))
   obtain ⟨aR,_,_⟩:=(aw k _ _ mi (List.getElem?_eq_getElem hk)).lF (λ_ h=>h) (λ_ _ J aw=>aw.CQ J) h1
   rw [<- aR,al]
  obtain ⟨ei,SG⟩:∃ ei:Array Value,(xs.length * z=0/\ei=#[])\/(xs.length * z≠0/\∃ v,ei=v.cells/\(zeroValue e).run P w=.ok v w):=by
   by_cases bc:xs.length * z=0
   ·exact ⟨#[],.inl ⟨bc,rfl⟩⟩
   ·rcases hzero with h1 | ⟨v,h1,al⟩
    ·exact absurd h1 bc
    ·exact ⟨v.cells,.inr ⟨bc,v,rfl,DR h1 w⟩⟩
  obtain ⟨arr,dn,cZ⟩:=JC z (xs.map a.eval) 0 ((Array.range (xs.length * z)).map (ei[· % ei.size]!)) [] ((Array.range (xs.length * z)).map (ei[· % ei.size]!)).toList Sb (by simp) (by simp) (by simp)
  have KF:(parts.map λ(p:Nat × Operand)=>(p.1,a.eval p.2)).toList=(xs.map a.eval).mapIdx λi v=>(0+i,v):=by
   rw [Array.toList_map,aF]
   apply List.ext_getElem?
   intro k
   simp only [List.getElem?_map,List.getElem?_mapIdx]
   cases xs[k]? <;> simp
  obtain ⟨hx,lk,Rf⟩:=Iw (ρ:=ej w T g) (λ_ _ J aw=>aw.CQ J) (ys:=ys) (vs:=xs.map a.eval) (by simp [ao]) (λk y v ay hv=>by
   rw [List.getElem?_map] at hv
   cases oY:xs[k]? with
   | none=>simp [oY] at hv
   | some x=>simp [oY] at hv; subst hv; exact aw k y x ay oY) ab
  have r9:arr.toList=(xs.map a.eval).flatMap λv=>v.cells.toList:=by simpa using cZ
  have RZ:arr.size=xs.length * z:=by rw [<- Array.length_toList,r9,<- hx,hK,ao]
  have h7:(execOp a.eval { dst:=dst,op:=.buildSlice t xs.length parts,type:=ty,pos:=pos,after:=after,guard:=guard }).run P w=.ok (.value (.slice (some ⟨w.heap.size,0,none⟩) xs.length xs.length)) (w.alloc (.cells arr e)):=by
   have hle:¬ (16777216<xs.length * z):=by omega
   rcases SG with ⟨bc,rfl⟩ | ⟨bc,v,rfl,SF⟩
   ·simp only [bc] at dn
    rw [<- KF] at dn
    simp at dn
    simp [execOp,Instr.buildSlice,run_underlying hu,gh,bc,dn,newRow]
   ·rw [<- KF] at dn
    simp at dn
    simp [execOp,Instr.buildSlice,run_underlying hu,gh,bc,hle,SF,dn,newRow]
  refine ⟨_,_,h7,R.Lr (e:=e) (arr:=arr) (rN w _) (Nat.le_refl _) ?_ RZ (by rw [hK,ao]) (λk u hu=>lk k u (by rw [<- r9]; simpa using hu)) λk x u J hu=>lv _ (Rf k x u J ?_)⟩
  ·unfold maxLen; omega
  ·rw [<- r9]; simpa using hu
 | @makeSlice t e _ x y z n b vm sq ei aG J ay hzero gx nE aI aN n9 v' sm Cu =>
  obtain ⟨hu,he,gh⟩:=pa (w:=w) aG
  have h1:=(kT h J bg).h9.1
  have al:=(kT h ay bg).h9.1
  cases hi:P.info? e with
  | none=>simp [hi] at aI
  | some i =>
   simp [hi] at aI hzero
   have Fk:i.size=z:=by
    unfold fm at aG
    rw [hu] at aG
    simp [hi] at aG
    exact aG
   have B_:(i.bytes:Int) * (n:Int)<=281474976710656:=by
    have:((b * n:Nat):Int)<=281474976710656:=by have:=Nat.mul_comm n b; omega
    rw [aI,<- Int.natCast_mul]; exact this
   have aw:=run_make (P:=P) w t e i ei hu hi hzero vm sq n n (by omega) (Int.le_refl _) B_ (by omega)
   simp only [Int.toNat_natCast] at aw
   refine ⟨_,.cells (madeCells ei.cells (n * i.size)) e,by simp [execOp,h1,al,aw],R.Lr (e:=e) (rN w _) (Nat.le_refl _) (by unfold maxLen; omega) (by rw [size_madeCells,Fk]) (by simp [nE,sm]) (λk u hu=>?_) λk x u J hu=>?_⟩
   ·rw [madeCells,Array.getElem?_map,Array.getElem?_range] at hu
    split at hu
    ·rename_i hk
     have bc:0<ei.cells.size:=by
      rcases Nat.eq_zero_or_pos ei.cells.size with h | h
      ·rw [Fk,<- nE,h] at hk; simp at hk
      ·exact h
     have hm:k % ei.cells.size<ei.cells.size:=Nat.mod_lt _ bc
     simp only [Option.map_some,Option.some.injEq] at hu
     rw [<- hu,show ei.cells[k % ei.cells.size]! = ei.cells[k % ei.cells.size] by simp [hm]]
     exact DF gx _ _ (Array.getElem?_eq_getElem hm)
    ·cases hu
   have hk:k<n * ei.cells.size:=by
    have:=(List.getElem?_eq_some_iff.1 J).1
    simpa [Nat.mul_comm,sm] using this
   have bc:0<ei.cells.size:=by
    rcases Nat.eq_zero_or_pos ei.cells.size with h | h
    ·rw [h] at hk; simp at hk
    ·exact h
   have hm:k % ei.cells.size<ei.cells.size:=Nat.mod_lt _ bc
   rw [JJ _ n k (by simpa [sm] using hk),sm] at J
   rw [madeCells,Array.getElem?_map,Array.getElem?_range,if_pos (by rw [Fk,<- nE]; exact hk)] at hu
   simp only [Option.map_some,Option.some.injEq] at hu
   have fG:ei.cells[k % ei.cells.size]! = ei.cells[k % ei.cells.size]:=by simp [hm]
   rw [fG] at hu
   subst hu
   rcases Cu _ _ x (Array.getElem?_eq_getElem hm) J with rfl | ⟨h1,cG,rfl⟩
   ·exact lv _ (zR _)
   ·have bh:=zR (w:=w) (I:=I) (ρ:=ej w T g) ei.cells[k % ei.cells.size]
    rw [h1] at bh
    rw [bh.qv]
    exact .hM λ_ h=>h
def Cells (w:World) (I:bt) (ρ:ag->Value->Prop) (cs:List ag) (vs:List Value):Prop :=
 cs.length=vs.length/\(∀ (k:Nat) (u:Value),vs[k]?=some u->u.oneCell'=true)/\∀ (k:Nat) (x:ag) (u:Value),cs[k]?=some x->vs[k]?=some u->R w I ρ x u cS
theorem Cells.append {ρ:ag->Value->Prop}{a b:List ag}{u v:List Value}(h:Cells w I ρ a u) (aT:Cells w I ρ b v):Cells w I ρ (a++b) (u++v):=by
 refine ⟨by simp [h.1,aT.1],λk y ay=>?_,λk x y J ay=>?_⟩
 ·by_cases hk:k<u.length
  ·rw [List.getElem?_append_left hk] at ay; exact h.2.1 k y ay
  ·rw [List.getElem?_append_right (by omega)] at ay; exact aT.2.1 _ y ay
 ·by_cases hk:k<a.length
  ·rw [List.getElem?_append_left hk] at J
   rw [List.getElem?_append_left (by rw [<- h.1]; exact hk)] at ay
   exact h.2.2 k x y J ay
  ·rw [List.getElem?_append_right (by omega)] at J
   rw [List.getElem?_append_right (by rw [<- h.1]; omega)] at ay
   exact aT.2.2 _ x y J (by rw [h.1]; exact ay)
theorem Cells.take {ρ:ag->Value->Prop}{a:List ag}{u:List Value}(h:Cells w I ρ a u) (n:Nat):Cells w I ρ (a.take n) (u.take n):=by
 refine ⟨by simp [h.1],λk y ay=>?_,λk x y J ay=>?_⟩
 ·rw [List.getElem?_take] at ay
  split at ay
  ·exact h.2.1 k y ay
  ·cases ay
 ·rw [List.getElem?_take] at J ay
  split at J
  ·rename_i hk; rw [if_pos hk] at ay; exact h.2.2 k x y J ay
  ·cases J
theorem Cells.drop {ρ:ag->Value->Prop}{a:List ag}{u:List Value}(h:Cells w I ρ a u) (n:Nat):Cells w I ρ (a.drop n) (u.drop n):=by
 refine ⟨by simp [h.1],λk y ay=>?_,λk x y J ay=>?_⟩
 ·rw [List.getElem?_drop] at ay; exact h.2.1 _ y ay
 ·rw [List.getElem?_drop] at J ay
  exact h.2.2 _ x y J ay
theorem JB {ρ:ag->Value->Prop}{place:Nat->Option (Nat × Nat)}:∀ (ps:List (Nat × List ag)) (rB:List (Nat × Value)) {cells cs:List ag}{arr:Array Value},Cells w I ρ cells arr.toList ->
  ps.map (·.1)=rB.map (·.1)->(∀ (k:Nat) (p:Nat × List ag) (q:Nat × Value),ps[k]?=some p->rB[k]?=some q->Cells w I ρ p.2 q.2.cells.toList)->wY place cells ps=some cs ->
  ∃ jd:Array Value,Instr.fill place arr rB=some jd/\Cells w I ρ cs jd.toList
 | [],rB,cells,cs,arr,ab,hk,_,bj=>by
  cases rB with
  | nil=>simp only [wY,Option.some.injEq] at bj; subst bj; exact ⟨arr,rfl,ab⟩
  | cons=>simp at hk
 | (i,c)::ps,rB,cells,cs,arr,ab,hk,aw,bj=>by
  cases rB with
  | nil=>simp at hk
  | cons q rB =>
   obtain ⟨ae,v⟩:=q
   simp only [List.map_cons,List.cons.injEq] at hk
   obtain ⟨rfl,hk⟩:=hk
   have bc:=aw 0 _ _ rfl rfl
   simp only [wY] at bj
   cases aF:place i with
   | none=>simp [aF] at bj
   | some os =>
    obtain ⟨off,size⟩:=os
    simp only [aF] at bj
    split at bj
    ·rename_i Vx
     have hlen:v.cells.size=c.length:=by rw [<- Array.length_toList]; exact bc.1.symm
     have VN:arr.size=cells.length:=by rw [<- Array.length_toList]; exact ab.1.symm
     obtain ⟨Bl,dn,cZ⟩:=JD (arr:=arr) (v:=v) aF (by omega) (by omega) rB
     have lk:Cells w I ρ (cells.take off++c++cells.drop (off+c.length)) Bl.toList:=by
      rw [cZ,hlen]
      exact ((ab.take off).append bc).append (ab.drop _)
     obtain ⟨jd,jV,q4⟩:=JB ps rB lk hk (λk p q aF bP=>aw (k+1) p q aF bP) bj
     exact ⟨jd,by rw [dn,jV],q4⟩
    ·cases bj
theorem Lt (h:cW w I T g Fs) {a:Act}(bg:a.tmps=T):∀ {l:List (Nat × Operand)}{ps:List (Nat × List ag)},qz g l=some ps ->
  ps.map (·.1)=(l.map λp=>(p.1,a.eval p.2)).map (·.1)/\∀ (k:Nat) (p:Nat × List ag) (q:Nat × Value),ps[k]?=some p->(l.map λp=>(p.1,a.eval p.2))[k]?=some q->Cells w I (ej w T g) p.2 q.2.cells.toList
 | [],ps,aF=>by simp only [qz,Option.some.injEq] at aF; subst aF; simp
 | (i,x)::l,ps,aF=>by
  simp only [qz] at aF
  cases J:bL g x with
  | none=>simp [J] at aF
  | some y =>
   cases ao:qz g l with
   | none=>simp [J,ao] at aF
   | some V' =>
    simp only [J,ao,Option.map_eq_some_iff] at aF
    obtain ⟨c,ab,rfl⟩:=aF
    obtain ⟨h1,al⟩:=Lt h bg ao
    refine ⟨by simp [h1],λk p q aF bP=>?_⟩
    cases k with
    | zero =>
     simp at aF bP
     subst aF bP
     obtain ⟨aR,PV,b3⟩:=(kT h J bg).lF (λ_ h=>h) (λ_ _ J aw=>aw.CQ J) ab
     exact ⟨by simpa using aR,λk u hu=>PV k u (by simpa using hu),λk x u J hu=>b3 k x u J (by simpa using hu)⟩
    | succ k=>simp at aF bP; exact al k p q aF (by simpa using bP)
theorem T6 {t:TypeId}{pl:List (Nat × Nat)}(h:ky P t pl=true):∃ fs,P.underlying t=some (.struct fs)/\fs.toList.mapM (λf=>(P.info? f.type).map λi=>(f.offset,i.size))=some pl:=by
 unfold ky at h
 cases hu:P.underlying t with
 | none=>simp [hu] at h
 | some d =>
  cases d <;> simp only [hu,Bool.false_eq_true] at h
  rename_i fs
  refine ⟨fs,rfl,?_⟩
  replace h:=LawfulBEq.eq_of_beq h
  generalize fs.toList=l at h
  induction l generalizing pl with
  | nil=>cases pl with
   | nil=>rfl
   | cons=>simp at h
  | cons f l aS =>
   cases pl with
   | nil=>simp at h
   | cons p pl =>
    obtain ⟨o,s⟩:=p
    simp only [List.map_cons,List.cons.injEq,Prod.mk.injEq] at h
    obtain ⟨⟨rfl,h1⟩,al⟩:=h
    have:=aS al
    rw [List.mapM_cons,this]
    cases hi:P.info? f.type with
    | none=>simp [hi] at h1
    | some i=>simp [hi] at h1; subst h1; rfl
theorem sX.sound (h:cW w I T g Fs) {a:Act}(bg:a.tmps=T) {o:Oper}{j5:ag}(aF:sX P g o.op o.type j5) :
  ∃ v,(execOp a.eval o).run P w=.ok (.value v) w/\R w I (ej w T g) j5 v cS:=by
 obtain ⟨dst,op,ty,pos,after,guard⟩:=o
 simp only at aF
 cases aF with
 | @build t _ parts pl ei ps cs aG bG gx aF ab =>
  obtain ⟨fs,hu,u3⟩:=T6 aG
  obtain ⟨h1,al⟩:=Lt h bg aF
  obtain ⟨jd,dn,cZ⟩:=JB (w:=w) (I:=I) (ρ:=ej w T g) (place:=λi=>pl[i]?) ps _ (arr:=ei.cells) ⟨by simp,λk u hu=>DF gx k u (by simpa using hu),λk x u J hu=>Lj k x u J hu⟩ h1 al ab
  refine ⟨.agg jd,?_,.agg (Fs:=λ_=>cS) (by simpa using cZ.1) (λk u hu=>cZ.2.1 k u (by simpa using hu)) (λk x u J hu=>cZ.2.2 k x u J (by simpa using hu)) (λ_ _ _ _ _ h=>h.elim) (λc=>⟨λh=>h.elim,λ⟨_,_,h⟩=>h⟩)⟩
  have VW:=run_places (P:=P) w fs.toList pl u3
  have aI:P.built t ((parts.map λ(p:Nat × Operand)=>(p.1,a.eval p.2))).toList=some jd:=by
   rw [Array.toList_map]
   cases hi:P.info? t with
   | none=>simp [hi] at bG
   | some it =>
    simp [hi] at bG
    simp only [Program.built,hu,u3,hi,bG]
    simpa using dn
  have:=run_build (P:=P) w t _ _ aI
  simp only [execOp,Sem.run_bind]
  have hm:(parts.map λ(x:Nat × Operand)=>match x with | (i,x)=>(i,a.eval x))=parts.map λ(p:Nat × Operand)=>(p.1,a.eval p.2):=rfl
  rw [hm,this]
  rfl
 | @makeFunc fn first caps _ V0 Gt h1 al =>
  obtain ⟨av,a2⟩:=xu h bg h1
  obtain ⟨hE,ic⟩:=xu h bg al
  refine ⟨.func fn (first.map a.eval) (caps.map a.eval),by simp [execOp,Instr.makeFunc],.ef (λ_ h=>h) (by simpa using av) (by simpa using hE) (λk x u J hu=>?_) (λk x u J hu=>?_)⟩
  ·rw [Array.getElem?_map] at hu
   cases hk:first[k]? with
   | none=>simp [hk] at hu
   | some y=>simp [hk] at hu; subst hu; exact a2 k x y J (by simpa using hk)
  ·rw [Array.getElem?_map] at hu
   cases hk:caps[k]? with
   | none=>simp [hk] at hu
   | some y=>simp [hk] at hu; subst hu; exact ic k x y J (by simpa using hk)
end
end Go.Own
namespace Go.Own
open Go
structure A5 (w w':World) (bv hP:Value) (e cZ:TypeId) (z n m:Nat) (us news:List Value):Prop where
 lv:w'.ownsRow 0 e z bv n us
 new:w'.ownsRow 0 cZ z hP (n+m) (us++news)
 fy:Fr w w' (λc=>bv.ownBlock=some c)
 Bs:∀ c,hP.ownBlock=some c->bv.ownBlock=some c\/w.heap.size<=c
 sp:∀ c,bv.ownBlock=some c->∃ arr jd:Array Value,w.heap[c]?=some (.cells arr e (0,0))/\w'.heap[c]?=some (.cells jd e (0,0))/\jd.size=arr.size/\jd.toList.take (n * z)=arr.toList.take (n * z)
section
variable {P:Program}{w:World}
theorem A5.same {bv hP:Value}{e cZ:TypeId}{z n m:Nat}{us news:List Value}{w':World}(kN:w.ownsRow 0 e z bv n us) (aI:∀ c,c<w.heap.size->w'.heap[c]?=w.heap[c]?) (aP:w.heap.size<=w'.heap.size)
  (h1:w'.os=w.os) (al:w'.tape=w.tape) (aR:w'.output=w.output) (qi:w'.ownsRow 0 cZ z hP (n+m) (us++news)) (hblk:∀ c,hP.ownBlock=some c->bv.ownBlock=some c\/w.heap.size<=c) (pG:∀ a,w'.frozen? a=w.frozen? a) (Ri:w.drawn<=w'.drawn:=by first | exact Nat.le_refl _ | exact Nat.le_succ _):A5 w w' bv hP e cZ z n m us news:=by
 have bd:=kN.lt
 refine ⟨tO kN λc ab=>aI c (bd c ab).2,qi,⟨h1,al,aR,aP,λb ko _=>aI b ko,λa _=>pG a,Ri⟩,hblk,λc ab=>?_⟩
 obtain ⟨_,b9⟩:=kN
 rcases b9 with ⟨rfl,_⟩ | ⟨b,cap,cur,rfl,_,a7,_⟩
 ·simp [Value.ownBlock] at ab
 ·simp only [Value.ownBlock,Option.some.injEq] at ab
  subst ab
  exact ⟨cur,cur,a7,(aI _ (bd b rfl).2).trans a7,rfl,rfl⟩
theorem TK (t ty e cQ:TypeId) (i:TypeInfo) (aG:P.underlying t=some (.slice e)) (hi:P.info? e=some i)
  (b vQ Hb:Nat) (cur:Array Value) (a7:w.heap[b]?=some (.cells cur cQ (0,0)))
  (a:Addr) (m c:Nat) (news:List Value) (ao:news.length=m * i.size) (sf:∀ ae u,news[ae]?=some u->w.cell? (a.add ae)=some u) (h1:∀ u∈news,u.oneCell'=true)
  (zn:vQ+m<=Hb) (Fh:vQ * i.size+news.length<=cur.size) :
  (Builtin.append_ #[t,t] ty #[.slice (some ⟨b,0,none⟩) vQ Hb,.slice (some a) m c]).run P w =
   .ok (.slice (some ⟨b,0,none⟩) (vQ+m) Hb) (w.setRow b (cur.toList.take (vQ * i.size)++news++cur.toList.drop (vQ * i.size+news.length)).toArray):=by
 have bj:=run_firstCells_some (P:=P) w i.size m a m c news ao sf
 have cd:=run_storeCells_at P b (vQ * i.size) cQ news 0 cur w a7 (by simpa using Fh) h1
 simp only [Nat.add_zero] at cd
 simp [Builtin.append_,run_underlying aG,sizeOf,typeInfo,hi,Builtin.lenOf,zn,bj,Addr.add_lit,cd]
theorem LV (t ty e cQ:TypeId) (i:TypeInfo) (ei:Value) (aG:P.underlying t=some (.slice e)) (hi:P.info? e=some i) (bG:i.zero=some ei) (nE:ei.cells.size=i.size) (_h0:0<i.size)
  {bv:Value}{n m c:Nat}{us news:List Value}(kN:w.ownsRow 0 cQ i.size bv n us) {a:Option Addr}(bg:0<m->a.isSome=true)
  (ao:news.length=m * i.size) (sf:∀ ad,a=some ad->∀ (ae:Nat) (u:Value),news[ae]?=some u->w.cell? (ad.add ae)=some u) (h1:∀ u∈news,u.oneCell'=true)
  (pB:n+m<=maxLen) (B_:(n+m) * i.bytes<=140737488355328) :
  ∃ hP w' cZ,(Builtin.append_ #[t,t] ty #[bv,.slice a m c]).run P w=.ok hP w'/\A5 w w' bv hP cQ cZ i.size n m us news:=by
 have mf:=kN.1
 by_cases hm:m=0
 ·subst hm
  have aN:news=[]:=List.eq_nil_of_length_eq_zero (by simpa using ao)
  subst aN
  refine ⟨bv,w,cQ,?_,.same kN (λ_ _=>rfl) (Nat.le_refl _) rfl rfl rfl (by simpa using kN) (λc ab=>.inl ab) λ_=>rfl⟩
  obtain ⟨_,b9⟩:=kN
  rcases b9 with ⟨rfl,rfl⟩ | ⟨b,cap,cur,rfl,_,a7,hle,_⟩
  ·cases a <;> simp [Builtin.append_,run_underlying aG,sizeOf,typeInfo,hi,Builtin.lenOf,Builtin.firstCells,loadCells,loadCellsFrom]
  ·cases a <;> simp [Builtin.append_,run_underlying aG,sizeOf,typeInfo,hi,Builtin.lenOf,Builtin.firstCells,loadCells,loadCellsFrom,hle,storeCells]
 ·cases a with
  | none=>simp at bg; omega
  | some ad =>
   replace sf:=sf ad rfl
   have VX:n+m<=9223372036854775807:=by simp only [maxLen] at pB; omega
   have grown:∀ (lv:Nat),lv<n+m ->
     (w.drew.alloc (.cells (us.toArray++news.toArray++Builtin.zeroCells ei.cells (grownCap w (n+m) lv e - (n+m))) e)).ownsRow 0 e i.size (.slice (some ⟨w.heap.size,0,none⟩) (n+m) (grownCap w (n+m) lv e)) (n+m) (us++news):=by
    intro lv bf
    have eb:=grownCap_ge w (n+m) lv e
    have hlen:(us++news).length=(n+m) * i.size:=by rw [List.length_append,mf,ao,Nat.add_mul]
    refine ⟨hlen,.inr ⟨w.heap.size,_,_,rfl,Nat.zero_le _,rN w.drew _,eb,grownCap_le_maxLen w (n+m) lv e pB,?_,?_⟩⟩
    ·simp only [Array.size_append,List.size_toArray,size_zeroCells,nE,mf,ao,<- Nat.add_mul]
     congr 1
     omega
    ·simp only [Array.toList_append,List.append_assoc]
     rw [<- List.append_assoc,<- hlen]
     exact List.take_left
   have FH:=kN
   obtain ⟨_,b9⟩:=kN
   rcases b9 with ⟨rfl,rfl⟩ | ⟨b,cap,cur,rfl,_,a7,hle,mF,hx,KO⟩
   ·have J:us=[]:=List.eq_nil_of_length_eq_zero (by simpa using mf)
    subst J
    have aw:=run_append_nil (P:=P) w t ty e i ei aG hi bG ad m c news ao sf (by omega) (by omega) (by simp only [Nat.zero_add] at B_; omega)
    have qf:=grown 0 (by omega)
    simp only [Nat.zero_add,List.nil_append,Array.empty_append] at qf
    exact ⟨_,_,e,aw,.same FH (λc ab=>qS w.drew _ c ab) (by simp) rfl rfl rfl (by simpa using qf) (λc ab=>.inr (by simp [Value.ownBlock] at ab; omega)) (λa=>Ex w.drew _ _ a)⟩
   ·by_cases zn:n+m<=cap
    ·have Fh:n * i.size+news.length<=cur.size:=by rw [ao,hx,<- Nat.add_mul]; exact Nat.mul_le_mul_right _ zn
     have aw:=TK (P:=P) (w:=w) t ty e cQ i aG hi b n cap cur a7 ad m c news ao sf h1 zn Fh
     have hlen:(us++news).length=(n+m) * i.size:=by rw [List.length_append,mf,ao,Nat.add_mul]
     have gh:(cur.toList.take (n * i.size)++news++cur.toList.drop (n * i.size+news.length)).toArray.size=cur.size:=by
      simp only [List.size_toArray,List.length_append,List.length_take,List.length_drop,Array.length_toList]
      omega
     have fT:(cur.toList.take (n * i.size)++news++cur.toList.drop (n * i.size+news.length)).take (n * i.size)=cur.toList.take (n * i.size):=by
      rw [List.append_assoc]
      exact List.take_left' (by simp; omega)
     refine ⟨_,_,cQ,aw,⟨⟨mf,.inr ⟨b,cap,_,rfl,Nat.zero_le _,setRow_heap w b cur _ cQ _ a7,hle,mF,gh.trans hx,?_⟩⟩,⟨hlen,.inr ⟨b,cap,_,rfl,Nat.zero_le _,setRow_heap w b cur _ cQ _ a7,zn,mF,gh.trans hx,?_⟩⟩,
      ⟨rfl,rfl,rfl,by simp,λk _ hk=>setRow_other w b k _ (λe=>hk (by simp [Value.ownBlock,e])),λa _=>Ez w b _ a,Nat.le_refl _⟩,λc ab=>.inl ab,λc ab=>?_⟩⟩
     ·rw [<- KO]; exact fT
     ·rw [KO,<- hlen]
      exact List.take_left
     ·simp only [Value.ownBlock,Option.some.injEq] at ab
      subst ab
      exact ⟨cur,_,a7,setRow_heap w b cur _ cQ _ a7,gh,fT⟩
    ·have holds:∀ (ae:Nat) (u:Value),us[ae]?=some u->w.cell? ((⟨b,0,none⟩:Addr).add ae)=some u:=FH.cells (g:=b) rfl
     have aw:=run_append_grow (P:=P) w t ty e i ei aG hi bG ⟨b,0,none⟩ n cap us mf holds ad m c news ao sf (by omega) (by omega) (growslice_fits (by omega) B_)
     have qf:=grown cap (by omega)
     exact ⟨_,_,e,aw,.same FH (λc ab=>qS w.drew _ c ab) (by simp) rfl rfl rfl qf (λc ab=>.inr (by simp [Value.ownBlock] at ab; omega)) (λa=>Ex w.drew _ _ a)⟩
end
end Go.Own
namespace Go.Own
open Go
section
variable {w w':World}{I:bt}{ρ ρ':ag->Value->Prop}
theorem R.kids {x:ag}{v:Value}{F:bt}(h:R w I ρ x v F) (J:x.kids≠[]):∃ Fs:Nat->bt,
  (∀ k y,x.kids[k]?=some y->∃ u,child w v k=some u/\R w I ρ y u (Fs k))/\(∀ (ae k c:Nat),ae<x.kids.length->k<x.kids.length->Fs ae c->Fs k c->ae=k) /\
  (∀ k c,k<x.kids.length->Fs k c->F c)/\(∀ z n cs,x=.own z n cs->∀ c,v.ownBlock=some c->∀ k,k<x.kids.length->¬ Fs k c):=by
 cases h with
 | @own z n cs _ e us Fs _ bf ao h1 aw aV aI aQ =>
  refine ⟨Fs,λk y hk=>?_,aV,λk c hk ab=>(aQ c).2 (.inr ⟨k,hk,ab⟩),λ_ _ _ _ c ab k hk h=>aI k c hk h ab⟩
  simp only [ag.kids] at hk
  have bd:k<cs.length:=(List.getElem?_eq_some_iff.1 hk).1
  have hu:us[k]?=some us[k]:=List.getElem?_eq_getElem (ao ▸ bd)
  exact ⟨_,nH bf hu,aw k y _ hk hu⟩
 | @obj cs b e arr Fs _ bf ao h1 aw aV aI aQ =>
  refine ⟨Fs,λk y hk=>?_,aV,λk c hk ab=>(aQ c).2 (.inr ⟨k,hk,ab⟩),λ_ _ _ h=>by simp at h⟩
  simp only [ag.kids] at hk
  have bd:k<cs.length:=(List.getElem?_eq_some_iff.1 hk).1
  have hu:arr[k]?=some arr[k]:=Array.getElem?_eq_getElem (ao ▸ bd)
  exact ⟨_,by simp [child,World.cell?,bf,hu],aw k y _ hk hu⟩
 | @agg cs vs Fs _ ao h1 aw aV aQ =>
  refine ⟨Fs,λk y hk=>?_,aV,λk c hk ab=>(aQ c).2 ⟨k,hk,ab⟩,λ_ _ _ h=>by simp at h⟩
  simp only [ag.kids] at hk
  have bd:k<cs.length:=(List.getElem?_eq_some_iff.1 hk).1
  have hu:vs[k]?=some vs[k]:=Array.getElem?_eq_getElem (ao ▸ bd)
  exact ⟨_,by simp [child,hu],aw k y _ hk hu⟩
 | @cw cs vs Fs _ ao aw aV aQ =>
  refine ⟨Fs,λk y hk=>?_,aV,λk c hk ab=>(aQ c).2 ⟨k,hk,ab⟩,λ_ _ _ h=>by simp at h⟩
  simp only [ag.kids] at hk
  have bd:k<cs.length:=(List.getElem?_eq_some_iff.1 hk).1
  have hu:vs[k]?=some vs[k]:=Array.getElem?_eq_getElem (ao ▸ bd)
  exact ⟨_,by simp [child,hu],aw k y _ hk hu⟩
 | ref gk=>cases x <;> simp [ag.isRef,ag.kids] at gk J
 | _=>simp [ag.kids] at J
theorem ag.s4 {x y:ag}{k:Nat}{p:List Nat}(h:x.at (k::p)=some y):∃ c,x.kids[k]?=some c/\c.at p=some y:=by
 simp only [ag.at] at h
 cases hk:x.kids[k]? with
 | none=>rw [hk] at h; cases h
 | some c=>rw [hk] at h; exact ⟨c,rfl,h⟩
theorem R.GH {b:Nat}:∀ (q r:List Nat) {x:ag}{v:Value}{F:bt}{z n cG cT:Nat}{cs cs':List ag}{ou AR:Value},R w I ρ x v F->x.at q=some (.own z n cs)->x.at r=some (.own cG cT cs') ->
  walk w v q=some ou->walk w v r=some AR->ou.ownBlock=some b->AR.ownBlock=some b->q=r
 | [],[],_,_,_,_,_,_,_,_,_,_,_,_,_,_,_,_,_,_=>rfl
 | [],k::r,x,v,F,z,n,cG,cT,cs,cs',ou,AR,h,bP,aw,qI,wr,wI,wJ=>by
  obtain ⟨c,hk,ab⟩:=ag.s4 aw
  simp only [ag.at,Option.some.injEq] at bP
  simp only [walk,Option.some.injEq] at qI
  subst bP qI
  have bd:k<(ag.own z n cs).kids.length:=(List.getElem?_eq_some_iff.1 hk).1
  obtain ⟨Fs,h1,al,aR,b3⟩:=h.kids (by intro e; rw [e] at bd; simp at bd)
  obtain ⟨u,hu,l7⟩:=h1 k c hk
  simp only [walk,hu] at wr
  obtain ⟨iu,cJ,hw,dQ,dz,_⟩:=R.focus r l7 ab
  rw [hw] at wr
  cases wr
  exact absurd (dz b (dQ.o5 b wJ)) (b3 z n cs rfl b wI k bd)
 | ae::q,[],x,v,F,z,n,cG,cT,cs,cs',ou,AR,h,bP,aw,qI,wr,wI,wJ=>by
  obtain ⟨c,hk,ab⟩:=ag.s4 bP
  simp only [ag.at,Option.some.injEq] at aw
  simp only [walk,Option.some.injEq] at wr
  subst aw wr
  have bd:ae<(ag.own cG cT cs').kids.length:=(List.getElem?_eq_some_iff.1 hk).1
  obtain ⟨Fs,h1,al,aR,b3⟩:=h.kids (by intro e; rw [e] at bd; simp at bd)
  obtain ⟨u,hu,l7⟩:=h1 ae c hk
  simp only [walk,hu] at qI
  obtain ⟨iu,cJ,hw,dQ,dz,_⟩:=R.focus q l7 ab
  rw [hw] at qI
  cases qI
  exact absurd (dz b (dQ.o5 b wI)) (b3 cG cT cs' rfl b wJ ae bd)
 | ae::q,k::r,x,v,F,z,n,cG,cT,cs,cs',ou,AR,h,bP,aw,qI,wr,wI,wJ=>by
  obtain ⟨c,aa,ab⟩:=ag.s4 bP
  obtain ⟨d,hk,aV⟩:=ag.s4 aw
  have fg:ae<x.kids.length:=(List.getElem?_eq_some_iff.1 aa).1
  have dS:k<x.kids.length:=(List.getElem?_eq_some_iff.1 hk).1
  obtain ⟨Fs,h1,al,aR,b3⟩:=h.kids (by intro e; rw [e] at fg; simp at fg)
  obtain ⟨u,hu,l7⟩:=h1 ae c aa
  obtain ⟨sM,fG,EV⟩:=h1 k d hk
  simp only [walk,hu] at qI
  simp only [walk,fG] at wr
  by_cases eM:ae=k
  ·subst eM
   rw [aa] at hk; cases hk
   rw [hu] at fG; cases fG
   rw [R.GH q r l7 ab aV qI wr wI wJ]
  ·exfalso
   obtain ⟨iu,cJ,hw,dQ,dz,_⟩:=R.focus q l7 ab
   obtain ⟨UC,ja,u6,yY,Qj,_⟩:=R.focus r EV aV
   rw [hw] at qI; cases qI
   rw [u6] at wr; cases wr
   exact eM (al ae k b fg dS (dz b (dQ.o5 b wI)) (Qj b (yY.o5 b wJ)))
theorem ag.Ma:∀ (q:List Nat) {x y:ag},x.at q=some y->x.setAt q y=x
 | [],x,y,h=>by simp [ag.at] at h; simp [ag.setAt,h]
 | k::q,x,y,h=>by
  obtain ⟨c,hk,ab⟩:=ag.s4 h
  simp only [ag.setAt,hk,ag.Ma q ab]
  have:∀ (l:List ag),l[k]?=some c->l.set k c=l:=by
   intro l ao
   apply List.ext_getElem?
   intro ae
   by_cases eM:k=ae
   ·subst eM
    have bd:k<l.length:=(List.getElem?_eq_some_iff.1 ao).1
    rw [List.getElem?_set_self bd,ao]
   ·rw [List.getElem?_set_ne eM]
  cases x <;> simp [ag.kids] at hk <;> simp [ag.ua,this _ hk]
theorem AT (w:World):∀ (p:List Nat) (v:Value) (r:List Nat),walk w v (p++r)=(walk w v p).bind λu=>walk w u r
 | [],v,r=>rfl
 | k::p,v,r=>by
  simp only [List.cons_append,walk]
  cases child w v k with
  | none=>rfl
  | some u=>exact AT w p u r
theorem ag.DO:∀ (p:List Nat) (x:ag) (r:List Nat),x.at (p++r)=(x.at p).bind λy=>y.at r
 | [],x,r=>rfl
 | k::p,x,r=>by
  simp only [List.cons_append,ag.at]
  cases x.kids[k]? with
  | none=>rfl
  | some u=>exact ag.DO p u r
structure Bh (w w':World) (b M:Nat):Prop where
 other:∀ c,c<w.heap.size->c≠b->w'.heap[c]?=w.heap[c]?
 here:∃ (arr jd:Array Value) (e:TypeId),w.heap[b]?=some (.cells arr e (0,0))/\w'.heap[b]?=some (.cells jd e (0,0))/\jd.size=arr.size/\jd.toList.take M=arr.toList.take M
theorem Bh.row {b M:Nat}(s:Bh w w' b M) {e:TypeId}{z n:Nat}{v:Value}{us:List Value}(h:w.ownsRow 0 e z v n us) (aN:v.ownBlock=some b->n * z<=M):w'.ownsRow 0 e z v n us:=by
 by_cases aI:v.ownBlock=some b
 ·obtain ⟨arr,jd,dn,h1,al,aR,b3⟩:=s.here
  obtain ⟨hu,b9⟩:=h
  rcases b9 with ⟨rfl,rfl⟩ | ⟨g,cap,cur,rfl,a7,ab,sy,gm,tU,rr⟩
  ·simp [Value.ownBlock] at aI
  ·simp only [Value.ownBlock,Option.some.injEq] at aI
   subst aI
   rw [h1] at ab
   cases ab
   refine ⟨hu,.inr ⟨g,cap,jd,rfl,a7,al,sy,gm,by omega,?_⟩⟩
   rw [<- rr]
   have:=congrArg (List.take (n * z)) b3
   rwa [List.take_take,List.take_take,Nat.min_eq_left (aN rfl)] at this
 ·exact tO h λc ab=>s.other c (h.lt c ab).2 λe=>aI (e ▸ ab)
theorem R.spare {b M:Nat}(s:Bh w w' b M) (bs:∀ c,I c->c<w.heap.size/\c≠b) (k9:∀ x v,ρ x v->ρ' x v) {x:ag}{v:Value}{F:bt}(h:R w I ρ x v F) {q:List Nat}{z n:Nat}{cs:List ag}{iu:Value}
  (fS:x.at q=some (.own z n cs)) (hw:walk w v q=some iu) (aI:iu.ownBlock=some b) (aN:n * z<=M) :
  R w' I ρ' x v F/\∀ r y,x.at r=some y->walk w' v r=walk w v r:=by
 obtain ⟨UC,cJ,u6,dQ,dz,fW,kx⟩:=R.focus q h fS
 rw [hw] at u6
 cases u6
 have ny:cJ b:=dQ.o5 b aI
 have bd:=h.lt
 have same:∀ c,F c->c≠b->w'.heap[c]?=w.heap[c]?:=λc ab ez=>s.other c (bd c ab) ez
 have Vs:=dQ
 cases dQ with
 | ref J=>simp [ag.isRef] at J
 | @own _ _ _ _ e us Fs _ bf ao h1 aw aV jY aQ =>
  have ma:=s.row bf λ_=>aN
  have ez:∀ k c,k<cs.length->Fs k c->c≠b:=λk c hk ab e=>jY k c hk ab (e ▸ aI)
  have jf:∀ k c,k<cs.length->Fs k c->F c:=λk c hk ab=>dz c ((aQ c).2 (.inr ⟨k,hk,ab⟩))
  have qi:R w' I ρ' (.own z n cs) iu cJ:=by
   refine .own ma ao h1 (λk x u J hu=>?_) aV jY aQ
   have hk:k<cs.length:=(List.getElem?_eq_some_iff.1 J).1
   exact (aw k x u J hu).frame (λc ab=>s.other c (bs c ab).1 (bs c ab).2) (λ_ h=>h) k9 λc ab=>same c (jf k c hk ab) (ez k c hk ab)
  constructor
  ·obtain ⟨fU,jg,n2⟩:=kx w' I ρ' _ cJ ⟨λc ab=>s.other c (bs c ab).1 (bs c ab).2,λc ab aN=>same c ab λe=>aN (e ▸ ny),λ_ h=>h,k9⟩ qi λc ab _=>ab
   rw [ag.Ma q fS] at jg
   refine jg.wP λc=>?_
   rw [n2 c]
   constructor
   ·rintro (⟨h,_⟩ | h)
    ·exact h
    ·exact dz c h
   ·intro h
    by_cases ab:cJ c
    ·exact .inr ab
    ·exact .inl ⟨h,ab⟩
  ·obtain ⟨jq,ia⟩:=fW w' λc ab aN=>same c ab λe=>aN (e ▸ ny)
   intro r y eQ
   rcases ia r y eQ with ⟨e5,rfl⟩ | h
   ·rw [AT,AT,jq,hw]
    simp only [Option.bind_some]
    cases e5 with
    | nil=>rfl
    | cons k e5 =>
     rw [ag.DO,fS] at eQ
     obtain ⟨c,hk,ab⟩:=ag.s4 (x:=.own z n cs) eQ
     simp only [ag.kids] at hk
     have dS:k<cs.length:=(List.getElem?_eq_some_iff.1 hk).1
     have hu:us[k]?=some us[k]:=List.getElem?_eq_getElem (ao ▸ dS)
     have:=R.ov (w':=w') e5 (aw k c _ hk hu) ab λc ab=>same c (jf k c dS ab) (ez k c dS ab)
     simp [walk,nH bf hu,nH ma hu,this]
   ·exact h
end
end Go.Own
namespace Go.Own
open Go
section
variable {w w':World}{I:bt}{T:Array Value}{g:aU}{Fs:Nat->bt}
theorem cW.Hm (h:cW w I T g Fs) {t:Nat}{x:ag}(J:g t=some x):∃ v,T[t]?=some v/\ep w T ⟨t,[]⟩=some v/\jx w I (ej w T g) x v (Fs t):=by
 obtain ⟨v,hv,bh⟩:=h.rel t x J
 exact ⟨v,hv,by simp [ep,hv,walk],bh⟩
theorem cW.app (h:cW w I T g Fs) {z n m:Nat}{p:Place}{bv hP:Value}{e cZ:TypeId}{us news:List Value}(j':ej w T g (.b2 z p n 0 []) bv)
  (gY:∀ t cG cT b7 da,g t≠some (.b2 cG p cT b7 da)) (A:A5 w w' bv hP e cZ z n m us news):cW w' I T g Fs/\∀ r v,ej w T g r v->ej w' T g r v:=by
 cases jY:bv.ownBlock with
 | none =>
  have same:∀ c,c<w.heap.size->w'.heap[c]?=w.heap[c]?:=λc ab=>A.fy.block c ab (by rw [jY]; simp)
  exact ⟨h.world (λt c ab=>same c (h.jN t c ab)) (λc ab=>same c (h.lt c ab)) A.fy.size,λr v aw=>h.C5 (λ_ _=>rfl) (λt c ab=>same c (h.jN t c ab)) (λ_ _ h=>h) aw⟩
 | some b =>
  have s:Bh w w' b (n * z):=by
   refine ⟨λc ab ez=>A.fy.block c ab (by rw [jY]; simpa using Ne.symm ez),?_⟩
   obtain ⟨arr,jd,h1,al,aR,b3⟩:=A.sp b jY
   exact ⟨arr,jd,e,h1,al,aR,b3⟩
  obtain ⟨t0,ri⟩:=h.Br j' b jY
  have bs:∀ c,I c->c<w.heap.size/\c≠b:=λc ab=>⟨h.lt c ab,λe=>h.aD t0 b ri (e ▸ ab)⟩
  obtain ⟨⟨uw,ux,E',rfl⟩,eA⟩:=j'
  -- the home of the block
  have home:∃ N:Place->Prop,(∀ q cG cT cs' ou,b8 g q=some (.own cG cT cs')->ep w T q=some ou->ou.ownBlock=some b->N q) /\
    (∀ q,N q->∀ t cG cT b7 da,g t=some (.b2 cG q cT b7 da)->t=p.root/\p.path=[]) /\
    (∀ t cG gV cT b7 da,Fs t b->g t=some (.b2 cG gV cT b7 da)->t=p.root/\p.path=[]) /\
    (∀ cG gV cT b7 da,p.path=[]->g p.root=some (.b2 cG gV cT b7 da)->cG=z/\n=cT+b7) /\
    (∀ t x v,Fs t b->g t=some x->T[t]?=some v->R w I (ej w T g) x v (Fs t)->∃ q cG cT cs' iu,x.at q=some (.own cG cT cs')/\walk w v q=some iu/\iu.ownBlock=some b/\cT * cG<=n * z):=by
   rcases eA with ⟨cs,aF⟩ | ⟨ji,jQ,lu,m1,V5,cs,aF,aN,zj⟩
   ·-- the base is a row of a tree
    obtain ⟨pd,pg,gR,hI,lI⟩:=h.part aF (by simp)
    rw [E'] at gR
    cases gR
    have me:t0=p.root:=h.e8 _ _ _ ri (lI b (hI.o5 b jY))
    obtain ⟨fv,kP⟩:∃ fv,g p.root=some fv:=by
     unfold b8 at aF
     cases J:g p.root with
     | none=>rw [J] at aF; cases aF
     | some x=>exact ⟨x,rfl⟩
    have qd:fv.at p.path=some (.own z n cs):=by simpa [b8,kP] using aF
    have kR:∀ cG gV cT b7 da,g p.root≠some (.b2 cG gV cT b7 da):=by
     intro cG gV cT b7 da b9
     rw [kP] at b9
     cases b9
     have:=(ag.rQ qd).2
     simp at this
    obtain ⟨v0,jj,gE⟩:=h.rel _ _ kP
    have EN:=gE.hT (λcG gV cT b7 da e=>kR cG gV cT b7 da (by rw [kP,e]))
    have zt:walk w v0 p.path=some (.slice uw n ux):=by simpa [ep,jj] using E'
    refine ⟨λq=>q=p,?_,?_,?_,?_,?_⟩
    ·intro q cG cT cs' ou bP rk uZ
     obtain ⟨Mz,MP,tH,ET,EH⟩:=h.part bP (by simp)
     rw [rk] at tH
     cases tH
     have aw:q.root=p.root:=(h.e8 _ _ _ (EH b (ET.o5 b uZ)) ri).trans me
     have y3:fv.at q.path=some (.own cG cT cs'):=by simpa [b8,aw,kP] using bP
     have FY:walk w v0 q.path=some ou:=by simpa [ep,aw,jj] using rk
     have:=R.GH q.path p.path EN y3 qd FY zt uZ jY
     cases q; cases p; simp_all
    ·rintro q rfl t cG cT b7 da b9; exact absurd b9 (gY t cG cT b7 da)
    ·intro t cG gV cT b7 da oa b9
     have:t=p.root:=(h.e8 _ _ _ oa ri).trans me
     rw [this] at b9
     exact absurd b9 (kR _ _ _ _ _)
    ·intro cG gV cT b7 da _ b9; exact absurd b9 (kR _ _ _ _ _)
    ·intro t x v oa J hv bh
     have:t=p.root:=(h.e8 _ _ _ oa ri).trans me
     subst this
     rw [kP] at J; cases J
     rw [jj] at hv; cases hv
     exact ⟨_,_,_,_,_,qd,zt,jY,Nat.le_refl _⟩
   ·-- the base is behind an append itself
    obtain ⟨v0,jj,zs,gE⟩:=h.Hm aF
    have R5:v0=.slice uw n ux:=by
     have:(⟨p.root,[]⟩:Place)=p:=by cases p; simp_all
     rw [this,E'] at zs
     exact (Option.some.inj zs).symm
    subst R5
    obtain ⟨NO,dn,U9,Ux,V7,gE⟩:=gE.tK
    by_cases ds:NO.ownBlock=some b
    ·obtain ⟨⟨av,IJ,KU,rfl⟩,_⟩:=gE.j'
     obtain ⟨ou,MP,rk,ET,EH⟩:=h.part zj (by simp)
     rw [KU] at rk
     cases rk
     have me:t0=jQ.root:=h.e8 _ _ _ ri (EH b (ET.o5 b ds))
     obtain ⟨fv,kP⟩:∃ fv,g jQ.root=some fv:=by
      unfold b8 at zj
      cases J:g jQ.root with
      | none=>rw [J] at zj; cases zj
      | some x=>exact ⟨x,rfl⟩
     have qd:fv.at jQ.path=some (.own z lu cs):=by simpa [b8,kP] using zj
     have kR:∀ cG gV cT b7 da,g jQ.root≠some (.b2 cG gV cT b7 da):=by
      intro cG gV cT b7 da b9
      rw [kP] at b9
      cases b9
      have:=(ag.rQ qd).2
      simp at this
     obtain ⟨v1,oc,EO⟩:=h.rel _ _ kP
     have Qw:=EO.hT (λcG gV cT b7 da e=>kR cG gV cT b7 da (by rw [kP,e]))
     have zt:walk w v1 jQ.path=some (.slice av lu IJ):=by simpa [ep,oc] using KU
     refine ⟨λq=>q=jQ,?_,?_,?_,?_,?_⟩
     ·intro q cG cT cs' ou bP rk uZ
      obtain ⟨Mz,MQ,tH,EU,EI⟩:=h.part bP (by simp)
      rw [rk] at tH
      cases tH
      have aw:q.root=jQ.root:=(h.e8 _ _ _ (EI b (EU.o5 b uZ)) ri).trans me
      have y3:fv.at q.path=some (.own cG cT cs'):=by simpa [b8,aw,kP] using bP
      have FY:walk w v1 q.path=some ou:=by simpa [ep,aw,oc] using rk
      have:=R.GH q.path jQ.path Qw y3 qd FY zt uZ ds
      cases q; cases jQ; simp_all
     ·rintro q rfl t cG cT b7 da b9; exact ⟨h.pQ _ _ _ _ _ _ _ _ _ _ _ b9 aF,ji⟩
     ·intro t cG gV cT b7 da oa b9
      have:t=jQ.root:=(h.e8 _ _ _ oa ri).trans me
      rw [this] at b9
      exact absurd b9 (kR _ _ _ _ _)
     ·intro cG gV cT b7 da _ b9
      rw [aF] at b9; cases b9; exact ⟨rfl,aN⟩
     ·intro t x v oa J hv bh
      have:t=jQ.root:=(h.e8 _ _ _ oa ri).trans me
      subst this
      rw [kP] at J; cases J
      rw [oc] at hv; cases hv
      exact ⟨_,_,_,_,_,qd,zt,ds,Nat.mul_le_mul_right _ (by omega)⟩
    ·have w2:Fs p.root b:=(gE.aQ b).2 ⟨jY,ds⟩
     have me:t0=p.root:=h.e8 _ _ _ ri w2
     refine ⟨λ_=>False,?_,λ_ h=>h.elim,?_,?_,?_⟩
     ·intro q cG cT cs' ou bP rk uZ
      obtain ⟨Mz,MQ,tH,EU,EI⟩:=h.part bP (by simp)
      rw [rk] at tH
      cases tH
      have aw:q.root=p.root:=h.e8 _ _ _ (EI b (EU.o5 b uZ)) w2
      unfold b8 at bP
      rw [aw,aF] at bP
      have:=(ag.rQ bP).2
      simp at this
     ·intro t cG gV cT b7 da oa _; exact ⟨h.e8 _ _ _ oa w2,ji⟩
     ·intro cG gV cT b7 da _ b9
      rw [aF] at b9; cases b9; exact ⟨rfl,aN⟩
     ·intro t x v oa J hv bh
      have:t=p.root:=h.e8 _ _ _ oa w2
      subst this
      rw [aF] at J; cases J
      exact bh.kR.elim
  obtain ⟨N,JY,JZ,J0,Qt,Qu⟩:=home
  -- rows of pends
  have pends:∀ t cG gV cT b7 da v wK cQ rY iC CK,g t=some (.b2 cG gV cT b7 da)->T[t]?=some v->DA w I (ej w T g) cG gV cT b7 da v (Fs t) wK cQ rY iC CK ->
    (v.ownBlock=some b->(cT+b7) * cG<=n * z)/\(wK.ownBlock=some b->cT * cG<=n * z):=by
   intro t cG gV cT b7 da v wK cQ rY iC CK a7 hv bh
   by_cases aG:t=p.root/\p.path=[]
   ·obtain ⟨rfl,ji⟩:=aG
    obtain ⟨rfl,rfl⟩:=Qt _ _ _ _ _ ji a7
    exact ⟨λ_=>Nat.le_refl _,λ_=>Nat.mul_le_mul_right _ (by omega)⟩
   ·have tm:wK.ownBlock≠some b:=by
     intro ko
     obtain ⟨⟨a2,p8,KV,rfl⟩,RJ⟩:=bh.j'
     rcases RJ with ⟨cs2,al⟩ | ⟨bc,AE,S9,m3,V6,U7,al,aR,b3⟩
     ·exact aG (JZ gV (JY gV _ _ _ _ al KV ko) t _ _ _ _ a7)
     ·obtain ⟨v2,pK,KS,lJ⟩:=h.Hm al
      have Cl:(⟨gV.root,[]⟩:Place)=gV:=by cases gV; simp_all
      rw [Cl,KV] at KS
      cases KS
      have KJ:gV.root=p.root/\p.path=[]->False:=by
       rintro ⟨aw,ji⟩
       have:gV=p:=by cases gV; cases p; simp_all
       exact gY t cG cT b7 da (this ▸ a7)
      obtain ⟨NP,jV,U_,Wc,V8,lJ⟩:=lJ.tK
      by_cases fb:NP.ownBlock=some b
      ·obtain ⟨⟨a4,U6,R8,rfl⟩,_⟩:=lJ.j'
       exact KJ (JZ AE (JY AE _ _ _ _ b3 R8 fb) _ _ _ _ _ al)
      ·exact KJ (J0 _ _ _ _ _ _ ((lJ.aQ b).2 ⟨ko,fb⟩) al)
    refine ⟨λR9=>?_,λko=>absurd ko tm⟩
    exact absurd (J0 _ _ _ _ _ _ ((bh.aQ b).2 ⟨R9,tm⟩) a7) aG
  -- trees
  have bd:=h.jN
  have trees:∀ t x v (ρ':ag->Value->Prop),(∀ x v,ej w T g x v->ρ' x v)->g t=some x->T[t]?=some v->R w I (ej w T g) x v (Fs t)->R w' I ρ' x v (Fs t)/\∀ r y,x.at r=some y->walk w' v r=walk w v r:=by
   intro t x v ρ' k9 J hv bh
   by_cases oa:Fs t b
   ·obtain ⟨q,cG,cT,cs',iu,h1,al,aR,b3⟩:=Qu t x v oa J hv bh
    exact bh.spare s bs k9 h1 al aR b3
   ·have same:∀ c,Fs t c->w'.heap[c]?=w.heap[c]?:=λc ab=>s.other c (bd t c ab) λe=>oa (e ▸ ab)
    exact ⟨bh.frame (λc ab=>s.other c (bs c ab).1 (bs c ab).2) (λ_ h=>h) k9 same,λr y aw=>R.ov r bh aw same⟩
  have val:∀ q y,b8 g q=some y->ep w' T q=ep w T q:=by
   intro q y bP
   unfold b8 at bP
   cases J:g q.root with
   | none=>rw [J] at bP; cases bP
   | some x =>
    rw [J] at bP
    obtain ⟨v,hv,bh⟩:=h.rel _ _ J
    cases bh with
    | tree bh=>have:=(trees _ x v _ (λ_ _ h=>h) J hv bh).2 q.path y bP; simp [ep,hv,this]
    | b2 bh=>simp [ep,hv,(ag.rQ bP).1,walk]
  have slot:∀ {q:Place}{x:ag},q.path=[]->g q.root=some x->ep w' T q=ep w T q:=by
   intro q x bP J
   obtain ⟨v,hv,_⟩:=h.rel _ _ J
   simp [ep,bP,walk]
  have refs:∀ r v,ej w T g r v->ej w' T g r v:=by
   rintro r v ⟨h1,al⟩
   refine ⟨?_,al⟩
   cases r <;> simp only [f_,hc] at h1 al ⊢
   case ptr q k=>obtain ⟨y,ay,_⟩:=al; rw [val q y ay]; exact h1
   case bm cG q cT =>
    rcases al with ⟨_,_,al,_⟩ | ⟨bc,_,_,_,_,al,_⟩
    ·rw [val q _ al]; exact h1
    ·rw [slot bc al]; exact h1
   case sub cG q lo cT=>obtain ⟨_,_,al,_⟩:=al; rw [val q _ al]; exact h1
   case iK q=>obtain ⟨_,al⟩:=al; rw [val q _ al]; exact h1
   case b2 cG q cT b7 da =>
    rcases al with ⟨_,al⟩ | ⟨bc,_,_,_,_,_,al,_⟩
    ·rw [val q _ al]; exact h1
    ·rw [slot bc al]; exact h1
  refine ⟨⟨λt x J=>?_,h.kt,h.e8,h.aD,λc ab=>Nat.lt_of_lt_of_le (h.lt c ab) A.fy.size,h.pQ⟩,refs⟩
  obtain ⟨v,hv,bh⟩:=h.rel t x J
  refine ⟨v,hv,?_⟩
  cases bh with
  | tree bh=>exact .tree (trees t x v _ refs J hv bh).1
  | @b2 cG cT b7 gV da _ wK cQ rY iC CK _ bh =>
   obtain ⟨fk,qy⟩:=pends t _ _ _ _ _ v wK cQ rY iC CK J hv bh
   refine .b2 ⟨refs _ _ bh.j',s.row bh.kN qy,s.row bh.mb fk,bh.ao,bh.h1,λk x u J hu=>?_,bh.aQ⟩
   exact (bh.aw k x u J hu).frame (λc ab=>s.other c (bs c ab).1 (bs c ab).2) (λ_ h=>h) refs λc ab=>ab.elim
end
end Go.Own
namespace Go.Own
open Go
def sU (w:World) (I:bt) (T:Array Value) (g:aU) (Fs:Nat->bt) (x:ag) (v:Value) (w':World):Prop :=
 ∃ F I',cW w' I' T g Fs/\jx w' I' (ej w' T g) x v F/\(∀ t c,F c->¬ Fs t c)/\(∀ c,F c->w.heap.size<=c/\¬ I' c)/\(∀ c,I c->I' c)/\(∀ c,I' c->I c\/w.heap.size<=c)/\Fr w w' (λc=>∃ t,Fs t c)/\(∀ z p n m new,x=.b2 z p n m new->∀ t cG cT b7 da,g t≠some (.b2 cG p cT b7 da))
inductive Src (g:aU):ag->Nat->Nat->List ag->Prop
 | aD {z m:Nat}{cs:List ag}:Src g (.aD z m cs) z m cs
 | aJ {z:Nat}:Src g .aJ z 0 []
 | bm {z m N:Nat}{q:Place}{cs:List ag}(bP:b8 g q=some (.own z N cs)) (hm:m<=N):Src g (.bm z q m) z m ((cs.take (m * z)).mapIdx λi x=>h_ 0 (q.push i) x)
 | sub {z lo m N:Nat}{q:Place}{cs:List ag}(bP:b8 g q=some (.own z N cs)) (hm:lo+m<=N):Src g (.sub z q lo m) z m (((cs.drop (lo * z)).take (m * z)).mapIdx λi x=>h_ 0 (q.push (lo * z+i)) x)
def iQ (P:Program) (t e:TypeId) (z b:Nat):Bool :=
 match P.underlying t,P.info? e with
 | some (.slice cQ),some i=>cQ == e&&i.size == z&&i.bytes == b&&z != 0&&(match i.zero with | some v=>v.cells.size == z | none=>false)
 | _,_=>false
section
variable {P:Program}{w:World}{I:bt}{T:Array Value}{g:aU}{Fs:Nat->bt}
theorem Ij {t e:TypeId}{z b:Nat}(h:iQ P t e z b=true):∃ i ei,P.underlying t=some (.slice e)/\P.info? e=some i/\i.size=z/\i.bytes=b/\0<z/\i.zero=some ei/\ei.cells.size=z:=by
 unfold iQ at h
 cases hu:P.underlying t with
 | none=>simp [hu] at h
 | some d =>
  cases hi:P.info? e with
  | none=>cases d <;> simp [hu,hi] at h
  | some i =>
   cases d <;> simp [hu,hi] at h
   obtain ⟨⟨⟨⟨rfl,h1⟩,al⟩,aR⟩,b3⟩:=h
   cases bG:i.zero with
   | none=>simp [bG] at b3
   | some ei=>simp [bG] at b3; exact ⟨i,ei,rfl,rfl,h1,al,by omega,bG,b3⟩
theorem Src.sound (h:cW w I T g Fs) {y:ag}{v:Value}{z m:Nat}{cells:List ag}(aP:Src g y z m cells) (bh:R w I (ej w T g) y v cS) :
  ∃ (a:Option Addr) (c:Nat) (news:List Value),v=.slice a m c/\news.length=m * z/\(0<m->0<z->a.isSome=true)/\(∀ ad,a=some ad->∀ (ae:Nat) (u:Value),news[ae]?=some u->w.cell? (ad.add ae)=some u)/\Cells w I (ej w T g) cells news:=by
 have Lk:∀ {q:Place}{N:Nat}{cs:List ag}(lo:Nat) {a:Option Addr}{cap:Nat},b8 g q=some (.own z N cs)->ep w T q=some (.slice a N cap)->lo+m<=N ->
   ∃ news:List Value,news.length=m * z/\(∀ ad,a=some ad->∀ (ae:Nat) (u:Value),news[ae]?=some u->w.cell? ⟨ad.block,lo * z+ae,none⟩=some u)/\Cells w I (ej w T g) (((cs.drop (lo * z)).take (m * z)).mapIdx λi x=>h_ 0 (q.push (lo * z+i)) x) news/\(0<m->0<z->∃ b,a=some ⟨b,0,none⟩):=by
  intro q N cs lo a cap bP hv hm
  obtain ⟨hP,cJ,iU,dQ,_⟩:=h.part bP (by simp)
  rw [hv] at iU
  cases iU
  obtain ⟨cy,lG,jZ,_,hlen,pH,_⟩:=dQ.mq
  cases jZ
  have Vv:lo * z+m * z<=cs.length:=by rw [hlen,<- Nat.add_mul]; exact Nat.mul_le_mul_right _ hm
  have cell:∀ ae,ae<m * z->∃ b gA ke,a=some ⟨b,0,none⟩/\w.cell? ⟨b,lo * z+ae,none⟩=some gA/\gA.oneCell'=true/\cs[lo * z+ae]?=some ke/\R w I (ej w T g) (h_ 0 (q.push (lo * z+ae)) ke) gA cS:=by
   intro ae aa
   have gk:cs[lo * z+ae]?=some cs[lo * z+ae]:=List.getElem?_eq_getElem (by omega)
   obtain ⟨b,gA,fR,ll,lM,gx,bR,jW⟩:=dQ.node (.inl rfl) gk
   refine ⟨b,gA,_,?_,ll,gx,gk,C4 0 (by rw [rP,bP]; simp [ag.kids]) (by rw [vY,hv]; exact lM) jW⟩
   cases a with
   | none=>simp [addrOf] at fR
   | some ad=>simp only [addrOf] at fR; rw [Option.some.inj fR]
  have sf:∃ news:List Value,news.length=m * z/\∀ ae,ae<m * z->∃ b gA ke,news[ae]?=some gA/\a=some ⟨b,0,none⟩/\w.cell? ⟨b,lo * z+ae,none⟩=some gA/\gA.oneCell'=true/\cs[lo * z+ae]?=some ke/\R w I (ej w T g) (h_ 0 (q.push (lo * z+ae)) ke) gA cS:=by
   refine ⟨(List.range (m * z)).map λae=>(w.cell? ⟨(a.map (·.block)).getD 0,lo * z+ae,none⟩).getD undef,by simp,λae aa=>?_⟩
   obtain ⟨b,gA,ke,h1,al,aR,b3,c3⟩:=cell ae aa
   refine ⟨b,gA,ke,?_,h1,al,aR,b3,c3⟩
   rw [List.getElem?_map,List.getElem?_range aa,h1]
   simp [al]
  obtain ⟨news,ao,aN⟩:=sf
  refine ⟨news,ao,λad fR ae u aa=>?_,⟨?_,λae u aa=>?_,λae x u J aa=>?_⟩,λFB F7=>?_⟩
  ·obtain ⟨b,gA,ke,h1,al,aR,_⟩:=aN ae (by rw [<- ao]; exact (List.getElem?_eq_some_iff.1 aa).1)
   rw [h1] at aa; cases aa
   rw [fR] at al; cases al
   exact aR
  ·simp; omega
  ·obtain ⟨b,gA,ke,h1,al,aR,b3,_⟩:=aN ae (by rw [<- ao]; exact (List.getElem?_eq_some_iff.1 aa).1)
   rw [h1] at aa; cases aa; exact b3
  ·obtain ⟨b,gA,ke,h1,al,aR,b3,c3,eg⟩:=aN ae (by rw [<- ao]; exact (List.getElem?_eq_some_iff.1 aa).1)
   rw [h1] at aa; cases aa
   rw [List.getElem?_mapIdx,List.getElem?_take] at J
   split at J
   ·rw [List.getElem?_drop,c3] at J
    simp only [Option.map_some,Option.some.injEq] at J
    rw [<- J]; exact eg
   ·cases J
  ·obtain ⟨b,_,_,h1,_⟩:=cell 0 (Nat.mul_pos FB F7)
   exact ⟨b,h1⟩
 cases aP with
 | aD =>
  obtain ⟨a,cap,rfl,_,hlen,hm⟩:=bh.xj
  by_cases bc:cells≠[]\/0<m
  ·obtain ⟨ad,us,rfl,bs,kO,gx,ab,aw⟩:=hm bc
   refine ⟨_,cap,(List.range cells.length).map us,rfl,by simp [hlen],by simp,λM7 fR ae u aa=>?_,⟨by simp,λae u aa=>?_,λae x u J aa=>?_⟩⟩
   ·cases fR
    rw [List.getElem?_map] at aa
    by_cases fg:ae<cells.length
    ·rw [List.getElem?_range fg] at aa
     simp only [Option.map_some,Option.some.injEq] at aa
     obtain ⟨b,o,sp⟩:=ad
     simp only at kO
     subst kO
     rw [add_eq,<- aa]
     exact ab ae _ (List.getElem?_eq_getElem fg)
    ·rw [List.getElem?_eq_none (by simp; omega)] at aa; cases aa
   ·rw [List.getElem?_map] at aa
    by_cases fg:ae<cells.length
    ·rw [List.getElem?_range fg] at aa
     simp only [Option.map_some,Option.some.injEq] at aa
     rw [<- aa]
     exact gx ae _ (List.getElem?_eq_getElem fg)
    ·rw [List.getElem?_eq_none (by simp; omega)] at aa; cases aa
   ·rw [List.getElem?_map] at aa
    have fg:ae<cells.length:=(List.getElem?_eq_some_iff.1 J).1
    rw [List.getElem?_range fg] at aa
    simp only [Option.map_some,Option.some.injEq] at aa
    rw [<- aa]
    exact aw ae x J
  ·have FB:m=0:=by omega
   have Q_:cells=[]:=Classical.byContradiction λe=>bc (.inl e)
   subst FB Q_
   exact ⟨a,cap,[],rfl,by simp,by simp,by simp,by simp [Cells]⟩
 | aJ =>
  rw [bh.qv]
  exact ⟨none,0,[],rfl,by simp,by simp,by simp,by simp [Cells]⟩
 | @bm _ _ N q cs bP hm =>
  obtain ⟨⟨a,iO,cap,h1,rfl,aR⟩,b3⟩:=bh.mj
  obtain ⟨hP,cJ,iU,dQ,_⟩:=h.part bP (by simp)
  obtain ⟨cy,lG,jZ,_⟩:=dQ.mq
  rw [h1] at iU
  cases iU
  cases jZ
  obtain ⟨news,ao,ab,hx,bg⟩:=Lk 0 bP h1 (by omega)
  simp only [Nat.zero_mul,List.drop_zero,Nat.zero_add] at hx ab
  refine ⟨a,cap,news,rfl,ao,λbc B0=>by obtain ⟨b,rfl⟩:=bg bc B0; rfl,λad fR ae u aa=>?_,hx⟩
  have rb:=ab ad fR ae u aa
  by_cases bc:0<m/\0<z
  ·obtain ⟨b,aI⟩:=bg bc.1 bc.2
   rw [fR] at aI; cases aI
   rw [add_eq]; simpa using rb
  ·have:m * z=0:=by
    rcases Nat.eq_zero_or_pos m with h | h
    ·simp [h]
    ·rcases Nat.eq_zero_or_pos z with aT | aT
     ·simp [aT]
     ·exact absurd ⟨h,aT⟩ bc
   have:=(List.getElem?_eq_some_iff.1 aa).1
   omega
 | @sub _ lo _ N q cs bP hm =>
  obtain ⟨⟨a,iO,cap,cy,lG,h1,rfl,_,aR,c3⟩,b3⟩:=bh.vh
  obtain ⟨hP,cJ,iU,dQ,_⟩:=h.part bP (by simp)
  obtain ⟨a2,p8,jZ,_⟩:=dQ.mq
  rw [h1] at iU
  cases iU
  cases jZ
  obtain ⟨news,ao,ab,hx,bg⟩:=Lk lo bP h1 hm
  refine ⟨cy,lG,news,rfl,ao,λbc _=>by obtain ⟨ad,_,rfl⟩:=c3 bc; rfl,λad fR ae u aa=>?_,hx⟩
  have bd:=(List.getElem?_eq_some_iff.1 aa).1
  have bc:0<m:=(Nat.eq_zero_or_pos m).elim (λh=>by rw [h] at ao; omega) id

  have bG:0<z:=(Nat.eq_zero_or_pos z).elim (λh=>by rw [h] at ao; omega) id

  obtain ⟨M7,eg,kn⟩:=c3 bc
  obtain ⟨b,aI⟩:=bg bc bG
  rw [eg] at aI; cases aI
  rw [fR] at kn; cases kn
  have rb:=ab _ eg ae u aa
  rw [add_eq]; simpa using rb
end
end Go.Own
namespace Go.Own
open Go
inductive x_ (P:Program) (g:aU):Op->TypeId->ag->Prop
 | grow {s x:Operand}{t e ty:TypeId}{z b n m:Nat}{p:Place}{y:ag}{cells:List ag}(aP:bL g s=some (.bm z p n)) (eA:hc g (.b2 z p n 0 [])) (gY:∀ t cG cT b7 da,g t≠some (.b2 cG p cT b7 da))
   (J:bL g x=some y) (qk:Src g y z m cells) (aG:iQ P t e z b=true) (pB:n+m<=4611686018427387904) (aI:(n+m) * b<=140737488355328) :
   x_ P g (.call { callee:=.builtin .append,args:=#[s,x],argTypes:=#[t,t] }) ty (.b2 z p n m cells)
 | nil {s x:Operand}{t e ty:TypeId}{z b m:Nat}{y:ag}{cells:List ag}(aP:bL g s=some .aJ)
   (J:bL g x=some y) (qk:Src g y z m cells) (aG:iQ P t e z b=true) (pB:m<=4611686018427387904) (aI:m * b<=140737488355328) :
   x_ P g (.call { callee:=.builtin .append,args:=#[s,x],argTypes:=#[t,t] }) ty (.own z m cells)
inductive dr (P:Program) (g:aU):Op->TypeId->ag->Prop
 | fk {op:Op}{ty:TypeId}{x:ag}(h:dj P g op ty x):dr P g op ty x
 | qy {op:Op}{ty:TypeId}{x:ag}(h:oz P g op ty x):dr P g op ty x
 | CS {op:Op}{ty:TypeId}{x:ag}(h:sX P g op ty x):dr P g op ty x
 | lx {op:Op}{ty:TypeId}{x:ag}(h:x_ P g op ty x):dr P g op ty x
section
variable {P:Program}{w:World}{I:bt}{T:Array Value}{g:aU}{Fs:Nat->bt}
theorem Cells.frame {w':World}{cells:List ag}{news:List Value}(ab:Cells w I (ej w T g) cells news) (bs:∀ c,I c->w'.heap[c]?=w.heap[c]?) (aw:∀ r v,ej w T g r v->ej w' T g r v):Cells w' I (ej w' T g) cells news :=
 ⟨ab.1,ab.2.1,λk x u J hu=>(ab.2.2 k x u J hu).frame bs (λ_ h=>h) aw λ_ h=>h.elim⟩
theorem x_.sound (h:cW w I T g Fs) {a:Act}(bg:a.tmps=T) {o:Oper}{j5:ag}(aF:x_ P g o.op o.type j5) :
  ∃ v w',(execOp a.eval o).run P w=.ok (.value v) w'/\sU w I T g Fs j5 v w':=by
 obtain ⟨dst,op,ty,pos,after,guard⟩:=o
 simp only at aF
 cases aF with
 | @grow s x t e _ z b n m p y cells aP eA gY J qk aG pB aI =>
  obtain ⟨i,ei,hu,hi,rfl,rfl,bc,bG,nE⟩:=Ij aG
  obtain ⟨⟨uw,N,ux,h1,al,aR⟩,b3⟩:=(kT h aP bg).mj
  obtain ⟨AI,Hd,news,sh,ao,zo,FO,hx⟩:=qk.sound h (kT h J bg)
  -- the row of the base
  have n_:N=n/\∃ cQ us,w.ownsRow 0 cQ i.size (.slice uw n ux) n us:=by
   rcases eA with ⟨cs,aF⟩ | ⟨ji,q,hp,m0,new,cs,aF,rfl,_⟩
   ·obtain ⟨hP,cJ,iU,dQ,_⟩:=h.part aF (by simp)
    rw [h1] at iU
    cases iU
    obtain ⟨cy,lG,jZ,_⟩:=dQ.mq
    cases jZ
    cases dQ with
    | own bf=>exact ⟨rfl,_,_,bf⟩
    | ref J=>simp [ag.isRef] at J
   ·obtain ⟨v0,jj,zs,gE⟩:=h.Hm aF
    have bP:(⟨p.root,[]⟩:Place)=p:=by cases p; simp_all
    rw [bP,h1] at zs
    cases zs
    obtain ⟨bv,dn,cZ,us,V9,gE⟩:=gE.tK
    have bY:N=hp+m0:=by
     obtain ⟨_,b9⟩:=gE.mb
     rcases b9 with ⟨b9,aN⟩ | ⟨g,cap,cur,b9,_⟩
     ·cases b9; omega
     ·cases b9; rfl
    subst bY
    exact ⟨rfl,_,_,gE.mb⟩
  obtain ⟨rfl,cQ,us,kN⟩:=n_
  have j':ej w T g (.b2 i.size p N 0 []) (.slice uw N ux):=⟨⟨uw,ux,h1,rfl⟩,eA⟩
  obtain ⟨hP,w',cZ,h7,A⟩:=LV (P:=P) (w:=w) t ty e cQ i ei hu hi bG nE bc kN (a:=AI) (c:=Hd) (m:=m) (news:=news) (λhm=>zo hm bc) ao FO (λu hu=>by
   obtain ⟨k,hk,rfl⟩:=List.mem_iff_getElem.1 hu
   exact hx.2.1 k _ (List.getElem?_eq_getElem hk)) (by unfold maxLen; omega) aI
  obtain ⟨b1,hrefs⟩:=h.app j' gY A
  refine ⟨hP,w',by simp [execOp,resolve,invoke,builtin,al,sh,h7],(λc=>hP.ownBlock=some c/\(Value.slice uw N ux).ownBlock≠some c),I,b1,?_,?_,?_,λ_ h=>h,λ_ h=>.inl h,?_,?_⟩
  ·have bs:∀ c,I c->w'.heap[c]?=w.heap[c]?:=by
    intro c ab
    refine A.fy.block c (h.lt c ab) λaI=>?_
    obtain ⟨t,aG⟩:=h.Br j' c aI
    exact h.aD t c aG ab
   have k6:=hx.frame bs hrefs
   exact .b2 ⟨hrefs _ _ j',A.lv,A.new,k6.1,k6.2.1,k6.2.2,λc=>Iff.rfl⟩
  ·rintro t c ⟨lk,sb⟩ bj
   rcases A.Bs c lk with h | aT
   ·exact sb h
   ·have:=h.jN t c bj; omega
  ·rintro c ⟨lk,sb⟩
   rcases A.Bs c lk with aT | aT
   ·exact absurd aT sb
   ·exact ⟨aT,λhi=>by have:=h.lt c hi; omega⟩
  ·exact A.fy.mono λc _ ab=>h.Br j' c ab
  ·intro cG To cT b7 da he
   cases he
   exact gY
 | @nil s x t e _ z b m y cells aP J qk aG pB aI =>
  obtain ⟨i,ei,hu,hi,rfl,rfl,bc,bG,nE⟩:=Ij aG
  have al:=(kT h aP bg).qv
  obtain ⟨AI,Hd,news,sh,ao,zo,FO,hx⟩:=qk.sound h (kT h J bg)
  obtain ⟨hP,w',cZ,h7,A⟩:=LV (P:=P) (w:=w) t ty e e i ei hu hi bG nE bc (World.ownsRow_nil w 0 e i.size) (a:=AI) (c:=Hd) (m:=m) (news:=news) (λhm=>zo hm bc) ao FO (λu hu=>by
   obtain ⟨k,hk,rfl⟩:=List.mem_iff_getElem.1 hu
   exact hx.2.1 k _ (List.getElem?_eq_getElem hk)) (by unfold maxLen; omega) (by simpa using aI)
  have same:∀ c,c<w.heap.size->w'.heap[c]?=w.heap[c]?:=λc ab=>A.fy.block c ab (by simp [Value.ownBlock])
  have qi:=A.new
  simp only [Nat.zero_add,List.nil_append] at qi
  have k6:=hx.frame (λc ab=>same c (h.lt c ab)) λr v aw=>h.C5 (λ_ _=>rfl) (λt c ab=>same c (h.jN t c ab)) (λ_ _ h=>h) aw
  have hblk:∀ c,hP.ownBlock=some c->w.heap.size<=c:=λc ab=>(A.Bs c ab).elim (λh=>by simp [Value.ownBlock] at h) id
  refine ⟨hP,w',by simp [execOp,resolve,invoke,builtin,al,sh,h7],(λc=>hP.ownBlock=some c),I,h.world (λt c ab=>same c (h.jN t c ab)) (λc ab=>same c (h.lt c ab)) A.fy.size,?_,?_,λc ab=>⟨hblk c ab,λhi=>by have:=h.lt c hi; have:=hblk c ab; omega⟩,λ_ h=>h,λ_ h=>.inl h,?_,?_⟩
  ·exact .tree (.own (Fs:=λ_=>cS) qi k6.1 k6.2.1 k6.2.2 (λ_ _ _ _ _ h=>h.elim) (λ_ _ _ h=>h.elim) λc=>⟨.inl,λh=>h.elim id λ⟨_,_,h⟩=>h.elim⟩)
  ·intro t c ab bj; have:=hblk c ab; have:=h.jN t c bj; omega
  ·exact A.fy.mono λc _ ab=>by simp [Value.ownBlock] at ab
  ·intro cG To cT b7 da he; cases he
theorem dr.sound (h:cW w I T g Fs) {a:Act}(bg:a.tmps=T) {o:Oper}{j5:ag}(aF:dr P g o.op o.type j5) :
  ∃ v w',(execOp a.eval o).run P w=.ok (.value v) w'/\sU w I T g Fs j5 v w':=by
 have zN:∀ {v:Value}{F:bt},R w I (ej w T g) j5 v F->∀ z p n m new,j5=.b2 z p n m new->∀ t cG cT b7 da,g t≠some (.b2 cG p cT b7 da):=by
  rintro v F bh z p n m new rfl
  exact bh.kR.elim
 cases aF with
 | fk aF =>
  obtain ⟨v,aw,bh⟩:=aF.sound h bg
  exact ⟨v,w,aw,cS,I,h,.tree bh,λ_ _ h=>h.elim,λ_ h=>h.elim,λ_ h=>h,λ_ h=>.inl h,Fr.refl _ _,zN bh⟩
 | CS aF =>
  obtain ⟨v,aw,bh⟩:=aF.sound h bg
  exact ⟨v,w,aw,cS,I,h,.tree bh,λ_ _ h=>h.elim,λ_ h=>h.elim,λ_ h=>h,λ_ h=>.inl h,Fr.refl _ _,zN bh⟩
 | qy aF =>
  obtain ⟨v,qx,aw,bh⟩:=aF.sound h bg
  refine ⟨v,_,aw,_,I,h.alloc qx,.tree bh,λt c ab bj=>?_,λc ab=>⟨by rw [ab]; exact Nat.le_refl _,λhi=>by have:=h.lt c hi; omega⟩,λ_ h=>h,λ_ h=>.inl h,Fr.alloc w qx _ (by
   obtain ⟨o,h1,al⟩:=bh.Ty w.heap.size rfl
   rw [rN] at h1
   cases h1
   exact al),?_⟩
  ·have:=h.jN t c bj; omega
  ·rintro z p n m new rfl; exact bh.kR.elim
 | lx aF=>exact aF.sound h bg
end
end Go.Own
namespace Go.Own
open Go
inductive c':ag->Prop
 | lit {v:Value}:c' (.lit v)
 | aJ:c' .aJ
 | dead:c' .dead
 | aD {z n:Nat}{cs:List ag}(h:∀ x∈cs,c' x):c' (.aD z n cs)
 | own {z n:Nat}{cs:List ag}(h:∀ x∈cs,c' x):c' (.own z n cs)
 | obj {cs:List ag}(h:∀ x∈cs,c' x):c' (.obj cs)
 | agg {cs:List ag}(h:∀ x∈cs,c' x):c' (.agg cs)
 | cw {cs:List ag}(h:∀ x∈cs,c' x):c' (.cw cs)
 | bn {cs:List ag}(h:∀ x∈cs,c' x):c' (.bn cs)
 | ef {fn:Fn}{a b:List ag}(h1:∀ x∈a,c' x) (al:∀ x∈b,c' x):c' (.ef fn a b)
 | mp {p:Array MapEntry->Nat->Prop}:c' (.mp p)
 | imp {p:Array MapEntry->Nat->Prop}:c' (.imp p)
inductive kg:ag->Prop
 | lit {v:Value}:kg (.lit v)
 | aJ:kg .aJ
 | dead:kg .dead
 | own {z n:Nat}{cs:List ag}(h:∀ x∈cs,kg x):kg (.own z n cs)
 | obj {cs:List ag}(h:∀ x∈cs,kg x):kg (.obj cs)
 | agg {cs:List ag}(h:∀ x∈cs,kg x):kg (.agg cs)
 | cw {cs:List ag}(h:∀ x∈cs,kg x):kg (.cw cs)
 | mp {p:Array MapEntry->Nat->Prop}:kg (.mp p)
theorem kg.bI {x:ag}(h:kg x):c' x:=by
 induction h with
 | lit=>exact .lit
 | aJ=>exact .aJ
 | dead=>exact .dead
 | own _ aS=>exact .own aS
 | obj _ aS=>exact .obj aS
 | agg _ aS=>exact .agg aS
 | cw _ aS=>exact .cw aS
 | mp=>exact .mp
inductive Rows (g:aU):Place->Nat->Nat->List ag->Prop
 | own {p:Place}{z n:Nat}{cs:List ag}(aF:b8 g p=some (.own z n cs)):Rows g p z n cs
 | b2 {t z n m:Nat}{q:Place}{new cs:List ag}(aG:g t=some (.b2 z q n m new)) (bP:Rows g q z n cs):Rows g ⟨t,[]⟩ z (n+m) (cs++new)
theorem Rows.mono {g g':aU}(h:∀ {p:Place}{y:ag},b8 g p=some y->b8 g' p=some y) {p:Place}{z n:Nat}{cs:List ag}(aw:Rows g p z n cs) (al:∀ t x,g t=some x->g' t=some x):Rows g' p z n cs:=by
 induction aw with
 | own aF=>exact .own (h aF)
 | b2 aG _ aS=>exact .b2 (al _ _ aG) aS
inductive View (g:aU):ag->ag->Prop
 | self {x:ag}(h:c' x) (J:∀ z n cs,x≠.own z n cs) (bf:∀ cs,x≠.obj cs) (bg:∀ cs,x≠.agg cs) (aG:∀ cs,x≠.cw cs) (hm:∀ p,x≠.mp p):View g x x
 | mp {p:Array MapEntry->Nat->Prop}:View g (.mp p) (.imp p)
 | iK {p:Place}{q:Array MapEntry->Nat->Prop}(aF:b8 g p=some (.mp q)):View g (.iK p) (.imp q)
 | o3 {z:Nat}:View g .aJ (.aD z 0 [])
 | agg {cs cs':List ag}(ao:cs'.length=cs.length) (h:∀ (k:Nat) (x y:ag),cs[k]?=some x->cs'[k]?=some y->View g x y):View g (.agg cs) (.agg cs')
 | own {z n:Nat}{cs cs':List ag}(ao:cs'.length=cs.length) (h:∀ (k:Nat) (x y:ag),cs[k]?=some x->cs'[k]?=some y->View g x y):View g (.own z n cs) (.aD z n cs')
 | obj {cs cs':List ag}(ao:cs'.length=cs.length) (h:∀ (k:Nat) (x y:ag),cs[k]?=some x->cs'[k]?=some y->View g x y):View g (.obj cs) (.bn cs')
 | bm {z n N:Nat}{p:Place}{cs cs':List ag}(aF:b8 g p=some (.own z N cs)) (aN:n<=N) (ao:cs'.length=(cs.take (n * z)).length) (h:∀ (k:Nat) (x y:ag),(cs.take (n * z))[k]?=some x->cs'[k]?=some y->View g x y):View g (.bm z p n) (.aD z n cs')
 | sub {z lo n N:Nat}{p:Place}{cs cs':List ag}(aF:b8 g p=some (.own z N cs)) (aN:lo+n<=N) (ao:cs'.length=((cs.drop (lo * z)).take (n * z)).length) (h:∀ (k:Nat) (x y:ag),((cs.drop (lo * z)).take (n * z))[k]?=some x->cs'[k]?=some y->View g x y):View g (.sub z p lo n) (.aD z n cs')
 | ptr {p:Place}{k z n:Nat}{y:ag}{cs cs':List ag}(aF:b8 g p=some y) (ay:y=.own z n cs\/y=.obj cs) (hk:k<cs.length) (ao:cs'.length=(cs.drop k).length) (h:∀ (ae:Nat) (x y:ag),(cs.drop k)[ae]?=some x->cs'[ae]?=some y->View g x y):View g (.ptr p k) (.bn cs')
 | ef {fn:Fn}{cs cs':List ag}(ao:cs'.length=cs.length) (h:∀ (k:Nat) (x y:ag),cs[k]?=some x->cs'[k]?=some y->View g x y):View g (.ef fn [] cs) (.ef fn [] cs')
 | rows {z n:Nat}{p:Place}{cs cs':List ag}(aF:Rows g p z n cs) (ao:cs'.length=cs.length) (h:∀ (k:Nat) (x y:ag),cs[k]?=some x->cs'[k]?=some y->View g x y):View g (.bm z p n) (.aD z n cs')
section
variable {P:Program}{w:World}{I:bt}{T:Array Value}{g:aU}{Fs:Nat->bt}
theorem R.bI {ρ ρ':ag->Value->Prop}{x:ag}{v:Value}{F:bt}(h:R w I ρ x v F):c' x->R w I ρ' x v F:=by
 induction h with
 | lit h aQ=>exact λ_=>.lit h aQ
 | aJ aQ=>exact λ_=>.aJ aQ
 | dead aQ=>exact λ_=>.dead aQ
 | @ref x _ _ J h aQ=>intro aN; cases aN <;> simp [ag.isRef] at J
 | hM aQ=>exact λ_=>.hM aQ
 | aD aQ kM bs aP ao h1 ab aw aS=>exact λaN=>.aD aQ kM bs aP ao h1 ab λk x J=>aS k x J (by cases aN with | aD h=>exact h x (List.mem_of_getElem? J))
 | bn aQ bs aP h1 ab aw aS=>exact λaN=>.bn aQ bs aP h1 ab λk x J=>aS k x J (by cases aN with | bn h=>exact h x (List.mem_of_getElem? J))
 | own bf ao h1 aw aV aI aQ aS=>exact λaN=>.own bf ao h1 (λk x u J hu=>aS k x u J hu (by cases aN with | own h=>exact h x (List.mem_of_getElem? J))) aV aI aQ
 | obj bf ao h1 aw aV aI aQ aS=>exact λaN=>.obj bf ao h1 (λk x u J hu=>aS k x u J hu (by cases aN with | obj h=>exact h x (List.mem_of_getElem? J))) aV aI aQ
 | agg ao h1 aw aV aQ aS=>exact λaN=>.agg ao h1 (λk x u J hu=>aS k x u J hu (by cases aN with | agg h=>exact h x (List.mem_of_getElem? J))) aV aQ
 | cw ao aw aV aQ aS=>exact λaN=>.cw ao (λk x u J hu=>aS k x u J hu (by cases aN with | cw h=>exact h x (List.mem_of_getElem? J))) aV aQ
 | mp bf aF aQ=>exact λ_=>.mp bf aF aQ
 | imp aQ bs bf aF=>exact λ_=>.imp aQ bs bf aF
 | ef aQ h1 al jK iy gl gf=>exact λaN=>.ef aQ h1 al (λk x u J hu=>gl k x u J hu (by cases aN with | ef h _=>exact h x (List.mem_of_getElem? J))) (λk x u J hu=>gf k x u J hu (by cases aN with | ef _ h=>exact h x (List.mem_of_getElem? J)))
theorem R.mQ {ρ:ag->Value->Prop}{I':bt}{x:ag}{v:Value}{F:bt}(h:R w I ρ x v F) (bs:∀ c,I c->I' c):R w I' ρ x v F :=
 h.frame (λ_ _=>rfl) bs (λ_ _ h=>h) λ_ _=>rfl
theorem R.kS {ρ ρ':ag->Value->Prop}{I':bt}{x:ag}{v:Value}{F:bt}(h:R w I ρ x v F):kg x->R w I' ρ' x v F:=by
 induction h with
 | lit h aQ=>exact λ_=>.lit h aQ
 | aJ aQ=>exact λ_=>.aJ aQ
 | dead aQ=>exact λ_=>.dead aQ
 | @ref x _ _ J h aQ=>intro aN; cases aN <;> simp [ag.isRef] at J
 | hM=>intro aN; cases aN
 | aD=>intro aN; cases aN
 | bn=>intro aN; cases aN
 | own bf ao h1 aw aV aI aQ aS=>exact λaN=>.own bf ao h1 (λk x u J hu=>aS k x u J hu (by cases aN with | own h=>exact h x (List.mem_of_getElem? J))) aV aI aQ
 | obj bf ao h1 aw aV aI aQ aS=>exact λaN=>.obj bf ao h1 (λk x u J hu=>aS k x u J hu (by cases aN with | obj h=>exact h x (List.mem_of_getElem? J))) aV aI aQ
 | agg ao h1 aw aV aQ aS=>exact λaN=>.agg ao h1 (λk x u J hu=>aS k x u J hu (by cases aN with | agg h=>exact h x (List.mem_of_getElem? J))) aV aQ
 | cw ao aw aV aQ aS=>exact λaN=>.cw ao (λk x u J hu=>aS k x u J hu (by cases aN with | cw h=>exact h x (List.mem_of_getElem? J))) aV aQ
 | ef=>intro aN; cases aN
 | mp bf aF aQ=>exact λ_=>.mp bf aF aQ
 | imp=>intro aN; cases aN
theorem R.xw {ρ:ag->Value->Prop}{z n:Nat}{cs:List ag}{v:Value}{F:bt}(h:R w I ρ (.own z n cs) v F):∃ (a:Option Addr) (cap:Nat) (us:Nat->Value) (bR:Nat->bt),v=.slice a n cap/\n<=cap/\cs.length=n * z /\
  (∀ ad,a=some ad->∃ b,ad=⟨b,0,none⟩/\F b)/\(∀ (k:Nat) (x:ag),cs[k]?=some x->∃ b,a=some ⟨b,0,none⟩/\w.cell? ⟨b,k,none⟩=some (us k)/\(us k).oneCell'=true/\R w I ρ x (us k) (bR k)/\∀ c,bR k c->F c):=by
 have bc:=h
 cases h with
 | ref J=>simp [ag.isRef] at J
 | @own _ _ _ _ e us Fs _ bf ao h1 aw aV aI aQ =>
  obtain ⟨a,cap,rfl,aN,hlen,pH,rh⟩:=bc.mq
  refine ⟨a,cap,λk=>us.getD k undef,Fs,rfl,aN,hlen,λad fR=>?_,λk x hk=>?_⟩
  ·obtain ⟨zd,ze⟩:=pH ad fR
   obtain ⟨b,o,sp⟩:=ad
   simp only at zd ze
   subst zd ze
   exact ⟨b,rfl,(aQ b).2 (.inl (by rw [fR]; rfl))⟩
  ·have bd:k<cs.length:=(List.getElem?_eq_some_iff.1 hk).1
   have hu:us[k]?=some us[k]:=List.getElem?_eq_getElem (ao ▸ bd)
   obtain ⟨b,u,fR,ll,lM,gx,_⟩:=bc.node (.inl rfl) hk
   have:a=some ⟨b,0,none⟩:=by
    cases a with
    | none=>simp [addrOf] at fR
    | some ad=>simp only [addrOf] at fR; rw [Option.some.inj fR]
   rw [nH bf hu] at lM
   cases lM
   refine ⟨b,this,?_,?_,?_,λc ab=>(aQ c).2 (.inr ⟨k,bd,ab⟩)⟩
   ·simpa [List.getD,hu] using ll
   ·simpa [List.getD,hu] using gx
   ·simpa [List.getD,hu] using aw k x _ hk hu
theorem R.CM {ρ:ag->Value->Prop}{y:ag}{v:Value}{F:bt}{z n:Nat}{cs:List ag}(h:R w I ρ y v F) (ay:y=.own z n cs\/y=.obj cs) {ad:Addr}(bg:addrOf v=some ad):F ad.block:=by
 rcases ay with rfl | rfl
 ·obtain ⟨a,cap,rfl,_⟩:=h.mq
  refine h.o5 _ ?_
  cases a with
  | none=>simp [addrOf] at bg
  | some a=>simp only [addrOf,Option.some.injEq] at bg; subst bg; rfl
 ·cases h with
  | ref J=>simp [ag.isRef] at J
  | obj bf ao h1 aw aV aI aQ=>simp only [addrOf,Option.some.injEq] at bg; subst bg; exact (aQ _).2 (.inl rfl)
theorem Tm {w:World}{e cQ:TypeId}{z n:Nat}{v:Value}{us iC:List Value}(h:w.ownsRow 0 e z v n us) (aT:w.ownsRow 0 cQ z v n iC):us=iC:=by
 obtain ⟨h1,al⟩:=h
 obtain ⟨aR,b3⟩:=aT
 rcases al with ⟨rfl,rfl⟩ | ⟨b,cap,cur,rfl,_,b9,_,_,_,aG⟩
 ·have dn:us=[]:=List.eq_nil_of_length_eq_zero (by simpa using h1)
  have cZ:iC=[]:=List.eq_nil_of_length_eq_zero (by simpa using aR)
  rw [dn,cZ]
 ·rcases b3 with ⟨dn,_⟩ | ⟨iI,lG,O9,dn,_,Kn,_,_,_,pI⟩
  ·cases dn
  ·cases dn
   rw [b9] at Kn
   cases Kn
   rw [<- aG,<- pI]
theorem Rows.sound {ρ:ag->Value->Prop}(H1:∀ t z q n m new,g t=some (.b2 z q n m new)->∃ v,T[t]?=some v/\jx w I ρ (.b2 z q n m new) v (Fs t))
  (MS:∀ p z n cs,b8 g p=some (.own z n cs)->∃ v cJ,ep w T p=some v/\R w I ρ (.own z n cs) v cJ/\∀ c,cJ c->Fs p.root c) (x7:∀ z p n v,ρ (.b2 z p n 0 []) v->ep w T p=some v) {p:Place}{z n:Nat}{cs:List ag}(h:Rows g p z n cs) :
  ∃ v e us,ep w T p=some v/\w.ownsRow 0 e z v n us/\us.length=cs.length/\(∀ (k:Nat) (u:Value),us[k]?=some u->u.oneCell'=true)/\(∀ c,v.ownBlock=some c->∃ t,Fs t c) /\
   (∀ (k:Nat) (x:ag) (u:Value),cs[k]?=some x->us[k]?=some u->∃ bR,R w I ρ x u bR/\∀ c,bR c->∃ t,Fs t c):=by
 induction h with
 | @own p z n cs aF =>
  obtain ⟨v,cJ,hv,bh,aQ⟩:=MS p z n cs aF
  cases bh with
  | ref J=>simp [ag.isRef] at J
  | @own _ _ _ _ e us bR _ bf ao h1 aw aV aI kL =>
   refine ⟨v,e,us,hv,bf,ao.symm,h1,λc ab=>⟨_,aQ c ((kL c).2 (.inl ab))⟩,λk x u J hu=>⟨bR k,aw k x u J hu,λc ab=>⟨_,aQ c ((kL c).2 (.inr ⟨k,(List.getElem?_eq_some_iff.1 J).1,ab⟩))⟩⟩⟩
 | @b2 t z n m q new cs aG _ aS =>
  obtain ⟨v,hv,bh⟩:=H1 t z q n m new aG
  obtain ⟨v0,e,us,jj,bf,ao,h1,aI,aw⟩:=aS
  cases bh with
  | tree bh=>exact bh.kR.elim
  | @b2 _ _ _ _ _ _ bv dn cZ Ux news _ bh =>
   have kl:=x7 _ _ _ _ bh.j'
   rw [jj] at kl
   cases kl
   have:=Tm bf bh.kN
   subst this
   refine ⟨v,cZ,us++news,by simp [ep,hv,walk],bh.mb,by rw [List.length_append,List.length_append,ao,bh.ao],λk u hu=>?_,λc ab=>?_,λk x u J hu=>?_⟩
   ·by_cases hk:k<us.length
    ·rw [List.getElem?_append_left hk] at hu; exact h1 k u hu
    ·rw [List.getElem?_append_right (by omega)] at hu; exact bh.h1 _ u hu
   ·by_cases pE:v0.ownBlock=some c
    ·exact aI c pE
    ·exact ⟨t,(bh.aQ c).2 ⟨ab,pE⟩⟩
   ·by_cases hk:k<us.length
    ·rw [List.getElem?_append_left (by omega)] at J
     rw [List.getElem?_append_left hk] at hu
     exact aw k x u J hu
    ·rw [List.getElem?_append_right (by omega)] at J
     rw [List.getElem?_append_right (by omega),ao] at hu
     exact ⟨_,bh.aw _ x u J hu,λc ab=>ab.elim⟩
theorem LO {ρ':ag->Value->Prop}{e:TypeId}{z n N cap:Nat}{a:Option Addr}{us:List Value}{cs cs':List ag}(bf:w.ownsRow 0 e z (.slice a N cap) n us) (hlen:us.length=cs.length) (h1:∀ (k:Nat) (u:Value),us[k]?=some u->u.oneCell'=true) (aI:∀ c,(Value.slice a N cap).ownBlock=some c->∃ t,Fs t c) (ao:cs'.length=cs.length)
  (aw:∀ (k:Nat) (x y:ag) (u:Value),cs[k]?=some x->cs'[k]?=some y->us[k]?=some u->R w (λc=>I c\/∃ t,Fs t c) ρ' y u cS):R w (λc=>I c\/∃ t,Fs t c) ρ' (.aD z n cs') (.slice a n cap) cS:=by
 obtain ⟨Kv,bf⟩:=bf
 rcases bf with ⟨kl,bc⟩ | ⟨b,p8,cur,dn,_,b9,Ch,ab,aP,aG⟩
 ·cases kl
  subst bc
  have k6:cs'=[]:=List.eq_nil_of_length_eq_zero (by rw [ao,<- hlen,Kv]; simp)
  subst k6
  exact .hM λ_ h=>h
 ·cases dn
  refine .aD (us:=λk=>us.getD k undef) (λ_ h=>h) Ch (.inr (aI b rfl)) rfl (by rw [ao,<- hlen,Kv]) (λk y ay=>?_) (λk y ay=>?_) λk y ay=>?_
  all_goals
   have hk:k<us.length:=by rw [hlen,<- ao]; exact (List.getElem?_eq_some_iff.1 ay).1
   have hu:us[k]?=some us[k]:=List.getElem?_eq_getElem hk
   have a7:us.getD k undef=us[k]:=by simp [List.getD,hu]
  ·rw [a7]; exact h1 k _ hu
  ·rw [a7]
   have tE:∀ u,us[k]?=some u->w.cell? ⟨b,k,none⟩=some u:=λu tE=>by
    rw [<- aG,List.getElem?_take] at tE
    split at tE
    ·simpa [World.cell?,b9] using tE
    ·cases tE
   simpa using tE _ hu
  ·rw [a7]
   exact aw k _ y _ (List.getElem?_eq_getElem (by omega)) ay hu
theorem View.sound (h:cW w I T g Fs) {x x':ag}(hv:View g x x'):∀ {v:Value}{F:bt},R w I (ej w T g) x v F->(∀ c,F c->∃ t,Fs t c)->∀ ρ',R w (λc=>I c\/∃ t,Fs t c) ρ' x' v cS:=by
 induction hv with
 | o3 =>
  intro v F bh aQ ρ'
  have:=bh.qv
  subst this
  exact .hM λ_ h=>h
 | mp =>
  intro v F bh aQ ρ'
  cases bh with
  | ref J=>simp [ag.isRef] at J
  | mp bf aF aI=>exact .imp (λ_ h=>h) (.inr (aQ _ ((aI _).2 rfl))) bf aF
 | iK aF =>
  intro v F bh aQ ρ'
  cases bh with
  | ref _ aw _ =>
   obtain ⟨⟨b,aI,rfl⟩,_⟩:=aw
   obtain ⟨hP,cJ,iU,dQ,dz⟩:=h.part aF (by simp)
   rw [aI] at iU
   cases iU
   cases dQ with
   | ref J=>simp [ag.isRef] at J
   | mp bf aF aI=>exact .imp (λ_ h=>h) (.inr ⟨_,dz _ ((aI _).2 rfl)⟩) bf aF
 | self aN h1 al aR b3 c3 =>
  intro v F bh aQ ρ'
  refine ((bh.bI aN).mQ λc ab=>.inl ab).empty ?_
  cases bh with
  | mp=>exact absurd rfl (c3 _)
  | lit _ aQ | aJ aQ | dead aQ | ref _ _ aQ | hM aQ | aD aQ | bn aQ | ef aQ | imp aQ=>exact aQ
  | own=>exact absurd rfl (h1 _ _ _)
  | obj=>exact absurd rfl (al _)
  | agg=>exact absurd rfl (aR _)
  | cw=>exact absurd rfl (b3 _)
 | @agg cs cs' ao _ aS =>
  intro v F bh aQ ρ'
  cases bh with
  | ref J=>simp [ag.isRef] at J
  | @agg _ vs bR _ hY h1 aw aV kL =>
   refine .agg (Fs:=λ_=>cS) (by rw [ao,hY]) h1 (λk y u ay hu=>?_) (λ_ _ _ _ _ h=>h.elim) (λc=>⟨λh=>h.elim,λ⟨_,_,h⟩=>h⟩)
   have hk:k<cs.length:=by rw [<- ao]; exact (List.getElem?_eq_some_iff.1 ay).1
   have J:=List.getElem?_eq_getElem hk
   exact aS k _ y J ay (aw k _ u J hu) (λc ab=>aQ c ((kL c).2 ⟨k,hk,ab⟩)) ρ'
 | @ef fn cs cs' ao _ aS =>
  intro v F bh aQ ρ'
  cases bh with
  | ref J=>simp [ag.isRef] at J
  | @ef _ _ _ v1 v2 _ w2 h1 al jK iy =>
   refine .ef (λ_ h=>h) h1 (by rw [ao,al]) (λk x u J=>by simp at J) (λk y u ay hu=>?_)
   have hk:k<cs.length:=by rw [<- ao]; exact (List.getElem?_eq_some_iff.1 ay).1
   have J:=List.getElem?_eq_getElem hk
   exact aS k _ y J ay (iy k _ u J hu) (λc ab=>ab.elim) ρ'
 | @own z n cs cs' ao _ aS =>
  intro v F bh aQ ρ'
  obtain ⟨a,cap,us,bR,rfl,aN,hlen,bg,ab⟩:=bh.xw
  cases a with
  | none =>
   have hx:cs=[]:=by
    cases cs with
    | nil=>rfl
    | cons c cs=>obtain ⟨b,aI,_⟩:=ab 0 c rfl; cases aI
   subst hx
   have k6:cs'=[]:=List.eq_nil_of_length_eq_zero (by simpa using ao)
   subst k6
   have oU:n=0:=by
    cases bh with
    | ref J=>simp [ag.isRef] at J
    | own bf =>
     obtain ⟨_,b9⟩:=bf
     rcases b9 with ⟨b9,bc⟩ | ⟨b,c2,cur,b9,_⟩
     ·exact bc
     ·cases b9
   subst oU
   exact .hM λ_ h=>h
  | some ad =>
   obtain ⟨b,rfl,qb⟩:=bg ad rfl
   refine .aD (us:=us) (λ_ h=>h) aN (.inr (aQ b qb)) rfl (by rw [ao,hlen]) (λk y ay=>?_) (λk y ay=>?_) λk y ay=>?_
   all_goals
    have hk:k<cs.length:=by rw [<- ao]; exact (List.getElem?_eq_some_iff.1 ay).1
    have J:=List.getElem?_eq_getElem hk
    obtain ⟨iI,ko,h1,al,aR,b3⟩:=ab k _ J
    cases ko
   ·exact al
   ·simpa using h1
   ·exact aS k _ y J ay aR (λc ab=>aQ c (b3 c ab)) ρ'
 | @obj cs cs' ao _ aS =>
  intro v F bh aQ ρ'
  cases bh with
  | ref J=>simp [ag.isRef] at J
  | @obj _ b e arr bR _ bf hY h1 aw aV aI kL =>
   refine .bn (us:=λk=>arr.getD k undef) (λ_ h=>h) (.inr (aQ b ((kL b).2 (.inl rfl)))) rfl (λk y ay=>?_) (λk y ay=>?_) λk y ay=>?_
   all_goals
    have hk:k<cs.length:=by rw [<- ao]; exact (List.getElem?_eq_some_iff.1 ay).1
    have J:=List.getElem?_eq_getElem hk
    have hu:arr[k]?=some arr[k]:=Array.getElem?_eq_getElem (hY ▸ hk)
   ·simpa [hu] using h1 k _ hu
   ·simp [World.cell?,bf,hu]
   ·simpa [hu] using aS k _ y J ay (aw k _ _ J hu) (λc ab=>aQ c ((kL c).2 (.inr ⟨k,hk,ab⟩))) ρ'
 | @bm z n N p cs cs' aF aN ao _ aS =>
  intro v F bh aQ ρ'
  obtain ⟨⟨a,iO,cap,h1,rfl,aR⟩,_⟩:=bh.mj
  obtain ⟨pd,pg,gR,hI,lI⟩:=h.part aF (by simp)
  rw [h1] at gR
  cases gR
  obtain ⟨a2,p8,us,bR,jZ,kM,hlen,bg,ab⟩:=hI.xw
  cases jZ
  have hle:n * z<=N * z:=Nat.mul_le_mul_right _ aN
  have cell:∀ k,k<cs'.length->∃ x b,(cs.take (n * z))[k]?=some x/\a=some ⟨b,0,none⟩/\w.cell? ⟨b,k,none⟩=some (us k)/\(us k).oneCell'=true/\R w I (ej w T g) x (us k) (bR k)/\∀ c,bR k c->pg c:=by
   intro k hk
   rw [ao,List.length_take] at hk
   have J:cs[k]?=some cs[k]:=List.getElem?_eq_getElem (by omega)
   obtain ⟨b,r⟩:=ab k _ J
   exact ⟨_,b,by rw [List.getElem?_take,if_pos (by omega)]; exact J,r⟩
  cases a with
  | none =>
   have k6:cs'=[]:=by
    cases cs' with
    | nil=>rfl
    | cons c l=>obtain ⟨_,b,_,aI,_⟩:=cell 0 (by simp); cases aI
   subst k6
   obtain ⟨_,_,jZ,_,_,_,rh⟩:=hI.mq
   cases jZ
   have oU:n=0:=by
    rcases Nat.eq_zero_or_pos n with bc | bc
    ·exact bc
    ·have:=rh (by omega); simp at this
   subst oU
   exact .hM λ_ h=>h
  | some ad =>
   obtain ⟨b,rfl,qb⟩:=bg ad rfl
   refine .aD (us:=us) (λ_ h=>h) (by omega) (.inr ⟨_,lI b qb⟩) rfl (by rw [ao,List.length_take,hlen]; omega) (λk y ay=>?_) (λk y ay=>?_) λk y ay=>?_
   all_goals
    obtain ⟨x,iI,J,ko,b3,c3,eg,kn⟩:=cell k (List.getElem?_eq_some_iff.1 ay).1
    cases ko
   ·exact c3
   ·simpa using b3
   ·exact aS k x y J ay eg (λc ab=>⟨_,lI c (kn c ab)⟩) ρ'
 | @sub z lo n N p cs cs' aF aN ao _ aS =>
  intro v F bh aQ ρ'
  obtain ⟨⟨a,iO,cap,cy,lG,h1,rfl,FE,aR,c3⟩,_⟩:=bh.vh
  obtain ⟨pd,pg,gR,hI,lI⟩:=h.part aF (by simp)
  rw [h1] at gR
  cases gR
  obtain ⟨a2,p8,us,bR,jZ,kM,hlen,bg,ab⟩:=hI.xw
  cases jZ
  have hle:lo * z+n * z<=N * z:=by rw [<- Nat.add_mul]; exact Nat.mul_le_mul_right _ aN
  have hY:cs'.length=n * z:=by rw [ao,List.length_take,List.length_drop,hlen]; omega
  have cell:∀ k,k<cs'.length->∃ x b,((cs.drop (lo * z)).take (n * z))[k]?=some x/\a=some ⟨b,0,none⟩/\w.cell? ⟨b,lo * z+k,none⟩=some (us (lo * z+k))/\(us (lo * z+k)).oneCell'=true/\R w I (ej w T g) x (us (lo * z+k)) (bR (lo * z+k))/\∀ c,bR (lo * z+k) c->pg c:=by
   intro k hk
   have J:cs[lo * z+k]?=some cs[lo * z+k]:=List.getElem?_eq_getElem (by omega)
   obtain ⟨b,r⟩:=ab _ _ J
   exact ⟨_,b,by rw [List.getElem?_take,if_pos (by omega),List.getElem?_drop]; exact J,r⟩
  by_cases oU:n=0
  ·subst oU
   have k6:cs'=[]:=List.eq_nil_of_length_eq_zero (by simpa using hY)
   subst k6
   exact .hM λ_ h=>h
  ·obtain ⟨ad,rfl,rfl⟩:=c3 (by omega)
   obtain ⟨b,rfl,qb⟩:=bg ad rfl
   refine .aD (us:=λk=>us (lo * z+k)) (λ_ h=>h) FE (.inr ⟨_,lI b qb⟩) rfl hY (λk y ay=>?_) (λk y ay=>?_) λk y ay=>?_
   all_goals
    obtain ⟨x,iI,J,ko,b3,EC,eg,kn⟩:=cell k (List.getElem?_eq_some_iff.1 ay).1
    cases ko
   ·exact EC
   ·simpa using b3
   ·exact aS k x y J ay eg (λc ab=>⟨_,lI c (kn c ab)⟩) ρ'
 | @ptr p k z n y cs cs' aF ay hk ao _ aS =>
  intro v F bh aQ ρ'
  obtain ⟨⟨u,ad,h1,al,rfl⟩,_⟩:=bh.mN
  obtain ⟨pd,pg,gR,hI,lI⟩:=h.part aF (by rcases ay with rfl | rfl <;> simp)
  rw [h1] at gR
  cases gR
  have cell:∀ ae,ae<cs'.length->∃ gA ke uk,w.cell? ⟨ad.block,k+ae,none⟩=some gA/\gA.oneCell'=true/\(cs.drop k)[ae]?=some ke/\R w I (ej w T g) ke gA uk/\(∀ c,uk c->∃ t,Fs t c):=by
   intro ae aa
   rw [ao,List.length_drop] at aa
   have gk:cs[k+ae]?=some cs[k+ae]:=List.getElem?_eq_getElem (by omega)
   obtain ⟨b,gA,fR,ll,lM,gx,_⟩:=hI.node ay gk
   rw [al] at fR
   cases fR
   have fS:b8 g (p.push (k+ae))=some cs[k+ae]:=by rw [rP,aF]; rcases ay with rfl | rfl <;> simp [ag.kids]
   by_cases hS:∃ cG gV cT b7 da,cs[k+ae]=.b2 cG gV cT b7 da
   ·obtain ⟨cG,gV,cT,b7,da,hS⟩:=hS
    obtain ⟨b,Uz,_,_,y6,_,bR,jW⟩:=hI.node ay gk
    rw [hS] at jW
    exact jW.kR.elim
   ·obtain ⟨nO,Dx,qn,ER,kL⟩:=h.part fS (λcG gV cT b7 da e=>hS ⟨_,_,_,_,_,e⟩)
    rw [vY,h1] at qn
    simp only [Option.bind_some] at qn
    rw [lM] at qn
    cases qn
    exact ⟨gA,_,Dx,ll,gx,by rw [List.getElem?_drop]; exact gk,ER,λc ab=>⟨_,kL c ab⟩⟩
  obtain ⟨b,gA,fR,_⟩:=hI.node ay (List.getElem?_eq_getElem hk)
  rw [al] at fR
  cases fR
  have hblk:∃ t,Fs t b:=⟨_,lI b (hI.CM ay al)⟩
  refine .bn (us:=λae=>(w.cell? ⟨b,k+ae,none⟩).getD undef) (λ_ h=>h) (.inr hblk) rfl (λae jF mM=>?_) (λae jF mM=>?_) λae jF mM=>?_
  all_goals
   obtain ⟨gA,ke,uk,c1,c2,l4,c4,kk⟩:=cell ae (List.getElem?_eq_some_iff.1 mM).1
  ·simpa [c1] using c2
  ·simp [c1]
  ·simpa [c1] using aS ae ke jF l4 mM c4 kk ρ'
 | @rows z n p cs cs' aF ao _ aS =>
  intro v F bh aQ ρ'
  obtain ⟨a,iO,cap,h1,rfl,aR⟩:=bh.mj.1
  obtain ⟨v0,e,us,jj,bf,hlen,mY,aI,aw⟩:=Rows.sound (w:=w) (I:=I) (T:=T) (Fs:=Fs) (λt z q n m new aG=>h.rel t _ aG) (λp z n cs aF=>h.part aF (by simp)) (λz p n v hv=>by obtain ⟨⟨a,cap,h1,rfl⟩,_⟩:=hv; exact h1) aF
  rw [h1] at jj
  cases jj
  refine LO bf hlen mY aI ao λk x y u J ay hu=>?_
  obtain ⟨bR,jW,e9⟩:=aw k x u J hu
  exact aS k x y J ay jW e9 ρ'
end
end Go.Own
namespace Go.Own
open Go
def oH (args:List ag):aU:=λt=>args[t]?
def oj (outs:List (Option ag)) (res:ag):aU:=λt=>if t=outs.length then some res else (outs[t]?).join
structure kE (w:World) (I U:bt) (w':World) (I' Bi:bt):Prop where
 fy:Fr w w' U
 more:∀ c,I c->I' c
 new:∀ c,I' c->I c\/U c\/w.heap.size<=c
 own:∀ c,Bi c->U c\/w.heap.size<=c
def b_ (P:Program) (f:FuncId) (args:List ag) (outs:List (Option ag)) (res:ag):Prop :=
 outs.length=args.length/\∀ (w:World) (I:bt) (vs:List Value) (Fs:Nat->bt),vs.length=args.length->cW w I vs.toArray (oH args) Fs ->
  Calls P f vs.toArray w λe w'=>∃ v I' cq,e=.returned v/\cW w' I' (vs++[v]).toArray (oj outs res) cq/\kE w I (λc=>∃ t,Fs t c) w' I' (λc=>∃ t,cq t c)
def dw (P:Program) (f:FuncId):Bool :=
 match P.funcs[f]? with
 | some fn => fn.name != "runtime.NumGoroutine" && fn.body.isSome
 | none=>false
inductive cu (P:Program) (g:aU):Op->ag->Prop
 | plain {c:Operand}{xs:Array Operand}{ir:Array TypeId}{f:FuncId}{first caps ys:List ag}{res:ag}(ab:bL g c=some (.ef (.func f) first caps)) (J:iz g xs.toList=some ys) (bj:dw P f=true)
   (aN:∀ y∈first++ys++caps,c' y) (iT:b_ P f (first++ys++caps) ((first++ys++caps).map λ_=>none) res) (aw:c' res):cu P g (.call { callee:=.value c,args:=xs,argTypes:=ir }) res
 | CG {c:Operand}{xs:Array Operand}{ir:Array TypeId}{f:FuncId}{first caps ys args:List ag}{res:ag}(ab:bL g c=some (.ef (.func f) first caps)) (J:iz g xs.toList=some ys) (bj:dw P f=true)
   (ao:args.length=(first++ys++caps).length) (hv:∀ (k:Nat) (x y:ag),(first++ys++caps)[k]?=some x->args[k]?=some y->View g x y) (iT:b_ P f args (args.map λ_=>none) res) (aw:kg res) :
   cu P g (.call { callee:=.value c,args:=xs,argTypes:=ir }) res
section
variable {P:Program}{w:World}{I:bt}{T:Array Value}{g:aU}{Fs:Nat->bt}
theorem D3 {f:FuncId}(h:dw P f=true) (args:Array Value):(callFunc f args).run P w=.ok (.enter f args) w:=by
 unfold dw at h
 cases bj:P.funcs[f]? with
 | none=>simp [bj] at h
 | some fn =>
  simp [bj] at h
  obtain ⟨h1,al⟩:=h
  cases aI:fn.body with
  | none=>simp [aI] at al
  | some c=>simp [callFunc,bj,h1,aI]
theorem D2 (h:cW w I T g Fs) {a:Act}(bg:a.tmps=T) {c:Operand}{xs:Array Operand}{f:FuncId}{first caps ys:List ag}(ab:bL g c=some (.ef (.func f) first caps)) (J:iz g xs.toList=some ys) :
  ∃ v1 v2:Array Value,a.eval c=.func (.func f) v1 v2/\(first++ys++caps).length=(v1++xs.map a.eval++v2).toList.length /\
   ∀ (k:Nat) (x:ag) (u:Value),(first++ys++caps)[k]?=some x->(v1++xs.map a.eval++v2).toList[k]?=some u->R w I (ej w T g) x u cS:=by
 have J3:=kT h ab bg
 obtain ⟨ao,aw⟩:=xu h bg J
 generalize tp:a.eval c=Wd at J3
 cases J3 with
 | ref J=>simp [ag.isRef] at J
 | @ef _ _ _ v1 v2 _ _ h1 al jK iy =>
  have hlen:xs.size=ys.length:=by rw [<- Array.length_toList,ao]
  refine ⟨v1,v2,rfl,by simp [h1,al,hlen],λk x u oY ob=>?_⟩
  simp only [Array.toList_append,Array.toList_map] at ob
  by_cases hl:k<first.length
  ·rw [List.append_assoc,List.getElem?_append_left hl] at oY
   rw [List.append_assoc,List.getElem?_append_left (by simp; omega)] at ob
   exact jK k x u oY (by simpa using ob)
  ·rw [List.append_assoc,List.getElem?_append_right (by omega)] at oY
   rw [List.append_assoc,List.getElem?_append_right (by simp; omega)] at ob
   simp only [Array.length_toList,<- h1] at ob
   by_cases gQ:k - first.length<ys.length
   ·rw [List.getElem?_append_left gQ] at oY
    rw [List.getElem?_append_left (by simp; omega),List.getElem?_map] at ob
    cases F6:xs.toList[k - first.length]? with
    | none=>rw [F6] at ob; cases ob
    | some o=>rw [F6] at ob; cases ob; exact aw _ x o oY F6
   ·rw [List.getElem?_append_right (by omega)] at oY
    rw [List.getElem?_append_right (by simp; omega)] at ob
    simp only [List.length_map,Array.length_toList] at ob
    rw [hlen] at ob
    exact iy _ x u oY (by simpa using ob)
theorem cW.args {I':bt}(h:cW w I T g Fs) (bs:∀ c,I' c->I c\/∃ t,Fs t c) {args:List ag}{vs:List Value}(ao:args.length=vs.length)
  (aw:∀ (ρ':ag->Value->Prop) (k:Nat) (x:ag) (u:Value),args[k]?=some x->vs[k]?=some u->R w I' ρ' x u cS):cW w I' vs.toArray (oH args) (λ_=>cS):=by
 refine ⟨λt x J=>?_,λ_ _ _ h=>h,λ_ _ _ h=>h.elim,λ_ _ h=>h.elim,λc ab=>?_,λt dh z p n m new cG cT b7 da h1 al=>?_⟩
 ·have aG:t<args.length:=(List.getElem?_eq_some_iff.1 J).1
  have hu:vs[t]?=some vs[t]:=List.getElem?_eq_getElem (ao ▸ aG)
  exact ⟨vs[t],by rw [List.getElem?_toArray]; exact hu,.tree (aw _ t x _ J hu)⟩
 ·rcases bs c ab with aT | ⟨t,aT⟩
  ·exact h.lt c aT
  ·exact h.jN t c aT
 ·have aG:t<args.length:=(List.getElem?_eq_some_iff.1 h1).1
  exact (aw (λ_ _=>False) t _ _ h1 (List.getElem?_eq_getElem (ao ▸ aG))).kR.elim
theorem cu.sound (h:cW w I T g Fs) {a:Act}(bg:a.tmps=T) {o:Oper}{j5:ag}(aF:cu P g o.op j5) {K:Act->World->Prop}{Q:Exit->Act->World->Prop}
  (eC:∀ v w',sU w I T g Fs j5 v w'->K (a.put o.dst v) w'):o.wp P a w K Q:=by
 obtain ⟨dst,op,ty,pos,after,guard⟩:=o
 simp only at aF eC
 have zN:c' j5->∀ z p n m new,j5=.b2 z p n m new->∀ t cG cT b7 da,g t≠some (.b2 cG p cT b7 da):=by
  rintro aN z p n m new rfl
  cases aN
 have last:∀ {args:List ag}{res:ag}{v:Value}{vs:List Value}{w':World}{I':bt}{cq:Nat->bt},vs.length=args.length->cW w' I' (vs++[v]).toArray (oj (args.map λ_=>none) res) cq->jx w' I' (ej w' (vs++[v]).toArray (oj (args.map λ_=>none) res)) res v (cq args.length)/\∀ t,t≠args.length->∀ c,¬ cq t c:=by
  intro args res v vs w' I' cq ao b1
  constructor
  ·obtain ⟨u,hu,bh⟩:=b1.rel args.length res (by simp [oj])
   have:u=v:=by
    rw [<- ao] at hu
    simpa using hu.symm
   subst this; exact bh
  ·intro t aG c ab
   refine b1.kt t ?_ c ab
   have pI:t≠(args.map λ_=>(none:Option ag)).length:=by simpa using aG
   simp only [oj,if_neg pI,List.getElem?_map]
   cases args[t]? <;> rfl
 cases aF with
 | @plain c xs ir f first caps ys _ ab J bj aN iT aw =>
  obtain ⟨v1,v2,tp,ao,n5⟩:=D2 h bg ab J
  have h7:(execOp a.eval { dst:=dst,op:=.call { callee:=.value c,args:=xs,argTypes:=ir },type:=ty,pos:=pos,after:=after,guard:=guard }).run P w=.ok (.enter f (v1++xs.map a.eval++v2)) w:=by
   simp [execOp,resolve,Deferred.ofValue,tp,invoke,D3 bj]
  have b1:=h.args (I':=I) (λc ab=>.inl ab) ao λρ' k x u J hu=>(n5 k x u J hu).bI (aN x (List.mem_of_getElem? J))
  have tn:=iT.2 w I (v1++xs.map a.eval++v2).toList _ ao.symm b1
  unfold Oper.wp Oper.upon
  simp only [h7]
  rw [Array.toArray_toList] at tn
  refine Calls.mono tn ?_
  rintro e w' ⟨v,I',cq,rfl,eD,cd⟩
  obtain ⟨xd,gY⟩:=last ao.symm eD
  have sc:Fr w w' (λ_=>False):=cd.fy.mono λb _ ⟨_,aI⟩=>aI
  refine eC v w' ⟨cq (first++ys++caps).length,I',?_,?_,?_,?_,cd.more,?_,sc.mono λ_ _ h=>h.elim,zN aw⟩
  ·have:=h.world (w':=w') (λt c ab=>sc.block c (h.jN t c ab) (λh=>h)) (λc ab=>sc.block c (h.lt c ab) λh=>h) sc.size
   refine ⟨λt x J=>?_,this.kt,this.e8,λt c ab hi=>?_,eD.lt,this.pQ⟩
   ·obtain ⟨v,hv,bh⟩:=this.rel t x J
    exact ⟨v,hv,bh.frame (λ_ _=>rfl) cd.more (λ_ _ h=>h) (λ_ _ _ _ _ _ _=>rfl) λ_ _=>rfl⟩
   ·rcases cd.new c hi with aT | ⟨_,aT⟩ | aT
    ·exact h.aD t c ab aT
    ·exact aT
    ·have:=h.jN t c ab; omega
  ·exact .tree ((xd.hT (by rintro z p n m new rfl; cases aw)).bI aw)
  ·intro t c ab tr
   rcases cd.own c ⟨_,ab⟩ with ⟨_,aT⟩ | aT
   ·exact aT
   ·have:=h.jN t c tr; omega
  ·intro c ab
   rcases cd.own c ⟨_,ab⟩ with ⟨_,aT⟩ | aT
   ·exact aT.elim
   ·exact ⟨aT,eD.aD _ c ab⟩
  ·intro c ab
   rcases cd.new c ab with aT | ⟨_,aT⟩ | aT
   ·exact .inl aT
   ·exact aT.elim
   ·exact .inr aT
 | @CG c xs ir f first caps ys args _ ab J bj Fv hv iT aw =>
  obtain ⟨v1,v2,tp,ao,n5⟩:=D2 h bg ab J
  have h7:(execOp a.eval { dst:=dst,op:=.call { callee:=.value c,args:=xs,argTypes:=ir },type:=ty,pos:=pos,after:=after,guard:=guard }).run P w=.ok (.enter f (v1++xs.map a.eval++v2)) w:=by
   simp [execOp,resolve,Deferred.ofValue,tp,invoke,D3 bj]
  have hY:args.length=(v1++xs.map a.eval++v2).toList.length:=by rw [Fv,ao]
  have b1:=h.args (I':=λc=>I c\/∃ t,Fs t c) (λc ab=>ab) hY λρ' k x u J hu=>by
   have hk:k<(first++ys++caps).length:=by rw [<- Fv]; exact (List.getElem?_eq_some_iff.1 J).1
   have kP:=List.getElem?_eq_getElem hk
   exact (hv k _ x kP J).sound h (n5 k _ u kP hu) (λ_ h=>h.elim) ρ'
  have tn:=iT.2 w _ (v1++xs.map a.eval++v2).toList _ hY.symm b1
  unfold Oper.wp Oper.upon
  simp only [h7]
  rw [Array.toArray_toList] at tn
  refine Calls.mono tn ?_
  rintro e w' ⟨v,I',cq,rfl,eD,cd⟩
  obtain ⟨xd,gY⟩:=last hY.symm eD
  have sc:Fr w w' (λ_=>False):=cd.fy.mono λb _ ⟨_,aI⟩=>aI
  refine eC v w' ⟨cq args.length,I,?_,?_,?_,?_,λ_ h=>h,λ_ h=>.inl h,sc.mono λ_ _ h=>h.elim,zN aw.bI⟩
  ·exact h.world (w':=w') (λt c ab=>sc.block c (h.jN t c ab) (λh=>h)) (λc ab=>sc.block c (h.lt c ab) λh=>h) sc.size
  ·exact .tree ((xd.hT (by rintro z p n m new rfl; cases aw)).kS aw)
  ·intro t c ab tr
   rcases cd.own c ⟨_,ab⟩ with ⟨_,aT⟩ | aT
   ·exact aT
   ·have:=h.jN t c tr; omega
  ·intro c ab
   rcases cd.own c ⟨_,ab⟩ with ⟨_,aT⟩ | aT
   ·exact aT.elim
   ·exact ⟨aT,λhi=>by have:=h.lt c hi; omega⟩
end
end Go.Own
namespace Go.Own
open Go
structure jy (w:World) (I:bt) (T:Array Value) (g:aU) (Fs:Nat->bt):Prop where
 rel:∀ t x,g t=some x->∃ v,T[t]?=some v/\jx w I (f_ w T) x v (Fs t)
 kt:∀ t,g t=none->∀ c,¬ Fs t c
 e8:∀ t dh c,Fs t c->Fs dh c->t=dh
 aD:∀ t c,Fs t c->¬ I c
 lt:∀ c,I c->c<w.heap.size
def c5 (g:aU) (p:Place) (y:ag):aU:=λt=>if t=p.root then (g t).map λx=>x.setAt p.path y else g t
inductive eY (g:aU):ag->Prop
 | bI {x:ag}(h:c' x):eY g x
 | ref {x:ag}(J:x.isRef=true) (h:hc g x):eY g x
 | own {z n:Nat}{cs:List ag}(h:∀ x∈cs,eY g x):eY g (.own z n cs)
 | obj {cs:List ag}(h:∀ x∈cs,eY g x):eY g (.obj cs)
 | agg {cs:List ag}(h:∀ x∈cs,eY g x):eY g (.agg cs)
 | cw {cs:List ag}(h:∀ x∈cs,eY g x):eY g (.cw cs)
 | ef {fn:Fn}{a b:List ag}(h1:∀ x∈a,eY g x) (al:∀ x∈b,eY g x):eY g (.ef fn a b)
 | b2 {z n m:Nat}{p:Place}{new:List ag}(aF:hc g (.b2 z p n 0 [])) (h:∀ x∈new,eY g x):eY g (.b2 z p n m new)
section
variable {w:World}{I:bt}{T:Array Value}{g:aU}{Fs:Nat->bt}
theorem R.bp {x:ag}{v:Value}{F:bt}(h:R w I (f_ w T) x v F):eY g x->R w I (ej w T g) x v F:=by
 induction h with
 | lit h aQ=>exact λ_=>.lit h aQ
 | aJ aQ=>exact λ_=>.aJ aQ
 | dead aQ=>exact λ_=>.dead aQ
 | @ref x _ _ J h aQ =>
  intro hk
  refine .ref J ⟨h,?_⟩ aQ
  cases hk with
  | ref _ h=>exact h
  | bI h=>cases h <;> simp [ag.isRef] at J
  | _=>simp [ag.isRef] at J
 | hM aQ=>exact λ_=>.hM aQ
 | mp bf aF aQ=>exact λ_=>.mp bf aF aQ
 | imp aQ bs bf aF=>exact λ_=>.imp aQ bs bf aF
 | aD aQ kM bs aP ao h1 ab aw aS =>
  intro hk
  cases hk with
  | ref J=>simp [ag.isRef] at J
  | bI h=>cases h with | aD h=>exact .aD aQ kM bs aP ao h1 ab λk x J=>aS k x J (.bI (h x (List.mem_of_getElem? J)))
 | bn aQ bs aP h1 ab aw aS =>
  intro hk
  cases hk with
  | ref J=>simp [ag.isRef] at J
  | bI h=>cases h with | bn h=>exact .bn aQ bs aP h1 ab λk x J=>aS k x J (.bI (h x (List.mem_of_getElem? J)))
 | own bf ao h1 aw aV aI aQ aS =>
  intro hk
  refine .own bf ao h1 (λk x u J hu=>aS k x u J hu ?_) aV aI aQ
  cases hk with
  | ref J=>simp [ag.isRef] at J
  | bI h=>cases h with | own h=>exact .bI (h x (List.mem_of_getElem? J))
  | own h=>exact h x (List.mem_of_getElem? J)
 | obj bf ao h1 aw aV aI aQ aS =>
  intro hk
  refine .obj bf ao h1 (λk x u J hu=>aS k x u J hu ?_) aV aI aQ
  cases hk with
  | ref J=>simp [ag.isRef] at J
  | bI h=>cases h with | obj h=>exact .bI (h x (List.mem_of_getElem? J))
  | obj h=>exact h x (List.mem_of_getElem? J)
 | agg ao h1 aw aV aQ aS =>
  intro hk
  refine .agg ao h1 (λk x u J hu=>aS k x u J hu ?_) aV aQ
  cases hk with
  | ref J=>simp [ag.isRef] at J
  | bI h=>cases h with | agg h=>exact .bI (h x (List.mem_of_getElem? J))
  | agg h=>exact h x (List.mem_of_getElem? J)
 | cw ao aw aV aQ aS =>
  intro hk
  refine .cw ao (λk x u J hu=>aS k x u J hu ?_) aV aQ
  cases hk with
  | ref J=>simp [ag.isRef] at J
  | bI h=>cases h with | cw h=>exact .bI (h x (List.mem_of_getElem? J))
  | cw h=>exact h x (List.mem_of_getElem? J)
 | @ef fn first caps v1 v2 F aQ h1 al jK iy gl gf =>
  intro hk
  have:(∀ x∈first,eY g x)/\∀ x∈caps,eY g x:=by
   cases hk with
   | ref J=>simp [ag.isRef] at J
   | bI h=>cases h with | ef h1 al=>exact ⟨λx J=>.bI (h1 x J),λx J=>.bI (al x J)⟩
   | ef h1 al=>exact ⟨h1,al⟩
  exact .ef aQ h1 al (λk x u J hu=>gl k x u J hu (this.1 x (List.mem_of_getElem? J))) (λk x u J hu=>gf k x u J hu (this.2 x (List.mem_of_getElem? J)))
theorem jx.bp {x:ag}{v:Value}{F:bt}(h:jx w I (f_ w T) x v F) (hk:eY g x):jx w I (ej w T g) x v F:=by
 cases h with
 | tree h=>exact .tree (h.bp hk)
 | b2 h =>
  cases hk with
  | bI h=>cases h
  | ref J=>simp [ag.isRef] at J
  | b2 aF aN=>exact .b2 ⟨⟨h.j',aF⟩,h.kN,h.mb,h.ao,h.h1,λk x u J hu=>(h.aw k x u J hu).bp (aN x (List.mem_of_getElem? J)),h.aQ⟩
theorem cW.lY (h:cW w I T g Fs):jy w I T g Fs :=
  ⟨λt x J=>by
    obtain ⟨v,hv,bh⟩:=h.rel t x J
    refine ⟨v,hv,?_⟩
    cases bh with
    | tree bh=>exact .tree (bh.frame (λ_ _=>rfl) (λ_ h=>h) (λ_ _ h=>h.1) λ_ _=>rfl)
    | b2 bh=>exact .b2 ⟨bh.j'.1,bh.kN,bh.mb,bh.ao,bh.h1,λk x u J hu=>(bh.aw k x u J hu).frame (λ_ _=>rfl) (λ_ h=>h) (λ_ _ h=>h.1) λ_ _=>rfl,bh.aQ⟩,
   h.kt,h.e8,h.aD,h.lt⟩
theorem jy.Ur (h:jy w I T g Fs) {g':aU}(a7:∀ t x,g' t=some x->g t=some x) (hk:∀ t x,g' t=some x->eY g' x)
  (aF:∀ t dh z p n m new cG cT b7 da,g' t=some (.b2 z p n m new)->g' dh=some (.b2 cG p cT b7 da)->t=dh):cW w I T g' (λt c=>g' t≠none/\Fs t c):=by
 refine ⟨λt x J=>?_,λt aG c ab=>ab.1 aG,λt dh c ab fq=>h.e8 t dh c ab.2 fq.2,λt c ab=>h.aD t c ab.2,h.lt,aF⟩
 obtain ⟨v,hv,bh⟩:=h.rel t x (a7 t x J)
 have:Fs t=λc=>g' t≠none/\Fs t c:=by
  funext c
  exact propext ⟨λab=>⟨by rw [J]; simp,ab⟩,λab=>ab.2⟩
 refine ⟨v,hv,?_⟩
 rw [<- this]
 exact bh.bp (hk t x J)
theorem jy.part (h:jy w I T g Fs) {p:Place}{y:ag}(aF:b8 g p=some y) (ay:∀ z q n m new,y≠.b2 z q n m new):∃ v cJ,ep w T p=some v/\R w I (f_ w T) y v cJ/\(∀ c,cJ c->Fs p.root c) /\
  ∀ (y':ag) (ja:bt),R w I (f_ w T) y' v ja->(∀ c,ja c->Fs p.root c->cJ c)->(∀ c,ja c->¬ I c)->(∀ t c,t≠p.root->ja c->¬ Fs t c) ->
   ∃ cq,jy w I T (c5 g p y') cq/\(∀ c,cq p.root c↔(Fs p.root c/\¬ cJ c)\/ja c)/\∀ t,t≠p.root->cq t=Fs t:=by
 unfold b8 at aF
 cases J:g p.root with
 | none=>rw [J] at aF; cases aF
 | some x =>
  rw [J] at aF
  obtain ⟨v,hv,bh⟩:=h.rel _ _ J
  replace bh:=bh.hT (by
   rintro z q n m new rfl
   exact ay _ _ _ _ _ (ag.rQ aF).2)
  obtain ⟨iu,cJ,hw,dQ,dz,fW,kx⟩:=R.focus p.path bh aF
  refine ⟨iu,cJ,by simp [ep,hv,hw],dQ,dz,λy' ja jg l8 bs KD=>?_⟩
  obtain ⟨fU,EP,n2⟩:=kx w I (f_ w T) y' ja ⟨λ_ _=>rfl,λ_ _ _=>rfl,λ_ h=>h,λ_ _ h=>h⟩ jg l8
  refine ⟨λt=>if t=p.root then fU else Fs t,⟨λt x' gk=>?_,λt aG c=>?_,λt dh c ab fq=>?_,λt c ab=>?_,h.lt⟩,λc=>by simp [n2 c],λt aG=>by simp [aG]⟩
  ·by_cases hZ:t=p.root
   ·subst hZ
    have Sd:x.setAt p.path y'=x':=by simpa [c5,J] using gk
    subst Sd
    exact ⟨v,hv,.tree (by simpa using EP)⟩
   ·simp only [c5,if_neg hZ] at gk
    simpa [hZ] using h.rel t x' gk
  ·by_cases hZ:t=p.root
   ·subst hZ; simp [c5,J] at aG
   ·simp only [c5,if_neg hZ] at aG; simpa [hZ] using h.kt t aG c
  ·by_cases h1:t=p.root <;> by_cases al:dh=p.root <;> simp only [h1,al,if_true,if_false] at ab fq
   ·rw [h1,al]
   ·rcases (n2 c).1 ab with ⟨aR,_⟩ | aR
    ·rw [h1]; exact h.e8 _ _ _ aR fq
    ·exact absurd fq (KD dh c al aR)
   ·rcases (n2 c).1 fq with ⟨aR,_⟩ | aR
    ·rw [al]; exact h.e8 _ _ _ ab aR
    ·exact absurd ab (KD t c h1 aR)
   ·exact h.e8 _ _ _ ab fq
  ·by_cases h1:t=p.root <;> simp only [h1,if_true,if_false] at ab
   ·rcases (n2 c).1 ab with ⟨aR,_⟩ | aR
    ·exact h.aD _ c aR
    ·exact bs c aR
   ·exact h.aD t c ab
end
end Go.Own
namespace Go.Own
open Go
inductive Take:aU->List ag->List ag->aU->Prop
 | bI {g:aU}{xs:List ag}(h:∀ x∈xs,c' x):Take g xs xs g
 | cons {g g':aU}{x:ag}{xs xs':List ag}(h:c' x) (aG:Take g xs xs' g'):Take g (x::xs) (x::xs') g'
 | bm {g g1 g':aU}{z n N:Nat}{p:Place}{cs cs' xs xs':List ag}(aF:b8 g p=some (.own z N cs)) (aN:n<=N) (h1:Take (c5 g p .dead) (cs.take (n * z)) cs' g1) (al:Take g1 xs xs' g') :
   Take g (.bm z p n::xs) (.own z n cs'::xs') g'
 | b2 {g g1 g':aU}{z n m t:Nat}{q:Place}{cs new cs' xs xs':List ag}(aG:g t=some (.b2 z q n m new)) (aF:b8 g q=some (.own z n cs)) (bP:q.root≠t) (h1:Take (c5 (c5 g ⟨t,[]⟩ .dead) q .dead) (cs++new) cs' g1) (al:Take g1 xs xs' g') :
   Take g (.bm z ⟨t,[]⟩ (n+m)::xs) (.own z (n+m) cs'::xs') g'
 | CT {g g1 g':aU}{z n m t pO m2 t2:Nat}{q:Place}{cs new xp cs' xs xs':List ag}(aG:g t=some (.b2 z ⟨t2,[]⟩ n m new)) (KN:g t2=some (.b2 z q pO m2 xp)) (aN:n=pO+m2) (aF:b8 g q=some (.own z pO cs)) (bP:q.root≠t) (rf:q.root≠t2) (R3:t≠t2)
   (h1:Take (c5 (c5 (c5 g ⟨t,[]⟩ .dead) ⟨t2,[]⟩ .dead) q .dead) (cs++xp++new) cs' g1) (al:Take g1 xs xs' g') :
   Take g (.bm z ⟨t,[]⟩ (n+m)::xs) (.own z (n+m) cs'::xs') g'
 | obj {g g1 g':aU}{p:Place}{cs cs' xs xs':List ag}(aF:b8 g p=some (.obj cs)) (h1:Take (c5 g p .dead) cs cs' g1) (al:Take g1 xs xs' g'):Take g (.ptr p 0::xs) (.obj cs'::xs') g'
 | mp {g g1 g':aU}{p:Place}{q:Array MapEntry->Nat->Prop}{xs xs':List ag}(aF:b8 g p=some (.mp q)) (h1:Take (c5 g p .dead) [] [] g1) (al:Take g1 xs xs' g'):Take g (.iK p::xs) (.mp q::xs') g'
 | agg {g g1 g':aU}{cs cs' xs xs':List ag}(h1:Take g cs cs' g1) (al:Take g1 xs xs' g'):Take g (.agg cs::xs) (.agg cs'::xs') g'
 | cw {g g1 g':aU}{cs cs' xs xs':List ag}(h1:Take g cs cs' g1) (al:Take g1 xs xs' g'):Take g (.cw cs::xs) (.cw cs'::xs') g'
structure Hand (w:World) (I:bt) (ρ:ag->Value->Prop) (Fs:Nat->bt) (xs:List ag) (vs:List Value) (dD:Nat->bt):Prop where
 len:xs.length=vs.length
 rel:∀ (k:Nat) (x:ag) (u:Value),xs[k]?=some x->vs[k]?=some u->R w I ρ x u (dD k)
 e8:∀ (ae k c:Nat),ae<xs.length->k<xs.length->dD ae c->dD k c->ae=k
 off:∀ (k t c:Nat),k<xs.length->dD k c->¬ Fs t c
 aD:∀ (k c:Nat),k<xs.length->dD k c->¬ I c
def kW (Fs:Nat->bt) (n:Nat) (dD:Nat->bt):bt:=λc=>(∃ t,Fs t c)\/∃ k,k<n/\dD k c
section
variable {w:World}{I:bt}{T:Array Value}
theorem Take.length {g g':aU}{xs xs':List ag}(h:Take g xs xs' g'):xs'.length=xs.length:=by
 induction h with
 | bI=>rfl
 | cons _ _ aS=>simp [aS]
 | bm _ _ _ _ _ aS=>simp [aS]
 | b2 _ _ _ _ _ _ aS=>simp [aS]
 | CT _ _ _ _ _ _ _ _ _ _ aS=>simp [aS]
 | obj _ _ _ _ aS=>simp [aS]
 | mp _ _ _ _ aS=>simp [aS]
 | agg _ _ _ aS=>simp [aS]
 | cw _ _ _ aS=>simp [aS]
theorem Hand.cons {ρ:ag->Value->Prop}{Fs:Nat->bt}{x:ag}{v:Value}{F:bt}{xs:List ag}{vs:List Value}{dD:Nat->bt}(h:Hand w I ρ Fs xs vs dD) (J:R w I ρ x v F)
  (aV:∀ k c,k<xs.length->F c->¬ dD k c) (bf:∀ t c,F c->¬ Fs t c) (hi:∀ c,F c->¬ I c):Hand w I ρ Fs (x::xs) (v::vs) (λk=>match k with | 0=>F | k+1=>dD k):=by
 refine ⟨by simp [h.len],λk y u ay hu=>?_,λae k c aa hk h1 al=>?_,λk t c hk ab=>?_,λk c hk ab=>?_⟩
 ·cases k with
  | zero=>simp at ay hu; subst ay hu; exact J
  | succ k=>simp at ay hu; exact h.rel k y u ay hu
 ·cases ae <;> cases k
  ·rfl
  ·exact absurd al (aV _ c (by simpa using hk) h1)
  ·exact absurd h1 (aV _ c (by simpa using aa) al)
  ·rw [h.e8 _ _ c (by simpa using aa) (by simpa using hk) h1 al]
 ·cases k with
  | zero=>exact bf t c ab
  | succ k=>exact h.off k t c (by simpa using hk) ab
 ·cases k with
  | zero=>exact hi c ab
  | succ k=>exact h.aD k c (by simpa using hk) ab
theorem Hand.tail {ρ:ag->Value->Prop}{Fs:Nat->bt}{x:ag}{v:Value}{xs:List ag}{vs:List Value}{dD:Nat->bt}(h:Hand w I ρ Fs (x::xs) (v::vs) dD):Hand w I ρ Fs xs vs (λk=>dD (k+1)) :=
  ⟨by simpa using h.len,λk y u ay hu=>h.rel (k+1) y u ay hu,λae k c aa hk h1 al=>by have:=h.e8 (ae+1) (k+1) c (by simpa using aa) (by simpa using hk) h1 al; omega,
   λk t c hk ab=>h.off (k+1) t c (by simpa using hk) ab,λk c hk ab=>h.aD (k+1) c (by simpa using hk) ab⟩
theorem oh {x:ag}{xs:List ag}(h:c' x) (aS:∀ y∈xs,c' y):∀ y∈x::xs,c' y:=by
 intro y ay
 rcases List.mem_cons.1 ay with rfl | ay
 ·exact h
 ·exact aS y ay
theorem Take.zQ {g g':aU}{xs xs':List ag}(h:Take g xs xs' g'):∀ x∈xs',c' x:=by
 induction h with
 | bI h=>exact h
 | cons h _ aS=>exact oh h aS
 | bm _ _ _ _ gl gf=>exact oh (.own gl) gf
 | b2 _ _ _ _ _ gl gf=>exact oh (.own gl) gf
 | CT _ _ _ _ _ _ _ _ _ gl gf=>exact oh (.own gl) gf
 | obj _ _ _ gl gf=>exact oh (.obj gl) gf
 | mp _ _ _ _ gf=>exact oh .mp gf
 | agg _ _ gl gf=>exact oh (.agg gl) gf
 | cw _ _ gl gf=>exact oh (.cw gl) gf
def DD (w:World) (I:bt) (T:Array Value) (g:aU) (xs xs':List ag) (g':aU):Prop :=
 ∀ {Fs:Nat->bt}{vs:List Value}{dD:Nat->bt},jy w I T g Fs->Hand w I (f_ w T) Fs xs vs dD ->
  ∃ cq ju,jy w I T g' cq/\Hand w I (f_ w T) cq xs' vs ju/\∀ c,kW cq xs'.length ju c->kW Fs xs.length dD c
theorem GL {w:World}{e cQ:TypeId}{z n:Nat}{v:Value}{us iC:List Value}(h:w.ownsRow 0 e z v n us) (aT:w.ownsRow 0 cQ z v n iC):us=iC:=by
 obtain ⟨h1,al⟩:=h
 obtain ⟨mY,PT⟩:=aT
 rcases al with ⟨rfl,rfl⟩ | ⟨b,cap,cur,rfl,_,a7,_,_,_,aG⟩
 ·simp at h1 mY; rw [h1,mY]
 ·rcases PT with ⟨b9,_⟩ | ⟨iI,lG,O9,b9,_,Kj,_,_,_,pI⟩
  ·cases b9
  ·cases b9
   rw [a7] at Kj
   cases Kj
   rw [<- aG,<- pI]
theorem Take.node {g1 g2 g':aU}{Fs fY:Nat->bt}{B H0:bt}{cs cs' xs xs':List ag}{us vs:List Value}{bR dD:Nat->bt}{X:ag}{v0:Value}
  (b1:jy w I T g1 fY) (hH:Hand w I (f_ w T) fY cs us bR) (ij:∀ c,B c->(∃ t,Fs t c)/\(∀ t,¬ fY t c)/\(∀ k,k<cs.length->¬ bR k c)/\¬ I c)
  (gJ:∀ c,kW fY cs.length bR c->(∃ t,Fs t c)\/H0 c) (fF:Hand w I (f_ w T) Fs xs vs dD) (th:∀ c,H0 c->(∀ t,¬ Fs t c)/\∀ k,k<xs.length->¬ dD k c)
  (gl:DD w I T g1 cs cs' g2) (gf:DD w I T g2 xs xs' g')
  (build:∀ ju:Nat->bt,(∀ (k:Nat) (x:ag) (u:Value),cs'[k]?=some x->us[k]?=some u->R w I (f_ w T) x u (ju k))->(∀ (ae k c:Nat),ae<cs'.length->k<cs'.length->ju ae c->ju k c->ae=k) ->
   (∀ k c,k<cs'.length->ju k c->¬ B c)->R w I (f_ w T) X v0 (λc=>B c\/∃ k,k<cs'.length/\ju k c)) :
  ∃ cq ju,jy w I T g' cq/\Hand w I (f_ w T) cq (X::xs') (v0::vs) ju/\∀ c,kW cq (X::xs').length ju c->(∃ t,Fs t c)\/H0 c\/∃ k,k<xs.length/\dD k c:=by
 obtain ⟨iN,H1,h5,B5,y1⟩:=gl b1 hH
 have Tg:∀ k t c,k<xs.length->dD k c->¬ iN t c:=by
  intro k t c hk ab bj
  rcases gJ c (y1 c (.inl ⟨t,bj⟩)) with ⟨dh,h⟩ | h
  ·exact fF.off k dh c hk ab h
  ·exact (th c h).2 k hk ab
 obtain ⟨wk,x7,EX,Qm,J6⟩:=gf h5 (⟨fF.len,fF.rel,fF.e8,Tg,fF.aD⟩:Hand w I (f_ w T) iN xs vs dD)
 have Qc:∀ k c,k<cs'.length->H1 k c->¬ B c:=by
  intro k c hk ab aI
  obtain ⟨_,h1,al,_⟩:=ij c aI
  rcases y1 c (.inr ⟨k,hk,ab⟩) with ⟨t,h⟩ | ⟨ae,aa,h⟩
  ·exact h1 t h
  ·exact al ae aa h
 have E0:=build H1 B5.rel B5.e8 Qc
 -- the node's blocks: apart from all else
 have key:∀ c,(B c\/∃ k,k<cs'.length/\H1 k c)->(∀ t,¬ iN t c)/\(∀ k,k<xs.length->¬ dD k c)/\¬ I c/\((∃ t,Fs t c)\/H0 c):=by
  rintro c (aI | ⟨k,hk,ab⟩)
  ·obtain ⟨⟨t0,bc⟩,h1,al,aR⟩:=ij c aI
   refine ⟨λt bj=>?_,λk hk ab=>fF.off k t0 c hk ab bc,aR,.inl ⟨t0,bc⟩⟩
   rcases y1 c (.inl ⟨t,bj⟩) with ⟨dh,h⟩ | ⟨ae,aa,h⟩
   ·exact h1 dh h
   ·exact al ae aa h
  ·have aP:=gJ c (y1 c (.inr ⟨k,hk,ab⟩))
   refine ⟨λt bj=>B5.off k t c hk ab bj,λae aa u1=>?_,B5.aD k c hk ab,aP⟩
   rcases aP with ⟨t,h⟩ | h
   ·exact fF.off ae t c aa u1 h
   ·exact (th c h).2 ae aa u1
 have fin:∀ c,(B c\/∃ k,k<cs'.length/\H1 k c)->(∀ t,¬ wk t c)/\∀ k,k<xs'.length->¬ x7 k c:=by
  intro c ab
  obtain ⟨h1,al,_,_⟩:=key c ab
  have none:¬ kW wk xs'.length x7 c:=by
   intro h
   rcases J6 c h with ⟨t,h⟩ | ⟨k,hk,h⟩
   ·exact h1 t h
   ·exact al k hk h
  exact ⟨λt h=>none (.inl ⟨t,h⟩),λk hk h=>none (.inr ⟨k,hk,h⟩)⟩
 refine ⟨wk,_,EX,Qm.cons E0 (λk c hk ab=>(fin c ab).2 k hk) (λt c ab=>(fin c ab).1 t) (λc ab=>(key c ab).2.2.1),?_⟩
 have back:∀ c,kW wk xs'.length x7 c->(∃ t,Fs t c)\/H0 c\/∃ k,k<xs.length/\dD k c:=by
  intro c h
  rcases J6 c h with ⟨t,h⟩ | h
  ·rcases gJ c (y1 c (.inl ⟨t,h⟩)) with h | h
   ·exact .inl h
   ·exact .inr (.inl h)
  ·exact .inr (.inr h)
 rintro c (h | ⟨k,hk,ab⟩)
 ·exact back c (.inl h)
 ·cases k with
  | zero =>
   rcases (key c ab).2.2.2 with h | h
   ·exact .inl h
   ·exact .inr (.inl h)
  | succ k=>exact back c (.inr ⟨k,by simpa using hk,ab⟩)
end
end Go.Own
namespace Go.Own
open Go
section
variable {w:World}{I:bt}{T:Array Value}
theorem jy.kill {g:aU}{Fs:Nat->bt}(h:jy w I T g Fs) (t:Nat):∃ cq,jy w I T (c5 g ⟨t,[]⟩ .dead) cq/\(∀ c,¬ cq t c)/\∀ s,s≠t->cq s=Fs s:=by
 refine ⟨λs=>if s=t then cS else Fs s,⟨λs x J=>?_,λs aP c=>?_,λs e6 c ab fq=>?_,λs c ab=>?_,h.lt⟩,λc=>by simp,λs aP=>by simp [aP]⟩
 ·by_cases cd:s=t
  ·subst cd
   simp only [c5,if_pos] at J
   cases a7:g s with
   | none=>rw [a7] at J; cases J
   | some y =>
    rw [a7] at J
    have:x=.dead:=by simpa [ag.setAt] using J.symm
    subst this
    obtain ⟨v,hv,_⟩:=h.rel s y a7
    exact ⟨v,hv,.tree (.dead (by simp))⟩
  ·simp only [c5,if_neg cd] at J; simpa [cd] using h.rel s x J
 ·by_cases cd:s=t
  ·simp [cd]
  ·simp only [c5,if_neg cd] at aP; simpa [cd] using h.kt s aP c
 ·by_cases h1:s=t <;> by_cases al:e6=t <;> simp [h1,al,cS] at ab fq
  exact h.e8 _ _ _ ab fq
 ·by_cases h1:s=t <;> simp [h1,cS] at ab
  exact h.aD _ _ ab
theorem R.tq {ρ:ag->Value->Prop}{Fs:Nat->bt}{x:ag}{v:Value}{xs:List ag}{vs:List Value}{dD:Nat->bt}(h:Hand w I ρ Fs (x::xs) (v::vs) dD):∀ c,dD 0 c->(∀ t,¬ Fs t c)/\∀ k,k<xs.length->¬ dD (k+1) c:=by
 intro c ab
 refine ⟨λt=>h.off 0 t c (by simp) ab,λk hk ik=>?_⟩
 have:=h.e8 0 (k+1) c (by simp) (by simpa using hk) ab ik
 omega
theorem kW.head {Fs:Nat->bt}{x:ag}{xs:List ag}{dD:Nat->bt}{c:Nat}(h:(∃ t,Fs t c)\/dD 0 c\/∃ k,k<xs.length/\dD (k+1) c):kW Fs (x::xs).length dD c:=by
 rcases h with h | h | ⟨k,hk,h⟩
 ·exact .inl h
 ·exact .inr ⟨0,by simp,h⟩
 ·exact .inr ⟨k+1,by simpa using hk,h⟩
theorem C' {g:aU}{p:Place}{y:ag}{q:Place}(h:q.root≠p.root):b8 (c5 g p y) q=b8 g q:=by
 simp [b8,c5,h]
theorem sE {g:aU}{p:Place}{y:ag}{t:Nat}(h:t≠p.root):c5 g p y t=g t:=by
 simp [c5,h]
theorem Lq {a:Option Addr}{n cap cT lG:Nat}:(Value.slice a n cap).ownBlock=(Value.slice a cT lG).ownBlock:=by cases a <;> rfl
theorem Tn {e:TypeId}{z n N:Nat}{a:Option Addr}{cap:Nat}{us:List Value}(h:w.ownsRow 0 e z (.slice a N cap) N us) (aN:n<=N):w.ownsRow 0 e z (.slice a n cap) n (us.take (n * z)):=by
 have hle:n * z<=N * z:=Nat.mul_le_mul_right _ aN
 obtain ⟨hu,b9⟩:=h
 refine ⟨by rw [List.length_take,hu]; omega,?_⟩
 rcases b9 with ⟨b9,bc⟩ | ⟨b,c2,cur,b9,sy,gm,tU,rr,tV,sz⟩
 ·cases b9; exact .inl ⟨by simp; omega,by omega⟩
 ·cases b9
  refine .inr ⟨b,cap,cur,rfl,sy,gm,by omega,rr,tV,?_⟩
  rw [<- sz,List.take_take,Nat.min_eq_left hle]
theorem Take.sound {g g':aU}{xs xs':List ag}(h:Take g xs xs' g'):DD w I T g xs xs' g':=by
 induction h with
 | bI h=>exact λ{Fs vs dD} b1 hH=>⟨Fs,dD,b1,hH,λ_ h=>h⟩
 | @cons g g' x xs xs' J _ aS =>
  intro Fs vs dD b1 hH
  cases vs with
  | nil=>have:=hH.len; simp at this
  | cons v vs =>
   obtain ⟨cq,ju,eD,Ql,hf⟩:=aS b1 hH.tail
   have bc:=R.tq hH
   have off:∀ c,dD 0 c->¬ kW cq xs'.length ju c:=by
    intro c ab aI
    rcases hf c aI with ⟨t,h⟩ | ⟨k,hk,h⟩
    ·exact (bc c ab).1 t h
    ·exact (bc c ab).2 k hk h
   refine ⟨cq,_,eD,Ql.cons (hH.rel 0 x v rfl rfl) (λk c hk ab h=>off c ab (.inr ⟨k,hk,h⟩)) (λt c ab h=>off c ab (.inl ⟨t,h⟩)) (λc ab=>hH.aD 0 c (by simp) ab),?_⟩
   rintro c (h | ⟨k,hk,h⟩)
   ·rcases hf c (.inl h) with h | ⟨ae,aa,h⟩
    ·exact .inl h
    ·exact .inr ⟨ae+1,by simpa using aa,h⟩
   ·cases k with
    | zero=>exact .inr ⟨0,by simp,h⟩
    | succ k =>
     rcases hf c (.inr ⟨k,by simpa using hk,h⟩) with h | ⟨ae,aa,h⟩
     ·exact .inl h
     ·exact .inr ⟨ae+1,by simpa using aa,h⟩
 | @bm g g1 g' z n N p cs cs' xs xs' aF aN t1 _ gl gf =>
  intro Fs vs dD b1 hH
  cases vs with
  | nil=>have:=hH.len; simp at this
  | cons v vs =>
   obtain ⟨pd,cJ,gR,hI,dz,kx⟩:=b1.part aF (by simp)
   obtain ⟨a,iO,cap,h1,rfl,aR⟩:=(hH.rel 0 _ v rfl rfl).mj
   rw [h1] at gR
   cases gR
   obtain ⟨a2,p8,jZ,_⟩:=hI.mq
   cases jZ
   obtain ⟨fY,iR,jK,iy⟩:=kx .dead cS (.dead λ_ h=>h) (λ_ h=>h.elim) (λ_ h=>h.elim) (λ_ _ _ h=>h.elim)
   have k3:∀ t c,fY t c->Fs t c/\¬ cJ c:=by
    intro t c ab
    by_cases aG:t=p.root
    ·subst aG
     rcases (jK c).1 ab with h | h
     ·exact h
     ·exact h.elim
    ·rw [iy t aG] at ab
     exact ⟨ab,λeH=>aG (b1.e8 _ _ _ ab (dz c eH))⟩
   cases hI with
   | ref J=>simp [ag.isRef] at J
   | @own _ _ _ _ e us bR _ bf ao mY aw aV aI aQ =>
    have Co:∀ k,k<(cs.take (n * z)).length->k<cs.length:=λk hk=>by rw [List.length_take] at hk; omega
    have e9:∀ k c,k<(cs.take (n * z)).length->bR k c->cJ c:=λk c hk ab=>(aQ c).2 (.inr ⟨k,Co k hk,ab⟩)
    have iv:Hand w I (f_ w T) fY (cs.take (n * z)) (us.take (n * z)) bR:=by
     refine ⟨by simp [ao],λk x u J hu=>?_,λae k c aa hk=>aV ae k c (Co ae aa) (Co k hk),λk t c hk ab bj=>(k3 t c bj).2 (e9 k c hk ab),λk c hk ab=>b1.aD _ c (dz c (e9 k c hk ab))⟩
     rw [List.getElem?_take] at J hu
     split at J
     ·rename_i dS; rw [if_pos dS] at hu; exact aw k x u J hu
     ·cases J
    have n_:=Tn bf aN
    obtain ⟨cq,ju,av,a2,a3⟩:=Take.node (g1:=c5 g p .dead) (Fs:=Fs) (B:=λc=>(Value.slice a n cap).ownBlock=some c) (H0:=dD 0) (X:=.own z n cs') (v0:=.slice a n cap) iR iv
     (λc ab=>by
      have eH:cJ c:=(aQ c).2 (.inl (by rw [<- ab]; exact Lq))
      exact ⟨⟨_,dz c eH⟩,λt bj=>(k3 t c bj).2 eH,λk hk ik=>aI k c (Co k hk) ik (by rw [<- ab]; exact Lq),b1.aD _ c (dz c eH)⟩)
     (λc ab=>by
      rcases ab with ⟨t,h⟩ | ⟨k,hk,h⟩
      ·exact .inl ⟨t,(k3 t c h).1⟩
      ·exact .inl ⟨_,dz c (e9 k c hk h)⟩)
     hH.tail (R.tq hH) gl gf (λwo hE ic k2=>by
      refine .own n_ (by rw [t1.length]; simp [ao]) (λk u hu=>?_) hE ic (λk c hk ab h=>k2 k c hk ab h) λc=>Iff.rfl
      rw [List.getElem?_take] at hu
      split at hu
      ·exact mY k u hu
      ·cases hu)
    exact ⟨cq,ju,av,a2,λc ab=>kW.head (a3 c ab)⟩
 | @b2 g g1 g' z n m t q cs new cs' xs xs' aG aF bP t1 _ gl gf =>
  intro Fs vs dD b1 hH
  cases vs with
  | nil=>have:=hH.len; simp at this
  | cons v vs =>
   obtain ⟨a,iO,cap,h1,rfl,aR⟩:=(hH.rel 0 _ v rfl rfl).mj
   obtain ⟨v0,jj,gE⟩:=b1.rel t _ aG
   simp only [ep,jj,walk,Option.some.injEq] at h1
   subst h1
   obtain ⟨bv,e,cZ,us,news,gE⟩:=gE.tK
   have bY:iO=n+m:=by
    obtain ⟨_,b9⟩:=gE.mb
    rcases b9 with ⟨b9,bc⟩ | ⟨_,_,_,b9,_⟩
    ·cases b9; omega
    ·cases b9; rfl
   subst bY
   obtain ⟨MR,EZ,hl,gQ⟩:=b1.kill t
   have FJ:b8 (c5 g ⟨t,[]⟩ .dead) q=some (.own z n cs):=by rw [C' (by simpa using bP)]; exact aF
   obtain ⟨pd,cJ,gR,hI,dz,kx⟩:=EZ.part FJ (by simp)
   obtain ⟨cy,lG,b3,rfl⟩:=gE.j'
   rw [b3] at gR
   cases gR
   obtain ⟨fY,iR,jK,iy⟩:=kx .dead cS (.dead λ_ h=>h) (λ_ h=>h.elim) (λ_ h=>h.elim) (λ_ _ _ h=>h.elim)
   have oP:∀ c,cJ c->Fs q.root c:=λc ab=>by have:=dz c ab; rwa [gQ _ bP] at this
   have k3:∀ s c,fY s c->Fs s c/\¬ cJ c/\s≠t:=by
    intro s c ab
    have cd:s≠t:=by
     rintro rfl
     by_cases tD:s=q.root
     ·exact bP tD.symm
     ·rw [iy s tD] at ab; exact hl c ab
    by_cases aP:s=q.root
    ·subst aP
     rcases (jK c).1 ab with h | h
     ·exact ⟨by have:=h.1; rwa [gQ _ bP] at this,h.2,cd⟩
     ·exact h.elim
    ·rw [iy s aP,gQ s cd] at ab
     exact ⟨ab,λeH=>aP (b1.e8 _ _ _ ab (oP c eH)),cd⟩
   cases hI with
   | ref J=>simp [ag.isRef] at J
   | @own _ _ _ _ cQ iC bR _ bf ao mY aw aV aI aQ =>
    have:=GL bf gE.kN
    subst this
    have e9:∀ k c,k<cs.length->bR k c->cJ c:=λk c hk ab=>(aQ c).2 (.inr ⟨k,hk,ab⟩)
    have iv:Hand w I (f_ w T) fY (cs++new) (iC++news) (λk=>if k<cs.length then bR k else cS):=by
     refine ⟨by simp [ao,gE.ao],λk x u J hu=>?_,λae k c aa hk ab fq=>?_,λk s c hk ab bj=>?_,λk c hk ab=>?_⟩
     ·by_cases dS:k<cs.length
      ·rw [List.getElem?_append_left dS] at J
       rw [List.getElem?_append_left (by omega)] at hu
       simpa [dS] using aw k x u J hu
      ·rw [List.getElem?_append_right (by omega)] at J
       rw [List.getElem?_append_right (by omega),<- ao] at hu
       simpa [dS] using gE.aw _ x u J hu
     ·by_cases fg:ae<cs.length <;> by_cases dS:k<cs.length <;> simp [fg,dS,cS] at ab fq
      exact aV ae k c fg dS ab fq
     ·by_cases dS:k<cs.length <;> simp [dS,cS] at ab
      exact (k3 s c bj).2.1 (e9 k c dS ab)
     ·by_cases dS:k<cs.length <;> simp [dS,cS] at ab
      exact b1.aD _ c (oP c (e9 k c dS ab))
    obtain ⟨cq,ju,av,a2,a3⟩:=Take.node (g1:=c5 (c5 g ⟨t,[]⟩ .dead) q .dead) (Fs:=Fs) (B:=λc=>(Value.slice a (n+m) cap).ownBlock=some c) (H0:=dD 0) (X:=.own z (n+m) cs') (v0:=.slice a (n+m) cap) iR iv
     (λc ab=>by
      by_cases pE:(Value.slice cy n lG).ownBlock=some c
      ·have eH:cJ c:=(aQ c).2 (.inl pE)
       refine ⟨⟨_,oP c eH⟩,λs bj=>(k3 s c bj).2.1 eH,λk hk ik=>?_,b1.aD _ c (oP c eH)⟩
       by_cases dS:k<cs.length <;> simp [dS,cS] at ik
       exact aI k c dS ik pE
      ·have Cp:Fs t c:=(gE.aQ c).2 ⟨ab,pE⟩
       refine ⟨⟨_,Cp⟩,λs bj=>(k3 s c bj).2.2 (b1.e8 _ _ _ (k3 s c bj).1 Cp),λk hk ik=>?_,b1.aD _ c Cp⟩
       by_cases dS:k<cs.length <;> simp [dS,cS] at ik
       exact bP (b1.e8 _ _ _ (oP c (e9 k c dS ik)) Cp))
     (λc ab=>by
      rcases ab with ⟨s,h⟩ | ⟨k,hk,h⟩
      ·exact .inl ⟨s,(k3 s c h).1⟩
      ·by_cases dS:k<cs.length <;> simp [dS,cS] at h
       exact .inl ⟨_,oP c (e9 k c dS h)⟩)
     hH.tail (R.tq hH) gl gf (λwo hE ic k2=>by
      refine .own gE.mb (by rw [t1.length]; simp [ao,gE.ao]) (λk u hu=>?_) hE ic (λk c hk ab h=>k2 k c hk ab h) λc=>Iff.rfl
      by_cases dS:k<iC.length
      ·rw [List.getElem?_append_left dS] at hu; exact mY k u hu
      ·rw [List.getElem?_append_right (by omega)] at hu; exact gE.h1 _ u hu)
    exact ⟨cq,ju,av,a2,λc ab=>kW.head (a3 c ab)⟩
 | @CT g g1 g' z n m t pO m2 t2 q cs new xp cs' xs xs' aG KN aN aF bP rf R3 t1 _ gl gf =>
  subst aN
  intro Fs vs dD b1 hH
  cases vs with
  | nil=>have:=hH.len; simp at this
  | cons v vs =>
   obtain ⟨a,iO,cap,h1,rfl,aR⟩:=(hH.rel 0 _ v rfl rfl).mj
   obtain ⟨v0,jj,gE⟩:=b1.rel t _ aG
   simp only [ep,jj,walk,Option.some.injEq] at h1
   subst h1
   obtain ⟨bv,e,cZ,us,news,gE⟩:=gE.tK
   have bY:iO=pO+m2+m:=by
    obtain ⟨_,b9⟩:=gE.mb
    rcases b9 with ⟨b9,bc⟩ | ⟨_,_,_,b9,_⟩
    ·cases b9; omega
    ·cases b9; rfl
   subst bY
   obtain ⟨v2,pK,lJ⟩:=b1.rel t2 _ KN
   obtain ⟨Ix,cQ,rY,Uy,GF,lJ⟩:=lJ.tK
   have j':bv=v2:=by
    obtain ⟨av,IJ,c3,rfl⟩:=gE.j'
    simp only [ep,pK,walk,Option.some.injEq] at c3
    exact c3.symm
   subst j'
   have mf:us=Uy++GF:=GL gE.kN lJ.mb
   subst mf
   obtain ⟨UY,QD,Ry,Fo⟩:=b1.kill t
   obtain ⟨MR,EZ,hl,gQ⟩:=QD.kill t2
   have FJ:b8 (c5 (c5 g ⟨t,[]⟩ .dead) ⟨t2,[]⟩ .dead) q=some (.own z pO cs):=by rw [C' (by simpa using rf),C' (by simpa using bP)]; exact aF
   obtain ⟨pd,cJ,gR,hI,dz,kx⟩:=EZ.part FJ (by simp)
   obtain ⟨cy,lG,b3,rfl⟩:=lJ.j'
   rw [b3] at gR
   cases gR
   obtain ⟨fY,iR,jK,iy⟩:=kx .dead cS (.dead λ_ h=>h) (λ_ h=>h.elim) (λ_ h=>h.elim) (λ_ _ _ h=>h.elim)
   have oP:∀ c,cJ c->Fs q.root c:=λc ab=>by have:=dz c ab; rwa [gQ _ rf,Fo _ bP] at this
   have k3:∀ s c,fY s c->Fs s c/\¬ cJ c/\s≠t/\s≠t2:=by
    intro s c ab
    have mZ:s≠t2:=by
     rintro rfl
     by_cases tD:s=q.root
     ·exact rf tD.symm
     ·rw [iy s tD] at ab; exact hl c ab
    have cd:s≠t:=by
     rintro rfl
     by_cases tD:s=q.root
     ·exact bP tD.symm
     ·rw [iy s tD,gQ s mZ] at ab; exact Ry c ab
    by_cases aP:s=q.root
    ·subst aP
     rcases (jK c).1 ab with h | h
     ·exact ⟨by have:=h.1; rwa [gQ _ rf,Fo _ bP] at this,h.2,cd,mZ⟩
     ·exact h.elim
    ·rw [iy s aP,gQ s mZ,Fo s cd] at ab
     exact ⟨ab,λeH=>aP (b1.e8 _ _ _ ab (oP c eH)),cd,mZ⟩
   cases hI with
   | ref J=>simp [ag.isRef] at J
   | @own _ _ _ _ jV iC bR _ bf ao mY aw aV aI aQ =>
    have:=GL bf lJ.kN
    subst this
    have e9:∀ k c,k<cs.length->bR k c->cJ c:=λk c hk ab=>(aQ c).2 (.inr ⟨k,hk,ab⟩)
    have iv:Hand w I (f_ w T) fY (cs++xp++new) (iC++GF++news) (λk=>if k<cs.length then bR k else cS):=by
     have Gt:=lJ.ao
     have zD:=gE.ao
     refine ⟨by simp [ao,Gt,zD],λk x u J hu=>?_,λae k c aa hk ab fq=>?_,λk s c hk ab bj=>?_,λk c hk ab=>?_⟩
     ·rw [List.append_assoc] at J hu
      by_cases dS:k<cs.length
      ·rw [List.getElem?_append_left dS] at J
       rw [List.getElem?_append_left (by omega)] at hu
       simpa [dS] using aw k x u J hu
      ·rw [List.getElem?_append_right (by omega)] at J
       rw [List.getElem?_append_right (by omega),<- ao] at hu
       simp only [dS,if_false]
       by_cases Fu:k - cs.length<xp.length
       ·rw [List.getElem?_append_left Fu] at J
        rw [List.getElem?_append_left (by omega)] at hu
        exact lJ.aw _ x u J hu
       ·rw [List.getElem?_append_right (by omega)] at J
        rw [List.getElem?_append_right (by omega),<- Gt] at hu
        exact gE.aw _ x u J hu
     ·by_cases fg:ae<cs.length <;> by_cases dS:k<cs.length <;> simp [fg,dS,cS] at ab fq
      exact aV ae k c fg dS ab fq
     ·by_cases dS:k<cs.length <;> simp [dS,cS] at ab
      exact (k3 s c bj).2.1 (e9 k c dS ab)
     ·by_cases dS:k<cs.length <;> simp [dS,cS] at ab
      exact b1.aD _ c (oP c (e9 k c dS ab))
    have Mf:∀ s c,Fs s c->s=t\/s=t2->(∃ s,Fs s c)/\(∀ s,¬ fY s c)/\(∀ k,k<(cs++xp++new).length->¬ (if k<cs.length then bR k else cS) c)/\¬ I c:=by
     intro s c ab aP
     refine ⟨⟨_,ab⟩,λe6 bj=>?_,λk hk ik=>?_,b1.aD _ c ab⟩
     ·obtain ⟨f1,_,f2,f3⟩:=k3 e6 c bj
      have:=b1.e8 _ _ _ f1 ab
      rcases aP with rfl | rfl
      ·exact f2 this
      ·exact f3 this
     ·by_cases dS:k<cs.length <;> simp [dS,cS] at ik
      have:=b1.e8 _ _ _ (oP c (e9 k c dS ik)) ab
      rcases aP with rfl | rfl
      ·exact bP this
      ·exact rf this
    obtain ⟨cq,ju,av,a2,a3⟩:=Take.node (g1:=c5 (c5 (c5 g ⟨t,[]⟩ .dead) ⟨t2,[]⟩ .dead) q .dead) (Fs:=Fs) (B:=λc=>(Value.slice a (pO+m2+m) cap).ownBlock=some c) (H0:=dD 0) (X:=.own z (pO+m2+m) cs') (v0:=.slice a (pO+m2+m) cap) iR iv
     (λc ab=>by
      by_cases pE:bv.ownBlock=some c
      ·by_cases E9:(Value.slice cy pO lG).ownBlock=some c
       ·have eH:cJ c:=(aQ c).2 (.inl E9)
        refine ⟨⟨_,oP c eH⟩,λs bj=>(k3 s c bj).2.1 eH,λk hk ik=>?_,b1.aD _ c (oP c eH)⟩
        by_cases dS:k<cs.length <;> simp [dS,cS] at ik
        exact aI k c dS ik E9
       ·exact Mf t2 c ((lJ.aQ c).2 ⟨pE,E9⟩) (.inr rfl)
      ·exact Mf t c ((gE.aQ c).2 ⟨ab,pE⟩) (.inl rfl))
     (λc ab=>by
      rcases ab with ⟨s,h⟩ | ⟨k,hk,h⟩
      ·exact .inl ⟨s,(k3 s c h).1⟩
      ·by_cases dS:k<cs.length <;> simp [dS,cS] at h
       exact .inl ⟨_,oP c (e9 k c dS h)⟩)
     hH.tail (R.tq hH) gl gf (λwo hE ic k2=>by
      refine .own gE.mb (by rw [t1.length]; simp [ao,lJ.ao,gE.ao]) (λk u hu=>?_) hE ic (λk c hk ab h=>k2 k c hk ab h) λc=>Iff.rfl
      rw [List.append_assoc] at hu
      by_cases dS:k<iC.length
      ·rw [List.getElem?_append_left dS] at hu; exact mY k u hu
      ·rw [List.getElem?_append_right (by omega)] at hu
       by_cases Fu:k - iC.length<GF.length
       ·rw [List.getElem?_append_left Fu] at hu; exact lJ.h1 _ u hu
       ·rw [List.getElem?_append_right (by omega)] at hu; exact gE.h1 _ u hu)
    exact ⟨cq,ju,av,a2,λc ab=>kW.head (a3 c ab)⟩
 | @obj g g1 g' p cs cs' xs xs' aF t1 _ gl gf =>
  intro Fs vs dD b1 hH
  cases vs with
  | nil=>have:=hH.len; simp at this
  | cons v vs =>
   obtain ⟨pd,cJ,gR,hI,dz,kx⟩:=b1.part aF (by simp)
   obtain ⟨u,ad,h1,al,rfl⟩:=(hH.rel 0 _ v rfl rfl).mN
   rw [h1] at gR
   cases gR
   obtain ⟨fY,iR,jK,iy⟩:=kx .dead cS (.dead λ_ h=>h) (λ_ h=>h.elim) (λ_ h=>h.elim) (λ_ _ _ h=>h.elim)
   have k3:∀ t c,fY t c->Fs t c/\¬ cJ c:=by
    intro t c ab
    by_cases aG:t=p.root
    ·subst aG
     rcases (jK c).1 ab with h | h
     ·exact h
     ·exact h.elim
    ·rw [iy t aG] at ab
     exact ⟨ab,λeH=>aG (b1.e8 _ _ _ ab (dz c eH))⟩
   cases hI with
   | ref J=>simp [ag.isRef] at J
   | @obj _ b e arr bR _ bf ao mY aw aV aI aQ =>
    simp only [addrOf,Option.some.injEq] at al
    subst al
    have e9:∀ k c,k<cs.length->bR k c->cJ c:=λk c hk ab=>(aQ c).2 (.inr ⟨k,hk,ab⟩)
    have iv:Hand w I (f_ w T) fY cs arr.toList bR :=
     ⟨by simp [ao],λk x u J hu=>aw k x u J (by simpa using hu),aV,λk t c hk ab bj=>(k3 t c bj).2 (e9 k c hk ab),λk c hk ab=>b1.aD _ c (dz c (e9 k c hk ab))⟩
    obtain ⟨cq,ju,av,a2,a3⟩:=Take.node (g1:=c5 g p .dead) (Fs:=Fs) (B:=λc=>c=b) (H0:=dD 0) (X:=.obj cs') (v0:=.pointer (some ⟨b,0,none⟩)) iR iv
     (λc ab=>by
      subst ab
      have eH:cJ c:=(aQ c).2 (.inl rfl)
      exact ⟨⟨_,dz c eH⟩,λt bj=>(k3 t c bj).2 eH,λk hk ik=>aI k hk ik,b1.aD _ c (dz c eH)⟩)
     (λc ab=>by
      rcases ab with ⟨t,h⟩ | ⟨k,hk,h⟩
      ·exact .inl ⟨t,(k3 t c h).1⟩
      ·exact .inl ⟨_,dz c (e9 k c hk h)⟩)
     hH.tail (R.tq hH) gl gf (λwo hE ic k2=>by
      refine .obj bf (by rw [t1.length,ao]) mY (λk x u J hu=>hE k x u J (by simpa using hu)) ic (λk hk h=>k2 k b hk h rfl) λc=>Iff.rfl)
    exact ⟨cq,ju,av,a2,λc ab=>kW.head (a3 c ab)⟩
 | @mp g g1 g' p q xs xs' aF t1 _ gl gf =>
  intro Fs vs dD b1 hH
  cases vs with
  | nil=>have:=hH.len; simp at this
  | cons v vs =>
   obtain ⟨pd,cJ,gR,hI,dz,kx⟩:=b1.part aF (by simp)
   have hm:=hH.rel 0 _ v rfl rfl
   cases hm with
   | ref _ hm _ =>
   obtain ⟨DP,h1,rfl⟩:=hm
   rw [h1] at gR
   cases gR
   obtain ⟨fY,iR,jK,iy⟩:=kx .dead cS (.dead λ_ h=>h) (λ_ h=>h.elim) (λ_ h=>h.elim) (λ_ _ _ h=>h.elim)
   have k3:∀ t c,fY t c->Fs t c/\¬ cJ c:=by
    intro t c ab
    by_cases aG:t=p.root
    ·subst aG
     rcases (jK c).1 ab with h | h
     ·exact h
     ·exact h.elim
    ·rw [iy t aG] at ab
     exact ⟨ab,λeH=>aG (b1.e8 _ _ _ ab (dz c eH))⟩
   cases hI with
   | ref J=>simp [ag.isRef] at J
   | @mp _ b es clock _ bf bP aQ =>
    have iv:Hand w I (f_ w T) fY [] [] (λ_=>cS) :=
     ⟨rfl,λk x u J=>by simp at J,λ_ _ _ _ _ h=>h.elim,λ_ _ _ _ h=>h.elim,λ_ _ _ h=>h.elim⟩
    obtain ⟨cq,ju,av,a2,a3⟩:=Take.node (g1:=c5 g p .dead) (Fs:=Fs) (B:=λc=>c=b) (H0:=dD 0) (X:=.mp q) (v0:=.map (some b)) iR iv
     (λc ab=>by
      subst ab
      have eH:cJ c:=(aQ c).2 rfl
      exact ⟨⟨_,dz c eH⟩,λt bj=>(k3 t c bj).2 eH,λk hk _=>by simp at hk,b1.aD _ c (dz c eH)⟩)
     (λc ab=>by
      rcases ab with ⟨t,h⟩ | ⟨k,hk,h⟩
      ·exact .inl ⟨t,(k3 t c h).1⟩
      ·exact h.elim)
     hH.tail (R.tq hH) gl gf (λwo hE ic k2=>by
      refine .mp bf bP λc=>⟨λh=>h.elim id λ⟨_,hk,_⟩=>by simp at hk,.inl⟩)
    exact ⟨cq,ju,av,a2,λc ab=>kW.head (a3 c ab)⟩
 | @agg g g1 g' cs cs' xs xs' t1 _ gl gf =>
  intro Fs vs dD b1 hH
  cases vs with
  | nil=>have:=hH.len; simp at this
  | cons v vs =>
   have J:=hH.rel 0 _ v rfl rfl
   have bc:=R.tq hH
   cases J with
   | ref J=>simp [ag.isRef] at J
   | @agg _ us bR _ ao mY aw aV aQ =>
    have e9:∀ k c,k<cs.length->bR k c->dD 0 c:=λk c hk ab=>(aQ c).2 ⟨k,hk,ab⟩
    obtain ⟨cq,ju,av,a2,a3⟩:=Take.node (g1:=g) (Fs:=Fs) (B:=cS) (H0:=dD 0) (X:=.agg cs') (v0:=.agg us) b1
     (⟨by simp [ao],λk x u J hu=>aw k x u J (by simpa using hu),aV,λk t c hk ab=>(bc c (e9 k c hk ab)).1 t,λk c hk ab=>hH.aD 0 c (by simp) (e9 k c hk ab)⟩:Hand w I (f_ w T) Fs cs us.toList bR)
     (λc ab=>ab.elim)
     (λc ab=>by
      rcases ab with h | ⟨k,hk,h⟩
      ·exact .inl h
      ·exact .inr (e9 k c hk h))
     hH.tail bc gl gf (λwo hE ic k2=>by
      refine .agg (by rw [t1.length,ao]) mY (λk x u J hu=>hE k x u J (by simpa using hu)) ic λc=>⟨λh=>h.elim (λh=>h.elim) id,.inr⟩)
    exact ⟨cq,ju,av,a2,λc ab=>kW.head (a3 c ab)⟩
 | @cw g g1 g' cs cs' xs xs' t1 _ gl gf =>
  intro Fs vs dD b1 hH
  cases vs with
  | nil=>have:=hH.len; simp at this
  | cons v vs =>
   have J:=hH.rel 0 _ v rfl rfl
   have bc:=R.tq hH
   cases J with
   | ref J=>simp [ag.isRef] at J
   | @cw _ us bR _ ao aw aV aQ =>
    have e9:∀ k c,k<cs.length->bR k c->dD 0 c:=λk c hk ab=>(aQ c).2 ⟨k,hk,ab⟩
    obtain ⟨cq,ju,av,a2,a3⟩:=Take.node (g1:=g) (Fs:=Fs) (B:=cS) (H0:=dD 0) (X:=.cw cs') (v0:=.tuple us) b1
     (⟨by simp [ao],λk x u J hu=>aw k x u J (by simpa using hu),aV,λk t c hk ab=>(bc c (e9 k c hk ab)).1 t,λk c hk ab=>hH.aD 0 c (by simp) (e9 k c hk ab)⟩:Hand w I (f_ w T) Fs cs us.toList bR)
     (λc ab=>ab.elim)
     (λc ab=>by
      rcases ab with h | ⟨k,hk,h⟩
      ·exact .inl h
      ·exact .inr (e9 k c hk h))
     hH.tail bc gl gf (λwo hE ic k2=>by
      refine .cw (by rw [t1.length,ao]) (λk x u J hu=>hE k x u J (by simpa using hu)) ic λc=>⟨λh=>h.elim (λh=>h.elim) id,.inr⟩)
    exact ⟨cq,ju,av,a2,λc ab=>kW.head (a3 c ab)⟩
end
end Go.Own
namespace Go.Own
open Go
inductive j7 (l0:ag->Prop):ag->Prop
 | bI {x:ag}(h:c' x):j7 l0 x
 | ref {x:ag}(J:x.isRef=true) (h:l0 x):j7 l0 x
 | own {z n:Nat}{cs:List ag}(h:∀ x∈cs,j7 l0 x):j7 l0 (.own z n cs)
 | obj {cs:List ag}(h:∀ x∈cs,j7 l0 x):j7 l0 (.obj cs)
 | agg {cs:List ag}(h:∀ x∈cs,j7 l0 x):j7 l0 (.agg cs)
 | cw {cs:List ag}(h:∀ x∈cs,j7 l0 x):j7 l0 (.cw cs)
 | ef {fn:Fn}{a b:List ag}(h1:∀ x∈a,j7 l0 x) (al:∀ x∈b,j7 l0 x):j7 l0 (.ef fn a b)
def xP:ag->Option Place
 | .ptr p _=>some p
 | .bm _ p _=>some p
 | .sub _ p _ _=>some p
 | .b2 _ p _ _ _=>some p
 | .iK p=>some p
 | _=>none
def Clear (p:Place) (k m:Nat) (r:ag):Prop:=∀ q,xP r=some q->q.root=p.root->∀ ae e5,q.path=p.path++ae::e5->ae<k\/k+m<=ae
def fB {α:Type}(l:List α) (k:Nat) (c:List α):List α:=l.take k++c++l.drop (k+c.length)
theorem pV {α:Type}{l:List α}{k:Nat}{c:List α}(h:k+c.length<=l.length):(fB l k c).length=l.length:=by
 simp [fB]; omega
theorem rz {α:Type}{l:List α}{k:Nat}{c:List α}(h:k+c.length<=l.length) (ae:Nat):(fB l k c)[ae]?=if k<=ae/\ae<k+c.length then c[ae - k]? else l[ae]?:=by
 unfold fB
 rw [List.append_assoc]
 by_cases h1:ae<k
 ·rw [List.getElem?_append_left (by simp; omega),List.getElem?_take,if_pos h1,if_neg (by omega)]
 ·rw [List.getElem?_append_right (by simp; omega)]
  have:(l.take k).length=k:=by simp; omega
  rw [this]
  by_cases al:ae<k+c.length
  ·rw [List.getElem?_append_left (by omega),if_pos ⟨by omega,al⟩]
  ·rw [List.getElem?_append_right (by omega),List.getElem?_drop,if_neg (by omega)]
   congr 1; omega
theorem T3 {α:Type}{l:List α}{k:Nat}{c:List α}{m:Nat}(h:k+c.length<=m) (hm:m<=l.length):(fB l k c).take m=fB (l.take m) k c:=by
 have h1:k+c.length<=(l.take m).length:=by rw [List.length_take]; omega
 apply List.ext_getElem?
 intro ae
 rw [List.getElem?_take,rz h1,rz (l:=l) (by omega),List.getElem?_take]
 by_cases aa:ae<m
 ·rw [if_pos aa,if_pos aa]
 ·rw [if_neg aa,if_neg aa,if_neg (by omega)]
def ag.fB (x:ag) (k:Nat) (c:List ag):ag :=
 match x with
 | .own z n cs=>.own z n (Own.fB cs k c)
 | .obj cs=>.obj (Own.fB cs k c)
 | x=>x
section
variable {w:World}{I:bt}{T:Array Value}{g:aU}{Fs:Nat->bt}
theorem R.AG {ρ:ag->Value->Prop}{l0:ag->Prop}{x:ag}{v:Value}{F:bt}(h:R w I ρ x v F):j7 l0 x->R w I (λr u=>ρ r u/\l0 r) x v F:=by
 induction h with
 | lit h aQ=>exact λ_=>.lit h aQ
 | aJ aQ=>exact λ_=>.aJ aQ
 | dead aQ=>exact λ_=>.dead aQ
 | @ref x _ _ J h aQ =>
  intro hk
  refine .ref J ⟨h,?_⟩ aQ
  cases hk with
  | ref _ h=>exact h
  | bI h=>cases h <;> simp [ag.isRef] at J
  | _=>simp [ag.isRef] at J
 | hM aQ=>exact λ_=>.hM aQ
 | mp bf aF aQ=>exact λ_=>.mp bf aF aQ
 | imp aQ bs bf aF=>exact λ_=>.imp aQ bs bf aF
 | aD aQ kM bs aP ao h1 ab aw aS =>
  intro hk
  cases hk with
  | ref J=>simp [ag.isRef] at J
  | bI h=>cases h with | aD h=>exact .aD aQ kM bs aP ao h1 ab λk x J=>aS k x J (.bI (h x (List.mem_of_getElem? J)))
 | bn aQ bs aP h1 ab aw aS =>
  intro hk
  cases hk with
  | ref J=>simp [ag.isRef] at J
  | bI h=>cases h with | bn h=>exact .bn aQ bs aP h1 ab λk x J=>aS k x J (.bI (h x (List.mem_of_getElem? J)))
 | own bf ao h1 aw aV aI aQ aS =>
  intro hk
  refine .own bf ao h1 (λk x u J hu=>aS k x u J hu ?_) aV aI aQ
  cases hk with
  | ref J=>simp [ag.isRef] at J
  | bI h=>cases h with | own h=>exact .bI (h x (List.mem_of_getElem? J))
  | own h=>exact h x (List.mem_of_getElem? J)
 | obj bf ao h1 aw aV aI aQ aS =>
  intro hk
  refine .obj bf ao h1 (λk x u J hu=>aS k x u J hu ?_) aV aI aQ
  cases hk with
  | ref J=>simp [ag.isRef] at J
  | bI h=>cases h with | obj h=>exact .bI (h x (List.mem_of_getElem? J))
  | obj h=>exact h x (List.mem_of_getElem? J)
 | agg ao h1 aw aV aQ aS =>
  intro hk
  refine .agg ao h1 (λk x u J hu=>aS k x u J hu ?_) aV aQ
  cases hk with
  | ref J=>simp [ag.isRef] at J
  | bI h=>cases h with | agg h=>exact .bI (h x (List.mem_of_getElem? J))
  | agg h=>exact h x (List.mem_of_getElem? J)
 | cw ao aw aV aQ aS =>
  intro hk
  refine .cw ao (λk x u J hu=>aS k x u J hu ?_) aV aQ
  cases hk with
  | ref J=>simp [ag.isRef] at J
  | bI h=>cases h with | cw h=>exact .bI (h x (List.mem_of_getElem? J))
  | cw h=>exact h x (List.mem_of_getElem? J)
 | @ef fn first caps v1 v2 F aQ h1 al jK iy gl gf =>
  intro hk
  have:(∀ x∈first,j7 l0 x)/\∀ x∈caps,j7 l0 x:=by
   cases hk with
   | ref J=>simp [ag.isRef] at J
   | bI h=>cases h with | ef h1 al=>exact ⟨λx J=>.bI (h1 x J),λx J=>.bI (al x J)⟩
   | ef h1 al=>exact ⟨h1,al⟩
  exact .ef aQ h1 al (λk x u J hu=>gl k x u J hu (this.1 x (List.mem_of_getElem? J))) (λk x u J hu=>gf k x u J hu (this.2 x (List.mem_of_getElem? J)))
theorem jy.store (b1:jy w I T g Fs) {p:Place}{nd:ag}{z n:Nat}{cs:List ag}(aF:b8 g p=some nd) (ga:nd=.own z n cs\/nd=.obj cs) {k:Nat}{cs':List ag}(hk:k+cs'.length<=cs.length)
  {iC:List Value}{dD:Nat->bt}(hH:Hand w I (f_ w T) Fs cs' iC dD) (l':∀ x∈cs',c' x) (gx:∀ (ae:Nat) (u:Value),iC[ae]?=some u->u.oneCell'=true)
  {g2:aU}(Cb:∀ t x,g2 t=some x->c5 g p (nd.fB k cs') t=some x)
  (zm:∀ t x,g2 t=some x->∀ y,g t=some y->j7 (λr=>hc g r/\Clear p k cs'.length r/\hc g2 r) y) (lN:∀ t z q n m new,g2 t≠some (.b2 z q n m new)) (me:g2 p.root≠none) {b:Nat}{v:Value}
  (hv:ep w T p=some v) (aI:addrOf v=some ⟨b,0,none⟩) {e:TypeId}{arr:Array Value}(k4:w.heap[b]?=some (.cells arr e (0,0))) :
  ∃ cq,cW (w.setRow b (fB arr.toList k iC).toArray) I T g2 cq/\∀ t c,cq t c->Fs t c\/∃ ae,ae<cs'.length/\dD ae c:=by
 have kR:∀ z q n m new,nd≠.b2 z q n m new:=by rcases ga with rfl | rfl <;> simp
 have hlen:=hH.len
 have qH:∀ c,c≠b->(w.setRow b (fB arr.toList k iC).toArray).heap[c]?=w.heap[c]?:=λc ab=>setRow_other w b c _ ab
 have Hy:(w.setRow b (fB arr.toList k iC).toArray).heap[b]?=some (.cells (fB arr.toList k iC).toArray e (0,0)):=setRow_heap w b arr _ e (0,0) k4
 have Wf:(w.setRow b (fB arr.toList k iC).toArray).heap.size=w.heap.size:=by simp
 generalize u6:w.setRow b (fB arr.toList k iC).toArray=w' at *
 -- the slot of the node
 obtain ⟨fv,kP⟩:∃ fv,g p.root=some fv:=by
  unfold b8 at aF
  cases J:g p.root with
  | none=>rw [J] at aF; cases aF
  | some x=>exact ⟨x,rfl⟩
 have qd:fv.at p.path=some nd:=by simpa [b8,kP] using aF
 obtain ⟨v0,jj,gE⟩:=b1.rel _ _ kP
 have EN:=gE.hT (by rintro z q n m new rfl; exact kR _ _ _ _ _ (ag.rQ qd).2)
 have w7:j7 (λr=>hc g r/\Clear p k cs'.length r/\hc g2 r) fv:=by
  cases al:g2 p.root with
  | none=>exact absurd al me
  | some y=>exact zm _ _ al _ kP
 let HP:ag->Value->Prop:=λr u=>f_ w T r u/\hc g r/\Clear p k cs'.length r/\hc g2 r
 have EO:R w I HP fv v0 (Fs p.root):=EN.AG w7
 obtain ⟨iu,cJ,hw,dQ,dz,fW,kx⟩:=R.focus p.path EO qd
 have Sa:iu=v:=by simp only [ep,jj,hw,Option.some.injEq] at hv; exact hv
 subst Sa
 have ny:cJ b:=dQ.CM (z:=z) (n:=n) ga aI
 have same:∀ t c,Fs t c->c≠b->w'.heap[c]?=w.heap[c]?:=λ_ c _ ab=>qH c ab
 have yW:∀ c,I c->w'.heap[c]?=w.heap[c]?:=λc ab=>qH c λe=>b1.aD _ b (dz b ny) (e ▸ ab)
 have KE:∀ t,t≠p.root->¬ Fs t b:=λt aG h=>aG (b1.e8 _ _ _ h (dz b ny))
 -- ways that are clear of the cells
 obtain ⟨UH,UI⟩:=fW w' λc ab aN=>qH c λe=>aN (e ▸ ny)
 have K':∀ (ρ':ag->Value->Prop),(∀ x v,HP x v->ρ' x v)->(∃ fU,R w' I ρ' (nd.fB k cs') iu fU/\∀ c,fU c->cJ c\/∃ ae,ae<cs'.length/\dD ae c)/\∀ ae e5 y,(ae<k\/k+cs'.length<=ae)->nd.at (ae::e5)=some y->walk w' iu (ae::e5)=walk w iu (ae::e5):=by
  intro ρ' k9
  have new:∀ (ae:Nat) (x:ag) (u:Value),cs'[ae]?=some x->iC[ae]?=some u->R w' I ρ' x u (dD ae):=by
   intro ae x u J hu
   have aa:ae<cs'.length:=(List.getElem?_eq_some_iff.1 J).1
   have:=(hH.rel ae x u J hu).bI (ρ':=ρ') (l' x (List.mem_of_getElem? J))
   exact this.frame yW (λ_ h=>h) (λ_ _ h=>h) λc ab=>qH c λe=>hH.off ae p.root b aa (e ▸ ab) (dz b ny)
  rcases ga with rfl | rfl
  ·cases dQ with
   | ref J=>simp [ag.isRef] at J
   | @own _ _ _ _ cQ us bR _ bf ao h1 aw aV jY aQ =>
    obtain ⟨mf,b9⟩:=bf
    rcases b9 with ⟨rfl,_⟩ | ⟨iI,cap,cur,rfl,sy,gm,tU,rr,tV,sz⟩
    ·simp [addrOf] at aI
    ·simp only [addrOf,Option.some.injEq,Addr.mk.injEq,and_true] at aI
     subst aI
     rw [k4] at gm
     cases gm
     have Kb:n * z<=arr.toList.length:=by
      rw [<- mf,<- sz,List.length_take] ; simp; omega
     have VY:us.length=cs.length:=ao.symm
     have ma:w'.ownsRow 0 e z (.slice (some ⟨iI,0,none⟩) n cap) n (fB us k iC):=by
      refine ⟨by rw [pV (by omega),mf],.inr ⟨iI,cap,_,rfl,sy,Hy,tU,rr,?_,?_⟩⟩
      ·rw [List.size_toArray,pV (by omega),Array.length_toList,tV]
      ·show (fB arr.toList k iC).take (n * z)=_
       rw [T3 (by omega) Kb,sz]
     have JT:∀ ae,ae<cs.length->¬ bR ae iI:=λae aa h=>jY ae iI aa h rfl
     have e9:∀ ae c,ae<cs.length->bR ae c->Fs p.root c:=λae c aa ab=>dz c ((aQ c).2 (.inr ⟨ae,aa,ab⟩))
     refine ⟨⟨_,.own (Fs:=λae=>if k<=ae/\ae<k+cs'.length then dD (ae - k) else bR ae) ma (by rw [pV hk,pV (by omega),ao]) (λae u hu=>?_) (λae x u J hu=>?_) (λi ae c hi aa ab fq=>?_) (λae c aa ab tG=>?_) (λc=>Iff.rfl),λc ab=>?_⟩,λae e5 y aa ay=>?_⟩
     ·rw [rz (by omega)] at hu
      split at hu
      ·exact gx _ u hu
      ·exact h1 ae u hu
     ·rw [rz hk] at J
      rw [rz (by omega),<- hlen] at hu
      by_cases eM:k<=ae/\ae<k+cs'.length
      ·rw [if_pos eM] at J hu
       simpa [eM] using new (ae - k) x u J hu
      ·rw [if_neg eM] at J hu
       have fg:ae<cs.length:=(List.getElem?_eq_some_iff.1 J).1
       rw [if_neg eM]
       exact (aw ae x u J hu).frame yW (λ_ h=>h) k9 λc ab=>qH c λe=>JT ae fg (e ▸ ab)
     ·rw [pV hk] at hi aa
      by_cases h1:k<=i/\i<k+cs'.length <;> by_cases al:k<=ae/\ae<k+cs'.length <;> simp only [h1,al,if_false] at ab fq
      ·have:=hH.e8 (i - k) (ae - k) c (by omega) (by omega) (by simpa using ab) (by simpa using fq)
       omega
      ·exact absurd (e9 ae c aa fq) (hH.off (i - k) _ c (by omega) (by simpa using ab))
      ·exact absurd (e9 i c hi ab) (hH.off (ae - k) _ c (by omega) (by simpa using fq))
      ·exact aV i ae c hi aa ab fq
     ·rw [pV hk] at aa
      by_cases h1:k<=ae/\ae<k+cs'.length
      ·rw [if_pos h1] at ab
       simp only [Value.ownBlock,Option.some.injEq] at tG
       subst tG
       exact hH.off (ae - k) p.root iI (by omega) ab (dz iI ny)
      ·rw [if_neg h1] at ab; exact jY ae c aa ab tG
     ·rcases ab with ab | ⟨ae,aa,ab⟩
      ·exact .inl ((aQ c).2 (.inl ab))
      ·rw [pV hk] at aa
       by_cases h1:k<=ae/\ae<k+cs'.length
       ·rw [if_pos h1] at ab; exact .inr ⟨ae - k,by omega,ab⟩
       ·rw [if_neg h1] at ab; exact .inl ((aQ c).2 (.inr ⟨ae,aa,ab⟩))
     ·obtain ⟨c,nA,ab⟩:=ag.s4 ay
      simp only [ag.kids] at nA
      have fg:ae<cs.length:=(List.getElem?_eq_some_iff.1 nA).1
      have hu:us[ae]?=some us[ae]:=List.getElem?_eq_getElem (by omega)
      have lM:child w (.slice (some ⟨iI,0,none⟩) n cap) ae=some us[ae]:=by
       refine nH (e:=e) (z:=z) (n:=n) (us:=us) ⟨mf,.inr ⟨iI,cap,arr,rfl,sy,k4,tU,rr,tV,sz⟩⟩ hu
      have y6:child w' (.slice (some ⟨iI,0,none⟩) n cap) ae=some us[ae]:=by
       refine nH ma ?_
       rw [rz (by omega),if_neg (by omega)]; exact hu
      have:=R.ov (w':=w') e5 (aw ae c _ nA hu) ab λc ab=>qH c λe=>JT ae fg (e ▸ ab)
      simp [walk,lM,y6,this]
  ·cases dQ with
   | ref J=>simp [ag.isRef] at J
   | @obj _ iI cQ jd bR _ bf ao h1 aw aV jY aQ =>
    simp only [addrOf,Option.some.injEq,Addr.mk.injEq,and_true] at aI
    subst aI
    rw [k4] at bf
    cases bf
    have r9:cs.length=arr.toList.length:=by simp [ao]
    have e9:∀ ae c,ae<cs.length->bR ae c->Fs p.root c:=λae c aa ab=>dz c ((aQ c).2 (.inr ⟨ae,aa,ab⟩))
    refine ⟨⟨_,.obj (Fs:=λae=>if k<=ae/\ae<k+cs'.length then dD (ae - k) else bR ae) Hy (by rw [pV hk,List.size_toArray,pV (by omega),r9]) (λae u hu=>?_) (λae x u J hu=>?_) (λi ae c hi aa ab fq=>?_) (λae aa ab=>?_) (λc=>Iff.rfl),λc ab=>?_⟩,λae e5 y aa ay=>?_⟩
    ·rw [List.getElem?_toArray,rz (by omega)] at hu
     split at hu
     ·exact gx _ u hu
     ·exact h1 ae u (by simpa using hu)
    ·rw [rz hk] at J
     rw [List.getElem?_toArray,rz (by omega),<- hlen] at hu
     by_cases eM:k<=ae/\ae<k+cs'.length
     ·rw [if_pos eM] at J hu
      simpa [eM] using new (ae - k) x u J hu
     ·rw [if_neg eM] at J hu
      have fg:ae<cs.length:=(List.getElem?_eq_some_iff.1 J).1
      rw [if_neg eM]
      exact (aw ae x u J (by simpa using hu)).frame yW (λ_ h=>h) k9 λc ab=>qH c λe=>jY ae fg (e ▸ ab)
    ·rw [pV hk] at hi aa
     by_cases h1:k<=i/\i<k+cs'.length <;> by_cases al:k<=ae/\ae<k+cs'.length <;> simp only [h1,al,if_false] at ab fq
     ·have:=hH.e8 (i - k) (ae - k) c (by omega) (by omega) (by simpa using ab) (by simpa using fq)
      omega
     ·exact absurd (e9 ae c aa fq) (hH.off (i - k) _ c (by omega) (by simpa using ab))
     ·exact absurd (e9 i c hi ab) (hH.off (ae - k) _ c (by omega) (by simpa using fq))
     ·exact aV i ae c hi aa ab fq
    ·rw [pV hk] at aa
     by_cases h1:k<=ae/\ae<k+cs'.length
     ·rw [if_pos h1] at ab
      exact hH.off (ae - k) p.root iI (by omega) ab (dz iI ny)
     ·rw [if_neg h1] at ab; exact jY ae aa ab
    ·rcases ab with ab | ⟨ae,aa,ab⟩
     ·exact .inl ((aQ c).2 (.inl ab))
     ·rw [pV hk] at aa
      by_cases h1:k<=ae/\ae<k+cs'.length
      ·rw [if_pos h1] at ab; exact .inr ⟨ae - k,by omega,ab⟩
      ·rw [if_neg h1] at ab; exact .inl ((aQ c).2 (.inr ⟨ae,aa,ab⟩))
    ·obtain ⟨c,nA,ab⟩:=ag.s4 ay
     simp only [ag.kids] at nA
     have fg:ae<cs.length:=(List.getElem?_eq_some_iff.1 nA).1
     have hu:arr[ae]?=some arr[ae]:=Array.getElem?_eq_getElem (by omega)
     have lM:child w (.pointer (some ⟨iI,0,none⟩)) ae=some arr[ae]:=by simp [child,World.cell?,k4,hu]
     have y6:child w' (.pointer (some ⟨iI,0,none⟩)) ae=some arr[ae]:=by
      have aR:(fB arr.toList k iC)[ae]?=some arr[ae]:=by
       rw [rz (by omega),if_neg (by omega)]; simp
      simp [child,World.cell?,Hy,aR]
     have:=R.ov (w':=w') e5 (aw ae c _ nA hu) ab λc ab=>qH c λe=>jY ae fg (e ▸ ab)
     simp [walk,lM,y6,this]
 have val:∀ q y,b8 g q=some y->(q.root=p.root->∀ ae e5,q.path=p.path++ae::e5->ae<k\/k+cs'.length<=ae)->ep w' T q=ep w T q:=by
  intro q y bP hK
  by_cases aw:q.root=p.root
  ·have fS:fv.at q.path=some y:=by simpa [b8,aw,kP] using bP
   rcases UI q.path y fS with ⟨e5,eQ⟩ | h
   ·have u6:walk w' v0 q.path=walk w v0 q.path:=by
     rw [eQ,AT,AT,UH,hw]
     simp only [Option.bind_some]
     cases e5 with
     | nil=>rfl
     | cons ae e5 =>
      rw [eQ,ag.DO,qd] at fS
      exact (K' (λ_ _=>True) (λ_ _ _=>trivial)).2 ae e5 y (hK aw ae e5 eQ) fS
    simp [ep,aw,jj,u6]
   ·simp [ep,aw,jj,h]
  ·unfold b8 at bP
   cases J:g q.root with
   | none=>rw [J] at bP; cases bP
   | some x =>
    rw [J] at bP
    obtain ⟨u,hu,bh⟩:=b1.rel _ _ J
    cases bh with
    | tree bh =>
     have:=R.ov (w':=w') q.path bh bP λc ab=>qH c λe=>KE _ aw (e ▸ ab)
     simp [ep,hu,this]
    | b2 bh=>simp [ep,hu,(ag.rQ bP).1,walk]
 have slot:∀ {q:Place}{x:ag},q.path=[]->g q.root=some x->ep w' T q=ep w T q:=by
  intro q x bP J
  obtain ⟨u,hu,_⟩:=b1.rel _ _ J
  simp [ep,bP,walk]
 have refs:∀ r u,HP r u->ej w' T g2 r u:=by
  rintro r u ⟨h1,al,aR,b3⟩
  refine ⟨?_,b3⟩
  cases r <;> simp only [f_,hc] at h1 al ⊢
  case ptr q ae=>obtain ⟨y,ay,_⟩:=al; rw [val q y ay (aR q rfl)]; exact h1
  case bm cG q cT =>
   rcases al with ⟨_,_,al,_⟩ | ⟨bc,_,_,_,_,al,_⟩
   ·rw [val q _ al (aR q rfl)]; exact h1
   ·rw [slot bc al]; exact h1
  case sub cG q lo cT=>obtain ⟨_,_,al,_⟩:=al; rw [val q _ al (aR q rfl)]; exact h1
  case iK q=>obtain ⟨_,al⟩:=al; rw [val q _ al (aR q rfl)]; exact h1
  case b2 cG q cT b7 da =>
   rcases al with ⟨_,al⟩ | ⟨bc,_,_,_,_,_,al,_⟩
   ·rw [val q _ al (aR q rfl)]; exact h1
   ·rw [slot bc al]; exact h1
 obtain ⟨⟨Fn,Qy,JU⟩,_⟩:=K' (ej w' T g2) refs
 obtain ⟨fU,EP,n2⟩:=kx w' I (ej w' T g2) _ Fn ⟨yW,λc ab aN=>qH c λe=>aN (e ▸ ny),λ_ h=>h,refs⟩ Qy λc ab fq=>by
  rcases JU c ab with h | ⟨ae,aa,h⟩
  ·exact h
  ·exact absurd fq (hH.off ae _ c aa h)
 have ED:∀ c,fU c->Fs p.root c\/∃ ae,ae<cs'.length/\dD ae c:=by
  intro c ab
  rcases (n2 c).1 ab with h | h
  ·exact .inl h.1
  ·rcases JU c h with h | h
   ·exact .inl (dz c h)
   ·exact .inr h
 let cq:Nat->bt:=λt c=>if t=p.root then fU c else g2 t≠none/\Fs t c
 have r6:∀ t c,cq t c->Fs t c\/∃ ae,ae<cs'.length/\dD ae c:=by
  intro t c ab
  by_cases aG:t=p.root
  ·simp only [cq,if_pos aG] at ab; rw [aG]; exact ED c ab
  ·simp only [cq,if_neg aG] at ab; exact .inl ab.2
 refine ⟨cq,⟨λt x J=>?_,λt aG c ab=>?_,λt dh c ab fq=>?_,λt c ab hi=>?_,λc ab=>by have:=b1.lt c ab; omega,λt dh z q n m new cG cT b7 da h1=>absurd h1 (lN _ _ _ _ _ _)⟩,r6⟩
 ·have gk:=Cb t x J
  by_cases aG:t=p.root
  ·subst aG
   have F3:fv.setAt p.path (nd.fB k cs')=x:=by simpa [c5,kP] using gk
   refine ⟨v0,jj,.tree ?_⟩
   have EG:cq p.root=fU:=by funext c; simp [cq]
   rw [<- F3,EG]; exact EP
  ·rw [sE aG] at gk
   obtain ⟨u,hu,bh⟩:=b1.rel t x gk
   replace bh:=bh.hT (by rintro z q n m new rfl; exact lN _ _ _ _ _ _ J)
   have EG:cq t=Fs t:=by
    funext c
    exact propext ⟨λh=>by simp only [cq,if_neg aG] at h; exact h.2,λh=>by simp only [cq,if_neg aG]; exact ⟨by rw [J]; simp,h⟩⟩
   refine ⟨u,hu,.tree ?_⟩
   rw [EG]
   exact (bh.AG (zm t x J x gk)).frame yW (λ_ h=>h) refs λc ab=>qH c λe=>KE t aG (e ▸ ab)
 ·by_cases hZ:t=p.root
  ·exact me (hZ ▸ aG)
  ·simp only [cq,if_neg hZ] at ab; exact ab.1 aG
 ·by_cases h1:t=p.root <;> by_cases al:dh=p.root
  ·rw [h1,al]
  ·simp only [cq,if_pos h1] at ab; simp only [cq,if_neg al] at fq
   rcases ED c ab with h | ⟨ae,aa,h⟩
   ·exact absurd (b1.e8 _ _ _ h fq.2) (Ne.symm al)
   ·exact absurd fq.2 (hH.off ae _ c aa h)
  ·simp only [cq,if_neg h1] at ab; simp only [cq,if_pos al] at fq
   rcases ED c fq with h | ⟨ae,aa,h⟩
   ·exact absurd (b1.e8 _ _ _ ab.2 h) h1
   ·exact absurd ab.2 (hH.off ae _ c aa h)
  ·simp only [cq,if_neg h1] at ab; simp only [cq,if_neg al] at fq
   exact b1.e8 _ _ _ ab.2 fq.2
 ·rcases r6 t c ab with h | ⟨ae,aa,h⟩
  ·exact b1.aD _ c h hi
  ·exact hH.aD ae c aa h hi
end
end Go.Own
namespace Go.Own
open Go
section
variable {P:Program}{w:World}{I:bt}{T:Array Value}{g:aU}{Fs:Nat->bt}
theorem View.Mg (h:jy w I T g Fs) {x x':ag}(hv:View g x x'):∀ {v:Value}{F:bt},R w I (f_ w T) x v F->(∀ c,F c->∃ t,Fs t c)->∀ ρ',R w (λc=>I c\/∃ t,Fs t c) ρ' x' v cS:=by
 induction hv with
 | o3 =>
  intro v F bh aQ ρ'
  have:=bh.qv
  subst this
  exact .hM λ_ h=>h
 | mp =>
  intro v F bh aQ ρ'
  cases bh with
  | ref J=>simp [ag.isRef] at J
  | mp bf aF aI=>exact .imp (λ_ h=>h) (.inr (aQ _ ((aI _).2 rfl))) bf aF
 | iK aF =>
  intro v F bh aQ ρ'
  cases bh with
  | ref _ aw _ =>
   obtain ⟨b,aI,rfl⟩:=aw
   obtain ⟨hP,cJ,iU,dQ,dz,_⟩:=h.part aF (by simp)
   rw [aI] at iU
   cases iU
   cases dQ with
   | ref J=>simp [ag.isRef] at J
   | mp bf aF aI=>exact .imp (λ_ h=>h) (.inr ⟨_,dz _ ((aI _).2 rfl)⟩) bf aF
 | self aN h1 al aR b3 c3 =>
  intro v F bh aQ ρ'
  refine ((bh.bI aN).mQ λc ab=>.inl ab).empty ?_
  cases bh with
  | mp=>exact absurd rfl (c3 _)
  | lit _ aQ | aJ aQ | dead aQ | ref _ _ aQ | hM aQ | aD aQ | bn aQ | ef aQ | imp aQ=>exact aQ
  | own=>exact absurd rfl (h1 _ _ _)
  | obj=>exact absurd rfl (al _)
  | agg=>exact absurd rfl (aR _)
  | cw=>exact absurd rfl (b3 _)
 | @agg cs cs' ao _ aS =>
  intro v F bh aQ ρ'
  cases bh with
  | ref J=>simp [ag.isRef] at J
  | @agg _ vs bR _ hY h1 aw aV kL =>
   refine .agg (Fs:=λ_=>cS) (by rw [ao,hY]) h1 (λk y u ay hu=>?_) (λ_ _ _ _ _ h=>h.elim) (λc=>⟨λh=>h.elim,λ⟨_,_,h⟩=>h⟩)
   have hk:k<cs.length:=by rw [<- ao]; exact (List.getElem?_eq_some_iff.1 ay).1
   have J:=List.getElem?_eq_getElem hk
   exact aS k _ y J ay (aw k _ u J hu) (λc ab=>aQ c ((kL c).2 ⟨k,hk,ab⟩)) ρ'
 | @ef fn cs cs' ao _ aS =>
  intro v F bh aQ ρ'
  cases bh with
  | ref J=>simp [ag.isRef] at J
  | @ef _ _ _ v1 v2 _ w2 h1 al jK iy =>
   refine .ef (λ_ h=>h) h1 (by rw [ao,al]) (λk x u J=>by simp at J) (λk y u ay hu=>?_)
   have hk:k<cs.length:=by rw [<- ao]; exact (List.getElem?_eq_some_iff.1 ay).1
   have J:=List.getElem?_eq_getElem hk
   exact aS k _ y J ay (iy k _ u J hu) (λc ab=>ab.elim) ρ'
 | @own z n cs cs' ao _ aS =>
  intro v F bh aQ ρ'
  obtain ⟨a,cap,us,bR,rfl,aN,hlen,bg,ab⟩:=bh.xw
  cases a with
  | none =>
   have hx:cs=[]:=by
    cases cs with
    | nil=>rfl
    | cons c cs=>obtain ⟨b,aI,_⟩:=ab 0 c rfl; cases aI
   subst hx
   have k6:cs'=[]:=List.eq_nil_of_length_eq_zero (by simpa using ao)
   subst k6
   have oU:n=0:=by
    cases bh with
    | ref J=>simp [ag.isRef] at J
    | own bf =>
     obtain ⟨_,b9⟩:=bf
     rcases b9 with ⟨b9,bc⟩ | ⟨b,c2,cur,b9,_⟩
     ·exact bc
     ·cases b9
   subst oU
   exact .hM λ_ h=>h
  | some ad =>
   obtain ⟨b,rfl,qb⟩:=bg ad rfl
   refine .aD (us:=us) (λ_ h=>h) aN (.inr (aQ b qb)) rfl (by rw [ao,hlen]) (λk y ay=>?_) (λk y ay=>?_) λk y ay=>?_
   all_goals
    have hk:k<cs.length:=by rw [<- ao]; exact (List.getElem?_eq_some_iff.1 ay).1
    have J:=List.getElem?_eq_getElem hk
    obtain ⟨iI,ko,h1,al,aR,b3⟩:=ab k _ J
    cases ko
   ·exact al
   ·simpa using h1
   ·exact aS k _ y J ay aR (λc ab=>aQ c (b3 c ab)) ρ'
 | @obj cs cs' ao _ aS =>
  intro v F bh aQ ρ'
  cases bh with
  | ref J=>simp [ag.isRef] at J
  | @obj _ b e arr bR _ bf hY h1 aw aV aI kL =>
   refine .bn (us:=λk=>arr.getD k undef) (λ_ h=>h) (.inr (aQ b ((kL b).2 (.inl rfl)))) rfl (λk y ay=>?_) (λk y ay=>?_) λk y ay=>?_
   all_goals
    have hk:k<cs.length:=by rw [<- ao]; exact (List.getElem?_eq_some_iff.1 ay).1
    have J:=List.getElem?_eq_getElem hk
    have hu:arr[k]?=some arr[k]:=Array.getElem?_eq_getElem (hY ▸ hk)
   ·simpa [hu] using h1 k _ hu
   ·simp [World.cell?,bf,hu]
   ·simpa [hu] using aS k _ y J ay (aw k _ _ J hu) (λc ab=>aQ c ((kL c).2 (.inr ⟨k,hk,ab⟩))) ρ'
 | @bm z n N p cs cs' aF aN ao _ aS =>
  intro v F bh aQ ρ'
  obtain ⟨a,iO,cap,h1,rfl,aR⟩:=bh.mj
  obtain ⟨pd,pg,gR,hI,lI,_⟩:=h.part aF (by simp)
  rw [h1] at gR
  cases gR
  obtain ⟨a2,p8,us,bR,jZ,kM,hlen,bg,ab⟩:=hI.xw
  cases jZ
  have hle:n * z<=N * z:=Nat.mul_le_mul_right _ aN
  have cell:∀ k,k<cs'.length->∃ x b,(cs.take (n * z))[k]?=some x/\a=some ⟨b,0,none⟩/\w.cell? ⟨b,k,none⟩=some (us k)/\(us k).oneCell'=true/\R w I (f_ w T) x (us k) (bR k)/\∀ c,bR k c->pg c:=by
   intro k hk
   rw [ao,List.length_take] at hk
   have J:cs[k]?=some cs[k]:=List.getElem?_eq_getElem (by omega)
   obtain ⟨b,r⟩:=ab k _ J
   exact ⟨_,b,by rw [List.getElem?_take,if_pos (by omega)]; exact J,r⟩
  cases a with
  | none =>
   have k6:cs'=[]:=by
    cases cs' with
    | nil=>rfl
    | cons c l=>obtain ⟨_,b,_,aI,_⟩:=cell 0 (by simp); cases aI
   subst k6
   obtain ⟨_,_,jZ,_,_,_,rh⟩:=hI.mq
   cases jZ
   have oU:n=0:=by
    rcases Nat.eq_zero_or_pos n with bc | bc
    ·exact bc
    ·have:=rh (by omega); simp at this
   subst oU
   exact .hM λ_ h=>h
  | some ad =>
   obtain ⟨b,rfl,qb⟩:=bg ad rfl
   refine .aD (us:=us) (λ_ h=>h) (by omega) (.inr ⟨_,lI b qb⟩) rfl (by rw [ao,List.length_take,hlen]; omega) (λk y ay=>?_) (λk y ay=>?_) λk y ay=>?_
   all_goals
    obtain ⟨x,iI,J,ko,b3,c3,eg,kn⟩:=cell k (List.getElem?_eq_some_iff.1 ay).1
    cases ko
   ·exact c3
   ·simpa using b3
   ·exact aS k x y J ay eg (λc ab=>⟨_,lI c (kn c ab)⟩) ρ'
 | @sub z lo n N p cs cs' aF aN ao _ aS =>
  intro v F bh aQ ρ'
  obtain ⟨a,iO,cap,cy,lG,h1,rfl,FE,aR,c3⟩:=bh.vh
  obtain ⟨pd,pg,gR,hI,lI,_⟩:=h.part aF (by simp)
  rw [h1] at gR
  cases gR
  obtain ⟨a2,p8,us,bR,jZ,kM,hlen,bg,ab⟩:=hI.xw
  cases jZ
  have hle:lo * z+n * z<=N * z:=by rw [<- Nat.add_mul]; exact Nat.mul_le_mul_right _ aN
  have hY:cs'.length=n * z:=by rw [ao,List.length_take,List.length_drop,hlen]; omega
  have cell:∀ k,k<cs'.length->∃ x b,((cs.drop (lo * z)).take (n * z))[k]?=some x/\a=some ⟨b,0,none⟩/\w.cell? ⟨b,lo * z+k,none⟩=some (us (lo * z+k))/\(us (lo * z+k)).oneCell'=true/\R w I (f_ w T) x (us (lo * z+k)) (bR (lo * z+k))/\∀ c,bR (lo * z+k) c->pg c:=by
   intro k hk
   have J:cs[lo * z+k]?=some cs[lo * z+k]:=List.getElem?_eq_getElem (by omega)
   obtain ⟨b,r⟩:=ab _ _ J
   exact ⟨_,b,by rw [List.getElem?_take,if_pos (by omega),List.getElem?_drop]; exact J,r⟩
  by_cases oU:n=0
  ·subst oU
   have k6:cs'=[]:=List.eq_nil_of_length_eq_zero (by simpa using hY)
   subst k6
   exact .hM λ_ h=>h
  ·obtain ⟨ad,rfl,rfl⟩:=c3 (by omega)
   obtain ⟨b,rfl,qb⟩:=bg ad rfl
   refine .aD (us:=λk=>us (lo * z+k)) (λ_ h=>h) FE (.inr ⟨_,lI b qb⟩) rfl hY (λk y ay=>?_) (λk y ay=>?_) λk y ay=>?_
   all_goals
    obtain ⟨x,iI,J,ko,b3,EC,eg,kn⟩:=cell k (List.getElem?_eq_some_iff.1 ay).1
    cases ko
   ·exact EC
   ·simpa using b3
   ·exact aS k x y J ay eg (λc ab=>⟨_,lI c (kn c ab)⟩) ρ'
 | @rows z n p cs cs' aF ao _ aS =>
  intro v F bh aQ ρ'
  obtain ⟨a,iO,cap,h1,rfl,aR⟩:=bh.mj
  obtain ⟨v0,e,us,jj,bf,hlen,mY,aI,aw⟩:=Rows.sound (w:=w) (I:=I) (T:=T) (Fs:=Fs) (λt z q n m new aG=>h.rel t _ aG) (λp z n cs aF=>by obtain ⟨v,cJ,h1,al,aR,_⟩:=h.part aF (by simp); exact ⟨v,cJ,h1,al,aR⟩) (λz p n v hv=>by obtain ⟨a,cap,h1,rfl⟩:=hv; exact h1) aF
  rw [h1] at jj
  cases jj
  refine LO bf hlen mY aI ao λk x y u J ay hu=>?_
  obtain ⟨bR,jW,e9⟩:=aw k x u J hu
  exact aS k x y J ay jW e9 ρ'
 | @ptr p k z n y cs cs' aF ay hk ao _ aS =>
  intro v F bh aQ ρ'
  obtain ⟨u,ad,h1,al,rfl⟩:=bh.mN
  obtain ⟨pd,pg,gR,hI,lI,_⟩:=h.part aF (by rcases ay with rfl | rfl <;> simp)
  rw [h1] at gR
  cases gR
  have cell:∀ ae,ae<cs'.length->∃ gA ke uk,w.cell? ⟨ad.block,k+ae,none⟩=some gA/\gA.oneCell'=true/\(cs.drop k)[ae]?=some ke/\R w I (f_ w T) ke gA uk/\(∀ c,uk c->∃ t,Fs t c):=by
   intro ae aa
   rw [ao,List.length_drop] at aa
   have gk:cs[k+ae]?=some cs[k+ae]:=List.getElem?_eq_getElem (by omega)
   obtain ⟨b,gA,fR,ll,lM,gx,_⟩:=hI.node ay gk
   rw [al] at fR
   cases fR
   have fS:b8 g (p.push (k+ae))=some cs[k+ae]:=by rw [rP,aF]; rcases ay with rfl | rfl <;> simp [ag.kids]
   by_cases hS:∃ cG gV cT b7 da,cs[k+ae]=.b2 cG gV cT b7 da
   ·obtain ⟨cG,gV,cT,b7,da,hS⟩:=hS
    obtain ⟨b,Uz,_,_,y6,_,bR,jW⟩:=hI.node ay gk
    rw [hS] at jW
    exact jW.kR.elim
   ·obtain ⟨nO,Dx,qn,ER,kL,_⟩:=h.part fS (λcG gV cT b7 da e=>hS ⟨_,_,_,_,_,e⟩)
    rw [vY,h1] at qn
    simp only [Option.bind_some] at qn
    rw [lM] at qn
    cases qn
    exact ⟨gA,_,Dx,ll,gx,by rw [List.getElem?_drop]; exact gk,ER,λc ab=>⟨_,kL c ab⟩⟩
  obtain ⟨b,gA,fR,_⟩:=hI.node ay (List.getElem?_eq_getElem hk)
  rw [al] at fR
  cases fR
  have hblk:∃ t,Fs t b:=⟨_,lI b (hI.CM ay al)⟩
  refine .bn (us:=λae=>(w.cell? ⟨b,k+ae,none⟩).getD undef) (λ_ h=>h) (.inr hblk) rfl (λae jF mM=>?_) (λae jF mM=>?_) λae jF mM=>?_
  all_goals
   obtain ⟨gA,ke,uk,c1,c2,l4,c4,kk⟩:=cell ae (List.getElem?_eq_some_iff.1 mM).1
  ·simpa [c1] using c2
  ·simp [c1]
  ·simpa [c1] using aS ae ke jF l4 mM c4 kk ρ'
end
end Go.Own
namespace Go.Own
open Go
def o8 (g:aU):List (Place × ag)->aU
 | []=>g
 | (p,x)::l=>o8 (c5 g p x) l
structure MT (g g2:aU) (all:List ag) (outs:List (Option ag)) (k:Nat) (p:Place) (x:ag):Prop where
 out:outs[k]?=some (some x)
 Ir:b8 g2 p=some .dead
 arg:(∃ z n cs,all[k]?=some (.bm z p n)/\b8 g p=some (.own z n cs))\/(∃ cs,all[k]?=some (.ptr p 0)/\b8 g p=some (.obj cs))
section
variable {P:Program}{w:World}{I:bt}{T:Array Value}{g:aU}{Fs:Nat->bt}
theorem Nn (h:cW w I T g Fs) {z n:Nat}{p:Place}{cs:List ag}{v:Value}{F:bt}(bh:R w I (ej w T g) (.bm z p n) v F) (aF:b8 g p=some (.own z n cs)):ep w T p=some v:=by
 obtain ⟨⟨a,iO,cap,h1,rfl,aR⟩,_⟩:=bh.mj
 obtain ⟨pd,pg,gR,hI,lI⟩:=h.part aF (by simp)
 rw [h1] at gR
 cases gR
 obtain ⟨a2,p8,jZ,_⟩:=hI.mq
 cases jZ
 exact h1
theorem Nl (h:cW w I T g Fs) {p:Place}{cs:List ag}{v:Value}{F:bt}(bh:R w I (ej w T g) (.ptr p 0) v F) (aF:b8 g p=some (.obj cs)):ep w T p=some v:=by
 obtain ⟨⟨u,ad,h1,al,rfl⟩,_⟩:=bh.mN
 obtain ⟨pd,pg,gR,hI,lI⟩:=h.part aF (by simp)
 rw [h1] at gR
 cases gR
 cases hI with
 | ref J=>simp [ag.isRef] at J
 | obj=>simp only [addrOf,Option.some.injEq] at al; subst al; exact h1
theorem TV {g:aU}{p q:Place}{y:ag}(bP:b8 g q=some .dead) (aF:b8 g p=some .dead) (ez:p≠q):b8 (c5 g p y) q=some .dead:=by
 by_cases aw:q.root=p.root
 ·obtain ⟨r,pp⟩:=p
  obtain ⟨e5,rq⟩:=q
  simp only at aw
  subst aw
  have Ck:pp≠rq:=λe=>ez (by rw [e])
  simp only [b8,c5,if_true] at *
  cases J:g e5 with
  | none=>rw [J] at aF; cases aF
  | some x =>
   rw [J] at aF bP
   simp only [Option.map_some]
   have:∀ (pp rq:List Nat) (x:ag),pp≠rq->x.at pp=some .dead->x.at rq=some .dead->(x.setAt pp y).at rq=some .dead:=by
    intro pp
    induction pp with
    | nil =>
     intro rq x ez h1 al
     simp only [ag.at,Option.some.injEq] at h1
     subst h1
     cases rq with
     | nil=>exact absurd rfl ez
     | cons k q=>simp [ag.at,ag.kids] at al
    | cons k pp aS =>
     intro rq x ez h1 al
     cases rq with
     | nil =>
      simp only [ag.at,Option.some.injEq] at al
      subst al
      simp [ag.at,ag.kids] at h1
     | cons ae q =>
      simp only [ag.at] at h1 al
      cases hk:x.kids[k]? with
      | none=>rw [hk] at h1; cases h1
      | some c =>
       rw [hk] at h1
       simp only at h1
       have tC:x.setAt (k::pp) y=x.ua k (c.setAt pp y):=by simp only [ag.setAt,hk]
       rw [tC]
       have dS:k<x.kids.length:=(List.getElem?_eq_some_iff.1 hk).1
       have Ft:(x.ua k (c.setAt pp y)).kids=x.kids.set k (c.setAt pp y):=by
        cases x <;> simp [ag.ua,ag.kids] at dS ⊢
       simp only [ag.at,Ft]
       by_cases eM:ae=k
       ·subst eM
        rw [List.getElem?_set_self dS]
        rw [hk] at al
        exact aS q c (λe=>ez (by rw [e])) h1 al
       ·rw [List.getElem?_set_ne (Ne.symm eM)]
        exact al
   exact this pp rq x Ck aF bP
 ·rw [C' aw]; exact bP
theorem jy.o8:∀ (l:List (Place × ag)) (dD:Nat->bt) (vs:Nat->Value) {g:aU}{Fs:Nat->bt},jy w I T g Fs->(l.map (·.1)).Nodup->(∀ (ae:Nat) (p:Place) (x:ag),l[ae]?=some (p,x)->b8 g p=some .dead/\ep w T p=some (vs ae)/\R w I (f_ w T) x (vs ae) (dD ae)) ->
  (∀ (ae t c:Nat),ae<l.length->dD ae c->¬ Fs t c)->(∀ (ae c:Nat),ae<l.length->dD ae c->¬ I c)->(∀ (i ae c:Nat),i<l.length->ae<l.length->dD i c->dD ae c->i=ae) ->
  ∃ cq,jy w I T (o8 g l) cq/\∀ t c,cq t c->Fs t c\/∃ ae,ae<l.length/\dD ae c
 | [],_,_,g,Fs,b1,_,_,_,_,_=>⟨Fs,b1,λ_ _ h=>.inl h⟩
 | (p,x)::l,dD,vs,g,Fs,b1,ga,ao,pH,Ko,l8=>by
  obtain ⟨h1,al,aR⟩:=ao 0 p x rfl
  obtain ⟨v,cJ,hv,dQ,dz,put⟩:=b1.part h1 (by simp)
  rw [al] at hv
  cases hv
  obtain ⟨fY,iR,yS,yT⟩:=put x (dD 0) aR (λc ab bj=>absurd bj (pH 0 _ c (by simp) ab)) (λc ab=>Ko 0 c (by simp) ab) (λt c _ ab=>pH 0 t c (by simp) ab)
  have gJ:∀ t c,fY t c->Fs t c\/dD 0 c:=by
   intro t c ab
   by_cases aG:t=p.root
   ·subst aG
    rcases (yS c).1 ab with ⟨h,_⟩ | h
    ·exact .inl h
    ·exact .inr h
   ·rw [yT t aG] at ab; exact .inl ab
  simp only [List.map_cons,List.nodup_cons] at ga
  obtain ⟨iN,h5,B4⟩:=jy.o8 l (λae=>dD (ae+1)) (λae=>vs (ae+1)) iR ga.2 (λae q y aa=>by
    obtain ⟨av,a2,a3⟩:=ao (ae+1) q y (by simpa using aa)
    refine ⟨TV av h1 ?_,a2,a3⟩
    rintro rfl
    exact ga.1 (List.mem_map.2 ⟨(p,y),List.mem_of_getElem? aa,rfl⟩))
   (λae t c aa ab bj=>by
    rcases gJ t c bj with h | h
    ·exact pH (ae+1) t c (by simpa using aa) ab h
    ·have:=l8 (ae+1) 0 c (by simpa using aa) (by simp) ab h; omega)
   (λae c aa ab=>Ko (ae+1) c (by simpa using aa) ab)
   (λi ae c hi aa h1 al=>by have:=l8 (i+1) (ae+1) c (by simpa using hi) (by simpa using aa) h1 al; omega)
  refine ⟨iN,h5,λt c ab=>?_⟩
  rcases B4 t c ab with h | ⟨ae,aa,h⟩
  ·rcases gJ t c h with h | h
   ·exact .inl h
   ·exact .inr ⟨0,by simp,h⟩
  ·exact .inr ⟨ae+1,by simpa using aa,h⟩
end
end Go.Own
namespace Go.Own
open Go
inductive jt:ag->ag->Prop
 | refl {x:ag}:jt x x
 | GG {z:Nat}:jt .aJ (.own z 0 [])
 | qu {x y:ag}(aN:c' x) (h:View (λ_=>none) x y):jt x y
 | own {z n:Nat}{cs cs':List ag}(ao:cs'.length=cs.length) (h:∀ (k:Nat) (x y:ag),cs[k]?=some x->cs'[k]?=some y->jt x y):jt (.own z n cs) (.own z n cs')
 | obj {cs cs':List ag}(ao:cs'.length=cs.length) (h:∀ (k:Nat) (x y:ag),cs[k]?=some x->cs'[k]?=some y->jt x y):jt (.obj cs) (.obj cs')
 | agg {cs cs':List ag}(ao:cs'.length=cs.length) (h:∀ (k:Nat) (x y:ag),cs[k]?=some x->cs'[k]?=some y->jt x y):jt (.agg cs) (.agg cs')
theorem View.up {g g':aU}(h:∀ t x,g t=some x->g' t=some x) {x y:ag}(hv:View g x y):View g' x y:=by
 induction hv with
 | o3=>exact .o3
 | self h1 al aR b3 c3 eg=>exact .self h1 al aR b3 c3 eg
 | mp=>exact .mp
 | iK aF=>exact .iK (kj h aF)
 | agg ao _ aS=>exact .agg ao aS
 | own ao _ aS=>exact .own ao aS
 | obj ao _ aS=>exact .obj ao aS
 | ef ao _ aS=>exact .ef ao aS
 | bm aF aN ao _ aS=>exact .bm (kj h aF) aN ao aS
 | sub aF aN ao _ aS=>exact .sub (kj h aF) aN ao aS
 | ptr aF ay hk ao _ aS=>exact .ptr (kj h aF) ay hk ao aS
 | rows aF ao _ aS=>exact .rows (aF.mono (λaF=>kj h aF) h) ao aS
theorem vu {cs cs':List ag}(ao:cs'.length=cs.length) (aN:∀ x∈cs,c' x) (aS:∀ (k:Nat) (x y:ag),cs[k]?=some x->cs'[k]?=some y->c' x->c' y):∀ y∈cs',c' y:=by
 intro y ay
 obtain ⟨k,hk⟩:=List.getElem?_of_mem ay
 have dS:=(List.getElem?_eq_some_iff.1 hk).1
 have J:=List.getElem?_eq_getElem (ao ▸ dS:k<cs.length)
 exact aS k _ y J hk (aN _ (List.mem_of_getElem? J))
section
variable {w:World}{I:bt}
theorem R.qu {ρ:ag->Value->Prop}{x y:ag}{v:Value}{F:bt}(bh:R w I ρ x v F) (aN:c' x) (h:View (λ_=>none) x y) (bs:∀ c,F c->¬ I c) (bd:∀ c,I c->c<w.heap.size):R w (λc=>I c\/F c) ρ y v cS:=by
 have b1:jy w I #[v] (λt=>if t=0 then some x else none) (λt c=>t=0/\F c):=by
  refine ⟨λt z bG=>?_,λt aG c ab=>?_,λt dh c ab fq=>ab.1.trans fq.1.symm,λt c ab=>bs c ab.2,bd⟩
  ·by_cases bc:t=0
   ·subst bc
    rw [if_pos rfl] at bG
    cases bG
    exact ⟨v,rfl,.tree ((bh.bI aN).wP λc=>⟨λh=>⟨rfl,h⟩,λh=>h.2⟩)⟩
   ·rw [if_neg bc] at bG; cases bG
  ·rw [if_pos ab.1] at aG; cases aG
 have:=View.Mg b1 (h.up λ_ _ h=>by cases h) (bh.bI aN) (λc ab=>⟨0,rfl,ab⟩) ρ
 exact this.mQ λc ab=>by
  rcases ab with h | ⟨t,_,h⟩
  ·exact .inl h
  ·exact .inr h
theorem jt.bI {x y:ag}(h:jt x y):c' x->c' y:=by
 induction h with
 | refl=>exact id
 | GG=>exact λ_=>.own (by simp)
 | qu aN h =>
  intro _
  have key:∀ {x y:ag},View (λ_=>none) x y->c' x->c' y:=by
   intro x y h
   induction h with
   | o3=>exact λ_=>.aD (by simp)
   | self h=>exact λ_=>h
   | mp=>exact λ_=>.imp
   | iK aF=>simp [b8] at aF
   | agg ao _ aS=>intro aN; cases aN with | agg aN=>exact .agg (vu ao aN aS)
   | own ao _ aS=>intro aN; cases aN with | own aN=>exact .aD (vu ao aN aS)
   | obj ao _ aS=>intro aN; cases aN with | obj aN=>exact .bn (vu ao aN aS)
   | ef ao _ aS=>intro aN; cases aN with | ef h1 al=>exact .ef h1 (vu ao al aS)
   | bm aF=>simp [b8] at aF
   | sub aF=>simp [b8] at aF
   | ptr aF=>simp [b8] at aF
   | rows aF =>
    cases aF with
    | own aF=>simp [b8] at aF
    | b2 aG=>cases aG
  exact key h aN
 | own ao _ aS=>intro aN; cases aN with | own aN=>exact .own (vu ao aN aS)
 | obj ao _ aS=>intro aN; cases aN with | obj aN=>exact .obj (vu ao aN aS)
 | agg ao _ aS=>intro aN; cases aN with | agg aN=>exact .agg (vu ao aN aS)
theorem Ey {ρ:ag->Value->Prop}{cs cs':List ag}{get:Nat->Option Value}{Fs:Nat->bt}{F B:bt}(ao:cs'.length=cs.length)
  (a7:∀ k,k<cs.length->∃ u,get k=some u)
  (aV:∀ (ae k c:Nat),ae<cs.length->k<cs.length->Fs ae c->Fs k c->ae=k) (aI:∀ k c,k<cs.length->Fs k c->¬ B c) (aQ:∀ c,F c↔B c\/∃ k,k<cs.length/\Fs k c)
  (aS:∀ (k:Nat) (x y:ag),cs[k]?=some x->cs'[k]?=some y->∀ u,get k=some u->∃ fU,(∀ c,fU c->Fs k c)/\R w (λc=>I c\/(Fs k c/\¬ fU c)) ρ y u fU) :
  ∃ qO:Nat->bt,(∀ k c,k<cs'.length->qO k c->Fs k c)/\(∀ (k:Nat) (y:ag) (u:Value),cs'[k]?=some y->get k=some u->R w (λc=>I c\/(F c/\¬ (B c\/∃ ae,ae<cs'.length/\qO ae c))) ρ y u (qO k)):=by
 have:∀ k,∃ G:bt,k<cs.length->(∀ c,G c->Fs k c)/\∀ (y:ag) (u:Value),cs'[k]?=some y->get k=some u->R w (λc=>I c\/(Fs k c/\¬ G c)) ρ y u G:=by
  intro k
  by_cases hk:k<cs.length
  ·have J:=List.getElem?_eq_getElem hk
   have ay:=List.getElem?_eq_getElem (ao ▸ hk:k<cs'.length)
   obtain ⟨u,hu⟩:=a7 k hk
   obtain ⟨G,h1,al⟩:=aS k _ _ J ay u hu
   refine ⟨G,λ_=>⟨h1,λy sM mi fG=>?_⟩⟩
   rw [ay] at mi; cases mi
   rw [hu] at fG; cases fG
   exact al
  ·exact ⟨cS,λh=>absurd h hk⟩
 obtain ⟨qO,EK⟩:=Classical.axiomOfChoice this
 refine ⟨qO,λk c hk=>(EK k (ao ▸ hk)).1 c,λk y u ay hu=>?_⟩
 have hk:k<cs'.length:=(List.getElem?_eq_some_iff.1 ay).1
 have ik:k<cs.length:=ao ▸ hk
 refine ((EK k ik).2 y u ay hu).mQ λc ab=>?_
 rcases ab with h | ⟨h1,al⟩
 ·exact .inl h
 ·refine .inr ⟨(aQ c).2 (.inr ⟨k,ik,h1⟩),?_⟩
  rintro (h | ⟨ae,aa,h⟩)
  ·exact aI k c ik h1 h
  ·have rb:ae<cs.length:=ao ▸ aa
   have:=aV ae k c rb ik ((EK ae rb).1 c h) h1
   subst this
   exact al h
theorem R.fE {ρ:ag->Value->Prop}{x y:ag}(h:jt x y):∀ {v:Value}{F:bt},R w I ρ x v F->c' x->(∀ c,F c->¬ I c)->(∀ c,I c->c<w.heap.size)->∃ fU,(∀ c,fU c->F c)/\R w (λc=>I c\/(F c/\¬ fU c)) ρ y v fU:=by
 induction h with
 | refl=>exact λbh _ _ _=>⟨_,λ_ h=>h,bh.mQ λ_ h=>.inl h⟩
 | GG =>
  intro v F bh _ _ _
  have:=bh.qv
  subst this
  refine ⟨cS,λ_ h=>h.elim,.own (e:=0) (us:=[]) (Fs:=λ_=>cS) ⟨by simp,.inl ⟨rfl,rfl⟩⟩ rfl (by simp) (by simp) (λ_ _ _ _ _ h=>h.elim) (λ_ _ _ h=>h.elim) λc=>⟨λh=>h.elim,λh=>?_⟩⟩
  rcases h with h | ⟨_,_,h⟩
  ·cases h
  ·exact h
 | qu aN h=>exact λbh _ bs bd=>⟨cS,λ_ h=>h.elim,(bh.qu aN h bs bd).mQ λc ab=>ab.elim .inl λh=>.inr ⟨h,λh=>h⟩⟩
 | @own z n cs cs' ao _ aS =>
  intro v F bh aN bs bd
  cases bh with
  | ref J=>simp [ag.isRef] at J
  | @own _ _ _ _ e us Fs _ bf hY h1 aw aV aI aQ =>
   cases aN with
   | own aN =>
    obtain ⟨qO,oQ,yU⟩:=Ey (get:=λk=>us[k]?) (B:=λc=>v.ownBlock=some c) ao (λk hk=>⟨_,List.getElem?_eq_getElem (hY ▸ hk)⟩) aV (λk c hk ab e=>aI k c hk ab e) aQ (λk x y J ay u hu=>aS k x y J ay (aw k x u J hu) (aN x (List.mem_of_getElem? J)) (λc ab=>bs c ((aQ c).2 (.inr ⟨k,(List.getElem?_eq_some_iff.1 J).1,ab⟩))) bd)
    exact ⟨_,λc ab=>(aQ c).2 (ab.imp id λ⟨k,hk,h⟩=>⟨k,ao ▸ hk,oQ k c hk h⟩),
     .own bf (by rw [ao,hY]) h1 (λk y u ay hu=>yU k y u ay hu) (λae k c aa hk al aR=>aV ae k c (ao ▸ aa) (ao ▸ hk) (oQ ae c aa al) (oQ k c hk aR)) (λk c hk ab=>aI k c (ao ▸ hk) (oQ k c hk ab)) (λc=>Iff.rfl)⟩
 | @obj cs cs' ao _ aS =>
  intro v F bh aN bs bd
  cases bh with
  | ref J=>simp [ag.isRef] at J
  | @obj _ b e arr Fs _ bf hY h1 aw aV aI aQ =>
   cases aN with
   | obj aN =>
    obtain ⟨qO,oQ,yU⟩:=Ey (get:=λk=>arr[k]?) (B:=λc=>c=b) ao (λk hk=>⟨_,Array.getElem?_eq_getElem (hY ▸ hk)⟩) aV (λk c hk ab e=>aI k hk (e ▸ ab)) aQ (λk x y J ay u hu=>aS k x y J ay (aw k x u J hu) (aN x (List.mem_of_getElem? J)) (λc ab=>bs c ((aQ c).2 (.inr ⟨k,(List.getElem?_eq_some_iff.1 J).1,ab⟩))) bd)
    exact ⟨_,λc ab=>(aQ c).2 (ab.imp id λ⟨k,hk,h⟩=>⟨k,ao ▸ hk,oQ k c hk h⟩),
     .obj bf (by rw [ao,hY]) h1 (λk y u ay hu=>yU k y u ay hu) (λae k c aa hk al aR=>aV ae k c (ao ▸ aa) (ao ▸ hk) (oQ ae c aa al) (oQ k c hk aR)) (λk hk ab=>aI k (ao ▸ hk) (oQ k b hk ab)) (λc=>Iff.rfl)⟩
 | @agg cs cs' ao _ aS =>
  intro v F bh aN bs bd
  cases bh with
  | ref J=>simp [ag.isRef] at J
  | @agg _ vs Fs _ hY h1 aw aV aQ =>
   cases aN with
   | agg aN =>
    obtain ⟨qO,oQ,yU⟩:=Ey (get:=λk=>vs[k]?) (B:=λ_=>False) ao (λk hk=>⟨_,Array.getElem?_eq_getElem (hY ▸ hk)⟩) aV (λk c hk ab e=>e) (λc=>(aQ c).trans ⟨.inr,λh=>h.elim (λh=>h.elim) id⟩) (λk x y J ay u hu=>aS k x y J ay (aw k x u J hu) (aN x (List.mem_of_getElem? J)) (λc ab=>bs c ((aQ c).2 ⟨k,(List.getElem?_eq_some_iff.1 J).1,ab⟩)) bd)
    refine ⟨λc=>∃ k,k<cs'.length/\qO k c,λc ⟨k,hk,h⟩=>(aQ c).2 ⟨k,ao ▸ hk,oQ k c hk h⟩,
     .agg (Fs:=qO) (by rw [ao,hY]) h1 (λk y u ay hu=>(yU k y u ay hu).mQ λc ab=>ab.imp id λ⟨h1,al⟩=>⟨h1,λh=>al (.inr h)⟩) (λae k c aa hk al aR=>aV ae k c (ao ▸ aa) (ao ▸ hk) (oQ ae c aa al) (oQ k c hk aR)) (λc=>Iff.rfl)⟩
end
end Go.Own
