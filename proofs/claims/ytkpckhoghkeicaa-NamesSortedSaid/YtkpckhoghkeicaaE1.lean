/- Parts of the proof that the last text states. -/
import Derived.Orders
import Derived.WalkKit
namespace Go.Own
open Go
structure Place where
 root:Nat
 path:List Nat
 deriving DecidableEq,Repr
def Place.push (p:Place) (k:Nat):Place:=⟨p.root,p.path++[k]⟩
inductive AV where
 | lit (v:Value)
 | nils
 | imm (z n:Nat) (cs:List AV)
 | own (z n:Nat) (cs:List AV)
 | obj (cs:List AV)
 | agg (cs:List AV)
 | tup (cs:List AV)
 | iptr (cs:List AV)
 | ptr (p:Place) (k:Nat)
 | brw (z:Nat) (p:Place) (n:Nat)
 | sub (z:Nat) (p:Place) (lo n:Nat)
 | pend (z:Nat) (p:Place) (n m:Nat) (new:List AV)
 | clo (fn:Fn) (first caps:List AV)
 | mp (p:Array MapEntry->Nat->Prop)
 | mref (p:Place)
 | imp (p:Array MapEntry->Nat->Prop)
 | dead
 | self (k:Nat × Nat)
 | brow (t:Nat) (us:List Value)
 deriving Inhabited
def NoSelf (cs:List AV):Prop:=∀ (k:Nat) (j:Nat × Nat),cs[k]?≠some (.self j)
def OkA (x:AV):Prop:=∀ cs,x=.agg cs->NoSelf cs
abbrev BSet:=Nat->Prop
def AV.isRef:AV->Bool
 | .ptr .. | .brw .. | .sub .. | .mref ..=>true
 | _=>false
inductive R (w:World) (I:BSet) (ρ:AV->Value->Prop):AV->Value->BSet->Prop
 | lit {v:Value}{F:BSet}(hv:v.oneCell'=true) (hF:∀ c,¬ F c):R w I ρ (.lit v) v F
 | nils {F:BSet}(hF:∀ c,¬ F c):R w I ρ .nils (.slice none 0 0) F
 | dead {v:Value}{F:BSet}(hF:∀ c,¬ F c):R w I ρ .dead v F
 | brow {t:Nat}{us:List Value}{v:Value}{F:BSet}(ho:w.ownsRow 0 t 1 v us.length us) (h1:v.oneCell'=true) (hF:∀ c,F c↔v.ownBlock=some c):R w I ρ (.brow t us) v F
 | slf {k:Nat × Nat}{v:Value}{F:BSet}(hF:∀ c,¬ F c):R w I ρ (.self k) v F
 | ref {x:AV}{v:Value}{F:BSet}(hx:x.isRef=true) (h:ρ x v) (hF:∀ c,¬ F c):R w I ρ x v F
 | imm0 {z cap:Nat}{a:Option Addr}{F:BSet}(hF:∀ c,¬ F c):R w I ρ (.imm z 0 []) (.slice a 0 cap) F
 | imm {z n cap:Nat}{cs:List AV}{ad:Addr}{us:Nat->Value}{F:BSet}(hF:∀ c,¬ F c) (hcap:n<=cap) (hI:I ad.block) (hs:ad.spot=none) (hl:cs.length=n * z) (h1:∀ (k:Nat) (x:AV),cs[k]?=some x->(us k).oneCell'=true)
   (hc:∀ (k:Nat) (x:AV),cs[k]?=some x->w.cell? ⟨ad.block,ad.off+k,none⟩=some (us k)) (hr:∀ (k:Nat) (x:AV),cs[k]?=some x->R w I ρ x (us k) (fun _=>False)) :
   R w I ρ (.imm z n cs) (.slice (some ad) n cap) F
 | iptr {cs:List AV}{ad:Addr}{us:Nat->Value}{F:BSet}(hF:∀ c,¬ F c) (hI:I ad.block) (hs:ad.spot=none) (h1:∀ (k:Nat) (x:AV),cs[k]?=some x->(us k).oneCell'=true)
   (hc:∀ (k:Nat) (x:AV),cs[k]?=some x->w.cell? ⟨ad.block,ad.off+k,none⟩=some (us k)) (hr:∀ (k:Nat) (x:AV),cs[k]?=some x->R w I ρ x (us k) (fun _=>False)) :
   R w I ρ (.iptr cs) (.pointer (some ad)) F
 | own {z n:Nat}{cs:List AV}{v:Value}{e:TypeId}{us:List Value}{Fs:Nat->BSet}{F:BSet}
   (ho:w.ownsRow 0 e z v n us) (hl:cs.length=us.length) (h1:∀ (k:Nat) (u:Value),us[k]?=some u->u.oneCell'=true)
   (hr:∀ (k:Nat) (x:AV) (u:Value),cs[k]?=some x->us[k]?=some u->R w I ρ x u (Fs k))
   (hd:∀ (j k c:Nat),j<cs.length->k<cs.length->Fs j c->Fs k c->j=k) (hb:∀ (k c:Nat),k<cs.length->Fs k c->v.ownBlock≠some c)
   (hF:∀ c,F c↔v.ownBlock=some c\/∃ k,k<cs.length/\Fs k c):R w I ρ (.own z n cs) v F
 | obj {cs:List AV}{b:Nat}{e:TypeId}{arr:Array Value}{Fs:Nat->BSet}{F:BSet}
   (ho:w.heap[b]?=some (.cells arr e (0,0))) (hl:cs.length=arr.size) (h1:∀ (k:Nat) (u:Value),arr[k]?=some u->u.oneCell'=true)
   (hr:∀ (k:Nat) (x:AV) (u:Value),cs[k]?=some x->arr[k]?=some u->R w I ρ x u (Fs k))
   (hd:∀ (j k c:Nat),j<cs.length->k<cs.length->Fs j c->Fs k c->j=k) (hb:∀ (k:Nat),k<cs.length->¬ Fs k b)
   (hF:∀ c,F c↔c=b\/∃ k,k<cs.length/\Fs k c) (hs:∀ (k:Nat) (j:Nat × Nat) (u:Value),cs[k]?=some (.self j)->arr[k]?=some u->(u=.pointer none/\e=j.2)\/u=.pointer (some ⟨b,j.1,none⟩)):R w I ρ (.obj cs) (.pointer (some ⟨b,0,none⟩)) F
 | agg {cs:List AV}{vs:Array Value}{Fs:Nat->BSet}{F:BSet}(hl:cs.length=vs.size) (h1:∀ (k:Nat) (u:Value),vs[k]?=some u->u.oneCell'=true)
   (hr:∀ (k:Nat) (x:AV) (u:Value),cs[k]?=some x->vs[k]?=some u->R w I ρ x u (Fs k))
   (hd:∀ (j k c:Nat),j<cs.length->k<cs.length->Fs j c->Fs k c->j=k)
   (hF:∀ c,F c↔∃ k,k<cs.length/\Fs k c):R w I ρ (.agg cs) (.agg vs) F
 | tup {cs:List AV}{vs:Array Value}{Fs:Nat->BSet}{F:BSet}(hl:cs.length=vs.size)
   (hr:∀ (k:Nat) (x:AV) (u:Value),cs[k]?=some x->vs[k]?=some u->R w I ρ x u (Fs k))
   (hd:∀ (j k c:Nat),j<cs.length->k<cs.length->Fs j c->Fs k c->j=k)
   (hF:∀ c,F c↔∃ k,k<cs.length/\Fs k c):R w I ρ (.tup cs) (.tuple vs) F
 | clo {fn:Fn}{first caps:List AV}{v1 v2:Array Value}{F:BSet}(hF:∀ c,¬ F c) (h1:first.length=v1.size) (h2:caps.length=v2.size)
   (hr1:∀ (k:Nat) (x:AV) (u:Value),first[k]?=some x->v1[k]?=some u->R w I ρ x u (fun _=>False))
   (hr2:∀ (k:Nat) (x:AV) (u:Value),caps[k]?=some x->v2[k]?=some u->R w I ρ x u (fun _=>False)):R w I ρ (.clo fn first caps) (.func fn v1 v2) F
 | mp {p:Array MapEntry->Nat->Prop}{b:Nat}{es:Array MapEntry}{clock:Nat}{F:BSet}(ho:w.heap[b]?=some (.map es clock)) (hp:p es clock) (hF:∀ c,F c↔c=b):R w I ρ (.mp p) (.map (some b)) F
 | imp {p:Array MapEntry->Nat->Prop}{b:Nat}{es:Array MapEntry}{clock:Nat}{F:BSet}(hF:∀ c,¬ F c) (hI:I b) (ho:w.heap[b]?=some (.map es clock)) (hp:p es clock):R w I ρ (.imp p) (.map (some b)) F
theorem R.congrF {w:World}{I:BSet}{ρ:AV->Value->Prop}{x:AV}{v:Value}{F F':BSet}(h:R w I ρ x v F) (hF:∀ c,F c↔F' c):R w I ρ x v F':=by
 have:F=F':=funext fun c=>propext (hF c)
 exact this ▸ h
theorem R.lt {w:World}{I:BSet}{ρ:AV->Value->Prop}{x:AV}{v:Value}{F:BSet}(h:R w I ρ x v F):∀ c,F c->c<w.heap.size:=by
 induction h with
 | lit _ hF | nils hF | dead hF | slf hF | ref _ _ hF | imm0 hF | imm hF | iptr hF | clo hF | imp hF=>exact fun c hc=>absurd hc (hF c)
 | brow ho _ hF=>exact fun c hc=>(ho.lt c ((hF c).1 hc)).2
 | mp ho _ hF=>exact fun c hc=>by rw [(hF c).1 hc]; exact (Array.getElem?_eq_some_iff.1 ho).1
 | own ho hl h1 hr hd hb hF ih =>
  intro c hc
  rcases (hF c).1 hc with h | ⟨k,hk,h⟩
  ·exact (ho.lt c h).2
  ·exact ih k _ _ (List.getElem?_eq_getElem hk) (List.getElem?_eq_getElem (hl ▸ hk)) c h
 | obj ho hl h1 hr hd hb hF hs ih =>
  intro c hc
  rcases (hF c).1 hc with rfl | ⟨k,hk,h⟩
  ·exact (Array.getElem?_eq_some_iff.1 ho).1
  ·exact ih k _ _ (List.getElem?_eq_getElem hk) (Array.getElem?_eq_getElem (hl ▸ hk)) c h
 | agg hl h1 hr hd hF ih =>
  intro c hc
  obtain ⟨k,hk,h⟩:=(hF c).1 hc
  exact ih k _ _ (List.getElem?_eq_getElem hk) (Array.getElem?_eq_getElem (hl ▸ hk)) c h
 | tup hl hr hd hF ih =>
  intro c hc
  obtain ⟨k,hk,h⟩:=(hF c).1 hc
  exact ih k _ _ (List.getElem?_eq_getElem hk) (Array.getElem?_eq_getElem (hl ▸ hk)) c h
theorem ownsRow_of_block {w w':World}{e:TypeId}{z n:Nat}{v:Value}{us:List Value}(h:w.ownsRow 0 e z v n us) (hb:∀ c,v.ownBlock=some c->w'.heap[c]?=w.heap[c]?):w'.ownsRow 0 e z v n us:=by
 obtain ⟨h1,h2⟩:=h
 refine ⟨h1,?_⟩
 rcases h2 with h2 | ⟨g,cap,cur,rfl,hg,hh,rest⟩
 ·exact .inl h2
 ·exact .inr ⟨g,cap,cur,rfl,hg,by rw [hb g rfl]; exact hh,rest⟩
theorem R.frame {w w':World}{I I':BSet}{ρ ρ':AV->Value->Prop}{x:AV}{v:Value}{F:BSet}(h:R w I ρ x v F)
  (hI:∀ c,I c->w'.heap[c]?=w.heap[c]?) (hII:∀ c,I c->I' c) (hρ:∀ x v,ρ x v->ρ' x v) :
  (∀ c,F c->w'.heap[c]?=w.heap[c]?)->R w' I' ρ' x v F:=by
 induction h with
 | lit hv hF=>exact fun _=>.lit hv hF
 | nils hF=>exact fun _=>.nils hF
 | dead hF=>exact fun _=>.dead hF
 | slf hF=>exact fun _=>.slf hF
 | ref hx h hF=>exact fun _=>.ref hx (hρ _ _ h) hF
 | imm0 hF=>exact fun _=>.imm0 hF
 | imm hF hcap hi hs hl h1 hc hr ih =>
  exact fun _=>.imm hF hcap (hII _ hi) hs hl h1 (fun k x hk=>(World.cell?_of_block (a:=⟨_,_,none⟩) (hI _ hi)).trans (hc k x hk)) fun k x hk=>ih k x hk (fun c hc=>hc.elim)
 | iptr hF hi hs h1 hc hr ih =>
  exact fun _=>.iptr hF (hII _ hi) hs h1 (fun k x hk=>(World.cell?_of_block (a:=⟨_,_,none⟩) (hI _ hi)).trans (hc k x hk)) fun k x hk=>ih k x hk (fun c hc=>hc.elim)
 | own ho hl h1 hr hd hb hF ih =>
  intro hf
  refine .own (ownsRow_of_block ho fun c hc=>hf c ((hF c).2 (.inl hc))) hl h1 (fun k x u hx hu=>ih k x u hx hu fun c hc=>hf c ((hF c).2 (.inr ⟨k,?_,hc⟩))) hd hb hF
  exact (List.getElem?_eq_some_iff.1 hx).1
 | obj ho hl h1 hr hd hb hF hs ih =>
  intro hf
  refine .obj ((hf _ ((hF _).2 (.inl rfl))).trans ho) hl h1 (fun k x u hx hu=>ih k x u hx hu fun c hc=>hf c ((hF c).2 (.inr ⟨k,?_,hc⟩))) hd hb hF hs
  exact (List.getElem?_eq_some_iff.1 hx).1
 | agg hl h1 hr hd hF ih =>
  intro hf
  refine .agg hl h1 (fun k x u hx hu=>ih k x u hx hu fun c hc=>hf c ((hF c).2 ⟨k,?_,hc⟩)) hd hF
  exact (List.getElem?_eq_some_iff.1 hx).1
 | tup hl hr hd hF ih =>
  intro hf
  refine .tup hl (fun k x u hx hu=>ih k x u hx hu fun c hc=>hf c ((hF c).2 ⟨k,?_,hc⟩)) hd hF
  exact (List.getElem?_eq_some_iff.1 hx).1
 | imp hF hi ho hp=>exact fun _=>.imp hF (hII _ hi) ((hI _ hi).trans ho) hp
 | brow ho h1 hF=>exact fun hf=>.brow (ownsRow_of_block ho fun c hc=>hf c ((hF c).2 hc)) h1 hF
 | mp ho hp hF=>exact fun hf=>.mp ((hf _ ((hF _).2 rfl)).trans ho) hp hF
 | clo hF h1 h2 hr1 hr2 ih1 ih2=>exact fun _=>.clo hF h1 h2 (fun k x u hx hu=>ih1 k x u hx hu fun c hc=>hc.elim) (fun k x u hx hu=>ih2 k x u hx hu fun c hc=>hc.elim)
def AV.kids:AV->List AV
 | .own _ _ cs=>cs
 | .obj cs=>cs
 | .agg cs=>cs
 | .tup cs=>cs
 | _=>[]
def AV.setKid (x:AV) (k:Nat) (y:AV):AV :=
 match x with
 | .own z n cs=>.own z n (cs.set k y)
 | .obj cs=>.obj (cs.set k y)
 | .agg cs=>.agg (cs.set k y)
 | .tup cs=>.tup (cs.set k y)
 | x=>x
def AV.at:AV->List Nat->Option AV
 | x,[]=>some x
 | x,k::p =>
  match x.kids[k]? with
  | some c=>c.at p
  | none=>none
def AV.setAt:AV->List Nat->AV->AV
 | _,[],y=>y
 | x,k::p,y =>
  match x.kids[k]? with
  | some c=>x.setKid k (c.setAt p y)
  | none=>x
theorem AV.setAt_ns {x y z:AV}{k:Nat}{j:Nat × Nat}{p:List Nat}(h:x.at (k::p)=some y):x.setAt (k::p) z≠.self j:=by
 intro e
 simp only [AV.at,AV.setAt] at h e
 cases hk:x.kids[k]? with
 | none=>rw [hk] at h; cases h
 | some c =>
  rw [hk] at e
  cases x <;> simp [AV.setKid,AV.kids] at e hk
def child (w:World) (v:Value) (k:Nat):Option Value :=
 match v with
 | .agg cs=>cs[k]?
 | .tuple cs=>cs[k]?
 | .slice (some a) _ _=>w.cell? ⟨a.block,a.off+k,none⟩
 | .pointer (some a)=>w.cell? ⟨a.block,a.off+k,none⟩
 | _=>none
def walk (w:World):Value->List Nat->Option Value
 | v,[]=>some v
 | v,k::p =>
  match child w v k with
  | some u=>walk w u p
  | none=>none
theorem ownsRow_child {w:World}{e:TypeId}{z n:Nat}{v:Value}{us:List Value}(h:w.ownsRow 0 e z v n us) {k:Nat}{u:Value}(hu:us[k]?=some u):child w v k=some u:=by
 obtain ⟨h1,h2⟩:=h
 rcases h2 with ⟨rfl,rfl⟩ | ⟨g,cap,cur,rfl,hg,hh,hn,hc,hs,ht⟩
 ·simp at h1; subst h1; simp at hu
 ·rw [<- ht] at hu
  rw [List.getElem?_take] at hu
  split at hu
  ·simpa [child,World.cell?,hh] using hu
  ·cases hu
theorem set_getElem? {α:Type}{l:List α}{k j:Nat}{y x:α}(h:(l.set k y)[j]?=some x):(j=k/\x=y/\k<l.length)\/(j≠k/\l[j]?=some x):=by
 by_cases hjk:j=k
 ·subst hjk
  by_cases hlt:j<l.length
  ·rw [List.getElem?_set_self hlt] at h; exact .inl ⟨rfl,(Option.some.inj h).symm,hlt⟩
  ·rw [List.set_eq_of_length_le (by omega)] at h; rw [List.getElem?_eq_none (by omega)] at h; cases h
 ·rw [List.getElem?_set_ne (Ne.symm hjk)] at h; exact .inr ⟨hjk,h⟩
structure Out (w w':World) (I I':BSet) (ρ ρ':AV->Value->Prop) (F Fy:BSet):Prop where
 imm:∀ c,I c->w'.heap[c]?=w.heap[c]?
 rest:∀ c,F c->¬ Fy c->w'.heap[c]?=w.heap[c]?
 more:∀ c,I c->I' c
 ref:∀ x v,ρ x v->ρ' x v
theorem Out.mono {w w':World}{I I':BSet}{ρ ρ':AV->Value->Prop}{F Fy F' Fy':BSet}(h:Out w w' I I' ρ ρ' F Fy) (h1:∀ c,F' c->F c) (h2:∀ c,F' c->¬ Fy' c->¬ Fy c):Out w w' I I' ρ ρ' F' Fy' :=
 ⟨h.imm,fun c hc hn=>h.rest c (h1 c hc) (h2 c hc hn),h.more,h.ref⟩
theorem R.outside {w w':World}{I I':BSet}{ρ ρ':AV->Value->Prop}{F Fy:BSet}(o:Out w w' I I' ρ ρ' F Fy) {x:AV}{v:Value}{G:BSet}(h:R w I ρ x v G) (hG:∀ c,G c->F c/\¬ Fy c):R w' I' ρ' x v G :=
 h.frame o.imm o.more o.ref fun c hc=>o.rest c (hG c hc).1 (hG c hc).2
theorem kids_set {w w':World}{I I':BSet}{ρ ρ':AV->Value->Prop}{cs:List AV}{get:Nat->Option Value}{Fs:Nat->BSet}{F Fy:BSet}
  (hr:∀ (k:Nat) (x:AV) (u:Value),cs[k]?=some x->get k=some u->R w I ρ x u (Fs k))
  (hd:∀ (j k c:Nat),j<cs.length->k<cs.length->Fs j c->Fs k c->j=k)
  (hF:∀ k c,k<cs.length->Fs k c->F c) {k:Nat}(hk:k<cs.length) (hy:∀ c,Fy c->Fs k c) (o:Out w w' I I' ρ ρ' F Fy)
  {y:AV}{u:Value}{Fk:BSet}(hu:get k=some u) (hR:R w' I' ρ' y u Fk) (hFk:∀ c,Fk c↔(Fs k c/\¬ Fy c)\/(Fk c/\¬ (F c/\¬ Fy c))) :
  (∀ (j:Nat) (x:AV) (u:Value),(cs.set k y)[j]?=some x->get j=some u->R w' I' ρ' x u (if j=k then Fk else Fs j)) /\
  (∀ (i j c:Nat),i<(cs.set k y).length->j<(cs.set k y).length->(if i=k then Fk else Fs i) c->(if j=k then Fk else Fs j) c->i=j):=by
 constructor
 ·intro j x u' hx hu'
  rcases set_getElem? hx with ⟨rfl,rfl,hlt⟩ | ⟨hne,hx⟩
  ·rw [if_pos rfl]; rw [hu] at hu'; cases hu'; exact hR
  ·rw [if_neg hne]
   have hj:j<cs.length:=(List.getElem?_eq_some_iff.1 hx).1
   exact (hr j x u' hx hu').outside o fun c hc=>⟨hF j c hj hc,fun hyc=>hne (hd j k c hj hk hc (hy c hyc))⟩
 ·intro i j c hi hj h1 h2
  rw [List.length_set] at hi hj
  by_cases hik:i=k <;> by_cases hjk:j=k
  ·exact hik.trans hjk.symm
  ·rw [if_pos hik] at h1; rw [if_neg hjk] at h2
   exfalso
   have hyc:¬ Fy c:=fun h=>hjk (hd j k c hj hk h2 (hy c h))
   rcases (hFk c).1 h1 with ⟨h,_⟩ | ⟨_,h⟩
   ·exact hjk (hd j k c hj hk h2 h)
   ·exact h ⟨hF j c hj h2,hyc⟩
  ·rw [if_neg hik] at h1; rw [if_pos hjk] at h2
   exfalso
   have hyc:¬ Fy c:=fun h=>hik (hd i k c hi hk h1 (hy c h))
   rcases (hFk c).1 h2 with ⟨h,_⟩ | ⟨_,h⟩
   ·exact hik (hd i k c hi hk h1 h)
   ·exact h ⟨hF i c hi h1,hyc⟩
  ·rw [if_neg hik] at h1; rw [if_neg hjk] at h2
   exact hd i j c hi hj h1 h2
theorem kids_union {m:Nat}{Fs:Nat->BSet}{Fk Fy Fy':BSet}{k:Nat}(hk:k<m)
  (hd:∀ (j k c:Nat),j<m->k<m->Fs j c->Fs k c->j=k) (hy:∀ c,Fy c->Fs k c) (hFk:∀ c,Fk c↔(Fs k c/\¬ Fy c)\/Fy' c) (c:Nat) :
  (∃ j,j<m/\(if j=k then Fk else Fs j) c)↔((∃ j,j<m/\Fs j c)/\¬ Fy c)\/Fy' c:=by
 constructor
 ·rintro ⟨j,hj,h⟩
  by_cases hjk:j=k
  ·rw [if_pos hjk] at h
   rcases (hFk c).1 h with ⟨h1,h2⟩ | h1
   ·exact .inl ⟨⟨k,hk,h1⟩,h2⟩
   ·exact .inr h1
  ·rw [if_neg hjk] at h
   exact .inl ⟨⟨j,hj,h⟩,fun hyc=>hjk (hd j k c hj hk h (hy c hyc))⟩
 ·rintro (⟨⟨j,hj,h⟩,hn⟩ | h)
  ·by_cases hjk:j=k
   ·subst hjk; exact ⟨j,hj,by rw [if_pos rfl]; exact (hFk c).2 (.inl ⟨h,hn⟩)⟩
   ·exact ⟨j,hj,by rw [if_neg hjk]; exact h⟩
  ·exact ⟨k,hk,by rw [if_pos rfl]; exact (hFk c).2 (.inr h)⟩
theorem R.walk_frame {w w':World}{I:BSet}{ρ:AV->Value->Prop}:∀ (r:List Nat) {x:AV}{v:Value}{F:BSet}{y:AV},R w I ρ x v F->x.at r=some y ->
  (∀ c,F c->w'.heap[c]?=w.heap[c]?)->walk w' v r=walk w v r
 | [],_,_,_,_,_,_,_=>rfl
 | k::p,x,v,F,y,h,hat,hf=>by
  simp only [AV.at] at hat
  cases hkid:x.kids[k]? with
  | none=>rw [hkid] at hat; cases hat
  | some cx =>
   rw [hkid] at hat
   simp only at hat
   cases h with
   | @own z n cs _ e us Fs _ ho hl h1 hr hd hb hF =>
    simp only [AV.kids] at hkid
    have hk:k<cs.length:=(List.getElem?_eq_some_iff.1 hkid).1
    have hu:us[k]?=some us[k]:=List.getElem?_eq_getElem (hl ▸ hk)
    have ho':=ownsRow_of_block (w':=w') ho fun c hc=>hf c ((hF c).2 (.inl hc))
    have:=R.walk_frame (w':=w') p (hr k cx _ hkid hu) hat fun c hc=>hf c ((hF c).2 (.inr ⟨k,hk,hc⟩))
    simp [walk,ownsRow_child ho hu,ownsRow_child ho' hu,this]
   | @obj cs b e arr Fs _ ho hl h1 hr hd hb hF hs =>
    simp only [AV.kids] at hkid
    have hk:k<cs.length:=(List.getElem?_eq_some_iff.1 hkid).1
    have hu:arr[k]?=some arr[k]:=Array.getElem?_eq_getElem (hl ▸ hk)
    have ho':=(hf b ((hF b).2 (.inl rfl))).trans ho
    have:=R.walk_frame (w':=w') p (hr k cx _ hkid hu) hat fun c hc=>hf c ((hF c).2 (.inr ⟨k,hk,hc⟩))
    simp [walk,child,World.cell?,ho,ho',hu,this]
   | @agg cs vs Fs _ hl h1 hr hd hF =>
    simp only [AV.kids] at hkid
    have hk:k<cs.length:=(List.getElem?_eq_some_iff.1 hkid).1
    have hu:vs[k]?=some vs[k]:=Array.getElem?_eq_getElem (hl ▸ hk)
    have:=R.walk_frame (w':=w') p (hr k cx _ hkid hu) hat fun c hc=>hf c ((hF c).2 ⟨k,hk,hc⟩)
    simp [walk,child,hu,this]
   | @tup cs vs Fs _ hl hr hd hF =>
    simp only [AV.kids] at hkid
    have hk:k<cs.length:=(List.getElem?_eq_some_iff.1 hkid).1
    have hu:vs[k]?=some vs[k]:=Array.getElem?_eq_getElem (hl ▸ hk)
    have:=R.walk_frame (w':=w') p (hr k cx _ hkid hu) hat fun c hc=>hf c ((hF c).2 ⟨k,hk,hc⟩)
    simp [walk,child,hu,this]
   | ref hx _ _=>cases x <;> simp [AV.isRef,AV.kids] at hx hkid
   | _=>simp [AV.kids] at hkid
theorem R.focus {w:World}{I:BSet}{ρ:AV->Value->Prop}:∀ (q:List Nat) {x:AV}{v:Value}{F:BSet}{y:AV},R w I ρ x v F->x.at q=some y ->
  ∃ vy Fy,walk w v q=some vy/\R w I ρ y vy Fy/\(∀ c,Fy c->F c) /\
   (∀ (w':World),(∀ c,F c->¬ Fy c->w'.heap[c]?=w.heap[c]?)->walk w' v q=some vy/\∀ r yr,x.at r=some yr->(∃ r',r=q++r')\/walk w' v r=walk w v r) /\
   ∀ (w':World) (I':BSet) (ρ':AV->Value->Prop) (y':AV) (Fy':BSet),Out w w' I I' ρ ρ' F Fy->R w' I' ρ' y' vy Fy'->(∀ c,Fy' c->F c->Fy c)->(∀ j,y'=.self j->y=.self j) ->
    ∃ F',R w' I' ρ' (x.setAt q y') v F'/\∀ c,F' c↔(F c/\¬ Fy c)\/Fy' c
 | [],x,v,F,y,h,hat=>by
  simp only [AV.at,Option.some.injEq] at hat
  subst hat
  exact ⟨v,F,rfl,h,fun _ h=>h,fun _ _=>⟨rfl,fun r _ _=>.inl ⟨r,rfl⟩⟩,fun w' I' ρ' y' Fy' _ hR _ _=>⟨Fy',hR,fun c=>by simp⟩⟩
 | k::p,x,v,F,y,h,hat=>by
  simp only [AV.at] at hat
  cases hkid:x.kids[k]? with
  | none=>rw [hkid] at hat; cases hat
  | some cx =>
   rw [hkid] at hat
   simp only at hat
   have hset:∀ y',x.setAt (k::p) y'=x.setKid k (cx.setAt p y'):=fun y'=>by simp [AV.setAt,hkid]
   cases h with
   | @own z n cs _ e us Fs _ ho hl h1 hr hd hb hF =>
    simp only [AV.kids] at hkid
    have hk:k<cs.length:=(List.getElem?_eq_some_iff.1 hkid).1
    have hu:us[k]?=some us[k]:=List.getElem?_eq_getElem (hl ▸ hk)
    obtain ⟨vy,Fy,hw,hRy,hFy,wk,rebuild⟩:=R.focus p (hr k cx _ hkid hu) hat
    refine ⟨vy,Fy,by simp [walk,ownsRow_child ho hu,hw],hRy,fun c hc=>(hF c).2 (.inr ⟨k,hk,hFy c hc⟩),?_,?_⟩
    ·intro w' hs
     have hsk:∀ j c,j<cs.length->Fs j c->¬ Fy c->w'.heap[c]?=w.heap[c]?:=fun j c hj hc hn=>hs c ((hF c).2 (.inr ⟨j,hj,hc⟩)) hn
     obtain ⟨w1,w2⟩:=wk w' fun c hc hn=>hsk k c hk hc hn
     have ho':=ownsRow_of_block (w':=w') ho fun c hc=>hs c ((hF c).2 (.inl hc)) fun hyc=>hb k c hk (hFy c hyc) hc
     refine ⟨by simp [walk,ownsRow_child ho' hu,w1],?_⟩
     intro r yr hr'
     cases r with
     | nil=>exact .inr rfl
     | cons j r =>
      simp only [AV.at,AV.kids] at hr'
      cases hj:cs[j]? with
      | none=>rw [hj] at hr'; cases hr'
      | some cj =>
       rw [hj] at hr'
       simp only at hr'
       have hjl:j<cs.length:=(List.getElem?_eq_some_iff.1 hj).1
       have huj:us[j]?=some us[j]:=List.getElem?_eq_getElem (hl ▸ hjl)
       by_cases hjk:j=k
       ·subst hjk
        rw [hkid] at hj
        cases hj
        rcases w2 r yr hr' with ⟨r',rfl⟩ | h
        ·exact .inl ⟨r',rfl⟩
        ·exact .inr (by simp [walk,ownsRow_child ho hu,ownsRow_child ho' hu,h])
       ·have h:=R.walk_frame (w':=w') r (hr j cj _ hj huj) hr' fun c hc=>hsk j c hjl hc fun hyc=>hjk (hd j k c hjl hk hc (hFy c hyc))
        exact .inr (by simp [walk,ownsRow_child ho huj,ownsRow_child ho' huj,h])
    intro w' I' ρ' y' Fy' o hR' hdis hns
    have hFs:∀ j c,j<cs.length->Fs j c->F c:=fun j c hj hc=>(hF c).2 (.inr ⟨j,hj,hc⟩)
    obtain ⟨Fk,hRk,hFk⟩:=rebuild w' I' ρ' y' Fy' (o.mono (fun c hc=>hFs k c hk hc) fun c _ h=>h) hR' (fun c hc hkc=>hdis c hc (hFs k c hk hkc)) hns
    obtain ⟨hr',hd'⟩:=kids_set (get:=fun j=>us[j]?) hr hd hFs hk hFy o hu hRk fun c=>by
     constructor
     ·intro h
      rcases (hFk c).1 h with h1 | h1
      ·exact .inl h1
      ·exact .inr ⟨h,fun ⟨h2,h3⟩=>h3 (hdis c h1 h2)⟩
     ·rintro (h1 | ⟨h1,_⟩)
      ·exact (hFk c).2 (.inl h1)
      ·exact h1
    rw [hset]
    refine ⟨_,.own (Fs:=fun j=>if j=k then Fk else Fs j) (ownsRow_of_block ho fun c hc=>o.rest c ((hF c).2 (.inl hc)) fun hyc=>hb k c hk (hFy c hyc) hc) (by simpa using hl) h1 hr' hd' ?_ (fun c=>Iff.rfl),fun c=>?_⟩
    ·intro j c hj hc hvc
     rw [List.length_set] at hj
     by_cases hjk:j=k
     ·rw [if_pos hjk] at hc
      rcases (hFk c).1 hc with ⟨h1,_⟩ | h1
      ·exact hb k c hk h1 hvc
      ·exact hb k c hk (hFy c (hdis c h1 ((hF c).2 (.inl hvc)))) hvc
     ·rw [if_neg hjk] at hc; exact hb j c hj hc hvc
    ·have hu:=kids_union hk hd hFy hFk c
     simp only [List.length_set]
     rw [hu,hF c]
     have hno:v.ownBlock=some c->¬ Fy c:=fun h1 h2=>hb k c hk (hFy c h2) h1
     constructor
     ·rintro (h1 | ⟨h1,h2⟩ | h1)
      ·exact .inl ⟨.inl h1,hno h1⟩
      ·exact .inl ⟨.inr h1,h2⟩
      ·exact .inr h1
     ·rintro (⟨h1 | h1,h2⟩ | h1)
      ·exact .inl h1
      ·exact .inr (.inl ⟨h1,h2⟩)
      ·exact .inr (.inr h1)
   | @obj cs b e arr Fs _ ho hl h1 hr hd hb hF hs =>
    simp only [AV.kids] at hkid
    have hk:k<cs.length:=(List.getElem?_eq_some_iff.1 hkid).1
    have hu:arr[k]?=some arr[k]:=Array.getElem?_eq_getElem (hl ▸ hk)
    obtain ⟨vy,Fy,hw,hRy,hFy,wk,rebuild⟩:=R.focus p (hr k cx _ hkid hu) hat
    refine ⟨vy,Fy,by simp [walk,child,World.cell?,ho,hu,hw],hRy,fun c hc=>(hF c).2 (.inr ⟨k,hk,hFy c hc⟩),?_,?_⟩
    ·intro w' hs
     have hsk:∀ j c,j<cs.length->Fs j c->¬ Fy c->w'.heap[c]?=w.heap[c]?:=fun j c hj hc hn=>hs c ((hF c).2 (.inr ⟨j,hj,hc⟩)) hn
     obtain ⟨w1,w2⟩:=wk w' fun c hc hn=>hsk k c hk hc hn
     have ho':=(hs b ((hF b).2 (.inl rfl)) fun hyc=>hb k hk (hFy b hyc)).trans ho
     refine ⟨by simp [walk,child,World.cell?,ho',hu,w1],?_⟩
     intro r yr hr'
     cases r with
     | nil=>exact .inr rfl
     | cons j r =>
      simp only [AV.at,AV.kids] at hr'
      cases hj:cs[j]? with
      | none=>rw [hj] at hr'; cases hr'
      | some cj =>
       rw [hj] at hr'
       simp only at hr'
       have hjl:j<cs.length:=(List.getElem?_eq_some_iff.1 hj).1
       have huj:arr[j]?=some arr[j]:=Array.getElem?_eq_getElem (hl ▸ hjl)
       by_cases hjk:j=k
       ·subst hjk
        rw [hkid] at hj
        cases hj
        rcases w2 r yr hr' with ⟨r',rfl⟩ | h
        ·exact .inl ⟨r',rfl⟩
        ·exact .inr (by simp [walk,child,World.cell?,ho,ho',hu,h])
       ·have h:=R.walk_frame (w':=w') r (hr j cj _ hj huj) hr' fun c hc=>hsk j c hjl hc fun hyc=>hjk (hd j k c hjl hk hc (hFy c hyc))
        exact .inr (by simp [walk,child,World.cell?,ho,ho',huj,h])
    intro w' I' ρ' y' Fy' o hR' hdis hns
    have hFs:∀ j c,j<cs.length->Fs j c->F c:=fun j c hj hc=>(hF c).2 (.inr ⟨j,hj,hc⟩)
    obtain ⟨Fk,hRk,hFk⟩:=rebuild w' I' ρ' y' Fy' (o.mono (fun c hc=>hFs k c hk hc) fun c _ h=>h) hR' (fun c hc hkc=>hdis c hc (hFs k c hk hkc)) hns
    obtain ⟨hr',hd'⟩:=kids_set (get:=fun j=>arr[j]?) hr hd hFs hk hFy o hu hRk fun c=>by
     constructor
     ·intro h
      rcases (hFk c).1 h with h1 | h1
      ·exact .inl h1
      ·exact .inr ⟨h,fun ⟨h2,h3⟩=>h3 (hdis c h1 h2)⟩
     ·rintro (h1 | ⟨h1,_⟩)
      ·exact (hFk c).2 (.inl h1)
      ·exact h1
    rw [hset]
    have hbF:F b:=(hF b).2 (.inl rfl)
    have hbn:¬ Fy b:=fun h=>hb k hk (hFy b h)
    refine ⟨_,.obj (Fs:=fun j=>if j=k then Fk else Fs j) ((o.rest b hbF hbn).trans ho) (by simpa using hl) h1 hr' hd' ?_ (fun c=>Iff.rfl) (fun i j u hi hu'=>?_),fun c=>?_⟩
    ·intro j hj hc
     rw [List.length_set] at hj
     by_cases hjk:j=k
     ·rw [if_pos hjk] at hc
      rcases (hFk b).1 hc with ⟨h1,_⟩ | h1
      ·exact hb k hk h1
      ·exact hbn (hdis b h1 hbF)
     ·rw [if_neg hjk] at hc; exact hb j hj hc
    ·rcases set_getElem? hi with ⟨rfl,he,_⟩ | ⟨_,hi⟩
     ·refine hs _ j u ?_ hu'
      rw [hkid]
      cases p with
      | nil =>
       simp only [AV.at,Option.some.injEq] at hat
       rw [hat]
       exact congrArg some (hns j he.symm)
      | cons k' p'=>exact absurd he.symm (AV.setAt_ns hat)
     ·exact hs i j u hi hu'
    ·have hu:=kids_union hk hd hFy hFk c
     simp only [List.length_set]
     rw [hu,hF c]
     constructor
     ·rintro (rfl | ⟨h1,h2⟩ | h1)
      ·exact .inl ⟨.inl rfl,hbn⟩
      ·exact .inl ⟨.inr h1,h2⟩
      ·exact .inr h1
     ·rintro (⟨h1 | h1,h2⟩ | h1)
      ·exact .inl h1
      ·exact .inr (.inl ⟨h1,h2⟩)
      ·exact .inr (.inr h1)
   | @agg cs vs Fs _ hl h1 hr hd hF =>
    simp only [AV.kids] at hkid
    have hk:k<cs.length:=(List.getElem?_eq_some_iff.1 hkid).1
    have hu:vs[k]?=some vs[k]:=Array.getElem?_eq_getElem (hl ▸ hk)
    obtain ⟨vy,Fy,hw,hRy,hFy,wk,rebuild⟩:=R.focus p (hr k cx _ hkid hu) hat
    refine ⟨vy,Fy,by simp [walk,child,hu,hw],hRy,fun c hc=>(hF c).2 ⟨k,hk,hFy c hc⟩,?_,?_⟩
    ·intro w' hs
     have hsk:∀ j c,j<cs.length->Fs j c->¬ Fy c->w'.heap[c]?=w.heap[c]?:=fun j c hj hc hn=>hs c ((hF c).2 ⟨j,hj,hc⟩) hn
     obtain ⟨w1,w2⟩:=wk w' fun c hc hn=>hsk k c hk hc hn
     
     refine ⟨by simp [walk,child,hu,w1],?_⟩
     intro r yr hr'
     cases r with
     | nil=>exact .inr rfl
     | cons j r =>
      simp only [AV.at,AV.kids] at hr'
      cases hj:cs[j]? with
      | none=>rw [hj] at hr'; cases hr'
      | some cj =>
       rw [hj] at hr'
       simp only at hr'
       have hjl:j<cs.length:=(List.getElem?_eq_some_iff.1 hj).1
       have huj:vs[j]?=some vs[j]:=Array.getElem?_eq_getElem (hl ▸ hjl)
       by_cases hjk:j=k
       ·subst hjk
        rw [hkid] at hj
        cases hj
        rcases w2 r yr hr' with ⟨r',rfl⟩ | h
        ·exact .inl ⟨r',rfl⟩
        ·exact .inr (by simp [walk,child,hu,h])
       ·have h:=R.walk_frame (w':=w') r (hr j cj _ hj huj) hr' fun c hc=>hsk j c hjl hc fun hyc=>hjk (hd j k c hjl hk hc (hFy c hyc))
        exact .inr (by simp [walk,child,huj,h])
    intro w' I' ρ' y' Fy' o hR' hdis hns
    have hFs:∀ j c,j<cs.length->Fs j c->F c:=fun j c hj hc=>(hF c).2 ⟨j,hj,hc⟩
    obtain ⟨Fk,hRk,hFk⟩:=rebuild w' I' ρ' y' Fy' (o.mono (fun c hc=>hFs k c hk hc) fun c _ h=>h) hR' (fun c hc hkc=>hdis c hc (hFs k c hk hkc)) hns
    obtain ⟨hr',hd'⟩:=kids_set (get:=fun j=>vs[j]?) hr hd hFs hk hFy o hu hRk fun c=>by
     constructor
     ·intro h
      rcases (hFk c).1 h with h1 | h1
      ·exact .inl h1
      ·exact .inr ⟨h,fun ⟨h2,h3⟩=>h3 (hdis c h1 h2)⟩
     ·rintro (h1 | ⟨h1,_⟩)
      ·exact (hFk c).2 (.inl h1)
      ·exact h1
    rw [hset]
    refine ⟨_,.agg (Fs:=fun j=>if j=k then Fk else Fs j) (by simpa using hl) h1 hr' hd' (fun c=>Iff.rfl),fun c=>?_⟩
    have hu:=kids_union hk hd hFy hFk c
    simp only [List.length_set]
    rw [hu,hF c]
   | @tup cs vs Fs _ hl hr hd hF =>
    simp only [AV.kids] at hkid
    have hk:k<cs.length:=(List.getElem?_eq_some_iff.1 hkid).1
    have hu:vs[k]?=some vs[k]:=Array.getElem?_eq_getElem (hl ▸ hk)
    obtain ⟨vy,Fy,hw,hRy,hFy,wk,rebuild⟩:=R.focus p (hr k cx _ hkid hu) hat
    refine ⟨vy,Fy,by simp [walk,child,hu,hw],hRy,fun c hc=>(hF c).2 ⟨k,hk,hFy c hc⟩,?_,?_⟩
    ·intro w' hs
     have hsk:∀ j c,j<cs.length->Fs j c->¬ Fy c->w'.heap[c]?=w.heap[c]?:=fun j c hj hc hn=>hs c ((hF c).2 ⟨j,hj,hc⟩) hn
     obtain ⟨w1,w2⟩:=wk w' fun c hc hn=>hsk k c hk hc hn
     
     refine ⟨by simp [walk,child,hu,w1],?_⟩
     intro r yr hr'
     cases r with
     | nil=>exact .inr rfl
     | cons j r =>
      simp only [AV.at,AV.kids] at hr'
      cases hj:cs[j]? with
      | none=>rw [hj] at hr'; cases hr'
      | some cj =>
       rw [hj] at hr'
       simp only at hr'
       have hjl:j<cs.length:=(List.getElem?_eq_some_iff.1 hj).1
       have huj:vs[j]?=some vs[j]:=Array.getElem?_eq_getElem (hl ▸ hjl)
       by_cases hjk:j=k
       ·subst hjk
        rw [hkid] at hj
        cases hj
        rcases w2 r yr hr' with ⟨r',rfl⟩ | h
        ·exact .inl ⟨r',rfl⟩
        ·exact .inr (by simp [walk,child,hu,h])
       ·have h:=R.walk_frame (w':=w') r (hr j cj _ hj huj) hr' fun c hc=>hsk j c hjl hc fun hyc=>hjk (hd j k c hjl hk hc (hFy c hyc))
        exact .inr (by simp [walk,child,huj,h])
    intro w' I' ρ' y' Fy' o hR' hdis hns
    have hFs:∀ j c,j<cs.length->Fs j c->F c:=fun j c hj hc=>(hF c).2 ⟨j,hj,hc⟩
    obtain ⟨Fk,hRk,hFk⟩:=rebuild w' I' ρ' y' Fy' (o.mono (fun c hc=>hFs k c hk hc) fun c _ h=>h) hR' (fun c hc hkc=>hdis c hc (hFs k c hk hkc)) hns
    obtain ⟨hr',hd'⟩:=kids_set (get:=fun j=>vs[j]?) hr hd hFs hk hFy o hu hRk fun c=>by
     constructor
     ·intro h
      rcases (hFk c).1 h with h1 | h1
      ·exact .inl h1
      ·exact .inr ⟨h,fun ⟨h2,h3⟩=>h3 (hdis c h1 h2)⟩
     ·rintro (h1 | ⟨h1,_⟩)
      ·exact (hFk c).2 (.inl h1)
      ·exact h1
    rw [hset]
    refine ⟨_,.tup (Fs:=fun j=>if j=k then Fk else Fs j) (by simpa using hl) hr' hd' (fun c=>Iff.rfl),fun c=>?_⟩
    have hu:=kids_union hk hd hFy hFk c
    simp only [List.length_set]
    rw [hu,hF c]
   | ref hx _ _=>cases x <;> simp [AV.isRef,AV.kids] at hx hkid
   | _=>simp [AV.kids] at hkid
end Go.Own
namespace Go.Own
open Go
abbrev Gst:=Nat->Option AV
def atP (g:Gst) (p:Place):Option AV :=
 match g p.root with
 | some x=>x.at p.path
 | none=>none
def valAt (w:World) (T:Array Value) (p:Place):Option Value :=
 match T[p.root]? with
 | some v=>walk w v p.path
 | none=>none
def addrOf:Value->Option Addr
 | .slice (some a) _ _=>some a
 | .pointer (some a)=>some a
 | _=>none
def RefAt (w:World) (T:Array Value):AV->Value->Prop
 | .ptr p k,v=>∃ u a,valAt w T p=some u/\addrOf u=some a/\v=.pointer (some ⟨a.block,a.off+k,none⟩)
 | .brw _ p n,v=>∃ a N cap,valAt w T p=some (.slice a N cap)/\v=.slice a n cap/\n<=N
 | .sub z p lo n,v=>∃ a N cap a' cap',valAt w T p=some (.slice a N cap)/\v=.slice a' n cap'/\n<=cap'/\lo+n<=N/\(0<n->∃ ad,a=some ad/\a'=some ⟨ad.block,ad.off+lo * z,none⟩)
 | .pend _ p n _ _,v=>∃ a cap,valAt w T p=some (.slice a n cap)/\v=.slice a n cap
 | .mref p,v=>∃ b,valAt w T p=some (.map b)/\v=.map b
 | _,_=>False
def RefOk (g:Gst):AV->Prop
 | .ptr p k=>∃ y,atP g p=some y/\(∃ z n cs,(y=.own z n cs\/y=.obj cs)/\k<cs.length)
 | .brw z p n=>(∃ N cs,atP g p=some (.own z N cs)/\n<=N)\/(p.path=[]/\∃ q n0 m new,g p.root=some (.pend z q n0 m new)/\n=n0+m)
 | .sub z p lo n=>∃ N cs,atP g p=some (.own z N cs)/\lo+n<=N
 | .pend z p n _ _=>(∃ cs,atP g p=some (.own z n cs))\/(p.path=[]/\∃ q n0 m new cs,g p.root=some (.pend z q n0 m new)/\n=n0+m/\atP g q=some (.own z n0 cs))
 | .mref p=>∃ q,atP g p=some (.mp q)
 | _=>False
def RG (w:World) (T:Array Value) (g:Gst) (r:AV) (v:Value):Prop:=RefAt w T r v/\RefOk g r
structure RPend (w:World) (I:BSet) (ρ:AV->Value->Prop) (z:Nat) (p:Place) (n m:Nat) (new:List AV) (v:Value) (F:BSet) (bv:Value) (e e2:TypeId) (us news:List Value):Prop where
 hbv:ρ (.pend z p n 0 []) bv
 hob:w.ownsRow 0 e z bv n us
 hov:w.ownsRow 0 e2 z v (n+m) (us++news)
 hl:new.length=news.length
 h1:∀ (k:Nat) (u:Value),news[k]?=some u->u.oneCell'=true
 hr:∀ (k:Nat) (x:AV) (u:Value),new[k]?=some x->news[k]?=some u->R w I ρ x u (fun _=>False)
 hF:∀ c,F c↔v.ownBlock=some c/\bv.ownBlock≠some c
inductive RT (w:World) (I:BSet) (ρ:AV->Value->Prop):AV->Value->BSet->Prop
 | tree {x:AV}{v:Value}{F:BSet}(h:R w I ρ x v F):RT w I ρ x v F
 | pend {z n m:Nat}{p:Place}{new:List AV}{v bv:Value}{e e2:TypeId}{us news:List Value}{F:BSet}(h:RPend w I ρ z p n m new v F bv e e2 us news):RT w I ρ (.pend z p n m new) v F
theorem R.notPend {w:World}{I:BSet}{ρ:AV->Value->Prop}{z n m:Nat}{p:Place}{new:List AV}{v:Value}{F:BSet}(h:R w I ρ (.pend z p n m new) v F):False:=by
 cases h with
 | ref hx=>simp [AV.isRef] at hx
theorem RT.isTree {w:World}{I:BSet}{ρ:AV->Value->Prop}{x:AV}{v:Value}{F:BSet}(h:RT w I ρ x v F) (hx:∀ z p n m new,x≠.pend z p n m new):R w I ρ x v F:=by
 cases h with
 | tree h=>exact h
 | pend=>exact absurd rfl (hx _ _ _ _ _)
theorem RT.isPend {w:World}{I:BSet}{ρ:AV->Value->Prop}{z n m:Nat}{p:Place}{new:List AV}{v:Value}{F:BSet}(h:RT w I ρ (.pend z p n m new) v F):∃ bv e e2 us news,RPend w I ρ z p n m new v F bv e e2 us news:=by
 cases h with
 | tree h=>exact h.notPend.elim
 | pend h=>exact ⟨_,_,_,_,_,h⟩
theorem RT.lt {w:World}{I:BSet}{ρ:AV->Value->Prop}{x:AV}{v:Value}{F:BSet}(h:RT w I ρ x v F):∀ c,F c->c<w.heap.size:=by
 cases h with
 | tree h=>exact h.lt
 | pend h=>exact fun c hc=>(h.hov.lt c ((h.hF c).1 hc).1).2
theorem RT.frame {w w':World}{I I':BSet}{ρ ρ':AV->Value->Prop}{x:AV}{v:Value}{F:BSet}(h:RT w I ρ x v F)
  (hI:∀ c,I c->w'.heap[c]?=w.heap[c]?) (hII:∀ c,I c->I' c) (hρ:∀ x v,ρ x v->ρ' x v)
  (hP:∀ z p n bv,ρ (.pend z p n 0 []) bv->∀ c,bv.ownBlock=some c->w'.heap[c]?=w.heap[c]?)
  (hf:∀ c,F c->w'.heap[c]?=w.heap[c]?):RT w' I' ρ' x v F:=by
 cases h with
 | tree h=>exact .tree (h.frame hI hII hρ hf)
 | @pend z n m p new v bv e e2 us news F h =>
  have hb:=hP _ _ _ _ h.hbv
  refine .pend ⟨hρ _ _ h.hbv,ownsRow_of_block h.hob hb,ownsRow_of_block h.hov fun c hc=>?_,h.hl,h.h1,fun k x u hx hu=>(h.hr k x u hx hu).frame hI hII hρ fun c hc=>hc.elim,h.hF⟩
  by_cases hbc:bv.ownBlock=some c
  ·exact hb c hbc
  ·exact hf c ((h.hF c).2 ⟨hc,hbc⟩)
theorem AV.at_pend {z n m:Nat}{p:Place}{new:List AV}{q:List Nat}{y:AV}(h:(AV.pend z p n m new).at q=some y):q=[]/\y=.pend z p n m new:=by
 cases q with
 | nil=>simp [AV.at] at h; exact ⟨rfl,h.symm⟩
 | cons k q=>simp [AV.at,AV.kids] at h
class TB where
 q:World->BSet->Prop
 keep:∀ {w w':World}{I I':BSet},q w I->(∀ c,I c->w'.heap[c]?=w.heap[c]?)->(∀ c,I c->I' c)->q w' I'
set_option linter.unusedSectionVars false
variable [TB]
structure SR (w:World) (I:BSet) (T:Array Value) (g:Gst) (Fs:Nat->BSet):Prop where
 rel:∀ t x,g t=some x->∃ v,T[t]?=some v/\RT w I (RG w T g) x v (Fs t)
 non:∀ t,g t=none->∀ c,¬ Fs t c
 dis:∀ t t' c,Fs t c->Fs t' c->t=t'
 imm:∀ t c,Fs t c->¬ I c
 lt:∀ c,I c->c<w.heap.size
 pok:∀ t t' z p n m new z' n' m' new',g t=some (.pend z p n m new)->g t'=some (.pend z' p n' m' new')->t=t'
 tb:TB.q w I
section
variable {w:World}{I:BSet}{T:Array Value}{g:Gst}{Fs:Nat->BSet}
theorem SR.part (h:SR w I T g Fs) {p:Place}{y:AV}(hp:atP g p=some y) (hy:∀ z q n m new,y≠.pend z q n m new):∃ v Fy,valAt w T p=some v/\R w I (RG w T g) y v Fy/\(∀ c,Fy c->Fs p.root c):=by
 unfold atP at hp
 cases hx:g p.root with
 | none=>rw [hx] at hp; cases hp
 | some x =>
  rw [hx] at hp
  obtain ⟨v,hv,hR⟩:=h.rel _ _ hx
  replace hR:=hR.isTree (by
   rintro z q n m new rfl
   exact hy _ _ _ _ _ (AV.at_pend hp).2)
  obtain ⟨vy,Fy,hw,hRy,hFy,_⟩:=R.focus p.path hR hp
  exact ⟨vy,Fy,by simp [valAt,hv,hw],hRy,hFy⟩
theorem R.own_block {ρ:AV->Value->Prop}{z n:Nat}{cs:List AV}{v:Value}{F:BSet}(h:R w I ρ (.own z n cs) v F):∀ c,v.ownBlock=some c->F c:=by
 cases h with
 | own ho hl h1 hr hd hb hF=>exact fun c hc=>(hF c).2 (.inl hc)
 | ref hx=>simp [AV.isRef] at hx
theorem R.own_slice {ρ:AV->Value->Prop}{z n:Nat}{cs:List AV}{v:Value}{F:BSet}(h:R w I ρ (.own z n cs) v F) :
  ∃ a cap,v=.slice a n cap/\n<=cap/\cs.length=n * z/\(∀ ad,a=some ad->ad.off=0/\ad.spot=none)/\(0<n->a.isSome=true):=by
 cases h with
 | own ho hl h1 hr hd hb hF =>
  obtain ⟨h1,h2⟩:=ho
  rcases h2 with ⟨rfl,rfl⟩ | ⟨b,cap,cur,rfl,_,_,hn,_⟩
  ·exact ⟨none,0,rfl,Nat.le_refl _,by simp [hl,h1],by simp,by simp⟩
  ·exact ⟨_,cap,rfl,hn,by simp [hl,h1],by rintro ad ⟨⟩; exact ⟨rfl,rfl⟩,by simp⟩
 | ref hx=>simp [AV.isRef] at hx
theorem SR.valAt_same (h:SR w I T g Fs) {w':World}{T':Array Value}(hT:∀ t,g t≠none->T'[t]?=T[t]?) (hF:∀ t c,Fs t c->w'.heap[c]?=w.heap[c]?) {p:Place}{y:AV}(hp:atP g p=some y) :
  valAt w' T' p=valAt w T p:=by
 unfold atP at hp
 cases hx:g p.root with
 | none=>rw [hx] at hp; cases hp
 | some x =>
  rw [hx] at hp
  obtain ⟨v,hv,hR⟩:=h.rel _ _ hx
  have hv':T'[p.root]?=some v:=by rw [hT _ (by rw [hx]; simp),hv]
  cases hR with
  | tree hR =>
   have:=R.walk_frame (w':=w') p.path hR hp fun c hc=>hF _ c hc
   simp [valAt,hv,hv',this]
  | pend hR=>simp [valAt,hv,hv',(AV.at_pend hp).1,walk]
theorem atP_mono {g g':Gst}(hg:∀ t x,g t=some x->g' t=some x) {p:Place}{y:AV}(hp:atP g p=some y):atP g' p=some y:=by
 unfold atP at *
 cases hx:g p.root with
 | none=>rw [hx] at hp; cases hp
 | some x=>rw [hx] at hp; rw [hg _ _ hx]; exact hp
theorem RefOk.mono {g g':Gst}(hg:∀ t x,g t=some x->g' t=some x) {r:AV}(h:RefOk g r):RefOk g' r:=by
 cases r <;> simp only [RefOk] at h ⊢
 case ptr p k=>obtain ⟨y,hy,h⟩:=h; exact ⟨y,atP_mono hg hy,h⟩
 case brw z p n =>
  rcases h with ⟨N,cs,h1,h2⟩ | ⟨h0,q,n0,m,new,h1,h2⟩
  ·exact .inl ⟨N,cs,atP_mono hg h1,h2⟩
  ·exact .inr ⟨h0,q,n0,m,new,hg _ _ h1,h2⟩
 case sub z p lo n=>obtain ⟨N,cs,h1,h2⟩:=h; exact ⟨N,cs,atP_mono hg h1,h2⟩
 case pend z p n m new =>
  rcases h with ⟨cs,h1⟩ | ⟨h0,q,n0,m',new',cs,h1,h2,h3⟩
  ·exact .inl ⟨cs,atP_mono hg h1⟩
  ·exact .inr ⟨h0,q,n0,m',new',cs,hg _ _ h1,h2,atP_mono hg h3⟩
 case mref p=>obtain ⟨q,h⟩:=h; exact ⟨q,atP_mono hg h⟩
theorem SR.ref_same (h:SR w I T g Fs) {w':World}{T':Array Value}{g':Gst}(hT:∀ t,g t≠none->T'[t]?=T[t]?) (hF:∀ t c,Fs t c->w'.heap[c]?=w.heap[c]?)
  (hg:∀ t x,g t=some x->g' t=some x) {r:AV}{v:Value}(hr:RG w T g r v):RG w' T' g' r v:=by
 obtain ⟨h1,h2⟩:=hr
 refine ⟨?_,h2.mono hg⟩
 have slot:∀ {p:Place}{x:AV},p.path=[]->g p.root=some x->valAt w' T' p=valAt w T p:=by
  intro p x hp hx
  obtain ⟨v,hv,_⟩:=h.rel _ _ hx
  simp [valAt,hp,walk,hT p.root (by rw [hx]; simp)]
 cases r <;> simp only [RefAt,RefOk] at h1 h2 ⊢
 case ptr p k =>
  obtain ⟨y,hy,_⟩:=h2
  rw [h.valAt_same hT hF hy]; exact h1
 case brw z p n =>
  rcases h2 with ⟨N,cs,h2,_⟩ | ⟨h0,q,n0,m,new,h2,_⟩
  ·rw [h.valAt_same hT hF h2]; exact h1
  ·rw [slot h0 h2]; exact h1
 case sub z p lo n =>
  obtain ⟨N,cs,h2,_⟩:=h2
  rw [h.valAt_same hT hF h2]; exact h1
 case pend z p n m new =>
  rcases h2 with ⟨cs,h2⟩ | ⟨h0,q,n0,m',new',cs,h2,_⟩
  ·rw [h.valAt_same hT hF h2]; exact h1
  ·rw [slot h0 h2]; exact h1
 case mref p =>
  obtain ⟨q,h2⟩:=h2
  rw [h.valAt_same hT hF h2]; exact h1
theorem SR.base_block (h:SR w I T g Fs) {z n:Nat}{p:Place}{bv:Value}(hr:RG w T g (.pend z p n 0 []) bv):∀ c,bv.ownBlock=some c->∃ t,Fs t c:=by
 obtain ⟨⟨a,cap,h1,rfl⟩,h2⟩:=hr
 intro c hc
 have own:∀ {q:Place}{n0:Nat}{cs:List AV}{v:Value},atP g q=some (.own z n0 cs)->valAt w T q=some v->v.ownBlock=some c->∃ t,Fs t c:=by
  intro q n0 cs v hq hv hc
  obtain ⟨v',Fy,hv',hR,hFy⟩:=h.part hq (by simp)
  rw [hv] at hv'
  cases hv'
  exact ⟨_,hFy c (hR.own_block c hc)⟩
 rcases h2 with ⟨cs,h2⟩ | ⟨h0,q,n0,m,new,cs,h2,rfl,h3⟩
 ·exact own h2 h1 hc
 ·obtain ⟨v,hv,hR⟩:=h.rel _ _ h2
  have hvv:v=.slice a (n0+m) cap:=by
   simp only [valAt,hv,h0,walk,Option.some.injEq] at h1
   exact h1
  obtain ⟨bv2,e,e2,us,news,hR⟩:=hR.isPend
  by_cases hb2:bv2.ownBlock=some c
  ·obtain ⟨⟨a2,cap2,h4,rfl⟩,_⟩:=hR.hbv
   exact own h3 h4 hb2
  ·exact ⟨_,(hR.hF c).2 ⟨by rw [hvv]; exact hc,hb2⟩⟩
theorem SR.frame (h:SR w I T g Fs) {w':World}{I':BSet}{T':Array Value}{g':Gst}(hT:∀ t,g t≠none->T'[t]?=T[t]?) (hF:∀ t c,Fs t c->w'.heap[c]?=w.heap[c]?)
  (hI:∀ c,I c->w'.heap[c]?=w.heap[c]?) (hII:∀ c,I c->I' c) (hg:∀ t x,g t=some x->g' t=some x) {x:AV}{v:Value}{F:BSet}(hR:R w I (RG w T g) x v F)
  (hFF:∀ c,F c->w'.heap[c]?=w.heap[c]?):R w' I' (RG w' T' g') x v F :=
 hR.frame hI hII (fun _ _ hr=>h.ref_same hT hF hg hr) hFF
theorem SR.frameT (h:SR w I T g Fs) {w':World}{I':BSet}{T':Array Value}{g':Gst}(hT:∀ t,g t≠none->T'[t]?=T[t]?) (hF:∀ t c,Fs t c->w'.heap[c]?=w.heap[c]?)
  (hI:∀ c,I c->w'.heap[c]?=w.heap[c]?) (hII:∀ c,I c->I' c) (hg:∀ t x,g t=some x->g' t=some x) {x:AV}{v:Value}{F:BSet}(hR:RT w I (RG w T g) x v F)
  (hFF:∀ c,F c->w'.heap[c]?=w.heap[c]?):RT w' I' (RG w' T' g') x v F :=
 hR.frame hI hII (fun _ _ hr=>h.ref_same hT hF hg hr) (fun _ _ _ _ hr c hc=>by obtain ⟨t,ht⟩:=h.base_block hr c hc; exact hF t c ht) hFF
def upd (g:Gst) (d:Nat) (x:AV):Gst:=fun t=>if t=d then some x else g t
def updF (Fs:Nat->BSet) (d:Nat) (F:BSet):Nat->BSet:=fun t=>if t=d then F else Fs t
theorem upd_mono {d:Nat}{x:AV}(hd:g d=none):∀ t y,g t=some y->upd g d x t=some y:=by
 intro t y hy
 unfold upd
 split
 ·rename_i h; subst h; rw [hd] at hy; cases hy
 ·exact hy
end
end Go.Own
namespace Go.Own
open Go
set_option linter.unusedSectionVars false
variable [TB]
theorem walk_append (w:World):∀ (p:List Nat) (v:Value) (k:Nat),walk w v (p++[k])=(walk w v p).bind fun u=>child w u k
 | [],v,k=>by simp [walk]; cases child w v k <;> rfl
 | j::p,v,k=>by
  simp only [List.cons_append,walk]
  cases child w v j with
  | none=>rfl
  | some u=>exact walk_append w p u k
theorem at_append:∀ (p:List Nat) (x:AV) (k:Nat),x.at (p++[k])=(x.at p).bind fun y=>y.kids[k]?
 | [],x,k=>by simp [AV.at]; cases x.kids[k]? <;> rfl
 | j::p,x,k=>by
  simp only [List.cons_append,AV.at]
  cases x.kids[j]? with
  | none=>rfl
  | some u=>exact at_append p u k
theorem atP_push (g:Gst) (p:Place) (k:Nat):atP g (p.push k)=(atP g p).bind fun y=>y.kids[k]?:=by
 unfold atP Place.push
 cases g p.root with
 | none=>rfl
 | some x=>simp [at_append]
theorem valAt_push (w:World) (T:Array Value) (p:Place) (k:Nat):valAt w T (p.push k)=(valAt w T p).bind fun u=>child w u k:=by
 unfold valAt Place.push
 cases T[p.root]? with
 | none=>rfl
 | some x=>simp [walk_append]
def refIn:Nat->Place->AV->AV
 | _,p,.own z n _=>.brw z p n
 | _,p,.obj (_::_)=>.ptr p 0
 | _,_,.obj []=>.dead
 | _,_,.pend ..=>.dead
 | _,_,.self _=>.dead
 | _,_,.brow ..=>.dead
 | _,p,.mp _=>.mref p
 | d+1,p,.agg cs=>.agg (cs.mapIdx fun i x=>refIn d (p.push i) x)
 | d+1,p,.tup cs=>.tup (cs.mapIdx fun i x=>refIn d (p.push i) x)
 | 0,_,.agg _=>.dead
 | 0,_,.tup _=>.dead
 | _,_,x=>x
def refTop (t:Nat):AV->AV
 | .pend z _ n m _=>.brw z ⟨t,[]⟩ (n+m)
 | x=>refIn 2 ⟨t,[]⟩ x
def ofCell:Value->AV
 | .slice none 0 0=>.nils
 | .agg _=>.dead
 | .tuple _=>.dead
 | v=>.lit v
def ofConst:Value->AV
 | .agg vs=>if vs.all Value.oneCell' then .agg (vs.toList.map ofCell) else .dead
 | .tuple _=>.dead
 | v=>ofCell v
def opd (g:Gst):Operand->Option AV
 | .tmp t=>(g t).map (refTop t)
 | .const v=>some (ofConst v)
 | .func f=>some (.clo (.func f) [] [])
 | .global _=>none
theorem refIn_ns {d:Nat}{p:Place}{x:AV}{j:Nat × Nat}:refIn d p x≠.self j:=by
 cases x with
 | obj cs=>cases d <;> cases cs <;> simp [refIn]
 | _=>cases d <;> simp [refIn]
theorem refTop_okA {t:Nat}{x:AV}:OkA (refTop t x):=by
 intro cs h k j hk
 cases x with
 | obj cs=>cases cs <;> simp [refTop,refIn] at h
 | agg l =>
  simp only [refTop,refIn,AV.agg.injEq] at h
  subst h
  rw [List.getElem?_mapIdx] at hk
  cases hx:l[k]? with
  | none=>rw [hx] at hk; cases hk
  | some x=>rw [hx] at hk; simp only [Option.map_some,Option.some.injEq] at hk; exact refIn_ns hk
 | _=>simp [refTop,refIn] at h
theorem ofCell_ns (v:Value) (j:Nat × Nat):ofCell v≠.self j:=by
 unfold ofCell; split <;> simp
theorem ofCells_ns (vs:List Value):NoSelf (vs.map ofCell):=fun k j=>by
 rw [List.getElem?_map]
 cases vs[k]? with
 | none=>simp
 | some v=>simp [ofCell_ns]
theorem opd_okA {g:Gst}{o:Operand}{x:AV}(h:opd g o=some x):OkA x:=by
 cases o with
 | tmp t =>
  simp only [opd] at h
  cases ht:g t with
  | none=>rw [ht] at h; cases h
  | some y=>rw [ht] at h; simp only [Option.map_some,Option.some.injEq] at h; exact h ▸ refTop_okA
 | const v =>
  simp only [opd,Option.some.injEq] at h
  subst h
  intro cs h
  unfold ofConst at h
  split at h
  ·split at h
   ·cases h; exact ofCells_ns _
   ·cases h
  ·cases h
  ·unfold ofCell at h; split at h <;> cases h
 | func f=>simp only [opd,Option.some.injEq] at h; subst h; intro cs h; cases h
 | global n=>cases h
abbrev E0:BSet:=fun _=>False
section
variable {w:World}{I:BSet}{T:Array Value}{g:Gst}{Fs:Nat->BSet}
theorem R.empty {ρ:AV->Value->Prop}{x:AV}{v:Value}{F:BSet}(h:R w I ρ x v F) (hF:∀ c,¬ F c):R w I ρ x v E0:=h.congrF fun c=>⟨fun hc=>hF c hc,fun hc=>hc.elim⟩
theorem refIn_sound:∀ (d:Nat) {p:Place}{x:AV}{v:Value}{F:BSet},atP g p=some x->valAt w T p=some v->R w I (RG w T g) x v F->R w I (RG w T g) (refIn d p x) v E0:=by
 intro d
 induction d with
 | zero =>
  intro p x v F hp hv hR
  cases hR with
  | lit hl hF=>exact .lit hl fun _ h=>h
  | nils hF=>exact .nils fun _ h=>h
  | dead hF=>exact .dead fun _ h=>h
  | slf hF=>exact .dead fun _ h=>h
  | brow=>exact .dead fun _ h=>h
  | ref hx hr hF=>cases x <;> simp [AV.isRef] at hx <;> exact .ref rfl hr fun _ h=>h
  | mp=>exact .ref rfl ⟨⟨_,hv,rfl⟩,⟨_,hp⟩⟩ fun _ h=>h
  | imp hF hI ho hq=>exact .imp (fun _ h=>h) hI ho hq
  | imm0 hF=>exact .imm0 fun _ h=>h
  | imm hF hcap hI hs hl h1 hc hr=>exact .imm (fun _ h=>h) hcap hI hs hl h1 hc hr
  | iptr hF hI hs h1 hc hr=>exact .iptr (fun _ h=>h) hI hs h1 hc hr
  | own ho hl h1 hr hd hb hF =>
   have hown:=R.own (I:=I) (ρ:=RG w T g) ho hl h1 hr hd hb hF
   obtain ⟨a,cap,rfl,hn,_⟩:=hown.own_slice
   exact .ref rfl ⟨⟨a,_,cap,hv,rfl,Nat.le_refl _⟩,.inl ⟨_,_,hp,Nat.le_refl _⟩⟩ fun _ h=>h
  | @obj cs b e arr Fs' _ ho hl h1 hr hd hb hF =>
   cases cs with
   | nil=>exact .dead fun _ h=>h
   | cons c cs=>exact .ref rfl ⟨⟨_,_,hv,rfl,rfl⟩,⟨_,hp,0,0,_,.inr rfl,by simp⟩⟩ fun _ h=>h
  | agg=>exact .dead fun _ h=>h
  | tup=>exact .dead fun _ h=>h
  | clo hF h1 h2 hr1 hr2=>exact .clo (fun _ h=>h) h1 h2 hr1 hr2
 | succ d ih =>
  intro p x v F hp hv hR
  cases hR with
  | lit hl hF=>exact .lit hl fun _ h=>h
  | nils hF=>exact .nils fun _ h=>h
  | dead hF=>exact .dead fun _ h=>h
  | slf hF=>exact .dead fun _ h=>h
  | brow=>exact .dead fun _ h=>h
  | ref hx hr hF=>cases x <;> simp [AV.isRef] at hx <;> exact .ref rfl hr fun _ h=>h
  | mp=>exact .ref rfl ⟨⟨_,hv,rfl⟩,⟨_,hp⟩⟩ fun _ h=>h
  | imp hF hI ho hq=>exact .imp (fun _ h=>h) hI ho hq
  | imm0 hF=>exact .imm0 fun _ h=>h
  | imm hF hcap hI hs hl h1 hc hr=>exact .imm (fun _ h=>h) hcap hI hs hl h1 hc hr
  | iptr hF hI hs h1 hc hr=>exact .iptr (fun _ h=>h) hI hs h1 hc hr
  | own ho hl h1 hr hd hb hF =>
   have hown:=R.own (I:=I) (ρ:=RG w T g) ho hl h1 hr hd hb hF
   obtain ⟨a,cap,rfl,hn,_⟩:=hown.own_slice
   exact .ref rfl ⟨⟨a,_,cap,hv,rfl,Nat.le_refl _⟩,.inl ⟨_,_,hp,Nat.le_refl _⟩⟩ fun _ h=>h
  | @obj cs b e arr Fs' _ ho hl h1 hr hd hb hF =>
   cases cs with
   | nil=>exact .dead fun _ h=>h
   | cons c cs=>exact .ref rfl ⟨⟨_,_,hv,rfl,rfl⟩,⟨_,hp,0,0,_,.inr rfl,by simp⟩⟩ fun _ h=>h
  | @agg cs vs Fs' _ hl h1 hr hd hF =>
   refine .agg (Fs:=fun _=>E0) (by simpa using hl) h1 ?_ (fun _ _ _ _ _ h=>h.elim) (fun c=>⟨fun h=>h.elim,fun ⟨_,_,h⟩=>h⟩)
   intro k y u hy hu
   rw [List.getElem?_mapIdx] at hy
   cases hk:cs[k]? with
   | none=>rw [hk] at hy; cases hy
   | some z =>
    rw [hk] at hy
    cases hy
    exact ih (by rw [atP_push,hp]; exact hk) (by rw [valAt_push,hv]; exact hu) (hr k z u hk hu)
  | @tup cs vs Fs' _ hl hr hd hF =>
   refine .tup (Fs:=fun _=>E0) (by simpa using hl) ?_ (fun _ _ _ _ _ h=>h.elim) (fun c=>⟨fun h=>h.elim,fun ⟨_,_,h⟩=>h⟩)
   intro k y u hy hu
   rw [List.getElem?_mapIdx] at hy
   cases hk:cs[k]? with
   | none=>rw [hk] at hy; cases hy
   | some z =>
    rw [hk] at hy
    cases hy
    exact ih (by rw [atP_push,hp]; exact hk) (by rw [valAt_push,hv]; exact hu) (hr k z u hk hu)
  | clo hF h1 h2 hr1 hr2=>exact .clo (fun _ h=>h) h1 h2 hr1 hr2
theorem ofCell_sound {ρ:AV->Value->Prop}(v:Value):R w I ρ (ofCell v) v E0:=by
 unfold ofCell
 split
 ·exact .nils fun _ h=>h
 ·exact .dead fun _ h=>h
 ·exact .dead fun _ h=>h
 ·rename_i h1 h2 h3
  refine .lit ?_ fun _ h=>h
  cases v <;> first | rfl | (exact absurd rfl (h2 _)) | (exact absurd rfl (h3 _))
theorem ofConst_sound {ρ:AV->Value->Prop}(v:Value):R w I ρ (ofConst v) v E0:=by
 unfold ofConst
 split
 ·rename_i vs
  split
  ·rename_i hall
   refine .agg (Fs:=fun _=>E0) (by simp) (fun k u hu=>?_) ?_ (fun _ _ _ _ _ h=>h.elim) (fun c=>⟨fun h=>h.elim,fun ⟨_,_,h⟩=>h⟩)
   ·exact Array.all_eq_true_iff_forall_mem.1 hall u (Array.mem_of_getElem? hu)
   ·intro k x u hx hu
    simp only [List.getElem?_map,Array.getElem?_toList,hu,Option.map_some,Option.some.injEq] at hx
    subst hx
    exact ofCell_sound u
  ·exact .dead fun _ h=>h
 ·exact .dead fun _ h=>h
 ·exact ofCell_sound v
theorem opd_sound (h:SR w I T g Fs) {x:Operand}{y:AV}(hy:opd g x=some y) {a:Act}(ha:a.tmps=T):R w I (RG w T g) y (a.eval x) E0:=by
 cases x with
 | tmp t =>
  simp only [opd] at hy
  cases hx:g t with
  | none=>rw [hx] at hy; cases hy
  | some z =>
   rw [hx] at hy
   simp only [Option.map_some,Option.some.injEq] at hy
   obtain ⟨v,hv,hR⟩:=h.rel t z hx
   have hev:a.eval (.tmp t)=v:=by simp [Act.eval,ha,hv]
   rw [hev]
   have hp:atP g ⟨t,[]⟩=some z:=by simp [atP,hx,AV.at]
   have hva:valAt w T ⟨t,[]⟩=some v:=by simp [valAt,hv,walk]
   subst hy
   cases hR with
   | tree hR =>
    cases z with
    | pend=>exact hR.notPend.elim
    | _=>exact refIn_sound 2 hp hva hR
   | @pend zz n m p new v bv e e2 us news _ hR =>
    simp only [refTop]
    have:∃ a cap,v=.slice a (n+m) cap:=by
     obtain ⟨_,h2⟩:=hR.hov
     rcases h2 with ⟨h2,h3⟩ | ⟨b,cap,cur,h2,_⟩
     ·exact ⟨none,0,by rw [h2]; congr 1; omega⟩
     ·exact ⟨_,cap,h2⟩
    obtain ⟨a',cap,rfl⟩:=this
    exact .ref rfl ⟨⟨a',_,cap,hva,rfl,Nat.le_refl _⟩,.inr ⟨rfl,p,n,m,new,hx,rfl⟩⟩ fun _ h=>h
 | const v=>simp only [opd,Option.some.injEq] at hy; subst hy; exact ofConst_sound v
 | global n=>simp [opd] at hy
 | func f =>
  simp only [opd,Option.some.injEq] at hy
  subst hy
  exact .clo (fun _ h=>h) rfl rfl (by simp) (by simp)
end
end Go.Own
namespace Go.Own
open Go
set_option linter.unusedSectionVars false
variable [TB]
def cellT (P:Program) (t:TypeId):Bool :=
 match P.underlying t,P.info? t with
 | some (.struct _),_=>false
 | some (.array ..),_=>false
 | some _,some i=>i.size == 1
 | _,_=>false
def aggT (P:Program) (t:TypeId) (k:Nat):Bool :=
 match P.underlying t,P.info? t with
 | some (.struct _),some i=>i.size == k
 | some (.array ..),some i=>i.size == k
 | _,_=>false
def slT (P:Program) (t e:TypeId) (z:Nat):Bool :=
 match P.underlying t,P.info? e with
 | some (.slice e'),some i=>e' == e&&i.size == z
 | _,_=>false
def arrT (P:Program) (t e:TypeId) (n z:Nat):Bool :=
 match P.underlying t,P.info? e with
 | some (.array n' e'),some i=>n' == n&&e' == e&&i.size == z
 | _,_=>false
def strT (P:Program) (t:TypeId):Bool :=
 match P.underlying t with
 | some .string=>true
 | _=>false
def bytT (P:Program) (s d:TypeId):Bool :=
 match P.underlying s,P.underlying d with
 | some (.slice e),some .string=>match P.underlying e with
  | some (.int .u8)=>true
  | _=>false
 | _,_=>false
def fldT (P:Program) (s:TypeId) (f off:Nat) (t:TypeId):Bool :=
 match P.underlying s with
 | some (.struct fs) =>
  match fs[f]? with
  | some fd=>fd.offset == off&&fd.type == t&&(match P.info? t with | some i=>i.size != 0 | none=>false)
  | none=>false
 | _=>false
section
variable {P:Program}{w:World}
theorem cellT_spec {t:TypeId}(h:cellT P t=true):(isAgg t).run P w=.ok false w/\(sizeOf t).run P w=.ok 1 w:=by
 unfold cellT at h
 cases hu:P.underlying t with
 | none=>simp [hu] at h
 | some d =>
  cases hi:P.info? t with
  | none=>cases d <;> simp [hu,hi] at h
  | some i=>cases d <;> simp [hu,hi] at h <;> simp [isAgg,run_underlying hu,sizeOf,typeInfo,hi,h]
theorem aggT_spec {t:TypeId}{k:Nat}(h:aggT P t k=true):(isAgg t).run P w=.ok true w/\(sizeOf t).run P w=.ok k w:=by
 unfold aggT at h
 cases hu:P.underlying t with
 | none=>simp [hu] at h
 | some d =>
  cases hi:P.info? t with
  | none=>cases d <;> simp [hu,hi] at h
  | some i=>cases d <;> simp [hu,hi] at h <;> simp [isAgg,run_underlying hu,sizeOf,typeInfo,hi,h]
theorem slT_spec {t e:TypeId}{z:Nat}(h:slT P t e z=true):P.underlying t=some (.slice e)/\P.elem t=e/\(sizeOf e).run P w=.ok z w:=by
 unfold slT at h
 cases hu:P.underlying t with
 | none=>simp [hu] at h
 | some d =>
  cases hi:P.info? e with
  | none=>cases d <;> simp [hu,hi] at h
  | some i =>
   cases d <;> simp [hu,hi] at h
   obtain ⟨rfl,h⟩:=h
   exact ⟨rfl,by simp [Program.elem,hu],by simp [sizeOf,typeInfo,hi,h]⟩
theorem arrT_spec {t e:TypeId}{n z:Nat}(h:arrT P t e n z=true):P.underlying t=some (.array n e)/\(sizeOf e).run P w=.ok z w:=by
 unfold arrT at h
 cases hu:P.underlying t with
 | none=>simp [hu] at h
 | some d =>
  cases hi:P.info? e with
  | none=>cases d <;> simp [hu,hi] at h
  | some i =>
   cases d <;> simp [hu,hi] at h
   obtain ⟨⟨rfl,rfl⟩,h⟩:=h
   exact ⟨rfl,by simp [sizeOf,typeInfo,hi,h]⟩
theorem bytT_spec {s d:TypeId}(h:bytT P s d=true):∃ e,P.underlying s=some (.slice e)/\P.underlying e=some (.int .u8)/\P.underlying d=some .string:=by
 unfold bytT at h
 split at h
 ·rename_i e h1 h2
  split at h
  ·rename_i h3
   exact ⟨e,h1,h3,h2⟩
  ·cases h
 ·cases h
theorem strT_spec {t:TypeId}(h:strT P t=true):P.underlying t=some .string:=by
 unfold strT at h
 cases hu:P.underlying t with
 | none=>simp [hu] at h
 | some d=>cases d <;> simp [hu] at h; rfl
theorem fldT_spec {s:TypeId}{f off:Nat}{t:TypeId}(h:fldT P s f off t=true):∃ fs fd,P.underlying s=some (.struct fs)/\fs[f]?=some fd/\fd.offset=off/\fd.type=t/\∃ i,P.info? t=some i/\i.size≠0:=by
 unfold fldT at h
 cases hu:P.underlying s with
 | none=>simp [hu] at h
 | some d =>
  cases d <;> simp [hu] at h
  rename_i fs
  cases hf:fs[f]? with
  | none=>simp [hf] at h
  | some fd =>
   simp [hf] at h
   obtain ⟨⟨h1,h2⟩,h3⟩:=h
   cases hi:P.info? t with
   | none=>simp [hi] at h3
   | some i=>simp [hi] at h3; exact ⟨fs,fd,rfl,hf,h1,h2,i,rfl,h3⟩
theorem add_eq (b o k:Nat):(⟨b,o,none⟩:Addr).add k=⟨b,o+k,none⟩:=by
 unfold Addr.add
 split
 ·rename_i h; subst h; rfl
 ·rfl
theorem run_fieldAt {s:TypeId}{f off:Nat}{t:TypeId}(h:fldT P s f off t=true) (b o:Nat):(Instr.fieldAt s (.pointer (some ⟨b,o,none⟩)) f).run P w=.ok (.pointer (some ⟨b,o+off,none⟩)) w:=by
 obtain ⟨fs,fd,hu,hf,rfl,rfl,i,hi,h0⟩:=fldT_spec h
 simp [Instr.fieldAt,run_underlying hu,hf,Instr.sureAddr,fieldPlace,sizeOf,typeInfo,hi,h0,add_eq]
theorem run_loadCell {t:TypeId}(h:cellT P t=true) {a:Addr}{v:Value}(hc:w.cell? a=some v):(Instr.loadAt t (.pointer (some a))).run P w=.ok v w:=by
 obtain ⟨h1,h2⟩:=cellT_spec (w:=w) h
 simp [Instr.loadAt,Instr.sureAddr,loadVar,h1,hc]
theorem run_loadAgg {t:TypeId}{k:Nat}(h:aggT P t k=true) {b o:Nat}{vs:List Value}(hl:vs.length=k) (hc:∀ j v,vs[j]?=some v->w.cell? ⟨b,o+j,none⟩=some v) :
  (Instr.loadAt t (.pointer (some ⟨b,o,none⟩))).run P w=.ok (.agg vs.toArray) w:=by
 obtain ⟨h1,h2⟩:=aggT_spec (w:=w) h
 have:=run_loadCells_list (P:=P) w ⟨b,o,none⟩ vs (fun j v hj=>by rw [add_eq]; exact hc j v hj)
 rw [hl] at this
 simp [Instr.loadAt,Instr.sureAddr,loadVar,h1,h2,this]
end
end Go.Own
namespace Go.Own
open Go
set_option linter.unusedSectionVars false
variable [TB]
section
variable {w:World}{I:BSet}{ρ:AV->Value->Prop}{v:Value}{F:BSet}
theorem R.inv_lit {a:Value}(h:R w I ρ (.lit a) v F):v=a/\a.oneCell'=true:=by
 cases h with
 | lit hv=>exact ⟨rfl,hv⟩
 | ref hx=>simp [AV.isRef] at hx
theorem R.inv_nils (h:R w I ρ .nils v F):v=.slice none 0 0:=by
 cases h with
 | nils=>rfl
 | ref hx=>simp [AV.isRef] at hx
theorem R.inv_ptr {p:Place}{k:Nat}(h:R w I ρ (.ptr p k) v F):ρ (.ptr p k) v:=by
 cases h with
 | ref hx h=>exact h
theorem R.inv_brw {z:Nat}{p:Place}{n:Nat}(h:R w I ρ (.brw z p n) v F):ρ (.brw z p n) v:=by
 cases h with
 | ref hx h=>exact h
theorem R.inv_sub {z:Nat}{p:Place}{lo n:Nat}(h:R w I ρ (.sub z p lo n) v F):ρ (.sub z p lo n) v:=by
 cases h with
 | ref hx h=>exact h
theorem R.inv_imm {z n:Nat}{cs:List AV}(h:R w I ρ (.imm z n cs) v F):∃ a cap,v=.slice a n cap/\n<=cap/\cs.length=n * z /\
  (cs≠[]\/0<n->∃ (ad:Addr) (us:Nat->Value),a=some ad/\I ad.block/\ad.spot=none/\(∀ (k:Nat) (x:AV),cs[k]?=some x->(us k).oneCell'=true)/\(∀ (k:Nat) (x:AV),cs[k]?=some x->w.cell? ⟨ad.block,ad.off+k,none⟩=some (us k))/\∀ (k:Nat) (x:AV),cs[k]?=some x->R w I ρ x (us k) E0):=by
 cases h with
 | @imm0 _ cap a=>exact ⟨a,cap,rfl,Nat.zero_le _,by simp,fun h=>by simp at h⟩
 | @imm _ _ cap _ ad us _ hF hcap hI hs hl h1 hc hr=>exact ⟨_,cap,rfl,hcap,hl,fun _=>⟨ad,us,rfl,hI,hs,h1,hc,hr⟩⟩
 | ref hx=>simp [AV.isRef] at hx
theorem R.inv_iptr {cs:List AV}(h:R w I ρ (.iptr cs) v F):∃ (ad:Addr) (us:Nat->Value),v=.pointer (some ad)/\I ad.block/\ad.spot=none/\(∀ (k:Nat) (x:AV),cs[k]?=some x->(us k).oneCell'=true)/\(∀ (k:Nat) (x:AV),cs[k]?=some x->w.cell? ⟨ad.block,ad.off+k,none⟩=some (us k))/\∀ (k:Nat) (x:AV),cs[k]?=some x->R w I ρ x (us k) E0:=by
 cases h with
 | @iptr _ ad us _ hF hI hs h1 hc hr=>exact ⟨ad,us,rfl,hI,hs,h1,hc,hr⟩
 | ref hx=>simp [AV.isRef] at hx
theorem R.inv_agg {cs:List AV}(h:R w I ρ (.agg cs) v F) (hF:∀ c,¬ F c):∃ vs:Array Value,v=.agg vs/\cs.length=vs.size/\(∀ (k:Nat) (u:Value),vs[k]?=some u->u.oneCell'=true)/\∀ (k:Nat) (x:AV) (u:Value),cs[k]?=some x->vs[k]?=some u->R w I ρ x u E0:=by
 cases h with
 | @agg _ vs Fs _ hl h1 hr hd hF'=>exact ⟨vs,rfl,hl,h1,fun k x u hx hu=>(hr k x u hx hu).empty fun c hc=>hF c ((hF' c).2 ⟨k,(List.getElem?_eq_some_iff.1 hx).1,hc⟩)⟩
 | ref hx=>simp [AV.isRef] at hx
theorem R.inv_tup {cs:List AV}(h:R w I ρ (.tup cs) v F) (hF:∀ c,¬ F c):∃ vs:Array Value,v=.tuple vs/\cs.length=vs.size/\∀ (k:Nat) (x:AV) (u:Value),cs[k]?=some x->vs[k]?=some u->R w I ρ x u E0:=by
 cases h with
 | @tup _ vs Fs _ hl hr hd hF'=>exact ⟨vs,rfl,hl,fun k x u hx hu=>(hr k x u hx hu).empty fun c hc=>hF c ((hF' c).2 ⟨k,(List.getElem?_eq_some_iff.1 hx).1,hc⟩)⟩
 | ref hx=>simp [AV.isRef] at hx
theorem R.node {y:AV}{z n:Nat}{cs:List AV}(h:R w I ρ y v F) (hy:y=.own z n cs\/y=.obj cs) {k:Nat}{x:AV}(hk:cs[k]?=some x) :
  ∃ b u,addrOf v=some ⟨b,0,none⟩/\w.cell? ⟨b,k,none⟩=some u/\child w v k=some u/\u.oneCell'=true/\∃ Fk,R w I ρ x u Fk:=by
 rcases hy with rfl | rfl
 ·cases h with
  | @own _ _ _ _ e us Fs _ ho hl h1 hr hd hb hF =>
   have hlt:k<cs.length:=(List.getElem?_eq_some_iff.1 hk).1
   have hu:us[k]?=some us[k]:=List.getElem?_eq_getElem (hl ▸ hlt)
   have hch:=ownsRow_child ho hu
   obtain ⟨hus,h2⟩:=ho
   rcases h2 with ⟨rfl,rfl⟩ | ⟨b,cap,cur,rfl,hg,hh,rest⟩
   ·simp at hus; rw [hus] at hl; simp at hl; subst hl; simp at hlt
   ·exact ⟨b,_,rfl,by simpa [child] using hch,hch,h1 k _ hu,Fs k,hr k x _ hk hu⟩
  | ref hx=>simp [AV.isRef] at hx
 ·cases h with
  | @obj _ b e arr Fs _ ho hl h1 hr hd hb hF =>
   have hlt:k<cs.length:=(List.getElem?_eq_some_iff.1 hk).1
   have hu:arr[k]?=some arr[k]:=Array.getElem?_eq_getElem (hl ▸ hlt)
   exact ⟨b,_,rfl,by simp [World.cell?,ho,hu],by simp [child,World.cell?,ho,hu],h1 k _ hu,Fs k,hr k x _ hk hu⟩
  | ref hx=>simp [AV.isRef] at hx
end
def Bnd (g:Gst) (d:Nat):Option Operand->Nat->Prop
 | none,j=>j=d
 | some o,j=>∃ k,opd g o=some (.lit (.int k (j:Int)))
def ptrT (P:Program) (t:TypeId):Bool:=match P.underlying t with | some (.pointer _)=>true | _=>false
inductive PS1 (P:Program) (g:Gst):Op->TypeId->AV->Prop
 | move {x:Operand}{ty:TypeId}{y:AV}(hx:opd g x=some y):PS1 P g (.move x) ty y
 | assign {x:Operand}{ty:TypeId}{y:AV}(hx:opd g x=some y):PS1 P g (.assign x) ty y
 | pick {c a b:Operand}{ty:TypeId}{t:Bool}{r:AV}(hc:opd g c=some (.lit (.bool t))) (hr:opd g (if t then a else b)=some r):PS1 P g (.pick c a b) ty r
 | nilP {x:Operand}{ty:TypeId}{p:Place}{k:Nat}(hx:opd g x=some (.ptr p k)):PS1 P g (.nilCheck x) ty (.ptr p k)
 | eqP {x y:Operand}{ty t t2:TypeId}{p:Place}{k:Nat}(hx:opd g x=some (.ptr p k)) (hy:opd g y=some (.lit (.pointer none))) (ht:ptrT P t=true):PS1 P g (.binOp .eql t x y t2) ty (.lit (.bool false))
 | nilI {x:Operand}{ty:TypeId}{cs:List AV}(hx:opd g x=some (.iptr cs)):PS1 P g (.nilCheck x) ty (.iptr cs)
 | fieldP {x:Operand}{ty s t:TypeId}{f off:Nat}{p:Place}{k:Nat}(hx:opd g x=some (.ptr p k)) (hf:fldT P s f off t=true) (hok:RefOk g (.ptr p (k+off))):PS1 P g (.fieldAddr s x f) ty (.ptr p (k+off))
 | fieldI {x:Operand}{ty s t:TypeId}{f off:Nat}{cs:List AV}(hx:opd g x=some (.iptr cs)) (hf:fldT P s f off t=true):PS1 P g (.fieldAddr s x f) ty (.iptr (cs.drop off))
 | field1 {x:Operand}{ty s t:TypeId}{f off:Nat}{cs:List AV}{y:AV}(hx:opd g x=some (.agg cs)) (hf:fldT P s f off t=true) (ht:cellT P t=true) (hy:cs[off]?=some y):PS1 P g (.field s x f) ty y
 | fieldN {x:Operand}{ty s t:TypeId}{f off k:Nat}{cs:List AV}(hx:opd g x=some (.agg cs)) (hf:fldT P s f off t=true) (ht:aggT P t k=true) (hk:off+k<=cs.length):PS1 P g (.field s x f) ty (.agg ((cs.drop off).take k))
 | idxImm {x i:Operand}{ty t e:TypeId}{z n:Nat}{cs:List AV}{kd:IntKind}{j:Nat}(hx:opd g x=some (.imm z n cs)) (hi:opd g i=some (.lit (.int kd (j:Int)))) (ht:slT P t e z=true) (hj:j<n):PS1 P g (.indexAddr t x i) ty (.iptr (cs.drop (j * z)))
 | idxBrw {x i:Operand}{ty t e:TypeId}{z n:Nat}{p:Place}{kd:IntKind}{j:Nat}(hx:opd g x=some (.brw z p n)) (hi:opd g i=some (.lit (.int kd (j:Int)))) (ht:slT P t e z=true) (hj:j<n) (hok:RefOk g (.ptr p (j * z))):PS1 P g (.indexAddr t x i) ty (.ptr p (j * z))
 | idxSub {x i:Operand}{ty t e:TypeId}{z lo n:Nat}{p:Place}{kd:IntKind}{j:Nat}(hx:opd g x=some (.sub z p lo n)) (hi:opd g i=some (.lit (.int kd (j:Int)))) (ht:slT P t e z=true) (hj:j<n) (hok:RefOk g (.ptr p ((lo+j) * z))):PS1 P g (.indexAddr t x i) ty (.ptr p ((lo+j) * z))
 | idxArrP {x i:Operand}{ty t e:TypeId}{n z k:Nat}{p:Place}{kd:IntKind}{j:Nat}(hx:opd g x=some (.ptr p k)) (hi:opd g i=some (.lit (.int kd (j:Int)))) (ht:arrT P t e n z=true) (hj:j<n) (hok:RefOk g (.ptr p (k+j * z))):PS1 P g (.indexAddr t x i) ty (.ptr p (k+j * z))
 | idxArrI {x i:Operand}{ty t e:TypeId}{n z:Nat}{cs:List AV}{kd:IntKind}{j:Nat}(hx:opd g x=some (.iptr cs)) (hi:opd g i=some (.lit (.int kd (j:Int)))) (ht:arrT P t e n z=true) (hj:j<n):PS1 P g (.indexAddr t x i) ty (.iptr (cs.drop (j * z)))
 | loadI1 {x:Operand}{ty t:TypeId}{c:AV}{cs:List AV}(hx:opd g x=some (.iptr (c::cs))) (ht:cellT P t=true):PS1 P g (.load t x) ty c
 | loadIN {x:Operand}{ty t:TypeId}{k:Nat}{cs:List AV}(hx:opd g x=some (.iptr cs)) (ht:aggT P t k=true) (hk:k<=cs.length):PS1 P g (.load t x) ty (.agg (cs.take k))
 | load1 {x:Operand}{ty t:TypeId}{p:Place}{k:Nat}{y:AV}(hx:opd g x=some (.ptr p k)) (ht:cellT P t=true) (hy:atP g (p.push k)=some y):PS1 P g (.load t x) ty (refIn 0 (p.push k) y)
 | loadN {x:Operand}{ty t:TypeId}{p:Place}{k m z n:Nat}{y:AV}{cs:List AV}(hx:opd g x=some (.ptr p k)) (ht:aggT P t m=true) (hy:atP g p=some y) (hc:y=.own z n cs\/y=.obj cs) (hm:k+m<=cs.length):PS1 P g (.load t x) ty (.agg (((cs.drop k).take m).mapIdx fun i x=>refIn 0 (p.push (k+i)) x))
 | idxStr {x i:Operand}{ty t:TypeId}{s:ByteArray}{kd:IntKind}{j:Nat}{b:UInt8}(hx:opd g x=some (.lit (.string s))) (hi:opd g i=some (.lit (.int kd (j:Int)))) (ht:strT P t=true) (hb:s[j]?=some b):PS1 P g (.index t x i) ty (.lit (.int .u8 b.toNat))
 | bin {op:BinOp}{x y:Operand}{ty t t2:TypeId}{a b v:Value}(hx:opd g x=some (.lit a)) (hy:opd g y=some (.lit b)) (hv:v.oneCell'=true) (hr:∀ w,(do eqGuard op t x y a b; binOp op t a b:Sem Value).run P w=.ok v w):PS1 P g (.binOp op t x y t2) ty (.lit v)
 | binA {op:BinOp}{x y:Operand}{ty t t2:TypeId}{az bs:List Value}{v:Value}(hx:opd g x=some (.agg (az.map .lit))) (hy:opd g y=some (.agg (bs.map .lit))) (hv:v.oneCell'=true) (hr:∀ w,(do eqGuard op t x y (.agg az.toArray) (.agg bs.toArray); binOp op t (.agg az.toArray) (.agg bs.toArray):Sem Value).run P w=.ok v w):PS1 P g (.binOp op t x y t2) ty (.lit v)
 | un {op:UnOp}{x:Operand}{ty t:TypeId}{a v:Value}(hx:opd g x=some (.lit a)) (hv:v.oneCell'=true) (hr:∀ w,(Op.unary op a).run P w=.ok v w):PS1 P g (.unOp op t x) ty (.lit v)
 | conv {x:Operand}{ty s d:TypeId}{a v:Value}(hx:opd g x=some (.lit a)) (hv:v.oneCell'=true) (hr:∀ w,(convert s d a).run P w=.ok v w):PS1 P g (.convert s d x) ty (.lit v)
 | convB {x:Operand}{ty s d:TypeId}{n N:Nat}{p:Place}{cs:List AV}{xs:List Int}(hx:opd g x=some (.brw 1 p n)) (hp:atP g p=some (.own 1 N cs)) (hn:n<=N) (hcs:cs.take n=xs.map fun b=>.lit (.int .u8 b)) (ht:bytT P s d=true):PS1 P g (.convert s d x) ty (.lit (.string (strOfNums xs)))
 | convI {x:Operand}{ty s d:TypeId}{n:Nat}{xs:List Int}(hx:opd g x=some (.imm 1 n (xs.map fun b=>.lit (.int .u8 b)))) (ht:bytT P s d=true):PS1 P g (.convert s d x) ty (.lit (.string (strOfNums xs)))
 | extF {xs:Array Operand}{tys:Array TypeId}{ty:TypeId}{f:FuncId}{vs:List Value}{v:Value}(hx:xs.toList.map (opd g)=vs.map fun v=>some (.lit v)) (hv:v.oneCell'=true)
   (hr:∀ w,(callFunc f vs.toArray).run P w=.ok (.value v) w):PS1 P g (.call { callee:=.value (.func f),args:=xs,argTypes:=tys }) ty (.lit v)
 | extr {x:Operand}{ty:TypeId}{i:Nat}{cs:List AV}{y:AV}(hx:opd g x=some (.tup cs)) (hy:cs[i]?=some y):PS1 P g (.extract x i) ty y
 | sliceImm {x:Operand}{lo hi:Option Operand}{ty t e:TypeId}{z n l h:Nat}{cs:List AV}(hx:opd g x=some (.imm z n cs)) (hl:Bnd g 0 lo l) (hh:Bnd g n hi h) (ht:slT P t e z=true) (hlh:l<=h) (hn:h<=n):PS1 P g (.slice t x lo hi none) ty (.imm z (h - l) ((cs.drop (l * z)).take ((h - l) * z)))
 | sliceBrw0 {x:Operand}{lo hi:Option Operand}{ty t e:TypeId}{z n h:Nat}{p:Place}(hx:opd g x=some (.brw z p n)) (hl:Bnd g 0 lo 0) (hh:Bnd g n hi h) (ht:slT P t e z=true) (hn:h<=n) (hok:RefOk g (.brw z p h)):PS1 P g (.slice t x lo hi none) ty (.brw z p h)
 | sliceBrw {x:Operand}{lo hi:Option Operand}{ty t e:TypeId}{z n l h:Nat}{p:Place}(hx:opd g x=some (.brw z p n)) (hl:Bnd g 0 lo l) (hh:Bnd g n hi h) (ht:slT P t e z=true) (hlh:l<=h) (hn:h<=n) (hok:RefOk g (.sub z p l (h - l))):PS1 P g (.slice t x lo hi none) ty (.sub z p l (h - l))
 | sliceStr {x:Operand}{lo hi:Option Operand}{ty t:TypeId}{l h:Nat}{s:ByteArray}(hx:opd g x=some (.lit (.string s))) (hl:Bnd g 0 lo l) (hh:Bnd g s.size hi h) (ht:strT P t=true) (hlh:l<=h) (hn:h<=s.size):PS1 P g (.slice t x lo hi none) ty (.lit (.string (s.extract l h)))
 | lenImm {x:Operand}{ty t e:TypeId}{z z' n:Nat}{cs:List AV}(hx:opd g x=some (.imm z n cs)) (ht:slT P t e z'=true):PS1 P g (.call { callee:=.builtin .len,args:=#[x],argTypes:=#[t] }) ty (.lit (.int .i64 n))
 | lenBrw {x:Operand}{ty t e:TypeId}{z z' n:Nat}{p:Place}(hx:opd g x=some (.brw z p n)) (ht:slT P t e z'=true):PS1 P g (.call { callee:=.builtin .len,args:=#[x],argTypes:=#[t] }) ty (.lit (.int .i64 n))
 | lenSub {x:Operand}{ty t e:TypeId}{z z' lo n:Nat}{p:Place}(hx:opd g x=some (.sub z p lo n)) (ht:slT P t e z'=true):PS1 P g (.call { callee:=.builtin .len,args:=#[x],argTypes:=#[t] }) ty (.lit (.int .i64 n))
 | lenNils {x:Operand}{ty t e:TypeId}{z':Nat}(hx:opd g x=some .nils) (ht:slT P t e z'=true):PS1 P g (.call { callee:=.builtin .len,args:=#[x],argTypes:=#[t] }) ty (.lit (.int .i64 0))
 | lits {b:Builtin}{xs:Array Operand}{tys:Array TypeId}{ty:TypeId}{vs:List Value}{v:Value}(hx:xs.toList.map (opd g)=vs.map fun v=>some (.lit v)) (hv:v.oneCell'=true)
   (hr:∀ w (cs:Array Bool),(builtin b tys ty cs vs.toArray).run P w=.ok (.value v) w):PS1 P g (.call { callee:=.builtin b,args:=xs,argTypes:=tys }) ty (.lit v)
 | lkM {x y:Operand}{ty t:TypeId}{p:Place}{q:Array MapEntry->Nat->Prop}{ok:Bool}{Y X:AV}{kv V:Value}(hx:opd g x=some (.mref p)) (hp:atP g p=some (.mp q)) (hy:opd g y=some Y)
   (hK:∀ (w:World) (I:BSet) (ρ:AV->Value->Prop) (v:Value),R w I ρ Y v E0->v=kv) (hR:∀ (w:World) (I:BSet) (ρ:AV->Value->Prop),R w I ρ X V E0)
   (hr:∀ (w:World) (b:Nat) (es:Array MapEntry) (clock:Nat),w.heap[b]?=some (.map es clock)->q es clock->(Instr.lookup t (.map (some b)) kv ok).run P w=.ok V w):PS1 P g (.lookup t x y ok) ty X
 | lkI {x y:Operand}{ty t:TypeId}{q:Array MapEntry->Nat->Prop}{ok:Bool}{Y X:AV}{kv V:Value}(hx:opd g x=some (.imp q)) (hy:opd g y=some Y)
   (hK:∀ (w:World) (I:BSet) (ρ:AV->Value->Prop) (v:Value),R w I ρ Y v E0->v=kv) (hR:∀ (w:World) (I:BSet) (ρ:AV->Value->Prop),R w I ρ X V E0)
   (hr:∀ (w:World) (b:Nat) (es:Array MapEntry) (clock:Nat),w.heap[b]?=some (.map es clock)->q es clock->(Instr.lookup t (.map (some b)) kv ok).run P w=.ok V w):PS1 P g (.lookup t x y ok) ty X
theorem R.inv_mref {w:World}{I:BSet}{ρ:AV->Value->Prop}{p:Place}{v:Value}{F:BSet}(h:R w I ρ (.mref p) v F):ρ (.mref p) v:=by
 cases h with
 | ref _ h _=>exact h
theorem R.inv_mp {w:World}{I:BSet}{ρ:AV->Value->Prop}{q:Array MapEntry->Nat->Prop}{v:Value}{F:BSet}(h:R w I ρ (.mp q) v F):∃ b es clock,v=.map (some b)/\w.heap[b]?=some (.map es clock)/\q es clock/\∀ c,F c↔c=b:=by
 cases h with
 | ref hx=>simp [AV.isRef] at hx
 | mp ho hq hF=>exact ⟨_,_,_,rfl,ho,hq,hF⟩
theorem R.inv_imp {w:World}{I:BSet}{ρ:AV->Value->Prop}{q:Array MapEntry->Nat->Prop}{v:Value}{F:BSet}(h:R w I ρ (.imp q) v F):∃ b es clock,v=.map (some b)/\w.heap[b]?=some (.map es clock)/\q es clock:=by
 cases h with
 | ref hx=>simp [AV.isRef] at hx
 | imp _ _ ho hq=>exact ⟨_,_,_,rfl,ho,hq⟩
end Go.Own
namespace Go.Own
open Go
set_option linter.unusedSectionVars false
variable [TB]
section
variable {P:Program}{w:World}{I:BSet}{T:Array Value}{g:Gst}{Fs:Nat->BSet}
theorem Bnd.sound (h:SR w I T g Fs) {d:Nat}{x:Option Operand}{j:Nat}(hb:Bnd g d x j) {a:Act}(ha:a.tmps=T):(x.map a.eval=none/\j=d)\/∃ k,x.map a.eval=some (.int k (j:Int)):=by
 cases x with
 | none=>exact .inl ⟨rfl,hb⟩
 | some o =>
  obtain ⟨k,hk⟩:=hb
  exact .inr ⟨k,by rw [Option.map_some,(opd_sound h hk ha).inv_lit.1]⟩
theorem run_bounds {len cap l h:Nat}{lo hi:Option Value}(hl:(lo=none/\l=0)\/∃ k,lo=some (.int k (l:Int))) (hh:(hi=none/\h=len)\/∃ k,hi=some (.int k (h:Int))) (b:Bool) (hlh:l<=h) (hc:h<=cap) :
  (Instr.sliceBounds b len cap lo hi none).run P w=.ok (l,h,cap) w:=by
 rcases hl with ⟨rfl,rfl⟩ | ⟨k,rfl⟩ <;> rcases hh with ⟨rfl,rfl⟩ | ⟨k',rfl⟩ <;> simp [Instr.sliceBounds,Instr.sliceBound,asIntOf,hlh,hc]
theorem litArgs (h:SR w I T g Fs) {a:Act}(ha:a.tmps=T):∀ (xs:List Operand) (vs:List Value),xs.map (opd g)=vs.map (fun v=>some (.lit v))->xs.map a.eval=vs
 | [],[],_=>rfl
 | [],_::_,h=>by simp at h
 | _::_,[],h=>by simp at h
 | x::xs,v::vs,hx=>by
  simp only [List.map_cons,List.cons.injEq] at hx
  rw [List.map_cons,(opd_sound h hx.1 ha).inv_lit.1,litArgs h ha xs vs hx.2]
theorem aggLits {w:World}{I:BSet}{ρ:AV->Value->Prop}{v:Value}{az:List Value}
  (h:∃ vs:Array Value,v=.agg vs/\(az.map AV.lit).length=vs.size/\(∀ (k:Nat) (u:Value),vs[k]?=some u->u.oneCell'=true)/\∀ (k:Nat) (x:AV) (u:Value),(az.map AV.lit)[k]?=some x->vs[k]?=some u->R w I ρ x u E0):v=.agg az.toArray:=by
 obtain ⟨vs,rfl,hl,-,hr⟩:=h
 congr 1
 apply Array.ext (by simpa using hl.symm)
 intro i h1 h2
 have h3:i<az.length:=by simpa using h2
 have:=(hr i (.lit az[i]) vs[i] (by simp [h3]) (Array.getElem?_eq_getElem h1)).inv_lit.1
 simpa using this
theorem run_eqPN {P:Program}{t e:TypeId}(hu:P.underlying t=some (.pointer e)) (d:Nat) (a:Addr) (w:World):(Op.equalIn (d+1) t (.pointer (some a)) (.pointer none)).run P w=.ok false w:=by
 unfold Op.equalIn
 simp [run_underlying hu]
theorem run_binPN {P:Program}{t e:TypeId}(hu:P.underlying t=some (.pointer e)) (a:Addr) (w:World):(binOp .eql t (.pointer (some a)) (.pointer none)).run P w=.ok (.bool false) w:=by
 have h:binOp .eql t (.pointer (some a)) (.pointer none)=(do pure (.bool (<- Op.equal t (.pointer (some a)) (.pointer none))):Sem Value):=rfl
 have e:Op.maxDepth=9999+1:=rfl
 rw [h]
 unfold Op.equal
 rw [e]
 simp only [Sem.run_bind,run_eqPN hu,Result.andThen_ok,Sem.run_pure]
theorem PS1.sound (h:SR w I T g Fs) {a:Act}(ha:a.tmps=T) {o:Oper}{xv:AV}(hp:PS1 P g o.op o.type xv) :
  ∃ v,(execOp a.eval o).run P w=.ok (.value v) w/\R w I (RG w T g) xv v E0:=by
 obtain ⟨dst,op,ty,pos,after,guard⟩:=o
 simp only at hp
 have ev:∀ {x:Operand}{y:AV},opd g x=some y->R w I (RG w T g) y (a.eval x) E0:=fun hy=>opd_sound h hy ha
 have no:∀ c,¬ E0 c:=fun _ h=>h
 cases hp with
 | move hx=>exact ⟨_,by simp [execOp],ev hx⟩
 | assign hx=>exact ⟨_,by simp [execOp],ev hx⟩
 | @pick c x y _ t r hc hr =>
  have hcv:=(ev hc).inv_lit.1
  refine ⟨_,?_,ev hr⟩
  simp [execOp,hcv,asBool]
  cases t <;> rfl
 | @nilP x _ p k hx =>
  have hr:=ev hx
  obtain ⟨⟨u,ad,h1,h2,h3⟩,h4⟩:=hr.inv_ptr
  exact ⟨_,by simp [execOp,h3],h3 ▸ hr⟩
 | @eqP x y _ t t2 p k hx hy ht =>
  obtain ⟨⟨u,ad,h1,h2,h3⟩,h4⟩:=(ev hx).inv_ptr
  have h5:=(ev hy).inv_lit.1
  unfold ptrT at ht
  split at ht
  ·rename_i e hu
   refine ⟨.bool false,?_,.lit rfl no⟩
   have hr:∀ (c:Addr) (w:World),(do eqGuard .eql t x y (.pointer (some c)) (.pointer none); binOp .eql t (.pointer (some c)) (.pointer none):Sem Value).run P w=.ok (.bool false) w:=fun c w=>by
    have e:eqGuard .eql t x y (.pointer (some c)) (.pointer none)=pure ():=rfl
    rw [e]
    simp only [Sem.run_bind,Sem.run_pure,Result.andThen_ok,run_binPN hu]
   simp only [execOp,h3,h5]
   rw [Sem.run_bind,hr]
   rfl
  ·cases ht
 | @nilI x _ cs hx =>
  have hr:=ev hx
  obtain ⟨ad,us,h3,_⟩:=hr.inv_iptr
  exact ⟨_,by simp [execOp,h3],h3 ▸ hr⟩
 | @fieldP x _ s t f off p k hx hf hok =>
  obtain ⟨⟨u,ad,h1,h2,h3⟩,h4⟩:=(ev hx).inv_ptr
  refine ⟨.pointer (some ⟨ad.block,ad.off+k+off,none⟩),by simp [execOp,h3,run_fieldAt hf],.ref rfl ⟨⟨u,ad,h1,h2,by rw [Nat.add_assoc]⟩,hok⟩ no⟩
 | @fieldI x _ s t f off cs hx hf =>
  obtain ⟨ad,us,h3,hI,hs,hone,hc,hr⟩:=(ev hx).inv_iptr
  obtain ⟨b,o,sp⟩:=ad
  simp only at hs
  subst hs
  refine ⟨.pointer (some ⟨b,o+off,none⟩),by simp [execOp,h3,run_fieldAt hf],.iptr (us:=fun k=>us (off+k)) no hI rfl (fun k x hk=>hone _ x (by rwa [List.getElem?_drop] at hk)) (fun k x hk=>?_) fun k x hk=>?_⟩
  ·rw [List.getElem?_drop] at hk; simpa [Nat.add_assoc] using hc _ x hk
  ·rw [List.getElem?_drop] at hk; exact hr _ x hk
 | @field1 x _ s t f off cs y hx hf ht hy =>
  obtain ⟨vs,h3,hl,hone,hr⟩:=(ev hx).inv_agg no
  obtain ⟨fs,fd,hu,hfd,rfl,rfl,i,hi,h0⟩:=fldT_spec hf
  have hk:fd.offset<cs.length:=(List.getElem?_eq_some_iff.1 hy).1
  have hv:vs[fd.offset]?=some vs[fd.offset]:=Array.getElem?_eq_getElem (hl ▸ hk)
  refine ⟨_,?_,hr _ xv _ hy hv⟩
  simp [execOp,h3,Instr.field,run_underlying hu,hfd,asAgg,part,(cellT_spec (w:=w) ht).1,hv]
 | @fieldN x _ s t f off k cs hx hf ht hk =>
  obtain ⟨vs,h3,hl,hone,hr⟩:=(ev hx).inv_agg no
  obtain ⟨fs,fd,hu,hfd,rfl,rfl,i,hi,h0⟩:=fldT_spec hf
  refine ⟨.agg (vs.extract fd.offset (fd.offset+k)),?_,.agg (Fs:=fun _=>E0) (by simp [hl]; omega) (fun j u hu'=>by
   rw [Array.getElem?_extract] at hu'
   split at hu'
   ·exact hone _ u hu'
   ·cases hu') (fun j y u hy hu'=>?_) (fun _ _ _ _ _ h=>h.elim) (fun c=>⟨fun h=>h.elim,fun ⟨_,_,h⟩=>h⟩)⟩
  ·simp [execOp,h3,Instr.field,run_underlying hu,hfd,asAgg,part,(aggT_spec (w:=w) ht).1,(aggT_spec (w:=w) ht).2]
  ·rw [List.getElem?_take] at hy
   split at hy
   ·rw [List.getElem?_drop] at hy
    rw [Array.getElem?_extract] at hu'
    split at hu'
    ·exact hr _ y u hy hu'
    ·cases hu'
   ·cases hy
 | @idxImm x i _ t e z n cs kd j hx hi ht hj =>
  obtain ⟨hu,he,hz⟩:=slT_spec (w:=w) ht
  obtain ⟨aa,cap,h3,_,hl,hm⟩:=(ev hx).inv_imm
  obtain ⟨ad,us,rfl,hI,hs,hone,hc,hr⟩:=hm (.inr (by omega))
  obtain ⟨b,o,sp⟩:=ad
  simp only at hs
  subst hs
  have hiv:=(ev hi).inv_lit.1
  refine ⟨.pointer (some ⟨b,o+j * z,none⟩),?_,.iptr (us:=fun k=>us (j * z+k)) no hI rfl (fun k x hk=>hone _ x (by rwa [List.getElem?_drop] at hk)) (fun k x hk=>?_) fun k x hk=>?_⟩
  ·simp [execOp,h3,hiv,Instr.indexAt,run_underlying hu,asIntOf,hj,hz,add_eq]
  ·rw [List.getElem?_drop] at hk; simpa [Nat.add_assoc] using hc _ x hk
  ·rw [List.getElem?_drop] at hk; exact hr _ x hk
 | @idxBrw x i _ t e z n p kd j hx hi ht hj hok =>
  obtain ⟨hu,he,hz⟩:=slT_spec (w:=w) ht
  obtain ⟨⟨aa,N,cap,h1,h2,h3⟩,h4⟩:=(ev hx).inv_brw
  have hiv:=(ev hi).inv_lit.1
  obtain ⟨y,hy,zz,nn,cs,hyc,hlt⟩:=hok
  obtain ⟨v,Fy,hv,hRy,_⟩:=h.part hy (by rcases hyc with rfl | rfl <;> simp)
  rw [h1] at hv
  cases hv
  obtain ⟨b,u,had,hcell,_,_⟩:=hRy.node hyc (List.getElem?_eq_getElem hlt)
  cases aa with
  | none=>simp [addrOf] at had
  | some ad =>
   simp only [addrOf,Option.some.injEq] at had
   subst had
   refine ⟨.pointer (some ⟨b,j * z,none⟩),?_,.ref rfl ⟨⟨_,_,h1,rfl,by simp⟩,y,hy,zz,nn,cs,hyc,hlt⟩ no⟩
   simp [execOp,h2,hiv,Instr.indexAt,run_underlying hu,asIntOf,hj,hz,add_eq]
 | @idxSub x i _ t e z lo n p kd j hx hi ht hj hok =>
  obtain ⟨hu,he,hz⟩:=slT_spec (w:=w) ht
  obtain ⟨⟨aa,N,cap,a',cap',h1,h2,_,h3,h5⟩,h4⟩:=(ev hx).inv_sub
  obtain ⟨ad,rfl,rfl⟩:=h5 (by omega)
  have hiv:=(ev hi).inv_lit.1
  obtain ⟨y,hy,zz,nn,cs,hyc,hlt⟩:=hok
  obtain ⟨v,Fy,hv,hRy,_⟩:=h.part hy (by rcases hyc with rfl | rfl <;> simp)
  rw [h1] at hv
  cases hv
  obtain ⟨b,u,had,hcell,_,_⟩:=hRy.node hyc (List.getElem?_eq_getElem hlt)
  simp only [addrOf,Option.some.injEq] at had
  subst had
  refine ⟨.pointer (some ⟨b,(lo+j) * z,none⟩),?_,.ref rfl ⟨⟨_,_,h1,rfl,by simp⟩,y,hy,zz,nn,cs,hyc,hlt⟩ no⟩
  simp [execOp,h2,hiv,Instr.indexAt,run_underlying hu,asIntOf,hj,hz,add_eq,Nat.add_mul]
 | @idxArrP x i _ t e n z k p kd j hx hi ht hj hok =>
  obtain ⟨hu,hz⟩:=arrT_spec (w:=w) ht
  obtain ⟨⟨u,ad,h1,h2,h3⟩,h4⟩:=(ev hx).inv_ptr
  have hiv:=(ev hi).inv_lit.1
  refine ⟨.pointer (some ⟨ad.block,ad.off+k+j * z,none⟩),?_,.ref rfl ⟨⟨u,ad,h1,h2,by rw [Nat.add_assoc]⟩,hok⟩ no⟩
  simp [execOp,h3,hiv,Instr.indexAt,run_underlying hu,Instr.sureAddr,asIntOf,hj,hz,add_eq]
 | @idxArrI x i _ t e n z cs kd j hx hi ht hj =>
  obtain ⟨hu,hz⟩:=arrT_spec (w:=w) ht
  obtain ⟨ad,us,h3,hI,hs,hone,hc,hr⟩:=(ev hx).inv_iptr
  obtain ⟨b,o,sp⟩:=ad
  simp only at hs
  subst hs
  have hiv:=(ev hi).inv_lit.1
  refine ⟨.pointer (some ⟨b,o+j * z,none⟩),?_,.iptr (us:=fun k=>us (j * z+k)) no hI rfl (fun k x hk=>hone _ x (by rwa [List.getElem?_drop] at hk)) (fun k x hk=>?_) fun k x hk=>?_⟩
  ·simp [execOp,h3,hiv,Instr.indexAt,run_underlying hu,Instr.sureAddr,asIntOf,hj,hz,add_eq]
  ·rw [List.getElem?_drop] at hk; simpa [Nat.add_assoc] using hc _ x hk
  ·rw [List.getElem?_drop] at hk; exact hr _ x hk
 | @loadI1 x _ t c cs hx ht =>
  obtain ⟨ad,us,h3,hI,hs,hone,hc,hr⟩:=(ev hx).inv_iptr
  obtain ⟨b,o,sp⟩:=ad
  simp only at hs
  subst hs
  have h0:w.cell? ⟨b,o,none⟩=some (us 0):=by simpa using hc 0 xv rfl
  exact ⟨us 0,by simp [execOp,h3,run_loadCell ht h0],hr 0 xv rfl⟩
 | @loadIN x _ t k cs hx ht hk =>
  obtain ⟨ad,us,h3,hI,hs,hone,hc,hr⟩:=(ev hx).inv_iptr
  obtain ⟨b,o,sp⟩:=ad
  simp only at hs
  subst hs
  have hlist:∀ j v,((List.range k).map us)[j]?=some v->w.cell? ⟨b,o+j,none⟩=some v:=by
   intro j v hj
   rw [List.getElem?_map] at hj
   by_cases hjk:j<k
   ·rw [List.getElem?_range hjk] at hj
    simp only [Option.map_some,Option.some.injEq] at hj
    rw [<- hj]
    exact hc j _ (List.getElem?_eq_getElem (by omega))
   ·rw [List.getElem?_eq_none (by simp; omega)] at hj; cases hj
  refine ⟨.agg ((List.range k).map us).toArray,by simp [execOp,h3,run_loadAgg ht (by simp) hlist],.agg (Fs:=fun _=>E0) (by simp; omega) (fun j u hu'=>by
   simp only [List.getElem?_toArray,List.getElem?_map] at hu'
   by_cases hjk:j<k
   ·rw [List.getElem?_range hjk] at hu'
    simp only [Option.map_some,Option.some.injEq] at hu'
    rw [<- hu']
    exact hone j _ (List.getElem?_eq_getElem (by omega))
   ·rw [List.getElem?_eq_none (by simp; omega)] at hu'; cases hu') (fun j y u hy hu'=>?_) (fun _ _ _ _ _ h=>h.elim) (fun c=>⟨fun h=>h.elim,fun ⟨_,_,h⟩=>h⟩)⟩
  rw [List.getElem?_take] at hy
  split at hy
  ·rename_i hjk
   simp [hjk] at hu'
   rw [<- hu']
   exact hr j y hy
  ·cases hy
 | @load1 x _ t p k y hx ht hy =>
  obtain ⟨⟨u,ad,h1,h2,h3⟩,h4⟩:=(ev hx).inv_ptr
  rw [atP_push] at hy
  cases hn:atP g p with
  | none=>rw [hn] at hy; cases hy
  | some nd =>
   rw [hn] at hy
   simp only [Option.bind_some] at hy
   obtain ⟨y',hy',zz,nn,cs,hyc,hlt⟩:=h4
   rw [hn] at hy'
   cases hy'
   obtain ⟨v,Fy,hv,hRy,hFy⟩:=h.part hn (by rcases hyc with rfl | rfl <;> simp)
   rw [h1] at hv
   cases hv
   have hk':cs[k]?=some y:=by rcases hyc with rfl | rfl <;> simpa [AV.kids] using hy
   obtain ⟨b,uu,had,hcell,hch,hone,Fk,hRk⟩:=hRy.node hyc hk'
   rw [had] at h2
   cases h2
   refine ⟨uu,by simp only [execOp,h3]; simp [run_loadCell ht hcell],refIn_sound 0 (by rw [atP_push,hn]; exact hy) (by rw [valAt_push,h1]; exact hch) hRk⟩
 | @loadN x _ t p k m z n y cs hx ht hy hyc hm =>
  obtain ⟨⟨u,ad,h1,h2,h3⟩,h4⟩:=(ev hx).inv_ptr
  obtain ⟨v,Fy,hv,hRy,hFy⟩:=h.part hy (by rcases hyc with rfl | rfl <;> simp)
  rw [h1] at hv
  cases hv
  have hbase:∃ b,ad=⟨b,0,none⟩:=by
   obtain ⟨y',hy',zz,nn,cs',hyc',hlt⟩:=h4
   rw [hy] at hy'
   cases hy'
   have:cs'=cs:=by rcases hyc with rfl | rfl <;> rcases hyc' with hh | hh <;> cases hh <;> rfl
   subst this
   obtain ⟨b,uu,had,_⟩:=hRy.node hyc' (List.getElem?_eq_getElem hlt)
   rw [had] at h2
   exact ⟨b,(Option.some.inj h2).symm⟩
  obtain ⟨b,rfl⟩:=hbase
  have hkids:y.kids=cs:=by rcases hyc with rfl | rfl <;> rfl
  have cell:∀ j,j<m->∃ uu,w.cell? ⟨b,k+j,none⟩=some uu/\uu.oneCell'=true/\∃ xx,cs[k+j]?=some xx/\R w I (RG w T g) (refIn 0 (p.push (k+j)) xx) uu E0:=by
   intro j hj
   have hx':cs[k+j]?=some cs[k+j]:=List.getElem?_eq_getElem (by omega)
   obtain ⟨b',uu,had,hcell,hch,hone,Fk,hRk⟩:=hRy.node hyc hx'
   rw [h2] at had
   cases had
   exact ⟨uu,hcell,hone,_,hx',refIn_sound 0 (by rw [atP_push,hy]; simp [hkids]) (by rw [valAt_push,h1]; exact hch) hRk⟩
  have hex:∃ us:List Value,us.length=m/\∀ j v,us[j]?=some v->w.cell? ⟨b,k+j,none⟩=some v:=by
   refine ⟨(List.range m).map fun j=>(w.cell? ⟨b,k+j,none⟩).getD undef,by simp,?_⟩
   intro j v hj
   rw [List.getElem?_map] at hj
   by_cases hjm:j<m
   ·rw [List.getElem?_range hjm] at hj
    simp only [Option.map_some,Option.some.injEq] at hj
    obtain ⟨uu,hc,_⟩:=cell j hjm
    rw [hc] at hj
    simp only [Option.getD_some] at hj
    rw [hc,hj]
   ·rw [List.getElem?_eq_none (by simp; omega)] at hj; cases hj
  obtain ⟨us,hul,huc⟩:=hex
  refine ⟨.agg us.toArray,by simp only [execOp,h3]; simp [run_loadAgg ht hul (b:=b) (o:=k) huc],.agg (Fs:=fun _=>E0) (by simp; omega) (fun j u hu'=>by
   have hj:=huc j u (by simpa using hu')
   have hjm:j<m:=by rw [<- hul]; exact (List.getElem?_eq_some_iff.1 (by simpa using hu':us[j]?=some u)).1
   obtain ⟨uu,hc,h1c,_⟩:=cell j hjm
   rw [hc] at hj; cases hj; exact h1c) (fun j yy u hyy hu'=>?_) (fun _ _ _ _ _ h=>h.elim) (fun c=>⟨fun h=>h.elim,fun ⟨_,_,h⟩=>h⟩)⟩
  rw [List.getElem?_mapIdx,List.getElem?_take] at hyy
  split at hyy
  ·rename_i hjm
   rw [List.getElem?_drop] at hyy
   obtain ⟨uu,hc,_,xx,hxx,hR⟩:=cell j hjm
   rw [hxx] at hyy
   simp only [Option.map_some,Option.some.injEq] at hyy
   subst hyy
   have:=huc j u (by simpa using hu')
   rw [hc] at this
   cases this
   exact hR
  ·cases hyy
 | @convB x _ s d n N p cs xs hx hp hn hcs ht =>
  obtain ⟨e,hs,he,hd⟩:=bytT_spec ht
  obtain ⟨⟨aa,N',cap,h1,h2,h3⟩,_⟩:=(ev hx).inv_brw
  obtain ⟨v,Fy,hv,hRy,hFy⟩:=h.part hp (by simp)
  rw [h1] at hv
  cases hv
  have hcl:(cs.take n).length=n:=by
   obtain ⟨_,_,_,hl⟩:=hRy.own_slice
   rw [List.length_take]; omega
  have hlen:xs.length=n:=by rw [<- hcl,hcs,List.length_map]
  refine ⟨_,?_,.lit rfl no⟩
  obtain ⟨_,_,hsl,_,_,hoff,hsome⟩:=hRy.own_slice
  cases hsl
  cases aa with
  | none =>
   have h0:n=0:=by
    rcases Nat.eq_zero_or_pos N with h | h
    ·omega
    ·exact absurd (hsome h) (by simp)
   have:xs=[]:=List.eq_nil_of_length_eq_zero (hlen.trans h0)
   subst this
   have hr:=run_convert_bytes_nil (P:=P) (w:=w) s e hs he n cap d hd
   simp [execOp,h2,hr]
   rfl
  | some ad =>
   obtain ⟨b,o,sp⟩:=ad
   obtain ⟨rfl,rfl⟩:=hoff _ rfl
   have hr:=run_convert_bytes_arg (P:=P) w s e hs he b 0 n cap xs hlen (fun i hi=>by
    have hci:(cs.take n)[i]?=some (.lit (.int .u8 (xs.getD i 0))):=by
     rw [hcs,List.getElem?_map,List.getElem?_eq_getElem (by omega)]
     simp [List.getD,List.getElem?_eq_getElem (show i<xs.length by omega)]
    have hci':cs[i]?=some (.lit (.int .u8 (xs.getD i 0))):=by
     rw [List.getElem?_take] at hci
     simpa [hi] using hci
    obtain ⟨b',u,had,hcell,_,_,Fk,hRk⟩:=hRy.node (.inl rfl) hci'
    simp only [addrOf,Option.some.injEq,Addr.mk.injEq,and_true] at had
    subst had
    rw [Nat.zero_add,hcell,hRk.inv_lit.1]) d hd
   simp [execOp,h2,hr]
 | @convI x _ s d n xs hx ht =>
  obtain ⟨e,hs,he,hd⟩:=bytT_spec ht
  have hR:=ev hx
  generalize hev:a.eval x=v at hR
  refine ⟨_,?_,.lit rfl no⟩
  generalize hcs:(xs.map fun b=>AV.lit (.int .u8 b))=cs at hR
  cases hR with
  | ref hx=>simp [AV.isRef] at hx
  | @imm0 _ cap aa _ hF =>
   have:xs=[]:=by simpa using hcs
   subst this
   cases aa with
   | none =>
    have hr:=run_convert_bytes_nil (P:=P) (w:=w) s e hs he 0 cap d hd
    simp [execOp,hev,hr]
    rfl
   | some ad =>
    have hl:(loadCells ad 0).run P w=.ok (([]:List Int).map (Value.int .u8)).toArray w:=by
     have:=run_loadCells_list (P:=P) w ad [] (fun j v hj=>by simp at hj)
     simpa using this
    have hr:=run_bytesToString w ad 0 cap [] hl
    have hc:=run_convert_bytes_string (P:=P) w s d e (some ad) 0 cap hs he hd
    rw [hr] at hc
    simp [execOp,hev,hc]
    rfl
  | @imm _ _ cap _ ad us _ hF hcap hI hs2 hl h1 hc hr =>
   obtain ⟨b,o,sp⟩:=ad
   simp only at hs2
   subst hs2
   have hlen:xs.length=n:=by rw [<- List.length_map (f:=fun b=>AV.lit (.int .u8 b)),hcs,hl,Nat.mul_one]
   have hr':=run_convert_bytes_arg (P:=P) w s e hs he b o n cap xs hlen (fun i hi=>by
    have hci:cs[i]?=some (.lit (.int .u8 (xs.getD i 0))):=by
     rw [<- hcs,List.getElem?_map,List.getElem?_eq_getElem (by omega)]
     simp [List.getD,List.getElem?_eq_getElem (show i<xs.length by omega)]
    have:=hc i _ hci
    simp only at this
    rw [this,(hr i _ hci).inv_lit.1]) d hd
   simp [execOp,hev,hr']
 | @extF xs tys _ f vs v hx hv hr =>
  refine ⟨v,?_,.lit hv no⟩
  have hvs:xs.map a.eval=vs.toArray:=by
   apply Array.toList_inj.1
   apply List.ext_getElem?
   intro k
   have:=congrArg (·[k]?) hx
   simp only [List.getElem?_map] at this
   rw [Array.toList_map,List.getElem?_map]
   cases hk:xs.toList[k]? with
   | none =>
    rw [hk] at this
    cases hv:vs[k]? with
    | none=>simp
    | some v=>rw [hv] at this; cases this
   | some o =>
    rw [hk] at this
    cases hv:vs[k]? with
    | none=>rw [hv] at this; cases this
    | some v =>
     rw [hv] at this
     simp only [Option.map_some,Option.some.injEq] at this ⊢
     rw [(ev this).inv_lit.1]
  have hf:a.eval (.func f)=.func (.func f) #[] #[]:=rfl
  simp [execOp,resolve,Deferred.ofValue,invoke,hf,hvs,hr]
 | @idxStr x i _ t s kd j b hx hi ht hb =>
  have hsv:=(ev hx).inv_lit.1
  have hiv:=(ev hi).inv_lit.1
  refine ⟨.int .u8 b.toNat,?_,.lit rfl no⟩
  simp [execOp,hsv,hiv,Instr.index,run_underlying (strT_spec ht),asIntOf,hb]
 | @bin op x y _ t t2 a' b v hx hy hv hr =>
  have h1:=(ev hx).inv_lit.1
  have h2:=(ev hy).inv_lit.1
  refine ⟨v,?_,.lit hv no⟩
  simp only [execOp,h1,h2,Sem.run_bind (x:=do eqGuard op t x y a' b; binOp op t a' b),hr,Result.andThen_ok,Sem.run_pure]
 | @binA op x y _ t t2 az bs v hx hy hv hr =>
  have h1:=aggLits ((ev hx).inv_agg no)
  have h2:=aggLits ((ev hy).inv_agg no)
  refine ⟨v,?_,.lit hv no⟩
  simp only [execOp,h1,h2,Sem.run_bind (x:=do eqGuard op t x y (.agg az.toArray) (.agg bs.toArray); binOp op t (.agg az.toArray) (.agg bs.toArray)),hr,Result.andThen_ok,Sem.run_pure]
 | @un op x _ t a' v hx hv hr =>
  have h1:=(ev hx).inv_lit.1
  exact ⟨v,by simp [execOp,h1,hr],.lit hv no⟩
 | @conv x _ s d a' v hx hv hr =>
  have h1:=(ev hx).inv_lit.1
  exact ⟨v,by simp [execOp,h1,hr],.lit hv no⟩
 | @extr x _ i cs y hx hy =>
  obtain ⟨vs,h3,hl,hr⟩:=(ev hx).inv_tup no
  have hk:i<cs.length:=(List.getElem?_eq_some_iff.1 hy).1
  have hv:vs[i]?=some vs[i]:=Array.getElem?_eq_getElem (hl ▸ hk)
  exact ⟨_,by simp [execOp,h3,Instr.extract,hv],hr _ xv _ hy hv⟩
 | @sliceImm x lo hi _ t e z n l hh cs hx hl hhi ht hlh hn =>
  obtain ⟨hu,he,hz⟩:=slT_spec (w:=w) ht
  obtain ⟨aa,cap,h3,hcap,hlen,hm⟩:=(ev hx).inv_imm
  have hb:=run_bounds (P:=P) (w:=w) (len:=n) (cap:=cap) (hl.sound h ha) (hhi.sound h ha) true hlh (by omega)
  have hrun:(execOp a.eval { dst:=dst,op:=.slice t x lo hi none,type:=ty,pos:=pos,after:=after,guard:=guard }).run P w=.ok (.value (sliced aa l hh cap z)) w:=by
   simp [execOp,h3,Instr.sliceAt,run_underlying hu,Instr.slice,hb,hz,sliced]
  refine ⟨_,hrun,?_⟩
  by_cases h0:hh - l=0
  ·rw [h0]
   simp only [Nat.zero_mul,List.take_zero,sliced,h0]
   exact .imm0 no
  ·obtain ⟨ad,us,rfl,hI,hs,hone,hc,hr⟩:=hm (.inr (by omega))
   obtain ⟨b,o,sp⟩:=ad
   simp only at hs
   subst hs
   have hcl:cap≠l:=by omega
   simp only [sliced,hcl,if_false,Option.map_some,add_eq]
   have hlen':((cs.drop (l * z)).take ((hh - l) * z)).length=(hh - l) * z:=by
    rw [List.length_take,List.length_drop,hlen]
    have:(hh - l) * z+l * z<=n * z:=by rw [<- Nat.add_mul]; exact Nat.mul_le_mul_right _ (by omega)
    omega
   refine .imm (us:=fun k=>us (l * z+k)) no (by omega) hI rfl hlen' (fun k x hk=>hone (l * z+k) x (by
    rw [List.getElem?_take] at hk
    split at hk
    ·rwa [List.getElem?_drop] at hk
    ·cases hk)) (fun k x hk=>?_) fun k x hk=>?_
   ·rw [List.getElem?_take] at hk
    split at hk
    ·rw [List.getElem?_drop] at hk; simpa [Nat.add_assoc] using hc _ x hk
    ·cases hk
   ·rw [List.getElem?_take] at hk
    split at hk
    ·rw [List.getElem?_drop] at hk; exact hr _ x hk
    ·cases hk
 | @sliceBrw0 x lo hi _ t e z n hh p hx hl hhi ht hn hok =>
  obtain ⟨hu,he,hz⟩:=slT_spec (w:=w) ht
  obtain ⟨⟨aa,N,cap,h1,h2,h3⟩,h4⟩:=(ev hx).inv_brw
  have hcap:N<=cap:=by
   rcases h4 with ⟨N',cs,h5,h6⟩ | ⟨h0,q,n0,m,new,h5,h6⟩
   ·obtain ⟨v,Fy,hv,hRy,_⟩:=h.part h5 (by simp)
    rw [h1] at hv
    obtain ⟨_,cap2,hh2,hle,_⟩:=hRy.own_slice
    rw [hh2] at hv
    cases hv
    exact hle
   ·obtain ⟨v,hv,hRy⟩:=h.rel _ _ h5
    simp only [valAt,hv,h0,walk,Option.some.injEq] at h1
    subst h1
    obtain ⟨bv,e',e2,us,news,hRy⟩:=hRy.isPend
    obtain ⟨_,hov⟩:=hRy.hov
    rcases hov with ⟨hh,h0⟩ | ⟨b,c2,cur,hh,_,_,hle,_⟩
    ·cases hh; exact Nat.le_refl _
    ·cases hh; exact hle
  have hb:=run_bounds (P:=P) (w:=w) (len:=n) (cap:=cap) (hl.sound h ha) (hhi.sound h ha) true (Nat.zero_le _) (by omega)
  refine ⟨.slice aa hh cap,?_,.ref rfl ⟨⟨aa,N,cap,h1,rfl,by omega⟩,hok⟩ no⟩
  simp [execOp,h2,Instr.sliceAt,run_underlying hu,Instr.slice,hb,hz]
  cases aa with
  | none=>simp
  | some ad=>simp [Addr.add]
 | @sliceBrw x lo hi _ t e z n l hh p hx hl hhi ht hlh hn hok =>
  obtain ⟨hu,he,hz⟩:=slT_spec (w:=w) ht
  obtain ⟨⟨aa,N,cap,h1,h2,h3⟩,h4⟩:=(ev hx).inv_brw
  obtain ⟨N',cs,h5,h6⟩:=hok
  obtain ⟨v,Fy,hv,hRy,_⟩:=h.part h5 (by simp)
  rw [h1] at hv
  obtain ⟨a2,cap2,hh2,hle,hlen,hoff,hsome⟩:=hRy.own_slice
  rw [hh2] at hv
  cases hv
  have hb:=run_bounds (P:=P) (w:=w) (len:=n) (cap:=cap) (hl.sound h ha) (hhi.sound h ha) true hlh (by omega)
  refine ⟨sliced aa l hh cap z,?_,.ref rfl ⟨⟨aa,_,cap,_,_,h1,rfl,by omega,by omega,fun hpos=>?_⟩,_,cs,h5,h6⟩ no⟩
  ·simp [execOp,h2,Instr.sliceAt,run_underlying hu,Instr.slice,hb,hz,sliced]
  ·have hs:=hsome (by omega)
   cases aa with
   | none=>simp at hs
   | some ad =>
    obtain ⟨h0,hsp⟩:=hoff ad rfl
    obtain ⟨b,o,sp⟩:=ad
    simp only at h0 hsp
    subst h0 hsp
    exact ⟨_,rfl,by rw [if_neg (by omega)]; simp [add_eq]⟩
 | @sliceStr x lo hi _ t l hh s hx hl hhi ht hlh hn =>
  have hsv:=(ev hx).inv_lit.1
  have hb:=run_bounds (P:=P) (w:=w) (len:=s.size) (cap:=s.size) (hl.sound h ha) (hhi.sound h ha) false hlh hn
  exact ⟨.string (s.extract l hh),by simp [execOp,hsv,Instr.sliceAt,run_underlying (strT_spec ht),Instr.slice,hb],.lit rfl no⟩
 | @lenImm x _ t e z z' n cs hx ht =>
  obtain ⟨hu,he,hz⟩:=slT_spec (w:=w) ht
  obtain ⟨aa,cap,h3,_⟩:=(ev hx).inv_imm
  exact ⟨_,by simp [execOp,resolve,invoke,builtin,h3,Builtin.len_,run_underlying hu,goInt],.lit rfl no⟩
 | @lenBrw x _ t e z z' n p hx ht =>
  obtain ⟨hu,he,hz⟩:=slT_spec (w:=w) ht
  obtain ⟨⟨aa,N,cap,h1,h2,h3⟩,h4⟩:=(ev hx).inv_brw
  exact ⟨_,by simp [execOp,resolve,invoke,builtin,h2,Builtin.len_,run_underlying hu,goInt],.lit rfl no⟩
 | @lenSub x _ t e z z' lo n p hx ht =>
  obtain ⟨hu,he,hz⟩:=slT_spec (w:=w) ht
  obtain ⟨⟨aa,N,cap,a',cap',h1,h2,_,h3,h5⟩,h4⟩:=(ev hx).inv_sub
  exact ⟨_,by simp [execOp,resolve,invoke,builtin,h2,Builtin.len_,run_underlying hu,goInt],.lit rfl no⟩
 | @lenNils x _ t e z' hx ht =>
  obtain ⟨hu,he,hz⟩:=slT_spec (w:=w) ht
  have h2:=(ev hx).inv_nils
  exact ⟨_,by simp [execOp,resolve,invoke,builtin,h2,Builtin.len_,run_underlying hu,goInt],.lit rfl no⟩
 | @lits b xs tys _ vs v hx hv hr =>
  have hargs:xs.map a.eval=vs.toArray:=by
   apply Array.ext'
   rw [Array.toList_map]
   exact litArgs h ha xs.toList vs hx
  refine ⟨v,?_,.lit hv no⟩
  simp [execOp,resolve,invoke,hargs,hr]
 | @lkM x y _ t p q ok Y _ kv V hx hp hy hK hR hr =>
  obtain ⟨⟨b,hb,hv⟩,_⟩:=(ev hx).inv_mref
  obtain ⟨v',Fy,hv',hRy,_⟩:=h.part hp (by simp)
  rw [hb] at hv'
  cases hv'
  obtain ⟨b',es,clock,e,ho,hq,_⟩:=hRy.inv_mp
  cases e
  refine ⟨V,?_,hR _ _ _⟩
  simp [execOp,hv,hK _ _ _ _ (ev hy),hr w _ _ _ ho hq]
 | @lkI x y _ t q ok Y _ kv V hx hy hK hR hr =>
  obtain ⟨b,es,clock,hv,ho,hq⟩:=(ev hx).inv_imp
  refine ⟨V,?_,hR _ _ _⟩
  simp [execOp,hv,hK _ _ _ _ (ev hy),hr w _ _ _ ho hq]
end
end Go.Own
namespace Go.Own
open Go
set_option linter.unusedSectionVars false
variable [TB]
structure Fr (w w':World) (U:BSet):Prop where
 os:w'.os=w.os
 tape:w'.tape=w.tape
 output:w'.output=w.output
 size:w.heap.size<=w'.heap.size
 block:∀ b,b<w.heap.size->¬ U b->w'.heap[b]?=w.heap[b]?
 fz:∀ a,a.block<w.heap.size->¬ U a.block->w'.frozen? a=w.frozen? a
 dr:w.drawn<=w'.drawn
theorem Fr.refl (w:World) (U:BSet):Fr w w U:=⟨rfl,rfl,rfl,Nat.le_refl _,fun _ _ _=>rfl,fun _ _ _=>rfl,Nat.le_refl _⟩
theorem Fr.mono {w w':World}{U U':BSet}(h:Fr w w' U) (hU:∀ b,b<w.heap.size->U b->U' b):Fr w w' U':=⟨h.os,h.tape,h.output,h.size,fun b hb hn=>h.block b hb fun hu=>hn (hU b hb hu),fun a ha hn=>h.fz a ha fun hu=>hn (hU _ ha hu),h.dr⟩
theorem Fr.trans {w w1 w2:World}{U U1:BSet}(h:Fr w w1 U) (h1:Fr w1 w2 U1) (hU:∀ b,b<w.heap.size->U1 b->U b):Fr w w2 U :=
 ⟨h1.os.trans h.os,h1.tape.trans h.tape,h1.output.trans h.output,Nat.le_trans h.size h1.size,fun b hb hn=>(h1.block b (Nat.lt_of_lt_of_le hb h.size) fun hu=>hn (hU b hb hu)).trans (h.block b hb hn),fun a ha hn=>(h1.fz a (Nat.lt_of_lt_of_le ha h.size) fun hu=>hn (hU _ ha hu)).trans (h.fz a ha hn),Nat.le_trans h.dr h1.dr⟩
theorem alloc_old (w:World) (o:Obj) (k:Nat) (h:k<w.heap.size):(w.alloc o).heap[k]?=w.heap[k]?:=by
 show (w.heap.push o)[k]?=_
 rw [Array.getElem?_push,if_neg (by omega)]
theorem alloc_new (w:World) (o:Obj):(w.alloc o).heap[w.heap.size]?=some o:=by
 show (w.heap.push o)[w.heap.size]?=_
 simp
theorem fz_alloc (w:World) (arr:Array Value) (t:TypeId) (a:Addr):(w.alloc (.cells arr t (0,0))).frozen? a=w.frozen? a:=by
 unfold World.frozen?
 by_cases h:a.block=w.heap.size
 ·rw [h,alloc_new]
  have:w.heap[w.heap.size]?=none:=by simp
  rw [this]
  simp
 ·by_cases h2:a.block<w.heap.size
  ·rw [alloc_old w _ _ h2]
  ·have h3:(w.alloc (.cells arr t (0,0))).heap[a.block]?=none:=by
    show (w.heap.push _)[a.block]?=_
    rw [Array.getElem?_eq_none]
    simp; omega
   have h4:w.heap[a.block]?=none:=Array.getElem?_eq_none (by omega)
   rw [h3,h4]
theorem fz_setRow (w:World) (g:Nat) (cs:Array Value) (a:Addr):(w.setRow g cs).frozen? a=w.frozen? a:=by
 unfold World.frozen? World.setRow
 simp only [Array.getElem?_modify]
 by_cases h:g=a.block
 ·subst h
  rw [if_pos rfl]
  cases hh:w.heap[a.block]? with
  | none=>rfl
  | some o=>cases o <;> rfl
 ·rw [if_neg h]
theorem fz_allocM (w:World) (es:Array MapEntry) (n:Nat) (a:Addr):(w.alloc (.map es n)).frozen? a=w.frozen? a:=by
 unfold World.frozen?
 by_cases h:a.block=w.heap.size
 ·rw [h,alloc_new]
  have:w.heap[w.heap.size]?=none:=by simp
  rw [this]
 ·by_cases h2:a.block<w.heap.size
  ·rw [alloc_old w _ _ h2]
  ·have h3:(w.alloc (.map es n)).heap[a.block]?=none:=by
    show (w.heap.push _)[a.block]?=_
    rw [Array.getElem?_eq_none]
    simp; omega
   have h4:w.heap[a.block]?=none:=Array.getElem?_eq_none (by omega)
   rw [h3,h4]
def plainO (o:Obj):Prop:=(∃ arr e,o=.cells arr e (0,0))\/∃ es n,o=.map es n
theorem Fr.alloc (w:World) (o:Obj) (U:BSet) (ho:plainO o):Fr w (w.alloc o) U:=by
 refine ⟨rfl,rfl,rfl,by simp,fun b hb _=>alloc_old w o b hb,fun a _ _=>?_,Nat.le_refl _⟩
 rcases ho with ⟨arr,e,rfl⟩ | ⟨es,n,rfl⟩
 ·exact fz_alloc w arr e a
 ·exact fz_allocM w es n a
theorem R.plainF {w:World}{I:BSet}{ρ:AV->Value->Prop}{x:AV}{v:Value}{F:BSet}(h:R w I ρ x v F):∀ c,F c->∃ o,w.heap[c]?=some o/\plainO o:=by
 induction h with
 | brow ho _ hF =>
  intro c hc
  have hc:=(hF c).1 hc
  obtain ⟨_,hh⟩:=ho
  rcases hh with ⟨rfl,_⟩ | ⟨b,cap,cur,rfl,_,r2,_⟩
  ·simp [Value.ownBlock] at hc
  ·simp only [Value.ownBlock,Option.some.injEq] at hc
   subst hc
   exact ⟨_,r2,.inl ⟨_,_,rfl⟩⟩
 | mp ho _ hF =>
  intro c hc
  cases (hF c).1 hc
  exact ⟨_,ho,.inr ⟨_,_,rfl⟩⟩
 | lit _ hF | nils hF | dead hF | slf hF | ref _ _ hF | imm0 hF | imm hF | iptr hF | clo hF | imp hF=>exact fun c hc=>absurd hc (hF c)
 | own ho hl h1 hr hd hb hF ih =>
  intro c hc
  rcases (hF c).1 hc with h | ⟨k,hk,h⟩
  ·obtain ⟨_,hh⟩:=ho
   rcases hh with ⟨rfl,_⟩ | ⟨b,cap,cur,rfl,_,r2,_⟩
   ·simp [Value.ownBlock] at h
   ·simp only [Value.ownBlock,Option.some.injEq] at h
    subst h
    exact ⟨_,r2,.inl ⟨_,_,rfl⟩⟩
  ·exact ih k _ _ (List.getElem?_eq_getElem hk) (List.getElem?_eq_getElem (hl ▸ hk)) c h
 | obj ho hl h1 hr hd hb hF hs ih =>
  intro c hc
  rcases (hF c).1 hc with rfl | ⟨k,hk,h⟩
  ·exact ⟨_,ho,.inl ⟨_,_,rfl⟩⟩
  ·exact ih k _ _ (List.getElem?_eq_getElem hk) (Array.getElem?_eq_getElem (hl ▸ hk)) c h
 | agg hl h1 hr hd hF ih =>
  intro c hc
  obtain ⟨k,hk,h⟩:=(hF c).1 hc
  exact ih k _ _ (List.getElem?_eq_getElem hk) (Array.getElem?_eq_getElem (hl ▸ hk)) c h
 | tup hl hr hd hF ih =>
  intro c hc
  obtain ⟨k,hk,h⟩:=(hF c).1 hc
  exact ih k _ _ (List.getElem?_eq_getElem hk) (Array.getElem?_eq_getElem (hl ▸ hk)) c h
theorem Fr.drew {w w':World}{U:BSet}(h:Fr w w' U):Fr w w'.drew U:=⟨h.os,h.tape,h.output,h.size,h.block,h.fz,Nat.le_succ_of_le h.dr⟩
section
variable {w:World}{I:BSet}{T:Array Value}{g:Gst}{Fs:Nat->BSet}
theorem SR.ltF (h:SR w I T g Fs):∀ t c,Fs t c->c<w.heap.size:=by
 intro t c hc
 cases hx:g t with
 | none=>exact absurd hc (h.non t hx c)
 | some y=>obtain ⟨u,_,hRy⟩:=h.rel t y hx; exact hRy.lt c hc
theorem SR.world (h:SR w I T g Fs) {w':World}(hF:∀ t c,Fs t c->w'.heap[c]?=w.heap[c]?) (hI:∀ c,I c->w'.heap[c]?=w.heap[c]?) (hsz:w.heap.size<=w'.heap.size):SR w' I T g Fs :=
  ⟨fun t x hx=>by
    obtain ⟨v,hv,hR⟩:=h.rel t x hx
    exact ⟨v,hv,h.frameT (fun _ _=>rfl) hF hI (fun _ h=>h) (fun _ _ h=>h) hR fun c hc=>hF t c hc⟩,
   h.non,h.dis,h.imm,fun c hc=>Nat.lt_of_lt_of_le (h.lt c hc) hsz,h.pok,TB.keep h.tb hI fun _ h=>h⟩
theorem SR.alloc (h:SR w I T g Fs) (o:Obj):SR (w.alloc o) I T g Fs :=
 h.world (fun t c hc=>alloc_old w o c (h.ltF t c hc)) (fun c hc=>alloc_old w o c (h.lt c hc)) (by simp)
theorem SR.put0 (h:SR w I T g Fs) {d:Nat}{x:AV}{v:Value}{F:BSet}(hd:g d=none) (hdT:d<T.size)
  (hR:RT w I (RG w T g) x v F) (hnew:∀ t c,F c->¬ Fs t c) (hnI:∀ c,F c->¬ I c)
  (hp:∀ z p n m new,x=.pend z p n m new->∀ t z' n' m' new',g t≠some (.pend z' p n' m' new')) :
  SR w I (T.setIfInBounds d v) (upd g d x) (updF Fs d F):=by
 have hT:∀ t,g t≠none->(T.setIfInBounds d v)[t]?=T[t]?:=by
  intro t ht
  rw [Array.getElem?_setIfInBounds_ne]
  rintro rfl; exact ht hd
 refine ⟨?_,?_,?_,?_,h.lt,?_,h.tb⟩
 ·intro t y hy
  unfold upd at hy
  split at hy
  ·rename_i htd
   subst htd
   cases hy
   exact ⟨v,by simp [hdT],by simpa [updF] using h.frameT hT (fun _ _ _=>rfl) (fun _ _=>rfl) (fun _ h=>h) (upd_mono hd) hR fun _ _=>rfl⟩
  ·rename_i htd
   obtain ⟨u,hu,hRy⟩:=h.rel t y hy
   exact ⟨u,by rw [hT t (by rw [hy]; simp)]; exact hu,by simpa [updF,htd] using h.frameT hT (fun _ _ _=>rfl) (fun _ _=>rfl) (fun _ h=>h) (upd_mono hd) hRy fun _ _=>rfl⟩
 ·intro t ht c
  unfold upd at ht
  split at ht
  ·cases ht
  ·rename_i htd; simpa [updF,htd] using h.non t ht c
 ·intro t t' c hc hc'
  by_cases h1:t=d <;> by_cases h2:t'=d <;> simp [updF,h1,h2] at hc hc'
  ·rw [h1,h2]
  ·exact absurd hc' (hnew t' c hc)
  ·exact absurd hc (hnew t c hc')
  ·exact h.dis t t' c hc hc'
 ·intro t c hc hi
  by_cases h1:t=d <;> simp [updF,h1] at hc
  ·exact hnI c hc hi
  ·exact h.imm t c hc hi
 ·intro t t' z p n m new z' n' m' new' h1 h2
  unfold upd at h1 h2
  split at h1 <;> split at h2
  ·rename_i a b; rw [a,b]
  ·cases h1; exact absurd h2 (hp z p n m new rfl t' z' n' m' new')
  ·cases h2; exact absurd h1 (hp z' p n' m' new' rfl t z n m new)
  ·exact h.pok _ _ _ _ _ _ _ _ _ _ _ h1 h2
end
def boxCells:AV->Option (List AV)
 | .agg cs=>some cs
 | .lit v=>some [.lit v]
 | .nils=>some [.nils]
 | .imm z n cs=>some [.imm z n cs]
 | .iptr cs=>some [.iptr cs]
 | .ptr p k=>some [.ptr p k]
 | .brw z p n=>some [.brw z p n]
 | .sub z p l n=>some [.sub z p l n]
 | .clo f a b=>some [.clo f a b]
 | .mref p=>some [.mref p]
 | _=>none
theorem boxCells_ns {y:AV}{cs:List AV}(h:OkA y) (hc:boxCells y=some cs):NoSelf cs:=by
 have one:∀ {x:AV},(∀ j,x≠.self j)->NoSelf [x]:=fun hx k j e=>by
  cases k with
  | zero=>simp only [List.getElem?_cons_zero,Option.some.injEq] at e; exact hx j e
  | succ k=>simp at e
 cases y <;> simp only [Go.Own.boxCells,Option.some.injEq,reduceCtorEq] at hc <;> subst hc
 all_goals first | exact h _ rfl | exact one (by simp)
theorem R.boxCells {w:World}{I:BSet}{ρ:AV->Value->Prop}{y:AV}{v:Value}{F:BSet}(h:R w I ρ y v F) (hF:∀ c,¬ F c) (hρ:∀ x v,x.isRef=true->ρ x v->v.oneCell'=true) {cs:List AV}(hc:boxCells y=some cs) :
  cs.length=v.cells.size/\(∀ (k:Nat) (u:Value),v.cells[k]?=some u->u.oneCell'=true)/\(∀ (k:Nat) (x:AV) (u:Value),cs[k]?=some x->v.cells[k]?=some u->R w I ρ x u E0):=by
 have one:∀ {y:AV},R w I ρ y v F->v.oneCell'=true->[y].length=v.cells.size/\(∀ (k:Nat) (u:Value),v.cells[k]?=some u->u.oneCell'=true)/\(∀ (k:Nat) (x:AV) (u:Value),[y][k]?=some x->v.cells[k]?=some u->R w I ρ x u E0):=by
  intro y h h1
  have hcells:v.cells=#[v]:=by cases v <;> first | rfl | (simp [Value.oneCell'] at h1)
  refine ⟨by simp [hcells],fun k u hu=>?_,fun k x u hx hu=>?_⟩
  ·rw [hcells] at hu
   cases k with
   | zero=>simp at hu; subst hu; exact h1
   | succ k=>simp at hu
  rw [hcells] at hu
  cases k with
  | zero=>simp at hx hu; subst hx hu; exact h.empty hF
  | succ k=>simp at hx
 cases y <;> simp only [Go.Own.boxCells,Option.some.injEq,reduceCtorEq] at hc
 case agg l =>
  subst hc
  obtain ⟨vs,rfl,hl,h1,hr⟩:=h.inv_agg hF
  exact ⟨hl,h1,hr⟩
 case lit a=>subst hc; exact one h (by obtain ⟨rfl,h1⟩:=h.inv_lit; exact h1)
 case nils=>subst hc; exact one h (by rw [h.inv_nils]; rfl)
 case imm z n l=>subst hc; exact one h (by obtain ⟨a,cap,rfl,_⟩:=h.inv_imm; rfl)
 case iptr l=>subst hc; exact one h (by obtain ⟨ad,us,rfl,_⟩:=h.inv_iptr; rfl)
 case ptr p k=>subst hc; exact one h (hρ _ _ rfl h.inv_ptr)
 case brw z p n=>subst hc; exact one h (hρ _ _ rfl h.inv_brw)
 case sub z p l n=>subst hc; exact one h (hρ _ _ rfl h.inv_sub)
 case mref p=>subst hc; exact one h (hρ _ _ rfl h.inv_mref)
 case clo f a b =>
  subst hc
  refine one h ?_
  cases h with
  | clo=>rfl
  | ref hx=>simp [AV.isRef] at hx
theorem RG.oneCell {w:World}{T:Array Value}{g:Gst}{x:AV}{v:Value}(hx:x.isRef=true) (h:RG w T g x v):v.oneCell'=true:=by
 obtain ⟨h,_⟩:=h
 cases x <;> simp [AV.isRef] at hx
 case ptr p k=>obtain ⟨_,_,_,_,rfl⟩:=h; rfl
 case brw z p n=>obtain ⟨_,_,_,_,rfl,_⟩:=h; rfl
 case sub z p lo n=>obtain ⟨_,_,_,_,_,_,rfl,_⟩:=h; rfl
 case mref p=>obtain ⟨_,_,rfl⟩:=h; rfl
def boxAll:List AV->Option (List AV)
 | []=>some []
 | y::ys =>
  match boxCells y,boxAll ys with
  | some a,some b=>some (a++b)
  | _,_=>none
def opds (g:Gst):List Operand->Option (List AV)
 | []=>some []
 | x::xs =>
  match opd g x,opds g xs with
  | some y,some ys=>some (y::ys)
  | _,_=>none
def fillAV (place:Nat->Option (Nat × Nat)) (cells:List AV):List (Nat × List AV)->Option (List AV)
 | []=>some cells
 | (i,c)::rest =>
  match place i with
  | none=>none
  | some (off,size)=>if c.length=size/\off+c.length<=cells.length then fillAV place (cells.take off++c++cells.drop (off+c.length)) rest else none
def partsAV (g:Gst):List (Nat × Operand)->Option (List (Nat × List AV))
 | []=>some []
 | (i,x)::xs =>
  match opd g x,partsAV g xs with
  | some y,some ys=>(boxCells y).map fun c=>(i,c)::ys
  | _,_=>none
def structT (P:Program) (t:TypeId) (pl:List (Nat × Nat)):Bool :=
 match P.underlying t with
 | some (.struct fs)=>fs.toList.map (fun f=>(f.offset,(P.info? f.type).map (·.size))) == pl.map fun (a,b)=>(a,some b)
 | _=>false
inductive PS2 (P:Program) (g:Gst):Op->TypeId->AV->Prop
 | box {e ty:TypeId}{x:Operand}{y:AV}{cs:List AV}(hx:opd g x=some y) (hc:boxCells y=some cs):PS2 P g (.box e x) ty (.obj cs)
 | allocB {e ty:TypeId}{t:Nat}{z:Value}(hz:(P.info? e).bind (·.zero)=some z) (hc:z.cells=#[.pointer none,.slice none 0 0]):PS2 P g (.alloc e) ty (.obj [.self (0,e),.brow t []])
 | alloc {e ty:TypeId}{z:Value}(hz:(P.info? e).bind (·.zero)=some z) (h1:z.cells.all Value.oneCell'=true):PS2 P g (.alloc e) ty (.obj (z.cells.toList.map ofCell))
 | buildSlice {t e ty:TypeId}{z:Nat}{parts:Array (Nat × Operand)}{xs:List Operand}{ys:List AV}{cs:List AV}(ht:slT P t e z=true)
   (hp:parts.toList=xs.mapIdx (fun i x=>(i,x))) (hx:opds g xs=some ys) (hz:∀ y∈ys,∃ c,boxCells y=some c/\c.length=z) (hc:boxAll ys=some cs) (hb:xs.length * z<=16777216) (hn:xs.length<=16777216) (hzero:xs.length * z=0\/∃ v,(P.info? e).bind (·.zero)=some v/\v.cells.size=z) :
   PS2 P g (.buildSlice t xs.length parts) ty (.own z xs.length cs)
 | makeSlice {t e ty:TypeId}{x y:Operand}{z n b:Nat}{k1 k2:IntKind}{zv:Value}(ht:slT P t e z=true) (hx:opd g x=some (.lit (.int k1 (n:Int)))) (hy:opd g y=some (.lit (.int k2 (n:Int))))
   (hzero:(P.info? e).bind (·.zero)=some zv) (h1:zv.cells.all Value.oneCell'=true) (hzs:zv.cells.size=z) (hb:(P.info? e).map (·.bytes)=some b) (hn:n * b<=140737488355328) (hn2:n<=4611686018427387904) {zs:List AV}(hzl:zs.length=zv.cells.size)
   (hzo:∀ (k:Nat) (u:Value) (x:AV),zv.cells[k]?=some u->zs[k]?=some x->x=ofCell u\/(ofCell u=.nils/\∃ z',x=.imm z' 0 [])) :
   PS2 P g (.makeSlice t x y) ty (.own z n (List.replicate n zs).flatten)
 | makeMap {t ty:TypeId}{q:Array MapEntry->Nat->Prop}(hq:q #[] 0):PS2 P g (.makeMap t none) ty (.mp q)
inductive PS3 (P:Program) (g:Gst):Op->TypeId->AV->Prop
 | build {t ty:TypeId}{parts:Array (Nat × Operand)}{pl:List (Nat × Nat)}{zv:Value}{ps:List (Nat × List AV)}{cs:List AV}(ht:structT P t pl=true) (hz:(P.info? t).bind (·.zero)=some zv) (h1:zv.cells.all Value.oneCell'=true)
   (hp:partsAV g parts.toList=some ps) (hc:fillAV (fun i=>pl[i]?) (zv.cells.toList.map ofCell) ps=some cs):PS3 P g (.build t parts) ty (.agg cs)
 | makeFunc {fn:Fn}{first caps:Array Operand}{ty:TypeId}{a b:List AV}(ha:opds g first.toList=some a) (hb:opds g caps.toList=some b):PS3 P g (.makeFunc fn first caps) ty (.clo fn a b)
section
variable {P:Program}{w:World}{I:BSet}{T:Array Value}{g:Gst}{Fs:Nat->BSet}
theorem opds_sound (h:SR w I T g Fs) {a:Act}(ha:a.tmps=T):∀ {xs:List Operand}{ys:List AV},opds g xs=some ys->ys.length=xs.length/\∀ (k:Nat) (y:AV) (x:Operand),ys[k]?=some y->xs[k]?=some x->R w I (RG w T g) y (a.eval x) E0
 | [],ys,hy=>by simp only [opds,Option.some.injEq] at hy; subst hy; simp
 | x::xs,ys,hy=>by
  simp only [opds] at hy
  cases hx:opd g x with
  | none=>simp [hx] at hy
  | some y =>
   cases hxs:opds g xs with
   | none=>simp [hx,hxs] at hy
   | some ys' =>
    simp only [hx,hxs,Option.some.injEq] at hy
    subst hy
    obtain ⟨h1,h2⟩:=opds_sound h ha hxs
    refine ⟨by simp [h1],fun k y' x' hy' hx'=>?_⟩
    cases k with
    | zero=>simp at hy' hx'; subst hy' hx'; exact opd_sound h hx ha
    | succ k=>simp at hy' hx'; exact h2 k y' x' hy' hx'
theorem R.alloc (h:SR w I T g Fs) (o:Obj) {x:AV}{v:Value}{F:BSet}(hR:R w I (RG w T g) x v F) (hF:∀ c,F c->c<w.heap.size):R (w.alloc o) I (RG (w.alloc o) T g) x v F :=
 h.frame (fun _ _=>rfl) (fun t c hc=>alloc_old w o c (h.ltF t c hc)) (fun c hc=>alloc_old w o c (h.lt c hc)) (fun _ h=>h) (fun _ _ h=>h) hR fun c hc=>alloc_old w o c (hF c hc)
theorem ofCells_sound {ρ:AV->Value->Prop}{vs:List Value}:∀ (k:Nat) (x:AV) (u:Value),(vs.map ofCell)[k]?=some x->vs[k]?=some u->R w I ρ x u E0:=by
 intro k x u hx hu
 rw [List.getElem?_map,hu] at hx
 simp only [Option.map_some,Option.some.injEq] at hx
 subst hx
 exact ofCell_sound u
theorem R.objE0 {ρ:AV->Value->Prop}{cs:List AV}{b:Nat}{e:TypeId}{arr:Array Value}(ho:w.heap[b]?=some (.cells arr e (0,0))) (hl:cs.length=arr.size) (h1:∀ (k:Nat) (u:Value),arr[k]?=some u->u.oneCell'=true)
  (hr:∀ (k:Nat) (x:AV) (u:Value),cs[k]?=some x->arr[k]?=some u->R w I ρ x u E0) (hns:NoSelf cs):R w I ρ (.obj cs) (.pointer (some ⟨b,0,none⟩)) (fun c=>c=b) :=
 .obj (Fs:=fun _=>E0) ho hl h1 hr (fun _ _ _ _ _ h=>h.elim) (fun _ _ h=>h) (fun _=>⟨fun h=>.inl h,fun h=>h.elim id fun ⟨_,_,h⟩=>h.elim⟩) fun k j _ h=>absurd h (hns k j)
theorem R.ownE0 {ρ:AV->Value->Prop}{z n:Nat}{cs:List AV}{b cap:Nat}{e:TypeId}{arr:Array Value}(ho:w.heap[b]?=some (.cells arr e (0,0))) (hn:n<=cap) (hc:cap<=maxLen) (hs:arr.size=cap * z) (hl:cs.length=n * z) (h1:∀ (k:Nat) (u:Value),arr[k]?=some u->u.oneCell'=true)
  (hr:∀ (k:Nat) (x:AV) (u:Value),cs[k]?=some x->arr[k]?=some u->R w I ρ x u E0):R w I ρ (.own z n cs) (.slice (some ⟨b,0,none⟩) n cap) (fun c=>c=b):=by
 have hle:n * z<=arr.size:=by rw [hs]; exact Nat.mul_le_mul_right _ hn
 refine .own (e:=e) (us:=arr.toList.take (n * z)) (Fs:=fun _=>E0) ⟨by simp; omega,.inr ⟨b,cap,arr,rfl,Nat.zero_le _,ho,hn,hc,hs,rfl⟩⟩ (by simp; omega) (fun k u hu=>?_) ?_ (fun _ _ _ _ _ h=>h.elim) (fun _ _ _ h=>h.elim) (fun c=>?_)
 ·rw [List.getElem?_take] at hu
  split at hu
  ·exact h1 k u (by simpa using hu)
  ·cases hu
 ·intro k x u hx hu
  rw [List.getElem?_take] at hu
  split at hu
  ·exact hr k x u hx (by simpa using hu)
  ·cases hu
 ·simp only [Value.ownBlock,Option.some.injEq]
  exact ⟨fun h=>.inl h.symm,fun h=>h.elim Eq.symm fun ⟨_,_,h⟩=>h.elim⟩
theorem boxAll_sound {ρ:AV->Value->Prop}(hρ:∀ x v,x.isRef=true->ρ x v->v.oneCell'=true):∀ {ys:List AV}{vs:List Value}{cs:List AV},ys.length=vs.length->(∀ (k:Nat) (y:AV) (v:Value),ys[k]?=some y->vs[k]?=some v->R w I ρ y v E0)->boxAll ys=some cs ->
  cs.length=(vs.flatMap fun v=>v.cells.toList).length/\(∀ (k:Nat) (u:Value),(vs.flatMap fun v=>v.cells.toList)[k]?=some u->u.oneCell'=true)/\∀ (k:Nat) (x:AV) (u:Value),cs[k]?=some x->(vs.flatMap fun v=>v.cells.toList)[k]?=some u->R w I ρ x u E0
 | [],vs,cs,hl,hr,hc=>by
  cases vs with
  | nil=>simp only [boxAll,Option.some.injEq] at hc; subst hc; simp
  | cons=>simp at hl
 | y::ys,vs,cs,hl,hr,hc=>by
  cases vs with
  | nil=>simp at hl
  | cons v vs =>
   simp only [boxAll] at hc
   cases ha:boxCells y with
   | none=>simp [ha] at hc
   | some a =>
    cases hb:boxAll ys with
    | none=>simp [ha,hb] at hc
    | some b =>
     simp only [ha,hb,Option.some.injEq] at hc
     subst hc
     obtain ⟨h1,h1c,h2⟩:=(hr 0 y v rfl rfl).boxCells (fun _ h=>h) hρ ha
     obtain ⟨h3,h3c,h4⟩:=boxAll_sound hρ (by simpa using hl) (fun k y' v' hy hv=>hr (k+1) y' v' hy hv) hb
     refine ⟨by simp [h1,h3],fun k u hu=>?_,fun k x u hx hu=>?_⟩
     ·simp only [List.flatMap_cons] at hu
      by_cases hk:k<v.cells.toList.length
      ·rw [List.getElem?_append_left hk] at hu
       exact h1c k u (by simpa using hu)
      ·rw [List.getElem?_append_right (by omega)] at hu
       exact h3c _ u hu
     simp only [List.flatMap_cons] at hu
     by_cases hk:k<a.length
     ·rw [List.getElem?_append_left hk] at hx
      rw [List.getElem?_append_left (by simp; omega)] at hu
      exact h2 k x u hx (by simpa using hu)
     ·rw [List.getElem?_append_right (by omega)] at hx
      rw [List.getElem?_append_right (by simp; omega)] at hu
      refine h4 (k - a.length) x u hx ?_
      rw [<- hu]; simp [h1]
end
end Go.Own
namespace Go.Own
open Go
set_option linter.unusedSectionVars false
variable [TB]
theorem foldl_set (off:Nat):∀ (l:List Value) (s:Nat) (arr:Array Value),off+s+l.length<=arr.size ->
  ((l.zipIdx s).foldl (fun cs (x:Value × Nat)=>cs.setIfInBounds (off+x.2) x.1) arr).toList=arr.toList.take (off+s)++l++arr.toList.drop (off+s+l.length)
 | [],s,arr,h=>by simp
 | v::l,s,arr,h=>by
  simp only [List.length_cons] at h
  rw [List.zipIdx_cons,List.foldl_cons,foldl_set off l (s+1) _ (by simp; omega)]
  simp only [Array.toList_setIfInBounds,List.length_cons]
  have h1:(arr.toList.set (off+s) v).take (off+(s+1))=arr.toList.take (off+s)++[v]:=by
   rw [show off+(s+1)=off+s+1 by omega,List.take_succ_eq_append_getElem (by simp; omega)]
   rw [List.take_set_of_le (Nat.le_refl _)]
   simp
  have h2:(arr.toList.set (off+s) v).drop (off+(s+1)+l.length)=arr.toList.drop (off+s+(l.length+1)):=by
   rw [List.drop_set_of_lt (by omega)]
   congr 1; omega
  rw [h1,h2]
  simp
theorem fill_step {place:Nat->Option (Nat × Nat)}{i off size:Nat}(hp:place i=some (off,size)) {arr:Array Value}{v:Value}(h1:v.cells.size=size) (h2:off+v.cells.size<=arr.size) (rest:List (Nat × Value)) :
  ∃ arr':Array Value,Instr.fill place arr ((i,v)::rest)=Instr.fill place arr' rest/\arr'.toList=arr.toList.take off++v.cells.toList++arr.toList.drop (off+v.cells.size):=by
 refine ⟨_,by simp only [Instr.fill,hp]; rw [if_neg (by simp; omega)],?_⟩
 have:=foldl_set off v.cells.toList 0 arr (by simpa using h2)
 rw [<- Array.foldl_toList,Array.toList_zipIdx]
 simpa using this
theorem fill_all (z:Nat):∀ (vs:List Value) (k:Nat) (arr:Array Value) (done rest:List Value),(∀ v∈vs,v.cells.size=z)->arr.toList=done++rest->done.length=k * z->rest.length=vs.length * z ->
  ∃ arr':Array Value,Instr.fill (fun i=>some (i * z,z)) arr (vs.mapIdx fun i v=>(k+i,v))=some arr'/\arr'.toList=done++vs.flatMap fun v=>v.cells.toList
 | [],k,arr,done,rest,_,h1,h2,h3=>by
  have:rest=[]:=List.eq_nil_of_length_eq_zero (by simpa using h3)
  subst this
  exact ⟨arr,rfl,by simpa using h1⟩
 | v::vs,k,arr,done,rest,hz,h1,h2,h3=>by
  have hv:=hz v (by simp)
  have hlen:arr.size=done.length+rest.length:=by rw [<- Array.length_toList,h1,List.length_append]
  simp only [List.length_cons,Nat.add_mul,Nat.one_mul] at h3
  rw [List.mapIdx_cons]
  obtain ⟨arr1,e1,e2⟩:=fill_step (place:=fun i=>some (i * z,z)) (i:=k+0) (off:=k * z) (size:=z) (by simp) (arr:=arr) (v:=v) hv (by omega) ((vs.mapIdx fun i v=>(k+(i+1),v)))
  have e2':arr1.toList=(done++v.cells.toList)++rest.drop z:=by
   rw [e2,h1,<- h2,List.take_left,hv,List.drop_append]
   simp
  obtain ⟨arr',e3,e4⟩:=fill_all z vs (k+1) arr1 (done++v.cells.toList) (rest.drop z) (fun u hu=>hz u (by simp [hu])) e2' (by simp [h2,hv,Nat.add_mul]) (by simp; omega)
  refine ⟨arr',?_,by rw [e4]; simp⟩
  rw [e1,<- e3]
  congr 1
  congr 1
  funext i u
  congr 1; omega
theorem allOne {vs:Array Value}(h:vs.all Value.oneCell'=true):∀ (k:Nat) (u:Value),vs[k]?=some u->u.oneCell'=true :=
 fun _ u hu=>Array.all_eq_true_iff_forall_mem.1 h u (Array.mem_of_getElem? hu)
theorem bind_zero {P:Program}{e:TypeId}{z:Value}(h:(P.info? e).bind (·.zero)=some z) (w:World):(zeroValue e).run P w=.ok z w:=by
 cases hi:P.info? e with
 | none=>simp [hi] at h
 | some i=>simp [hi] at h; simp [zeroValue,typeInfo,hi,h]
theorem getElem?_replicate_flatten {α:Type}(l:List α):∀ (n k:Nat),k<n * l.length->(List.replicate n l).flatten[k]?=l[k % l.length]?
 | 0,k,h=>by simp at h
 | n+1,k,h=>by
  rw [List.replicate_succ,List.flatten_cons]
  by_cases hk:k<l.length
  ·rw [List.getElem?_append_left hk,Nat.mod_eq_of_lt hk]
  ·rw [List.getElem?_append_right (by omega),getElem?_replicate_flatten l n (k - l.length) (by rw [Nat.add_mul] at h; omega)]
   rw [<- Nat.mod_eq_sub_mod (by omega)]
section
variable {P:Program}{w:World}{I:BSet}{T:Array Value}{g:Gst}{Fs:Nat->BSet}
theorem boxAll_len {ys cs:List AV}{z:Nat}(hz:∀ y∈ys,∃ c,boxCells y=some c/\c.length=z) (hc:boxAll ys=some cs):cs.length=ys.length * z:=by
 induction ys generalizing cs with
 | nil=>simp [boxAll] at hc; subst hc; simp
 | cons y ys ih =>
  obtain ⟨c,h1,h2⟩:=hz y (by simp)
  simp only [boxAll,h1] at hc
  cases hb:boxAll ys with
  | none=>simp [hb] at hc
  | some b =>
   simp only [hb,Option.some.injEq] at hc
   subst hc
   rw [List.length_append,ih (fun y hy=>hz y (by simp [hy])) hb,h2,List.length_cons,Nat.add_mul]
   omega
theorem PS2.sound (h:SR w I T g Fs) {a:Act}(ha:a.tmps=T) {o:Oper}{xv:AV}(hp:PS2 P g o.op o.type xv) :
  ∃ v ob,(execOp a.eval o).run P w=.ok (.value v) (w.alloc ob)/\R (w.alloc ob) I (RG (w.alloc ob) T g) xv v (fun c=>c=w.heap.size):=by
 obtain ⟨dst,op,ty,pos,after,guard⟩:=o
 simp only at hp
 have old:∀ (ob:Obj) {x:AV}{v:Value},R w I (RG w T g) x v E0->R (w.alloc ob) I (RG (w.alloc ob) T g) x v E0:=fun ob _ _ hR=>R.alloc h ob hR fun _ h=>h.elim
 cases hp with
 | @box e _ x y cs hx hc =>
  have hy:=opd_sound h hx ha
  obtain ⟨h1,h1c,h2⟩:=hy.boxCells (fun _ h=>h) (fun _ _ hx hr=>hr.oneCell hx) hc
  refine ⟨_,.cells (a.eval x).cells e,by simp [execOp,Instr.box,newVar,newRow],R.objE0 (e:=e) (alloc_new w _) h1 h1c (fun k x u hx hu=>old _ (h2 k x u hx hu)) (boxCells_ns (opd_okA hx) hc)⟩
 | @allocB e _ t z hz hc =>
  refine ⟨.pointer (some ⟨w.heap.size,0,none⟩),.cells z.cells e,by simp [execOp,Instr.alloc,newVar,newRow,bind_zero hz],?_⟩
  rw [hc]
  refine .obj (Fs:=fun _=>E0) (e:=e) (alloc_new w _) rfl (fun k u hu=>?_) (fun k y u hy hu=>?_) (fun _ _ _ _ _ h=>h.elim) (fun _ _ h=>h) (fun c=>⟨.inl,fun h=>h.elim id fun ⟨_,_,h⟩=>h.elim⟩) fun k j u hy hu=>?_
  ·match k,hu with
   | 0,hu=>cases hu; rfl
   | 1,hu=>cases hu; rfl
   | k+2,hu=>simp at hu
  ·match k,hy,hu with
   | 0,hy,hu=>cases hy; exact .slf fun _ h=>h
   | 1,hy,hu=>cases hy; cases hu; exact .brow (World.ownsRow_nil _ _ _ _) rfl fun c=>⟨fun h=>h.elim,fun h=>by simp [Value.ownBlock] at h⟩
   | k+2,hy,hu=>cases hy
  ·match k,hy,hu with
   | 0,hy,hu=>cases hy; cases hu; exact .inl ⟨rfl,rfl⟩
   | 1,hy,hu=>cases hy
   | k+2,hy,hu=>cases hy
 | @alloc e _ z hz hone =>
  refine ⟨_,.cells z.cells e,by simp [execOp,Instr.alloc,newVar,newRow,bind_zero hz],R.objE0 (e:=e) (alloc_new w _) (by simp) (allOne hone) (fun k x u hx hu=>old _ (ofCells_sound k x u hx (by simpa using hu))) (ofCells_ns _)⟩
 | @makeMap t _ q hq =>
  have hmm:(Instr.makeMap t none).run P w=.ok (.map (some w.heap.size)) (w.alloc (.map #[] 0)):=rfl
  exact ⟨.map (some w.heap.size),.map #[] 0,by simp [execOp,hmm],.mp (alloc_new w _) hq fun c=>Iff.rfl⟩
 | @buildSlice t e _ z parts xs ys cs ht hp hx hz hc hb hnn hzero =>
  obtain ⟨hu,he,hsz⟩:=slT_spec (w:=w) ht
  obtain ⟨hl,hr⟩:=opds_sound h ha hx
  have hcl:=boxAll_len hz hc
  have hvz:∀ v∈xs.map a.eval,v.cells.size=z:=by
   intro v hv
   obtain ⟨x,hxm,rfl⟩:=List.mem_map.1 hv
   obtain ⟨k,hk,rfl⟩:=List.mem_iff_getElem.1 hxm
   have hy':ys[k]?=some (ys[k]'(by omega)):=List.getElem?_eq_getElem (by omega)
   obtain ⟨c,h1,h2⟩:=hz _ (List.getElem_mem (l:=ys) (n:=k) (by omega))
   obtain ⟨h3,_,_⟩:=(hr k _ _ hy' (List.getElem?_eq_getElem hk)).boxCells (fun _ h=>h) (fun _ _ hx hr=>hr.oneCell hx) h1
   rw [<- h3,h2]
  obtain ⟨zv,hzv⟩:∃ zv:Array Value,(xs.length * z=0/\zv=#[])\/(xs.length * z≠0/\∃ v,zv=v.cells/\(zeroValue e).run P w=.ok v w):=by
   by_cases h0:xs.length * z=0
   ·exact ⟨#[],.inl ⟨h0,rfl⟩⟩
   ·rcases hzero with h1 | ⟨v,h1,h2⟩
    ·exact absurd h1 h0
    ·exact ⟨v.cells,.inr ⟨h0,v,rfl,bind_zero h1 w⟩⟩
  obtain ⟨arr,e1,e2⟩:=fill_all z (xs.map a.eval) 0 ((Array.range (xs.length * z)).map (zv[· % zv.size]!)) [] ((Array.range (xs.length * z)).map (zv[· % zv.size]!)).toList hvz (by simp) (by simp) (by simp)
  have hparts:(parts.map fun (p:Nat × Operand)=>(p.1,a.eval p.2)).toList=(xs.map a.eval).mapIdx fun i v=>(0+i,v):=by
   rw [Array.toList_map,hp]
   apply List.ext_getElem?
   intro k
   simp only [List.getElem?_map,List.getElem?_mapIdx]
   cases xs[k]? <;> simp
  obtain ⟨hcs,hc1,hcr⟩:=boxAll_sound (ρ:=RG w T g) (fun _ _ hx hr=>hr.oneCell hx) (ys:=ys) (vs:=xs.map a.eval) (by simp [hl]) (fun k y v hy hv=>by
   rw [List.getElem?_map] at hv
   cases hxk:xs[k]? with
   | none=>simp [hxk] at hv
   | some x=>simp [hxk] at hv; subst hv; exact hr k y x hy hxk) hc
  have hal:arr.toList=(xs.map a.eval).flatMap fun v=>v.cells.toList:=by simpa using e2
  have hsize:arr.size=xs.length * z:=by rw [<- Array.length_toList,hal,<- hcs,hcl,hl]
  have hrun:(execOp a.eval { dst:=dst,op:=.buildSlice t xs.length parts,type:=ty,pos:=pos,after:=after,guard:=guard }).run P w=.ok (.value (.slice (some ⟨w.heap.size,0,none⟩) xs.length xs.length)) (w.alloc (.cells arr e)):=by
   have hle:¬ (16777216<xs.length * z):=by omega
   rcases hzv with ⟨h0,rfl⟩ | ⟨h0,v,rfl,hzr⟩
   ·simp only [h0] at e1
    rw [<- hparts] at e1
    simp at e1
    simp [execOp,Instr.buildSlice,run_underlying hu,hsz,h0,e1,newRow]
   ·rw [<- hparts] at e1
    simp at e1
    simp [execOp,Instr.buildSlice,run_underlying hu,hsz,h0,hle,hzr,e1,newRow]
  refine ⟨_,_,hrun,R.ownE0 (e:=e) (arr:=arr) (alloc_new w _) (Nat.le_refl _) ?_ hsize (by rw [hcl,hl]) (fun k u hu=>hc1 k u (by rw [<- hal]; simpa using hu)) fun k x u hx hu=>old _ (hcr k x u hx ?_)⟩
  ·unfold maxLen; omega
  ·rw [<- hal]; simpa using hu
 | @makeSlice t e _ x y z n b k1 k2 zv ht hx hy hzero hone hzs hb hn hn2 zs hzl hzo =>
  obtain ⟨hu,he,hsz⟩:=slT_spec (w:=w) ht
  have h1:=(opd_sound h hx ha).inv_lit.1
  have h2:=(opd_sound h hy ha).inv_lit.1
  cases hi:P.info? e with
  | none=>simp [hi] at hb
  | some i =>
   simp [hi] at hb hzero
   have hiz:i.size=z:=by
    unfold slT at ht
    rw [hu] at ht
    simp [hi] at ht
    exact ht
   have hbytes:(i.bytes:Int) * (n:Int)<=281474976710656:=by
    have:((b * n:Nat):Int)<=281474976710656:=by have:=Nat.mul_comm n b; omega
    rw [hb,<- Int.natCast_mul]; exact this
   have hr:=run_make (P:=P) w t e i zv hu hi hzero k1 k2 n n (by omega) (Int.le_refl _) hbytes (by omega)
   simp only [Int.toNat_natCast] at hr
   refine ⟨_,.cells (madeCells zv.cells (n * i.size)) e,by simp [execOp,h1,h2,hr],R.ownE0 (e:=e) (alloc_new w _) (Nat.le_refl _) (by unfold maxLen; omega) (by rw [size_madeCells,hiz]) (by simp [hzs,hzl]) (fun k u hu=>?_) fun k x u hx hu=>?_⟩
   ·rw [madeCells,Array.getElem?_map,Array.getElem?_range] at hu
    split at hu
    ·rename_i hk
     have h0:0<zv.cells.size:=by
      rcases Nat.eq_zero_or_pos zv.cells.size with h | h
      ·rw [hiz,<- hzs,h] at hk; simp at hk
      ·exact h
     have hm:k % zv.cells.size<zv.cells.size:=Nat.mod_lt _ h0
     simp only [Option.map_some,Option.some.injEq] at hu
     rw [<- hu,show zv.cells[k % zv.cells.size]! = zv.cells[k % zv.cells.size] by simp [hm]]
     exact allOne hone _ _ (Array.getElem?_eq_getElem hm)
    ·cases hu
   have hk:k<n * zv.cells.size:=by
    have:=(List.getElem?_eq_some_iff.1 hx).1
    simpa [Nat.mul_comm,hzl] using this
   have h0:0<zv.cells.size:=by
    rcases Nat.eq_zero_or_pos zv.cells.size with h | h
    ·rw [h] at hk; simp at hk
    ·exact h
   have hm:k % zv.cells.size<zv.cells.size:=Nat.mod_lt _ h0
   rw [getElem?_replicate_flatten _ n k (by simpa [hzl] using hk),hzl] at hx
   rw [madeCells,Array.getElem?_map,Array.getElem?_range,if_pos (by rw [hiz,<- hzs]; exact hk)] at hu
   simp only [Option.map_some,Option.some.injEq] at hu
   have hu':zv.cells[k % zv.cells.size]! = zv.cells[k % zv.cells.size]:=by simp [hm]
   rw [hu'] at hu
   subst hu
   rcases hzo _ _ x (Array.getElem?_eq_getElem hm) hx with rfl | ⟨h1,z',rfl⟩
   ·exact old _ (ofCell_sound _)
   ·have hR:=ofCell_sound (w:=w) (I:=I) (ρ:=RG w T g) zv.cells[k % zv.cells.size]
    rw [h1] at hR
    rw [hR.inv_nils]
    exact .imm0 fun _ h=>h
def Cells (w:World) (I:BSet) (ρ:AV->Value->Prop) (cs:List AV) (vs:List Value):Prop :=
 cs.length=vs.length/\(∀ (k:Nat) (u:Value),vs[k]?=some u->u.oneCell'=true)/\∀ (k:Nat) (x:AV) (u:Value),cs[k]?=some x->vs[k]?=some u->R w I ρ x u E0
theorem Cells.append {ρ:AV->Value->Prop}{a b:List AV}{u v:List Value}(h:Cells w I ρ a u) (h':Cells w I ρ b v):Cells w I ρ (a++b) (u++v):=by
 refine ⟨by simp [h.1,h'.1],fun k y hy=>?_,fun k x y hx hy=>?_⟩
 ·by_cases hk:k<u.length
  ·rw [List.getElem?_append_left hk] at hy; exact h.2.1 k y hy
  ·rw [List.getElem?_append_right (by omega)] at hy; exact h'.2.1 _ y hy
 ·by_cases hk:k<a.length
  ·rw [List.getElem?_append_left hk] at hx
   rw [List.getElem?_append_left (by rw [<- h.1]; exact hk)] at hy
   exact h.2.2 k x y hx hy
  ·rw [List.getElem?_append_right (by omega)] at hx
   rw [List.getElem?_append_right (by rw [<- h.1]; omega)] at hy
   exact h'.2.2 _ x y hx (by rw [h.1]; exact hy)
theorem Cells.take {ρ:AV->Value->Prop}{a:List AV}{u:List Value}(h:Cells w I ρ a u) (n:Nat):Cells w I ρ (a.take n) (u.take n):=by
 refine ⟨by simp [h.1],fun k y hy=>?_,fun k x y hx hy=>?_⟩
 ·rw [List.getElem?_take] at hy
  split at hy
  ·exact h.2.1 k y hy
  ·cases hy
 ·rw [List.getElem?_take] at hx hy
  split at hx
  ·rename_i hk; rw [if_pos hk] at hy; exact h.2.2 k x y hx hy
  ·cases hx
theorem Cells.drop {ρ:AV->Value->Prop}{a:List AV}{u:List Value}(h:Cells w I ρ a u) (n:Nat):Cells w I ρ (a.drop n) (u.drop n):=by
 refine ⟨by simp [h.1],fun k y hy=>?_,fun k x y hx hy=>?_⟩
 ·rw [List.getElem?_drop] at hy; exact h.2.1 _ y hy
 ·rw [List.getElem?_drop] at hx hy
  exact h.2.2 _ x y hx hy
theorem fillAV_sound {ρ:AV->Value->Prop}{place:Nat->Option (Nat × Nat)}:∀ (ps:List (Nat × List AV)) (vps:List (Nat × Value)) {cells cs:List AV}{arr:Array Value},Cells w I ρ cells arr.toList ->
  ps.map (·.1)=vps.map (·.1)->(∀ (k:Nat) (p:Nat × List AV) (q:Nat × Value),ps[k]?=some p->vps[k]?=some q->Cells w I ρ p.2 q.2.cells.toList)->fillAV place cells ps=some cs ->
  ∃ arr':Array Value,Instr.fill place arr vps=some arr'/\Cells w I ρ cs arr'.toList
 | [],vps,cells,cs,arr,hc,hk,_,hf=>by
  cases vps with
  | nil=>simp only [fillAV,Option.some.injEq] at hf; subst hf; exact ⟨arr,rfl,hc⟩
  | cons=>simp at hk
 | (i,c)::ps,vps,cells,cs,arr,hc,hk,hr,hf=>by
  cases vps with
  | nil=>simp at hk
  | cons q vps =>
   obtain ⟨j,v⟩:=q
   simp only [List.map_cons,List.cons.injEq] at hk
   obtain ⟨rfl,hk⟩:=hk
   have h0:=hr 0 _ _ rfl rfl
   simp only [fillAV] at hf
   cases hp:place i with
   | none=>simp [hp] at hf
   | some os =>
    obtain ⟨off,size⟩:=os
    simp only [hp] at hf
    split at hf
    ·rename_i hcond
     have hlen:v.cells.size=c.length:=by rw [<- Array.length_toList]; exact h0.1.symm
     have hlen2:arr.size=cells.length:=by rw [<- Array.length_toList]; exact hc.1.symm
     obtain ⟨arr1,e1,e2⟩:=fill_step (arr:=arr) (v:=v) hp (by omega) (by omega) vps
     have hc1:Cells w I ρ (cells.take off++c++cells.drop (off+c.length)) arr1.toList:=by
      rw [e2,hlen]
      exact ((hc.take off).append h0).append (hc.drop _)
     obtain ⟨arr',e3,e4⟩:=fillAV_sound ps vps hc1 hk (fun k p q hp hq=>hr (k+1) p q hp hq) hf
     exact ⟨arr',by rw [e1,e3],e4⟩
    ·cases hf
theorem partsAV_sound (h:SR w I T g Fs) {a:Act}(ha:a.tmps=T):∀ {l:List (Nat × Operand)}{ps:List (Nat × List AV)},partsAV g l=some ps ->
  ps.map (·.1)=(l.map fun p=>(p.1,a.eval p.2)).map (·.1)/\∀ (k:Nat) (p:Nat × List AV) (q:Nat × Value),ps[k]?=some p->(l.map fun p=>(p.1,a.eval p.2))[k]?=some q->Cells w I (RG w T g) p.2 q.2.cells.toList
 | [],ps,hp=>by simp only [partsAV,Option.some.injEq] at hp; subst hp; simp
 | (i,x)::l,ps,hp=>by
  simp only [partsAV] at hp
  cases hx:opd g x with
  | none=>simp [hx] at hp
  | some y =>
   cases hl:partsAV g l with
   | none=>simp [hx,hl] at hp
   | some ps' =>
    simp only [hx,hl,Option.map_eq_some_iff] at hp
    obtain ⟨c,hc,rfl⟩:=hp
    obtain ⟨h1,h2⟩:=partsAV_sound h ha hl
    refine ⟨by simp [h1],fun k p q hp hq=>?_⟩
    cases k with
    | zero =>
     simp at hp hq
     subst hp hq
     obtain ⟨h3,h31,h4⟩:=(opd_sound h hx ha).boxCells (fun _ h=>h) (fun _ _ hx hr=>hr.oneCell hx) hc
     exact ⟨by simpa using h3,fun k u hu=>h31 k u (by simpa using hu),fun k x u hx hu=>h4 k x u hx (by simpa using hu)⟩
    | succ k=>simp at hp hq; exact h2 k p q hp (by simpa using hq)
theorem structT_spec {t:TypeId}{pl:List (Nat × Nat)}(h:structT P t pl=true):∃ fs,P.underlying t=some (.struct fs)/\fs.toList.mapM (fun f=>(P.info? f.type).map fun i=>(f.offset,i.size))=some pl:=by
 unfold structT at h
 cases hu:P.underlying t with
 | none=>simp [hu] at h
 | some d =>
  cases d <;> simp only [hu,Bool.false_eq_true] at h
  rename_i fs
  refine ⟨fs,rfl,?_⟩
  replace h:=LawfulBEq.eq_of_beq h
  generalize fs.toList=l at h
  induction l generalizing pl with
  | nil=>cases pl with
   | nil=>rfl
   | cons=>simp at h
  | cons f l ih =>
   cases pl with
   | nil=>simp at h
   | cons p pl =>
    obtain ⟨o,s⟩:=p
    simp only [List.map_cons,List.cons.injEq,Prod.mk.injEq] at h
    obtain ⟨⟨rfl,h1⟩,h2⟩:=h
    have:=ih h2
    rw [List.mapM_cons,this]
    cases hi:P.info? f.type with
    | none=>simp [hi] at h1
    | some i=>simp [hi] at h1; subst h1; rfl
theorem PS3.sound (h:SR w I T g Fs) {a:Act}(ha:a.tmps=T) {o:Oper}{xv:AV}(hp:PS3 P g o.op o.type xv) :
  ∃ v,(execOp a.eval o).run P w=.ok (.value v) w/\R w I (RG w T g) xv v E0:=by
 obtain ⟨dst,op,ty,pos,after,guard⟩:=o
 simp only at hp
 cases hp with
 | @build t _ parts pl zv ps cs ht hz hone hp hc =>
  obtain ⟨fs,hu,hpl⟩:=structT_spec ht
  obtain ⟨h1,h2⟩:=partsAV_sound h ha hp
  obtain ⟨arr',e1,e2⟩:=fillAV_sound (w:=w) (I:=I) (ρ:=RG w T g) (place:=fun i=>pl[i]?) ps _ (arr:=zv.cells) ⟨by simp,fun k u hu=>allOne hone k u (by simpa using hu),fun k x u hx hu=>ofCells_sound k x u hx hu⟩ h1 h2 hc
  refine ⟨.agg arr',?_,.agg (Fs:=fun _=>E0) (by simpa using e2.1) (fun k u hu=>e2.2.1 k u (by simpa using hu)) (fun k x u hx hu=>e2.2.2 k x u hx (by simpa using hu)) (fun _ _ _ _ _ h=>h.elim) (fun c=>⟨fun h=>h.elim,fun ⟨_,_,h⟩=>h⟩)⟩
  have hrp:=run_places (P:=P) w fs.toList pl hpl
  have hb:P.built t ((parts.map fun (p:Nat × Operand)=>(p.1,a.eval p.2))).toList=some arr':=by
   rw [Array.toList_map]
   cases hi:P.info? t with
   | none=>simp [hi] at hz
   | some it =>
    simp [hi] at hz
    simp only [Program.built,hu,hpl,hi,hz]
    simpa using e1
  have:=run_build (P:=P) w t _ _ hb
  simp only [execOp,Sem.run_bind]
  have hm:(parts.map fun (x:Nat × Operand)=>match x with | (i,x)=>(i,a.eval x))=parts.map fun (p:Nat × Operand)=>(p.1,a.eval p.2):=rfl
  rw [hm,this]
  rfl
 | @makeFunc fn first caps _ l1 l2 h1 h2 =>
  obtain ⟨a1,a2⟩:=opds_sound h ha h1
  obtain ⟨b1,b2⟩:=opds_sound h ha h2
  refine ⟨.func fn (first.map a.eval) (caps.map a.eval),by simp [execOp,Instr.makeFunc],.clo (fun _ h=>h) (by simpa using a1) (by simpa using b1) (fun k x u hx hu=>?_) (fun k x u hx hu=>?_)⟩
  ·rw [Array.getElem?_map] at hu
   cases hk:first[k]? with
   | none=>simp [hk] at hu
   | some y=>simp [hk] at hu; subst hu; exact a2 k x y hx (by simpa using hk)
  ·rw [Array.getElem?_map] at hu
   cases hk:caps[k]? with
   | none=>simp [hk] at hu
   | some y=>simp [hk] at hu; subst hu; exact b2 k x y hx (by simpa using hk)
end
end Go.Own
namespace Go.Own
open Go
set_option linter.unusedSectionVars false
variable [TB]
structure AppRun (w w':World) (bv v':Value) (e e2:TypeId) (z n m:Nat) (us news:List Value):Prop where
 old:w'.ownsRow 0 e z bv n us
 new:w'.ownsRow 0 e2 z v' (n+m) (us++news)
 fr:Fr w w' (fun c=>bv.ownBlock=some c)
 blk:∀ c,v'.ownBlock=some c->bv.ownBlock=some c\/w.heap.size<=c
 sp:∀ c,bv.ownBlock=some c->∃ arr arr':Array Value,w.heap[c]?=some (.cells arr e (0,0))/\w'.heap[c]?=some (.cells arr' e (0,0))/\arr'.size=arr.size/\arr'.toList.take (n * z)=arr.toList.take (n * z)
section
variable {P:Program}{w:World}
theorem AppRun.same {bv v':Value}{e e2:TypeId}{z n m:Nat}{us news:List Value}{w':World}(hob:w.ownsRow 0 e z bv n us) (hb:∀ c,c<w.heap.size->w'.heap[c]?=w.heap[c]?) (hs:w.heap.size<=w'.heap.size)
  (h1:w'.os=w.os) (h2:w'.tape=w.tape) (h3:w'.output=w.output) (hnew:w'.ownsRow 0 e2 z v' (n+m) (us++news)) (hblk:∀ c,v'.ownBlock=some c->bv.ownBlock=some c\/w.heap.size<=c) (hfz:∀ a,w'.frozen? a=w.frozen? a) (hdr:w.drawn<=w'.drawn:=by first | exact Nat.le_refl _ | exact Nat.le_succ _):AppRun w w' bv v' e e2 z n m us news:=by
 have hlt:=hob.lt
 refine ⟨ownsRow_of_block hob fun c hc=>hb c (hlt c hc).2,hnew,⟨h1,h2,h3,hs,fun b hb' _=>hb b hb',fun a _ _=>hfz a,hdr⟩,hblk,fun c hc=>?_⟩
 obtain ⟨_,hh⟩:=hob
 rcases hh with ⟨rfl,_⟩ | ⟨b,cap,cur,rfl,_,hg,_⟩
 ·simp [Value.ownBlock] at hc
 ·simp only [Value.ownBlock,Option.some.injEq] at hc
  subst hc
  exact ⟨cur,cur,hg,(hb _ (hlt b rfl).2).trans hg,rfl,rfl⟩
theorem run_append_room' (t ty e e':TypeId) (i:TypeInfo) (ht:P.underlying t=some (.slice e)) (hi:P.info? e=some i)
  (b sLen sCap:Nat) (cur:Array Value) (hg:w.heap[b]?=some (.cells cur e' (0,0)))
  (a:Addr) (m c:Nat) (news:List Value) (hl:news.length=m * i.size) (hnews:∀ j u,news[j]?=some u->w.cell? (a.add j)=some u) (h1:∀ u∈news,u.oneCell'=true)
  (hroom:sLen+m<=sCap) (hfit:sLen * i.size+news.length<=cur.size) :
  (Builtin.append_ #[t,t] ty #[.slice (some ⟨b,0,none⟩) sLen sCap,.slice (some a) m c]).run P w =
   .ok (.slice (some ⟨b,0,none⟩) (sLen+m) sCap) (w.setRow b (cur.toList.take (sLen * i.size)++news++cur.toList.drop (sLen * i.size+news.length)).toArray):=by
 have hf:=run_firstCells_some (P:=P) w i.size m a m c news hl hnews
 have hst:=run_storeCells_at P b (sLen * i.size) e' news 0 cur w hg (by simpa using hfit) h1
 simp only [Nat.add_zero] at hst
 simp [Builtin.append_,run_underlying ht,sizeOf,typeInfo,hi,Builtin.lenOf,hroom,hf,Addr.add_lit,hst]
theorem run_app (t ty e e':TypeId) (i:TypeInfo) (zv:Value) (ht:P.underlying t=some (.slice e)) (hi:P.info? e=some i) (hz:i.zero=some zv) (hzs:zv.cells.size=i.size) (_h0:0<i.size)
  {bv:Value}{n m c:Nat}{us news:List Value}(hob:w.ownsRow 0 e' i.size bv n us) {a:Option Addr}(ha:0<m->a.isSome=true)
  (hl:news.length=m * i.size) (hnews:∀ ad,a=some ad->∀ (j:Nat) (u:Value),news[j]?=some u->w.cell? (ad.add j)=some u) (h1:∀ u∈news,u.oneCell'=true)
  (h63:n+m<=maxLen) (hbytes:(n+m) * i.bytes<=140737488355328) :
  ∃ v' w' e2,(Builtin.append_ #[t,t] ty #[bv,.slice a m c]).run P w=.ok v' w'/\AppRun w w' bv v' e' e2 i.size n m us news:=by
 have hus:=hob.1
 by_cases hm:m=0
 ·subst hm
  have hn:news=[]:=List.eq_nil_of_length_eq_zero (by simpa using hl)
  subst hn
  refine ⟨bv,w,e',?_,.same hob (fun _ _=>rfl) (Nat.le_refl _) rfl rfl rfl (by simpa using hob) (fun c hc=>.inl hc) fun _=>rfl⟩
  obtain ⟨_,hh⟩:=hob
  rcases hh with ⟨rfl,rfl⟩ | ⟨b,cap,cur,rfl,_,hg,hle,_⟩
  ·cases a <;> simp [Builtin.append_,run_underlying ht,sizeOf,typeInfo,hi,Builtin.lenOf,Builtin.firstCells,loadCells,loadCellsFrom]
  ·cases a <;> simp [Builtin.append_,run_underlying ht,sizeOf,typeInfo,hi,Builtin.lenOf,Builtin.firstCells,loadCells,loadCellsFrom,hle,storeCells]
 ·cases a with
  | none=>simp at ha; omega
  | some ad =>
   replace hnews:=hnews ad rfl
   have hsmall:n+m<=9223372036854775807:=by simp only [maxLen] at h63; omega
   have grown:∀ (old:Nat),old<n+m ->
     (w.drew.alloc (.cells (us.toArray++news.toArray++Builtin.zeroCells zv.cells (grownCap w (n+m) old e - (n+m))) e)).ownsRow 0 e i.size (.slice (some ⟨w.heap.size,0,none⟩) (n+m) (grownCap w (n+m) old e)) (n+m) (us++news):=by
    intro old ho
    have hge:=grownCap_ge w (n+m) old e
    have hlen:(us++news).length=(n+m) * i.size:=by rw [List.length_append,hus,hl,Nat.add_mul]
    refine ⟨hlen,.inr ⟨w.heap.size,_,_,rfl,Nat.zero_le _,alloc_new w.drew _,hge,grownCap_le_maxLen w (n+m) old e h63,?_,?_⟩⟩
    ·simp only [Array.size_append,List.size_toArray,size_zeroCells,hzs,hus,hl,<- Nat.add_mul]
     congr 1
     omega
    ·simp only [Array.toList_append,List.append_assoc]
     rw [<- List.append_assoc,<- hlen]
     exact List.take_left
   have hob0:=hob
   obtain ⟨_,hh⟩:=hob
   rcases hh with ⟨rfl,rfl⟩ | ⟨b,cap,cur,rfl,_,hg,hle,hcm,hcs,htake⟩
   ·have hx:us=[]:=List.eq_nil_of_length_eq_zero (by simpa using hus)
    subst hx
    have hr:=run_append_nil (P:=P) w t ty e i zv ht hi hz ad m c news hl hnews (by omega) (by omega) (by simp only [Nat.zero_add] at hbytes; omega)
    have hgr:=grown 0 (by omega)
    simp only [Nat.zero_add,List.nil_append,Array.empty_append] at hgr
    exact ⟨_,_,e,hr,.same hob0 (fun c hc=>alloc_old w.drew _ c hc) (by simp) rfl rfl rfl (by simpa using hgr) (fun c hc=>.inr (by simp [Value.ownBlock] at hc; omega)) (fun a=>fz_alloc w.drew _ _ a)⟩
   ·by_cases hroom:n+m<=cap
    ·have hfit:n * i.size+news.length<=cur.size:=by rw [hl,hcs,<- Nat.add_mul]; exact Nat.mul_le_mul_right _ hroom
     have hr:=run_append_room' (P:=P) (w:=w) t ty e e' i ht hi b n cap cur hg ad m c news hl hnews h1 hroom hfit
     have hlen:(us++news).length=(n+m) * i.size:=by rw [List.length_append,hus,hl,Nat.add_mul]
     have hsz:(cur.toList.take (n * i.size)++news++cur.toList.drop (n * i.size+news.length)).toArray.size=cur.size:=by
      simp only [List.size_toArray,List.length_append,List.length_take,List.length_drop,Array.length_toList]
      omega
     have htk:(cur.toList.take (n * i.size)++news++cur.toList.drop (n * i.size+news.length)).take (n * i.size)=cur.toList.take (n * i.size):=by
      rw [List.append_assoc]
      exact List.take_left' (by simp; omega)
     refine ⟨_,_,e',hr,⟨⟨hus,.inr ⟨b,cap,_,rfl,Nat.zero_le _,setRow_heap w b cur _ e' _ hg,hle,hcm,hsz.trans hcs,?_⟩⟩,⟨hlen,.inr ⟨b,cap,_,rfl,Nat.zero_le _,setRow_heap w b cur _ e' _ hg,hroom,hcm,hsz.trans hcs,?_⟩⟩,
      ⟨rfl,rfl,rfl,by simp,fun k _ hk=>setRow_other w b k _ (fun e=>hk (by simp [Value.ownBlock,e])),fun a _ _=>fz_setRow w b _ a,Nat.le_refl _⟩,fun c hc=>.inl hc,fun c hc=>?_⟩⟩
     ·rw [<- htake]; exact htk
     ·rw [htake,<- hlen]
      exact List.take_left
     ·simp only [Value.ownBlock,Option.some.injEq] at hc
      subst hc
      exact ⟨cur,_,hg,setRow_heap w b cur _ e' _ hg,hsz,htk⟩
    ·have holds:∀ (j:Nat) (u:Value),us[j]?=some u->w.cell? ((⟨b,0,none⟩:Addr).add j)=some u:=hob0.cells (g:=b) rfl
     have hr:=run_append_grow (P:=P) w t ty e i zv ht hi hz ⟨b,0,none⟩ n cap us hus holds ad m c news hl hnews (by omega) (by omega) (growslice_fits (by omega) hbytes)
     have hgr:=grown cap (by omega)
     exact ⟨_,_,e,hr,.same hob0 (fun c hc=>alloc_old w.drew _ c hc) (by simp) rfl rfl rfl hgr (fun c hc=>.inr (by simp [Value.ownBlock] at hc; omega)) (fun a=>fz_alloc w.drew _ _ a)⟩
end
end Go.Own
namespace Go.Own
open Go
set_option linter.unusedSectionVars false
variable [TB]
section
variable {w w':World}{I:BSet}{ρ ρ':AV->Value->Prop}
theorem R.kids {x:AV}{v:Value}{F:BSet}(h:R w I ρ x v F) (hx:x.kids≠[]):∃ Fs:Nat->BSet,
  (∀ k y,x.kids[k]?=some y->∃ u,child w v k=some u/\R w I ρ y u (Fs k))/\(∀ (j k c:Nat),j<x.kids.length->k<x.kids.length->Fs j c->Fs k c->j=k) /\
  (∀ k c,k<x.kids.length->Fs k c->F c)/\(∀ z n cs,x=.own z n cs->∀ c,v.ownBlock=some c->∀ k,k<x.kids.length->¬ Fs k c):=by
 cases h with
 | @own z n cs _ e us Fs _ ho hl h1 hr hd hb hF =>
  refine ⟨Fs,fun k y hk=>?_,hd,fun k c hk hc=>(hF c).2 (.inr ⟨k,hk,hc⟩),fun _ _ _ _ c hc k hk h=>hb k c hk h hc⟩
  simp only [AV.kids] at hk
  have hlt:k<cs.length:=(List.getElem?_eq_some_iff.1 hk).1
  have hu:us[k]?=some us[k]:=List.getElem?_eq_getElem (hl ▸ hlt)
  exact ⟨_,ownsRow_child ho hu,hr k y _ hk hu⟩
 | @obj cs b e arr Fs _ ho hl h1 hr hd hb hF =>
  refine ⟨Fs,fun k y hk=>?_,hd,fun k c hk hc=>(hF c).2 (.inr ⟨k,hk,hc⟩),fun _ _ _ h=>by simp at h⟩
  simp only [AV.kids] at hk
  have hlt:k<cs.length:=(List.getElem?_eq_some_iff.1 hk).1
  have hu:arr[k]?=some arr[k]:=Array.getElem?_eq_getElem (hl ▸ hlt)
  exact ⟨_,by simp [child,World.cell?,ho,hu],hr k y _ hk hu⟩
 | @agg cs vs Fs _ hl h1 hr hd hF =>
  refine ⟨Fs,fun k y hk=>?_,hd,fun k c hk hc=>(hF c).2 ⟨k,hk,hc⟩,fun _ _ _ h=>by simp at h⟩
  simp only [AV.kids] at hk
  have hlt:k<cs.length:=(List.getElem?_eq_some_iff.1 hk).1
  have hu:vs[k]?=some vs[k]:=Array.getElem?_eq_getElem (hl ▸ hlt)
  exact ⟨_,by simp [child,hu],hr k y _ hk hu⟩
 | @tup cs vs Fs _ hl hr hd hF =>
  refine ⟨Fs,fun k y hk=>?_,hd,fun k c hk hc=>(hF c).2 ⟨k,hk,hc⟩,fun _ _ _ h=>by simp at h⟩
  simp only [AV.kids] at hk
  have hlt:k<cs.length:=(List.getElem?_eq_some_iff.1 hk).1
  have hu:vs[k]?=some vs[k]:=Array.getElem?_eq_getElem (hl ▸ hlt)
  exact ⟨_,by simp [child,hu],hr k y _ hk hu⟩
 | ref hx'=>cases x <;> simp [AV.isRef,AV.kids] at hx' hx
 | _=>simp [AV.kids] at hx
theorem AV.at_cons {x y:AV}{k:Nat}{p:List Nat}(h:x.at (k::p)=some y):∃ c,x.kids[k]?=some c/\c.at p=some y:=by
 simp only [AV.at] at h
 cases hk:x.kids[k]? with
 | none=>rw [hk] at h; cases h
 | some c=>rw [hk] at h; exact ⟨c,rfl,h⟩
theorem R.node_inj {b:Nat}:∀ (q r:List Nat) {x:AV}{v:Value}{F:BSet}{z n z' n':Nat}{cs cs':List AV}{vq vr:Value},R w I ρ x v F->x.at q=some (.own z n cs)->x.at r=some (.own z' n' cs') ->
  walk w v q=some vq->walk w v r=some vr->vq.ownBlock=some b->vr.ownBlock=some b->q=r
 | [],[],_,_,_,_,_,_,_,_,_,_,_,_,_,_,_,_,_,_=>rfl
 | [],k::r,x,v,F,z,n,z',n',cs,cs',vq,vr,h,hq,hr,wq,wr,bq,br=>by
  obtain ⟨c,hk,hc⟩:=AV.at_cons hr
  simp only [AV.at,Option.some.injEq] at hq
  simp only [walk,Option.some.injEq] at wq
  subst hq wq
  have hlt:k<(AV.own z n cs).kids.length:=(List.getElem?_eq_some_iff.1 hk).1
  obtain ⟨Fs,h1,h2,h3,h4⟩:=h.kids (by intro e; rw [e] at hlt; simp at hlt)
  obtain ⟨u,hu,hRu⟩:=h1 k c hk
  simp only [walk,hu] at wr
  obtain ⟨vy,Fy,hw,hRy,hFy,_⟩:=R.focus r hRu hc
  rw [hw] at wr
  cases wr
  exact absurd (hFy b (hRy.own_block b br)) (h4 z n cs rfl b bq k hlt)
 | j::q,[],x,v,F,z,n,z',n',cs,cs',vq,vr,h,hq,hr,wq,wr,bq,br=>by
  obtain ⟨c,hk,hc⟩:=AV.at_cons hq
  simp only [AV.at,Option.some.injEq] at hr
  simp only [walk,Option.some.injEq] at wr
  subst hr wr
  have hlt:j<(AV.own z' n' cs').kids.length:=(List.getElem?_eq_some_iff.1 hk).1
  obtain ⟨Fs,h1,h2,h3,h4⟩:=h.kids (by intro e; rw [e] at hlt; simp at hlt)
  obtain ⟨u,hu,hRu⟩:=h1 j c hk
  simp only [walk,hu] at wq
  obtain ⟨vy,Fy,hw,hRy,hFy,_⟩:=R.focus q hRu hc
  rw [hw] at wq
  cases wq
  exact absurd (hFy b (hRy.own_block b bq)) (h4 z' n' cs' rfl b br j hlt)
 | j::q,k::r,x,v,F,z,n,z',n',cs,cs',vq,vr,h,hq,hr,wq,wr,bq,br=>by
  obtain ⟨c,hj,hc⟩:=AV.at_cons hq
  obtain ⟨d,hk,hd⟩:=AV.at_cons hr
  have hjl:j<x.kids.length:=(List.getElem?_eq_some_iff.1 hj).1
  have hkl:k<x.kids.length:=(List.getElem?_eq_some_iff.1 hk).1
  obtain ⟨Fs,h1,h2,h3,h4⟩:=h.kids (by intro e; rw [e] at hjl; simp at hjl)
  obtain ⟨u,hu,hRu⟩:=h1 j c hj
  obtain ⟨u',hu',hRu'⟩:=h1 k d hk
  simp only [walk,hu] at wq
  simp only [walk,hu'] at wr
  by_cases hjk:j=k
  ·subst hjk
   rw [hj] at hk; cases hk
   rw [hu] at hu'; cases hu'
   rw [R.node_inj q r hRu hc hd wq wr bq br]
  ·exfalso
   obtain ⟨vy,Fy,hw,hRy,hFy,_⟩:=R.focus q hRu hc
   obtain ⟨vy',Fy',hw',hRy',hFy',_⟩:=R.focus r hRu' hd
   rw [hw] at wq; cases wq
   rw [hw'] at wr; cases wr
   exact hjk (h2 j k b hjl hkl (hFy b (hRy.own_block b bq)) (hFy' b (hRy'.own_block b br)))
theorem AV.setAt_self:∀ (q:List Nat) {x y:AV},x.at q=some y->x.setAt q y=x
 | [],x,y,h=>by simp [AV.at] at h; simp [AV.setAt,h]
 | k::q,x,y,h=>by
  obtain ⟨c,hk,hc⟩:=AV.at_cons h
  simp only [AV.setAt,hk,AV.setAt_self q hc]
  have:∀ (l:List AV),l[k]?=some c->l.set k c=l:=by
   intro l hl
   apply List.ext_getElem?
   intro j
   by_cases hjk:k=j
   ·subst hjk
    have hlt:k<l.length:=(List.getElem?_eq_some_iff.1 hl).1
    rw [List.getElem?_set_self hlt,hl]
   ·rw [List.getElem?_set_ne hjk]
  cases x <;> simp [AV.kids] at hk <;> simp [AV.setKid,this _ hk]
theorem walk_app (w:World):∀ (p:List Nat) (v:Value) (r:List Nat),walk w v (p++r)=(walk w v p).bind fun u=>walk w u r
 | [],v,r=>rfl
 | k::p,v,r=>by
  simp only [List.cons_append,walk]
  cases child w v k with
  | none=>rfl
  | some u=>exact walk_app w p u r
theorem AV.at_app:∀ (p:List Nat) (x:AV) (r:List Nat),x.at (p++r)=(x.at p).bind fun y=>y.at r
 | [],x,r=>rfl
 | k::p,x,r=>by
  simp only [List.cons_append,AV.at]
  cases x.kids[k]? with
  | none=>rfl
  | some u=>exact AV.at_app p u r
structure Spare (w w':World) (b M:Nat):Prop where
 other:∀ c,c<w.heap.size->c≠b->w'.heap[c]?=w.heap[c]?
 here:∃ (arr arr':Array Value) (e:TypeId),w.heap[b]?=some (.cells arr e (0,0))/\w'.heap[b]?=some (.cells arr' e (0,0))/\arr'.size=arr.size/\arr'.toList.take M=arr.toList.take M
theorem Spare.row {b M:Nat}(s:Spare w w' b M) {e:TypeId}{z n:Nat}{v:Value}{us:List Value}(h:w.ownsRow 0 e z v n us) (hn:v.ownBlock=some b->n * z<=M):w'.ownsRow 0 e z v n us:=by
 by_cases hb:v.ownBlock=some b
 ·obtain ⟨arr,arr',e1,h1,h2,h3,h4⟩:=s.here
  obtain ⟨hu,hh⟩:=h
  rcases hh with ⟨rfl,rfl⟩ | ⟨g,cap,cur,rfl,hg,hc,r1,r2,r3,r4⟩
  ·simp [Value.ownBlock] at hb
  ·simp only [Value.ownBlock,Option.some.injEq] at hb
   subst hb
   rw [h1] at hc
   cases hc
   refine ⟨hu,.inr ⟨g,cap,arr',rfl,hg,h2,r1,r2,by omega,?_⟩⟩
   rw [<- r4]
   have:=congrArg (List.take (n * z)) h4
   rwa [List.take_take,List.take_take,Nat.min_eq_left (hn rfl)] at this
 ·exact ownsRow_of_block h fun c hc=>s.other c (h.lt c hc).2 fun e=>hb (e ▸ hc)
theorem R.spare {b M:Nat}(s:Spare w w' b M) (hI:∀ c,I c->c<w.heap.size/\c≠b) (hρ:∀ x v,ρ x v->ρ' x v) {x:AV}{v:Value}{F:BSet}(h:R w I ρ x v F) {q:List Nat}{z n:Nat}{cs:List AV}{vy:Value}
  (hat:x.at q=some (.own z n cs)) (hw:walk w v q=some vy) (hb:vy.ownBlock=some b) (hn:n * z<=M) :
  R w' I ρ' x v F/\∀ r y,x.at r=some y->walk w' v r=walk w v r:=by
 obtain ⟨vy',Fy,hw',hRy,hFy,wk,rebuild⟩:=R.focus q h hat
 rw [hw] at hw'
 cases hw'
 have hbF:Fy b:=hRy.own_block b hb
 have hlt:=h.lt
 have same:∀ c,F c->c≠b->w'.heap[c]?=w.heap[c]?:=fun c hc hne=>s.other c (hlt c hc) hne
 have hRy0:=hRy
 cases hRy with
 | ref hx=>simp [AV.isRef] at hx
 | @own _ _ _ _ e us Fs _ ho hl h1 hr hd hbb hF =>
  have ho':=s.row ho fun _=>hn
  have hne:∀ k c,k<cs.length->Fs k c->c≠b:=fun k c hk hc e=>hbb k c hk hc (e ▸ hb)
  have hFs:∀ k c,k<cs.length->Fs k c->F c:=fun k c hk hc=>hFy c ((hF c).2 (.inr ⟨k,hk,hc⟩))
  have hnew:R w' I ρ' (.own z n cs) vy Fy:=by
   refine .own ho' hl h1 (fun k x u hx hu=>?_) hd hbb hF
   have hk:k<cs.length:=(List.getElem?_eq_some_iff.1 hx).1
   exact (hr k x u hx hu).frame (fun c hc=>s.other c (hI c hc).1 (hI c hc).2) (fun _ h=>h) hρ fun c hc=>same c (hFs k c hk hc) (hne k c hk hc)
  constructor
  ·obtain ⟨F',hR',hF'⟩:=rebuild w' I ρ' _ Fy ⟨fun c hc=>s.other c (hI c hc).1 (hI c hc).2,fun c hc hn=>same c hc fun e=>hn (e ▸ hbF),fun _ h=>h,hρ⟩ hnew (fun c hc _=>hc) fun _ h=>by cases h
   rw [AV.setAt_self q hat] at hR'
   refine hR'.congrF fun c=>?_
   rw [hF' c]
   constructor
   ·rintro (⟨h,_⟩ | h)
    ·exact h
    ·exact hFy c h
   ·intro h
    by_cases hc:Fy c
    ·exact .inr hc
    ·exact .inl ⟨h,hc⟩
  ·obtain ⟨w1,w2⟩:=wk w' fun c hc hn=>same c hc fun e=>hn (e ▸ hbF)
   intro r y hr'
   rcases w2 r y hr' with ⟨r',rfl⟩ | h
   ·rw [walk_app,walk_app,w1,hw]
    simp only [Option.bind_some]
    cases r' with
    | nil=>rfl
    | cons k r' =>
     rw [AV.at_app,hat] at hr'
     obtain ⟨c,hk,hc⟩:=AV.at_cons (x:=.own z n cs) hr'
     simp only [AV.kids] at hk
     have hkl:k<cs.length:=(List.getElem?_eq_some_iff.1 hk).1
     have hu:us[k]?=some us[k]:=List.getElem?_eq_getElem (hl ▸ hkl)
     have:=R.walk_frame (w':=w') r' (hr k c _ hk hu) hc fun c hc=>same c (hFs k c hkl hc) (hne k c hkl hc)
     simp [walk,ownsRow_child ho hu,ownsRow_child ho' hu,this]
   ·exact h
end
end Go.Own
namespace Go.Own
open Go
set_option linter.unusedSectionVars false
variable [TB]
section
variable {w w':World}{I:BSet}{T:Array Value}{g:Gst}{Fs:Nat->BSet}
theorem SR.slotVal (h:SR w I T g Fs) {t:Nat}{x:AV}(hx:g t=some x):∃ v,T[t]?=some v/\valAt w T ⟨t,[]⟩=some v/\RT w I (RG w T g) x v (Fs t):=by
 obtain ⟨v,hv,hR⟩:=h.rel t x hx
 exact ⟨v,hv,by simp [valAt,hv,walk],hR⟩
theorem SR.app (h:SR w I T g Fs) {z n m:Nat}{p:Place}{bv v':Value}{e e2:TypeId}{us news:List Value}(hbv:RG w T g (.pend z p n 0 []) bv)
  (hno:∀ t z' n' m' new',g t≠some (.pend z' p n' m' new')) (A:AppRun w w' bv v' e e2 z n m us news):SR w' I T g Fs/\∀ r v,RG w T g r v->RG w' T g r v:=by
 cases hbb:bv.ownBlock with
 | none =>
  have same:∀ c,c<w.heap.size->w'.heap[c]?=w.heap[c]?:=fun c hc=>A.fr.block c hc (by rw [hbb]; simp)
  exact ⟨h.world (fun t c hc=>same c (h.ltF t c hc)) (fun c hc=>same c (h.lt c hc)) A.fr.size,fun r v hr=>h.ref_same (fun _ _=>rfl) (fun t c hc=>same c (h.ltF t c hc)) (fun _ _ h=>h) hr⟩
 | some b =>
  have s:Spare w w' b (n * z):=by
   refine ⟨fun c hc hne=>A.fr.block c hc (by rw [hbb]; simpa using Ne.symm hne),?_⟩
   obtain ⟨arr,arr',h1,h2,h3,h4⟩:=A.sp b hbb
   exact ⟨arr,arr',e,h1,h2,h3,h4⟩
  obtain ⟨t0,ht0⟩:=h.base_block hbv b hbb
  have hI:∀ c,I c->c<w.heap.size/\c≠b:=fun c hc=>⟨h.lt c hc,fun e=>h.imm t0 b ht0 (e ▸ hc)⟩
  obtain ⟨⟨ba,bcap,hbval,rfl⟩,hok⟩:=hbv
  -- the home of the block
  have home:∃ N:Place->Prop,(∀ q z' n' cs' vq,atP g q=some (.own z' n' cs')->valAt w T q=some vq->vq.ownBlock=some b->N q) /\
    (∀ q,N q->∀ t z' n' m' new',g t=some (.pend z' q n' m' new')->t=p.root/\p.path=[]) /\
    (∀ t z' q' n' m' new',Fs t b->g t=some (.pend z' q' n' m' new')->t=p.root/\p.path=[]) /\
    (∀ z' q' n' m' new',p.path=[]->g p.root=some (.pend z' q' n' m' new')->z'=z/\n=n'+m') /\
    (∀ t x v,Fs t b->g t=some x->T[t]?=some v->R w I (RG w T g) x v (Fs t)->∃ q z' n' cs' vy,x.at q=some (.own z' n' cs')/\walk w v q=some vy/\vy.ownBlock=some b/\n' * z'<=n * z):=by
   rcases hok with ⟨cs,hp⟩ | ⟨hp0,q1,n1,m1,new1,cs,hp,hn,hq1⟩
   ·-- the base is a row of a tree
    obtain ⟨vp,Fp,hvp,hRp,hFp⟩:=h.part hp (by simp)
    rw [hbval] at hvp
    cases hvp
    have hroot:t0=p.root:=h.dis _ _ _ ht0 (hFp b (hRp.own_block b hbb))
    obtain ⟨x0,hx0⟩:∃ x0,g p.root=some x0:=by
     unfold atP at hp
     cases hx:g p.root with
     | none=>rw [hx] at hp; cases hp
     | some x=>exact ⟨x,rfl⟩
    have hat0:x0.at p.path=some (.own z n cs):=by simpa [atP,hx0] using hp
    have notPend:∀ z' q' n' m' new',g p.root≠some (.pend z' q' n' m' new'):=by
     intro z' q' n' m' new' hh
     rw [hx0] at hh
     cases hh
     have:=(AV.at_pend hat0).2
     simp at this
    obtain ⟨v0,hv0,hR0⟩:=h.rel _ _ hx0
    have hR0':=hR0.isTree (fun z' q' n' m' new' e=>notPend z' q' n' m' new' (by rw [hx0,e]))
    have hw0:walk w v0 p.path=some (.slice ba n bcap):=by simpa [valAt,hv0] using hbval
    refine ⟨fun q=>q=p,?_,?_,?_,?_,?_⟩
    ·intro q z' n' cs' vq hq hvq hbq
     obtain ⟨vq',Fq,hvq',hRq,hFq⟩:=h.part hq (by simp)
     rw [hvq] at hvq'
     cases hvq'
     have hr:q.root=p.root:=(h.dis _ _ _ (hFq b (hRq.own_block b hbq)) ht0).trans hroot
     have hatq:x0.at q.path=some (.own z' n' cs'):=by simpa [atP,hr,hx0] using hq
     have hwq:walk w v0 q.path=some vq:=by simpa [valAt,hr,hv0] using hvq
     have:=R.node_inj q.path p.path hR0' hatq hat0 hwq hw0 hbq hbb
     cases q; cases p; simp_all
    ·rintro q rfl t z' n' m' new' hh; exact absurd hh (hno t z' n' m' new')
    ·intro t z' q' n' m' new' htb hh
     have:t=p.root:=(h.dis _ _ _ htb ht0).trans hroot
     rw [this] at hh
     exact absurd hh (notPend _ _ _ _ _)
    ·intro z' q' n' m' new' _ hh; exact absurd hh (notPend _ _ _ _ _)
    ·intro t x v htb hx hv hR
     have:t=p.root:=(h.dis _ _ _ htb ht0).trans hroot
     subst this
     rw [hx0] at hx; cases hx
     rw [hv0] at hv; cases hv
     exact ⟨_,_,_,_,_,hat0,hw0,hbb,Nat.le_refl _⟩
   ·-- the base is behind an append itself
    obtain ⟨v0,hv0,hva0,hR0⟩:=h.slotVal hp
    have hv0':v0=.slice ba n bcap:=by
     have:(⟨p.root,[]⟩:Place)=p:=by cases p; simp_all
     rw [this,hbval] at hva0
     exact (Option.some.inj hva0).symm
    subst hv0'
    obtain ⟨bv1,e1,e12,us1,news1,hR0⟩:=hR0.isPend
    by_cases hb1:bv1.ownBlock=some b
    ·obtain ⟨⟨a1,cap1,hval1,rfl⟩,_⟩:=hR0.hbv
     obtain ⟨vq,Fq,hvq,hRq,hFq⟩:=h.part hq1 (by simp)
     rw [hval1] at hvq
     cases hvq
     have hroot:t0=q1.root:=h.dis _ _ _ ht0 (hFq b (hRq.own_block b hb1))
     obtain ⟨x0,hx0⟩:∃ x0,g q1.root=some x0:=by
      unfold atP at hq1
      cases hx:g q1.root with
      | none=>rw [hx] at hq1; cases hq1
      | some x=>exact ⟨x,rfl⟩
     have hat0:x0.at q1.path=some (.own z n1 cs):=by simpa [atP,hx0] using hq1
     have notPend:∀ z' q' n' m' new',g q1.root≠some (.pend z' q' n' m' new'):=by
      intro z' q' n' m' new' hh
      rw [hx0] at hh
      cases hh
      have:=(AV.at_pend hat0).2
      simp at this
     obtain ⟨v1,hv1,hR1⟩:=h.rel _ _ hx0
     have hR1':=hR1.isTree (fun z' q' n' m' new' e=>notPend z' q' n' m' new' (by rw [hx0,e]))
     have hw0:walk w v1 q1.path=some (.slice a1 n1 cap1):=by simpa [valAt,hv1] using hval1
     refine ⟨fun q=>q=q1,?_,?_,?_,?_,?_⟩
     ·intro q z' n' cs' vq hq hvq hbq
      obtain ⟨vq',Fq',hvq',hRq',hFq'⟩:=h.part hq (by simp)
      rw [hvq] at hvq'
      cases hvq'
      have hr:q.root=q1.root:=(h.dis _ _ _ (hFq' b (hRq'.own_block b hbq)) ht0).trans hroot
      have hatq:x0.at q.path=some (.own z' n' cs'):=by simpa [atP,hr,hx0] using hq
      have hwq:walk w v1 q.path=some vq:=by simpa [valAt,hr,hv1] using hvq
      have:=R.node_inj q.path q1.path hR1' hatq hat0 hwq hw0 hbq hb1
      cases q; cases q1; simp_all
     ·rintro q rfl t z' n' m' new' hh; exact ⟨h.pok _ _ _ _ _ _ _ _ _ _ _ hh hp,hp0⟩
     ·intro t z' q' n' m' new' htb hh
      have:t=q1.root:=(h.dis _ _ _ htb ht0).trans hroot
      rw [this] at hh
      exact absurd hh (notPend _ _ _ _ _)
     ·intro z' q' n' m' new' _ hh
      rw [hp] at hh; cases hh; exact ⟨rfl,hn⟩
     ·intro t x v htb hx hv hR
      have:t=q1.root:=(h.dis _ _ _ htb ht0).trans hroot
      subst this
      rw [hx0] at hx; cases hx
      rw [hv1] at hv; cases hv
      exact ⟨_,_,_,_,_,hat0,hw0,hb1,Nat.mul_le_mul_right _ (by omega)⟩
    ·have hF0:Fs p.root b:=(hR0.hF b).2 ⟨hbb,hb1⟩
     have hroot:t0=p.root:=h.dis _ _ _ ht0 hF0
     refine ⟨fun _=>False,?_,fun _ h=>h.elim,?_,?_,?_⟩
     ·intro q z' n' cs' vq hq hvq hbq
      obtain ⟨vq',Fq',hvq',hRq',hFq'⟩:=h.part hq (by simp)
      rw [hvq] at hvq'
      cases hvq'
      have hr:q.root=p.root:=h.dis _ _ _ (hFq' b (hRq'.own_block b hbq)) hF0
      unfold atP at hq
      rw [hr,hp] at hq
      have:=(AV.at_pend hq).2
      simp at this
     ·intro t z' q' n' m' new' htb _; exact ⟨h.dis _ _ _ htb hF0,hp0⟩
     ·intro z' q' n' m' new' _ hh
      rw [hp] at hh; cases hh; exact ⟨rfl,hn⟩
     ·intro t x v htb hx hv hR
      have:t=p.root:=h.dis _ _ _ htb hF0
      subst this
      rw [hp] at hx; cases hx
      exact hR.notPend.elim
  obtain ⟨N,hN1,hN2,hN3,hN4,hN5⟩:=home
  -- rows of pends
  have pends:∀ t z' q' n' m' new' v bv' e' e2' us' news',g t=some (.pend z' q' n' m' new')->T[t]?=some v->RPend w I (RG w T g) z' q' n' m' new' v (Fs t) bv' e' e2' us' news' ->
    (v.ownBlock=some b->(n'+m') * z'<=n * z)/\(bv'.ownBlock=some b->n' * z'<=n * z):=by
   intro t z' q' n' m' new' v bv' e' e2' us' news' hg hv hR
   by_cases ht:t=p.root/\p.path=[]
   ·obtain ⟨rfl,hp0⟩:=ht
    obtain ⟨rfl,rfl⟩:=hN4 _ _ _ _ _ hp0 hg
    exact ⟨fun _=>Nat.le_refl _,fun _=>Nat.mul_le_mul_right _ (by omega)⟩
   ·have hbase:bv'.ownBlock≠some b:=by
     intro hb'
     obtain ⟨⟨a2,cap2,hval2,rfl⟩,hok2⟩:=hR.hbv
     rcases hok2 with ⟨cs2,h2⟩ | ⟨h0,q3,n3,m3,new3,cs3,h2,h3,h4⟩
     ·exact ht (hN2 q' (hN1 q' _ _ _ _ h2 hval2 hb') t _ _ _ _ hg)
     ·obtain ⟨v2,hv2,hva2,hR2⟩:=h.slotVal h2
      have hq':(⟨q'.root,[]⟩:Place)=q':=by cases q'; simp_all
      rw [hq',hval2] at hva2
      cases hva2
      have hroot2:q'.root=p.root/\p.path=[]->False:=by
       rintro ⟨hr,hp0⟩
       have:q'=p:=by cases q'; cases p; simp_all
       exact hno t z' n' m' new' (this ▸ hg)
      obtain ⟨bv3,e3,e32,us3,news3,hR2⟩:=hR2.isPend
      by_cases hb3:bv3.ownBlock=some b
      ·obtain ⟨⟨a4,cap4,hval4,rfl⟩,_⟩:=hR2.hbv
       exact hroot2 (hN2 q3 (hN1 q3 _ _ _ _ h4 hval4 hb3) _ _ _ _ _ h2)
      ·exact hroot2 (hN3 _ _ _ _ _ _ ((hR2.hF b).2 ⟨hb',hb3⟩) h2)
    refine ⟨fun hvb=>?_,fun hb'=>absurd hb' hbase⟩
    exact absurd (hN3 _ _ _ _ _ _ ((hR.hF b).2 ⟨hvb,hbase⟩) hg) ht
  -- trees
  have hlt:=h.ltF
  have trees:∀ t x v (ρ':AV->Value->Prop),(∀ x v,RG w T g x v->ρ' x v)->g t=some x->T[t]?=some v->R w I (RG w T g) x v (Fs t)->R w' I ρ' x v (Fs t)/\∀ r y,x.at r=some y->walk w' v r=walk w v r:=by
   intro t x v ρ' hρ hx hv hR
   by_cases htb:Fs t b
   ·obtain ⟨q,z',n',cs',vy,h1,h2,h3,h4⟩:=hN5 t x v htb hx hv hR
    exact hR.spare s hI hρ h1 h2 h3 h4
   ·have same:∀ c,Fs t c->w'.heap[c]?=w.heap[c]?:=fun c hc=>s.other c (hlt t c hc) fun e=>htb (e ▸ hc)
    exact ⟨hR.frame (fun c hc=>s.other c (hI c hc).1 (hI c hc).2) (fun _ h=>h) hρ same,fun r y hr=>R.walk_frame r hR hr same⟩
  have val:∀ q y,atP g q=some y->valAt w' T q=valAt w T q:=by
   intro q y hq
   unfold atP at hq
   cases hx:g q.root with
   | none=>rw [hx] at hq; cases hq
   | some x =>
    rw [hx] at hq
    obtain ⟨v,hv,hR⟩:=h.rel _ _ hx
    cases hR with
    | tree hR=>have:=(trees _ x v _ (fun _ _ h=>h) hx hv hR).2 q.path y hq; simp [valAt,hv,this]
    | pend hR=>simp [valAt,hv,(AV.at_pend hq).1,walk]
  have slot:∀ {q:Place}{x:AV},q.path=[]->g q.root=some x->valAt w' T q=valAt w T q:=by
   intro q x hq hx
   obtain ⟨v,hv,_⟩:=h.rel _ _ hx
   simp [valAt,hq,walk]
  have refs:∀ r v,RG w T g r v->RG w' T g r v:=by
   rintro r v ⟨h1,h2⟩
   refine ⟨?_,h2⟩
   cases r <;> simp only [RefAt,RefOk] at h1 h2 ⊢
   case ptr q k=>obtain ⟨y,hy,_⟩:=h2; rw [val q y hy]; exact h1
   case brw z' q n' =>
    rcases h2 with ⟨_,_,h2,_⟩ | ⟨h0,_,_,_,_,h2,_⟩
    ·rw [val q _ h2]; exact h1
    ·rw [slot h0 h2]; exact h1
   case sub z' q lo n'=>obtain ⟨_,_,h2,_⟩:=h2; rw [val q _ h2]; exact h1
   case mref q=>obtain ⟨_,h2⟩:=h2; rw [val q _ h2]; exact h1
   case pend z' q n' m' new' =>
    rcases h2 with ⟨_,h2⟩ | ⟨h0,_,_,_,_,_,h2,_⟩
    ·rw [val q _ h2]; exact h1
    ·rw [slot h0 h2]; exact h1
  refine ⟨⟨fun t x hx=>?_,h.non,h.dis,h.imm,fun c hc=>Nat.lt_of_lt_of_le (h.lt c hc) A.fr.size,h.pok,TB.keep h.tb (fun c hc=>s.other c (hI c hc).1 (hI c hc).2) fun _ h=>h⟩,refs⟩
  obtain ⟨v,hv,hR⟩:=h.rel t x hx
  refine ⟨v,hv,?_⟩
  cases hR with
  | tree hR=>exact .tree (trees t x v _ refs hx hv hR).1
  | @pend z' n' m' q' new' _ bv' e' e2' us' news' _ hR =>
   obtain ⟨p1,p2⟩:=pends t _ _ _ _ _ v bv' e' e2' us' news' hx hv hR
   refine .pend ⟨refs _ _ hR.hbv,s.row hR.hob p2,s.row hR.hov p1,hR.hl,hR.h1,fun k x u hx hu=>?_,hR.hF⟩
   exact (hR.hr k x u hx hu).frame (fun c hc=>s.other c (hI c hc).1 (hI c hc).2) (fun _ h=>h) refs fun c hc=>hc.elim
end
end Go.Own
namespace Go.Own
open Go
set_option linter.unusedSectionVars false
variable [TB]
def Gives (w:World) (I:BSet) (T:Array Value) (g:Gst) (Fs:Nat->BSet) (x:AV) (v:Value) (w':World):Prop :=
 ∃ F I',SR w' I' T g Fs/\RT w' I' (RG w' T g) x v F/\(∀ t c,F c->¬ Fs t c)/\(∀ c,F c->w.heap.size<=c/\¬ I' c)/\(∀ c,I c->I' c)/\(∀ c,I' c->I c\/w.heap.size<=c)/\Fr w w' (fun c=>∃ t,Fs t c)/\(∀ z p n m new,x=.pend z p n m new->∀ t z' n' m' new',g t≠some (.pend z' p n' m' new'))
inductive Src (g:Gst):AV->Nat->Nat->List AV->Prop
 | imm {z m:Nat}{cs:List AV}:Src g (.imm z m cs) z m cs
 | nils {z:Nat}:Src g .nils z 0 []
 | brw {z m N:Nat}{q:Place}{cs:List AV}(hq:atP g q=some (.own z N cs)) (hm:m<=N):Src g (.brw z q m) z m ((cs.take (m * z)).mapIdx fun i x=>refIn 0 (q.push i) x)
 | sub {z lo m N:Nat}{q:Place}{cs:List AV}(hq:atP g q=some (.own z N cs)) (hm:lo+m<=N):Src g (.sub z q lo m) z m (((cs.drop (lo * z)).take (m * z)).mapIdx fun i x=>refIn 0 (q.push (lo * z+i)) x)
def appT (P:Program) (t e:TypeId) (z b:Nat):Bool :=
 match P.underlying t,P.info? e with
 | some (.slice e'),some i=>e' == e&&i.size == z&&i.bytes == b&&z != 0&&(match i.zero with | some v=>v.cells.size == z | none=>false)
 | _,_=>false
section
variable {P:Program}{w:World}{I:BSet}{T:Array Value}{g:Gst}{Fs:Nat->BSet}
theorem appT_spec {t e:TypeId}{z b:Nat}(h:appT P t e z b=true):∃ i zv,P.underlying t=some (.slice e)/\P.info? e=some i/\i.size=z/\i.bytes=b/\0<z/\i.zero=some zv/\zv.cells.size=z:=by
 unfold appT at h
 cases hu:P.underlying t with
 | none=>simp [hu] at h
 | some d =>
  cases hi:P.info? e with
  | none=>cases d <;> simp [hu,hi] at h
  | some i =>
   cases d <;> simp [hu,hi] at h
   obtain ⟨⟨⟨⟨rfl,h1⟩,h2⟩,h3⟩,h4⟩:=h
   cases hz:i.zero with
   | none=>simp [hz] at h4
   | some zv=>simp [hz] at h4; exact ⟨i,zv,rfl,rfl,h1,h2,by omega,hz,h4⟩
theorem Src.sound (h:SR w I T g Fs) {y:AV}{v:Value}{z m:Nat}{cells:List AV}(hs:Src g y z m cells) (hR:R w I (RG w T g) y v E0) :
  ∃ (a:Option Addr) (c:Nat) (news:List Value),v=.slice a m c/\news.length=m * z/\(0<m->0<z->a.isSome=true)/\(∀ ad,a=some ad->∀ (j:Nat) (u:Value),news[j]?=some u->w.cell? (ad.add j)=some u)/\Cells w I (RG w T g) cells news:=by
 have ofNode:∀ {q:Place}{N:Nat}{cs:List AV}(lo:Nat) {a:Option Addr}{cap:Nat},atP g q=some (.own z N cs)->valAt w T q=some (.slice a N cap)->lo+m<=N ->
   ∃ news:List Value,news.length=m * z/\(∀ ad,a=some ad->∀ (j:Nat) (u:Value),news[j]?=some u->w.cell? ⟨ad.block,lo * z+j,none⟩=some u)/\Cells w I (RG w T g) (((cs.drop (lo * z)).take (m * z)).mapIdx fun i x=>refIn 0 (q.push (lo * z+i)) x) news/\(0<m->0<z->∃ b,a=some ⟨b,0,none⟩):=by
  intro q N cs lo a cap hq hv hm
  obtain ⟨v',Fy,hv',hRy,_⟩:=h.part hq (by simp)
  rw [hv] at hv'
  cases hv'
  obtain ⟨a',cap',hsl,_,hlen,hoff,_⟩:=hRy.own_slice
  cases hsl
  have hbd:lo * z+m * z<=cs.length:=by rw [hlen,<- Nat.add_mul]; exact Nat.mul_le_mul_right _ hm
  have cell:∀ j,j<m * z->∃ b uu xx,a=some ⟨b,0,none⟩/\w.cell? ⟨b,lo * z+j,none⟩=some uu/\uu.oneCell'=true/\cs[lo * z+j]?=some xx/\R w I (RG w T g) (refIn 0 (q.push (lo * z+j)) xx) uu E0:=by
   intro j hj
   have hx':cs[lo * z+j]?=some cs[lo * z+j]:=List.getElem?_eq_getElem (by omega)
   obtain ⟨b,uu,had,hcell,hch,hone,Fk,hRk⟩:=hRy.node (.inl rfl) hx'
   refine ⟨b,uu,_,?_,hcell,hone,hx',refIn_sound 0 (by rw [atP_push,hq]; simp [AV.kids]) (by rw [valAt_push,hv]; exact hch) hRk⟩
   cases a with
   | none=>simp [addrOf] at had
   | some ad=>simp only [addrOf] at had; rw [Option.some.inj had]
  have hnews:∃ news:List Value,news.length=m * z/\∀ j,j<m * z->∃ b uu xx,news[j]?=some uu/\a=some ⟨b,0,none⟩/\w.cell? ⟨b,lo * z+j,none⟩=some uu/\uu.oneCell'=true/\cs[lo * z+j]?=some xx/\R w I (RG w T g) (refIn 0 (q.push (lo * z+j)) xx) uu E0:=by
   refine ⟨(List.range (m * z)).map fun j=>(w.cell? ⟨(a.map (·.block)).getD 0,lo * z+j,none⟩).getD undef,by simp,fun j hj=>?_⟩
   obtain ⟨b,uu,xx,h1,h2,h3,h4,h5⟩:=cell j hj
   refine ⟨b,uu,xx,?_,h1,h2,h3,h4,h5⟩
   rw [List.getElem?_map,List.getElem?_range hj,h1]
   simp [h2]
  obtain ⟨news,hl,hn⟩:=hnews
  refine ⟨news,hl,fun ad had j u hj=>?_,⟨?_,fun j u hj=>?_,fun j x u hx hj=>?_⟩,fun hm0 hz0=>?_⟩
  ·obtain ⟨b,uu,xx,h1,h2,h3,_⟩:=hn j (by rw [<- hl]; exact (List.getElem?_eq_some_iff.1 hj).1)
   rw [h1] at hj; cases hj
   rw [had] at h2; cases h2
   exact h3
  ·simp; omega
  ·obtain ⟨b,uu,xx,h1,h2,h3,h4,_⟩:=hn j (by rw [<- hl]; exact (List.getElem?_eq_some_iff.1 hj).1)
   rw [h1] at hj; cases hj; exact h4
  ·obtain ⟨b,uu,xx,h1,h2,h3,h4,h5,h6⟩:=hn j (by rw [<- hl]; exact (List.getElem?_eq_some_iff.1 hj).1)
   rw [h1] at hj; cases hj
   rw [List.getElem?_mapIdx,List.getElem?_take] at hx
   split at hx
   ·rw [List.getElem?_drop,h5] at hx
    simp only [Option.map_some,Option.some.injEq] at hx
    rw [<- hx]; exact h6
   ·cases hx
  ·obtain ⟨b,_,_,h1,_⟩:=cell 0 (Nat.mul_pos hm0 hz0)
   exact ⟨b,h1⟩
 cases hs with
 | imm =>
  obtain ⟨a,cap,rfl,_,hlen,hm⟩:=hR.inv_imm
  by_cases h0:cells≠[]\/0<m
  ·obtain ⟨ad,us,rfl,hI,hsp,hone,hc,hr⟩:=hm h0
   refine ⟨_,cap,(List.range cells.length).map us,rfl,by simp [hlen],by simp,fun ad' had j u hj=>?_,⟨by simp,fun j u hj=>?_,fun j x u hx hj=>?_⟩⟩
   ·cases had
    rw [List.getElem?_map] at hj
    by_cases hjl:j<cells.length
    ·rw [List.getElem?_range hjl] at hj
     simp only [Option.map_some,Option.some.injEq] at hj
     obtain ⟨b,o,sp⟩:=ad
     simp only at hsp
     subst hsp
     rw [add_eq,<- hj]
     exact hc j _ (List.getElem?_eq_getElem hjl)
    ·rw [List.getElem?_eq_none (by simp; omega)] at hj; cases hj
   ·rw [List.getElem?_map] at hj
    by_cases hjl:j<cells.length
    ·rw [List.getElem?_range hjl] at hj
     simp only [Option.map_some,Option.some.injEq] at hj
     rw [<- hj]
     exact hone j _ (List.getElem?_eq_getElem hjl)
    ·rw [List.getElem?_eq_none (by simp; omega)] at hj; cases hj
   ·rw [List.getElem?_map] at hj
    have hjl:j<cells.length:=(List.getElem?_eq_some_iff.1 hx).1
    rw [List.getElem?_range hjl] at hj
    simp only [Option.map_some,Option.some.injEq] at hj
    rw [<- hj]
    exact hr j x hx
  ·have hm0:m=0:=by omega
   have hc0:cells=[]:=Classical.byContradiction fun e=>h0 (.inl e)
   subst hm0 hc0
   exact ⟨a,cap,[],rfl,by simp,by simp,by simp,by simp [Cells]⟩
 | nils =>
  rw [hR.inv_nils]
  exact ⟨none,0,[],rfl,by simp,by simp,by simp,by simp [Cells]⟩
 | @brw _ _ N q cs hq hm =>
  obtain ⟨⟨a,N',cap,h1,rfl,h3⟩,h4⟩:=hR.inv_brw
  obtain ⟨v',Fy,hv',hRy,_⟩:=h.part hq (by simp)
  obtain ⟨a',cap',hsl,_⟩:=hRy.own_slice
  rw [h1] at hv'
  cases hv'
  cases hsl
  obtain ⟨news,hl,hc,hcs,ha⟩:=ofNode 0 hq h1 (by omega)
  simp only [Nat.zero_mul,List.drop_zero,Nat.zero_add] at hcs hc
  refine ⟨a,cap,news,rfl,hl,fun h0 h0'=>by obtain ⟨b,rfl⟩:=ha h0 h0'; rfl,fun ad had j u hj=>?_,hcs⟩
  have hj':=hc ad had j u hj
  by_cases h0:0<m/\0<z
  ·obtain ⟨b,hb⟩:=ha h0.1 h0.2
   rw [had] at hb; cases hb
   rw [add_eq]; simpa using hj'
  ·have:m * z=0:=by
    rcases Nat.eq_zero_or_pos m with h | h
    ·simp [h]
    ·rcases Nat.eq_zero_or_pos z with h' | h'
     ·simp [h']
     ·exact absurd ⟨h,h'⟩ h0
   have:=(List.getElem?_eq_some_iff.1 hj).1
   omega
 | @sub _ lo _ N q cs hq hm =>
  obtain ⟨⟨a,N',cap,a',cap',h1,rfl,_,h3,h5⟩,h4⟩:=hR.inv_sub
  obtain ⟨v',Fy,hv',hRy,_⟩:=h.part hq (by simp)
  obtain ⟨a2,cap2,hsl,_⟩:=hRy.own_slice
  rw [h1] at hv'
  cases hv'
  cases hsl
  obtain ⟨news,hl,hc,hcs,ha⟩:=ofNode lo hq h1 hm
  refine ⟨a',cap',news,rfl,hl,fun h0 _=>by obtain ⟨ad,_,rfl⟩:=h5 h0; rfl,fun ad had j u hj=>?_,hcs⟩
  have hlt:=(List.getElem?_eq_some_iff.1 hj).1
  have h0:0<m:=(Nat.eq_zero_or_pos m).elim (fun h=>by rw [h] at hl; omega) id

  have hz:0<z:=(Nat.eq_zero_or_pos z).elim (fun h=>by rw [h] at hl; omega) id

  obtain ⟨ad',h6,h7⟩:=h5 h0
  obtain ⟨b,hb⟩:=ha h0 hz
  rw [h6] at hb; cases hb
  rw [had] at h7; cases h7
  have hj':=hc _ h6 j u hj
  rw [add_eq]; simpa using hj'
end
end Go.Own
namespace Go.Own
open Go
set_option linter.unusedSectionVars false
variable [TB]
inductive PSA (P:Program) (g:Gst):Op->TypeId->AV->Prop
 | grow {s x:Operand}{t e ty:TypeId}{z b n m:Nat}{p:Place}{y:AV}{cells:List AV}(hs:opd g s=some (.brw z p n)) (hok:RefOk g (.pend z p n 0 [])) (hno:∀ t z' n' m' new',g t≠some (.pend z' p n' m' new'))
   (hx:opd g x=some y) (hsrc:Src g y z m cells) (ht:appT P t e z b=true) (h63:n+m<=4611686018427387904) (hb:(n+m) * b<=140737488355328) :
   PSA P g (.call { callee:=.builtin .append,args:=#[s,x],argTypes:=#[t,t] }) ty (.pend z p n m cells)
 | nil {s x:Operand}{t e ty:TypeId}{z b m:Nat}{y:AV}{cells:List AV}(hs:opd g s=some .nils)
   (hx:opd g x=some y) (hsrc:Src g y z m cells) (ht:appT P t e z b=true) (h63:m<=4611686018427387904) (hb:m * b<=140737488355328) :
   PSA P g (.call { callee:=.builtin .append,args:=#[s,x],argTypes:=#[t,t] }) ty (.own z m cells)
inductive PS (P:Program) (g:Gst):Op->TypeId->AV->Prop
 | p1 {op:Op}{ty:TypeId}{x:AV}(h:PS1 P g op ty x):PS P g op ty x
 | p2 {op:Op}{ty:TypeId}{x:AV}(h:PS2 P g op ty x):PS P g op ty x
 | p3 {op:Op}{ty:TypeId}{x:AV}(h:PS3 P g op ty x):PS P g op ty x
 | pa {op:Op}{ty:TypeId}{x:AV}(h:PSA P g op ty x):PS P g op ty x
section
variable {P:Program}{w:World}{I:BSet}{T:Array Value}{g:Gst}{Fs:Nat->BSet}
theorem Cells.frame {w':World}{cells:List AV}{news:List Value}(hc:Cells w I (RG w T g) cells news) (hI:∀ c,I c->w'.heap[c]?=w.heap[c]?) (hr:∀ r v,RG w T g r v->RG w' T g r v):Cells w' I (RG w' T g) cells news :=
 ⟨hc.1,hc.2.1,fun k x u hx hu=>(hc.2.2 k x u hx hu).frame hI (fun _ h=>h) hr fun _ h=>h.elim⟩
theorem PSA.sound (h:SR w I T g Fs) {a:Act}(ha:a.tmps=T) {o:Oper}{xv:AV}(hp:PSA P g o.op o.type xv) :
  ∃ v w',(execOp a.eval o).run P w=.ok (.value v) w'/\Gives w I T g Fs xv v w':=by
 obtain ⟨dst,op,ty,pos,after,guard⟩:=o
 simp only at hp
 cases hp with
 | @grow s x t e _ z b n m p y cells hs hok hno hx hsrc ht h63 hb =>
  obtain ⟨i,zv,hu,hi,rfl,rfl,h0,hz,hzs⟩:=appT_spec ht
  obtain ⟨⟨ba,N,bcap,h1,h2,h3⟩,h4⟩:=(opd_sound h hs ha).inv_brw
  obtain ⟨sa,sc,news,hsv,hl,hsa,hsn,hcs⟩:=hsrc.sound h (opd_sound h hx ha)
  -- the row of the base
  have hrow:N=n/\∃ e' us,w.ownsRow 0 e' i.size (.slice ba n bcap) n us:=by
   rcases hok with ⟨cs,hp⟩ | ⟨hp0,q,n0,m0,new,cs,hp,rfl,_⟩
   ·obtain ⟨v',Fy,hv',hRy,_⟩:=h.part hp (by simp)
    rw [h1] at hv'
    cases hv'
    obtain ⟨a',cap',hsl,_⟩:=hRy.own_slice
    cases hsl
    cases hRy with
    | own ho=>exact ⟨rfl,_,_,ho⟩
    | ref hx=>simp [AV.isRef] at hx
   ·obtain ⟨v0,hv0,hva0,hR0⟩:=h.slotVal hp
    have hq:(⟨p.root,[]⟩:Place)=p:=by cases p; simp_all
    rw [hq,h1] at hva0
    cases hva0
    obtain ⟨bv,e1,e2,us,nw,hR0⟩:=hR0.isPend
    have hN:N=n0+m0:=by
     obtain ⟨_,hh⟩:=hR0.hov
     rcases hh with ⟨hh,hn⟩ | ⟨g,cap,cur,hh,_⟩
     ·cases hh; omega
     ·cases hh; rfl
    subst hN
    exact ⟨rfl,_,_,hR0.hov⟩
  obtain ⟨rfl,e',us,hob⟩:=hrow
  have hbv:RG w T g (.pend i.size p N 0 []) (.slice ba N bcap):=⟨⟨ba,bcap,h1,rfl⟩,hok⟩
  obtain ⟨v',w',e2,hrun,A⟩:=run_app (P:=P) (w:=w) t ty e e' i zv hu hi hz hzs h0 hob (a:=sa) (c:=sc) (m:=m) (news:=news) (fun hm=>hsa hm h0) hl hsn (fun u hu=>by
   obtain ⟨k,hk,rfl⟩:=List.mem_iff_getElem.1 hu
   exact hcs.2.1 k _ (List.getElem?_eq_getElem hk)) (by unfold maxLen; omega) hb
  obtain ⟨hS,hrefs⟩:=h.app hbv hno A
  refine ⟨v',w',by simp [execOp,resolve,invoke,builtin,h2,hsv,hrun],(fun c=>v'.ownBlock=some c/\(Value.slice ba N bcap).ownBlock≠some c),I,hS,?_,?_,?_,fun _ h=>h,fun _ h=>.inl h,?_,?_⟩
  ·have hI:∀ c,I c->w'.heap[c]?=w.heap[c]?:=by
    intro c hc
    refine A.fr.block c (h.lt c hc) fun hb=>?_
    obtain ⟨t,ht⟩:=h.base_block hbv c hb
    exact h.imm t c ht hc
   have hcs':=hcs.frame hI hrefs
   exact .pend ⟨hrefs _ _ hbv,A.old,A.new,hcs'.1,hcs'.2.1,hcs'.2.2,fun c=>Iff.rfl⟩
  ·rintro t c ⟨hc1,hc2⟩ hf
   rcases A.blk c hc1 with h | h'
   ·exact hc2 h
   ·have:=h.ltF t c hf; omega
  ·rintro c ⟨hc1,hc2⟩
   rcases A.blk c hc1 with h' | h'
   ·exact absurd h' hc2
   ·exact ⟨h',fun hi=>by have:=h.lt c hi; omega⟩
  ·exact A.fr.mono fun c _ hc=>h.base_block hbv c hc
  ·intro z' p' n' m' new' he
   cases he
   exact hno
 | @nil s x t e _ z b m y cells hs hx hsrc ht h63 hb =>
  obtain ⟨i,zv,hu,hi,rfl,rfl,h0,hz,hzs⟩:=appT_spec ht
  have h2:=(opd_sound h hs ha).inv_nils
  obtain ⟨sa,sc,news,hsv,hl,hsa,hsn,hcs⟩:=hsrc.sound h (opd_sound h hx ha)
  obtain ⟨v',w',e2,hrun,A⟩:=run_app (P:=P) (w:=w) t ty e e i zv hu hi hz hzs h0 (World.ownsRow_nil w 0 e i.size) (a:=sa) (c:=sc) (m:=m) (news:=news) (fun hm=>hsa hm h0) hl hsn (fun u hu=>by
   obtain ⟨k,hk,rfl⟩:=List.mem_iff_getElem.1 hu
   exact hcs.2.1 k _ (List.getElem?_eq_getElem hk)) (by unfold maxLen; omega) (by simpa using hb)
  have same:∀ c,c<w.heap.size->w'.heap[c]?=w.heap[c]?:=fun c hc=>A.fr.block c hc (by simp [Value.ownBlock])
  have hnew:=A.new
  simp only [Nat.zero_add,List.nil_append] at hnew
  have hcs':=hcs.frame (fun c hc=>same c (h.lt c hc)) fun r v hr=>h.ref_same (fun _ _=>rfl) (fun t c hc=>same c (h.ltF t c hc)) (fun _ _ h=>h) hr
  have hblk:∀ c,v'.ownBlock=some c->w.heap.size<=c:=fun c hc=>(A.blk c hc).elim (fun h=>by simp [Value.ownBlock] at h) id
  refine ⟨v',w',by simp [execOp,resolve,invoke,builtin,h2,hsv,hrun],(fun c=>v'.ownBlock=some c),I,h.world (fun t c hc=>same c (h.ltF t c hc)) (fun c hc=>same c (h.lt c hc)) A.fr.size,?_,?_,fun c hc=>⟨hblk c hc,fun hi=>by have:=h.lt c hi; have:=hblk c hc; omega⟩,fun _ h=>h,fun _ h=>.inl h,?_,?_⟩
  ·exact .tree (.own (Fs:=fun _=>E0) hnew hcs'.1 hcs'.2.1 hcs'.2.2 (fun _ _ _ _ _ h=>h.elim) (fun _ _ _ h=>h.elim) fun c=>⟨.inl,fun h=>h.elim id fun ⟨_,_,h⟩=>h.elim⟩)
  ·intro t c hc hf; have:=hblk c hc; have:=h.ltF t c hf; omega
  ·exact A.fr.mono fun c _ hc=>by simp [Value.ownBlock] at hc
  ·intro z' p' n' m' new' he; cases he
theorem PS.sound (h:SR w I T g Fs) {a:Act}(ha:a.tmps=T) {o:Oper}{xv:AV}(hp:PS P g o.op o.type xv) :
  ∃ v w',(execOp a.eval o).run P w=.ok (.value v) w'/\Gives w I T g Fs xv v w':=by
 have noPend:∀ {v:Value}{F:BSet},R w I (RG w T g) xv v F->∀ z p n m new,xv=.pend z p n m new->∀ t z' n' m' new',g t≠some (.pend z' p n' m' new'):=by
  rintro v F hR z p n m new rfl
  exact hR.notPend.elim
 cases hp with
 | p1 hp =>
  obtain ⟨v,hr,hR⟩:=hp.sound h ha
  exact ⟨v,w,hr,E0,I,h,.tree hR,fun _ _ h=>h.elim,fun _ h=>h.elim,fun _ h=>h,fun _ h=>.inl h,Fr.refl _ _,noPend hR⟩
 | p3 hp =>
  obtain ⟨v,hr,hR⟩:=hp.sound h ha
  exact ⟨v,w,hr,E0,I,h,.tree hR,fun _ _ h=>h.elim,fun _ h=>h.elim,fun _ h=>h,fun _ h=>.inl h,Fr.refl _ _,noPend hR⟩
 | p2 hp =>
  obtain ⟨v,ob,hr,hR⟩:=hp.sound h ha
  refine ⟨v,_,hr,_,I,h.alloc ob,.tree hR,fun t c hc hf=>?_,fun c hc=>⟨by rw [hc]; exact Nat.le_refl _,fun hi=>by have:=h.lt c hi; omega⟩,fun _ h=>h,fun _ h=>.inl h,Fr.alloc w ob _ (by
   obtain ⟨o,h1,h2⟩:=hR.plainF w.heap.size rfl
   rw [alloc_new] at h1
   cases h1
   exact h2),?_⟩
  ·have:=h.ltF t c hf; omega
  ·rintro z p n m new rfl; exact hR.notPend.elim
 | pa hp=>exact hp.sound h ha
end
end Go.Own
namespace Go.Own
open Go
set_option linter.unusedSectionVars false
variable [TB]
inductive NR:AV->Prop
 | lit {v:Value}:NR (.lit v)
 | nils:NR .nils
 | dead:NR .dead
 | self {k:Nat × Nat}:NR (.self k)
 | imm {z n:Nat}{cs:List AV}(h:∀ x∈cs,NR x):NR (.imm z n cs)
 | own {z n:Nat}{cs:List AV}(h:∀ x∈cs,NR x):NR (.own z n cs)
 | obj {cs:List AV}(h:∀ x∈cs,NR x):NR (.obj cs)
 | agg {cs:List AV}(h:∀ x∈cs,NR x):NR (.agg cs)
 | tup {cs:List AV}(h:∀ x∈cs,NR x):NR (.tup cs)
 | iptr {cs:List AV}(h:∀ x∈cs,NR x):NR (.iptr cs)
 | clo {fn:Fn}{a b:List AV}(h1:∀ x∈a,NR x) (h2:∀ x∈b,NR x):NR (.clo fn a b)
 | mp {p:Array MapEntry->Nat->Prop}:NR (.mp p)
 | brow {t:Nat}{us:List Value}:NR (.brow t us)
 | imp {p:Array MapEntry->Nat->Prop}:NR (.imp p)
inductive OO:AV->Prop
 | lit {v:Value}:OO (.lit v)
 | nils:OO .nils
 | dead:OO .dead
 | self {k:Nat × Nat}:OO (.self k)
 | own {z n:Nat}{cs:List AV}(h:∀ x∈cs,OO x):OO (.own z n cs)
 | obj {cs:List AV}(h:∀ x∈cs,OO x):OO (.obj cs)
 | agg {cs:List AV}(h:∀ x∈cs,OO x):OO (.agg cs)
 | tup {cs:List AV}(h:∀ x∈cs,OO x):OO (.tup cs)
 | mp {p:Array MapEntry->Nat->Prop}:OO (.mp p)
 | brow {t:Nat}{us:List Value}:OO (.brow t us)
theorem OO.nr {x:AV}(h:OO x):NR x:=by
 induction h with
 | lit=>exact .lit
 | nils=>exact .nils
 | dead=>exact .dead
 | self=>exact .self
 | own _ ih=>exact .own ih
 | obj _ ih=>exact .obj ih
 | agg _ ih=>exact .agg ih
 | tup _ ih=>exact .tup ih
 | mp=>exact .mp
 | brow=>exact .brow
inductive Rows (g:Gst):Place->Nat->Nat->List AV->Prop
 | own {p:Place}{z n:Nat}{cs:List AV}(hp:atP g p=some (.own z n cs)):Rows g p z n cs
 | pend {t z n m:Nat}{q:Place}{new cs:List AV}(ht:g t=some (.pend z q n m new)) (hq:Rows g q z n cs):Rows g ⟨t,[]⟩ z (n+m) (cs++new)
theorem Rows.mono {g g':Gst}(h:∀ {p:Place}{y:AV},atP g p=some y->atP g' p=some y) {p:Place}{z n:Nat}{cs:List AV}(hr:Rows g p z n cs) (h2:∀ t x,g t=some x->g' t=some x):Rows g' p z n cs:=by
 induction hr with
 | own hp=>exact .own (h hp)
 | pend ht _ ih=>exact .pend (h2 _ _ ht) ih
inductive View (g:Gst):AV->AV->Prop
 | self {x:AV}(h:NR x) (hx:∀ z n cs,x≠.own z n cs) (ho:∀ cs,x≠.obj cs) (ha:∀ cs,x≠.agg cs) (ht:∀ cs,x≠.tup cs) (hm:(∀ p,x≠.mp p)/\∀ t us,x≠.brow t us):View g x x
 | mp {p:Array MapEntry->Nat->Prop}:View g (.mp p) (.imp p)
 | mref {p:Place}{q:Array MapEntry->Nat->Prop}(hp:atP g p=some (.mp q)):View g (.mref p) (.imp q)
 | nilI {z:Nat}:View g .nils (.imm z 0 [])
 | agg {cs cs':List AV}(hl:cs'.length=cs.length) (h:∀ (k:Nat) (x y:AV),cs[k]?=some x->cs'[k]?=some y->View g x y):View g (.agg cs) (.agg cs')
 | own {z n:Nat}{cs cs':List AV}(hl:cs'.length=cs.length) (h:∀ (k:Nat) (x y:AV),cs[k]?=some x->cs'[k]?=some y->View g x y):View g (.own z n cs) (.imm z n cs')
 | obj {cs cs':List AV}(hl:cs'.length=cs.length) (h:∀ (k:Nat) (x y:AV),cs[k]?=some x->cs'[k]?=some y->View g x y):View g (.obj cs) (.iptr cs')
 | brw {z n N:Nat}{p:Place}{cs cs':List AV}(hp:atP g p=some (.own z N cs)) (hn:n<=N) (hl:cs'.length=(cs.take (n * z)).length) (h:∀ (k:Nat) (x y:AV),(cs.take (n * z))[k]?=some x->cs'[k]?=some y->View g x y):View g (.brw z p n) (.imm z n cs')
 | sub {z lo n N:Nat}{p:Place}{cs cs':List AV}(hp:atP g p=some (.own z N cs)) (hn:lo+n<=N) (hl:cs'.length=((cs.drop (lo * z)).take (n * z)).length) (h:∀ (k:Nat) (x y:AV),((cs.drop (lo * z)).take (n * z))[k]?=some x->cs'[k]?=some y->View g x y):View g (.sub z p lo n) (.imm z n cs')
 | ptr {p:Place}{k z n:Nat}{y:AV}{cs cs':List AV}(hp:atP g p=some y) (hy:y=.own z n cs\/y=.obj cs) (hk:k<cs.length) (hl:cs'.length=(cs.drop k).length) (h:∀ (j:Nat) (x y:AV),(cs.drop k)[j]?=some x->cs'[j]?=some y->View g x y):View g (.ptr p k) (.iptr cs')
 | clo {fn:Fn}{cs cs':List AV}(hl:cs'.length=cs.length) (h:∀ (k:Nat) (x y:AV),cs[k]?=some x->cs'[k]?=some y->View g x y):View g (.clo fn [] cs) (.clo fn [] cs')
 | rows {z n:Nat}{p:Place}{cs cs':List AV}(hp:Rows g p z n cs) (hl:cs'.length=cs.length) (h:∀ (k:Nat) (x y:AV),cs[k]?=some x->cs'[k]?=some y->View g x y):View g (.brw z p n) (.imm z n cs')
section
variable {P:Program}{w:World}{I:BSet}{T:Array Value}{g:Gst}{Fs:Nat->BSet}
theorem R.nr {ρ ρ':AV->Value->Prop}{x:AV}{v:Value}{F:BSet}(h:R w I ρ x v F):NR x->R w I ρ' x v F:=by
 induction h with
 | lit h hF=>exact fun _=>.lit h hF
 | nils hF=>exact fun _=>.nils hF
 | dead hF=>exact fun _=>.dead hF
 | slf hF=>exact fun _=>.slf hF
 | @ref x _ _ hx h hF=>intro hn; cases hn <;> simp [AV.isRef] at hx
 | imm0 hF=>exact fun _=>.imm0 hF
 | imm hF hcap hI hs hl h1 hc hr ih=>exact fun hn=>.imm hF hcap hI hs hl h1 hc fun k x hx=>ih k x hx (by cases hn with | imm h=>exact h x (List.mem_of_getElem? hx))
 | iptr hF hI hs h1 hc hr ih=>exact fun hn=>.iptr hF hI hs h1 hc fun k x hx=>ih k x hx (by cases hn with | iptr h=>exact h x (List.mem_of_getElem? hx))
 | own ho hl h1 hr hd hb hF ih=>exact fun hn=>.own ho hl h1 (fun k x u hx hu=>ih k x u hx hu (by cases hn with | own h=>exact h x (List.mem_of_getElem? hx))) hd hb hF
 | obj ho hl h1 hr hd hb hF hs ih=>exact fun hn=>.obj ho hl h1 (fun k x u hx hu=>ih k x u hx hu (by cases hn with | obj h=>exact h x (List.mem_of_getElem? hx))) hd hb hF hs
 | agg hl h1 hr hd hF ih=>exact fun hn=>.agg hl h1 (fun k x u hx hu=>ih k x u hx hu (by cases hn with | agg h=>exact h x (List.mem_of_getElem? hx))) hd hF
 | tup hl hr hd hF ih=>exact fun hn=>.tup hl (fun k x u hx hu=>ih k x u hx hu (by cases hn with | tup h=>exact h x (List.mem_of_getElem? hx))) hd hF
 | mp ho hp hF=>exact fun _=>.mp ho hp hF
 | brow ho h1 hF=>exact fun _=>.brow ho h1 hF
 | imp hF hI ho hp=>exact fun _=>.imp hF hI ho hp
 | clo hF h1 h2 hr1 hr2 ih1 ih2=>exact fun hn=>.clo hF h1 h2 (fun k x u hx hu=>ih1 k x u hx hu (by cases hn with | clo h _=>exact h x (List.mem_of_getElem? hx))) (fun k x u hx hu=>ih2 k x u hx hu (by cases hn with | clo _ h=>exact h x (List.mem_of_getElem? hx)))
theorem R.moreI {ρ:AV->Value->Prop}{I':BSet}{x:AV}{v:Value}{F:BSet}(h:R w I ρ x v F) (hI:∀ c,I c->I' c):R w I' ρ x v F :=
 h.frame (fun _ _=>rfl) hI (fun _ _ h=>h) fun _ _=>rfl
theorem R.oo {ρ ρ':AV->Value->Prop}{I':BSet}{x:AV}{v:Value}{F:BSet}(h:R w I ρ x v F):OO x->R w I' ρ' x v F:=by
 induction h with
 | lit h hF=>exact fun _=>.lit h hF
 | nils hF=>exact fun _=>.nils hF
 | dead hF=>exact fun _=>.dead hF
 | slf hF=>exact fun _=>.slf hF
 | @ref x _ _ hx h hF=>intro hn; cases hn <;> simp [AV.isRef] at hx
 | imm0=>intro hn; cases hn
 | imm=>intro hn; cases hn
 | iptr=>intro hn; cases hn
 | own ho hl h1 hr hd hb hF ih=>exact fun hn=>.own ho hl h1 (fun k x u hx hu=>ih k x u hx hu (by cases hn with | own h=>exact h x (List.mem_of_getElem? hx))) hd hb hF
 | obj ho hl h1 hr hd hb hF hs ih=>exact fun hn=>.obj ho hl h1 (fun k x u hx hu=>ih k x u hx hu (by cases hn with | obj h=>exact h x (List.mem_of_getElem? hx))) hd hb hF hs
 | agg hl h1 hr hd hF ih=>exact fun hn=>.agg hl h1 (fun k x u hx hu=>ih k x u hx hu (by cases hn with | agg h=>exact h x (List.mem_of_getElem? hx))) hd hF
 | tup hl hr hd hF ih=>exact fun hn=>.tup hl (fun k x u hx hu=>ih k x u hx hu (by cases hn with | tup h=>exact h x (List.mem_of_getElem? hx))) hd hF
 | clo=>intro hn; cases hn
 | mp ho hp hF=>exact fun _=>.mp ho hp hF
 | brow ho h1 hF=>exact fun _=>.brow ho h1 hF
 | imp=>intro hn; cases hn
theorem R.ownCells {ρ:AV->Value->Prop}{z n:Nat}{cs:List AV}{v:Value}{F:BSet}(h:R w I ρ (.own z n cs) v F):∃ (a:Option Addr) (cap:Nat) (us:Nat->Value) (Fk:Nat->BSet),v=.slice a n cap/\n<=cap/\cs.length=n * z /\
  (∀ ad,a=some ad->∃ b,ad=⟨b,0,none⟩/\F b)/\(∀ (k:Nat) (x:AV),cs[k]?=some x->∃ b,a=some ⟨b,0,none⟩/\w.cell? ⟨b,k,none⟩=some (us k)/\(us k).oneCell'=true/\R w I ρ x (us k) (Fk k)/\∀ c,Fk k c->F c):=by
 have h0:=h
 cases h with
 | ref hx=>simp [AV.isRef] at hx
 | @own _ _ _ _ e us Fs _ ho hl h1 hr hd hb hF =>
  obtain ⟨a,cap,rfl,hn,hlen,hoff,hsome⟩:=h0.own_slice
  refine ⟨a,cap,fun k=>us.getD k undef,Fs,rfl,hn,hlen,fun ad had=>?_,fun k x hk=>?_⟩
  ·obtain ⟨ho1,ho2⟩:=hoff ad had
   obtain ⟨b,o,sp⟩:=ad
   simp only at ho1 ho2
   subst ho1 ho2
   exact ⟨b,rfl,(hF b).2 (.inl (by rw [had]; rfl))⟩
  ·have hlt:k<cs.length:=(List.getElem?_eq_some_iff.1 hk).1
   have hu:us[k]?=some us[k]:=List.getElem?_eq_getElem (hl ▸ hlt)
   obtain ⟨b,u,had,hcell,hch,hone,_⟩:=h0.node (.inl rfl) hk
   have:a=some ⟨b,0,none⟩:=by
    cases a with
    | none=>simp [addrOf] at had
    | some ad=>simp only [addrOf] at had; rw [Option.some.inj had]
   rw [ownsRow_child ho hu] at hch
   cases hch
   refine ⟨b,this,?_,?_,?_,fun c hc=>(hF c).2 (.inr ⟨k,hlt,hc⟩)⟩
   ·simpa [List.getD,hu] using hcell
   ·simpa [List.getD,hu] using hone
   ·simpa [List.getD,hu] using hr k x _ hk hu
theorem R.node_block {ρ:AV->Value->Prop}{y:AV}{v:Value}{F:BSet}{z n:Nat}{cs:List AV}(h:R w I ρ y v F) (hy:y=.own z n cs\/y=.obj cs) {ad:Addr}(ha:addrOf v=some ad):F ad.block:=by
 rcases hy with rfl | rfl
 ·obtain ⟨a,cap,rfl,_⟩:=h.own_slice
  refine h.own_block _ ?_
  cases a with
  | none=>simp [addrOf] at ha
  | some a=>simp only [addrOf,Option.some.injEq] at ha; subst ha; rfl
 ·cases h with
  | ref hx=>simp [AV.isRef] at hx
  | obj ho hl h1 hr hd hb hF=>simp only [addrOf,Option.some.injEq] at ha; subst ha; exact (hF _).2 (.inl rfl)
theorem ownsRow_same {w:World}{e e':TypeId}{z n:Nat}{v:Value}{us us':List Value}(h:w.ownsRow 0 e z v n us) (h':w.ownsRow 0 e' z v n us'):us=us':=by
 obtain ⟨h1,h2⟩:=h
 obtain ⟨h3,h4⟩:=h'
 rcases h2 with ⟨rfl,rfl⟩ | ⟨b,cap,cur,rfl,_,hh,_,_,_,ht⟩
 ·have e1:us=[]:=List.eq_nil_of_length_eq_zero (by simpa using h1)
  have e2:us'=[]:=List.eq_nil_of_length_eq_zero (by simpa using h3)
  rw [e1,e2]
 ·rcases h4 with ⟨e1,_⟩ | ⟨b',cap',cur',e1,_,hh',_,_,_,ht'⟩
  ·cases e1
  ·cases e1
   rw [hh] at hh'
   cases hh'
   rw [<- ht,<- ht']
theorem Rows.sound {ρ:AV->Value->Prop}(H1:∀ t z q n m new,g t=some (.pend z q n m new)->∃ v,T[t]?=some v/\RT w I ρ (.pend z q n m new) v (Fs t))
  (H2:∀ p z n cs,atP g p=some (.own z n cs)->∃ v Fy,valAt w T p=some v/\R w I ρ (.own z n cs) v Fy/\∀ c,Fy c->Fs p.root c) (H3:∀ z p n v,ρ (.pend z p n 0 []) v->valAt w T p=some v) {p:Place}{z n:Nat}{cs:List AV}(h:Rows g p z n cs) :
  ∃ v e us,valAt w T p=some v/\w.ownsRow 0 e z v n us/\us.length=cs.length/\(∀ (k:Nat) (u:Value),us[k]?=some u->u.oneCell'=true)/\(∀ c,v.ownBlock=some c->∃ t,Fs t c) /\
   (∀ (k:Nat) (x:AV) (u:Value),cs[k]?=some x->us[k]?=some u->∃ Fk,R w I ρ x u Fk/\∀ c,Fk c->∃ t,Fs t c):=by
 induction h with
 | @own p z n cs hp =>
  obtain ⟨v,Fy,hv,hR,hF⟩:=H2 p z n cs hp
  cases hR with
  | ref hx=>simp [AV.isRef] at hx
  | @own _ _ _ _ e us Fk _ ho hl h1 hr hd hb hFF =>
   refine ⟨v,e,us,hv,ho,hl.symm,h1,fun c hc=>⟨_,hF c ((hFF c).2 (.inl hc))⟩,fun k x u hx hu=>⟨Fk k,hr k x u hx hu,fun c hc=>⟨_,hF c ((hFF c).2 (.inr ⟨k,(List.getElem?_eq_some_iff.1 hx).1,hc⟩))⟩⟩⟩
 | @pend t z n m q new cs ht _ ih =>
  obtain ⟨v,hv,hR⟩:=H1 t z q n m new ht
  obtain ⟨v0,e,us,hv0,ho,hl,h1,hb,hr⟩:=ih
  cases hR with
  | tree hR=>exact hR.notPend.elim
  | @pend _ _ _ _ _ _ bv e1 e2 us1 news _ hR =>
   have e0:=H3 _ _ _ _ hR.hbv
   rw [hv0] at e0
   cases e0
   have:=ownsRow_same ho hR.hob
   subst this
   refine ⟨v,e2,us++news,by simp [valAt,hv,walk],hR.hov,by rw [List.length_append,List.length_append,hl,hR.hl],fun k u hu=>?_,fun c hc=>?_,fun k x u hx hu=>?_⟩
   ·by_cases hk:k<us.length
    ·rw [List.getElem?_append_left hk] at hu; exact h1 k u hu
    ·rw [List.getElem?_append_right (by omega)] at hu; exact hR.h1 _ u hu
   ·by_cases hbc:v0.ownBlock=some c
    ·exact hb c hbc
    ·exact ⟨t,(hR.hF c).2 ⟨hc,hbc⟩⟩
   ·by_cases hk:k<us.length
    ·rw [List.getElem?_append_left (by omega)] at hx
     rw [List.getElem?_append_left hk] at hu
     exact hr k x u hx hu
    ·rw [List.getElem?_append_right (by omega)] at hx
     rw [List.getElem?_append_right (by omega),hl] at hu
     exact ⟨_,hR.hr _ x u hx hu,fun c hc=>hc.elim⟩
theorem rowImm {ρ':AV->Value->Prop}{e:TypeId}{z n N cap:Nat}{a:Option Addr}{us:List Value}{cs cs':List AV}(ho:w.ownsRow 0 e z (.slice a N cap) n us) (hlen:us.length=cs.length) (h1:∀ (k:Nat) (u:Value),us[k]?=some u->u.oneCell'=true) (hb:∀ c,(Value.slice a N cap).ownBlock=some c->∃ t,Fs t c) (hl:cs'.length=cs.length)
  (hr:∀ (k:Nat) (x y:AV) (u:Value),cs[k]?=some x->cs'[k]?=some y->us[k]?=some u->R w (fun c=>I c\/∃ t,Fs t c) ρ' y u E0):R w (fun c=>I c\/∃ t,Fs t c) ρ' (.imm z n cs') (.slice a n cap) E0:=by
 obtain ⟨hlus,ho⟩:=ho
 rcases ho with ⟨e0,h0⟩ | ⟨b,cap2,cur,e1,_,hh,hn',hc,hs,ht⟩
 ·cases e0
  subst h0
  have hcs':cs'=[]:=List.eq_nil_of_length_eq_zero (by rw [hl,<- hlen,hlus]; simp)
  subst hcs'
  exact .imm0 fun _ h=>h
 ·cases e1
  refine .imm (us:=fun k=>us.getD k undef) (fun _ h=>h) hn' (.inr (hb b rfl)) rfl (by rw [hl,<- hlen,hlus]) (fun k y hy=>?_) (fun k y hy=>?_) fun k y hy=>?_
  all_goals
   have hk:k<us.length:=by rw [hlen,<- hl]; exact (List.getElem?_eq_some_iff.1 hy).1
   have hu:us[k]?=some us[k]:=List.getElem?_eq_getElem hk
   have hg:us.getD k undef=us[k]:=by simp [List.getD,hu]
  ·rw [hg]; exact h1 k _ hu
  ·rw [hg]
   have hu2:∀ u,us[k]?=some u->w.cell? ⟨b,k,none⟩=some u:=fun u hu2=>by
    rw [<- ht,List.getElem?_take] at hu2
    split at hu2
    ·simpa [World.cell?,hh] using hu2
    ·cases hu2
   simpa using hu2 _ hu
  ·rw [hg]
   exact hr k _ y _ (List.getElem?_eq_getElem (by omega)) hy hu
theorem View.sound (h:SR w I T g Fs) {x x':AV}(hv:View g x x'):∀ {v:Value}{F:BSet},R w I (RG w T g) x v F->(∀ c,F c->∃ t,Fs t c)->∀ ρ',R w (fun c=>I c\/∃ t,Fs t c) ρ' x' v E0:=by
 induction hv with
 | nilI =>
  intro v F hR hF ρ'
  have:=hR.inv_nils
  subst this
  exact .imm0 fun _ h=>h
 | mp =>
  intro v F hR hF ρ'
  cases hR with
  | ref hx=>simp [AV.isRef] at hx
  | mp ho hp hb=>exact .imp (fun _ h=>h) (.inr (hF _ ((hb _).2 rfl))) ho hp
 | mref hp =>
  intro v F hR hF ρ'
  cases hR with
  | ref _ hr _ =>
   obtain ⟨⟨b,hb,rfl⟩,_⟩:=hr
   obtain ⟨v',Fy,hv',hRy,hFy⟩:=h.part hp (by simp)
   rw [hb] at hv'
   cases hv'
   cases hRy with
   | ref hx=>simp [AV.isRef] at hx
   | mp ho hp hb=>exact .imp (fun _ h=>h) (.inr ⟨_,hFy _ ((hb _).2 rfl)⟩) ho hp
 | self hn h1 h2 h3 h4 h5 =>
  intro v F hR hF ρ'
  refine ((hR.nr hn).moreI fun c hc=>.inl hc).empty ?_
  cases hR with
  | mp=>exact absurd rfl (h5.1 _)
  | brow=>exact absurd rfl (h5.2 _ _)
  | lit _ hF | nils hF | dead hF | slf hF | ref _ _ hF | imm0 hF | imm hF | iptr hF | clo hF | imp hF=>exact hF
  | own=>exact absurd rfl (h1 _ _ _)
  | obj=>exact absurd rfl (h2 _)
  | agg=>exact absurd rfl (h3 _)
  | tup=>exact absurd rfl (h4 _)
 | @agg cs cs' hl _ ih =>
  intro v F hR hF ρ'
  cases hR with
  | ref hx=>simp [AV.isRef] at hx
  | @agg _ vs Fk _ hl' h1 hr hd hFF =>
   refine .agg (Fs:=fun _=>E0) (by rw [hl,hl']) h1 (fun k y u hy hu=>?_) (fun _ _ _ _ _ h=>h.elim) (fun c=>⟨fun h=>h.elim,fun ⟨_,_,h⟩=>h⟩)
   have hk:k<cs.length:=by rw [<- hl]; exact (List.getElem?_eq_some_iff.1 hy).1
   have hx:=List.getElem?_eq_getElem hk
   exact ih k _ y hx hy (hr k _ u hx hu) (fun c hc=>hF c ((hFF c).2 ⟨k,hk,hc⟩)) ρ'
 | @clo fn cs cs' hl _ ih =>
  intro v F hR hF ρ'
  cases hR with
  | ref hx=>simp [AV.isRef] at hx
  | @clo _ _ _ v1 v2 _ hF0 h1 h2 hr1 hr2 =>
   refine .clo (fun _ h=>h) h1 (by rw [hl,h2]) (fun k x u hx=>by simp at hx) (fun k y u hy hu=>?_)
   have hk:k<cs.length:=by rw [<- hl]; exact (List.getElem?_eq_some_iff.1 hy).1
   have hx:=List.getElem?_eq_getElem hk
   exact ih k _ y hx hy (hr2 k _ u hx hu) (fun c hc=>hc.elim) ρ'
 | @own z n cs cs' hl _ ih =>
  intro v F hR hF ρ'
  obtain ⟨a,cap,us,Fk,rfl,hn,hlen,ha,hc⟩:=hR.ownCells
  cases a with
  | none =>
   have hcs:cs=[]:=by
    cases cs with
    | nil=>rfl
    | cons c cs=>obtain ⟨b,hb,_⟩:=hc 0 c rfl; cases hb
   subst hcs
   have hcs':cs'=[]:=List.eq_nil_of_length_eq_zero (by simpa using hl)
   subst hcs'
   have hn0:n=0:=by
    cases hR with
    | ref hx=>simp [AV.isRef] at hx
    | own ho =>
     obtain ⟨_,hh⟩:=ho
     rcases hh with ⟨hh,h0⟩ | ⟨b,c2,cur,hh,_⟩
     ·exact h0
     ·cases hh
   subst hn0
   exact .imm0 fun _ h=>h
  | some ad =>
   obtain ⟨b,rfl,hFb⟩:=ha ad rfl
   refine .imm (us:=us) (fun _ h=>h) hn (.inr (hF b hFb)) rfl (by rw [hl,hlen]) (fun k y hy=>?_) (fun k y hy=>?_) fun k y hy=>?_
   all_goals
    have hk:k<cs.length:=by rw [<- hl]; exact (List.getElem?_eq_some_iff.1 hy).1
    have hx:=List.getElem?_eq_getElem hk
    obtain ⟨b',hb',h1,h2,h3,h4⟩:=hc k _ hx
    cases hb'
   ·exact h2
   ·simpa using h1
   ·exact ih k _ y hx hy h3 (fun c hc=>hF c (h4 c hc)) ρ'
 | @obj cs cs' hl _ ih =>
  intro v F hR hF ρ'
  cases hR with
  | ref hx=>simp [AV.isRef] at hx
  | @obj _ b e arr Fk _ ho hl' h1 hr hd hb hFF =>
   refine .iptr (us:=fun k=>arr.getD k undef) (fun _ h=>h) (.inr (hF b ((hFF b).2 (.inl rfl)))) rfl (fun k y hy=>?_) (fun k y hy=>?_) fun k y hy=>?_
   all_goals
    have hk:k<cs.length:=by rw [<- hl]; exact (List.getElem?_eq_some_iff.1 hy).1
    have hx:=List.getElem?_eq_getElem hk
    have hu:arr[k]?=some arr[k]:=Array.getElem?_eq_getElem (hl' ▸ hk)
   ·simpa [hu] using h1 k _ hu
   ·simp [World.cell?,ho,hu]
   ·simpa [hu] using ih k _ y hx hy (hr k _ _ hx hu) (fun c hc=>hF c ((hFF c).2 (.inr ⟨k,hk,hc⟩))) ρ'
 | @brw z n N p cs cs' hp hn hl _ ih =>
  intro v F hR hF ρ'
  obtain ⟨⟨a,N',cap,h1,rfl,h3⟩,_⟩:=hR.inv_brw
  obtain ⟨vp,Fp,hvp,hRp,hFp⟩:=h.part hp (by simp)
  rw [h1] at hvp
  cases hvp
  obtain ⟨a2,cap2,us,Fk,hsl,hcap,hlen,ha,hc⟩:=hRp.ownCells
  cases hsl
  have hle:n * z<=N * z:=Nat.mul_le_mul_right _ hn
  have cell:∀ k,k<cs'.length->∃ x b,(cs.take (n * z))[k]?=some x/\a=some ⟨b,0,none⟩/\w.cell? ⟨b,k,none⟩=some (us k)/\(us k).oneCell'=true/\R w I (RG w T g) x (us k) (Fk k)/\∀ c,Fk k c->Fp c:=by
   intro k hk
   rw [hl,List.length_take] at hk
   have hx:cs[k]?=some cs[k]:=List.getElem?_eq_getElem (by omega)
   obtain ⟨b,r⟩:=hc k _ hx
   exact ⟨_,b,by rw [List.getElem?_take,if_pos (by omega)]; exact hx,r⟩
  cases a with
  | none =>
   have hcs':cs'=[]:=by
    cases cs' with
    | nil=>rfl
    | cons c l=>obtain ⟨_,b,_,hb,_⟩:=cell 0 (by simp); cases hb
   subst hcs'
   obtain ⟨_,_,hsl,_,_,_,hsome⟩:=hRp.own_slice
   cases hsl
   have hn0:n=0:=by
    rcases Nat.eq_zero_or_pos n with h0 | h0
    ·exact h0
    ·have:=hsome (by omega); simp at this
   subst hn0
   exact .imm0 fun _ h=>h
  | some ad =>
   obtain ⟨b,rfl,hFb⟩:=ha ad rfl
   refine .imm (us:=us) (fun _ h=>h) (by omega) (.inr ⟨_,hFp b hFb⟩) rfl (by rw [hl,List.length_take,hlen]; omega) (fun k y hy=>?_) (fun k y hy=>?_) fun k y hy=>?_
   all_goals
    obtain ⟨x,b',hx,hb',h4,h5,h6,h7⟩:=cell k (List.getElem?_eq_some_iff.1 hy).1
    cases hb'
   ·exact h5
   ·simpa using h4
   ·exact ih k x y hx hy h6 (fun c hc=>⟨_,hFp c (h7 c hc)⟩) ρ'
 | @sub z lo n N p cs cs' hp hn hl _ ih =>
  intro v F hR hF ρ'
  obtain ⟨⟨a,N',cap,a',cap',h1,rfl,hncap,h3,h5⟩,_⟩:=hR.inv_sub
  obtain ⟨vp,Fp,hvp,hRp,hFp⟩:=h.part hp (by simp)
  rw [h1] at hvp
  cases hvp
  obtain ⟨a2,cap2,us,Fk,hsl,hcap,hlen,ha,hc⟩:=hRp.ownCells
  cases hsl
  have hle:lo * z+n * z<=N * z:=by rw [<- Nat.add_mul]; exact Nat.mul_le_mul_right _ hn
  have hl':cs'.length=n * z:=by rw [hl,List.length_take,List.length_drop,hlen]; omega
  have cell:∀ k,k<cs'.length->∃ x b,((cs.drop (lo * z)).take (n * z))[k]?=some x/\a=some ⟨b,0,none⟩/\w.cell? ⟨b,lo * z+k,none⟩=some (us (lo * z+k))/\(us (lo * z+k)).oneCell'=true/\R w I (RG w T g) x (us (lo * z+k)) (Fk (lo * z+k))/\∀ c,Fk (lo * z+k) c->Fp c:=by
   intro k hk
   have hx:cs[lo * z+k]?=some cs[lo * z+k]:=List.getElem?_eq_getElem (by omega)
   obtain ⟨b,r⟩:=hc _ _ hx
   exact ⟨_,b,by rw [List.getElem?_take,if_pos (by omega),List.getElem?_drop]; exact hx,r⟩
  by_cases hn0:n=0
  ·subst hn0
   have hcs':cs'=[]:=List.eq_nil_of_length_eq_zero (by simpa using hl')
   subst hcs'
   exact .imm0 fun _ h=>h
  ·obtain ⟨ad,rfl,rfl⟩:=h5 (by omega)
   obtain ⟨b,rfl,hFb⟩:=ha ad rfl
   refine .imm (us:=fun k=>us (lo * z+k)) (fun _ h=>h) hncap (.inr ⟨_,hFp b hFb⟩) rfl hl' (fun k y hy=>?_) (fun k y hy=>?_) fun k y hy=>?_
   all_goals
    obtain ⟨x,b',hx,hb',h4,h5',h6,h7⟩:=cell k (List.getElem?_eq_some_iff.1 hy).1
    cases hb'
   ·exact h5'
   ·simpa using h4
   ·exact ih k x y hx hy h6 (fun c hc=>⟨_,hFp c (h7 c hc)⟩) ρ'
 | @ptr p k z n y cs cs' hp hy hk hl _ ih =>
  intro v F hR hF ρ'
  obtain ⟨⟨u,ad,h1,h2,rfl⟩,_⟩:=hR.inv_ptr
  obtain ⟨vp,Fp,hvp,hRp,hFp⟩:=h.part hp (by rcases hy with rfl | rfl <;> simp)
  rw [h1] at hvp
  cases hvp
  have cell:∀ j,j<cs'.length->∃ uu xx Fx,w.cell? ⟨ad.block,k+j,none⟩=some uu/\uu.oneCell'=true/\(cs.drop k)[j]?=some xx/\R w I (RG w T g) xx uu Fx/\(∀ c,Fx c->∃ t,Fs t c):=by
   intro j hj
   rw [hl,List.length_drop] at hj
   have hx':cs[k+j]?=some cs[k+j]:=List.getElem?_eq_getElem (by omega)
   obtain ⟨b,uu,had,hcell,hch,hone,_⟩:=hRp.node hy hx'
   rw [h2] at had
   cases had
   have hat:atP g (p.push (k+j))=some cs[k+j]:=by rw [atP_push,hp]; rcases hy with rfl | rfl <;> simp [AV.kids]
   by_cases hpd:∃ z' q' n' m' new',cs[k+j]=.pend z' q' n' m' new'
   ·obtain ⟨z',q',n',m',new',hpd⟩:=hpd
    obtain ⟨b,uu',_,_,hch',_,Fk,hRk⟩:=hRp.node hy hx'
    rw [hpd] at hRk
    exact hRk.notPend.elim
   ·obtain ⟨vv,FF,hvv,hRR,hFF⟩:=h.part hat (fun z' q' n' m' new' e=>hpd ⟨_,_,_,_,_,e⟩)
    rw [valAt_push,h1] at hvv
    simp only [Option.bind_some] at hvv
    rw [hch] at hvv
    cases hvv
    exact ⟨uu,_,FF,hcell,hone,by rw [List.getElem?_drop]; exact hx',hRR,fun c hc=>⟨_,hFF c hc⟩⟩
  obtain ⟨b,uu,had,_⟩:=hRp.node hy (List.getElem?_eq_getElem hk)
  rw [h2] at had
  cases had
  have hblk:∃ t,Fs t b:=⟨_,hFp b (hRp.node_block hy h2)⟩
  refine .iptr (us:=fun j=>(w.cell? ⟨b,k+j,none⟩).getD undef) (fun _ h=>h) (.inr hblk) rfl (fun j yy hyy=>?_) (fun j yy hyy=>?_) fun j yy hyy=>?_
  all_goals
   obtain ⟨uu,xx,Fx,c1,c2,c3,c4,c5⟩:=cell j (List.getElem?_eq_some_iff.1 hyy).1
  ·simpa [c1] using c2
  ·simp [c1]
  ·simpa [c1] using ih j xx yy c3 hyy c4 c5 ρ'
 | @rows z n p cs cs' hp hl _ ih =>
  intro v F hR hF ρ'
  obtain ⟨a,N',cap,h1,rfl,h3⟩:=hR.inv_brw.1
  obtain ⟨v0,e,us,hv0,ho,hlen,h1',hb,hr⟩:=Rows.sound (w:=w) (I:=I) (T:=T) (Fs:=Fs) (fun t z q n m new ht=>h.rel t _ ht) (fun p z n cs hp=>h.part hp (by simp)) (fun z p n v hv=>by obtain ⟨⟨a,cap,h1,rfl⟩,_⟩:=hv; exact h1) hp
  rw [h1] at hv0
  cases hv0
  refine rowImm ho hlen h1' hb hl fun k x y u hx hy hu=>?_
  obtain ⟨Fk,hRk,hFk⟩:=hr k x u hx hu
  exact ih k x y hx hy hRk hFk ρ'
end
end Go.Own
namespace Go.Own
open Go
set_option linter.unusedSectionVars false
variable [TB]
def argG (args:List AV):Gst:=fun t=>args[t]?
def outG (outs:List (Option AV)) (res:AV):Gst:=fun t=>if t=outs.length then some res else (outs[t]?).join
structure St (w:World) (I U:BSet) (w':World) (I' U':BSet):Prop where
 fr:Fr w w' U
 more:∀ c,I c->I' c
 new:∀ c,I' c->I c\/U c\/w.heap.size<=c
 own:∀ c,U' c->U c\/w.heap.size<=c
def Con (P:Program) (f:FuncId) (args:List AV) (outs:List (Option AV)) (res:AV):Prop :=
 outs.length=args.length/\∀ (w:World) (I:BSet) (vs:List Value) (Fs:Nat->BSet),vs.length=args.length->SR w I vs.toArray (argG args) Fs ->
  Calls P f vs.toArray w fun e w'=>∃ v I' Fs',e=.returned v/\SR w' I' (vs++[v]).toArray (outG outs res) Fs'/\St w I (fun c=>∃ t,Fs t c) w' I' (fun c=>∃ t,Fs' t c)
def callT (P:Program) (f:FuncId):Bool :=
 match P.funcs[f]? with
 | some fn => fn.name != "runtime.NumGoroutine" && fn.body.isSome
 | none=>false
inductive PC (P:Program) (g:Gst):Op->AV->Prop
 | plain {c:Operand}{xs:Array Operand}{tys:Array TypeId}{f:FuncId}{first caps ys:List AV}{res:AV}(hc:opd g c=some (.clo (.func f) first caps)) (hx:opds g xs.toList=some ys) (hf:callT P f=true)
   (hn:∀ y∈first++ys++caps,NR y) (hcon:Con P f (first++ys++caps) ((first++ys++caps).map fun _=>none) res) (hr:NR res):PC P g (.call { callee:=.value c,args:=xs,argTypes:=tys }) res
 | lent {c:Operand}{xs:Array Operand}{tys:Array TypeId}{f:FuncId}{first caps ys args:List AV}{res:AV}(hc:opd g c=some (.clo (.func f) first caps)) (hx:opds g xs.toList=some ys) (hf:callT P f=true)
   (hl:args.length=(first++ys++caps).length) (hv:∀ (k:Nat) (x y:AV),(first++ys++caps)[k]?=some x->args[k]?=some y->View g x y) (hcon:Con P f args (args.map fun _=>none) res) (hr:OO res) :
   PC P g (.call { callee:=.value c,args:=xs,argTypes:=tys }) res
section
variable {P:Program}{w:World}{I:BSet}{T:Array Value}{g:Gst}{Fs:Nat->BSet}
theorem callT_run {f:FuncId}(h:callT P f=true) (args:Array Value):(callFunc f args).run P w=.ok (.enter f args) w:=by
 unfold callT at h
 cases hf:P.funcs[f]? with
 | none=>simp [hf] at h
 | some fn =>
  simp [hf] at h
  obtain ⟨h1,h2⟩:=h
  cases hb:fn.body with
  | none=>simp [hb] at h2
  | some c=>simp [callFunc,hf,h1,hb]
theorem callArgs (h:SR w I T g Fs) {a:Act}(ha:a.tmps=T) {c:Operand}{xs:Array Operand}{f:FuncId}{first caps ys:List AV}(hc:opd g c=some (.clo (.func f) first caps)) (hx:opds g xs.toList=some ys) :
  ∃ v1 v2:Array Value,a.eval c=.func (.func f) v1 v2/\(first++ys++caps).length=(v1++xs.map a.eval++v2).toList.length /\
   ∀ (k:Nat) (x:AV) (u:Value),(first++ys++caps)[k]?=some x->(v1++xs.map a.eval++v2).toList[k]?=some u->R w I (RG w T g) x u E0:=by
 have hRc:=opd_sound h hc ha
 obtain ⟨hl,hr⟩:=opds_sound h ha hx
 generalize hcv:a.eval c=vc at hRc
 cases hRc with
 | ref hx=>simp [AV.isRef] at hx
 | @clo _ _ _ v1 v2 _ _ h1 h2 hr1 hr2 =>
  have hlen:xs.size=ys.length:=by rw [<- Array.length_toList,hl]
  refine ⟨v1,v2,rfl,by simp [h1,h2,hlen],fun k x u hxk huk=>?_⟩
  simp only [Array.toList_append,Array.toList_map] at huk
  by_cases hk1:k<first.length
  ·rw [List.append_assoc,List.getElem?_append_left hk1] at hxk
   rw [List.append_assoc,List.getElem?_append_left (by simp; omega)] at huk
   exact hr1 k x u hxk (by simpa using huk)
  ·rw [List.append_assoc,List.getElem?_append_right (by omega)] at hxk
   rw [List.append_assoc,List.getElem?_append_right (by simp; omega)] at huk
   simp only [Array.length_toList,<- h1] at huk
   by_cases hk2:k - first.length<ys.length
   ·rw [List.getElem?_append_left hk2] at hxk
    rw [List.getElem?_append_left (by simp; omega),List.getElem?_map] at huk
    cases hxo:xs.toList[k - first.length]? with
    | none=>rw [hxo] at huk; cases huk
    | some o=>rw [hxo] at huk; cases huk; exact hr _ x o hxk hxo
   ·rw [List.getElem?_append_right (by omega)] at hxk
    rw [List.getElem?_append_right (by simp; omega)] at huk
    simp only [List.length_map,Array.length_toList] at huk
    rw [hlen] at huk
    exact hr2 _ x u hxk (by simpa using huk)
theorem SR.args {I':BSet}(h:SR w I T g Fs) (hII:∀ c,I c->I' c) (hI:∀ c,I' c->I c\/∃ t,Fs t c) {args:List AV}{vs:List Value}(hl:args.length=vs.length)
  (hr:∀ (ρ':AV->Value->Prop) (k:Nat) (x:AV) (u:Value),args[k]?=some x->vs[k]?=some u->R w I' ρ' x u E0):SR w I' vs.toArray (argG args) (fun _=>E0):=by
 refine ⟨fun t x hx=>?_,fun _ _ _ h=>h,fun _ _ _ h=>h.elim,fun _ _ h=>h.elim,fun c hc=>?_,fun t t' z p n m new z' n' m' new' h1 h2=>?_,TB.keep h.tb (fun _ _=>rfl) hII⟩
 ·have ht:t<args.length:=(List.getElem?_eq_some_iff.1 hx).1
  have hu:vs[t]?=some vs[t]:=List.getElem?_eq_getElem (hl ▸ ht)
  exact ⟨vs[t],by rw [List.getElem?_toArray]; exact hu,.tree (hr _ t x _ hx hu)⟩
 ·rcases hI c hc with h' | ⟨t,h'⟩
  ·exact h.lt c h'
  ·exact h.ltF t c h'
 ·have ht:t<args.length:=(List.getElem?_eq_some_iff.1 h1).1
  exact (hr (fun _ _=>False) t _ _ h1 (List.getElem?_eq_getElem (hl ▸ ht))).notPend.elim
theorem PC.sound (h:SR w I T g Fs) {a:Act}(ha:a.tmps=T) {o:Oper}{xv:AV}(hp:PC P g o.op xv) {K:Act->World->Prop}{Q:Exit->Act->World->Prop}
  (hK:∀ v w',Gives w I T g Fs xv v w'->K (a.put o.dst v) w'):o.wp P a w K Q:=by
 obtain ⟨dst,op,ty,pos,after,guard⟩:=o
 simp only at hp hK
 have noPend:NR xv->∀ z p n m new,xv=.pend z p n m new->∀ t z' n' m' new',g t≠some (.pend z' p n' m' new'):=by
  rintro hn z p n m new rfl
  cases hn
 have last:∀ {args:List AV}{res:AV}{v:Value}{vs:List Value}{w':World}{I':BSet}{Fs':Nat->BSet},vs.length=args.length->SR w' I' (vs++[v]).toArray (outG (args.map fun _=>none) res) Fs'->RT w' I' (RG w' (vs++[v]).toArray (outG (args.map fun _=>none) res)) res v (Fs' args.length)/\∀ t,t≠args.length->∀ c,¬ Fs' t c:=by
  intro args res v vs w' I' Fs' hl hS
  constructor
  ·obtain ⟨u,hu,hR⟩:=hS.rel args.length res (by simp [outG])
   have:u=v:=by
    rw [<- hl] at hu
    simpa using hu.symm
   subst this; exact hR
  ·intro t ht c hc
   refine hS.non t ?_ c hc
   have ht':t≠(args.map fun _=>(none:Option AV)).length:=by simpa using ht
   simp only [outG,if_neg ht',List.getElem?_map]
   cases args[t]? <;> rfl
 cases hp with
 | @plain c xs tys f first caps ys _ hc hx hf hn hcon hr =>
  obtain ⟨v1,v2,hcv,hl,hargs⟩:=callArgs h ha hc hx
  have hrun:(execOp a.eval { dst:=dst,op:=.call { callee:=.value c,args:=xs,argTypes:=tys },type:=ty,pos:=pos,after:=after,guard:=guard }).run P w=.ok (.enter f (v1++xs.map a.eval++v2)) w:=by
   simp [execOp,resolve,Deferred.ofValue,hcv,invoke,callT_run hf]
  have hS:=h.args (I':=I) (fun _ h=>h) (fun c hc=>.inl hc) hl fun ρ' k x u hx hu=>(hargs k x u hx hu).nr (hn x (List.mem_of_getElem? hx))
  have hcall:=hcon.2 w I (v1++xs.map a.eval++v2).toList _ hl.symm hS
  unfold Oper.wp Oper.upon
  simp only [hrun]
  rw [Array.toArray_toList] at hcall
  refine Calls.mono hcall ?_
  rintro e w' ⟨v,I',Fs',rfl,hS',hst⟩
  obtain ⟨hres,hno⟩:=last hl.symm hS'
  have hfr:Fr w w' (fun _=>False):=hst.fr.mono fun b _ ⟨_,hb⟩=>hb
  refine hK v w' ⟨Fs' (first++ys++caps).length,I',?_,?_,?_,?_,hst.more,?_,hfr.mono fun _ _ h=>h.elim,noPend hr⟩
  ·have:=h.world (w':=w') (fun t c hc=>hfr.block c (h.ltF t c hc) (fun h=>h)) (fun c hc=>hfr.block c (h.lt c hc) fun h=>h) hfr.size
   refine ⟨fun t x hx=>?_,this.non,this.dis,fun t c hc hi=>?_,hS'.lt,this.pok,hS'.tb⟩
   ·obtain ⟨v,hv,hR⟩:=this.rel t x hx
    exact ⟨v,hv,hR.frame (fun _ _=>rfl) hst.more (fun _ _ h=>h) (fun _ _ _ _ _ _ _=>rfl) fun _ _=>rfl⟩
   ·rcases hst.new c hi with h' | ⟨_,h'⟩ | h'
    ·exact h.imm t c hc h'
    ·exact h'
    ·have:=h.ltF t c hc; omega
  ·exact .tree ((hres.isTree (by rintro z p n m new rfl; cases hr)).nr hr)
  ·intro t c hc hf'
   rcases hst.own c ⟨_,hc⟩ with ⟨_,h'⟩ | h'
   ·exact h'
   ·have:=h.ltF t c hf'; omega
  ·intro c hc
   rcases hst.own c ⟨_,hc⟩ with ⟨_,h'⟩ | h'
   ·exact h'.elim
   ·exact ⟨h',hS'.imm _ c hc⟩
  ·intro c hc
   rcases hst.new c hc with h' | ⟨_,h'⟩ | h'
   ·exact .inl h'
   ·exact h'.elim
   ·exact .inr h'
 | @lent c xs tys f first caps ys args _ hc hx hf hl0 hv hcon hr =>
  obtain ⟨v1,v2,hcv,hl,hargs⟩:=callArgs h ha hc hx
  have hrun:(execOp a.eval { dst:=dst,op:=.call { callee:=.value c,args:=xs,argTypes:=tys },type:=ty,pos:=pos,after:=after,guard:=guard }).run P w=.ok (.enter f (v1++xs.map a.eval++v2)) w:=by
   simp [execOp,resolve,Deferred.ofValue,hcv,invoke,callT_run hf]
  have hl':args.length=(v1++xs.map a.eval++v2).toList.length:=by rw [hl0,hl]
  have hS:=h.args (I':=fun c=>I c\/∃ t,Fs t c) (fun _ h=>.inl h) (fun c hc=>hc) hl' fun ρ' k x u hx hu=>by
   have hk:k<(first++ys++caps).length:=by rw [<- hl0]; exact (List.getElem?_eq_some_iff.1 hx).1
   have hx0:=List.getElem?_eq_getElem hk
   exact (hv k _ x hx0 hx).sound h (hargs k _ u hx0 hu) (fun _ h=>h.elim) ρ'
  have hcall:=hcon.2 w _ (v1++xs.map a.eval++v2).toList _ hl'.symm hS
  unfold Oper.wp Oper.upon
  simp only [hrun]
  rw [Array.toArray_toList] at hcall
  refine Calls.mono hcall ?_
  rintro e w' ⟨v,I',Fs',rfl,hS',hst⟩
  obtain ⟨hres,hno⟩:=last hl'.symm hS'
  have hfr:Fr w w' (fun _=>False):=hst.fr.mono fun b _ ⟨_,hb⟩=>hb
  refine hK v w' ⟨Fs' args.length,I,?_,?_,?_,?_,fun _ h=>h,fun _ h=>.inl h,hfr.mono fun _ _ h=>h.elim,noPend hr.nr⟩
  ·exact h.world (w':=w') (fun t c hc=>hfr.block c (h.ltF t c hc) (fun h=>h)) (fun c hc=>hfr.block c (h.lt c hc) fun h=>h) hfr.size
  ·exact .tree ((hres.isTree (by rintro z p n m new rfl; cases hr)).oo hr)
  ·intro t c hc hf'
   rcases hst.own c ⟨_,hc⟩ with ⟨_,h'⟩ | h'
   ·exact h'
   ·have:=h.ltF t c hf'; omega
  ·intro c hc
   rcases hst.own c ⟨_,hc⟩ with ⟨_,h'⟩ | h'
   ·exact h'.elim
   ·exact ⟨h',fun hi=>by have:=h.lt c hi; omega⟩
end
end Go.Own
namespace Go.Own
open Go
set_option linter.unusedSectionVars false
variable [TB]
structure SRc (w:World) (I:BSet) (T:Array Value) (g:Gst) (Fs:Nat->BSet):Prop where
 rel:∀ t x,g t=some x->∃ v,T[t]?=some v/\RT w I (RefAt w T) x v (Fs t)
 non:∀ t,g t=none->∀ c,¬ Fs t c
 dis:∀ t t' c,Fs t c->Fs t' c->t=t'
 imm:∀ t c,Fs t c->¬ I c
 lt:∀ c,I c->c<w.heap.size
 tb:TB.q w I
def setP (g:Gst) (p:Place) (y:AV):Gst:=fun t=>if t=p.root then (g t).map fun x=>x.setAt p.path y else g t
inductive RK (g:Gst):AV->Prop
 | nr {x:AV}(h:NR x):RK g x
 | ref {x:AV}(hx:x.isRef=true) (h:RefOk g x):RK g x
 | own {z n:Nat}{cs:List AV}(h:∀ x∈cs,RK g x):RK g (.own z n cs)
 | obj {cs:List AV}(h:∀ x∈cs,RK g x):RK g (.obj cs)
 | agg {cs:List AV}(h:∀ x∈cs,RK g x):RK g (.agg cs)
 | tup {cs:List AV}(h:∀ x∈cs,RK g x):RK g (.tup cs)
 | clo {fn:Fn}{a b:List AV}(h1:∀ x∈a,RK g x) (h2:∀ x∈b,RK g x):RK g (.clo fn a b)
 | pend {z n m:Nat}{p:Place}{new:List AV}(hp:RefOk g (.pend z p n 0 [])) (h:∀ x∈new,RK g x):RK g (.pend z p n m new)
section
variable {w:World}{I:BSet}{T:Array Value}{g:Gst}{Fs:Nat->BSet}
theorem R.rk {x:AV}{v:Value}{F:BSet}(h:R w I (RefAt w T) x v F):RK g x->R w I (RG w T g) x v F:=by
 induction h with
 | lit h hF=>exact fun _=>.lit h hF
 | nils hF=>exact fun _=>.nils hF
 | dead hF=>exact fun _=>.dead hF
 | slf hF=>exact fun _=>.slf hF
 | @ref x _ _ hx h hF =>
  intro hk
  refine .ref hx ⟨h,?_⟩ hF
  cases hk with
  | ref _ h=>exact h
  | nr h=>cases h <;> simp [AV.isRef] at hx
  | _=>simp [AV.isRef] at hx
 | imm0 hF=>exact fun _=>.imm0 hF
 | mp ho hp hF=>exact fun _=>.mp ho hp hF
 | brow ho h1 hF=>exact fun _=>.brow ho h1 hF
 | imp hF hI ho hp=>exact fun _=>.imp hF hI ho hp
 | imm hF hcap hI hs hl h1 hc hr ih =>
  intro hk
  cases hk with
  | ref hx=>simp [AV.isRef] at hx
  | nr h=>cases h with | imm h=>exact .imm hF hcap hI hs hl h1 hc fun k x hx=>ih k x hx (.nr (h x (List.mem_of_getElem? hx)))
 | iptr hF hI hs h1 hc hr ih =>
  intro hk
  cases hk with
  | ref hx=>simp [AV.isRef] at hx
  | nr h=>cases h with | iptr h=>exact .iptr hF hI hs h1 hc fun k x hx=>ih k x hx (.nr (h x (List.mem_of_getElem? hx)))
 | own ho hl h1 hr hd hb hF ih =>
  intro hk
  refine .own ho hl h1 (fun k x u hx hu=>ih k x u hx hu ?_) hd hb hF
  cases hk with
  | ref hx=>simp [AV.isRef] at hx
  | nr h=>cases h with | own h=>exact .nr (h x (List.mem_of_getElem? hx))
  | own h=>exact h x (List.mem_of_getElem? hx)
 | obj ho hl h1 hr hd hb hF hs ih =>
  intro hk
  refine .obj ho hl h1 (fun k x u hx hu=>ih k x u hx hu ?_) hd hb hF hs
  cases hk with
  | ref hx=>simp [AV.isRef] at hx
  | nr h=>cases h with | obj h=>exact .nr (h x (List.mem_of_getElem? hx))
  | obj h=>exact h x (List.mem_of_getElem? hx)
 | agg hl h1 hr hd hF ih =>
  intro hk
  refine .agg hl h1 (fun k x u hx hu=>ih k x u hx hu ?_) hd hF
  cases hk with
  | ref hx=>simp [AV.isRef] at hx
  | nr h=>cases h with | agg h=>exact .nr (h x (List.mem_of_getElem? hx))
  | agg h=>exact h x (List.mem_of_getElem? hx)
 | tup hl hr hd hF ih =>
  intro hk
  refine .tup hl (fun k x u hx hu=>ih k x u hx hu ?_) hd hF
  cases hk with
  | ref hx=>simp [AV.isRef] at hx
  | nr h=>cases h with | tup h=>exact .nr (h x (List.mem_of_getElem? hx))
  | tup h=>exact h x (List.mem_of_getElem? hx)
 | @clo fn first caps v1 v2 F hF h1 h2 hr1 hr2 ih1 ih2 =>
  intro hk
  have:(∀ x∈first,RK g x)/\∀ x∈caps,RK g x:=by
   cases hk with
   | ref hx=>simp [AV.isRef] at hx
   | nr h=>cases h with | clo h1 h2=>exact ⟨fun x hx=>.nr (h1 x hx),fun x hx=>.nr (h2 x hx)⟩
   | clo h1 h2=>exact ⟨h1,h2⟩
  exact .clo hF h1 h2 (fun k x u hx hu=>ih1 k x u hx hu (this.1 x (List.mem_of_getElem? hx))) (fun k x u hx hu=>ih2 k x u hx hu (this.2 x (List.mem_of_getElem? hx)))
theorem RT.rk {x:AV}{v:Value}{F:BSet}(h:RT w I (RefAt w T) x v F) (hk:RK g x):RT w I (RG w T g) x v F:=by
 cases h with
 | tree h=>exact .tree (h.rk hk)
 | pend h =>
  cases hk with
  | nr h=>cases h
  | ref hx=>simp [AV.isRef] at hx
  | pend hp hn=>exact .pend ⟨⟨h.hbv,hp⟩,h.hob,h.hov,h.hl,h.h1,fun k x u hx hu=>(h.hr k x u hx hu).rk (hn x (List.mem_of_getElem? hx)),h.hF⟩
theorem SR.toC (h:SR w I T g Fs):SRc w I T g Fs :=
  ⟨fun t x hx=>by
    obtain ⟨v,hv,hR⟩:=h.rel t x hx
    refine ⟨v,hv,?_⟩
    cases hR with
    | tree hR=>exact .tree (hR.frame (fun _ _=>rfl) (fun _ h=>h) (fun _ _ h=>h.1) fun _ _=>rfl)
    | pend hR=>exact .pend ⟨hR.hbv.1,hR.hob,hR.hov,hR.hl,hR.h1,fun k x u hx hu=>(hR.hr k x u hx hu).frame (fun _ _=>rfl) (fun _ h=>h) (fun _ _ h=>h.1) fun _ _=>rfl,hR.hF⟩,
   h.non,h.dis,h.imm,h.lt,h.tb⟩
theorem SRc.toR (h:SRc w I T g Fs) {g':Gst}(hg:∀ t x,g' t=some x->g t=some x) (hk:∀ t x,g' t=some x->RK g' x)
  (hp:∀ t t' z p n m new z' n' m' new',g' t=some (.pend z p n m new)->g' t'=some (.pend z' p n' m' new')->t=t'):SR w I T g' (fun t c=>g' t≠none/\Fs t c):=by
 refine ⟨fun t x hx=>?_,fun t ht c hc=>hc.1 ht,fun t t' c hc hc'=>h.dis t t' c hc.2 hc'.2,fun t c hc=>h.imm t c hc.2,h.lt,hp,h.tb⟩
 obtain ⟨v,hv,hR⟩:=h.rel t x (hg t x hx)
 have:Fs t=fun c=>g' t≠none/\Fs t c:=by
  funext c
  exact propext ⟨fun hc=>⟨by rw [hx]; simp,hc⟩,fun hc=>hc.2⟩
 refine ⟨v,hv,?_⟩
 rw [<- this]
 exact hR.rk (hk t x hx)
theorem SRc.part (h:SRc w I T g Fs) {p:Place}{y:AV}(hp:atP g p=some y) (hy:∀ z q n m new,y≠.pend z q n m new):∃ v Fy,valAt w T p=some v/\R w I (RefAt w T) y v Fy/\(∀ c,Fy c->Fs p.root c) /\
  ∀ (y':AV) (Fy':BSet),R w I (RefAt w T) y' v Fy'->(∀ c,Fy' c->Fs p.root c->Fy c)->(∀ c,Fy' c->¬ I c)->(∀ t c,t≠p.root->Fy' c->¬ Fs t c)->(∀ j,y'=.self j->y=.self j) ->
   ∃ Fs',SRc w I T (setP g p y') Fs'/\(∀ c,Fs' p.root c↔(Fs p.root c/\¬ Fy c)\/Fy' c)/\∀ t,t≠p.root->Fs' t=Fs t:=by
 unfold atP at hp
 cases hx:g p.root with
 | none=>rw [hx] at hp; cases hp
 | some x =>
  rw [hx] at hp
  obtain ⟨v,hv,hR⟩:=h.rel _ _ hx
  replace hR:=hR.isTree (by
   rintro z q n m new rfl
   exact hy _ _ _ _ _ (AV.at_pend hp).2)
  obtain ⟨vy,Fy,hw,hRy,hFy,wk,rebuild⟩:=R.focus p.path hR hp
  refine ⟨vy,Fy,by simp [valAt,hv,hw],hRy,hFy,fun y' Fy' hR' hdis hI hoth hns=>?_⟩
  obtain ⟨F',hRF,hF'⟩:=rebuild w I (RefAt w T) y' Fy' ⟨fun _ _=>rfl,fun _ _ _=>rfl,fun _ h=>h,fun _ _ h=>h⟩ hR' hdis hns
  refine ⟨fun t=>if t=p.root then F' else Fs t,⟨fun t x' hx'=>?_,fun t ht c=>?_,fun t t' c hc hc'=>?_,fun t c hc=>?_,h.lt,h.tb⟩,fun c=>by simp [hF' c],fun t ht=>by simp [ht]⟩
  ·by_cases htr:t=p.root
   ·subst htr
    have hx'':x.setAt p.path y'=x':=by simpa [setP,hx] using hx'
    subst hx''
    exact ⟨v,hv,.tree (by simpa using hRF)⟩
   ·simp only [setP,if_neg htr] at hx'
    simpa [htr] using h.rel t x' hx'
  ·by_cases htr:t=p.root
   ·subst htr; simp [setP,hx] at ht
   ·simp only [setP,if_neg htr] at ht; simpa [htr] using h.non t ht c
  ·by_cases h1:t=p.root <;> by_cases h2:t'=p.root <;> simp only [h1,h2,if_true,if_false] at hc hc'
   ·rw [h1,h2]
   ·rcases (hF' c).1 hc with ⟨h3,_⟩ | h3
    ·rw [h1]; exact h.dis _ _ _ h3 hc'
    ·exact absurd hc' (hoth t' c h2 h3)
   ·rcases (hF' c).1 hc' with ⟨h3,_⟩ | h3
    ·rw [h2]; exact h.dis _ _ _ hc h3
    ·exact absurd hc (hoth t c h1 h3)
   ·exact h.dis _ _ _ hc hc'
  ·by_cases h1:t=p.root <;> simp only [h1,if_true,if_false] at hc
   ·rcases (hF' c).1 hc with ⟨h3,_⟩ | h3
    ·exact h.imm _ c h3
    ·exact hI c h3
   ·exact h.imm t c hc
end
end Go.Own
namespace Go.Own
open Go
set_option linter.unusedSectionVars false
variable [TB]
inductive Take:Gst->List AV->List AV->Gst->Prop
 | nr {g:Gst}{xs:List AV}(h:∀ x∈xs,NR x):Take g xs xs g
 | cons {g g':Gst}{x:AV}{xs xs':List AV}(h:NR x) (ht:Take g xs xs' g'):Take g (x::xs) (x::xs') g'
 | brw {g g1 g':Gst}{z n N:Nat}{p:Place}{cs cs' xs xs':List AV}(hp:atP g p=some (.own z N cs)) (hn:n<=N) (h1:Take (setP g p .dead) (cs.take (n * z)) cs' g1) (h2:Take g1 xs xs' g') :
   Take g (.brw z p n::xs) (.own z n cs'::xs') g'
 | pend {g g1 g':Gst}{z n m t:Nat}{q:Place}{cs new cs' xs xs':List AV}(ht:g t=some (.pend z q n m new)) (hp:atP g q=some (.own z n cs)) (hq:q.root≠t) (h1:Take (setP (setP g ⟨t,[]⟩ .dead) q .dead) (cs++new) cs' g1) (h2:Take g1 xs xs' g') :
   Take g (.brw z ⟨t,[]⟩ (n+m)::xs) (.own z (n+m) cs'::xs') g'
 | pend2 {g g1 g':Gst}{z n m t n2 m2 t2:Nat}{q:Place}{cs new new2 cs' xs xs':List AV}(ht:g t=some (.pend z ⟨t2,[]⟩ n m new)) (ht2:g t2=some (.pend z q n2 m2 new2)) (hn:n=n2+m2) (hp:atP g q=some (.own z n2 cs)) (hq:q.root≠t) (hq2:q.root≠t2) (htt:t≠t2)
   (h1:Take (setP (setP (setP g ⟨t,[]⟩ .dead) ⟨t2,[]⟩ .dead) q .dead) (cs++new2++new) cs' g1) (h2:Take g1 xs xs' g') :
   Take g (.brw z ⟨t,[]⟩ (n+m)::xs) (.own z (n+m) cs'::xs') g'
 | obj {g g1 g':Gst}{p:Place}{cs cs' xs xs':List AV}(hp:atP g p=some (.obj cs)) (h1:Take (setP g p .dead) cs cs' g1) (h2:Take g1 xs xs' g'):Take g (.ptr p 0::xs) (.obj cs'::xs') g'
 | mp {g g1 g':Gst}{p:Place}{q:Array MapEntry->Nat->Prop}{xs xs':List AV}(hp:atP g p=some (.mp q)) (h1:Take (setP g p .dead) [] [] g1) (h2:Take g1 xs xs' g'):Take g (.mref p::xs) (.mp q::xs') g'
 | agg {g g1 g':Gst}{cs cs' xs xs':List AV}(h1:Take g cs cs' g1) (h2:Take g1 xs xs' g'):Take g (.agg cs::xs) (.agg cs'::xs') g'
 | tup {g g1 g':Gst}{cs cs' xs xs':List AV}(h1:Take g cs cs' g1) (h2:Take g1 xs xs' g'):Take g (.tup cs::xs) (.tup cs'::xs') g'
structure Hand (w:World) (I:BSet) (ρ:AV->Value->Prop) (Fs:Nat->BSet) (xs:List AV) (vs:List Value) (Hs:Nat->BSet):Prop where
 len:xs.length=vs.length
 rel:∀ (k:Nat) (x:AV) (u:Value),xs[k]?=some x->vs[k]?=some u->R w I ρ x u (Hs k)
 dis:∀ (j k c:Nat),j<xs.length->k<xs.length->Hs j c->Hs k c->j=k
 off:∀ (k t c:Nat),k<xs.length->Hs k c->¬ Fs t c
 imm:∀ (k c:Nat),k<xs.length->Hs k c->¬ I c
def AllB (Fs:Nat->BSet) (n:Nat) (Hs:Nat->BSet):BSet:=fun c=>(∃ t,Fs t c)\/∃ k,k<n/\Hs k c
section
variable {w:World}{I:BSet}{T:Array Value}
theorem Take.length {g g':Gst}{xs xs':List AV}(h:Take g xs xs' g'):xs'.length=xs.length:=by
 induction h with
 | nr=>rfl
 | cons _ _ ih=>simp [ih]
 | brw _ _ _ _ _ ih=>simp [ih]
 | pend _ _ _ _ _ _ ih=>simp [ih]
 | pend2 _ _ _ _ _ _ _ _ _ _ ih=>simp [ih]
 | obj _ _ _ _ ih=>simp [ih]
 | mp _ _ _ _ ih=>simp [ih]
 | agg _ _ _ ih=>simp [ih]
 | tup _ _ _ ih=>simp [ih]
theorem NoSelf.cons {x:AV}{l:List AV}(h:NoSelf (x::l)):(∀ j,x≠.self j)/\NoSelf l:=⟨fun j e=>h 0 j (by rw [e]; rfl),fun k j e=>h (k+1) j e⟩
theorem Take.self {g g':Gst}{xs xs':List AV}(h:Take g xs xs' g'):∀ (k:Nat) (j:Nat × Nat),xs'[k]?=some (.self j)->xs[k]?=some (.self j):=by
 have step:∀ {x x':AV}{xs xs':List AV},(∀ j,x'=.self j->x=.self j)->(∀ (k:Nat) (j:Nat × Nat),xs'[k]?=some (.self j)->xs[k]?=some (.self j))->∀ (k:Nat) (j:Nat × Nat),(x'::xs')[k]?=some (.self j)->(x::xs)[k]?=some (.self j):=by
  intro x x' xs xs' h1 h2 k j h
  cases k with
  | zero=>simp only [List.getElem?_cons_zero,Option.some.injEq] at h ⊢; exact h1 j h
  | succ k=>exact h2 k j h
 induction h with
 | nr=>exact fun _ _ h=>h
 | cons _ _ ih=>exact step (fun _ h=>h) ih
 | brw _ _ _ _ _ ih=>exact step (fun _ h=>by cases h) ih
 | pend _ _ _ _ _ _ ih=>exact step (fun _ h=>by cases h) ih
 | pend2 _ _ _ _ _ _ _ _ _ _ ih=>exact step (fun _ h=>by cases h) ih
 | obj _ _ _ _ ih=>exact step (fun _ h=>by cases h) ih
 | mp _ _ _ _ ih=>exact step (fun _ h=>by cases h) ih
 | agg _ _ _ ih=>exact step (fun _ h=>by cases h) ih
 | tup _ _ _ ih=>exact step (fun _ h=>by cases h) ih
theorem Take.okA {g g':Gst}{xs xs':List AV}(h:Take g xs xs' g') (ho:∀ x∈xs,OkA x):∀ x∈xs',OkA x:=by
 induction h with
 | nr=>exact ho
 | cons _ _ ih =>
  intro x hx
  rcases List.mem_cons.1 hx with rfl | hx
  ·exact ho _ (by simp)
  ·exact ih (fun x h=>ho x (by simp [h])) x hx
 | brw _ _ _ _ _ ih | pend _ _ _ _ _ _ ih | pend2 _ _ _ _ _ _ _ _ _ _ ih | obj _ _ _ _ ih | mp _ _ _ _ ih | tup _ _ _ ih =>
  intro x hx
  rcases List.mem_cons.1 hx with rfl | hx
  ·intro cs e; cases e
  ·exact ih (fun x h=>ho x (by simp [h])) x hx
 | agg h1 _ _ ih =>
  intro x hx
  rcases List.mem_cons.1 hx with rfl | hx
  ·intro cs e
   cases e
   exact fun k j hk=>ho _ (List.mem_cons_self ..) _ rfl k j (h1.self k j hk)
  ·exact ih (fun x h=>ho x (by simp [h])) x hx
theorem Hand.cons {ρ:AV->Value->Prop}{Fs:Nat->BSet}{x:AV}{v:Value}{F:BSet}{xs:List AV}{vs:List Value}{Hs:Nat->BSet}(h:Hand w I ρ Fs xs vs Hs) (hx:R w I ρ x v F)
  (hd:∀ k c,k<xs.length->F c->¬ Hs k c) (ho:∀ t c,F c->¬ Fs t c) (hi:∀ c,F c->¬ I c):Hand w I ρ Fs (x::xs) (v::vs) (fun k=>match k with | 0=>F | k+1=>Hs k):=by
 refine ⟨by simp [h.len],fun k y u hy hu=>?_,fun j k c hj hk h1 h2=>?_,fun k t c hk hc=>?_,fun k c hk hc=>?_⟩
 ·cases k with
  | zero=>simp at hy hu; subst hy hu; exact hx
  | succ k=>simp at hy hu; exact h.rel k y u hy hu
 ·cases j <;> cases k
  ·rfl
  ·exact absurd h2 (hd _ c (by simpa using hk) h1)
  ·exact absurd h1 (hd _ c (by simpa using hj) h2)
  ·rw [h.dis _ _ c (by simpa using hj) (by simpa using hk) h1 h2]
 ·cases k with
  | zero=>exact ho t c hc
  | succ k=>exact h.off k t c (by simpa using hk) hc
 ·cases k with
  | zero=>exact hi c hc
  | succ k=>exact h.imm k c (by simpa using hk) hc
theorem Hand.tail {ρ:AV->Value->Prop}{Fs:Nat->BSet}{x:AV}{v:Value}{xs:List AV}{vs:List Value}{Hs:Nat->BSet}(h:Hand w I ρ Fs (x::xs) (v::vs) Hs):Hand w I ρ Fs xs vs (fun k=>Hs (k+1)) :=
  ⟨by simpa using h.len,fun k y u hy hu=>h.rel (k+1) y u hy hu,fun j k c hj hk h1 h2=>by have:=h.dis (j+1) (k+1) c (by simpa using hj) (by simpa using hk) h1 h2; omega,
   fun k t c hk hc=>h.off (k+1) t c (by simpa using hk) hc,fun k c hk hc=>h.imm (k+1) c (by simpa using hk) hc⟩
theorem nr_cons {x:AV}{xs:List AV}(h:NR x) (ih:∀ y∈xs,NR y):∀ y∈x::xs,NR y:=by
 intro y hy
 rcases List.mem_cons.1 hy with rfl | hy
 ·exact h
 ·exact ih y hy
theorem Take.nrOut {g g':Gst}{xs xs':List AV}(h:Take g xs xs' g'):∀ x∈xs',NR x:=by
 induction h with
 | nr h=>exact h
 | cons h _ ih=>exact nr_cons h ih
 | brw _ _ _ _ ih1 ih2=>exact nr_cons (.own ih1) ih2
 | pend _ _ _ _ _ ih1 ih2=>exact nr_cons (.own ih1) ih2
 | pend2 _ _ _ _ _ _ _ _ _ ih1 ih2=>exact nr_cons (.own ih1) ih2
 | obj _ _ _ ih1 ih2=>exact nr_cons (.obj ih1) ih2
 | mp _ _ _ _ ih2=>exact nr_cons .mp ih2
 | agg _ _ ih1 ih2=>exact nr_cons (.agg ih1) ih2
 | tup _ _ ih1 ih2=>exact nr_cons (.tup ih1) ih2
def TakeOk (w:World) (I:BSet) (T:Array Value) (g:Gst) (xs xs':List AV) (g':Gst):Prop :=
 ∀ {Fs:Nat->BSet}{vs:List Value}{Hs:Nat->BSet},SRc w I T g Fs->Hand w I (RefAt w T) Fs xs vs Hs ->
  ∃ Fs' Hs',SRc w I T g' Fs'/\Hand w I (RefAt w T) Fs' xs' vs Hs'/\∀ c,AllB Fs' xs'.length Hs' c->AllB Fs xs.length Hs c
theorem ownsRow_det {w:World}{e e':TypeId}{z n:Nat}{v:Value}{us us':List Value}(h:w.ownsRow 0 e z v n us) (h':w.ownsRow 0 e' z v n us'):us=us':=by
 obtain ⟨h1,h2⟩:=h
 obtain ⟨h1',h2'⟩:=h'
 rcases h2 with ⟨rfl,rfl⟩ | ⟨b,cap,cur,rfl,_,hg,_,_,_,ht⟩
 ·simp at h1 h1'; rw [h1,h1']
 ·rcases h2' with ⟨hh,_⟩ | ⟨b',cap',cur',hh,_,hg',_,_,_,ht'⟩
  ·cases hh
  ·cases hh
   rw [hg] at hg'
   cases hg'
   rw [<- ht,<- ht']
theorem Take.node {g1 g2 g':Gst}{Fs Fs1:Nat->BSet}{B H0:BSet}{cs cs' xs xs':List AV}{us vs:List Value}{Fk Hs:Nat->BSet}{X:AV}{v0:Value}
  (hS:SRc w I T g1 Fs1) (hH:Hand w I (RefAt w T) Fs1 cs us Fk) (hB:∀ c,B c->(∃ t,Fs t c)/\(∀ t,¬ Fs1 t c)/\(∀ k,k<cs.length->¬ Fk k c)/\¬ I c)
  (hsub:∀ c,AllB Fs1 cs.length Fk c->(∃ t,Fs t c)\/H0 c) (hT:Hand w I (RefAt w T) Fs xs vs Hs) (hH0:∀ c,H0 c->(∀ t,¬ Fs t c)/\∀ k,k<xs.length->¬ Hs k c)
  (ih1:TakeOk w I T g1 cs cs' g2) (ih2:TakeOk w I T g2 xs xs' g')
  (build:∀ Hs':Nat->BSet,(∀ (k:Nat) (x:AV) (u:Value),cs'[k]?=some x->us[k]?=some u->R w I (RefAt w T) x u (Hs' k))->(∀ (j k c:Nat),j<cs'.length->k<cs'.length->Hs' j c->Hs' k c->j=k) ->
   (∀ k c,k<cs'.length->Hs' k c->¬ B c)->R w I (RefAt w T) X v0 (fun c=>B c\/∃ k,k<cs'.length/\Hs' k c)) :
  ∃ Fs' Hs',SRc w I T g' Fs'/\Hand w I (RefAt w T) Fs' (X::xs') (v0::vs) Hs'/\∀ c,AllB Fs' (X::xs').length Hs' c->(∃ t,Fs t c)\/H0 c\/∃ k,k<xs.length/\Hs k c:=by
 obtain ⟨Fs2,H1,hS2,hH2,hall1⟩:=ih1 hS hH
 have off2:∀ k t c,k<xs.length->Hs k c->¬ Fs2 t c:=by
  intro k t c hk hc hf
  rcases hsub c (hall1 c (.inl ⟨t,hf⟩)) with ⟨t',h⟩ | h
  ·exact hT.off k t' c hk hc h
  ·exact (hH0 c h).2 k hk hc
 obtain ⟨Fs3,H3,hS3,hH3,hall2⟩:=ih2 hS2 (⟨hT.len,hT.rel,hT.dis,off2,hT.imm⟩:Hand w I (RefAt w T) Fs2 xs vs Hs)
 have hBn:∀ k c,k<cs'.length->H1 k c->¬ B c:=by
  intro k c hk hc hb
  obtain ⟨_,h1,h2,_⟩:=hB c hb
  rcases hall1 c (.inr ⟨k,hk,hc⟩) with ⟨t,h⟩ | ⟨j,hj,h⟩
  ·exact h1 t h
  ·exact h2 j hj h
 have hX:=build H1 hH2.rel hH2.dis hBn
 -- the node's blocks: apart from all else
 have key:∀ c,(B c\/∃ k,k<cs'.length/\H1 k c)->(∀ t,¬ Fs2 t c)/\(∀ k,k<xs.length->¬ Hs k c)/\¬ I c/\((∃ t,Fs t c)\/H0 c):=by
  rintro c (hb | ⟨k,hk,hc⟩)
  ·obtain ⟨⟨t0,h0⟩,h1,h2,h3⟩:=hB c hb
   refine ⟨fun t hf=>?_,fun k hk hc=>hT.off k t0 c hk hc h0,h3,.inl ⟨t0,h0⟩⟩
   rcases hall1 c (.inl ⟨t,hf⟩) with ⟨t',h⟩ | ⟨j,hj,h⟩
   ·exact h1 t' h
   ·exact h2 j hj h
  ·have hs:=hsub c (hall1 c (.inr ⟨k,hk,hc⟩))
   refine ⟨fun t hf=>hH2.off k t c hk hc hf,fun j hj hcj=>?_,hH2.imm k c hk hc,hs⟩
   rcases hs with ⟨t,h⟩ | h
   ·exact hT.off j t c hj hcj h
   ·exact (hH0 c h).2 j hj hcj
 have fin:∀ c,(B c\/∃ k,k<cs'.length/\H1 k c)->(∀ t,¬ Fs3 t c)/\∀ k,k<xs'.length->¬ H3 k c:=by
  intro c hc
  obtain ⟨h1,h2,_,_⟩:=key c hc
  have none:¬ AllB Fs3 xs'.length H3 c:=by
   intro h
   rcases hall2 c h with ⟨t,h⟩ | ⟨k,hk,h⟩
   ·exact h1 t h
   ·exact h2 k hk h
  exact ⟨fun t h=>none (.inl ⟨t,h⟩),fun k hk h=>none (.inr ⟨k,hk,h⟩)⟩
 refine ⟨Fs3,_,hS3,hH3.cons hX (fun k c hk hc=>(fin c hc).2 k hk) (fun t c hc=>(fin c hc).1 t) (fun c hc=>(key c hc).2.2.1),?_⟩
 have back:∀ c,AllB Fs3 xs'.length H3 c->(∃ t,Fs t c)\/H0 c\/∃ k,k<xs.length/\Hs k c:=by
  intro c h
  rcases hall2 c h with ⟨t,h⟩ | h
  ·rcases hsub c (hall1 c (.inl ⟨t,h⟩)) with h | h
   ·exact .inl h
   ·exact .inr (.inl h)
  ·exact .inr (.inr h)
 rintro c (h | ⟨k,hk,hc⟩)
 ·exact back c (.inl h)
 ·cases k with
  | zero =>
   rcases (key c hc).2.2.2 with h | h
   ·exact .inl h
   ·exact .inr (.inl h)
  | succ k=>exact back c (.inr ⟨k,by simpa using hk,hc⟩)
end
end Go.Own
namespace Go.Own
open Go
set_option linter.unusedSectionVars false
variable [TB]
section
variable {w:World}{I:BSet}{T:Array Value}
theorem SRc.kill {g:Gst}{Fs:Nat->BSet}(h:SRc w I T g Fs) (t:Nat):∃ Fs',SRc w I T (setP g ⟨t,[]⟩ .dead) Fs'/\(∀ c,¬ Fs' t c)/\∀ s,s≠t->Fs' s=Fs s:=by
 refine ⟨fun s=>if s=t then E0 else Fs s,⟨fun s x hx=>?_,fun s hs c=>?_,fun s s' c hc hc'=>?_,fun s c hc=>?_,h.lt,h.tb⟩,fun c=>by simp,fun s hs=>by simp [hs]⟩
 ·by_cases hst:s=t
  ·subst hst
   simp only [setP,if_pos] at hx
   cases hg:g s with
   | none=>rw [hg] at hx; cases hx
   | some y =>
    rw [hg] at hx
    have:x=.dead:=by simpa [AV.setAt] using hx.symm
    subst this
    obtain ⟨v,hv,_⟩:=h.rel s y hg
    exact ⟨v,hv,.tree (.dead (by simp))⟩
  ·simp only [setP,if_neg hst] at hx; simpa [hst] using h.rel s x hx
 ·by_cases hst:s=t
  ·simp [hst]
  ·simp only [setP,if_neg hst] at hs; simpa [hst] using h.non s hs c
 ·by_cases h1:s=t <;> by_cases h2:s'=t <;> simp [h1,h2,E0] at hc hc'
  exact h.dis _ _ _ hc hc'
 ·by_cases h1:s=t <;> simp [h1,E0] at hc
  exact h.imm _ _ hc
theorem R.headOff {ρ:AV->Value->Prop}{Fs:Nat->BSet}{x:AV}{v:Value}{xs:List AV}{vs:List Value}{Hs:Nat->BSet}(h:Hand w I ρ Fs (x::xs) (v::vs) Hs):∀ c,Hs 0 c->(∀ t,¬ Fs t c)/\∀ k,k<xs.length->¬ Hs (k+1) c:=by
 intro c hc
 refine ⟨fun t=>h.off 0 t c (by simp) hc,fun k hk hk'=>?_⟩
 have:=h.dis 0 (k+1) c (by simp) (by simpa using hk) hc hk'
 omega
theorem AllB.head {Fs:Nat->BSet}{x:AV}{xs:List AV}{Hs:Nat->BSet}{c:Nat}(h:(∃ t,Fs t c)\/Hs 0 c\/∃ k,k<xs.length/\Hs (k+1) c):AllB Fs (x::xs).length Hs c:=by
 rcases h with h | h | ⟨k,hk,h⟩
 ·exact .inl h
 ·exact .inr ⟨0,by simp,h⟩
 ·exact .inr ⟨k+1,by simpa using hk,h⟩
theorem setP_other {g:Gst}{p:Place}{y:AV}{q:Place}(h:q.root≠p.root):atP (setP g p y) q=atP g q:=by
 simp [atP,setP,h]
theorem setP_slot {g:Gst}{p:Place}{y:AV}{t:Nat}(h:t≠p.root):setP g p y t=g t:=by
 simp [setP,h]
theorem ownBlock_slice {a:Option Addr}{n cap n' cap':Nat}:(Value.slice a n cap).ownBlock=(Value.slice a n' cap').ownBlock:=by cases a <;> rfl
theorem ownsRow_take {e:TypeId}{z n N:Nat}{a:Option Addr}{cap:Nat}{us:List Value}(h:w.ownsRow 0 e z (.slice a N cap) N us) (hn:n<=N):w.ownsRow 0 e z (.slice a n cap) n (us.take (n * z)):=by
 have hle:n * z<=N * z:=Nat.mul_le_mul_right _ hn
 obtain ⟨hu,hh⟩:=h
 refine ⟨by rw [List.length_take,hu]; omega,?_⟩
 rcases hh with ⟨hh,h0⟩ | ⟨b,c2,cur,hh,r1,r2,r3,r4,r5,r6⟩
 ·cases hh; exact .inl ⟨by simp; omega,by omega⟩
 ·cases hh
  refine .inr ⟨b,cap,cur,rfl,r1,r2,by omega,r4,r5,?_⟩
  rw [<- r6,List.take_take,Nat.min_eq_left hle]
theorem Take.sound {g g':Gst}{xs xs':List AV}(h:Take g xs xs' g'):TakeOk w I T g xs xs' g':=by
 induction h with
 | nr h=>exact fun {Fs vs Hs} hS hH=>⟨Fs,Hs,hS,hH,fun _ h=>h⟩
 | @cons g g' x xs xs' hx _ ih =>
  intro Fs vs Hs hS hH
  cases vs with
  | nil=>have:=hH.len; simp at this
  | cons v vs =>
   obtain ⟨Fs',Hs',hS',hH',hall⟩:=ih hS hH.tail
   have h0:=R.headOff hH
   have off:∀ c,Hs 0 c->¬ AllB Fs' xs'.length Hs' c:=by
    intro c hc hb
    rcases hall c hb with ⟨t,h⟩ | ⟨k,hk,h⟩
    ·exact (h0 c hc).1 t h
    ·exact (h0 c hc).2 k hk h
   refine ⟨Fs',_,hS',hH'.cons (hH.rel 0 x v rfl rfl) (fun k c hk hc h=>off c hc (.inr ⟨k,hk,h⟩)) (fun t c hc h=>off c hc (.inl ⟨t,h⟩)) (fun c hc=>hH.imm 0 c (by simp) hc),?_⟩
   rintro c (h | ⟨k,hk,h⟩)
   ·rcases hall c (.inl h) with h | ⟨j,hj,h⟩
    ·exact .inl h
    ·exact .inr ⟨j+1,by simpa using hj,h⟩
   ·cases k with
    | zero=>exact .inr ⟨0,by simp,h⟩
    | succ k =>
     rcases hall c (.inr ⟨k,by simpa using hk,h⟩) with h | ⟨j,hj,h⟩
     ·exact .inl h
     ·exact .inr ⟨j+1,by simpa using hj,h⟩
 | @brw g g1 g' z n N p cs cs' xs xs' hp hn t1 _ ih1 ih2 =>
  intro Fs vs Hs hS hH
  cases vs with
  | nil=>have:=hH.len; simp at this
  | cons v vs =>
   obtain ⟨vp,Fy,hvp,hRp,hFy,rebuild⟩:=hS.part hp (by simp)
   obtain ⟨a,N',cap,h1,rfl,h3⟩:=(hH.rel 0 _ v rfl rfl).inv_brw
   rw [h1] at hvp
   cases hvp
   obtain ⟨a2,cap2,hsl,_⟩:=hRp.own_slice
   cases hsl
   obtain ⟨Fs1,hS1,hr1,hr2⟩:=rebuild .dead E0 (.dead fun _ h=>h) (fun _ h=>h.elim) (fun _ h=>h.elim) (fun _ _ _ h=>h.elim) (fun _ h=>by cases h)
   have hFs1:∀ t c,Fs1 t c->Fs t c/\¬ Fy c:=by
    intro t c hc
    by_cases ht:t=p.root
    ·subst ht
     rcases (hr1 c).1 hc with h | h
     ·exact h
     ·exact h.elim
    ·rw [hr2 t ht] at hc
     exact ⟨hc,fun hyc=>ht (hS.dis _ _ _ hc (hFy c hyc))⟩
   cases hRp with
   | ref hx=>simp [AV.isRef] at hx
   | @own _ _ _ _ e us Fk _ ho hl h1' hr hd hb hF =>
    have hsubl:∀ k,k<(cs.take (n * z)).length->k<cs.length:=fun k hk=>by rw [List.length_take] at hk; omega
    have hFk:∀ k c,k<(cs.take (n * z)).length->Fk k c->Fy c:=fun k c hk hc=>(hF c).2 (.inr ⟨k,hsubl k hk,hc⟩)
    have hH1:Hand w I (RefAt w T) Fs1 (cs.take (n * z)) (us.take (n * z)) Fk:=by
     refine ⟨by simp [hl],fun k x u hx hu=>?_,fun j k c hj hk=>hd j k c (hsubl j hj) (hsubl k hk),fun k t c hk hc hf=>(hFs1 t c hf).2 (hFk k c hk hc),fun k c hk hc=>hS.imm _ c (hFy c (hFk k c hk hc))⟩
     rw [List.getElem?_take] at hx hu
     split at hx
     ·rename_i hkl; rw [if_pos hkl] at hu; exact hr k x u hx hu
     ·cases hx
    have hrow:=ownsRow_take ho hn
    obtain ⟨Fs',Hs',a1,a2,a3⟩:=Take.node (g1:=setP g p .dead) (Fs:=Fs) (B:=fun c=>(Value.slice a n cap).ownBlock=some c) (H0:=Hs 0) (X:=.own z n cs') (v0:=.slice a n cap) hS1 hH1
     (fun c hc=>by
      have hyc:Fy c:=(hF c).2 (.inl (by rw [<- hc]; exact ownBlock_slice))
      exact ⟨⟨_,hFy c hyc⟩,fun t hf=>(hFs1 t c hf).2 hyc,fun k hk hk'=>hb k c (hsubl k hk) hk' (by rw [<- hc]; exact ownBlock_slice),hS.imm _ c (hFy c hyc)⟩)
     (fun c hc=>by
      rcases hc with ⟨t,h⟩ | ⟨k,hk,h⟩
      ·exact .inl ⟨t,(hFs1 t c h).1⟩
      ·exact .inl ⟨_,hFy c (hFk k c hk h)⟩)
     hH.tail (R.headOff hH) ih1 ih2 (fun Hs'' b1 b2 b3=>by
      refine .own hrow (by rw [t1.length]; simp [hl]) (fun k u hu=>?_) b1 b2 (fun k c hk hc h=>b3 k c hk hc h) fun c=>Iff.rfl
      rw [List.getElem?_take] at hu
      split at hu
      ·exact h1' k u hu
      ·cases hu)
    exact ⟨Fs',Hs',a1,a2,fun c hc=>AllB.head (a3 c hc)⟩
 | @pend g g1 g' z n m t q cs new cs' xs xs' ht hp hq t1 _ ih1 ih2 =>
  intro Fs vs Hs hS hH
  cases vs with
  | nil=>have:=hH.len; simp at this
  | cons v vs =>
   obtain ⟨a,N',cap,h1,rfl,h3⟩:=(hH.rel 0 _ v rfl rfl).inv_brw
   obtain ⟨v0,hv0,hR0⟩:=hS.rel t _ ht
   simp only [valAt,hv0,walk,Option.some.injEq] at h1
   subst h1
   obtain ⟨bv,e,e2,us,news,hR0⟩:=hR0.isPend
   have hN:N'=n+m:=by
    obtain ⟨_,hh⟩:=hR0.hov
    rcases hh with ⟨hh,h0⟩ | ⟨_,_,_,hh,_⟩
    ·cases hh; omega
    ·cases hh; rfl
   subst hN
   obtain ⟨FsK,hSK,hk1,hk2⟩:=hS.kill t
   have hpK:atP (setP g ⟨t,[]⟩ .dead) q=some (.own z n cs):=by rw [setP_other (by simpa using hq)]; exact hp
   obtain ⟨vp,Fy,hvp,hRp,hFy,rebuild⟩:=hSK.part hpK (by simp)
   obtain ⟨a',cap',h4,rfl⟩:=hR0.hbv
   rw [h4] at hvp
   cases hvp
   obtain ⟨Fs1,hS1,hr1,hr2⟩:=rebuild .dead E0 (.dead fun _ h=>h) (fun _ h=>h.elim) (fun _ h=>h.elim) (fun _ _ _ h=>h.elim) (fun _ h=>by cases h)
   have hFyq:∀ c,Fy c->Fs q.root c:=fun c hc=>by have:=hFy c hc; rwa [hk2 _ hq] at this
   have hFs1:∀ s c,Fs1 s c->Fs s c/\¬ Fy c/\s≠t:=by
    intro s c hc
    have hst:s≠t:=by
     rintro rfl
     by_cases hsq:s=q.root
     ·exact hq hsq.symm
     ·rw [hr2 s hsq] at hc; exact hk1 c hc
    by_cases hs:s=q.root
    ·subst hs
     rcases (hr1 c).1 hc with h | h
     ·exact ⟨by have:=h.1; rwa [hk2 _ hq] at this,h.2,hst⟩
     ·exact h.elim
    ·rw [hr2 s hs,hk2 s hst] at hc
     exact ⟨hc,fun hyc=>hs (hS.dis _ _ _ hc (hFyq c hyc)),hst⟩
   cases hRp with
   | ref hx=>simp [AV.isRef] at hx
   | @own _ _ _ _ e' us' Fk _ ho hl h1' hr hd hb hF =>
    have:=ownsRow_det ho hR0.hob
    subst this
    have hFk:∀ k c,k<cs.length->Fk k c->Fy c:=fun k c hk hc=>(hF c).2 (.inr ⟨k,hk,hc⟩)
    have hH1:Hand w I (RefAt w T) Fs1 (cs++new) (us'++news) (fun k=>if k<cs.length then Fk k else E0):=by
     refine ⟨by simp [hl,hR0.hl],fun k x u hx hu=>?_,fun j k c hj hk hc hc'=>?_,fun k s c hk hc hf=>?_,fun k c hk hc=>?_⟩
     ·by_cases hkl:k<cs.length
      ·rw [List.getElem?_append_left hkl] at hx
       rw [List.getElem?_append_left (by omega)] at hu
       simpa [hkl] using hr k x u hx hu
      ·rw [List.getElem?_append_right (by omega)] at hx
       rw [List.getElem?_append_right (by omega),<- hl] at hu
       simpa [hkl] using hR0.hr _ x u hx hu
     ·by_cases hjl:j<cs.length <;> by_cases hkl:k<cs.length <;> simp [hjl,hkl,E0] at hc hc'
      exact hd j k c hjl hkl hc hc'
     ·by_cases hkl:k<cs.length <;> simp [hkl,E0] at hc
      exact (hFs1 s c hf).2.1 (hFk k c hkl hc)
     ·by_cases hkl:k<cs.length <;> simp [hkl,E0] at hc
      exact hS.imm _ c (hFyq c (hFk k c hkl hc))
    obtain ⟨Fs',Hs',a1,a2,a3⟩:=Take.node (g1:=setP (setP g ⟨t,[]⟩ .dead) q .dead) (Fs:=Fs) (B:=fun c=>(Value.slice a (n+m) cap).ownBlock=some c) (H0:=Hs 0) (X:=.own z (n+m) cs') (v0:=.slice a (n+m) cap) hS1 hH1
     (fun c hc=>by
      by_cases hbc:(Value.slice a' n cap').ownBlock=some c
      ·have hyc:Fy c:=(hF c).2 (.inl hbc)
       refine ⟨⟨_,hFyq c hyc⟩,fun s hf=>(hFs1 s c hf).2.1 hyc,fun k hk hk'=>?_,hS.imm _ c (hFyq c hyc)⟩
       by_cases hkl:k<cs.length <;> simp [hkl,E0] at hk'
       exact hb k c hkl hk' hbc
      ·have htc:Fs t c:=(hR0.hF c).2 ⟨hc,hbc⟩
       refine ⟨⟨_,htc⟩,fun s hf=>(hFs1 s c hf).2.2 (hS.dis _ _ _ (hFs1 s c hf).1 htc),fun k hk hk'=>?_,hS.imm _ c htc⟩
       by_cases hkl:k<cs.length <;> simp [hkl,E0] at hk'
       exact hq (hS.dis _ _ _ (hFyq c (hFk k c hkl hk')) htc))
     (fun c hc=>by
      rcases hc with ⟨s,h⟩ | ⟨k,hk,h⟩
      ·exact .inl ⟨s,(hFs1 s c h).1⟩
      ·by_cases hkl:k<cs.length <;> simp [hkl,E0] at h
       exact .inl ⟨_,hFyq c (hFk k c hkl h)⟩)
     hH.tail (R.headOff hH) ih1 ih2 (fun Hs'' b1 b2 b3=>by
      refine .own hR0.hov (by rw [t1.length]; simp [hl,hR0.hl]) (fun k u hu=>?_) b1 b2 (fun k c hk hc h=>b3 k c hk hc h) fun c=>Iff.rfl
      by_cases hkl:k<us'.length
      ·rw [List.getElem?_append_left hkl] at hu; exact h1' k u hu
      ·rw [List.getElem?_append_right (by omega)] at hu; exact hR0.h1 _ u hu)
    exact ⟨Fs',Hs',a1,a2,fun c hc=>AllB.head (a3 c hc)⟩
 | @pend2 g g1 g' z n m t n2 m2 t2 q cs new new2 cs' xs xs' ht ht2 hn hp hq hq2 htt t1 _ ih1 ih2 =>
  subst hn
  intro Fs vs Hs hS hH
  cases vs with
  | nil=>have:=hH.len; simp at this
  | cons v vs =>
   obtain ⟨a,N',cap,h1,rfl,h3⟩:=(hH.rel 0 _ v rfl rfl).inv_brw
   obtain ⟨v0,hv0,hR0⟩:=hS.rel t _ ht
   simp only [valAt,hv0,walk,Option.some.injEq] at h1
   subst h1
   obtain ⟨bv,e,e2,us,news,hR0⟩:=hR0.isPend
   have hN:N'=n2+m2+m:=by
    obtain ⟨_,hh⟩:=hR0.hov
    rcases hh with ⟨hh,h0⟩ | ⟨_,_,_,hh,_⟩
    ·cases hh; omega
    ·cases hh; rfl
   subst hN
   obtain ⟨v2,hv2,hR2⟩:=hS.rel t2 _ ht2
   obtain ⟨bv2,e',e2',us2,news2,hR2⟩:=hR2.isPend
   have hbv:bv=v2:=by
    obtain ⟨a1,cap1,h5,rfl⟩:=hR0.hbv
    simp only [valAt,hv2,walk,Option.some.injEq] at h5
    exact h5.symm
   subst hbv
   have hus:us=us2++news2:=ownsRow_det hR0.hob hR2.hov
   subst hus
   obtain ⟨FsK1,hSK1,hk11,hk12⟩:=hS.kill t
   obtain ⟨FsK,hSK,hk1,hk2⟩:=hSK1.kill t2
   have hpK:atP (setP (setP g ⟨t,[]⟩ .dead) ⟨t2,[]⟩ .dead) q=some (.own z n2 cs):=by rw [setP_other (by simpa using hq2),setP_other (by simpa using hq)]; exact hp
   obtain ⟨vp,Fy,hvp,hRp,hFy,rebuild⟩:=hSK.part hpK (by simp)
   obtain ⟨a',cap',h4,rfl⟩:=hR2.hbv
   rw [h4] at hvp
   cases hvp
   obtain ⟨Fs1,hS1,hr1,hr2⟩:=rebuild .dead E0 (.dead fun _ h=>h) (fun _ h=>h.elim) (fun _ h=>h.elim) (fun _ _ _ h=>h.elim) (fun _ h=>by cases h)
   have hFyq:∀ c,Fy c->Fs q.root c:=fun c hc=>by have:=hFy c hc; rwa [hk2 _ hq2,hk12 _ hq] at this
   have hFs1:∀ s c,Fs1 s c->Fs s c/\¬ Fy c/\s≠t/\s≠t2:=by
    intro s c hc
    have hst2:s≠t2:=by
     rintro rfl
     by_cases hsq:s=q.root
     ·exact hq2 hsq.symm
     ·rw [hr2 s hsq] at hc; exact hk1 c hc
    have hst:s≠t:=by
     rintro rfl
     by_cases hsq:s=q.root
     ·exact hq hsq.symm
     ·rw [hr2 s hsq,hk2 s hst2] at hc; exact hk11 c hc
    by_cases hs:s=q.root
    ·subst hs
     rcases (hr1 c).1 hc with h | h
     ·exact ⟨by have:=h.1; rwa [hk2 _ hq2,hk12 _ hq] at this,h.2,hst,hst2⟩
     ·exact h.elim
    ·rw [hr2 s hs,hk2 s hst2,hk12 s hst] at hc
     exact ⟨hc,fun hyc=>hs (hS.dis _ _ _ hc (hFyq c hyc)),hst,hst2⟩
   cases hRp with
   | ref hx=>simp [AV.isRef] at hx
   | @own _ _ _ _ e3 us' Fk _ ho hl h1' hr hd hb hF =>
    have:=ownsRow_det ho hR2.hob
    subst this
    have hFk:∀ k c,k<cs.length->Fk k c->Fy c:=fun k c hk hc=>(hF c).2 (.inr ⟨k,hk,hc⟩)
    have hH1:Hand w I (RefAt w T) Fs1 (cs++new2++new) (us'++news2++news) (fun k=>if k<cs.length then Fk k else E0):=by
     have l2:=hR2.hl
     have l0:=hR0.hl
     refine ⟨by simp [hl,l2,l0],fun k x u hx hu=>?_,fun j k c hj hk hc hc'=>?_,fun k s c hk hc hf=>?_,fun k c hk hc=>?_⟩
     ·rw [List.append_assoc] at hx hu
      by_cases hkl:k<cs.length
      ·rw [List.getElem?_append_left hkl] at hx
       rw [List.getElem?_append_left (by omega)] at hu
       simpa [hkl] using hr k x u hx hu
      ·rw [List.getElem?_append_right (by omega)] at hx
       rw [List.getElem?_append_right (by omega),<- hl] at hu
       simp only [hkl,if_false]
       by_cases hkl2:k - cs.length<new2.length
       ·rw [List.getElem?_append_left hkl2] at hx
        rw [List.getElem?_append_left (by omega)] at hu
        exact hR2.hr _ x u hx hu
       ·rw [List.getElem?_append_right (by omega)] at hx
        rw [List.getElem?_append_right (by omega),<- l2] at hu
        exact hR0.hr _ x u hx hu
     ·by_cases hjl:j<cs.length <;> by_cases hkl:k<cs.length <;> simp [hjl,hkl,E0] at hc hc'
      exact hd j k c hjl hkl hc hc'
     ·by_cases hkl:k<cs.length <;> simp [hkl,E0] at hc
      exact (hFs1 s c hf).2.1 (hFk k c hkl hc)
     ·by_cases hkl:k<cs.length <;> simp [hkl,E0] at hc
      exact hS.imm _ c (hFyq c (hFk k c hkl hc))
    have slotB:∀ s c,Fs s c->s=t\/s=t2->(∃ s,Fs s c)/\(∀ s,¬ Fs1 s c)/\(∀ k,k<(cs++new2++new).length->¬ (if k<cs.length then Fk k else E0) c)/\¬ I c:=by
     intro s c hc hs
     refine ⟨⟨_,hc⟩,fun s' hf=>?_,fun k hk hk'=>?_,hS.imm _ c hc⟩
     ·obtain ⟨f1,_,f2,f3⟩:=hFs1 s' c hf
      have:=hS.dis _ _ _ f1 hc
      rcases hs with rfl | rfl
      ·exact f2 this
      ·exact f3 this
     ·by_cases hkl:k<cs.length <;> simp [hkl,E0] at hk'
      have:=hS.dis _ _ _ (hFyq c (hFk k c hkl hk')) hc
      rcases hs with rfl | rfl
      ·exact hq this
      ·exact hq2 this
    obtain ⟨Fs',Hs',a1,a2,a3⟩:=Take.node (g1:=setP (setP (setP g ⟨t,[]⟩ .dead) ⟨t2,[]⟩ .dead) q .dead) (Fs:=Fs) (B:=fun c=>(Value.slice a (n2+m2+m) cap).ownBlock=some c) (H0:=Hs 0) (X:=.own z (n2+m2+m) cs') (v0:=.slice a (n2+m2+m) cap) hS1 hH1
     (fun c hc=>by
      by_cases hbc:bv.ownBlock=some c
      ·by_cases hbc2:(Value.slice a' n2 cap').ownBlock=some c
       ·have hyc:Fy c:=(hF c).2 (.inl hbc2)
        refine ⟨⟨_,hFyq c hyc⟩,fun s hf=>(hFs1 s c hf).2.1 hyc,fun k hk hk'=>?_,hS.imm _ c (hFyq c hyc)⟩
        by_cases hkl:k<cs.length <;> simp [hkl,E0] at hk'
        exact hb k c hkl hk' hbc2
       ·exact slotB t2 c ((hR2.hF c).2 ⟨hbc,hbc2⟩) (.inr rfl)
      ·exact slotB t c ((hR0.hF c).2 ⟨hc,hbc⟩) (.inl rfl))
     (fun c hc=>by
      rcases hc with ⟨s,h⟩ | ⟨k,hk,h⟩
      ·exact .inl ⟨s,(hFs1 s c h).1⟩
      ·by_cases hkl:k<cs.length <;> simp [hkl,E0] at h
       exact .inl ⟨_,hFyq c (hFk k c hkl h)⟩)
     hH.tail (R.headOff hH) ih1 ih2 (fun Hs'' b1 b2 b3=>by
      refine .own hR0.hov (by rw [t1.length]; simp [hl,hR2.hl,hR0.hl]) (fun k u hu=>?_) b1 b2 (fun k c hk hc h=>b3 k c hk hc h) fun c=>Iff.rfl
      rw [List.append_assoc] at hu
      by_cases hkl:k<us'.length
      ·rw [List.getElem?_append_left hkl] at hu; exact h1' k u hu
      ·rw [List.getElem?_append_right (by omega)] at hu
       by_cases hkl2:k - us'.length<news2.length
       ·rw [List.getElem?_append_left hkl2] at hu; exact hR2.h1 _ u hu
       ·rw [List.getElem?_append_right (by omega)] at hu; exact hR0.h1 _ u hu)
    exact ⟨Fs',Hs',a1,a2,fun c hc=>AllB.head (a3 c hc)⟩
 | @obj g g1 g' p cs cs' xs xs' hp t1 _ ih1 ih2 =>
  intro Fs vs Hs hS hH
  cases vs with
  | nil=>have:=hH.len; simp at this
  | cons v vs =>
   obtain ⟨vp,Fy,hvp,hRp,hFy,rebuild⟩:=hS.part hp (by simp)
   obtain ⟨u,ad,h1,h2,rfl⟩:=(hH.rel 0 _ v rfl rfl).inv_ptr
   rw [h1] at hvp
   cases hvp
   obtain ⟨Fs1,hS1,hr1,hr2⟩:=rebuild .dead E0 (.dead fun _ h=>h) (fun _ h=>h.elim) (fun _ h=>h.elim) (fun _ _ _ h=>h.elim) (fun _ h=>by cases h)
   have hFs1:∀ t c,Fs1 t c->Fs t c/\¬ Fy c:=by
    intro t c hc
    by_cases ht:t=p.root
    ·subst ht
     rcases (hr1 c).1 hc with h | h
     ·exact h
     ·exact h.elim
    ·rw [hr2 t ht] at hc
     exact ⟨hc,fun hyc=>ht (hS.dis _ _ _ hc (hFy c hyc))⟩
   cases hRp with
   | ref hx=>simp [AV.isRef] at hx
   | @obj _ b e arr Fk _ ho hl h1' hr hd hb hF hs =>
    simp only [addrOf,Option.some.injEq] at h2
    subst h2
    have hFk:∀ k c,k<cs.length->Fk k c->Fy c:=fun k c hk hc=>(hF c).2 (.inr ⟨k,hk,hc⟩)
    have hH1:Hand w I (RefAt w T) Fs1 cs arr.toList Fk :=
     ⟨by simp [hl],fun k x u hx hu=>hr k x u hx (by simpa using hu),hd,fun k t c hk hc hf=>(hFs1 t c hf).2 (hFk k c hk hc),fun k c hk hc=>hS.imm _ c (hFy c (hFk k c hk hc))⟩
    obtain ⟨Fs',Hs',a1,a2,a3⟩:=Take.node (g1:=setP g p .dead) (Fs:=Fs) (B:=fun c=>c=b) (H0:=Hs 0) (X:=.obj cs') (v0:=.pointer (some ⟨b,0,none⟩)) hS1 hH1
     (fun c hc=>by
      subst hc
      have hyc:Fy c:=(hF c).2 (.inl rfl)
      exact ⟨⟨_,hFy c hyc⟩,fun t hf=>(hFs1 t c hf).2 hyc,fun k hk hk'=>hb k hk hk',hS.imm _ c (hFy c hyc)⟩)
     (fun c hc=>by
      rcases hc with ⟨t,h⟩ | ⟨k,hk,h⟩
      ·exact .inl ⟨t,(hFs1 t c h).1⟩
      ·exact .inl ⟨_,hFy c (hFk k c hk h)⟩)
     hH.tail (R.headOff hH) ih1 ih2 (fun Hs'' b1 b2 b3=>by
      refine .obj ho (by rw [t1.length,hl]) h1' (fun k x u hx hu=>b1 k x u hx (by simpa using hu)) b2 (fun k hk h=>b3 k b hk h rfl) (fun c=>Iff.rfl) fun k j u hk=>hs k j u (t1.self k j hk))
    exact ⟨Fs',Hs',a1,a2,fun c hc=>AllB.head (a3 c hc)⟩
 | @mp g g1 g' p q xs xs' hp t1 _ ih1 ih2 =>
  intro Fs vs Hs hS hH
  cases vs with
  | nil=>have:=hH.len; simp at this
  | cons v vs =>
   obtain ⟨vp,Fy,hvp,hRp,hFy,rebuild⟩:=hS.part hp (by simp)
   have hm:=hH.rel 0 _ v rfl rfl
   cases hm with
   | ref _ hm _ =>
   obtain ⟨bb,h1,rfl⟩:=hm
   rw [h1] at hvp
   cases hvp
   obtain ⟨Fs1,hS1,hr1,hr2⟩:=rebuild .dead E0 (.dead fun _ h=>h) (fun _ h=>h.elim) (fun _ h=>h.elim) (fun _ _ _ h=>h.elim) (fun _ h=>by cases h)
   have hFs1:∀ t c,Fs1 t c->Fs t c/\¬ Fy c:=by
    intro t c hc
    by_cases ht:t=p.root
    ·subst ht
     rcases (hr1 c).1 hc with h | h
     ·exact h
     ·exact h.elim
    ·rw [hr2 t ht] at hc
     exact ⟨hc,fun hyc=>ht (hS.dis _ _ _ hc (hFy c hyc))⟩
   cases hRp with
   | ref hx=>simp [AV.isRef] at hx
   | @mp _ b es clock _ ho hq hF =>
    have hH1:Hand w I (RefAt w T) Fs1 [] [] (fun _=>E0) :=
     ⟨rfl,fun k x u hx=>by simp at hx,fun _ _ _ _ _ h=>h.elim,fun _ _ _ _ h=>h.elim,fun _ _ _ h=>h.elim⟩
    obtain ⟨Fs',Hs',a1,a2,a3⟩:=Take.node (g1:=setP g p .dead) (Fs:=Fs) (B:=fun c=>c=b) (H0:=Hs 0) (X:=.mp q) (v0:=.map (some b)) hS1 hH1
     (fun c hc=>by
      subst hc
      have hyc:Fy c:=(hF c).2 rfl
      exact ⟨⟨_,hFy c hyc⟩,fun t hf=>(hFs1 t c hf).2 hyc,fun k hk _=>by simp at hk,hS.imm _ c (hFy c hyc)⟩)
     (fun c hc=>by
      rcases hc with ⟨t,h⟩ | ⟨k,hk,h⟩
      ·exact .inl ⟨t,(hFs1 t c h).1⟩
      ·exact h.elim)
     hH.tail (R.headOff hH) ih1 ih2 (fun Hs'' b1 b2 b3=>by
      refine .mp ho hq fun c=>⟨fun h=>h.elim id fun ⟨_,hk,_⟩=>by simp at hk,.inl⟩)
    exact ⟨Fs',Hs',a1,a2,fun c hc=>AllB.head (a3 c hc)⟩
 | @agg g g1 g' cs cs' xs xs' t1 _ ih1 ih2 =>
  intro Fs vs Hs hS hH
  cases vs with
  | nil=>have:=hH.len; simp at this
  | cons v vs =>
   have hx:=hH.rel 0 _ v rfl rfl
   have h0:=R.headOff hH
   cases hx with
   | ref hx=>simp [AV.isRef] at hx
   | @agg _ us Fk _ hl h1' hr hd hF =>
    have hFk:∀ k c,k<cs.length->Fk k c->Hs 0 c:=fun k c hk hc=>(hF c).2 ⟨k,hk,hc⟩
    obtain ⟨Fs',Hs',a1,a2,a3⟩:=Take.node (g1:=g) (Fs:=Fs) (B:=E0) (H0:=Hs 0) (X:=.agg cs') (v0:=.agg us) hS
     (⟨by simp [hl],fun k x u hx hu=>hr k x u hx (by simpa using hu),hd,fun k t c hk hc=>(h0 c (hFk k c hk hc)).1 t,fun k c hk hc=>hH.imm 0 c (by simp) (hFk k c hk hc)⟩:Hand w I (RefAt w T) Fs cs us.toList Fk)
     (fun c hc=>hc.elim)
     (fun c hc=>by
      rcases hc with h | ⟨k,hk,h⟩
      ·exact .inl h
      ·exact .inr (hFk k c hk h))
     hH.tail h0 ih1 ih2 (fun Hs'' b1 b2 b3=>by
      refine .agg (by rw [t1.length,hl]) h1' (fun k x u hx hu=>b1 k x u hx (by simpa using hu)) b2 fun c=>⟨fun h=>h.elim (fun h=>h.elim) id,.inr⟩)
    exact ⟨Fs',Hs',a1,a2,fun c hc=>AllB.head (a3 c hc)⟩
 | @tup g g1 g' cs cs' xs xs' t1 _ ih1 ih2 =>
  intro Fs vs Hs hS hH
  cases vs with
  | nil=>have:=hH.len; simp at this
  | cons v vs =>
   have hx:=hH.rel 0 _ v rfl rfl
   have h0:=R.headOff hH
   cases hx with
   | ref hx=>simp [AV.isRef] at hx
   | @tup _ us Fk _ hl hr hd hF =>
    have hFk:∀ k c,k<cs.length->Fk k c->Hs 0 c:=fun k c hk hc=>(hF c).2 ⟨k,hk,hc⟩
    obtain ⟨Fs',Hs',a1,a2,a3⟩:=Take.node (g1:=g) (Fs:=Fs) (B:=E0) (H0:=Hs 0) (X:=.tup cs') (v0:=.tuple us) hS
     (⟨by simp [hl],fun k x u hx hu=>hr k x u hx (by simpa using hu),hd,fun k t c hk hc=>(h0 c (hFk k c hk hc)).1 t,fun k c hk hc=>hH.imm 0 c (by simp) (hFk k c hk hc)⟩:Hand w I (RefAt w T) Fs cs us.toList Fk)
     (fun c hc=>hc.elim)
     (fun c hc=>by
      rcases hc with h | ⟨k,hk,h⟩
      ·exact .inl h
      ·exact .inr (hFk k c hk h))
     hH.tail h0 ih1 ih2 (fun Hs'' b1 b2 b3=>by
      refine .tup (by rw [t1.length,hl]) (fun k x u hx hu=>b1 k x u hx (by simpa using hu)) b2 fun c=>⟨fun h=>h.elim (fun h=>h.elim) id,.inr⟩)
    exact ⟨Fs',Hs',a1,a2,fun c hc=>AllB.head (a3 c hc)⟩
end
end Go.Own
namespace Go.Own
open Go
set_option linter.unusedSectionVars false
variable [TB]
inductive RKp (φ:AV->Prop):AV->Prop
 | nr {x:AV}(h:NR x):RKp φ x
 | ref {x:AV}(hx:x.isRef=true) (h:φ x):RKp φ x
 | own {z n:Nat}{cs:List AV}(h:∀ x∈cs,RKp φ x):RKp φ (.own z n cs)
 | obj {cs:List AV}(h:∀ x∈cs,RKp φ x):RKp φ (.obj cs)
 | agg {cs:List AV}(h:∀ x∈cs,RKp φ x):RKp φ (.agg cs)
 | tup {cs:List AV}(h:∀ x∈cs,RKp φ x):RKp φ (.tup cs)
 | clo {fn:Fn}{a b:List AV}(h1:∀ x∈a,RKp φ x) (h2:∀ x∈b,RKp φ x):RKp φ (.clo fn a b)
def refPlace:AV->Option Place
 | .ptr p _=>some p
 | .brw _ p _=>some p
 | .sub _ p _ _=>some p
 | .pend _ p _ _ _=>some p
 | .mref p=>some p
 | _=>none
def Clear (p:Place) (k m:Nat) (r:AV):Prop:=∀ q,refPlace r=some q->q.root=p.root->∀ j r',q.path=p.path++j::r'->j<k\/k+m<=j
def splice {α:Type}(l:List α) (k:Nat) (c:List α):List α:=l.take k++c++l.drop (k+c.length)
theorem splice_length {α:Type}{l:List α}{k:Nat}{c:List α}(h:k+c.length<=l.length):(splice l k c).length=l.length:=by
 simp [splice]; omega
theorem splice_get {α:Type}{l:List α}{k:Nat}{c:List α}(h:k+c.length<=l.length) (j:Nat):(splice l k c)[j]?=if k<=j/\j<k+c.length then c[j - k]? else l[j]?:=by
 unfold splice
 rw [List.append_assoc]
 by_cases h1:j<k
 ·rw [List.getElem?_append_left (by simp; omega),List.getElem?_take,if_pos h1,if_neg (by omega)]
 ·rw [List.getElem?_append_right (by simp; omega)]
  have:(l.take k).length=k:=by simp; omega
  rw [this]
  by_cases h2:j<k+c.length
  ·rw [List.getElem?_append_left (by omega),if_pos ⟨by omega,h2⟩]
  ·rw [List.getElem?_append_right (by omega),List.getElem?_drop,if_neg (by omega)]
   congr 1; omega
theorem splice_take {α:Type}{l:List α}{k:Nat}{c:List α}{m:Nat}(h:k+c.length<=m) (hm:m<=l.length):(splice l k c).take m=splice (l.take m) k c:=by
 have h1:k+c.length<=(l.take m).length:=by rw [List.length_take]; omega
 apply List.ext_getElem?
 intro j
 rw [List.getElem?_take,splice_get h1,splice_get (l:=l) (by omega),List.getElem?_take]
 by_cases hj:j<m
 ·rw [if_pos hj,if_pos hj]
 ·rw [if_neg hj,if_neg hj,if_neg (by omega)]
def AV.splice (x:AV) (k:Nat) (c:List AV):AV :=
 match x with
 | .own z n cs=>.own z n (Own.splice cs k c)
 | .obj cs=>.obj (Own.splice cs k c)
 | x=>x
section
variable {w:World}{I:BSet}{T:Array Value}{g:Gst}{Fs:Nat->BSet}
theorem R.rkp {ρ:AV->Value->Prop}{φ:AV->Prop}{x:AV}{v:Value}{F:BSet}(h:R w I ρ x v F):RKp φ x->R w I (fun r u=>ρ r u/\φ r) x v F:=by
 induction h with
 | lit h hF=>exact fun _=>.lit h hF
 | nils hF=>exact fun _=>.nils hF
 | dead hF=>exact fun _=>.dead hF
 | slf hF=>exact fun _=>.slf hF
 | @ref x _ _ hx h hF =>
  intro hk
  refine .ref hx ⟨h,?_⟩ hF
  cases hk with
  | ref _ h=>exact h
  | nr h=>cases h <;> simp [AV.isRef] at hx
  | _=>simp [AV.isRef] at hx
 | imm0 hF=>exact fun _=>.imm0 hF
 | mp ho hp hF=>exact fun _=>.mp ho hp hF
 | brow ho h1 hF=>exact fun _=>.brow ho h1 hF
 | imp hF hI ho hp=>exact fun _=>.imp hF hI ho hp
 | imm hF hcap hI hs hl h1 hc hr ih =>
  intro hk
  cases hk with
  | ref hx=>simp [AV.isRef] at hx
  | nr h=>cases h with | imm h=>exact .imm hF hcap hI hs hl h1 hc fun k x hx=>ih k x hx (.nr (h x (List.mem_of_getElem? hx)))
 | iptr hF hI hs h1 hc hr ih =>
  intro hk
  cases hk with
  | ref hx=>simp [AV.isRef] at hx
  | nr h=>cases h with | iptr h=>exact .iptr hF hI hs h1 hc fun k x hx=>ih k x hx (.nr (h x (List.mem_of_getElem? hx)))
 | own ho hl h1 hr hd hb hF ih =>
  intro hk
  refine .own ho hl h1 (fun k x u hx hu=>ih k x u hx hu ?_) hd hb hF
  cases hk with
  | ref hx=>simp [AV.isRef] at hx
  | nr h=>cases h with | own h=>exact .nr (h x (List.mem_of_getElem? hx))
  | own h=>exact h x (List.mem_of_getElem? hx)
 | obj ho hl h1 hr hd hb hF hs ih =>
  intro hk
  refine .obj ho hl h1 (fun k x u hx hu=>ih k x u hx hu ?_) hd hb hF hs
  cases hk with
  | ref hx=>simp [AV.isRef] at hx
  | nr h=>cases h with | obj h=>exact .nr (h x (List.mem_of_getElem? hx))
  | obj h=>exact h x (List.mem_of_getElem? hx)
 | agg hl h1 hr hd hF ih =>
  intro hk
  refine .agg hl h1 (fun k x u hx hu=>ih k x u hx hu ?_) hd hF
  cases hk with
  | ref hx=>simp [AV.isRef] at hx
  | nr h=>cases h with | agg h=>exact .nr (h x (List.mem_of_getElem? hx))
  | agg h=>exact h x (List.mem_of_getElem? hx)
 | tup hl hr hd hF ih =>
  intro hk
  refine .tup hl (fun k x u hx hu=>ih k x u hx hu ?_) hd hF
  cases hk with
  | ref hx=>simp [AV.isRef] at hx
  | nr h=>cases h with | tup h=>exact .nr (h x (List.mem_of_getElem? hx))
  | tup h=>exact h x (List.mem_of_getElem? hx)
 | @clo fn first caps v1 v2 F hF h1 h2 hr1 hr2 ih1 ih2 =>
  intro hk
  have:(∀ x∈first,RKp φ x)/\∀ x∈caps,RKp φ x:=by
   cases hk with
   | ref hx=>simp [AV.isRef] at hx
   | nr h=>cases h with | clo h1 h2=>exact ⟨fun x hx=>.nr (h1 x hx),fun x hx=>.nr (h2 x hx)⟩
   | clo h1 h2=>exact ⟨h1,h2⟩
  exact .clo hF h1 h2 (fun k x u hx hu=>ih1 k x u hx hu (this.1 x (List.mem_of_getElem? hx))) (fun k x u hx hu=>ih2 k x u hx hu (this.2 x (List.mem_of_getElem? hx)))
theorem SRc.store (hS:SRc w I T g Fs) {p:Place}{nd:AV}{z n:Nat}{cs:List AV}(hp:atP g p=some nd) (hnd:nd=.own z n cs\/nd=.obj cs) {k:Nat}{cs':List AV}(hk:k+cs'.length<=cs.length)
  {us':List Value}{Hs:Nat->BSet}(hH:Hand w I (RefAt w T) Fs cs' us' Hs) (hnr:∀ x∈cs',NR x) (hns:nd=.obj cs->NoSelf cs') (hone:∀ (j:Nat) (u:Value),us'[j]?=some u->u.oneCell'=true)
  {g2:Gst}(hg2:∀ t x,g2 t=some x->setP g p (nd.splice k cs') t=some x)
  (hrk:∀ t x,g2 t=some x->∀ y,g t=some y->RKp (fun r=>RefOk g r/\Clear p k cs'.length r/\RefOk g2 r) y) (hnp:∀ t z q n m new,g2 t≠some (.pend z q n m new)) (hroot:g2 p.root≠none) {b:Nat}{v:Value}
  (hv:valAt w T p=some v) (hb:addrOf v=some ⟨b,0,none⟩) {e:TypeId}{arr:Array Value}(harr:w.heap[b]?=some (.cells arr e (0,0))) :
  ∃ Fs',SR (w.setRow b (splice arr.toList k us').toArray) I T g2 Fs'/\∀ t c,Fs' t c->Fs t c\/∃ j,j<cs'.length/\Hs j c:=by
 have notPend:∀ z q n m new,nd≠.pend z q n m new:=by rcases hnd with rfl | rfl <;> simp
 have hlen:=hH.len
 have w'o:∀ c,c≠b->(w.setRow b (splice arr.toList k us').toArray).heap[c]?=w.heap[c]?:=fun c hc=>setRow_other w b c _ hc
 have w'b:(w.setRow b (splice arr.toList k us').toArray).heap[b]?=some (.cells (splice arr.toList k us').toArray e (0,0)):=setRow_heap w b arr _ e (0,0) harr
 have w's:(w.setRow b (splice arr.toList k us').toArray).heap.size=w.heap.size:=by simp
 generalize hw':w.setRow b (splice arr.toList k us').toArray=w' at *
 -- the slot of the node
 obtain ⟨x0,hx0⟩:∃ x0,g p.root=some x0:=by
  unfold atP at hp
  cases hx:g p.root with
  | none=>rw [hx] at hp; cases hp
  | some x=>exact ⟨x,rfl⟩
 have hat0:x0.at p.path=some nd:=by simpa [atP,hx0] using hp
 obtain ⟨v0,hv0,hR0⟩:=hS.rel _ _ hx0
 have hR0':=hR0.isTree (by rintro z q n m new rfl; exact notPend _ _ _ _ _ (AV.at_pend hat0).2)
 have hk0:RKp (fun r=>RefOk g r/\Clear p k cs'.length r/\RefOk g2 r) x0:=by
  cases h2:g2 p.root with
  | none=>exact absurd h2 hroot
  | some y=>exact hrk _ _ h2 _ hx0
 let ρ1:AV->Value->Prop:=fun r u=>RefAt w T r u/\RefOk g r/\Clear p k cs'.length r/\RefOk g2 r
 have hR1:R w I ρ1 x0 v0 (Fs p.root):=hR0'.rkp hk0
 obtain ⟨vy,Fy,hw,hRy,hFy,wk,rebuild⟩:=R.focus p.path hR1 hat0
 have hvy:vy=v:=by simp only [valAt,hv0,hw,Option.some.injEq] at hv; exact hv
 subst hvy
 have hbF:Fy b:=hRy.node_block (z:=z) (n:=n) hnd hb
 have same:∀ t c,Fs t c->c≠b->w'.heap[c]?=w.heap[c]?:=fun _ c _ hc=>w'o c hc
 have hIb:∀ c,I c->w'.heap[c]?=w.heap[c]?:=fun c hc=>w'o c fun e=>hS.imm _ b (hFy b hbF) (e ▸ hc)
 have hother:∀ t,t≠p.root->¬ Fs t b:=fun t ht h=>ht (hS.dis _ _ _ h (hFy b hbF))
 -- ways that are clear of the cells
 obtain ⟨wk1,wk2⟩:=wk w' fun c hc hn=>w'o c fun e=>hn (e ▸ hbF)
 have kid:∀ (ρ':AV->Value->Prop),(∀ x v,ρ1 x v->ρ' x v)->(∃ F',R w' I ρ' (nd.splice k cs') vy F'/\∀ c,F' c->Fy c\/∃ j,j<cs'.length/\Hs j c)/\∀ j r' y,(j<k\/k+cs'.length<=j)->nd.at (j::r')=some y->walk w' vy (j::r')=walk w vy (j::r'):=by
  intro ρ' hρ
  have new:∀ (j:Nat) (x:AV) (u:Value),cs'[j]?=some x->us'[j]?=some u->R w' I ρ' x u (Hs j):=by
   intro j x u hx hu
   have hj:j<cs'.length:=(List.getElem?_eq_some_iff.1 hx).1
   have:=(hH.rel j x u hx hu).nr (ρ':=ρ') (hnr x (List.mem_of_getElem? hx))
   exact this.frame hIb (fun _ h=>h) (fun _ _ h=>h) fun c hc=>w'o c fun e=>hH.off j p.root b hj (e ▸ hc) (hFy b hbF)
  rcases hnd with rfl | rfl
  ·cases hRy with
   | ref hx=>simp [AV.isRef] at hx
   | @own _ _ _ _ e' us Fk _ ho hl h1 hr hd hbb hF =>
    obtain ⟨hus,hh⟩:=ho
    rcases hh with ⟨rfl,_⟩ | ⟨b',cap,cur,rfl,r1,r2,r3,r4,r5,r6⟩
    ·simp [addrOf] at hb
    ·simp only [addrOf,Option.some.injEq,Addr.mk.injEq,and_true] at hb
     subst hb
     rw [harr] at r2
     cases r2
     have hcur:n * z<=arr.toList.length:=by
      rw [<- hus,<- r6,List.length_take] ; simp; omega
     have husl:us.length=cs.length:=hl.symm
     have ho':w'.ownsRow 0 e z (.slice (some ⟨b',0,none⟩) n cap) n (splice us k us'):=by
      refine ⟨by rw [splice_length (by omega),hus],.inr ⟨b',cap,_,rfl,r1,w'b,r3,r4,?_,?_⟩⟩
      ·rw [List.size_toArray,splice_length (by omega),Array.length_toList,r5]
      ·show (splice arr.toList k us').take (n * z)=_
       rw [splice_take (by omega) hcur,r6]
     have hFkb:∀ j,j<cs.length->¬ Fk j b':=fun j hj h=>hbb j b' hj h rfl
     have hFk:∀ j c,j<cs.length->Fk j c->Fs p.root c:=fun j c hj hc=>hFy c ((hF c).2 (.inr ⟨j,hj,hc⟩))
     refine ⟨⟨_,.own (Fs:=fun j=>if k<=j/\j<k+cs'.length then Hs (j - k) else Fk j) ho' (by rw [splice_length hk,splice_length (by omega),hl]) (fun j u hu=>?_) (fun j x u hx hu=>?_) (fun i j c hi hj hc hc'=>?_) (fun j c hj hc hvc=>?_) (fun c=>Iff.rfl),fun c hc=>?_⟩,fun j r' y hj hy=>?_⟩
     ·rw [splice_get (by omega)] at hu
      split at hu
      ·exact hone _ u hu
      ·exact h1 j u hu
     ·rw [splice_get hk] at hx
      rw [splice_get (by omega),<- hlen] at hu
      by_cases hjk:k<=j/\j<k+cs'.length
      ·rw [if_pos hjk] at hx hu
       simpa [hjk] using new (j - k) x u hx hu
      ·rw [if_neg hjk] at hx hu
       have hjl:j<cs.length:=(List.getElem?_eq_some_iff.1 hx).1
       rw [if_neg hjk]
       exact (hr j x u hx hu).frame hIb (fun _ h=>h) hρ fun c hc=>w'o c fun e=>hFkb j hjl (e ▸ hc)
     ·rw [splice_length hk] at hi hj
      by_cases h1:k<=i/\i<k+cs'.length <;> by_cases h2:k<=j/\j<k+cs'.length <;> simp only [h1,h2,if_false] at hc hc'
      ·have:=hH.dis (i - k) (j - k) c (by omega) (by omega) (by simpa using hc) (by simpa using hc')
       omega
      ·exact absurd (hFk j c hj hc') (hH.off (i - k) _ c (by omega) (by simpa using hc))
      ·exact absurd (hFk i c hi hc) (hH.off (j - k) _ c (by omega) (by simpa using hc'))
      ·exact hd i j c hi hj hc hc'
     ·rw [splice_length hk] at hj
      by_cases h1:k<=j/\j<k+cs'.length
      ·rw [if_pos h1] at hc
       simp only [Value.ownBlock,Option.some.injEq] at hvc
       subst hvc
       exact hH.off (j - k) p.root b' (by omega) hc (hFy b' hbF)
      ·rw [if_neg h1] at hc; exact hbb j c hj hc hvc
     ·rcases hc with hc | ⟨j,hj,hc⟩
      ·exact .inl ((hF c).2 (.inl hc))
      ·rw [splice_length hk] at hj
       by_cases h1:k<=j/\j<k+cs'.length
       ·rw [if_pos h1] at hc; exact .inr ⟨j - k,by omega,hc⟩
       ·rw [if_neg h1] at hc; exact .inl ((hF c).2 (.inr ⟨j,hj,hc⟩))
     ·obtain ⟨c,hkc,hc⟩:=AV.at_cons hy
      simp only [AV.kids] at hkc
      have hjl:j<cs.length:=(List.getElem?_eq_some_iff.1 hkc).1
      have hu:us[j]?=some us[j]:=List.getElem?_eq_getElem (by omega)
      have hch:child w (.slice (some ⟨b',0,none⟩) n cap) j=some us[j]:=by
       refine ownsRow_child (e:=e) (z:=z) (n:=n) (us:=us) ⟨hus,.inr ⟨b',cap,arr,rfl,r1,harr,r3,r4,r5,r6⟩⟩ hu
      have hch':child w' (.slice (some ⟨b',0,none⟩) n cap) j=some us[j]:=by
       refine ownsRow_child ho' ?_
       rw [splice_get (by omega),if_neg (by omega)]; exact hu
      have:=R.walk_frame (w':=w') r' (hr j c _ hkc hu) hc fun c hc=>w'o c fun e=>hFkb j hjl (e ▸ hc)
      simp [walk,hch,hch',this]
  ·cases hRy with
   | ref hx=>simp [AV.isRef] at hx
   | @obj _ b' e' arr' Fk _ ho hl h1 hr hd hbb hF hs =>
    simp only [addrOf,Option.some.injEq,Addr.mk.injEq,and_true] at hb
    subst hb
    rw [harr] at ho
    cases ho
    have hal:cs.length=arr.toList.length:=by simp [hl]
    have hFk:∀ j c,j<cs.length->Fk j c->Fs p.root c:=fun j c hj hc=>hFy c ((hF c).2 (.inr ⟨j,hj,hc⟩))
    refine ⟨⟨_,.obj (Fs:=fun j=>if k<=j/\j<k+cs'.length then Hs (j - k) else Fk j) w'b (by rw [splice_length hk,List.size_toArray,splice_length (by omega),hal]) (fun j u hu=>?_) (fun j x u hx hu=>?_) (fun i j c hi hj hc hc'=>?_) (fun j hj hc=>?_) (fun c=>Iff.rfl) (fun i j u hi hu=>?_),fun c hc=>?_⟩,fun j r' y hj hy=>?_⟩
    ·rw [List.getElem?_toArray,splice_get (by omega)] at hu
     split at hu
     ·exact hone _ u hu
     ·exact h1 j u (by simpa using hu)
    ·rw [splice_get hk] at hx
     rw [List.getElem?_toArray,splice_get (by omega),<- hlen] at hu
     by_cases hjk:k<=j/\j<k+cs'.length
     ·rw [if_pos hjk] at hx hu
      simpa [hjk] using new (j - k) x u hx hu
     ·rw [if_neg hjk] at hx hu
      have hjl:j<cs.length:=(List.getElem?_eq_some_iff.1 hx).1
      rw [if_neg hjk]
      exact (hr j x u hx (by simpa using hu)).frame hIb (fun _ h=>h) hρ fun c hc=>w'o c fun e=>hbb j hjl (e ▸ hc)
    ·rw [splice_length hk] at hi hj
     by_cases h1:k<=i/\i<k+cs'.length <;> by_cases h2:k<=j/\j<k+cs'.length <;> simp only [h1,h2,if_false] at hc hc'
     ·have:=hH.dis (i - k) (j - k) c (by omega) (by omega) (by simpa using hc) (by simpa using hc')
      omega
     ·exact absurd (hFk j c hj hc') (hH.off (i - k) _ c (by omega) (by simpa using hc))
     ·exact absurd (hFk i c hi hc) (hH.off (j - k) _ c (by omega) (by simpa using hc'))
     ·exact hd i j c hi hj hc hc'
    ·rw [splice_length hk] at hj
     by_cases h1:k<=j/\j<k+cs'.length
     ·rw [if_pos h1] at hc
      exact hH.off (j - k) p.root b' (by omega) hc (hFy b' hbF)
     ·rw [if_neg h1] at hc; exact hbb j hj hc
    ·rw [splice_get hk] at hi
     rw [List.getElem?_toArray,splice_get (by omega),<- hlen] at hu
     by_cases hik:k<=i/\i<k+cs'.length
     ·rw [if_pos hik] at hi; exact absurd hi (hns rfl _ _)
     ·rw [if_neg hik] at hi hu; exact hs i j u hi (by simpa using hu)
    ·rcases hc with hc | ⟨j,hj,hc⟩
     ·exact .inl ((hF c).2 (.inl hc))
     ·rw [splice_length hk] at hj
      by_cases h1:k<=j/\j<k+cs'.length
      ·rw [if_pos h1] at hc; exact .inr ⟨j - k,by omega,hc⟩
      ·rw [if_neg h1] at hc; exact .inl ((hF c).2 (.inr ⟨j,hj,hc⟩))
    ·obtain ⟨c,hkc,hc⟩:=AV.at_cons hy
     simp only [AV.kids] at hkc
     have hjl:j<cs.length:=(List.getElem?_eq_some_iff.1 hkc).1
     have hu:arr[j]?=some arr[j]:=Array.getElem?_eq_getElem (by omega)
     have hch:child w (.pointer (some ⟨b',0,none⟩)) j=some arr[j]:=by simp [child,World.cell?,harr,hu]
     have hch':child w' (.pointer (some ⟨b',0,none⟩)) j=some arr[j]:=by
      have h3:(splice arr.toList k us')[j]?=some arr[j]:=by
       rw [splice_get (by omega),if_neg (by omega)]; simp
      simp [child,World.cell?,w'b,h3]
     have:=R.walk_frame (w':=w') r' (hr j c _ hkc hu) hc fun c hc=>w'o c fun e=>hbb j hjl (e ▸ hc)
     simp [walk,hch,hch',this]
 have val:∀ q y,atP g q=some y->(q.root=p.root->∀ j r',q.path=p.path++j::r'->j<k\/k+cs'.length<=j)->valAt w' T q=valAt w T q:=by
  intro q y hq hcl
  by_cases hr:q.root=p.root
  ·have hat:x0.at q.path=some y:=by simpa [atP,hr,hx0] using hq
   rcases wk2 q.path y hat with ⟨r',hr'⟩ | h
   ·have hw':walk w' v0 q.path=walk w v0 q.path:=by
     rw [hr',walk_app,walk_app,wk1,hw]
     simp only [Option.bind_some]
     cases r' with
     | nil=>rfl
     | cons j r' =>
      rw [hr',AV.at_app,hat0] at hat
      exact (kid (fun _ _=>True) (fun _ _ _=>trivial)).2 j r' y (hcl hr j r' hr') hat
    simp [valAt,hr,hv0,hw']
   ·simp [valAt,hr,hv0,h]
  ·unfold atP at hq
   cases hx:g q.root with
   | none=>rw [hx] at hq; cases hq
   | some x =>
    rw [hx] at hq
    obtain ⟨u,hu,hR⟩:=hS.rel _ _ hx
    cases hR with
    | tree hR =>
     have:=R.walk_frame (w':=w') q.path hR hq fun c hc=>w'o c fun e=>hother _ hr (e ▸ hc)
     simp [valAt,hu,this]
    | pend hR=>simp [valAt,hu,(AV.at_pend hq).1,walk]
 have slot:∀ {q:Place}{x:AV},q.path=[]->g q.root=some x->valAt w' T q=valAt w T q:=by
  intro q x hq hx
  obtain ⟨u,hu,_⟩:=hS.rel _ _ hx
  simp [valAt,hq,walk]
 have refs:∀ r u,ρ1 r u->RG w' T g2 r u:=by
  rintro r u ⟨h1,h2,h3,h4⟩
  refine ⟨?_,h4⟩
  cases r <;> simp only [RefAt,RefOk] at h1 h2 ⊢
  case ptr q j=>obtain ⟨y,hy,_⟩:=h2; rw [val q y hy (h3 q rfl)]; exact h1
  case brw z' q n' =>
   rcases h2 with ⟨_,_,h2,_⟩ | ⟨h0,_,_,_,_,h2,_⟩
   ·rw [val q _ h2 (h3 q rfl)]; exact h1
   ·rw [slot h0 h2]; exact h1
  case sub z' q lo n'=>obtain ⟨_,_,h2,_⟩:=h2; rw [val q _ h2 (h3 q rfl)]; exact h1
  case mref q=>obtain ⟨_,h2⟩:=h2; rw [val q _ h2 (h3 q rfl)]; exact h1
  case pend z' q n' m' new' =>
   rcases h2 with ⟨_,h2⟩ | ⟨h0,_,_,_,_,_,h2,_⟩
   ·rw [val q _ h2 (h3 q rfl)]; exact h1
   ·rw [slot h0 h2]; exact h1
 obtain ⟨⟨Fn,hRn,hFn⟩,_⟩:=kid (RG w' T g2) refs
 obtain ⟨F',hRF,hF'⟩:=rebuild w' I (RG w' T g2) _ Fn ⟨hIb,fun c hc hn=>w'o c fun e=>hn (e ▸ hbF),fun _ h=>h,refs⟩ hRn (fun c hc hc'=>by
  rcases hFn c hc with h | ⟨j,hj,h⟩
  ·exact h
  ·exact absurd hc' (hH.off j _ c hj h)) (fun j h=>by rcases hnd with rfl | rfl <;> simp [AV.splice] at h)
 have hF'':∀ c,F' c->Fs p.root c\/∃ j,j<cs'.length/\Hs j c:=by
  intro c hc
  rcases (hF' c).1 hc with h | h
  ·exact .inl h.1
  ·rcases hFn c h with h | h
   ·exact .inl (hFy c h)
   ·exact .inr h
 let Fs':Nat->BSet:=fun t c=>if t=p.root then F' c else g2 t≠none/\Fs t c
 have hFs':∀ t c,Fs' t c->Fs t c\/∃ j,j<cs'.length/\Hs j c:=by
  intro t c hc
  by_cases ht:t=p.root
  ·simp only [Fs',if_pos ht] at hc; rw [ht]; exact hF'' c hc
  ·simp only [Fs',if_neg ht] at hc; exact .inl hc.2
 refine ⟨Fs',⟨fun t x hx=>?_,fun t ht c hc=>?_,fun t t' c hc hc'=>?_,fun t c hc hi=>?_,fun c hc=>by have:=hS.lt c hc; omega,fun t t' z q n m new z' n' m' new' h1=>absurd h1 (hnp _ _ _ _ _ _),TB.keep hS.tb hIb fun _ h=>h⟩,hFs'⟩
 ·have hx':=hg2 t x hx
  by_cases ht:t=p.root
  ·subst ht
   have hxe:x0.setAt p.path (nd.splice k cs')=x:=by simpa [setP,hx0] using hx'
   refine ⟨v0,hv0,.tree ?_⟩
   have hFe:Fs' p.root=F':=by funext c; simp [Fs']
   rw [<- hxe,hFe]; exact hRF
  ·rw [setP_slot ht] at hx'
   obtain ⟨u,hu,hR⟩:=hS.rel t x hx'
   replace hR:=hR.isTree (by rintro z q n m new rfl; exact hnp _ _ _ _ _ _ hx)
   have hFe:Fs' t=Fs t:=by
    funext c
    exact propext ⟨fun h=>by simp only [Fs',if_neg ht] at h; exact h.2,fun h=>by simp only [Fs',if_neg ht]; exact ⟨by rw [hx]; simp,h⟩⟩
   refine ⟨u,hu,.tree ?_⟩
   rw [hFe]
   exact (hR.rkp (hrk t x hx x hx')).frame hIb (fun _ h=>h) refs fun c hc=>w'o c fun e=>hother t ht (e ▸ hc)
 ·by_cases htr:t=p.root
  ·exact hroot (htr ▸ ht)
  ·simp only [Fs',if_neg htr] at hc; exact hc.1 ht
 ·by_cases h1:t=p.root <;> by_cases h2:t'=p.root
  ·rw [h1,h2]
  ·simp only [Fs',if_pos h1] at hc; simp only [Fs',if_neg h2] at hc'
   rcases hF'' c hc with h | ⟨j,hj,h⟩
   ·exact absurd (hS.dis _ _ _ h hc'.2) (Ne.symm h2)
   ·exact absurd hc'.2 (hH.off j _ c hj h)
  ·simp only [Fs',if_neg h1] at hc; simp only [Fs',if_pos h2] at hc'
   rcases hF'' c hc' with h | ⟨j,hj,h⟩
   ·exact absurd (hS.dis _ _ _ hc.2 h) h1
   ·exact absurd hc.2 (hH.off j _ c hj h)
  ·simp only [Fs',if_neg h1] at hc; simp only [Fs',if_neg h2] at hc'
   exact hS.dis _ _ _ hc.2 hc'.2
 ·rcases hFs' t c hc with h | ⟨j,hj,h⟩
  ·exact hS.imm _ c h hi
  ·exact hH.imm j c hj h hi
end
end Go.Own
namespace Go.Own
open Go
set_option linter.unusedSectionVars false
variable [TB]
section
variable {P:Program}{w:World}{I:BSet}{T:Array Value}{g:Gst}{Fs:Nat->BSet}
theorem View.soundC (h:SRc w I T g Fs) {x x':AV}(hv:View g x x'):∀ {v:Value}{F:BSet},R w I (RefAt w T) x v F->(∀ c,F c->∃ t,Fs t c)->∀ ρ',R w (fun c=>I c\/∃ t,Fs t c) ρ' x' v E0:=by
 induction hv with
 | nilI =>
  intro v F hR hF ρ'
  have:=hR.inv_nils
  subst this
  exact .imm0 fun _ h=>h
 | mp =>
  intro v F hR hF ρ'
  cases hR with
  | ref hx=>simp [AV.isRef] at hx
  | mp ho hp hb=>exact .imp (fun _ h=>h) (.inr (hF _ ((hb _).2 rfl))) ho hp
 | mref hp =>
  intro v F hR hF ρ'
  cases hR with
  | ref _ hr _ =>
   obtain ⟨b,hb,rfl⟩:=hr
   obtain ⟨v',Fy,hv',hRy,hFy,_⟩:=h.part hp (by simp)
   rw [hb] at hv'
   cases hv'
   cases hRy with
   | ref hx=>simp [AV.isRef] at hx
   | mp ho hp hb=>exact .imp (fun _ h=>h) (.inr ⟨_,hFy _ ((hb _).2 rfl)⟩) ho hp
 | self hn h1 h2 h3 h4 h5 =>
  intro v F hR hF ρ'
  refine ((hR.nr hn).moreI fun c hc=>.inl hc).empty ?_
  cases hR with
  | mp=>exact absurd rfl (h5.1 _)
  | brow=>exact absurd rfl (h5.2 _ _)
  | lit _ hF | nils hF | dead hF | slf hF | ref _ _ hF | imm0 hF | imm hF | iptr hF | clo hF | imp hF=>exact hF
  | own=>exact absurd rfl (h1 _ _ _)
  | obj=>exact absurd rfl (h2 _)
  | agg=>exact absurd rfl (h3 _)
  | tup=>exact absurd rfl (h4 _)
 | @agg cs cs' hl _ ih =>
  intro v F hR hF ρ'
  cases hR with
  | ref hx=>simp [AV.isRef] at hx
  | @agg _ vs Fk _ hl' h1 hr hd hFF =>
   refine .agg (Fs:=fun _=>E0) (by rw [hl,hl']) h1 (fun k y u hy hu=>?_) (fun _ _ _ _ _ h=>h.elim) (fun c=>⟨fun h=>h.elim,fun ⟨_,_,h⟩=>h⟩)
   have hk:k<cs.length:=by rw [<- hl]; exact (List.getElem?_eq_some_iff.1 hy).1
   have hx:=List.getElem?_eq_getElem hk
   exact ih k _ y hx hy (hr k _ u hx hu) (fun c hc=>hF c ((hFF c).2 ⟨k,hk,hc⟩)) ρ'
 | @clo fn cs cs' hl _ ih =>
  intro v F hR hF ρ'
  cases hR with
  | ref hx=>simp [AV.isRef] at hx
  | @clo _ _ _ v1 v2 _ hF0 h1 h2 hr1 hr2 =>
   refine .clo (fun _ h=>h) h1 (by rw [hl,h2]) (fun k x u hx=>by simp at hx) (fun k y u hy hu=>?_)
   have hk:k<cs.length:=by rw [<- hl]; exact (List.getElem?_eq_some_iff.1 hy).1
   have hx:=List.getElem?_eq_getElem hk
   exact ih k _ y hx hy (hr2 k _ u hx hu) (fun c hc=>hc.elim) ρ'
 | @own z n cs cs' hl _ ih =>
  intro v F hR hF ρ'
  obtain ⟨a,cap,us,Fk,rfl,hn,hlen,ha,hc⟩:=hR.ownCells
  cases a with
  | none =>
   have hcs:cs=[]:=by
    cases cs with
    | nil=>rfl
    | cons c cs=>obtain ⟨b,hb,_⟩:=hc 0 c rfl; cases hb
   subst hcs
   have hcs':cs'=[]:=List.eq_nil_of_length_eq_zero (by simpa using hl)
   subst hcs'
   have hn0:n=0:=by
    cases hR with
    | ref hx=>simp [AV.isRef] at hx
    | own ho =>
     obtain ⟨_,hh⟩:=ho
     rcases hh with ⟨hh,h0⟩ | ⟨b,c2,cur,hh,_⟩
     ·exact h0
     ·cases hh
   subst hn0
   exact .imm0 fun _ h=>h
  | some ad =>
   obtain ⟨b,rfl,hFb⟩:=ha ad rfl
   refine .imm (us:=us) (fun _ h=>h) hn (.inr (hF b hFb)) rfl (by rw [hl,hlen]) (fun k y hy=>?_) (fun k y hy=>?_) fun k y hy=>?_
   all_goals
    have hk:k<cs.length:=by rw [<- hl]; exact (List.getElem?_eq_some_iff.1 hy).1
    have hx:=List.getElem?_eq_getElem hk
    obtain ⟨b',hb',h1,h2,h3,h4⟩:=hc k _ hx
    cases hb'
   ·exact h2
   ·simpa using h1
   ·exact ih k _ y hx hy h3 (fun c hc=>hF c (h4 c hc)) ρ'
 | @obj cs cs' hl _ ih =>
  intro v F hR hF ρ'
  cases hR with
  | ref hx=>simp [AV.isRef] at hx
  | @obj _ b e arr Fk _ ho hl' h1 hr hd hb hFF =>
   refine .iptr (us:=fun k=>arr.getD k undef) (fun _ h=>h) (.inr (hF b ((hFF b).2 (.inl rfl)))) rfl (fun k y hy=>?_) (fun k y hy=>?_) fun k y hy=>?_
   all_goals
    have hk:k<cs.length:=by rw [<- hl]; exact (List.getElem?_eq_some_iff.1 hy).1
    have hx:=List.getElem?_eq_getElem hk
    have hu:arr[k]?=some arr[k]:=Array.getElem?_eq_getElem (hl' ▸ hk)
   ·simpa [hu] using h1 k _ hu
   ·simp [World.cell?,ho,hu]
   ·simpa [hu] using ih k _ y hx hy (hr k _ _ hx hu) (fun c hc=>hF c ((hFF c).2 (.inr ⟨k,hk,hc⟩))) ρ'
 | @brw z n N p cs cs' hp hn hl _ ih =>
  intro v F hR hF ρ'
  obtain ⟨a,N',cap,h1,rfl,h3⟩:=hR.inv_brw
  obtain ⟨vp,Fp,hvp,hRp,hFp,_⟩:=h.part hp (by simp)
  rw [h1] at hvp
  cases hvp
  obtain ⟨a2,cap2,us,Fk,hsl,hcap,hlen,ha,hc⟩:=hRp.ownCells
  cases hsl
  have hle:n * z<=N * z:=Nat.mul_le_mul_right _ hn
  have cell:∀ k,k<cs'.length->∃ x b,(cs.take (n * z))[k]?=some x/\a=some ⟨b,0,none⟩/\w.cell? ⟨b,k,none⟩=some (us k)/\(us k).oneCell'=true/\R w I (RefAt w T) x (us k) (Fk k)/\∀ c,Fk k c->Fp c:=by
   intro k hk
   rw [hl,List.length_take] at hk
   have hx:cs[k]?=some cs[k]:=List.getElem?_eq_getElem (by omega)
   obtain ⟨b,r⟩:=hc k _ hx
   exact ⟨_,b,by rw [List.getElem?_take,if_pos (by omega)]; exact hx,r⟩
  cases a with
  | none =>
   have hcs':cs'=[]:=by
    cases cs' with
    | nil=>rfl
    | cons c l=>obtain ⟨_,b,_,hb,_⟩:=cell 0 (by simp); cases hb
   subst hcs'
   obtain ⟨_,_,hsl,_,_,_,hsome⟩:=hRp.own_slice
   cases hsl
   have hn0:n=0:=by
    rcases Nat.eq_zero_or_pos n with h0 | h0
    ·exact h0
    ·have:=hsome (by omega); simp at this
   subst hn0
   exact .imm0 fun _ h=>h
  | some ad =>
   obtain ⟨b,rfl,hFb⟩:=ha ad rfl
   refine .imm (us:=us) (fun _ h=>h) (by omega) (.inr ⟨_,hFp b hFb⟩) rfl (by rw [hl,List.length_take,hlen]; omega) (fun k y hy=>?_) (fun k y hy=>?_) fun k y hy=>?_
   all_goals
    obtain ⟨x,b',hx,hb',h4,h5,h6,h7⟩:=cell k (List.getElem?_eq_some_iff.1 hy).1
    cases hb'
   ·exact h5
   ·simpa using h4
   ·exact ih k x y hx hy h6 (fun c hc=>⟨_,hFp c (h7 c hc)⟩) ρ'
 | @sub z lo n N p cs cs' hp hn hl _ ih =>
  intro v F hR hF ρ'
  obtain ⟨a,N',cap,a',cap',h1,rfl,hncap,h3,h5⟩:=hR.inv_sub
  obtain ⟨vp,Fp,hvp,hRp,hFp,_⟩:=h.part hp (by simp)
  rw [h1] at hvp
  cases hvp
  obtain ⟨a2,cap2,us,Fk,hsl,hcap,hlen,ha,hc⟩:=hRp.ownCells
  cases hsl
  have hle:lo * z+n * z<=N * z:=by rw [<- Nat.add_mul]; exact Nat.mul_le_mul_right _ hn
  have hl':cs'.length=n * z:=by rw [hl,List.length_take,List.length_drop,hlen]; omega
  have cell:∀ k,k<cs'.length->∃ x b,((cs.drop (lo * z)).take (n * z))[k]?=some x/\a=some ⟨b,0,none⟩/\w.cell? ⟨b,lo * z+k,none⟩=some (us (lo * z+k))/\(us (lo * z+k)).oneCell'=true/\R w I (RefAt w T) x (us (lo * z+k)) (Fk (lo * z+k))/\∀ c,Fk (lo * z+k) c->Fp c:=by
   intro k hk
   have hx:cs[lo * z+k]?=some cs[lo * z+k]:=List.getElem?_eq_getElem (by omega)
   obtain ⟨b,r⟩:=hc _ _ hx
   exact ⟨_,b,by rw [List.getElem?_take,if_pos (by omega),List.getElem?_drop]; exact hx,r⟩
  by_cases hn0:n=0
  ·subst hn0
   have hcs':cs'=[]:=List.eq_nil_of_length_eq_zero (by simpa using hl')
   subst hcs'
   exact .imm0 fun _ h=>h
  ·obtain ⟨ad,rfl,rfl⟩:=h5 (by omega)
   obtain ⟨b,rfl,hFb⟩:=ha ad rfl
   refine .imm (us:=fun k=>us (lo * z+k)) (fun _ h=>h) hncap (.inr ⟨_,hFp b hFb⟩) rfl hl' (fun k y hy=>?_) (fun k y hy=>?_) fun k y hy=>?_
   all_goals
    obtain ⟨x,b',hx,hb',h4,h5',h6,h7⟩:=cell k (List.getElem?_eq_some_iff.1 hy).1
    cases hb'
   ·exact h5'
   ·simpa using h4
   ·exact ih k x y hx hy h6 (fun c hc=>⟨_,hFp c (h7 c hc)⟩) ρ'
 | @rows z n p cs cs' hp hl _ ih =>
  intro v F hR hF ρ'
  obtain ⟨a,N',cap,h1,rfl,h3⟩:=hR.inv_brw
  obtain ⟨v0,e,us,hv0,ho,hlen,h1',hb,hr⟩:=Rows.sound (w:=w) (I:=I) (T:=T) (Fs:=Fs) (fun t z q n m new ht=>h.rel t _ ht) (fun p z n cs hp=>by obtain ⟨v,Fy,h1,h2,h3,_⟩:=h.part hp (by simp); exact ⟨v,Fy,h1,h2,h3⟩) (fun z p n v hv=>by obtain ⟨a,cap,h1,rfl⟩:=hv; exact h1) hp
  rw [h1] at hv0
  cases hv0
  refine rowImm ho hlen h1' hb hl fun k x y u hx hy hu=>?_
  obtain ⟨Fk,hRk,hFk⟩:=hr k x u hx hu
  exact ih k x y hx hy hRk hFk ρ'
 | @ptr p k z n y cs cs' hp hy hk hl _ ih =>
  intro v F hR hF ρ'
  obtain ⟨u,ad,h1,h2,rfl⟩:=hR.inv_ptr
  obtain ⟨vp,Fp,hvp,hRp,hFp,_⟩:=h.part hp (by rcases hy with rfl | rfl <;> simp)
  rw [h1] at hvp
  cases hvp
  have cell:∀ j,j<cs'.length->∃ uu xx Fx,w.cell? ⟨ad.block,k+j,none⟩=some uu/\uu.oneCell'=true/\(cs.drop k)[j]?=some xx/\R w I (RefAt w T) xx uu Fx/\(∀ c,Fx c->∃ t,Fs t c):=by
   intro j hj
   rw [hl,List.length_drop] at hj
   have hx':cs[k+j]?=some cs[k+j]:=List.getElem?_eq_getElem (by omega)
   obtain ⟨b,uu,had,hcell,hch,hone,_⟩:=hRp.node hy hx'
   rw [h2] at had
   cases had
   have hat:atP g (p.push (k+j))=some cs[k+j]:=by rw [atP_push,hp]; rcases hy with rfl | rfl <;> simp [AV.kids]
   by_cases hpd:∃ z' q' n' m' new',cs[k+j]=.pend z' q' n' m' new'
   ·obtain ⟨z',q',n',m',new',hpd⟩:=hpd
    obtain ⟨b,uu',_,_,hch',_,Fk,hRk⟩:=hRp.node hy hx'
    rw [hpd] at hRk
    exact hRk.notPend.elim
   ·obtain ⟨vv,FF,hvv,hRR,hFF,_⟩:=h.part hat (fun z' q' n' m' new' e=>hpd ⟨_,_,_,_,_,e⟩)
    rw [valAt_push,h1] at hvv
    simp only [Option.bind_some] at hvv
    rw [hch] at hvv
    cases hvv
    exact ⟨uu,_,FF,hcell,hone,by rw [List.getElem?_drop]; exact hx',hRR,fun c hc=>⟨_,hFF c hc⟩⟩
  obtain ⟨b,uu,had,_⟩:=hRp.node hy (List.getElem?_eq_getElem hk)
  rw [h2] at had
  cases had
  have hblk:∃ t,Fs t b:=⟨_,hFp b (hRp.node_block hy h2)⟩
  refine .iptr (us:=fun j=>(w.cell? ⟨b,k+j,none⟩).getD undef) (fun _ h=>h) (.inr hblk) rfl (fun j yy hyy=>?_) (fun j yy hyy=>?_) fun j yy hyy=>?_
  all_goals
   obtain ⟨uu,xx,Fx,c1,c2,c3,c4,c5⟩:=cell j (List.getElem?_eq_some_iff.1 hyy).1
  ·simpa [c1] using c2
  ·simp [c1]
  ·simpa [c1] using ih j xx yy c3 hyy c4 c5 ρ'
end
end Go.Own
namespace Go.Own
open Go
set_option linter.unusedSectionVars false
variable [TB]
def putAll (g:Gst):List (Place × AV)->Gst
 | []=>g
 | (p,x)::l=>putAll (setP g p x) l
structure Lent (g g2:Gst) (all:List AV) (outs:List (Option AV)) (k:Nat) (p:Place) (x:AV):Prop where
 out:outs[k]?=some (some x)
 at2:atP g2 p=some .dead
 arg:(∃ z n cs,all[k]?=some (.brw z p n)/\atP g p=some (.own z n cs))\/(∃ cs,all[k]?=some (.ptr p 0)/\atP g p=some (.obj cs))
 ns:∀ i,x≠.self i
section
variable {P:Program}{w:World}{I:BSet}{T:Array Value}{g:Gst}{Fs:Nat->BSet}
theorem argAt_own (h:SR w I T g Fs) {z n:Nat}{p:Place}{cs:List AV}{v:Value}{F:BSet}(hR:R w I (RG w T g) (.brw z p n) v F) (hp:atP g p=some (.own z n cs)):valAt w T p=some v:=by
 obtain ⟨⟨a,N',cap,h1,rfl,h3⟩,_⟩:=hR.inv_brw
 obtain ⟨vp,Fp,hvp,hRp,hFp⟩:=h.part hp (by simp)
 rw [h1] at hvp
 cases hvp
 obtain ⟨a2,cap2,hsl,_⟩:=hRp.own_slice
 cases hsl
 exact h1
theorem argAt_obj (h:SR w I T g Fs) {p:Place}{cs:List AV}{v:Value}{F:BSet}(hR:R w I (RG w T g) (.ptr p 0) v F) (hp:atP g p=some (.obj cs)):valAt w T p=some v:=by
 obtain ⟨⟨u,ad,h1,h2,rfl⟩,_⟩:=hR.inv_ptr
 obtain ⟨vp,Fp,hvp,hRp,hFp⟩:=h.part hp (by simp)
 rw [h1] at hvp
 cases hvp
 cases hRp with
 | ref hx=>simp [AV.isRef] at hx
 | obj=>simp only [addrOf,Option.some.injEq] at h2; subst h2; exact h1
theorem setP_dead_at {g:Gst}{p q:Place}{y:AV}(hq:atP g q=some .dead) (hp:atP g p=some .dead) (hne:p≠q):atP (setP g p y) q=some .dead:=by
 by_cases hr:q.root=p.root
 ·obtain ⟨r,pp⟩:=p
  obtain ⟨r',qp⟩:=q
  simp only at hr
  subst hr
  have hpp:pp≠qp:=fun e=>hne (by rw [e])
  simp only [atP,setP,if_true] at *
  cases hx:g r' with
  | none=>rw [hx] at hp; cases hp
  | some x =>
   rw [hx] at hp hq
   simp only [Option.map_some]
   have:∀ (pp qp:List Nat) (x:AV),pp≠qp->x.at pp=some .dead->x.at qp=some .dead->(x.setAt pp y).at qp=some .dead:=by
    intro pp
    induction pp with
    | nil =>
     intro qp x hne h1 h2
     simp only [AV.at,Option.some.injEq] at h1
     subst h1
     cases qp with
     | nil=>exact absurd rfl hne
     | cons k q=>simp [AV.at,AV.kids] at h2
    | cons k pp ih =>
     intro qp x hne h1 h2
     cases qp with
     | nil =>
      simp only [AV.at,Option.some.injEq] at h2
      subst h2
      simp [AV.at,AV.kids] at h1
     | cons j q =>
      simp only [AV.at] at h1 h2
      cases hk:x.kids[k]? with
      | none=>rw [hk] at h1; cases h1
      | some c =>
       rw [hk] at h1
       simp only at h1
       have hset:x.setAt (k::pp) y=x.setKid k (c.setAt pp y):=by simp only [AV.setAt,hk]
       rw [hset]
       have hkl:k<x.kids.length:=(List.getElem?_eq_some_iff.1 hk).1
       have hkids:(x.setKid k (c.setAt pp y)).kids=x.kids.set k (c.setAt pp y):=by
        cases x <;> simp [AV.setKid,AV.kids] at hkl ⊢
       simp only [AV.at,hkids]
       by_cases hjk:j=k
       ·subst hjk
        rw [List.getElem?_set_self hkl]
        rw [hk] at h2
        exact ih q c (fun e=>hne (by rw [e])) h1 h2
       ·rw [List.getElem?_set_ne (Ne.symm hjk)]
        exact h2
   exact this pp qp x hpp hp hq
 ·rw [setP_other hr]; exact hq
theorem SRc.putAll:∀ (l:List (Place × AV)) (Hs:Nat->BSet) (vs:Nat->Value) {g:Gst}{Fs:Nat->BSet},SRc w I T g Fs->(l.map (·.1)).Nodup->(∀ (j:Nat) (p:Place) (x:AV),l[j]?=some (p,x)->atP g p=some .dead/\valAt w T p=some (vs j)/\R w I (RefAt w T) x (vs j) (Hs j)/\∀ i,x≠.self i) ->
  (∀ (j t c:Nat),j<l.length->Hs j c->¬ Fs t c)->(∀ (j c:Nat),j<l.length->Hs j c->¬ I c)->(∀ (i j c:Nat),i<l.length->j<l.length->Hs i c->Hs j c->i=j) ->
  ∃ Fs',SRc w I T (putAll g l) Fs'/\∀ t c,Fs' t c->Fs t c\/∃ j,j<l.length/\Hs j c
 | [],_,_,g,Fs,hS,_,_,_,_,_=>⟨Fs,hS,fun _ _ h=>.inl h⟩
 | (p,x)::l,Hs,vs,g,Fs,hS,hnd,hl,hoff,himm,hdis=>by
  obtain ⟨h1,h2,h3,h4⟩:=hl 0 p x rfl
  obtain ⟨v,Fy,hv,hRy,hFy,put⟩:=hS.part h1 (by simp)
  rw [h2] at hv
  cases hv
  obtain ⟨Fs1,hS1,hF1,hF2⟩:=put x (Hs 0) h3 (fun c hc hf=>absurd hf (hoff 0 _ c (by simp) hc)) (fun c hc=>himm 0 c (by simp) hc) (fun t c _ hc=>hoff 0 t c (by simp) hc) (fun i e=>absurd e (h4 i))
  have hsub:∀ t c,Fs1 t c->Fs t c\/Hs 0 c:=by
   intro t c hc
   by_cases ht:t=p.root
   ·subst ht
    rcases (hF1 c).1 hc with ⟨h,_⟩ | h
    ·exact .inl h
    ·exact .inr h
   ·rw [hF2 t ht] at hc; exact .inl hc
  simp only [List.map_cons,List.nodup_cons] at hnd
  obtain ⟨Fs2,hS2,hF3⟩:=SRc.putAll l (fun j=>Hs (j+1)) (fun j=>vs (j+1)) hS1 hnd.2 (fun j q y hj=>by
    obtain ⟨a1,a2,a3⟩:=hl (j+1) q y (by simpa using hj)
    refine ⟨setP_dead_at a1 h1 ?_,a2,a3⟩
    rintro rfl
    exact hnd.1 (List.mem_map.2 ⟨(p,y),List.mem_of_getElem? hj,rfl⟩))
   (fun j t c hj hc hf=>by
    rcases hsub t c hf with h | h
    ·exact hoff (j+1) t c (by simpa using hj) hc h
    ·have:=hdis (j+1) 0 c (by simpa using hj) (by simp) hc h; omega)
   (fun j c hj hc=>himm (j+1) c (by simpa using hj) hc)
   (fun i j c hi hj h1 h2=>by have:=hdis (i+1) (j+1) c (by simpa using hi) (by simpa using hj) h1 h2; omega)
  refine ⟨Fs2,hS2,fun t c hc=>?_⟩
  rcases hF3 t c hc with h | ⟨j,hj,h⟩
  ·rcases hsub t c h with h | h
   ·exact .inl h
   ·exact .inr ⟨0,by simp,h⟩
  ·exact .inr ⟨j+1,by simpa using hj,h⟩
end
end Go.Own
