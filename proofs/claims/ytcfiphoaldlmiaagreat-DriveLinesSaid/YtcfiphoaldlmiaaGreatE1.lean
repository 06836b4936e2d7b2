/- Parts of the proof that the last text states. -/
import Derived.Orders
import Derived.WalkKit
namespace Go.Own
open Go
structure Place where
 root:Nat
 path:List Nat
 deriving DecidableEq,Repr
def Place.push (p:Place) (k:Nat):Place:=⟨p.root,p.path++[k]⟩
inductive AV where
 | lit (v:Value)
 | nils
 | imm (z n:Nat) (cs:List AV)
 | own (z n:Nat) (cs:List AV)
 | obj (cs:List AV)
 | agg (cs:List AV)
 | tup (cs:List AV)
 | iptr (cs:List AV)
 | ptr (p:Place) (k:Nat)
 | brw (z:Nat) (p:Place) (n:Nat)
 | sub (z:Nat) (p:Place) (lo n:Nat)
 | pend (z:Nat) (p:Place) (n m:Nat) (new:List AV)
 | clo (fn:Fn) (first caps:List AV)
 | mp (p:Array MapEntry->Nat->Prop)
 | mref (p:Place)
 | imp (p:Array MapEntry->Nat->Prop)
 | dead
 | self (k:Nat × Nat)
 | brow (t:Nat) (us:List Value)
 deriving Inhabited
def NoSelf (cs:List AV):Prop:=∀ (k:Nat) (j:Nat × Nat),cs[k]?≠some (.self j)
def OkA (x:AV):Prop:=∀ cs,x=.agg cs->NoSelf cs
abbrev BSet:=Nat->Prop
def AV.isRef:AV->Bool
 | .ptr .. | .brw .. | .sub .. | .mref ..=>true
 | _=>false
inductive R (w:World) (I:BSet) (ρ:AV->Value->Prop):AV->Value->BSet->Prop
 | lit {v:Value}{F:BSet}(hv:v.oneCell'=true) (hF:∀ c,¬ F c):R w I ρ (.lit v) v F
 | nils {F:BSet}(hF:∀ c,¬ F c):R w I ρ .nils (.slice none 0 0) F
 | dead {v:Value}{F:BSet}(hF:∀ c,¬ F c):R w I ρ .dead v F
 | brow {t:Nat}{us:List Value}{v:Value}{F:BSet}(ho:w.ownsRow 0 t 1 v us.length us) (h1:v.oneCell'=true) (hF:∀ c,F c↔v.ownBlock=some c):R w I ρ (.brow t us) v F
 | slf {k:Nat × Nat}{v:Value}{F:BSet}(hF:∀ c,¬ F c):R w I ρ (.self k) v F
 | ref {x:AV}{v:Value}{F:BSet}(hx:x.isRef=true) (h:ρ x v) (hF:∀ c,¬ F c):R w I ρ x v F
 | imm0 {z cap:Nat}{a:Option Addr}{F:BSet}(hF:∀ c,¬ F c):R w I ρ (.imm z 0 []) (.slice a 0 cap) F
 | imm {z n cap:Nat}{cs:List AV}{ad:Addr}{us:Nat->Value}{F:BSet}(hF:∀ c,¬ F c) (hcap:n<=cap) (hI:I ad.block) (hs:ad.spot=none) (hl:cs.length=n * z) (h1:∀ (k:Nat) (x:AV),cs[k]?=some x->(us k).oneCell'=true)
   (hc:∀ (k:Nat) (x:AV),cs[k]?=some x->w.cell? ⟨ad.block,ad.off+k,none⟩=some (us k)) (hr:∀ (k:Nat) (x:AV),cs[k]?=some x->R w I ρ x (us k) (fun _=>False)) :
   R w I ρ (.imm z n cs) (.slice (some ad) n cap) F
 | iptr {cs:List AV}{ad:Addr}{us:Nat->Value}{F:BSet}(hF:∀ c,¬ F c) (hI:I ad.block) (hs:ad.spot=none) (h1:∀ (k:Nat) (x:AV),cs[k]?=some x->(us k).oneCell'=true)
   (hc:∀ (k:Nat) (x:AV),cs[k]?=some x->w.cell? ⟨ad.block,ad.off+k,none⟩=some (us k)) (hr:∀ (k:Nat) (x:AV),cs[k]?=some x->R w I ρ x (us k) (fun _=>False)) :
   R w I ρ (.iptr cs) (.pointer (some ad)) F
 | own {z n:Nat}{cs:List AV}{v:Value}{e:TypeId}{us:List Value}{Fs:Nat->BSet}{F:BSet}
   (ho:w.ownsRow 0 e z v n us) (hl:cs.length=us.length) (h1:∀ (k:Nat) (u:Value),us[k]?=some u->u.oneCell'=true)
   (hr:∀ (k:Nat) (x:AV) (u:Value),cs[k]?=some x->us[k]?=some u->R w I ρ x u (Fs k))
   (hd:∀ (j k c:Nat),j<cs.length->k<cs.length->Fs j c->Fs k c->j=k) (hb:∀ (k c:Nat),k<cs.length->Fs k c->v.ownBlock≠some c)
   (hF:∀ c,F c↔v.ownBlock=some c\/∃ k,k<cs.length/\Fs k c):R w I ρ (.own z n cs) v F
 | obj {cs:List AV}{b:Nat}{e:TypeId}{arr:Array Value}{Fs:Nat->BSet}{F:BSet}
   (ho:w.heap[b]?=some (.cells arr e (0,0))) (hl:cs.length=arr.size) (h1:∀ (k:Nat) (u:Value),arr[k]?=some u->u.oneCell'=true)
   (hr:∀ (k:Nat) (x:AV) (u:Value),cs[k]?=some x->arr[k]?=some u->R w I ρ x u (Fs k))
   (hd:∀ (j k c:Nat),j<cs.length->k<cs.length->Fs j c->Fs k c->j=k) (hb:∀ (k:Nat),k<cs.length->¬ Fs k b)
   (hF:∀ c,F c↔c=b\/∃ k,k<cs.length/\Fs k c) (hs:∀ (k:Nat) (j:Nat × Nat) (u:Value),cs[k]?=some (.self j)->arr[k]?=some u->(u=.pointer none/\e=j.2)\/u=.pointer (some ⟨b,j.1,none⟩)):R w I ρ (.obj cs) (.pointer (some ⟨b,0,none⟩)) F
 | agg {cs:List AV}{vs:Array Value}{Fs:Nat->BSet}{F:BSet}(hl:cs.length=vs.size) (h1:∀ (k:Nat) (u:Value),vs[k]?=some u->u.oneCell'=true)
   (hr:∀ (k:Nat) (x:AV) (u:Value),cs[k]?=some x->vs[k]?=some u->R w I ρ x u (Fs k))
   (hd:∀ (j k c:Nat),j<cs.length->k<cs.length->Fs j c->Fs k c->j=k)
   (hF:∀ c,F c↔∃ k,k<cs.length/\Fs k c):R w I ρ (.agg cs) (.agg vs) F
 | tup {cs:List AV}{vs:Array Value}{Fs:Nat->BSet}{F:BSet}(hl:cs.length=vs.size)
   (hr:∀ (k:Nat) (x:AV) (u:Value),cs[k]?=some x->vs[k]?=some u->R w I ρ x u (Fs k))
   (hd:∀ (j k c:Nat),j<cs.length->k<cs.length->Fs j c->Fs k c->j=k)
   (hF:∀ c,F c↔∃ k,k<cs.length/\Fs k c):R w I ρ (.tup cs) (.tuple vs) F
 | clo {fn:Fn}{first caps:List AV}{v1 v2:Array Value}{F:BSet}(hF:∀ c,¬ F c) (h1:first.length=v1.size) (h2:caps.length=v2.size)
   (hr1:∀ (k:Nat) (x:AV) (u:Value),first[k]?=some x->v1[k]?=some u->R w I ρ x u (fun _=>False))
   (hr2:∀ (k:Nat) (x:AV) (u:Value),caps[k]?=some x->v2[k]?=some u->R w I ρ x u (fun _=>False)):R w I ρ (.clo fn first caps) (.func fn v1 v2) F
 | mp {p:Array MapEntry->Nat->Prop}{b:Nat}{es:Array MapEntry}{clock:Nat}{F:BSet}(ho:w.heap[b]?=some (.map es clock)) (hp:p es clock) (hF:∀ c,F c↔c=b):R w I ρ (.mp p) (.map (some b)) F
 | imp {p:Array MapEntry->Nat->Prop}{b:Nat}{es:Array MapEntry}{clock:Nat}{F:BSet}(hF:∀ c,¬ F c) (hI:I b) (ho:w.heap[b]?=some (.map es clock)) (hp:p es clock):R w I ρ (.imp p) (.map (some b)) F
theorem R.congrF {w:World}{I:BSet}{ρ:AV->Value->Prop}{x:AV}{v:Value}{F F':BSet}(h:R w I ρ x v F) (hF:∀ c,F c↔F' c):R w I ρ x v F':=by
 have:F=F':=funext fun c=>propext (hF c)
 grind
theorem R.lt {w:World}{I:BSet}{ρ:AV->Value->Prop}{x:AV}{v:Value}{F:BSet}(h:R w I ρ x v F):∀ c,F c->c<w.heap.size:=by
 induction h with
 | lit _ hF | nils hF | dead hF | slf hF | ref _ _ hF | imm0 hF | imm hF | iptr hF | clo hF | imp hF=>exact fun c hc=>absurd hc (hF c)
 | brow ho _ hF=>exact fun c hc=>(ho.lt c ((hF c).1 hc)).2
 | mp ho _ hF=>exact fun c hc=>by rw [(hF c).1 hc]; exact (Array.getElem?_eq_some_iff.1 ho).1
 | own ho hl h1 hr hd hb hF ih =>
  intro c hc
  rcases (hF c).1 hc with h | ⟨k,hk,h⟩
  ·exact (ho.lt c h).2
  ·exact ih k _ _ (List.getElem?_eq_getElem hk) (List.getElem?_eq_getElem (hl ▸ hk)) c h
 | obj ho hl h1 hr hd hb hF hs ih =>
  intro c hc
  rcases (hF c).1 hc with rfl | ⟨k,hk,h⟩
  ·exact (Array.getElem?_eq_some_iff.1 ho).1
  ·exact ih k _ _ (List.getElem?_eq_getElem hk) (Array.getElem?_eq_getElem (hl ▸ hk)) c h
 | agg hl h1 hr hd hF ih =>
  intro c hc
  obtain ⟨k,hk,h⟩:=(hF c).1 hc
  exact ih k _ _ (List.getElem?_eq_getElem hk) (Array.getElem?_eq_getElem (hl ▸ hk)) c h
 | tup hl hr hd hF ih =>
  intro c hc
  obtain ⟨k,hk,h⟩:=(hF c).1 hc
  exact ih k _ _ (List.getElem?_eq_getElem hk) (Array.getElem?_eq_getElem (hl ▸ hk)) c h
theorem ownsRow_of_block {w w':World}{e:TypeId}{z n:Nat}{v:Value}{us:List Value}(h:w.ownsRow 0 e z v n us) (hb:∀ c,v.ownBlock=some c->w'.heap[c]?=w.heap[c]?):w'.ownsRow 0 e z v n us:=by
 obtain ⟨h1,h2⟩:=h
 refine ⟨h1,?_⟩
 rcases h2 with h2 | ⟨g,cap,cur,rfl,hg,hh,rest⟩
 ·grind
 ·exact .inr ⟨g,cap,cur,rfl,hg,by rw [hb g rfl]; exact hh,rest⟩
theorem R.frame {w w':World}{I I':BSet}{ρ ρ':AV->Value->Prop}{x:AV}{v:Value}{F:BSet}(h:R w I ρ x v F)
  (hI:∀ c,I c->w'.heap[c]?=w.heap[c]?) (hII:∀ c,I c->I' c) (hρ:∀ x v,ρ x v->ρ' x v) :
  (∀ c,F c->w'.heap[c]?=w.heap[c]?)->R w' I' ρ' x v F:=by
 induction h with
 | lit hv hF=>exact fun _=>.lit hv hF
 | nils hF=>exact fun _=>.nils hF
 | dead hF=>exact fun _=>.dead hF
 | slf hF=>exact fun _=>.slf hF
 | ref hx h hF=>exact fun _=>.ref hx (hρ _ _ h) hF
 | imm0 hF=>exact fun _=>.imm0 hF
 | imm hF hcap hi hs hl h1 hc hr ih =>
  exact fun _=>.imm hF hcap (hII _ hi) hs hl h1 (fun k x hk=>(World.cell?_of_block (a:=⟨_,_,none⟩) (hI _ hi)).trans (hc k x hk)) fun k x hk=>ih k x hk (fun c hc=>hc.elim)
 | iptr hF hi hs h1 hc hr ih =>
  exact fun _=>.iptr hF (hII _ hi) hs h1 (fun k x hk=>(World.cell?_of_block (a:=⟨_,_,none⟩) (hI _ hi)).trans (hc k x hk)) fun k x hk=>ih k x hk (fun c hc=>hc.elim)
 | own ho hl h1 hr hd hb hF ih =>
  intro hf
  refine .own (ownsRow_of_block ho fun c hc=>hf c ((hF c).2 (.inl hc))) hl h1 (fun k x u hx hu=>ih k x u hx hu fun c hc=>hf c ((hF c).2 (.inr ⟨k,?_,hc⟩))) hd hb hF
  exact (List.getElem?_eq_some_iff.1 hx).1
 | obj ho hl h1 hr hd hb hF hs ih =>
  intro hf
  refine .obj ((hf _ ((hF _).2 (.inl rfl))).trans ho) hl h1 (fun k x u hx hu=>ih k x u hx hu fun c hc=>hf c ((hF c).2 (.inr ⟨k,?_,hc⟩))) hd hb hF hs
  exact (List.getElem?_eq_some_iff.1 hx).1
 | agg hl h1 hr hd hF ih =>
  intro hf
  refine .agg hl h1 (fun k x u hx hu=>ih k x u hx hu fun c hc=>hf c ((hF c).2 ⟨k,?_,hc⟩)) hd hF
  exact (List.getElem?_eq_some_iff.1 hx).1
 | tup hl hr hd hF ih =>
  intro hf
  refine .tup hl (fun k x u hx hu=>ih k x u hx hu fun c hc=>hf c ((hF c).2 ⟨k,?_,hc⟩)) hd hF
  exact (List.getElem?_eq_some_iff.1 hx).1
 | imp hF hi ho hp=>exact fun _=>.imp hF (hII _ hi) ((hI _ hi).trans ho) hp
 | brow ho h1 hF=>exact fun hf=>.brow (ownsRow_of_block ho fun c hc=>hf c ((hF c).2 hc)) h1 hF
 | mp ho hp hF=>exact fun hf=>.mp ((hf _ ((hF _).2 rfl)).trans ho) hp hF
 | clo hF h1 h2 hr1 hr2 ih1 ih2=>exact fun _=>.clo hF h1 h2 (fun k x u hx hu=>ih1 k x u hx hu fun c hc=>hc.elim) (fun k x u hx hu=>ih2 k x u hx hu fun c hc=>hc.elim)
def AV.kids:AV->List AV
 | .own _ _ cs=>cs
 | .obj cs=>cs
 | .agg cs=>cs
 | .tup cs=>cs
 | _=>[]
def AV.setKid (x:AV) (k:Nat) (y:AV):AV :=
 match x with
 | .own z n cs=>.own z n (cs.set k y)
 | .obj cs=>.obj (cs.set k y)
 | .agg cs=>.agg (cs.set k y)
 | .tup cs=>.tup (cs.set k y)
 | x=>x
def AV.at:AV->List Nat->Option AV
 | x,[]=>some x
 | x,k::p =>
  match x.kids[k]? with
  | some c=>c.at p
  | none=>none
def AV.setAt:AV->List Nat->AV->AV
 | _,[],y=>y
 | x,k::p,y =>
  match x.kids[k]? with
  | some c=>x.setKid k (c.setAt p y)
  | none=>x
theorem AV.setAt_ns {x y z:AV}{k:Nat}{j:Nat × Nat}{p:List Nat}(h:x.at (k::p)=some y):x.setAt (k::p) z≠.self j:=by
 intro e
 simp only [AV.at,AV.setAt] at h e
 cases hk:x.kids[k]? with
 | none=>rw [hk] at h; cases h
 | some c =>
  rw [hk] at e
  cases x <;> simp [AV.setKid,AV.kids] at e hk
def child (w:World) (v:Value) (k:Nat):Option Value :=
 match v with
 | .agg cs=>cs[k]?
 | .tuple cs=>cs[k]?
 | .slice (some a) _ _=>w.cell? ⟨a.block,a.off+k,none⟩
 | .pointer (some a)=>w.cell? ⟨a.block,a.off+k,none⟩
 | _=>none
def walk (w:World):Value->List Nat->Option Value
 | v,[]=>some v
 | v,k::p =>
  match child w v k with
  | some u=>walk w u p
  | none=>none
theorem ownsRow_child {w:World}{e:TypeId}{z n:Nat}{v:Value}{us:List Value}(h:w.ownsRow 0 e z v n us) {k:Nat}{u:Value}(hu:us[k]?=some u):child w v k=some u:=by
 obtain ⟨h1,h2⟩:=h
 rcases h2 with ⟨rfl,rfl⟩ | ⟨g,cap,cur,rfl,hg,hh,hn,hc,hs,ht⟩
 ·grind
 ·rw [<- ht] at hu
  rw [List.getElem?_take] at hu
  split at hu
  ·simpa [child,World.cell?,hh] using hu
  grind
theorem set_getElem? {α:Type}{l:List α}{k j:Nat}{y x:α}(h:(l.set k y)[j]?=some x):(j=k/\x=y/\k<l.length)\/(j≠k/\l[j]?=some x):=by
 grind
structure Out (w w':World) (I I':BSet) (ρ ρ':AV->Value->Prop) (F Fy:BSet):Prop where
 imm:∀ c,I c->w'.heap[c]?=w.heap[c]?
 rest:∀ c,F c->¬ Fy c->w'.heap[c]?=w.heap[c]?
 more:∀ c,I c->I' c
 ref:∀ x v,ρ x v->ρ' x v
theorem Out.mono {w w':World}{I I':BSet}{ρ ρ':AV->Value->Prop}{F Fy F' Fy':BSet}(h:Out w w' I I' ρ ρ' F Fy) (h1:∀ c,F' c->F c) (h2:∀ c,F' c->¬ Fy' c->¬ Fy c):Out w w' I I' ρ ρ' F' Fy' :=
 ⟨h.imm,fun c hc hn=>h.rest c (h1 c hc) (h2 c hc hn),h.more,h.ref⟩
theorem R.outside {w w':World}{I I':BSet}{ρ ρ':AV->Value->Prop}{F Fy:BSet}(o:Out w w' I I' ρ ρ' F Fy) {x:AV}{v:Value}{G:BSet}(h:R w I ρ x v G) (hG:∀ c,G c->F c/\¬ Fy c):R w' I' ρ' x v G :=
 h.frame o.imm o.more o.ref fun c hc=>o.rest c (hG c hc).1 (hG c hc).2
theorem kids_set {w w':World}{I I':BSet}{ρ ρ':AV->Value->Prop}{cs:List AV}{get:Nat->Option Value}{Fs:Nat->BSet}{F Fy:BSet}
  (hr:∀ (k:Nat) (x:AV) (u:Value),cs[k]?=some x->get k=some u->R w I ρ x u (Fs k))
  (hd:∀ (j k c:Nat),j<cs.length->k<cs.length->Fs j c->Fs k c->j=k)
  (hF:∀ k c,k<cs.length->Fs k c->F c) {k:Nat}(hk:k<cs.length) (hy:∀ c,Fy c->Fs k c) (o:Out w w' I I' ρ ρ' F Fy)
  {y:AV}{u:Value}{Fk:BSet}(hu:get k=some u) (hR:R w' I' ρ' y u Fk) (hFk:∀ c,Fk c↔(Fs k c/\¬ Fy c)\/(Fk c/\¬ (F c/\¬ Fy c))) :
  (∀ (j:Nat) (x:AV) (u:Value),(cs.set k y)[j]?=some x->get j=some u->R w' I' ρ' x u (if j=k then Fk else Fs j)) /\
  (∀ (i j c:Nat),i<(cs.set k y).length->j<(cs.set k y).length->(if i=k then Fk else Fs i) c->(if j=k then Fk else Fs j) c->i=j):=by
 constructor
 ·intro j x u' hx hu'
  rcases set_getElem? hx with ⟨rfl,rfl,hlt⟩ | ⟨hne,hx⟩
  ·grind
  ·rw [if_neg hne]
   have hj:j<cs.length:=(List.getElem?_eq_some_iff.1 hx).1
   exact (hr j x u' hx hu').outside o fun c hc=>⟨hF j c hj hc,fun hyc=>hne (hd j k c hj hk hc (hy c hyc))⟩
 grind
theorem kids_union {m:Nat}{Fs:Nat->BSet}{Fk Fy Fy':BSet}{k:Nat}(hk:k<m)
  (hd:∀ (j k c:Nat),j<m->k<m->Fs j c->Fs k c->j=k) (hy:∀ c,Fy c->Fs k c) (hFk:∀ c,Fk c↔(Fs k c/\¬ Fy c)\/Fy' c) (c:Nat) :
  (∃ j,j<m/\(if j=k then Fk else Fs j) c)↔((∃ j,j<m/\Fs j c)/\¬ Fy c)\/Fy' c:=by
 grind
theorem R.walk_frame {w w':World}{I:BSet}{ρ:AV->Value->Prop}:∀ (r:List Nat) {x:AV}{v:Value}{F:BSet}{y:AV},R w I ρ x v F->x.at r=some y ->
  (∀ c,F c->w'.heap[c]?=w.heap[c]?)->walk w' v r=walk w v r
 | [],_,_,_,_,_,_,_=>rfl
 | k::p,x,v,F,y,h,hat,hf=>by
  simp only [AV.at] at hat
  cases hkid:x.kids[k]? with
  | none=>rw [hkid] at hat; cases hat
  | some cx =>
   rw [hkid] at hat
   simp only at hat
   cases h with
   | @own z n cs _ e us Fs _ ho hl h1 hr hd hb hF =>
    simp only [AV.kids] at hkid
    have hk:k<cs.length:=(List.getElem?_eq_some_iff.1 hkid).1
    have hu:us[k]?=some us[k]:=List.getElem?_eq_getElem (hl ▸ hk)
    have ho':=ownsRow_of_block (w':=w') ho fun c hc=>hf c ((hF c).2 (.inl hc))
    have:=R.walk_frame (w':=w') p (hr k cx _ hkid hu) hat fun c hc=>hf c ((hF c).2 (.inr ⟨k,hk,hc⟩))
    simp [walk,ownsRow_child ho hu,ownsRow_child ho' hu,this]
   | @obj cs b e arr Fs _ ho hl h1 hr hd hb hF hs =>
    simp only [AV.kids] at hkid
    have hk:k<cs.length:=(List.getElem?_eq_some_iff.1 hkid).1
    have hu:arr[k]?=some arr[k]:=Array.getElem?_eq_getElem (hl ▸ hk)
    have ho':=(hf b ((hF b).2 (.inl rfl))).trans ho
    have:=R.walk_frame (w':=w') p (hr k cx _ hkid hu) hat fun c hc=>hf c ((hF c).2 (.inr ⟨k,hk,hc⟩))
    simp [walk,child,World.cell?,ho,ho',hu,this]
   | @agg cs vs Fs _ hl h1 hr hd hF =>
    simp only [AV.kids] at hkid
    have hk:k<cs.length:=(List.getElem?_eq_some_iff.1 hkid).1
    have hu:vs[k]?=some vs[k]:=Array.getElem?_eq_getElem (hl ▸ hk)
    have:=R.walk_frame (w':=w') p (hr k cx _ hkid hu) hat fun c hc=>hf c ((hF c).2 ⟨k,hk,hc⟩)
    simp [walk,child,hu,this]
   | @tup cs vs Fs _ hl hr hd hF =>
    simp only [AV.kids] at hkid
    have hk:k<cs.length:=(List.getElem?_eq_some_iff.1 hkid).1
    have hu:vs[k]?=some vs[k]:=Array.getElem?_eq_getElem (hl ▸ hk)
    have:=R.walk_frame (w':=w') p (hr k cx _ hkid hu) hat fun c hc=>hf c ((hF c).2 ⟨k,hk,hc⟩)
    simp [walk,child,hu,this]
   | ref hx _ _=>cases x <;> simp [AV.isRef,AV.kids] at hx hkid
   | _=>simp [AV.kids] at hkid
theorem R.focus {w:World}{I:BSet}{ρ:AV->Value->Prop}:∀ (q:List Nat) {x:AV}{v:Value}{F:BSet}{y:AV},R w I ρ x v F->x.at q=some y ->
  ∃ vy Fy,walk w v q=some vy/\R w I ρ y vy Fy/\(∀ c,Fy c->F c) /\
   (∀ (w':World),(∀ c,F c->¬ Fy c->w'.heap[c]?=w.heap[c]?)->walk w' v q=some vy/\∀ r yr,x.at r=some yr->(∃ r',r=q++r')\/walk w' v r=walk w v r) /\
   ∀ (w':World) (I':BSet) (ρ':AV->Value->Prop) (y':AV) (Fy':BSet),Out w w' I I' ρ ρ' F Fy->R w' I' ρ' y' vy Fy'->(∀ c,Fy' c->F c->Fy c)->(∀ j,y'=.self j->y=.self j) ->
    ∃ F',R w' I' ρ' (x.setAt q y') v F'/\∀ c,F' c↔(F c/\¬ Fy c)\/Fy' c
 | [],x,v,F,y,h,hat=>by
  simp only [AV.at,Option.some.injEq] at hat
  subst hat
  exact ⟨v,F,rfl,h,fun _ h=>h,fun _ _=>⟨rfl,fun r _ _=>.inl ⟨r,rfl⟩⟩,fun w' I' ρ' y' Fy' _ hR _ _=>⟨Fy',hR,fun c=>by simp⟩⟩
 | k::p,x,v,F,y,h,hat=>by
  simp only [AV.at] at hat
  cases hkid:x.kids[k]? with
  | none=>rw [hkid] at hat; cases hat
  | some cx =>
   rw [hkid] at hat
   simp only at hat
   have hset:∀ y',x.setAt (k::p) y'=x.setKid k (cx.setAt p y'):=fun y'=>by simp [AV.setAt,hkid]
   cases h with
   | @own z n cs _ e us Fs _ ho hl h1 hr hd hb hF =>
    simp only [AV.kids] at hkid
    have hk:k<cs.length:=(List.getElem?_eq_some_iff.1 hkid).1
    have hu:us[k]?=some us[k]:=List.getElem?_eq_getElem (hl ▸ hk)
    obtain ⟨vy,Fy,hw,hRy,hFy,wk,rebuild⟩:=R.focus p (hr k cx _ hkid hu) hat
    refine ⟨vy,Fy,by simp [walk,ownsRow_child ho hu,hw],hRy,fun c hc=>(hF c).2 (.inr ⟨k,hk,hFy c hc⟩),?_,?_⟩
    ·intro w' hs
     have hsk:∀ j c,j<cs.length->Fs j c->¬ Fy c->w'.heap[c]?=w.heap[c]?:=fun j c hj hc hn=>hs c ((hF c).2 (.inr ⟨j,hj,hc⟩)) hn
     obtain ⟨w1,w2⟩:=wk w' fun c hc hn=>hsk k c hk hc hn
     have ho':=ownsRow_of_block (w':=w') ho fun c hc=>hs c ((hF c).2 (.inl hc)) fun hyc=>hb k c hk (hFy c hyc) hc
     refine ⟨by simp [walk,ownsRow_child ho' hu,w1],?_⟩
     intro r yr hr'
     cases r with
     | nil=>exact .inr rfl
     | cons j r =>
      simp only [AV.at,AV.kids] at hr'
      cases hj:cs[j]? with
      | none=>rw [hj] at hr'; cases hr'
      | some cj =>
       rw [hj] at hr'
       simp only at hr'
       have hjl:j<cs.length:=(List.getElem?_eq_some_iff.1 hj).1
       have huj:us[j]?=some us[j]:=List.getElem?_eq_getElem (hl ▸ hjl)
       by_cases hjk:j=k
       ·subst hjk
        rw [hkid] at hj
        cases hj
        rcases w2 r yr hr' with ⟨r',rfl⟩ | h
        ·exact .inl ⟨r',rfl⟩
        ·exact .inr (by simp [walk,ownsRow_child ho hu,ownsRow_child ho' hu,h])
       ·have h:=R.walk_frame (w':=w') r (hr j cj _ hj huj) hr' fun c hc=>hsk j c hjl hc fun hyc=>hjk (hd j k c hjl hk hc (hFy c hyc))
        exact .inr (by simp [walk,ownsRow_child ho huj,ownsRow_child ho' huj,h])
    intro w' I' ρ' y' Fy' o hR' hdis hns
    have hFs:∀ j c,j<cs.length->Fs j c->F c:=fun j c hj hc=>(hF c).2 (.inr ⟨j,hj,hc⟩)
    obtain ⟨Fk,hRk,hFk⟩:=rebuild w' I' ρ' y' Fy' (o.mono (fun c hc=>hFs k c hk hc) fun c _ h=>h) hR' (fun c hc hkc=>hdis c hc (hFs k c hk hkc)) hns
    obtain ⟨hr',hd'⟩:=kids_set (get:=fun j=>us[j]?) hr hd hFs hk hFy o hu hRk fun c=>by
     constructor
     ·intro h
      rcases (hFk c).1 h with h1 | h1
      ·exact .inl h1
      ·exact .inr ⟨h,fun ⟨h2,h3⟩=>h3 (hdis c h1 h2)⟩
     ·rintro (h1 | ⟨h1,_⟩)
      ·exact (hFk c).2 (.inl h1)
      ·exact h1
    rw [hset]
    refine ⟨_,.own (Fs:=fun j=>if j=k then Fk else Fs j) (ownsRow_of_block ho fun c hc=>o.rest c ((hF c).2 (.inl hc)) fun hyc=>hb k c hk (hFy c hyc) hc) (by simpa using hl) h1 hr' hd' ?_ (fun c=>Iff.rfl),fun c=>?_⟩
    ·intro j c hj hc hvc
     rw [List.length_set] at hj
     by_cases hjk:j=k
     ·rw [if_pos hjk] at hc
      rcases (hFk c).1 hc with ⟨h1,_⟩ | h1
      ·exact hb k c hk h1 hvc
      ·exact hb k c hk (hFy c (hdis c h1 ((hF c).2 (.inl hvc)))) hvc
     ·rw [if_neg hjk] at hc; exact hb j c hj hc hvc
    ·have hu:=kids_union hk hd hFy hFk c
     simp only [List.length_set]
     rw [hu,hF c]
     have hno:v.ownBlock=some c->¬ Fy c:=fun h1 h2=>hb k c hk (hFy c h2) h1
     constructor
     ·rintro (h1 | ⟨h1,h2⟩ | h1)
      ·exact .inl ⟨.inl h1,hno h1⟩
      ·exact .inl ⟨.inr h1,h2⟩
      ·exact .inr h1
     ·rintro (⟨h1 | h1,h2⟩ | h1)
      ·exact .inl h1
      ·exact .inr (.inl ⟨h1,h2⟩)
      ·exact .inr (.inr h1)
   | @obj cs b e arr Fs _ ho hl h1 hr hd hb hF hs =>
    simp only [AV.kids] at hkid
    have hk:k<cs.length:=(List.getElem?_eq_some_iff.1 hkid).1
    have hu:arr[k]?=some arr[k]:=Array.getElem?_eq_getElem (hl ▸ hk)
    obtain ⟨vy,Fy,hw,hRy,hFy,wk,rebuild⟩:=R.focus p (hr k cx _ hkid hu) hat
    refine ⟨vy,Fy,by simp [walk,child,World.cell?,ho,hu,hw],hRy,fun c hc=>(hF c).2 (.inr ⟨k,hk,hFy c hc⟩),?_,?_⟩
    ·intro w' hs
     have hsk:∀ j c,j<cs.length->Fs j c->¬ Fy c->w'.heap[c]?=w.heap[c]?:=fun j c hj hc hn=>hs c ((hF c).2 (.inr ⟨j,hj,hc⟩)) hn
     obtain ⟨w1,w2⟩:=wk w' fun c hc hn=>hsk k c hk hc hn
     have ho':=(hs b ((hF b).2 (.inl rfl)) fun hyc=>hb k hk (hFy b hyc)).trans ho
     refine ⟨by simp [walk,child,World.cell?,ho',hu,w1],?_⟩
     intro r yr hr'
     cases r with
     | nil=>exact .inr rfl
     | cons j r =>
      simp only [AV.at,AV.kids] at hr'
      cases hj:cs[j]? with
      | none=>rw [hj] at hr'; cases hr'
      | some cj =>
       rw [hj] at hr'
       simp only at hr'
       have hjl:j<cs.length:=(List.getElem?_eq_some_iff.1 hj).1
       have huj:arr[j]?=some arr[j]:=Array.getElem?_eq_getElem (hl ▸ hjl)
       by_cases hjk:j=k
       ·subst hjk
        rw [hkid] at hj
        cases hj
        rcases w2 r yr hr' with ⟨r',rfl⟩ | h
        ·exact .inl ⟨r',rfl⟩
        ·exact .inr (by simp [walk,child,World.cell?,ho,ho',hu,h])
       ·have h:=R.walk_frame (w':=w') r (hr j cj _ hj huj) hr' fun c hc=>hsk j c hjl hc fun hyc=>hjk (hd j k c hjl hk hc (hFy c hyc))
        exact .inr (by simp [walk,child,World.cell?,ho,ho',huj,h])
    intro w' I' ρ' y' Fy' o hR' hdis hns
    have hFs:∀ j c,j<cs.length->Fs j c->F c:=fun j c hj hc=>(hF c).2 (.inr ⟨j,hj,hc⟩)
    obtain ⟨Fk,hRk,hFk⟩:=rebuild w' I' ρ' y' Fy' (o.mono (fun c hc=>hFs k c hk hc) fun c _ h=>h) hR' (fun c hc hkc=>hdis c hc (hFs k c hk hkc)) hns
    obtain ⟨hr',hd'⟩:=kids_set (get:=fun j=>arr[j]?) hr hd hFs hk hFy o hu hRk fun c=>by
     constructor
     ·intro h
      rcases (hFk c).1 h with h1 | h1
      ·exact .inl h1
      ·exact .inr ⟨h,fun ⟨h2,h3⟩=>h3 (hdis c h1 h2)⟩
     ·rintro (h1 | ⟨h1,_⟩)
      ·exact (hFk c).2 (.inl h1)
      ·exact h1
    rw [hset]
    have hbF:F b:=(hF b).2 (.inl rfl)
    have hbn:¬ Fy b:=fun h=>hb k hk (hFy b h)
    refine ⟨_,.obj (Fs:=fun j=>if j=k then Fk else Fs j) ((o.rest b hbF hbn).trans ho) (by simpa using hl) h1 hr' hd' ?_ (fun c=>Iff.rfl) (fun i j u hi hu'=>?_),fun c=>?_⟩
    ·intro j hj hc
     rw [List.length_set] at hj
     by_cases hjk:j=k
     ·rw [if_pos hjk] at hc
      rcases (hFk b).1 hc with ⟨h1,_⟩ | h1
      ·exact hb k hk h1
      ·exact hbn (hdis b h1 hbF)
     ·rw [if_neg hjk] at hc; exact hb j hj hc
    ·rcases set_getElem? hi with ⟨rfl,he,_⟩ | ⟨_,hi⟩
     ·refine hs _ j u ?_ hu'
      rw [hkid]
      cases p with
      | nil =>
       simp only [AV.at,Option.some.injEq] at hat
       rw [hat]
       exact congrArg some (hns j he.symm)
      | cons k' p'=>exact absurd he.symm (AV.setAt_ns hat)
     ·exact hs i j u hi hu'
    ·have hu:=kids_union hk hd hFy hFk c
     simp only [List.length_set]
     rw [hu,hF c]
     constructor
     ·rintro (rfl | ⟨h1,h2⟩ | h1)
      ·exact .inl ⟨.inl rfl,hbn⟩
      ·exact .inl ⟨.inr h1,h2⟩
      ·exact .inr h1
     ·rintro (⟨h1 | h1,h2⟩ | h1)
      ·exact .inl h1
      ·exact .inr (.inl ⟨h1,h2⟩)
      ·exact .inr (.inr h1)
   | @agg cs vs Fs _ hl h1 hr hd hF =>
    simp only [AV.kids] at hkid
    have hk:k<cs.length:=(List.getElem?_eq_some_iff.1 hkid).1
    have hu:vs[k]?=some vs[k]:=Array.getElem?_eq_getElem (hl ▸ hk)
    obtain ⟨vy,Fy,hw,hRy,hFy,wk,rebuild⟩:=R.focus p (hr k cx _ hkid hu) hat
    refine ⟨vy,Fy,by simp [walk,child,hu,hw],hRy,fun c hc=>(hF c).2 ⟨k,hk,hFy c hc⟩,?_,?_⟩
    ·intro w' hs
     have hsk:∀ j c,j<cs.length->Fs j c->¬ Fy c->w'.heap[c]?=w.heap[c]?:=fun j c hj hc hn=>hs c ((hF c).2 ⟨j,hj,hc⟩) hn
     obtain ⟨w1,w2⟩:=wk w' fun c hc hn=>hsk k c hk hc hn
     
     refine ⟨by simp [walk,child,hu,w1],?_⟩
     intro r yr hr'
     cases r with
     | nil=>exact .inr rfl
     | cons j r =>
      simp only [AV.at,AV.kids] at hr'
      cases hj:cs[j]? with
      | none=>rw [hj] at hr'; cases hr'
      | some cj =>
       rw [hj] at hr'
       simp only at hr'
       have hjl:j<cs.length:=(List.getElem?_eq_some_iff.1 hj).1
       have huj:vs[j]?=some vs[j]:=Array.getElem?_eq_getElem (hl ▸ hjl)
       by_cases hjk:j=k
       ·subst hjk
        rw [hkid] at hj
        cases hj
        rcases w2 r yr hr' with ⟨r',rfl⟩ | h
        ·exact .inl ⟨r',rfl⟩
        ·exact .inr (by simp [walk,child,hu,h])
       ·have h:=R.walk_frame (w':=w') r (hr j cj _ hj huj) hr' fun c hc=>hsk j c hjl hc fun hyc=>hjk (hd j k c hjl hk hc (hFy c hyc))
        exact .inr (by simp [walk,child,huj,h])
    intro w' I' ρ' y' Fy' o hR' hdis hns
    have hFs:∀ j c,j<cs.length->Fs j c->F c:=fun j c hj hc=>(hF c).2 ⟨j,hj,hc⟩
    obtain ⟨Fk,hRk,hFk⟩:=rebuild w' I' ρ' y' Fy' (o.mono (fun c hc=>hFs k c hk hc) fun c _ h=>h) hR' (fun c hc hkc=>hdis c hc (hFs k c hk hkc)) hns
    obtain ⟨hr',hd'⟩:=kids_set (get:=fun j=>vs[j]?) hr hd hFs hk hFy o hu hRk fun c=>by
     constructor
     ·intro h
      rcases (hFk c).1 h with h1 | h1
      ·exact .inl h1
      ·exact .inr ⟨h,fun ⟨h2,h3⟩=>h3 (hdis c h1 h2)⟩
     ·rintro (h1 | ⟨h1,_⟩)
      ·exact (hFk c).2 (.inl h1)
      ·exact h1
    rw [hset]
    refine ⟨_,.agg (Fs:=fun j=>if j=k then Fk else Fs j) (by simpa using hl) h1 hr' hd' (fun c=>Iff.rfl),fun c=>?_⟩
    have hu:=kids_union hk hd hFy hFk c
    simp only [List.length_set]
    rw [hu,hF c]
   | @tup cs vs Fs _ hl hr hd hF =>
    simp only [AV.kids] at hkid
    have hk:k<cs.length:=(List.getElem?_eq_some_iff.1 hkid).1
    have hu:vs[k]?=some vs[k]:=Array.getElem?_eq_getElem (hl ▸ hk)
    obtain ⟨vy,Fy,hw,hRy,hFy,wk,rebuild⟩:=R.focus p (hr k cx _ hkid hu) hat
    refine ⟨vy,Fy,by simp [walk,child,hu,hw],hRy,fun c hc=>(hF c).2 ⟨k,hk,hFy c hc⟩,?_,?_⟩
    ·intro w' hs
     have hsk:∀ j c,j<cs.length->Fs j c->¬ Fy c->w'.heap[c]?=w.heap[c]?:=fun j c hj hc hn=>hs c ((hF c).2 ⟨j,hj,hc⟩) hn
     obtain ⟨w1,w2⟩:=wk w' fun c hc hn=>hsk k c hk hc hn
     
     refine ⟨by simp [walk,child,hu,w1],?_⟩
     intro r yr hr'
     cases r with
     | nil=>exact .inr rfl
     | cons j r =>
      simp only [AV.at,AV.kids] at hr'
      cases hj:cs[j]? with
      | none=>rw [hj] at hr'; cases hr'
      | some cj =>
       rw [hj] at hr'
       simp only at hr'
       have hjl:j<cs.length:=(List.getElem?_eq_some_iff.1 hj).1
       have huj:vs[j]?=some vs[j]:=Array.getElem?_eq_getElem (hl ▸ hjl)
       by_cases hjk:j=k
       ·subst hjk
        rw [hkid] at hj
        cases hj
        rcases w2 r yr hr' with ⟨r',rfl⟩ | h
        ·exact .inl ⟨r',rfl⟩
        ·exact .inr (by simp [walk,child,hu,h])
       ·have h:=R.walk_frame (w':=w') r (hr j cj _ hj huj) hr' fun c hc=>hsk j c hjl hc fun hyc=>hjk (hd j k c hjl hk hc (hFy c hyc))
        exact .inr (by simp [walk,child,huj,h])
    intro w' I' ρ' y' Fy' o hR' hdis hns
    have hFs:∀ j c,j<cs.length->Fs j c->F c:=fun j c hj hc=>(hF c).2 ⟨j,hj,hc⟩
    obtain ⟨Fk,hRk,hFk⟩:=rebuild w' I' ρ' y' Fy' (o.mono (fun c hc=>hFs k c hk hc) fun c _ h=>h) hR' (fun c hc hkc=>hdis c hc (hFs k c hk hkc)) hns
    obtain ⟨hr',hd'⟩:=kids_set (get:=fun j=>vs[j]?) hr hd hFs hk hFy o hu hRk fun c=>by
     constructor
     ·intro h
      rcases (hFk c).1 h with h1 | h1
      ·exact .inl h1
      ·exact .inr ⟨h,fun ⟨h2,h3⟩=>h3 (hdis c h1 h2)⟩
     ·rintro (h1 | ⟨h1,_⟩)
      ·exact (hFk c).2 (.inl h1)
      ·exact h1
    rw [hset]
    refine ⟨_,.tup (Fs:=fun j=>if j=k then Fk else Fs j) (by simpa using hl) hr' hd' (fun c=>Iff.rfl),fun c=>?_⟩
    have hu:=kids_union hk hd hFy hFk c
    simp only [List.length_set]
    rw [hu,hF c]
   | ref hx _ _=>cases x <;> simp [AV.isRef,AV.kids] at hx hkid
   | _=>simp [AV.kids] at hkid
end Go.Own
namespace Go.Own
open Go
abbrev Gst:=Nat->Option AV
def atP (g:Gst) (p:Place):Option AV :=
 match g p.root with
 | some x=>x.at p.path
 | none=>none
def valAt (w:World) (T:Array Value) (p:Place):Option Value :=
 match T[p.root]? with
 | some v=>walk w v p.path
 | none=>none
def addrOf:Value->Option Addr
 | .slice (some a) _ _=>some a
 | .pointer (some a)=>some a
 | _=>none
def RefAt (w:World) (T:Array Value):AV->Value->Prop
 | .ptr p k,v=>∃ u a,valAt w T p=some u/\addrOf u=some a/\v=.pointer (some ⟨a.block,a.off+k,none⟩)
 | .brw _ p n,v=>∃ a N cap,valAt w T p=some (.slice a N cap)/\v=.slice a n cap/\n<=N
 | .sub z p lo n,v=>∃ a N cap a' cap',valAt w T p=some (.slice a N cap)/\v=.slice a' n cap'/\n<=cap'/\lo+n<=N/\(0<n->∃ ad,a=some ad/\a'=some ⟨ad.block,ad.off+lo * z,none⟩)
 | .pend _ p n _ _,v=>∃ a cap,valAt w T p=some (.slice a n cap)/\v=.slice a n cap
 | .mref p,v=>∃ b,valAt w T p=some (.map b)/\v=.map b
 | _,_=>False
def RefOk (g:Gst):AV->Prop
 | .ptr p k=>∃ y,atP g p=some y/\(∃ z n cs,(y=.own z n cs\/y=.obj cs)/\k<cs.length)
 | .brw z p n=>(∃ N cs,atP g p=some (.own z N cs)/\n<=N)\/(p.path=[]/\∃ q n0 m new,g p.root=some (.pend z q n0 m new)/\n=n0+m)
 | .sub z p lo n=>∃ N cs,atP g p=some (.own z N cs)/\lo+n<=N
 | .pend z p n _ _=>(∃ cs,atP g p=some (.own z n cs))\/(p.path=[]/\∃ q n0 m new cs,g p.root=some (.pend z q n0 m new)/\n=n0+m/\atP g q=some (.own z n0 cs))
 | .mref p=>∃ q,atP g p=some (.mp q)
 | _=>False
def RG (w:World) (T:Array Value) (g:Gst) (r:AV) (v:Value):Prop:=RefAt w T r v/\RefOk g r
structure RPend (w:World) (I:BSet) (ρ:AV->Value->Prop) (z:Nat) (p:Place) (n m:Nat) (new:List AV) (v:Value) (F:BSet) (bv:Value) (e e2:TypeId) (us news:List Value):Prop where
 hbv:ρ (.pend z p n 0 []) bv
 hob:w.ownsRow 0 e z bv n us
 hov:w.ownsRow 0 e2 z v (n+m) (us++news)
 hl:new.length=news.length
 h1:∀ (k:Nat) (u:Value),news[k]?=some u->u.oneCell'=true
 hr:∀ (k:Nat) (x:AV) (u:Value),new[k]?=some x->news[k]?=some u->R w I ρ x u (fun _=>False)
 hF:∀ c,F c↔v.ownBlock=some c/\bv.ownBlock≠some c
inductive RT (w:World) (I:BSet) (ρ:AV->Value->Prop):AV->Value->BSet->Prop
 | tree {x:AV}{v:Value}{F:BSet}(h:R w I ρ x v F):RT w I ρ x v F
 | pend {z n m:Nat}{p:Place}{new:List AV}{v bv:Value}{e e2:TypeId}{us news:List Value}{F:BSet}(h:RPend w I ρ z p n m new v F bv e e2 us news):RT w I ρ (.pend z p n m new) v F
theorem R.notPend {w:World}{I:BSet}{ρ:AV->Value->Prop}{z n m:Nat}{p:Place}{new:List AV}{v:Value}{F:BSet}(h:R w I ρ (.pend z p n m new) v F):False:=by
 cases h with
 | ref hx=>simp [AV.isRef] at hx
theorem RT.isTree {w:World}{I:BSet}{ρ:AV->Value->Prop}{x:AV}{v:Value}{F:BSet}(h:RT w I ρ x v F) (hx:∀ z p n m new,x≠.pend z p n m new):R w I ρ x v F:=by
 cases h with
 | tree h=>exact h
 | pend=>exact absurd rfl (hx _ _ _ _ _)
theorem RT.isPend {w:World}{I:BSet}{ρ:AV->Value->Prop}{z n m:Nat}{p:Place}{new:List AV}{v:Value}{F:BSet}(h:RT w I ρ (.pend z p n m new) v F):∃ bv e e2 us news,RPend w I ρ z p n m new v F bv e e2 us news:=by
 cases h with
 | tree h=>exact h.notPend.elim
 | pend h=>exact ⟨_,_,_,_,_,h⟩
theorem RT.lt {w:World}{I:BSet}{ρ:AV->Value->Prop}{x:AV}{v:Value}{F:BSet}(h:RT w I ρ x v F):∀ c,F c->c<w.heap.size:=by
 cases h with
 | tree h=>exact h.lt
 | pend h=>exact fun c hc=>(h.hov.lt c ((h.hF c).1 hc).1).2
theorem RT.frame {w w':World}{I I':BSet}{ρ ρ':AV->Value->Prop}{x:AV}{v:Value}{F:BSet}(h:RT w I ρ x v F)
  (hI:∀ c,I c->w'.heap[c]?=w.heap[c]?) (hII:∀ c,I c->I' c) (hρ:∀ x v,ρ x v->ρ' x v)
  (hP:∀ z p n bv,ρ (.pend z p n 0 []) bv->∀ c,bv.ownBlock=some c->w'.heap[c]?=w.heap[c]?)
  (hf:∀ c,F c->w'.heap[c]?=w.heap[c]?):RT w' I' ρ' x v F:=by
 cases h with
 | tree h=>exact .tree (h.frame hI hII hρ hf)
 | @pend z n m p new v bv e e2 us news F h =>
  have hb:=hP _ _ _ _ h.hbv
  refine .pend ⟨hρ _ _ h.hbv,ownsRow_of_block h.hob hb,ownsRow_of_block h.hov fun c hc=>?_,h.hl,h.h1,fun k x u hx hu=>(h.hr k x u hx hu).frame hI hII hρ fun c hc=>hc.elim,h.hF⟩
  by_cases hbc:bv.ownBlock=some c
  ·exact hb c hbc
  ·exact hf c ((h.hF c).2 ⟨hc,hbc⟩)
theorem AV.at_pend {z n m:Nat}{p:Place}{new:List AV}{q:List Nat}{y:AV}(h:(AV.pend z p n m new).at q=some y):q=[]/\y=.pend z p n m new:=by
 cases q with
 | nil=>simp [AV.at] at h; exact ⟨rfl,h.symm⟩
 | cons k q=>simp [AV.at,AV.kids] at h
class TB where
 q:World->BSet->Prop
 keep:∀ {w w':World}{I I':BSet},q w I->(∀ c,I c->w'.heap[c]?=w.heap[c]?)->(∀ c,I c->I' c)->q w' I'
set_option linter.unusedSectionVars false
variable [TB]
structure SR (w:World) (I:BSet) (T:Array Value) (g:Gst) (Fs:Nat->BSet):Prop where
 rel:∀ t x,g t=some x->∃ v,T[t]?=some v/\RT w I (RG w T g) x v (Fs t)
 non:∀ t,g t=none->∀ c,¬ Fs t c
 dis:∀ t t' c,Fs t c->Fs t' c->t=t'
 imm:∀ t c,Fs t c->¬ I c
 lt:∀ c,I c->c<w.heap.size
 pok:∀ t t' z p n m new z' n' m' new',g t=some (.pend z p n m new)->g t'=some (.pend z' p n' m' new')->t=t'
 tb:TB.q w I
section
variable {w:World}{I:BSet}{T:Array Value}{g:Gst}{Fs:Nat->BSet}
theorem SR.part (h:SR w I T g Fs) {p:Place}{y:AV}(hp:atP g p=some y) (hy:∀ z q n m new,y≠.pend z q n m new):∃ v Fy,valAt w T p=some v/\R w I (RG w T g) y v Fy/\(∀ c,Fy c->Fs p.root c):=by
 unfold atP at hp
 cases hx:g p.root with
 | none=>rw [hx] at hp; cases hp
 | some x =>
  rw [hx] at hp
  obtain ⟨v,hv,hR⟩:=h.rel _ _ hx
  replace hR:=hR.isTree (by
   rintro z q n m new rfl
   exact hy _ _ _ _ _ (AV.at_pend hp).2)
  obtain ⟨vy,Fy,hw,hRy,hFy,_⟩:=R.focus p.path hR hp
  exact ⟨vy,Fy,by simp [valAt,hv,hw],hRy,hFy⟩
theorem R.own_block {ρ:AV->Value->Prop}{z n:Nat}{cs:List AV}{v:Value}{F:BSet}(h:R w I ρ (.own z n cs) v F):∀ c,v.ownBlock=some c->F c:=by
 cases h with
 | own ho hl h1 hr hd hb hF=>exact fun c hc=>(hF c).2 (.inl hc)
 | ref hx=>simp [AV.isRef] at hx
theorem R.own_slice {ρ:AV->Value->Prop}{z n:Nat}{cs:List AV}{v:Value}{F:BSet}(h:R w I ρ (.own z n cs) v F) :
  ∃ a cap,v=.slice a n cap/\n<=cap/\cs.length=n * z/\(∀ ad,a=some ad->ad.off=0/\ad.spot=none)/\(0<n->a.isSome=true):=by
 cases h with
 | own ho hl h1 hr hd hb hF =>
  obtain ⟨h1,h2⟩:=ho
  rcases h2 with ⟨rfl,rfl⟩ | ⟨b,cap,cur,rfl,_,_,hn,_⟩
  ·exact ⟨none,0,rfl,Nat.le_refl _,by simp [hl,h1],by simp,by simp⟩
  ·exact ⟨_,cap,rfl,hn,by simp [hl,h1],by rintro ad ⟨⟩; exact ⟨rfl,rfl⟩,by simp⟩
 | ref hx=>simp [AV.isRef] at hx
theorem SR.valAt_same (h:SR w I T g Fs) {w':World}{T':Array Value}(hT:∀ t,g t≠none->T'[t]?=T[t]?) (hF:∀ t c,Fs t c->w'.heap[c]?=w.heap[c]?) {p:Place}{y:AV}(hp:atP g p=some y) :
  valAt w' T' p=valAt w T p:=by
 unfold atP at hp
 cases hx:g p.root with
 | none=>rw [hx] at hp; cases hp
 | some x =>
  rw [hx] at hp
  obtain ⟨v,hv,hR⟩:=h.rel _ _ hx
  have hv':T'[p.root]?=some v:=by rw [hT _ (by rw [hx]; simp),hv]
  cases hR with
  | tree hR =>
   have:=R.walk_frame (w':=w') p.path hR hp fun c hc=>hF _ c hc
   simp [valAt,hv,hv',this]
  | pend hR=>simp [valAt,hv,hv',(AV.at_pend hp).1,walk]
theorem atP_mono {g g':Gst}(hg:∀ t x,g t=some x->g' t=some x) {p:Place}{y:AV}(hp:atP g p=some y):atP g' p=some y:=by
 unfold atP at *
 cases hx:g p.root with
 | none=>rw [hx] at hp; cases hp
 | some x=>rw [hx] at hp; rw [hg _ _ hx]; exact hp
theorem RefOk.mono {g g':Gst}(hg:∀ t x,g t=some x->g' t=some x) {r:AV}(h:RefOk g r):RefOk g' r:=by
 cases r <;> simp only [RefOk] at h ⊢
 case ptr p k=>obtain ⟨y,hy,h⟩:=h; exact ⟨y,atP_mono hg hy,h⟩
 case brw z p n =>
  rcases h with ⟨N,cs,h1,h2⟩ | ⟨h0,q,n0,m,new,h1,h2⟩
  ·exact .inl ⟨N,cs,atP_mono hg h1,h2⟩
  ·exact .inr ⟨h0,q,n0,m,new,hg _ _ h1,h2⟩
 case sub z p lo n=>obtain ⟨N,cs,h1,h2⟩:=h; exact ⟨N,cs,atP_mono hg h1,h2⟩
 case pend z p n m new =>
  rcases h with ⟨cs,h1⟩ | ⟨h0,q,n0,m',new',cs,h1,h2,h3⟩
  ·exact .inl ⟨cs,atP_mono hg h1⟩
  ·exact .inr ⟨h0,q,n0,m',new',cs,hg _ _ h1,h2,atP_mono hg h3⟩
 case mref p=>obtain ⟨q,h⟩:=h; exact ⟨q,atP_mono hg h⟩
theorem SR.ref_same (h:SR w I T g Fs) {w':World}{T':Array Value}{g':Gst}(hT:∀ t,g t≠none->T'[t]?=T[t]?) (hF:∀ t c,Fs t c->w'.heap[c]?=w.heap[c]?)
  (hg:∀ t x,g t=some x->g' t=some x) {r:AV}{v:Value}(hr:RG w T g r v):RG w' T' g' r v:=by
 obtain ⟨h1,h2⟩:=hr
 refine ⟨?_,h2.mono hg⟩
 have slot:∀ {p:Place}{x:AV},p.path=[]->g p.root=some x->valAt w' T' p=valAt w T p:=by
  intro p x hp hx
  obtain ⟨v,hv,_⟩:=h.rel _ _ hx
  simp [valAt,hp,walk,hT p.root (by rw [hx]; simp)]
 cases r <;> simp only [RefAt,RefOk] at h1 h2 ⊢
 case ptr p k =>
  obtain ⟨y,hy,_⟩:=h2
  rw [h.valAt_same hT hF hy]; exact h1
 case brw z p n =>
  rcases h2 with ⟨N,cs,h2,_⟩ | ⟨h0,q,n0,m,new,h2,_⟩
  ·rw [h.valAt_same hT hF h2]; exact h1
  ·rw [slot h0 h2]; exact h1
 case sub z p lo n =>
  obtain ⟨N,cs,h2,_⟩:=h2
  rw [h.valAt_same hT hF h2]; exact h1
 case pend z p n m new =>
  rcases h2 with ⟨cs,h2⟩ | ⟨h0,q,n0,m',new',cs,h2,_⟩
  ·rw [h.valAt_same hT hF h2]; exact h1
  ·rw [slot h0 h2]; exact h1
 case mref p =>
  obtain ⟨q,h2⟩:=h2
  rw [h.valAt_same hT hF h2]; exact h1
theorem SR.base_block (h:SR w I T g Fs) {z n:Nat}{p:Place}{bv:Value}(hr:RG w T g (.pend z p n 0 []) bv):∀ c,bv.ownBlock=some c->∃ t,Fs t c:=by
 obtain ⟨⟨a,cap,h1,rfl⟩,h2⟩:=hr
 intro c hc
 have own:∀ {q:Place}{n0:Nat}{cs:List AV}{v:Value},atP g q=some (.own z n0 cs)->valAt w T q=some v->v.ownBlock=some c->∃ t,Fs t c:=by
  intro q n0 cs v hq hv hc
  obtain ⟨v',Fy,hv',hR,hFy⟩:=h.part hq (by simp)
  rw [hv] at hv'
  cases hv'
  exact ⟨_,hFy c (hR.own_block c hc)⟩
 rcases h2 with ⟨cs,h2⟩ | ⟨h0,q,n0,m,new,cs,h2,rfl,h3⟩
 ·exact own h2 h1 hc
 ·obtain ⟨v,hv,hR⟩:=h.rel _ _ h2
  have hvv:v=.slice a (n0+m) cap:=by
   simp only [valAt,hv,h0,walk,Option.some.injEq] at h1
   exact h1
  obtain ⟨bv2,e,e2,us,news,hR⟩:=hR.isPend
  by_cases hb2:bv2.ownBlock=some c
  ·obtain ⟨⟨a2,cap2,h4,rfl⟩,_⟩:=hR.hbv
   exact own h3 h4 hb2
  ·exact ⟨_,(hR.hF c).2 ⟨by rw [hvv]; exact hc,hb2⟩⟩
theorem SR.frame (h:SR w I T g Fs) {w':World}{I':BSet}{T':Array Value}{g':Gst}(hT:∀ t,g t≠none->T'[t]?=T[t]?) (hF:∀ t c,Fs t c->w'.heap[c]?=w.heap[c]?)
  (hI:∀ c,I c->w'.heap[c]?=w.heap[c]?) (hII:∀ c,I c->I' c) (hg:∀ t x,g t=some x->g' t=some x) {x:AV}{v:Value}{F:BSet}(hR:R w I (RG w T g) x v F)
  (hFF:∀ c,F c->w'.heap[c]?=w.heap[c]?):R w' I' (RG w' T' g') x v F :=
 hR.frame hI hII (fun _ _ hr=>h.ref_same hT hF hg hr) hFF
theorem SR.frameT (h:SR w I T g Fs) {w':World}{I':BSet}{T':Array Value}{g':Gst}(hT:∀ t,g t≠none->T'[t]?=T[t]?) (hF:∀ t c,Fs t c->w'.heap[c]?=w.heap[c]?)
  (hI:∀ c,I c->w'.heap[c]?=w.heap[c]?) (hII:∀ c,I c->I' c) (hg:∀ t x,g t=some x->g' t=some x) {x:AV}{v:Value}{F:BSet}(hR:RT w I (RG w T g) x v F)
  (hFF:∀ c,F c->w'.heap[c]?=w.heap[c]?):RT w' I' (RG w' T' g') x v F :=
 hR.frame hI hII (fun _ _ hr=>h.ref_same hT hF hg hr) (fun _ _ _ _ hr c hc=>by obtain ⟨t,ht⟩:=h.base_block hr c hc; exact hF t c ht) hFF
def upd (g:Gst) (d:Nat) (x:AV):Gst:=fun t=>if t=d then some x else g t
def updF (Fs:Nat->BSet) (d:Nat) (F:BSet):Nat->BSet:=fun t=>if t=d then F else Fs t
theorem upd_mono {d:Nat}{x:AV}(hd:g d=none):∀ t y,g t=some y->upd g d x t=some y:=by
 intro t y hy
 unfold upd
 split
 ·rename_i h; subst h; rw [hd] at hy; cases hy
 ·exact hy
end
end Go.Own
namespace Go.Own
open Go
set_option linter.unusedSectionVars false
variable [TB]
theorem walk_append (w:World):∀ (p:List Nat) (v:Value) (k:Nat),walk w v (p++[k])=(walk w v p).bind fun u=>child w u k
 | [],v,k=>by simp [walk]; cases child w v k <;> rfl
 | j::p,v,k=>by
  simp only [List.cons_append,walk]
  cases child w v j with
  | none=>rfl
  | some u=>exact walk_append w p u k
theorem at_append:∀ (p:List Nat) (x:AV) (k:Nat),x.at (p++[k])=(x.at p).bind fun y=>y.kids[k]?
 | [],x,k=>by simp [AV.at]; cases x.kids[k]? <;> rfl
 | j::p,x,k=>by
  simp only [List.cons_append,AV.at]
  cases x.kids[j]? with
  | none=>rfl
  | some u=>exact at_append p u k
theorem atP_push (g:Gst) (p:Place) (k:Nat):atP g (p.push k)=(atP g p).bind fun y=>y.kids[k]?:=by
 unfold atP Place.push
 cases g p.root with
 | none=>rfl
 | some x=>simp [at_append]
theorem valAt_push (w:World) (T:Array Value) (p:Place) (k:Nat):valAt w T (p.push k)=(valAt w T p).bind fun u=>child w u k:=by
 unfold valAt Place.push
 cases T[p.root]? with
 | none=>rfl
 | some x=>simp [walk_append]
def refIn:Nat->Place->AV->AV
 | _,p,.own z n _=>.brw z p n
 | _,p,.obj (_::_)=>.ptr p 0
 | _,_,.obj []=>.dead
 | _,_,.pend ..=>.dead
 | _,_,.self _=>.dead
 | _,_,.brow ..=>.dead
 | _,p,.mp _=>.mref p
 | d+1,p,.agg cs=>.agg (cs.mapIdx fun i x=>refIn d (p.push i) x)
 | d+1,p,.tup cs=>.tup (cs.mapIdx fun i x=>refIn d (p.push i) x)
 | 0,_,.agg _=>.dead
 | 0,_,.tup _=>.dead
 | _,_,x=>x
def refTop (t:Nat):AV->AV
 | .pend z _ n m _=>.brw z ⟨t,[]⟩ (n+m)
 | x=>refIn 2 ⟨t,[]⟩ x
def ofCell:Value->AV
 | .slice none 0 0=>.nils
 | .agg _=>.dead
 | .tuple _=>.dead
 | v=>.lit v
def ofConst:Value->AV
 | .agg vs=>if vs.all Value.oneCell' then .agg (vs.toList.map ofCell) else .dead
 | .tuple _=>.dead
 | v=>ofCell v
def opd (g:Gst):Operand->Option AV
 | .tmp t=>(g t).map (refTop t)
 | .const v=>some (ofConst v)
 | .func f=>some (.clo (.func f) [] [])
 | .global _=>none
theorem refIn_ns {d:Nat}{p:Place}{x:AV}{j:Nat × Nat}:refIn d p x≠.self j:=by
 cases x with
 | obj cs=>cases d <;> cases cs <;> simp [refIn]
 | _=>cases d <;> simp [refIn]
theorem refTop_okA {t:Nat}{x:AV}:OkA (refTop t x):=by
 intro cs h k j hk
 cases x with
 | obj cs=>cases cs <;> simp [refTop,refIn] at h
 | agg l =>
  simp only [refTop,refIn,AV.agg.injEq] at h
  subst h
  rw [List.getElem?_mapIdx] at hk
  cases hx:l[k]? with
  | none=>rw [hx] at hk; cases hk
  | some x=>rw [hx] at hk; simp only [Option.map_some,Option.some.injEq] at hk; exact refIn_ns hk
 | _=>simp [refTop,refIn] at h
theorem ofCell_ns (v:Value) (j:Nat × Nat):ofCell v≠.self j:=by
 unfold ofCell; split <;> simp
theorem ofCells_ns (vs:List Value):NoSelf (vs.map ofCell):=fun k j=>by
 rw [List.getElem?_map]
 cases vs[k]? with
 | none=>simp
 | some v=>simp [ofCell_ns]
theorem opd_okA {g:Gst}{o:Operand}{x:AV}(h:opd g o=some x):OkA x:=by
 cases o with
 | tmp t =>
  simp only [opd] at h
  cases ht:g t with
  | none=>rw [ht] at h; cases h
  | some y=>rw [ht] at h; simp only [Option.map_some,Option.some.injEq] at h; exact h ▸ refTop_okA
 | const v =>
  simp only [opd,Option.some.injEq] at h
  subst h
  intro cs h
  unfold ofConst at h
  split at h
  ·split at h
   ·cases h; exact ofCells_ns _
   ·cases h
  ·cases h
  ·unfold ofCell at h; split at h <;> cases h
 | func f=>simp only [opd,Option.some.injEq] at h; subst h; intro cs h; cases h
 | global n=>cases h
theorem opd_ns {g:Gst}{o:Operand}{x:AV}(h:opd g o=some x) (j:Nat × Nat):x≠.self j:=by
 cases o with
 | tmp t =>
  simp only [opd] at h
  cases ht:g t with
  | none=>rw [ht] at h; cases h
  | some y =>
   rw [ht] at h
   simp only [Option.map_some,Option.some.injEq] at h
   subst h
   cases y with
   | pend=>simp [refTop]
   | _=>exact refIn_ns
 | const v =>
  simp only [opd,Option.some.injEq] at h
  subst h
  unfold ofConst
  split
  ·split <;> simp
  ·simp
  ·exact ofCell_ns _ _
 | func f=>simp only [opd,Option.some.injEq] at h; subst h; simp
 | global n=>cases h
abbrev E0:BSet:=fun _=>False
section
variable {w:World}{I:BSet}{T:Array Value}{g:Gst}{Fs:Nat->BSet}
theorem R.empty {ρ:AV->Value->Prop}{x:AV}{v:Value}{F:BSet}(h:R w I ρ x v F) (hF:∀ c,¬ F c):R w I ρ x v E0:=h.congrF fun c=>⟨fun hc=>hF c hc,fun hc=>hc.elim⟩
theorem refIn_sound:∀ (d:Nat) {p:Place}{x:AV}{v:Value}{F:BSet},atP g p=some x->valAt w T p=some v->R w I (RG w T g) x v F->R w I (RG w T g) (refIn d p x) v E0:=by
 intro d
 induction d with
 | zero =>
  intro p x v F hp hv hR
  cases hR with
  | lit hl hF=>exact .lit hl fun _ h=>h
  | nils hF=>exact .nils fun _ h=>h
  | dead hF=>exact .dead fun _ h=>h
  | slf hF=>exact .dead fun _ h=>h
  | brow=>exact .dead fun _ h=>h
  | ref hx hr hF=>cases x <;> simp [AV.isRef] at hx <;> exact .ref rfl hr fun _ h=>h
  | mp=>exact .ref rfl ⟨⟨_,hv,rfl⟩,⟨_,hp⟩⟩ fun _ h=>h
  | imp hF hI ho hq=>exact .imp (fun _ h=>h) hI ho hq
  | imm0 hF=>exact .imm0 fun _ h=>h
  | imm hF hcap hI hs hl h1 hc hr=>exact .imm (fun _ h=>h) hcap hI hs hl h1 hc hr
  | iptr hF hI hs h1 hc hr=>exact .iptr (fun _ h=>h) hI hs h1 hc hr
  | own ho hl h1 hr hd hb hF =>
   have hown:=R.own (I:=I) (ρ:=RG w T g) ho hl h1 hr hd hb hF
   obtain ⟨a,cap,rfl,hn,_⟩:=hown.own_slice
   exact .ref rfl ⟨⟨a,_,cap,hv,rfl,Nat.le_refl _⟩,.inl ⟨_,_,hp,Nat.le_refl _⟩⟩ fun _ h=>h
  | @obj cs b e arr Fs' _ ho hl h1 hr hd hb hF =>
   cases cs with
   | nil=>exact .dead fun _ h=>h
   | cons c cs=>exact .ref rfl ⟨⟨_,_,hv,rfl,rfl⟩,⟨_,hp,0,0,_,.inr rfl,by simp⟩⟩ fun _ h=>h
  | agg=>exact .dead fun _ h=>h
  | tup=>exact .dead fun _ h=>h
  | clo hF h1 h2 hr1 hr2=>exact .clo (fun _ h=>h) h1 h2 hr1 hr2
 | succ d ih =>
  intro p x v F hp hv hR
  cases hR with
  | lit hl hF=>exact .lit hl fun _ h=>h
  | nils hF=>exact .nils fun _ h=>h
  | dead hF=>exact .dead fun _ h=>h
  | slf hF=>exact .dead fun _ h=>h
  | brow=>exact .dead fun _ h=>h
  | ref hx hr hF=>cases x <;> simp [AV.isRef] at hx <;> exact .ref rfl hr fun _ h=>h
  | mp=>exact .ref rfl ⟨⟨_,hv,rfl⟩,⟨_,hp⟩⟩ fun _ h=>h
  | imp hF hI ho hq=>exact .imp (fun _ h=>h) hI ho hq
  | imm0 hF=>exact .imm0 fun _ h=>h
  | imm hF hcap hI hs hl h1 hc hr=>exact .imm (fun _ h=>h) hcap hI hs hl h1 hc hr
  | iptr hF hI hs h1 hc hr=>exact .iptr (fun _ h=>h) hI hs h1 hc hr
  | own ho hl h1 hr hd hb hF =>
   have hown:=R.own (I:=I) (ρ:=RG w T g) ho hl h1 hr hd hb hF
   obtain ⟨a,cap,rfl,hn,_⟩:=hown.own_slice
   exact .ref rfl ⟨⟨a,_,cap,hv,rfl,Nat.le_refl _⟩,.inl ⟨_,_,hp,Nat.le_refl _⟩⟩ fun _ h=>h
  | @obj cs b e arr Fs' _ ho hl h1 hr hd hb hF =>
   cases cs with
   | nil=>exact .dead fun _ h=>h
   | cons c cs=>exact .ref rfl ⟨⟨_,_,hv,rfl,rfl⟩,⟨_,hp,0,0,_,.inr rfl,by simp⟩⟩ fun _ h=>h
  | @agg cs vs Fs' _ hl h1 hr hd hF =>
   refine .agg (Fs:=fun _=>E0) (by simpa using hl) h1 ?_ (fun _ _ _ _ _ h=>h.elim) (fun c=>⟨fun h=>h.elim,fun ⟨_,_,h⟩=>h⟩)
   intro k y u hy hu
   rw [List.getElem?_mapIdx] at hy
   cases hk:cs[k]? with
   | none=>rw [hk] at hy; cases hy
   | some z =>
    rw [hk] at hy
    cases hy
    exact ih (by rw [atP_push,hp]; exact hk) (by rw [valAt_push,hv]; exact hu) (hr k z u hk hu)
  | @tup cs vs Fs' _ hl hr hd hF =>
   refine .tup (Fs:=fun _=>E0) (by simpa using hl) ?_ (fun _ _ _ _ _ h=>h.elim) (fun c=>⟨fun h=>h.elim,fun ⟨_,_,h⟩=>h⟩)
   intro k y u hy hu
   rw [List.getElem?_mapIdx] at hy
   cases hk:cs[k]? with
   | none=>rw [hk] at hy; cases hy
   | some z =>
    rw [hk] at hy
    cases hy
    exact ih (by rw [atP_push,hp]; exact hk) (by rw [valAt_push,hv]; exact hu) (hr k z u hk hu)
  | clo hF h1 h2 hr1 hr2=>exact .clo (fun _ h=>h) h1 h2 hr1 hr2
theorem ofCell_sound {ρ:AV->Value->Prop}(v:Value):R w I ρ (ofCell v) v E0:=by
 unfold ofCell
 split
 ·exact .nils fun _ h=>h
 ·exact .dead fun _ h=>h
 ·exact .dead fun _ h=>h
 ·rename_i h1 h2 h3
  refine .lit ?_ fun _ h=>h
  cases v <;> first | rfl | (exact absurd rfl (h2 _)) | (exact absurd rfl (h3 _))
theorem ofConst_sound {ρ:AV->Value->Prop}(v:Value):R w I ρ (ofConst v) v E0:=by
 unfold ofConst
 split
 ·rename_i vs
  split
  ·rename_i hall
   refine .agg (Fs:=fun _=>E0) (by simp) (fun k u hu=>?_) ?_ (fun _ _ _ _ _ h=>h.elim) (fun c=>⟨fun h=>h.elim,fun ⟨_,_,h⟩=>h⟩)
   ·exact Array.all_eq_true_iff_forall_mem.1 hall u (Array.mem_of_getElem? hu)
   ·intro k x u hx hu
    simp only [List.getElem?_map,Array.getElem?_toList,hu,Option.map_some,Option.some.injEq] at hx
    subst hx
    exact ofCell_sound u
  ·exact .dead fun _ h=>h
 ·exact .dead fun _ h=>h
 ·exact ofCell_sound v
theorem opd_sound (h:SR w I T g Fs) {x:Operand}{y:AV}(hy:opd g x=some y) {a:Act}(ha:a.tmps=T):R w I (RG w T g) y (a.eval x) E0:=by
 cases x with
 | tmp t =>
  simp only [opd] at hy
  cases hx:g t with
  | none=>rw [hx] at hy; cases hy
  | some z =>
   rw [hx] at hy
   simp only [Option.map_some,Option.some.injEq] at hy
   obtain ⟨v,hv,hR⟩:=h.rel t z hx
   have hev:a.eval (.tmp t)=v:=by simp [Act.eval,ha,hv]
   rw [hev]
   have hp:atP g ⟨t,[]⟩=some z:=by simp [atP,hx,AV.at]
   have hva:valAt w T ⟨t,[]⟩=some v:=by simp [valAt,hv,walk]
   subst hy
   cases hR with
   | tree hR =>
    cases z with
    | pend=>exact hR.notPend.elim
    | _=>exact refIn_sound 2 hp hva hR
   | @pend zz n m p new v bv e e2 us news _ hR =>
    simp only [refTop]
    have:∃ a cap,v=.slice a (n+m) cap:=by
     obtain ⟨_,h2⟩:=hR.hov
     rcases h2 with ⟨h2,h3⟩ | ⟨b,cap,cur,h2,_⟩
     ·exact ⟨none,0,by rw [h2]; congr 1; omega⟩
     ·exact ⟨_,cap,h2⟩
    obtain ⟨a',cap,rfl⟩:=this
    exact .ref rfl ⟨⟨a',_,cap,hva,rfl,Nat.le_refl _⟩,.inr ⟨rfl,p,n,m,new,hx,rfl⟩⟩ fun _ h=>h
 | const v=>simp only [opd,Option.some.injEq] at hy; subst hy; exact ofConst_sound v
 | global n=>simp [opd] at hy
 | func f =>
  simp only [opd,Option.some.injEq] at hy
  subst hy
  exact .clo (fun _ h=>h) rfl rfl (by simp) (by simp)
end
end Go.Own
namespace Go.Own
open Go
set_option linter.unusedSectionVars false
variable [TB]
def cellT (P:Program) (t:TypeId):Bool :=
 match P.underlying t,P.info? t with
 | some (.struct _),_=>false
 | some (.array ..),_=>false
 | some _,some i=>i.size == 1
 | _,_=>false
def aggT (P:Program) (t:TypeId) (k:Nat):Bool :=
 match P.underlying t,P.info? t with
 | some (.struct _),some i=>i.size == k
 | some (.array ..),some i=>i.size == k
 | _,_=>false
def slT (P:Program) (t e:TypeId) (z:Nat):Bool :=
 match P.underlying t,P.info? e with
 | some (.slice e'),some i=>e' == e&&i.size == z
 | _,_=>false
def arrT (P:Program) (t e:TypeId) (n z:Nat):Bool :=
 match P.underlying t,P.info? e with
 | some (.array n' e'),some i=>n' == n&&e' == e&&i.size == z
 | _,_=>false
def strT (P:Program) (t:TypeId):Bool :=
 match P.underlying t with
 | some .string=>true
 | _=>false
def bytT (P:Program) (s d:TypeId):Bool :=
 match P.underlying s,P.underlying d with
 | some (.slice e),some .string=>match P.underlying e with
  | some (.int .u8)=>true
  | _=>false
 | _,_=>false
def fldT (P:Program) (s:TypeId) (f off:Nat) (t:TypeId):Bool :=
 match P.underlying s with
 | some (.struct fs) =>
  match fs[f]? with
  | some fd=>fd.offset == off&&fd.type == t&&(match P.info? t with | some i=>i.size != 0 | none=>false)
  | none=>false
 | _=>false
section
variable {P:Program}{w:World}
theorem cellT_spec {t:TypeId}(h:cellT P t=true):(isAgg t).run P w=.ok false w/\(sizeOf t).run P w=.ok 1 w:=by
 unfold cellT at h
 cases hu:P.underlying t with
 | none=>simp [hu] at h
 | some d =>
  cases hi:P.info? t with
  | none=>cases d <;> simp [hu,hi] at h
  | some i=>cases d <;> simp [hu,hi] at h <;> simp [isAgg,run_underlying hu,sizeOf,typeInfo,hi,h]
theorem aggT_spec {t:TypeId}{k:Nat}(h:aggT P t k=true):(isAgg t).run P w=.ok true w/\(sizeOf t).run P w=.ok k w:=by
 unfold aggT at h
 cases hu:P.underlying t with
 | none=>simp [hu] at h
 | some d =>
  cases hi:P.info? t with
  | none=>cases d <;> simp [hu,hi] at h
  | some i=>cases d <;> simp [hu,hi] at h <;> simp [isAgg,run_underlying hu,sizeOf,typeInfo,hi,h]
theorem slT_spec {t e:TypeId}{z:Nat}(h:slT P t e z=true):P.underlying t=some (.slice e)/\P.elem t=e/\(sizeOf e).run P w=.ok z w:=by
 unfold slT at h
 cases hu:P.underlying t with
 | none=>simp [hu] at h
 | some d =>
  cases hi:P.info? e with
  | none=>cases d <;> simp [hu,hi] at h
  | some i =>
   cases d <;> simp [hu,hi] at h
   obtain ⟨rfl,h⟩:=h
   exact ⟨rfl,by simp [Program.elem,hu],by simp [sizeOf,typeInfo,hi,h]⟩
theorem arrT_spec {t e:TypeId}{n z:Nat}(h:arrT P t e n z=true):P.underlying t=some (.array n e)/\(sizeOf e).run P w=.ok z w:=by
 unfold arrT at h
 cases hu:P.underlying t with
 | none=>simp [hu] at h
 | some d =>
  cases hi:P.info? e with
  | none=>cases d <;> simp [hu,hi] at h
  | some i =>
   cases d <;> simp [hu,hi] at h
   obtain ⟨⟨rfl,rfl⟩,h⟩:=h
   exact ⟨rfl,by simp [sizeOf,typeInfo,hi,h]⟩
theorem bytT_spec {s d:TypeId}(h:bytT P s d=true):∃ e,P.underlying s=some (.slice e)/\P.underlying e=some (.int .u8)/\P.underlying d=some .string:=by
 unfold bytT at h
 split at h
 ·rename_i e h1 h2
  split at h
  ·rename_i h3
   exact ⟨e,h1,h3,h2⟩
  ·cases h
 ·cases h
theorem strT_spec {t:TypeId}(h:strT P t=true):P.underlying t=some .string:=by
 unfold strT at h
 cases hu:P.underlying t with
 | none=>simp [hu] at h
 | some d=>cases d <;> simp [hu] at h; rfl
theorem fldT_spec {s:TypeId}{f off:Nat}{t:TypeId}(h:fldT P s f off t=true):∃ fs fd,P.underlying s=some (.struct fs)/\fs[f]?=some fd/\fd.offset=off/\fd.type=t/\∃ i,P.info? t=some i/\i.size≠0:=by
 unfold fldT at h
 cases hu:P.underlying s with
 | none=>simp [hu] at h
 | some d =>
  cases d <;> simp [hu] at h
  rename_i fs
  cases hf:fs[f]? with
  | none=>simp [hf] at h
  | some fd =>
   simp [hf] at h
   obtain ⟨⟨h1,h2⟩,h3⟩:=h
   cases hi:P.info? t with
   | none=>simp [hi] at h3
   | some i=>simp [hi] at h3; exact ⟨fs,fd,rfl,hf,h1,h2,i,rfl,h3⟩
theorem add_eq (b o k:Nat):(⟨b,o,none⟩:Addr).add k=⟨b,o+k,none⟩:=by
 unfold Addr.add
 split
 ·rename_i h; subst h; rfl
 ·rfl
theorem run_fieldAt {s:TypeId}{f off:Nat}{t:TypeId}(h:fldT P s f off t=true) (b o:Nat):(Instr.fieldAt s (.pointer (some ⟨b,o,none⟩)) f).run P w=.ok (.pointer (some ⟨b,o+off,none⟩)) w:=by
 obtain ⟨fs,fd,hu,hf,rfl,rfl,i,hi,h0⟩:=fldT_spec h
 simp [Instr.fieldAt,run_underlying hu,hf,Instr.sureAddr,fieldPlace,sizeOf,typeInfo,hi,h0,add_eq]
theorem run_loadCell {t:TypeId}(h:cellT P t=true) {a:Addr}{v:Value}(hc:w.cell? a=some v):(Instr.loadAt t (.pointer (some a))).run P w=.ok v w:=by
 obtain ⟨h1,h2⟩:=cellT_spec (w:=w) h
 simp [Instr.loadAt,Instr.sureAddr,loadVar,h1,hc]
theorem run_loadAgg {t:TypeId}{k:Nat}(h:aggT P t k=true) {b o:Nat}{vs:List Value}(hl:vs.length=k) (hc:∀ j v,vs[j]?=some v->w.cell? ⟨b,o+j,none⟩=some v) :
  (Instr.loadAt t (.pointer (some ⟨b,o,none⟩))).run P w=.ok (.agg vs.toArray) w:=by
 obtain ⟨h1,h2⟩:=aggT_spec (w:=w) h
 have:=run_loadCells_list (P:=P) w ⟨b,o,none⟩ vs (fun j v hj=>by rw [add_eq]; exact hc j v hj)
 rw [hl] at this
 simp [Instr.loadAt,Instr.sureAddr,loadVar,h1,h2,this]
end
end Go.Own
namespace Go.Own
open Go
set_option linter.unusedSectionVars false
variable [TB]
section
variable {w:World}{I:BSet}{ρ:AV->Value->Prop}{v:Value}{F:BSet}
theorem R.inv_lit {a:Value}(h:R w I ρ (.lit a) v F):v=a/\a.oneCell'=true:=by
 cases h with
 | lit hv=>exact ⟨rfl,hv⟩
 | ref hx=>simp [AV.isRef] at hx
theorem R.inv_nils (h:R w I ρ .nils v F):v=.slice none 0 0:=by
 cases h with
 | nils=>rfl
 | ref hx=>simp [AV.isRef] at hx
theorem R.inv_ptr {p:Place}{k:Nat}(h:R w I ρ (.ptr p k) v F):ρ (.ptr p k) v:=by
 cases h with
 | ref hx h=>exact h
theorem R.inv_brw {z:Nat}{p:Place}{n:Nat}(h:R w I ρ (.brw z p n) v F):ρ (.brw z p n) v:=by
 cases h with
 | ref hx h=>exact h
theorem R.inv_sub {z:Nat}{p:Place}{lo n:Nat}(h:R w I ρ (.sub z p lo n) v F):ρ (.sub z p lo n) v:=by
 cases h with
 | ref hx h=>exact h
theorem R.inv_imm {z n:Nat}{cs:List AV}(h:R w I ρ (.imm z n cs) v F):∃ a cap,v=.slice a n cap/\n<=cap/\cs.length=n * z /\
  (cs≠[]\/0<n->∃ (ad:Addr) (us:Nat->Value),a=some ad/\I ad.block/\ad.spot=none/\(∀ (k:Nat) (x:AV),cs[k]?=some x->(us k).oneCell'=true)/\(∀ (k:Nat) (x:AV),cs[k]?=some x->w.cell? ⟨ad.block,ad.off+k,none⟩=some (us k))/\∀ (k:Nat) (x:AV),cs[k]?=some x->R w I ρ x (us k) E0):=by
 cases h with
 | @imm0 _ cap a=>exact ⟨a,cap,rfl,Nat.zero_le _,by simp,fun h=>by simp at h⟩
 | @imm _ _ cap _ ad us _ hF hcap hI hs hl h1 hc hr=>exact ⟨_,cap,rfl,hcap,hl,fun _=>⟨ad,us,rfl,hI,hs,h1,hc,hr⟩⟩
 | ref hx=>simp [AV.isRef] at hx
theorem R.inv_iptr {cs:List AV}(h:R w I ρ (.iptr cs) v F):∃ (ad:Addr) (us:Nat->Value),v=.pointer (some ad)/\I ad.block/\ad.spot=none/\(∀ (k:Nat) (x:AV),cs[k]?=some x->(us k).oneCell'=true)/\(∀ (k:Nat) (x:AV),cs[k]?=some x->w.cell? ⟨ad.block,ad.off+k,none⟩=some (us k))/\∀ (k:Nat) (x:AV),cs[k]?=some x->R w I ρ x (us k) E0:=by
 cases h with
 | @iptr _ ad us _ hF hI hs h1 hc hr=>exact ⟨ad,us,rfl,hI,hs,h1,hc,hr⟩
 | ref hx=>simp [AV.isRef] at hx
theorem R.inv_agg {cs:List AV}(h:R w I ρ (.agg cs) v F) (hF:∀ c,¬ F c):∃ vs:Array Value,v=.agg vs/\cs.length=vs.size/\(∀ (k:Nat) (u:Value),vs[k]?=some u->u.oneCell'=true)/\∀ (k:Nat) (x:AV) (u:Value),cs[k]?=some x->vs[k]?=some u->R w I ρ x u E0:=by
 cases h with
 | @agg _ vs Fs _ hl h1 hr hd hF'=>exact ⟨vs,rfl,hl,h1,fun k x u hx hu=>(hr k x u hx hu).empty fun c hc=>hF c ((hF' c).2 ⟨k,(List.getElem?_eq_some_iff.1 hx).1,hc⟩)⟩
 | ref hx=>simp [AV.isRef] at hx
theorem R.inv_tup {cs:List AV}(h:R w I ρ (.tup cs) v F) (hF:∀ c,¬ F c):∃ vs:Array Value,v=.tuple vs/\cs.length=vs.size/\∀ (k:Nat) (x:AV) (u:Value),cs[k]?=some x->vs[k]?=some u->R w I ρ x u E0:=by
 cases h with
 | @tup _ vs Fs _ hl hr hd hF'=>exact ⟨vs,rfl,hl,fun k x u hx hu=>(hr k x u hx hu).empty fun c hc=>hF c ((hF' c).2 ⟨k,(List.getElem?_eq_some_iff.1 hx).1,hc⟩)⟩
 | ref hx=>simp [AV.isRef] at hx
theorem R.node {y:AV}{z n:Nat}{cs:List AV}(h:R w I ρ y v F) (hy:y=.own z n cs\/y=.obj cs) {k:Nat}{x:AV}(hk:cs[k]?=some x) :
  ∃ b u,addrOf v=some ⟨b,0,none⟩/\w.cell? ⟨b,k,none⟩=some u/\child w v k=some u/\u.oneCell'=true/\∃ Fk,R w I ρ x u Fk:=by
 rcases hy with rfl | rfl
 ·cases h with
  | @own _ _ _ _ e us Fs _ ho hl h1 hr hd hb hF =>
   have hlt:k<cs.length:=(List.getElem?_eq_some_iff.1 hk).1
   have hu:us[k]?=some us[k]:=List.getElem?_eq_getElem (hl ▸ hlt)
   have hch:=ownsRow_child ho hu
   obtain ⟨hus,h2⟩:=ho
   rcases h2 with ⟨rfl,rfl⟩ | ⟨b,cap,cur,rfl,hg,hh,rest⟩
   ·grind
   ·exact ⟨b,_,rfl,by simpa [child] using hch,hch,h1 k _ hu,Fs k,hr k x _ hk hu⟩
  | ref hx=>simp [AV.isRef] at hx
 ·cases h with
  | @obj _ b e arr Fs _ ho hl h1 hr hd hb hF =>
   have hlt:k<cs.length:=(List.getElem?_eq_some_iff.1 hk).1
   have hu:arr[k]?=some arr[k]:=Array.getElem?_eq_getElem (hl ▸ hlt)
   exact ⟨b,_,rfl,by simp [World.cell?,ho,hu],by simp [child,World.cell?,ho,hu],h1 k _ hu,Fs k,hr k x _ hk hu⟩
  | ref hx=>simp [AV.isRef] at hx
end
def Bnd (g:Gst) (d:Nat):Option Operand->Nat->Prop
 | none,j=>j=d
 | some o,j=>∃ k,opd g o=some (.lit (.int k (j:Int)))
inductive PS1 (P:Program) (g:Gst):Op->TypeId->AV->Prop
 | move {x:Operand}{ty:TypeId}{y:AV}(hx:opd g x=some y):PS1 P g (.move x) ty y
 | assign {x:Operand}{ty:TypeId}{y:AV}(hx:opd g x=some y):PS1 P g (.assign x) ty y
 | pick {c a b:Operand}{ty:TypeId}{t:Bool}{r:AV}(hc:opd g c=some (.lit (.bool t))) (hr:opd g (if t then a else b)=some r):PS1 P g (.pick c a b) ty r
 | nilP {x:Operand}{ty:TypeId}{p:Place}{k:Nat}(hx:opd g x=some (.ptr p k)):PS1 P g (.nilCheck x) ty (.ptr p k)
 | nilI {x:Operand}{ty:TypeId}{cs:List AV}(hx:opd g x=some (.iptr cs)):PS1 P g (.nilCheck x) ty (.iptr cs)
 | fieldP {x:Operand}{ty s t:TypeId}{f off:Nat}{p:Place}{k:Nat}(hx:opd g x=some (.ptr p k)) (hf:fldT P s f off t=true) (hok:RefOk g (.ptr p (k+off))):PS1 P g (.fieldAddr s x f) ty (.ptr p (k+off))
 | fieldI {x:Operand}{ty s t:TypeId}{f off:Nat}{cs:List AV}(hx:opd g x=some (.iptr cs)) (hf:fldT P s f off t=true):PS1 P g (.fieldAddr s x f) ty (.iptr (cs.drop off))
 | field1 {x:Operand}{ty s t:TypeId}{f off:Nat}{cs:List AV}{y:AV}(hx:opd g x=some (.agg cs)) (hf:fldT P s f off t=true) (ht:cellT P t=true) (hy:cs[off]?=some y):PS1 P g (.field s x f) ty y
 | fieldN {x:Operand}{ty s t:TypeId}{f off k:Nat}{cs:List AV}(hx:opd g x=some (.agg cs)) (hf:fldT P s f off t=true) (ht:aggT P t k=true) (hk:off+k<=cs.length):PS1 P g (.field s x f) ty (.agg ((cs.drop off).take k))
 | idxImm {x i:Operand}{ty t e:TypeId}{z n:Nat}{cs:List AV}{kd:IntKind}{j:Nat}(hx:opd g x=some (.imm z n cs)) (hi:opd g i=some (.lit (.int kd (j:Int)))) (ht:slT P t e z=true) (hj:j<n):PS1 P g (.indexAddr t x i) ty (.iptr (cs.drop (j * z)))
 | idxBrw {x i:Operand}{ty t e:TypeId}{z n:Nat}{p:Place}{kd:IntKind}{j:Nat}(hx:opd g x=some (.brw z p n)) (hi:opd g i=some (.lit (.int kd (j:Int)))) (ht:slT P t e z=true) (hj:j<n) (hok:RefOk g (.ptr p (j * z))):PS1 P g (.indexAddr t x i) ty (.ptr p (j * z))
 | idxSub {x i:Operand}{ty t e:TypeId}{z lo n:Nat}{p:Place}{kd:IntKind}{j:Nat}(hx:opd g x=some (.sub z p lo n)) (hi:opd g i=some (.lit (.int kd (j:Int)))) (ht:slT P t e z=true) (hj:j<n) (hok:RefOk g (.ptr p ((lo+j) * z))):PS1 P g (.indexAddr t x i) ty (.ptr p ((lo+j) * z))
 | idxArrP {x i:Operand}{ty t e:TypeId}{n z k:Nat}{p:Place}{kd:IntKind}{j:Nat}(hx:opd g x=some (.ptr p k)) (hi:opd g i=some (.lit (.int kd (j:Int)))) (ht:arrT P t e n z=true) (hj:j<n) (hok:RefOk g (.ptr p (k+j * z))):PS1 P g (.indexAddr t x i) ty (.ptr p (k+j * z))
 | idxArrI {x i:Operand}{ty t e:TypeId}{n z:Nat}{cs:List AV}{kd:IntKind}{j:Nat}(hx:opd g x=some (.iptr cs)) (hi:opd g i=some (.lit (.int kd (j:Int)))) (ht:arrT P t e n z=true) (hj:j<n):PS1 P g (.indexAddr t x i) ty (.iptr (cs.drop (j * z)))
 | loadI1 {x:Operand}{ty t:TypeId}{c:AV}{cs:List AV}(hx:opd g x=some (.iptr (c::cs))) (ht:cellT P t=true):PS1 P g (.load t x) ty c
 | loadIN {x:Operand}{ty t:TypeId}{k:Nat}{cs:List AV}(hx:opd g x=some (.iptr cs)) (ht:aggT P t k=true) (hk:k<=cs.length):PS1 P g (.load t x) ty (.agg (cs.take k))
 | load1 {x:Operand}{ty t:TypeId}{p:Place}{k:Nat}{y:AV}(hx:opd g x=some (.ptr p k)) (ht:cellT P t=true) (hy:atP g (p.push k)=some y):PS1 P g (.load t x) ty (refIn 0 (p.push k) y)
 | loadN {x:Operand}{ty t:TypeId}{p:Place}{k m z n:Nat}{y:AV}{cs:List AV}(hx:opd g x=some (.ptr p k)) (ht:aggT P t m=true) (hy:atP g p=some y) (hc:y=.own z n cs\/y=.obj cs) (hm:k+m<=cs.length):PS1 P g (.load t x) ty (.agg (((cs.drop k).take m).mapIdx fun i x=>refIn 0 (p.push (k+i)) x))
 | idxStr {x i:Operand}{ty t:TypeId}{s:ByteArray}{kd:IntKind}{j:Nat}{b:UInt8}(hx:opd g x=some (.lit (.string s))) (hi:opd g i=some (.lit (.int kd (j:Int)))) (ht:strT P t=true) (hb:s[j]?=some b):PS1 P g (.index t x i) ty (.lit (.int .u8 b.toNat))
 | bin {op:BinOp}{x y:Operand}{ty t t2:TypeId}{a b v:Value}(hx:opd g x=some (.lit a)) (hy:opd g y=some (.lit b)) (hv:v.oneCell'=true) (hr:∀ w,(do eqGuard op t x y a b; binOp op t a b:Sem Value).run P w=.ok v w):PS1 P g (.binOp op t x y t2) ty (.lit v)
 | binA {op:BinOp}{x y:Operand}{ty t t2:TypeId}{az bs:List Value}{v:Value}(hx:opd g x=some (.agg (az.map .lit))) (hy:opd g y=some (.agg (bs.map .lit))) (hv:v.oneCell'=true) (hr:∀ w,(do eqGuard op t x y (.agg az.toArray) (.agg bs.toArray); binOp op t (.agg az.toArray) (.agg bs.toArray):Sem Value).run P w=.ok v w):PS1 P g (.binOp op t x y t2) ty (.lit v)
 | un {op:UnOp}{x:Operand}{ty t:TypeId}{a v:Value}(hx:opd g x=some (.lit a)) (hv:v.oneCell'=true) (hr:∀ w,(Op.unary op a).run P w=.ok v w):PS1 P g (.unOp op t x) ty (.lit v)
 | conv {x:Operand}{ty s d:TypeId}{a v:Value}(hx:opd g x=some (.lit a)) (hv:v.oneCell'=true) (hr:∀ w,(convert s d a).run P w=.ok v w):PS1 P g (.convert s d x) ty (.lit v)
 | convB {x:Operand}{ty s d:TypeId}{n N:Nat}{p:Place}{cs:List AV}{xs:List Int}(hx:opd g x=some (.brw 1 p n)) (hp:atP g p=some (.own 1 N cs)) (hn:n<=N) (hcs:cs.take n=xs.map fun b=>.lit (.int .u8 b)) (ht:bytT P s d=true):PS1 P g (.convert s d x) ty (.lit (.string (strOfNums xs)))
 | convI {x:Operand}{ty s d:TypeId}{n:Nat}{xs:List Int}(hx:opd g x=some (.imm 1 n (xs.map fun b=>.lit (.int .u8 b)))) (ht:bytT P s d=true):PS1 P g (.convert s d x) ty (.lit (.string (strOfNums xs)))
 | extF {xs:Array Operand}{tys:Array TypeId}{ty:TypeId}{f:FuncId}{vs:List Value}{v:Value}(hx:xs.toList.map (opd g)=vs.map fun v=>some (.lit v)) (hv:v.oneCell'=true)
   (hr:∀ w,(callFunc f vs.toArray).run P w=.ok (.value v) w):PS1 P g (.call { callee:=.value (.func f),args:=xs,argTypes:=tys }) ty (.lit v)
 | extr {x:Operand}{ty:TypeId}{i:Nat}{cs:List AV}{y:AV}(hx:opd g x=some (.tup cs)) (hy:cs[i]?=some y):PS1 P g (.extract x i) ty y
 | sliceImm {x:Operand}{lo hi:Option Operand}{ty t e:TypeId}{z n l h:Nat}{cs:List AV}(hx:opd g x=some (.imm z n cs)) (hl:Bnd g 0 lo l) (hh:Bnd g n hi h) (ht:slT P t e z=true) (hlh:l<=h) (hn:h<=n):PS1 P g (.slice t x lo hi none) ty (.imm z (h - l) ((cs.drop (l * z)).take ((h - l) * z)))
 | sliceBrw0 {x:Operand}{lo hi:Option Operand}{ty t e:TypeId}{z n h:Nat}{p:Place}(hx:opd g x=some (.brw z p n)) (hl:Bnd g 0 lo 0) (hh:Bnd g n hi h) (ht:slT P t e z=true) (hn:h<=n) (hok:RefOk g (.brw z p h)):PS1 P g (.slice t x lo hi none) ty (.brw z p h)
 | sliceBrw {x:Operand}{lo hi:Option Operand}{ty t e:TypeId}{z n l h:Nat}{p:Place}(hx:opd g x=some (.brw z p n)) (hl:Bnd g 0 lo l) (hh:Bnd g n hi h) (ht:slT P t e z=true) (hlh:l<=h) (hn:h<=n) (hok:RefOk g (.sub z p l (h - l))):PS1 P g (.slice t x lo hi none) ty (.sub z p l (h - l))
 | sliceStr {x:Operand}{lo hi:Option Operand}{ty t:TypeId}{l h:Nat}{s:ByteArray}(hx:opd g x=some (.lit (.string s))) (hl:Bnd g 0 lo l) (hh:Bnd g s.size hi h) (ht:strT P t=true) (hlh:l<=h) (hn:h<=s.size):PS1 P g (.slice t x lo hi none) ty (.lit (.string (s.extract l h)))
 | lenImm {x:Operand}{ty t e:TypeId}{z z' n:Nat}{cs:List AV}(hx:opd g x=some (.imm z n cs)) (ht:slT P t e z'=true):PS1 P g (.call { callee:=.builtin .len,args:=#[x],argTypes:=#[t] }) ty (.lit (.int .i64 n))
 | lenBrw {x:Operand}{ty t e:TypeId}{z z' n:Nat}{p:Place}(hx:opd g x=some (.brw z p n)) (ht:slT P t e z'=true):PS1 P g (.call { callee:=.builtin .len,args:=#[x],argTypes:=#[t] }) ty (.lit (.int .i64 n))
 | lenSub {x:Operand}{ty t e:TypeId}{z z' lo n:Nat}{p:Place}(hx:opd g x=some (.sub z p lo n)) (ht:slT P t e z'=true):PS1 P g (.call { callee:=.builtin .len,args:=#[x],argTypes:=#[t] }) ty (.lit (.int .i64 n))
 | lenNils {x:Operand}{ty t e:TypeId}{z':Nat}(hx:opd g x=some .nils) (ht:slT P t e z'=true):PS1 P g (.call { callee:=.builtin .len,args:=#[x],argTypes:=#[t] }) ty (.lit (.int .i64 0))
 | lits {b:Builtin}{xs:Array Operand}{tys:Array TypeId}{ty:TypeId}{vs:List Value}{v:Value}(hx:xs.toList.map (opd g)=vs.map fun v=>some (.lit v)) (hv:v.oneCell'=true)
   (hr:∀ w (cs:Array Bool),(builtin b tys ty cs vs.toArray).run P w=.ok (.value v) w):PS1 P g (.call { callee:=.builtin b,args:=xs,argTypes:=tys }) ty (.lit v)
 | lkM {x y:Operand}{ty t:TypeId}{p:Place}{q:Array MapEntry->Nat->Prop}{ok:Bool}{Y X:AV}{kv V:Value}(hx:opd g x=some (.mref p)) (hp:atP g p=some (.mp q)) (hy:opd g y=some Y)
   (hK:∀ (w:World) (I:BSet) (ρ:AV->Value->Prop) (v:Value),R w I ρ Y v E0->v=kv) (hR:∀ (w:World) (I:BSet) (ρ:AV->Value->Prop),R w I ρ X V E0)
   (hr:∀ (w:World) (b:Nat) (es:Array MapEntry) (clock:Nat),w.heap[b]?=some (.map es clock)->q es clock->(Instr.lookup t (.map (some b)) kv ok).run P w=.ok V w):PS1 P g (.lookup t x y ok) ty X
 | lkI {x y:Operand}{ty t:TypeId}{q:Array MapEntry->Nat->Prop}{ok:Bool}{Y X:AV}{kv V:Value}(hx:opd g x=some (.imp q)) (hy:opd g y=some Y)
   (hK:∀ (w:World) (I:BSet) (ρ:AV->Value->Prop) (v:Value),R w I ρ Y v E0->v=kv) (hR:∀ (w:World) (I:BSet) (ρ:AV->Value->Prop),R w I ρ X V E0)
   (hr:∀ (w:World) (b:Nat) (es:Array MapEntry) (clock:Nat),w.heap[b]?=some (.map es clock)->q es clock->(Instr.lookup t (.map (some b)) kv ok).run P w=.ok V w):PS1 P g (.lookup t x y ok) ty X
theorem R.inv_mref {w:World}{I:BSet}{ρ:AV->Value->Prop}{p:Place}{v:Value}{F:BSet}(h:R w I ρ (.mref p) v F):ρ (.mref p) v:=by
 cases h with
 | ref _ h _=>exact h
theorem R.inv_mp {w:World}{I:BSet}{ρ:AV->Value->Prop}{q:Array MapEntry->Nat->Prop}{v:Value}{F:BSet}(h:R w I ρ (.mp q) v F):∃ b es clock,v=.map (some b)/\w.heap[b]?=some (.map es clock)/\q es clock/\∀ c,F c↔c=b:=by
 cases h with
 | ref hx=>simp [AV.isRef] at hx
 | mp ho hq hF=>exact ⟨_,_,_,rfl,ho,hq,hF⟩
theorem R.inv_imp {w:World}{I:BSet}{ρ:AV->Value->Prop}{q:Array MapEntry->Nat->Prop}{v:Value}{F:BSet}(h:R w I ρ (.imp q) v F):∃ b es clock,v=.map (some b)/\w.heap[b]?=some (.map es clock)/\q es clock:=by
 cases h with
 | ref hx=>simp [AV.isRef] at hx
 | imp _ _ ho hq=>exact ⟨_,_,_,rfl,ho,hq⟩
end Go.Own
namespace Go.Own
open Go
set_option linter.unusedSectionVars false
variable [TB]
section
variable {P:Program}{w:World}{I:BSet}{T:Array Value}{g:Gst}{Fs:Nat->BSet}
theorem Bnd.sound (h:SR w I T g Fs) {d:Nat}{x:Option Operand}{j:Nat}(hb:Bnd g d x j) {a:Act}(ha:a.tmps=T):(x.map a.eval=none/\j=d)\/∃ k,x.map a.eval=some (.int k (j:Int)):=by
 cases x with
 | none=>exact .inl ⟨rfl,hb⟩
 | some o =>
  obtain ⟨k,hk⟩:=hb
  exact .inr ⟨k,by rw [Option.map_some,(opd_sound h hk ha).inv_lit.1]⟩
theorem run_bounds {len cap l h:Nat}{lo hi:Option Value}(hl:(lo=none/\l=0)\/∃ k,lo=some (.int k (l:Int))) (hh:(hi=none/\h=len)\/∃ k,hi=some (.int k (h:Int))) (b:Bool) (hlh:l<=h) (hc:h<=cap) :
  (Instr.sliceBounds b len cap lo hi none).run P w=.ok (l,h,cap) w:=by
 rcases hl with ⟨rfl,rfl⟩ | ⟨k,rfl⟩ <;> rcases hh with ⟨rfl,rfl⟩ | ⟨k',rfl⟩ <;> simp [Instr.sliceBounds,Instr.sliceBound,asIntOf,hlh,hc]
theorem litArgs (h:SR w I T g Fs) {a:Act}(ha:a.tmps=T):∀ (xs:List Operand) (vs:List Value),xs.map (opd g)=vs.map (fun v=>some (.lit v))->xs.map a.eval=vs
 | [],[],_=>rfl
 | [],_::_,h=>by simp at h
 | _::_,[],h=>by simp at h
 | x::xs,v::vs,hx=>by
  simp only [List.map_cons,List.cons.injEq] at hx
  rw [List.map_cons,(opd_sound h hx.1 ha).inv_lit.1,litArgs h ha xs vs hx.2]
theorem aggLits {w:World}{I:BSet}{ρ:AV->Value->Prop}{v:Value}{az:List Value}
  (h:∃ vs:Array Value,v=.agg vs/\(az.map AV.lit).length=vs.size/\(∀ (k:Nat) (u:Value),vs[k]?=some u->u.oneCell'=true)/\∀ (k:Nat) (x:AV) (u:Value),(az.map AV.lit)[k]?=some x->vs[k]?=some u->R w I ρ x u E0):v=.agg az.toArray:=by
 obtain ⟨vs,rfl,hl,-,hr⟩:=h
 congr 1
 apply Array.ext (by simpa using hl.symm)
 intro i h1 h2
 have h3:i<az.length:=by simpa using h2
 have:=(hr i (.lit az[i]) vs[i] (by simp [h3]) (Array.getElem?_eq_getElem h1)).inv_lit.1
 grind
theorem PS1.sound (h:SR w I T g Fs) {a:Act}(ha:a.tmps=T) {o:Oper}{xv:AV}(hp:PS1 P g o.op o.type xv) :
  ∃ v,(execOp a.eval o).run P w=.ok (.value v) w/\R w I (RG w T g) xv v E0:=by
 obtain ⟨dst,op,ty,pos,after,guard⟩:=o
 simp only at hp
 have ev:∀ {x:Operand}{y:AV},opd g x=some y->R w I (RG w T g) y (a.eval x) E0:=fun hy=>opd_sound h hy ha
 have no:∀ c,¬ E0 c:=fun _ h=>h
 cases hp with
 | move hx=>exact ⟨_,by simp [execOp],ev hx⟩
 | assign hx=>exact ⟨_,by simp [execOp],ev hx⟩
 | @pick c x y _ t r hc hr =>
  have hcv:=(ev hc).inv_lit.1
  refine ⟨_,?_,ev hr⟩
  simp [execOp,hcv,asBool]
  grind
 | @nilP x _ p k hx =>
  have hr:=ev hx
  obtain ⟨⟨u,ad,h1,h2,h3⟩,h4⟩:=hr.inv_ptr
  simp_all [execOp]
 | @nilI x _ cs hx =>
  have hr:=ev hx
  obtain ⟨ad,us,h3,_⟩:=hr.inv_iptr
  simp_all [execOp]
 | @fieldP x _ s t f off p k hx hf hok =>
  obtain ⟨⟨u,ad,h1,h2,h3⟩,h4⟩:=(ev hx).inv_ptr
  refine ⟨.pointer (some ⟨ad.block,ad.off+k+off,none⟩),by simp [execOp,h3,run_fieldAt hf],.ref rfl ⟨⟨u,ad,h1,h2,by rw [Nat.add_assoc]⟩,hok⟩ no⟩
 | @fieldI x _ s t f off cs hx hf =>
  obtain ⟨ad,us,h3,hI,hs,hone,hc,hr⟩:=(ev hx).inv_iptr
  obtain ⟨b,o,sp⟩:=ad
  simp only at hs
  subst hs
  refine ⟨.pointer (some ⟨b,o+off,none⟩),by simp [execOp,h3,run_fieldAt hf],.iptr (us:=fun k=>us (off+k)) no hI rfl (fun k x hk=>hone _ x (by rwa [List.getElem?_drop] at hk)) (fun k x hk=>?_) fun k x hk=>?_⟩
  ·grind
  grind
 | @field1 x _ s t f off cs y hx hf ht hy =>
  obtain ⟨vs,h3,hl,hone,hr⟩:=(ev hx).inv_agg no
  obtain ⟨fs,fd,hu,hfd,rfl,rfl,i,hi,h0⟩:=fldT_spec hf
  have hk:fd.offset<cs.length:=(List.getElem?_eq_some_iff.1 hy).1
  have hv:vs[fd.offset]?=some vs[fd.offset]:=Array.getElem?_eq_getElem (hl ▸ hk)
  refine ⟨_,?_,hr _ xv _ hy hv⟩
  simp [execOp,h3,Instr.field,run_underlying hu,hfd,asAgg,part,(cellT_spec (w:=w) ht).1,hv]
 | @fieldN x _ s t f off k cs hx hf ht hk =>
  obtain ⟨vs,h3,hl,hone,hr⟩:=(ev hx).inv_agg no
  obtain ⟨fs,fd,hu,hfd,rfl,rfl,i,hi,h0⟩:=fldT_spec hf
  refine ⟨.agg (vs.extract fd.offset (fd.offset+k)),?_,.agg (Fs:=fun _=>E0) (by simp [hl]; omega) (fun j u hu'=>by
   rw [Array.getElem?_extract] at hu'
   grind) (fun j y u hy hu'=>?_) (fun _ _ _ _ _ h=>h.elim) (fun c=>⟨fun h=>h.elim,fun ⟨_,_,h⟩=>h⟩)⟩
  ·simp [execOp,h3,Instr.field,run_underlying hu,hfd,asAgg,part,(aggT_spec (w:=w) ht).1,(aggT_spec (w:=w) ht).2]
  grind
 | @idxImm x i _ t e z n cs kd j hx hi ht hj =>
  obtain ⟨hu,he,hz⟩:=slT_spec (w:=w) ht
  obtain ⟨aa,cap,h3,_,hl,hm⟩:=(ev hx).inv_imm
  obtain ⟨ad,us,rfl,hI,hs,hone,hc,hr⟩:=hm (.inr (by omega))
  obtain ⟨b,o,sp⟩:=ad
  simp only at hs
  subst hs
  have hiv:=(ev hi).inv_lit.1
  refine ⟨.pointer (some ⟨b,o+j * z,none⟩),?_,.iptr (us:=fun k=>us (j * z+k)) no hI rfl (fun k x hk=>hone _ x (by rwa [List.getElem?_drop] at hk)) (fun k x hk=>?_) fun k x hk=>?_⟩
  ·simp [execOp,h3,hiv,Instr.indexAt,run_underlying hu,asIntOf,hj,hz,add_eq]
  ·grind
  grind
 | @idxBrw x i _ t e z n p kd j hx hi ht hj hok =>
  obtain ⟨hu,he,hz⟩:=slT_spec (w:=w) ht
  obtain ⟨⟨aa,N,cap,h1,h2,h3⟩,h4⟩:=(ev hx).inv_brw
  have hiv:=(ev hi).inv_lit.1
  obtain ⟨y,hy,zz,nn,cs,hyc,hlt⟩:=hok
  obtain ⟨v,Fy,hv,hRy,_⟩:=h.part hy (by rcases hyc with rfl | rfl <;> simp)
  rw [h1] at hv
  cases hv
  obtain ⟨b,u,had,hcell,_,_⟩:=hRy.node hyc (List.getElem?_eq_getElem hlt)
  cases aa with
  | none=>simp [addrOf] at had
  | some ad =>
   simp only [addrOf,Option.some.injEq] at had
   subst had
   refine ⟨.pointer (some ⟨b,j * z,none⟩),?_,.ref rfl ⟨⟨_,_,h1,rfl,by simp⟩,y,hy,zz,nn,cs,hyc,hlt⟩ no⟩
   simp [execOp,h2,hiv,Instr.indexAt,run_underlying hu,asIntOf,hj,hz,add_eq]
 | @idxSub x i _ t e z lo n p kd j hx hi ht hj hok =>
  obtain ⟨hu,he,hz⟩:=slT_spec (w:=w) ht
  obtain ⟨⟨aa,N,cap,a',cap',h1,h2,_,h3,h5⟩,h4⟩:=(ev hx).inv_sub
  obtain ⟨ad,rfl,rfl⟩:=h5 (by omega)
  have hiv:=(ev hi).inv_lit.1
  obtain ⟨y,hy,zz,nn,cs,hyc,hlt⟩:=hok
  obtain ⟨v,Fy,hv,hRy,_⟩:=h.part hy (by rcases hyc with rfl | rfl <;> simp)
  rw [h1] at hv
  cases hv
  obtain ⟨b,u,had,hcell,_,_⟩:=hRy.node hyc (List.getElem?_eq_getElem hlt)
  simp only [addrOf,Option.some.injEq] at had
  subst had
  refine ⟨.pointer (some ⟨b,(lo+j) * z,none⟩),?_,.ref rfl ⟨⟨_,_,h1,rfl,by simp⟩,y,hy,zz,nn,cs,hyc,hlt⟩ no⟩
  simp [execOp,h2,hiv,Instr.indexAt,run_underlying hu,asIntOf,hj,hz,add_eq,Nat.add_mul]
 | @idxArrP x i _ t e n z k p kd j hx hi ht hj hok =>
  obtain ⟨hu,hz⟩:=arrT_spec (w:=w) ht
  obtain ⟨⟨u,ad,h1,h2,h3⟩,h4⟩:=(ev hx).inv_ptr
  have hiv:=(ev hi).inv_lit.1
  refine ⟨.pointer (some ⟨ad.block,ad.off+k+j * z,none⟩),?_,.ref rfl ⟨⟨u,ad,h1,h2,by rw [Nat.add_assoc]⟩,hok⟩ no⟩
  simp [execOp,h3,hiv,Instr.indexAt,run_underlying hu,Instr.sureAddr,asIntOf,hj,hz,add_eq]
 | @idxArrI x i _ t e n z cs kd j hx hi ht hj =>
  obtain ⟨hu,hz⟩:=arrT_spec (w:=w) ht
  obtain ⟨ad,us,h3,hI,hs,hone,hc,hr⟩:=(ev hx).inv_iptr
  obtain ⟨b,o,sp⟩:=ad
  simp only at hs
  subst hs
  have hiv:=(ev hi).inv_lit.1
  refine ⟨.pointer (some ⟨b,o+j * z,none⟩),?_,.iptr (us:=fun k=>us (j * z+k)) no hI rfl (fun k x hk=>hone _ x (by rwa [List.getElem?_drop] at hk)) (fun k x hk=>?_) fun k x hk=>?_⟩
  ·simp [execOp,h3,hiv,Instr.indexAt,run_underlying hu,Instr.sureAddr,asIntOf,hj,hz,add_eq]
  ·grind
  grind
 | @loadI1 x _ t c cs hx ht =>
  obtain ⟨ad,us,h3,hI,hs,hone,hc,hr⟩:=(ev hx).inv_iptr
  obtain ⟨b,o,sp⟩:=ad
  simp only at hs
  subst hs
  have h0:w.cell? ⟨b,o,none⟩=some (us 0):=by simpa using hc 0 xv rfl
  simp_all [execOp,run_loadCell]
 | @loadIN x _ t k cs hx ht hk =>
  obtain ⟨ad,us,h3,hI,hs,hone,hc,hr⟩:=(ev hx).inv_iptr
  obtain ⟨b,o,sp⟩:=ad
  simp only at hs
  subst hs
  have hlist:∀ j v,((List.range k).map us)[j]?=some v->w.cell? ⟨b,o+j,none⟩=some v:=by
   grind
  refine ⟨.agg ((List.range k).map us).toArray,by simp [execOp,h3,run_loadAgg ht (by simp) hlist],.agg (Fs:=fun _=>E0) (by simp; omega) (fun j u hu'=>by
   grind) (fun j y u hy hu'=>?_) (fun _ _ _ _ _ h=>h.elim) (fun c=>⟨fun h=>h.elim,fun ⟨_,_,h⟩=>h⟩)⟩
  grind
 | @load1 x _ t p k y hx ht hy =>
  obtain ⟨⟨u,ad,h1,h2,h3⟩,h4⟩:=(ev hx).inv_ptr
  rw [atP_push] at hy
  cases hn:atP g p with
  | none=>rw [hn] at hy; cases hy
  | some nd =>
   rw [hn] at hy
   simp only [Option.bind_some] at hy
   obtain ⟨y',hy',zz,nn,cs,hyc,hlt⟩:=h4
   rw [hn] at hy'
   cases hy'
   obtain ⟨v,Fy,hv,hRy,hFy⟩:=h.part hn (by rcases hyc with rfl | rfl <;> simp)
   rw [h1] at hv
   cases hv
   have hk':cs[k]?=some y:=by rcases hyc with rfl | rfl <;> simpa [AV.kids] using hy
   obtain ⟨b,uu,had,hcell,hch,hone,Fk,hRk⟩:=hRy.node hyc hk'
   rw [had] at h2
   cases h2
   refine ⟨uu,by simp only [execOp,h3]; simp [run_loadCell ht hcell],refIn_sound 0 (by rw [atP_push,hn]; exact hy) (by rw [valAt_push,h1]; exact hch) hRk⟩
 | @loadN x _ t p k m z n y cs hx ht hy hyc hm =>
  obtain ⟨⟨u,ad,h1,h2,h3⟩,h4⟩:=(ev hx).inv_ptr
  obtain ⟨v,Fy,hv,hRy,hFy⟩:=h.part hy (by rcases hyc with rfl | rfl <;> simp)
  rw [h1] at hv
  cases hv
  have hbase:∃ b,ad=⟨b,0,none⟩:=by
   obtain ⟨y',hy',zz,nn,cs',hyc',hlt⟩:=h4
   rw [hy] at hy'
   cases hy'
   have:cs'=cs:=by rcases hyc with rfl | rfl <;> rcases hyc' with hh | hh <;> cases hh <;> rfl
   subst this
   obtain ⟨b,uu,had,_⟩:=hRy.node hyc' (List.getElem?_eq_getElem hlt)
   grind
  obtain ⟨b,rfl⟩:=hbase
  have hkids:y.kids=cs:=by rcases hyc with rfl | rfl <;> rfl
  have cell:∀ j,j<m->∃ uu,w.cell? ⟨b,k+j,none⟩=some uu/\uu.oneCell'=true/\∃ xx,cs[k+j]?=some xx/\R w I (RG w T g) (refIn 0 (p.push (k+j)) xx) uu E0:=by
   intro j hj
   have hx':cs[k+j]?=some cs[k+j]:=List.getElem?_eq_getElem (by omega)
   obtain ⟨b',uu,had,hcell,hch,hone,Fk,hRk⟩:=hRy.node hyc hx'
   rw [h2] at had
   cases had
   exact ⟨uu,hcell,hone,_,hx',refIn_sound 0 (by rw [atP_push,hy]; simp [hkids]) (by rw [valAt_push,h1]; exact hch) hRk⟩
  have hex:∃ us:List Value,us.length=m/\∀ j v,us[j]?=some v->w.cell? ⟨b,k+j,none⟩=some v:=by
   refine ⟨(List.range m).map fun j=>(w.cell? ⟨b,k+j,none⟩).getD undef,by simp,?_⟩
   grind
  obtain ⟨us,hul,huc⟩:=hex
  refine ⟨.agg us.toArray,by simp only [execOp,h3]; simp [run_loadAgg ht hul (b:=b) (o:=k) huc],.agg (Fs:=fun _=>E0) (by simp; omega) (fun j u hu'=>by
   grind) (fun j yy u hyy hu'=>?_) (fun _ _ _ _ _ h=>h.elim) (fun c=>⟨fun h=>h.elim,fun ⟨_,_,h⟩=>h⟩)⟩
  grind
 | @convB x _ s d n N p cs xs hx hp hn hcs ht =>
  obtain ⟨e,hs,he,hd⟩:=bytT_spec ht
  obtain ⟨⟨aa,N',cap,h1,h2,h3⟩,_⟩:=(ev hx).inv_brw
  obtain ⟨v,Fy,hv,hRy,hFy⟩:=h.part hp (by simp)
  rw [h1] at hv
  cases hv
  have hcl:(cs.take n).length=n:=by
   obtain ⟨_,_,_,hl⟩:=hRy.own_slice
   grind
  have hlen:xs.length=n:=by rw [<- hcl,hcs,List.length_map]
  refine ⟨_,?_,.lit rfl no⟩
  obtain ⟨_,_,hsl,_,_,hoff,hsome⟩:=hRy.own_slice
  cases hsl
  cases aa with
  | none =>
   have h0:n=0:=by
    grind
   have:xs=[]:=List.eq_nil_of_length_eq_zero (hlen.trans h0)
   subst this
   have hr:=run_convert_bytes_nil (P:=P) (w:=w) s e hs he n cap d hd
   simp [execOp,h2,hr]
   rfl
  | some ad =>
   obtain ⟨b,o,sp⟩:=ad
   obtain ⟨rfl,rfl⟩:=hoff _ rfl
   have hr:=run_convert_bytes_arg (P:=P) w s e hs he b 0 n cap xs hlen (fun i hi=>by
    have hci:(cs.take n)[i]?=some (.lit (.int .u8 (xs.getD i 0))):=by
     grind
    have hci':cs[i]?=some (.lit (.int .u8 (xs.getD i 0))):=by
     grind
    obtain ⟨b',u,had,hcell,_,_,Fk,hRk⟩:=hRy.node (.inl rfl) hci'
    simp only [addrOf,Option.some.injEq,Addr.mk.injEq,and_true] at had
    subst had
    rw [Nat.zero_add,hcell,hRk.inv_lit.1]) d hd
   simp_all [execOp]
 | @convI x _ s d n xs hx ht =>
  obtain ⟨e,hs,he,hd⟩:=bytT_spec ht
  have hR:=ev hx
  generalize hev:a.eval x=v at hR
  refine ⟨_,?_,.lit rfl no⟩
  generalize hcs:(xs.map fun b=>AV.lit (.int .u8 b))=cs at hR
  cases hR with
  | ref hx=>simp [AV.isRef] at hx
  | @imm0 _ cap aa _ hF =>
   have:xs=[]:=by simpa using hcs
   subst this
   cases aa with
   | none =>
    have hr:=run_convert_bytes_nil (P:=P) (w:=w) s e hs he 0 cap d hd
    simp [execOp,hev,hr]
    rfl
   | some ad =>
    have hl:(loadCells ad 0).run P w=.ok (([]:List Int).map (Value.int .u8)).toArray w:=by
     have:=run_loadCells_list (P:=P) w ad [] (fun j v hj=>by simp at hj)
     grind
    have hr:=run_bytesToString w ad 0 cap [] hl
    have hc:=run_convert_bytes_string (P:=P) w s d e (some ad) 0 cap hs he hd
    rw [hr] at hc
    simp [execOp,hev,hc]
    rfl
  | @imm _ _ cap _ ad us _ hF hcap hI hs2 hl h1 hc hr =>
   obtain ⟨b,o,sp⟩:=ad
   simp only at hs2
   subst hs2
   have hlen:xs.length=n:=by rw [<- List.length_map (f:=fun b=>AV.lit (.int .u8 b)),hcs,hl,Nat.mul_one]
   have hr':=run_convert_bytes_arg (P:=P) w s e hs he b o n cap xs hlen (fun i hi=>by
    have hci:cs[i]?=some (.lit (.int .u8 (xs.getD i 0))):=by
     grind
    have:=hc i _ hci
    simp only at this
    rw [this,(hr i _ hci).inv_lit.1]) d hd
   simp_all [execOp]
 | @extF xs tys _ f vs v hx hv hr =>
  refine ⟨v,?_,.lit hv no⟩
  have hvs:xs.map a.eval=vs.toArray:=by
   apply Array.toList_inj.1
   apply List.ext_getElem?
   intro k
   have:=congrArg (·[k]?) hx
   simp only [List.getElem?_map] at this
   rw [Array.toList_map,List.getElem?_map]
   cases hk:xs.toList[k]? with
   | none =>
    grind
   | some o =>
    rw [hk] at this
    cases hv:vs[k]? with
    | none=>rw [hv] at this; cases this
    | some v =>
     rw [hv] at this
     simp only [Option.map_some,Option.some.injEq] at this ⊢
     rw [(ev this).inv_lit.1]
  have hf:a.eval (.func f)=.func (.func f) #[] #[]:=rfl
  simp_all [execOp,resolve,Deferred.ofValue,invoke]
 | @idxStr x i _ t s kd j b hx hi ht hb =>
  have hsv:=(ev hx).inv_lit.1
  have hiv:=(ev hi).inv_lit.1
  refine ⟨.int .u8 b.toNat,?_,.lit rfl no⟩
  simp_all [execOp,Instr.index,run_underlying,strT_spec,asIntOf]
 | @bin op x y _ t t2 a' b v hx hy hv hr =>
  have h1:=(ev hx).inv_lit.1
  have h2:=(ev hy).inv_lit.1
  refine ⟨v,?_,.lit hv no⟩
  grind [execOp,Sem.run_bind,Result.andThen_ok,Sem.run_pure]
 | @binA op x y _ t t2 az bs v hx hy hv hr =>
  have h1:=aggLits ((ev hx).inv_agg no)
  have h2:=aggLits ((ev hy).inv_agg no)
  refine ⟨v,?_,.lit hv no⟩
  grind [execOp,Sem.run_bind,Result.andThen_ok,Sem.run_pure]
 | @un op x _ t a' v hx hv hr =>
  have h1:=(ev hx).inv_lit.1
  exact ⟨v,by simp [execOp,h1,hr],.lit hv no⟩
 | @conv x _ s d a' v hx hv hr =>
  have h1:=(ev hx).inv_lit.1
  exact ⟨v,by simp [execOp,h1,hr],.lit hv no⟩
 | @extr x _ i cs y hx hy =>
  obtain ⟨vs,h3,hl,hr⟩:=(ev hx).inv_tup no
  have hk:i<cs.length:=(List.getElem?_eq_some_iff.1 hy).1
  have hv:vs[i]?=some vs[i]:=Array.getElem?_eq_getElem (hl ▸ hk)
  exact ⟨_,by simp [execOp,h3,Instr.extract,hv],hr _ xv _ hy hv⟩
 | @sliceImm x lo hi _ t e z n l hh cs hx hl hhi ht hlh hn =>
  obtain ⟨hu,he,hz⟩:=slT_spec (w:=w) ht
  obtain ⟨aa,cap,h3,hcap,hlen,hm⟩:=(ev hx).inv_imm
  have hb:=run_bounds (P:=P) (w:=w) (len:=n) (cap:=cap) (hl.sound h ha) (hhi.sound h ha) true hlh (by omega)
  have hrun:(execOp a.eval { dst:=dst,op:=.slice t x lo hi none,type:=ty,pos:=pos,after:=after,guard:=guard }).run P w=.ok (.value (sliced aa l hh cap z)) w:=by
   simp_all [execOp,Instr.sliceAt,run_underlying,Instr.slice,sliced]
  refine ⟨_,hrun,?_⟩
  by_cases h0:hh - l=0
  ·rw [h0]
   simp only [Nat.zero_mul,List.take_zero,sliced,h0]
   exact .imm0 no
  ·obtain ⟨ad,us,rfl,hI,hs,hone,hc,hr⟩:=hm (.inr (by omega))
   obtain ⟨b,o,sp⟩:=ad
   simp only at hs
   subst hs
   have hcl:cap≠l:=by omega
   simp only [sliced,hcl,if_false,Option.map_some,add_eq]
   have hlen':((cs.drop (l * z)).take ((hh - l) * z)).length=(hh - l) * z:=by
    rw [List.length_take,List.length_drop,hlen]
    have:(hh - l) * z+l * z<=n * z:=by rw [<- Nat.add_mul]; exact Nat.mul_le_mul_right _ (by omega)
    omega
   refine .imm (us:=fun k=>us (l * z+k)) no (by omega) hI rfl hlen' (fun k x hk=>hone (l * z+k) x (by
    grind)) (fun k x hk=>?_) fun k x hk=>?_
   ·grind
   grind
 | @sliceBrw0 x lo hi _ t e z n hh p hx hl hhi ht hn hok =>
  obtain ⟨hu,he,hz⟩:=slT_spec (w:=w) ht
  obtain ⟨⟨aa,N,cap,h1,h2,h3⟩,h4⟩:=(ev hx).inv_brw
  have hcap:N<=cap:=by
   rcases h4 with ⟨N',cs,h5,h6⟩ | ⟨h0,q,n0,m,new,h5,h6⟩
   ·obtain ⟨v,Fy,hv,hRy,_⟩:=h.part h5 (by simp)
    rw [h1] at hv
    obtain ⟨_,cap2,hh2,hle,_⟩:=hRy.own_slice
    grind
   ·obtain ⟨v,hv,hRy⟩:=h.rel _ _ h5
    simp only [valAt,hv,h0,walk,Option.some.injEq] at h1
    subst h1
    obtain ⟨bv,e',e2,us,news,hRy⟩:=hRy.isPend
    obtain ⟨_,hov⟩:=hRy.hov
    grind
  have hb:=run_bounds (P:=P) (w:=w) (len:=n) (cap:=cap) (hl.sound h ha) (hhi.sound h ha) true (Nat.zero_le _) (by omega)
  refine ⟨.slice aa hh cap,?_,.ref rfl ⟨⟨aa,N,cap,h1,rfl,by omega⟩,hok⟩ no⟩
  simp_all [execOp,Instr.sliceAt,run_underlying,Instr.slice,Addr.add]
 | @sliceBrw x lo hi _ t e z n l hh p hx hl hhi ht hlh hn hok =>
  obtain ⟨hu,he,hz⟩:=slT_spec (w:=w) ht
  obtain ⟨⟨aa,N,cap,h1,h2,h3⟩,h4⟩:=(ev hx).inv_brw
  obtain ⟨N',cs,h5,h6⟩:=hok
  obtain ⟨v,Fy,hv,hRy,_⟩:=h.part h5 (by simp)
  rw [h1] at hv
  obtain ⟨a2,cap2,hh2,hle,hlen,hoff,hsome⟩:=hRy.own_slice
  rw [hh2] at hv
  cases hv
  have hb:=run_bounds (P:=P) (w:=w) (len:=n) (cap:=cap) (hl.sound h ha) (hhi.sound h ha) true hlh (by omega)
  refine ⟨sliced aa l hh cap z,?_,.ref rfl ⟨⟨aa,_,cap,_,_,h1,rfl,by omega,by omega,fun hpos=>?_⟩,_,cs,h5,h6⟩ no⟩
  ·simp_all [execOp,Instr.sliceAt,run_underlying,Instr.slice,sliced]
  ·have hs:=hsome (by omega)
   cases aa with
   | none=>simp at hs
   | some ad =>
    obtain ⟨h0,hsp⟩:=hoff ad rfl
    obtain ⟨b,o,sp⟩:=ad
    grind [add_eq]
 | @sliceStr x lo hi _ t l hh s hx hl hhi ht hlh hn =>
  have hsv:=(ev hx).inv_lit.1
  have hb:=run_bounds (P:=P) (w:=w) (len:=s.size) (cap:=s.size) (hl.sound h ha) (hhi.sound h ha) false hlh hn
  exact ⟨.string (s.extract l hh),by simp [execOp,hsv,Instr.sliceAt,run_underlying (strT_spec ht),Instr.slice,hb],.lit rfl no⟩
 | @lenImm x _ t e z z' n cs hx ht =>
  obtain ⟨hu,he,hz⟩:=slT_spec (w:=w) ht
  obtain ⟨aa,cap,h3,_⟩:=(ev hx).inv_imm
  exact ⟨_,by simp [execOp,resolve,invoke,builtin,h3,Builtin.len_,run_underlying hu,goInt],.lit rfl no⟩
 | @lenBrw x _ t e z z' n p hx ht =>
  obtain ⟨hu,he,hz⟩:=slT_spec (w:=w) ht
  obtain ⟨⟨aa,N,cap,h1,h2,h3⟩,h4⟩:=(ev hx).inv_brw
  exact ⟨_,by simp [execOp,resolve,invoke,builtin,h2,Builtin.len_,run_underlying hu,goInt],.lit rfl no⟩
 | @lenSub x _ t e z z' lo n p hx ht =>
  obtain ⟨hu,he,hz⟩:=slT_spec (w:=w) ht
  obtain ⟨⟨aa,N,cap,a',cap',h1,h2,_,h3,h5⟩,h4⟩:=(ev hx).inv_sub
  exact ⟨_,by simp [execOp,resolve,invoke,builtin,h2,Builtin.len_,run_underlying hu,goInt],.lit rfl no⟩
 | @lenNils x _ t e z' hx ht =>
  obtain ⟨hu,he,hz⟩:=slT_spec (w:=w) ht
  have h2:=(ev hx).inv_nils
  exact ⟨_,by simp [execOp,resolve,invoke,builtin,h2,Builtin.len_,run_underlying hu,goInt],.lit rfl no⟩
 | @lits b xs tys _ vs v hx hv hr =>
  have hargs:xs.map a.eval=vs.toArray:=by
   grind [Array.toList_map,litArgs]
  refine ⟨v,?_,.lit hv no⟩
  grind [execOp,resolve,invoke]
 | @lkM x y _ t p q ok Y _ kv V hx hp hy hK hR hr =>
  obtain ⟨⟨b,hb,hv⟩,_⟩:=(ev hx).inv_mref
  obtain ⟨v',Fy,hv',hRy,_⟩:=h.part hp (by simp)
  rw [hb] at hv'
  cases hv'
  obtain ⟨b',es,clock,e,ho,hq,_⟩:=hRy.inv_mp
  cases e
  refine ⟨V,?_,hR _ _ _⟩
  simp [execOp,hv,hK _ _ _ _ (ev hy),hr w _ _ _ ho hq]
 | @lkI x y _ t q ok Y _ kv V hx hy hK hR hr =>
  obtain ⟨b,es,clock,hv,ho,hq⟩:=(ev hx).inv_imp
  refine ⟨V,?_,hR _ _ _⟩
  simp [execOp,hv,hK _ _ _ _ (ev hy),hr w _ _ _ ho hq]
end
end Go.Own
namespace Go.Own
open Go
set_option linter.unusedSectionVars false
variable [TB]
structure Fr (w w':World) (U:BSet):Prop where
 os:w'.os=w.os
 tape:w'.tape=w.tape
 output:w'.output=w.output
 size:w.heap.size<=w'.heap.size
 block:∀ b,b<w.heap.size->¬ U b->w'.heap[b]?=w.heap[b]?
 fz:∀ a,a.block<w.heap.size->¬ U a.block->w'.frozen? a=w.frozen? a
 dr:w.drawn<=w'.drawn
theorem Fr.refl (w:World) (U:BSet):Fr w w U:=⟨rfl,rfl,rfl,Nat.le_refl _,fun _ _ _=>rfl,fun _ _ _=>rfl,Nat.le_refl _⟩
theorem Fr.mono {w w':World}{U U':BSet}(h:Fr w w' U) (hU:∀ b,b<w.heap.size->U b->U' b):Fr w w' U':=⟨h.os,h.tape,h.output,h.size,fun b hb hn=>h.block b hb fun hu=>hn (hU b hb hu),fun a ha hn=>h.fz a ha fun hu=>hn (hU _ ha hu),h.dr⟩
theorem Fr.trans {w w1 w2:World}{U U1:BSet}(h:Fr w w1 U) (h1:Fr w1 w2 U1) (hU:∀ b,b<w.heap.size->U1 b->U b):Fr w w2 U :=
 ⟨h1.os.trans h.os,h1.tape.trans h.tape,h1.output.trans h.output,Nat.le_trans h.size h1.size,fun b hb hn=>(h1.block b (Nat.lt_of_lt_of_le hb h.size) fun hu=>hn (hU b hb hu)).trans (h.block b hb hn),fun a ha hn=>(h1.fz a (Nat.lt_of_lt_of_le ha h.size) fun hu=>hn (hU _ ha hu)).trans (h.fz a ha hn),Nat.le_trans h.dr h1.dr⟩
theorem alloc_old (w:World) (o:Obj) (k:Nat) (h:k<w.heap.size):(w.alloc o).heap[k]?=w.heap[k]?:=by
 show (w.heap.push o)[k]?=_
 rw [Array.getElem?_push,if_neg (by omega)]
theorem alloc_new (w:World) (o:Obj):(w.alloc o).heap[w.heap.size]?=some o:=by
 show (w.heap.push o)[w.heap.size]?=_
 simp
theorem fz_alloc (w:World) (arr:Array Value) (t:TypeId) (a:Addr):(w.alloc (.cells arr t (0,0))).frozen? a=w.frozen? a:=by
 unfold World.frozen?
 by_cases h:a.block=w.heap.size
 ·rw [h,alloc_new]
  have:w.heap[w.heap.size]?=none:=by simp
  rw [this]
  simp
 ·by_cases h2:a.block<w.heap.size
  ·rw [alloc_old w _ _ h2]
  ·have h3:(w.alloc (.cells arr t (0,0))).heap[a.block]?=none:=by
    show (w.heap.push _)[a.block]?=_
    rw [Array.getElem?_eq_none]
    simp; omega
   have h4:w.heap[a.block]?=none:=Array.getElem?_eq_none (by omega)
   rw [h3,h4]
theorem fz_setRow (w:World) (g:Nat) (cs:Array Value) (a:Addr):(w.setRow g cs).frozen? a=w.frozen? a:=by
 unfold World.frozen? World.setRow
 simp only [Array.getElem?_modify]
 by_cases h:g=a.block
 ·subst h
  rw [if_pos rfl]
  cases hh:w.heap[a.block]? with
  | none=>rfl
  | some o=>cases o <;> rfl
 ·rw [if_neg h]
theorem fz_allocM (w:World) (es:Array MapEntry) (n:Nat) (a:Addr):(w.alloc (.map es n)).frozen? a=w.frozen? a:=by
 unfold World.frozen?
 by_cases h:a.block=w.heap.size
 ·rw [h,alloc_new]
  have:w.heap[w.heap.size]?=none:=by simp
  rw [this]
 ·by_cases h2:a.block<w.heap.size
  ·rw [alloc_old w _ _ h2]
  ·have h3:(w.alloc (.map es n)).heap[a.block]?=none:=by
    show (w.heap.push _)[a.block]?=_
    rw [Array.getElem?_eq_none]
    simp; omega
   have h4:w.heap[a.block]?=none:=Array.getElem?_eq_none (by omega)
   rw [h3,h4]
def plainO (o:Obj):Prop:=(∃ arr e,o=.cells arr e (0,0))\/∃ es n,o=.map es n
theorem Fr.alloc (w:World) (o:Obj) (U:BSet) (ho:plainO o):Fr w (w.alloc o) U:=by
 refine ⟨rfl,rfl,rfl,by simp,fun b hb _=>alloc_old w o b hb,fun a _ _=>?_,Nat.le_refl _⟩
 rcases ho with ⟨arr,e,rfl⟩ | ⟨es,n,rfl⟩
 ·exact fz_alloc w arr e a
 ·exact fz_allocM w es n a
theorem R.plainF {w:World}{I:BSet}{ρ:AV->Value->Prop}{x:AV}{v:Value}{F:BSet}(h:R w I ρ x v F):∀ c,F c->∃ o,w.heap[c]?=some o/\plainO o:=by
 induction h with
 | brow ho _ hF =>
  intro c hc
  have hc:=(hF c).1 hc
  obtain ⟨_,hh⟩:=ho
  rcases hh with ⟨rfl,_⟩ | ⟨b,cap,cur,rfl,_,r2,_⟩
  ·simp [Value.ownBlock] at hc
  ·simp only [Value.ownBlock,Option.some.injEq] at hc
   subst hc
   exact ⟨_,r2,.inl ⟨_,_,rfl⟩⟩
 | mp ho _ hF =>
  intro c hc
  cases (hF c).1 hc
  exact ⟨_,ho,.inr ⟨_,_,rfl⟩⟩
 | lit _ hF | nils hF | dead hF | slf hF | ref _ _ hF | imm0 hF | imm hF | iptr hF | clo hF | imp hF=>exact fun c hc=>absurd hc (hF c)
 | own ho hl h1 hr hd hb hF ih =>
  intro c hc
  rcases (hF c).1 hc with h | ⟨k,hk,h⟩
  ·obtain ⟨_,hh⟩:=ho
   rcases hh with ⟨rfl,_⟩ | ⟨b,cap,cur,rfl,_,r2,_⟩
   ·simp [Value.ownBlock] at h
   ·simp only [Value.ownBlock,Option.some.injEq] at h
    subst h
    exact ⟨_,r2,.inl ⟨_,_,rfl⟩⟩
  ·exact ih k _ _ (List.getElem?_eq_getElem hk) (List.getElem?_eq_getElem (hl ▸ hk)) c h
 | obj ho hl h1 hr hd hb hF hs ih =>
  intro c hc
  rcases (hF c).1 hc with rfl | ⟨k,hk,h⟩
  ·exact ⟨_,ho,.inl ⟨_,_,rfl⟩⟩
  ·exact ih k _ _ (List.getElem?_eq_getElem hk) (Array.getElem?_eq_getElem (hl ▸ hk)) c h
 | agg hl h1 hr hd hF ih =>
  intro c hc
  obtain ⟨k,hk,h⟩:=(hF c).1 hc
  exact ih k _ _ (List.getElem?_eq_getElem hk) (Array.getElem?_eq_getElem (hl ▸ hk)) c h
 | tup hl hr hd hF ih =>
  intro c hc
  obtain ⟨k,hk,h⟩:=(hF c).1 hc
  exact ih k _ _ (List.getElem?_eq_getElem hk) (Array.getElem?_eq_getElem (hl ▸ hk)) c h
theorem Fr.drew {w w':World}{U:BSet}(h:Fr w w' U):Fr w w'.drew U:=⟨h.os,h.tape,h.output,h.size,h.block,h.fz,Nat.le_succ_of_le h.dr⟩
section
variable {w:World}{I:BSet}{T:Array Value}{g:Gst}{Fs:Nat->BSet}
theorem SR.ltF (h:SR w I T g Fs):∀ t c,Fs t c->c<w.heap.size:=by
 intro t c hc
 cases hx:g t with
 | none=>exact absurd hc (h.non t hx c)
 | some y=>obtain ⟨u,_,hRy⟩:=h.rel t y hx; exact hRy.lt c hc
theorem SR.world (h:SR w I T g Fs) {w':World}(hF:∀ t c,Fs t c->w'.heap[c]?=w.heap[c]?) (hI:∀ c,I c->w'.heap[c]?=w.heap[c]?) (hsz:w.heap.size<=w'.heap.size):SR w' I T g Fs :=
  ⟨fun t x hx=>by
    obtain ⟨v,hv,hR⟩:=h.rel t x hx
    exact ⟨v,hv,h.frameT (fun _ _=>rfl) hF hI (fun _ h=>h) (fun _ _ h=>h) hR fun c hc=>hF t c hc⟩,
   h.non,h.dis,h.imm,fun c hc=>Nat.lt_of_lt_of_le (h.lt c hc) hsz,h.pok,TB.keep h.tb hI fun _ h=>h⟩
theorem SR.alloc (h:SR w I T g Fs) (o:Obj):SR (w.alloc o) I T g Fs :=
 h.world (fun t c hc=>alloc_old w o c (h.ltF t c hc)) (fun c hc=>alloc_old w o c (h.lt c hc)) (by simp)
theorem SR.put0 (h:SR w I T g Fs) {d:Nat}{x:AV}{v:Value}{F:BSet}(hd:g d=none) (hdT:d<T.size)
  (hR:RT w I (RG w T g) x v F) (hnew:∀ t c,F c->¬ Fs t c) (hnI:∀ c,F c->¬ I c)
  (hp:∀ z p n m new,x=.pend z p n m new->∀ t z' n' m' new',g t≠some (.pend z' p n' m' new')) :
  SR w I (T.setIfInBounds d v) (upd g d x) (updF Fs d F):=by
 have hT:∀ t,g t≠none->(T.setIfInBounds d v)[t]?=T[t]?:=by
  intro t ht
  rw [Array.getElem?_setIfInBounds_ne]
  rintro rfl; exact ht hd
 refine ⟨?_,?_,?_,?_,h.lt,?_,h.tb⟩
 ·intro t y hy
  unfold upd at hy
  split at hy
  ·rename_i htd
   subst htd
   cases hy
   exact ⟨v,by simp [hdT],by simpa [updF] using h.frameT hT (fun _ _ _=>rfl) (fun _ _=>rfl) (fun _ h=>h) (upd_mono hd) hR fun _ _=>rfl⟩
  ·rename_i htd
   obtain ⟨u,hu,hRy⟩:=h.rel t y hy
   exact ⟨u,by rw [hT t (by rw [hy]; simp)]; exact hu,by simpa [updF,htd] using h.frameT hT (fun _ _ _=>rfl) (fun _ _=>rfl) (fun _ h=>h) (upd_mono hd) hRy fun _ _=>rfl⟩
 ·intro t ht c
  unfold upd at ht
  split at ht
  ·cases ht
  ·rename_i htd; simpa [updF,htd] using h.non t ht c
 ·intro t t' c hc hc'
  by_cases h1:t=d <;> by_cases h2:t'=d <;> simp [updF,h1,h2] at hc hc'
  ·rw [h1,h2]
  ·exact absurd hc' (hnew t' c hc)
  ·exact absurd hc (hnew t c hc')
  ·exact h.dis t t' c hc hc'
 ·intro t c hc hi
  by_cases h1:t=d <;> simp [updF,h1] at hc
  ·exact hnI c hc hi
  ·exact h.imm t c hc hi
 ·intro t t' z p n m new z' n' m' new' h1 h2
  unfold upd at h1 h2
  split at h1 <;> split at h2
  ·rename_i a b; rw [a,b]
  ·cases h1; exact absurd h2 (hp z p n m new rfl t' z' n' m' new')
  ·cases h2; exact absurd h1 (hp z' p n' m' new' rfl t z n m new)
  ·exact h.pok _ _ _ _ _ _ _ _ _ _ _ h1 h2
end
def boxCells:AV->Option (List AV)
 | .agg cs=>some cs
 | .lit v=>some [.lit v]
 | .nils=>some [.nils]
 | .imm z n cs=>some [.imm z n cs]
 | .iptr cs=>some [.iptr cs]
 | .ptr p k=>some [.ptr p k]
 | .brw z p n=>some [.brw z p n]
 | .sub z p l n=>some [.sub z p l n]
 | .clo f a b=>some [.clo f a b]
 | _=>none
theorem boxCells_ns {y:AV}{cs:List AV}(h:OkA y) (hc:boxCells y=some cs):NoSelf cs:=by
 have one:∀ {x:AV},(∀ j,x≠.self j)->NoSelf [x]:=fun hx k j e=>by
  cases k with
  | zero=>simp only [List.getElem?_cons_zero,Option.some.injEq] at e; exact hx j e
  | succ k=>simp at e
 cases y <;> simp only [Go.Own.boxCells,Option.some.injEq,reduceCtorEq] at hc <;> subst hc
 all_goals first | exact h _ rfl | exact one (by simp)
theorem R.boxCells {w:World}{I:BSet}{ρ:AV->Value->Prop}{y:AV}{v:Value}{F:BSet}(h:R w I ρ y v F) (hF:∀ c,¬ F c) (hρ:∀ x v,x.isRef=true->ρ x v->v.oneCell'=true) {cs:List AV}(hc:boxCells y=some cs) :
  cs.length=v.cells.size/\(∀ (k:Nat) (u:Value),v.cells[k]?=some u->u.oneCell'=true)/\(∀ (k:Nat) (x:AV) (u:Value),cs[k]?=some x->v.cells[k]?=some u->R w I ρ x u E0):=by
 have one:∀ {y:AV},R w I ρ y v F->v.oneCell'=true->[y].length=v.cells.size/\(∀ (k:Nat) (u:Value),v.cells[k]?=some u->u.oneCell'=true)/\(∀ (k:Nat) (x:AV) (u:Value),[y][k]?=some x->v.cells[k]?=some u->R w I ρ x u E0):=by
  intro y h h1
  have hcells:v.cells=#[v]:=by cases v <;> first | rfl | (simp [Value.oneCell'] at h1)
  refine ⟨by simp [hcells],fun k u hu=>?_,fun k x u hx hu=>?_⟩
  ·rw [hcells] at hu
   cases k with
   | zero=>simp at hu; subst hu; exact h1
   | succ k=>simp at hu
  rw [hcells] at hu
  cases k with
  | zero=>simp at hx hu; subst hx hu; exact h.empty hF
  | succ k=>simp at hx
 cases y <;> simp only [Go.Own.boxCells,Option.some.injEq,reduceCtorEq] at hc
 case agg l =>
  subst hc
  obtain ⟨vs,rfl,hl,h1,hr⟩:=h.inv_agg hF
  exact ⟨hl,h1,hr⟩
 case lit a=>subst hc; exact one h (by obtain ⟨rfl,h1⟩:=h.inv_lit; exact h1)
 case nils=>subst hc; exact one h (by rw [h.inv_nils]; rfl)
 case imm z n l=>subst hc; exact one h (by obtain ⟨a,cap,rfl,_⟩:=h.inv_imm; rfl)
 case iptr l=>subst hc; exact one h (by obtain ⟨ad,us,rfl,_⟩:=h.inv_iptr; rfl)
 case ptr p k=>subst hc; exact one h (hρ _ _ rfl h.inv_ptr)
 case brw z p n=>subst hc; exact one h (hρ _ _ rfl h.inv_brw)
 case sub z p l n=>subst hc; exact one h (hρ _ _ rfl h.inv_sub)
 case clo f a b =>
  subst hc
  refine one h ?_
  cases h with
  | clo=>rfl
  | ref hx=>simp [AV.isRef] at hx
theorem RG.oneCell {w:World}{T:Array Value}{g:Gst}{x:AV}{v:Value}(hx:x.isRef=true) (h:RG w T g x v):v.oneCell'=true:=by
 obtain ⟨h,_⟩:=h
 cases x <;> simp [AV.isRef] at hx
 case ptr p k=>obtain ⟨_,_,_,_,rfl⟩:=h; rfl
 case brw z p n=>obtain ⟨_,_,_,_,rfl,_⟩:=h; rfl
 case sub z p lo n=>obtain ⟨_,_,_,_,_,_,rfl,_⟩:=h; rfl
 case mref p=>obtain ⟨_,_,rfl⟩:=h; rfl
def boxAll:List AV->Option (List AV)
 | []=>some []
 | y::ys =>
  match boxCells y,boxAll ys with
  | some a,some b=>some (a++b)
  | _,_=>none
def opds (g:Gst):List Operand->Option (List AV)
 | []=>some []
 | x::xs =>
  match opd g x,opds g xs with
  | some y,some ys=>some (y::ys)
  | _,_=>none
theorem opds_ns {g:Gst}:∀ {l:List Operand}{xs:List AV},opds g l=some xs->NoSelf xs
 | [],xs,h,k,j=>by simp only [opds,Option.some.injEq] at h; subst h; simp
 | o::l,xs,h,k,j=>by
  simp only [opds] at h
  split at h
  ·rename_i y ys h1 h2
   cases h
   cases k with
   | zero=>intro e; simp only [List.getElem?_cons_zero,Option.some.injEq] at e; exact opd_ns h1 j e
   | succ k=>exact opds_ns h2 k j
  ·cases h
def fillAV (place:Nat->Option (Nat × Nat)) (cells:List AV):List (Nat × List AV)->Option (List AV)
 | []=>some cells
 | (i,c)::rest =>
  match place i with
  | none=>none
  | some (off,size)=>if c.length=size/\off+c.length<=cells.length then fillAV place (cells.take off++c++cells.drop (off+c.length)) rest else none
def partsAV (g:Gst):List (Nat × Operand)->Option (List (Nat × List AV))
 | []=>some []
 | (i,x)::xs =>
  match opd g x,partsAV g xs with
  | some y,some ys=>(boxCells y).map fun c=>(i,c)::ys
  | _,_=>none
def structT (P:Program) (t:TypeId) (pl:List (Nat × Nat)):Bool :=
 match P.underlying t with
 | some (.struct fs)=>fs.toList.map (fun f=>(f.offset,(P.info? f.type).map (·.size))) == pl.map fun (a,b)=>(a,some b)
 | _=>false
inductive PS2 (P:Program) (g:Gst):Op->TypeId->AV->Prop
 | box {e ty:TypeId}{x:Operand}{y:AV}{cs:List AV}(hx:opd g x=some y) (hc:boxCells y=some cs):PS2 P g (.box e x) ty (.obj cs)
 | allocN {e ty:TypeId}{z:Value}(hz:(P.info? e).bind (·.zero)=some z) (hc:z.cells=#[.pointer none,.slice none 0 0]):PS2 P g (.alloc e) ty (.obj [.self (0,e),.nils])
 | boxB {e ty:TypeId}{t k:Nat}{x:Operand}{y:AV}{cs:List AV}(hx:opd g x=some y) (hc:boxCells y=some cs) (h0:cs[k]?=some (.lit (.pointer none))) (h1:cs[k+1]?=some .nils):PS2 P g (.box e x) ty (.obj ((cs.set k (.self (k,e))).set (k+1) (.brow t [])))
 | allocB {e ty:TypeId}{t:Nat}{z:Value}(hz:(P.info? e).bind (·.zero)=some z) (hc:z.cells=#[.pointer none,.slice none 0 0]):PS2 P g (.alloc e) ty (.obj [.self (0,e),.brow t []])
 | alloc {e ty:TypeId}{z:Value}(hz:(P.info? e).bind (·.zero)=some z) (h1:z.cells.all Value.oneCell'=true):PS2 P g (.alloc e) ty (.obj (z.cells.toList.map ofCell))
 | buildSlice {t e ty:TypeId}{z:Nat}{parts:Array (Nat × Operand)}{xs:List Operand}{ys:List AV}{cs:List AV}(ht:slT P t e z=true)
   (hp:parts.toList=xs.mapIdx (fun i x=>(i,x))) (hx:opds g xs=some ys) (hz:∀ y∈ys,∃ c,boxCells y=some c/\c.length=z) (hc:boxAll ys=some cs) (hb:xs.length * z<=16777216) (hn:xs.length<=16777216) (hzero:xs.length * z=0\/∃ v,(P.info? e).bind (·.zero)=some v/\v.cells.size=z) :
   PS2 P g (.buildSlice t xs.length parts) ty (.own z xs.length cs)
 | makeSlice {t e ty:TypeId}{x y:Operand}{z n b:Nat}{k1 k2:IntKind}{zv:Value}(ht:slT P t e z=true) (hx:opd g x=some (.lit (.int k1 (n:Int)))) (hy:opd g y=some (.lit (.int k2 (n:Int))))
   (hzero:(P.info? e).bind (·.zero)=some zv) (h1:zv.cells.all Value.oneCell'=true) (hzs:zv.cells.size=z) (hb:(P.info? e).map (·.bytes)=some b) (hn:n * b<=140737488355328) (hn2:n<=4611686018427387904) {zs:List AV}(hzl:zs.length=zv.cells.size)
   (hzo:∀ (k:Nat) (u:Value) (x:AV),zv.cells[k]?=some u->zs[k]?=some x->x=ofCell u\/(ofCell u=.nils/\∃ z',x=.imm z' 0 [])) :
   PS2 P g (.makeSlice t x y) ty (.own z n (List.replicate n zs).flatten)
 | makeMap {t ty:TypeId}{q:Array MapEntry->Nat->Prop}(hq:q #[] 0):PS2 P g (.makeMap t none) ty (.mp q)
inductive PS3 (P:Program) (g:Gst):Op->TypeId->AV->Prop
 | build {t ty:TypeId}{parts:Array (Nat × Operand)}{pl:List (Nat × Nat)}{zv:Value}{ps:List (Nat × List AV)}{cs:List AV}(ht:structT P t pl=true) (hz:(P.info? t).bind (·.zero)=some zv) (h1:zv.cells.all Value.oneCell'=true)
   (hp:partsAV g parts.toList=some ps) (hc:fillAV (fun i=>pl[i]?) (zv.cells.toList.map ofCell) ps=some cs):PS3 P g (.build t parts) ty (.agg cs)
 | makeFunc {fn:Fn}{first caps:Array Operand}{ty:TypeId}{a b:List AV}(ha:opds g first.toList=some a) (hb:opds g caps.toList=some b):PS3 P g (.makeFunc fn first caps) ty (.clo fn a b)
section
variable {P:Program}{w:World}{I:BSet}{T:Array Value}{g:Gst}{Fs:Nat->BSet}
theorem opds_sound (h:SR w I T g Fs) {a:Act}(ha:a.tmps=T):∀ {xs:List Operand}{ys:List AV},opds g xs=some ys->ys.length=xs.length/\∀ (k:Nat) (y:AV) (x:Operand),ys[k]?=some y->xs[k]?=some x->R w I (RG w T g) y (a.eval x) E0
 | [],ys,hy=>by simp only [opds,Option.some.injEq] at hy; subst hy; simp
 | x::xs,ys,hy=>by
  simp only [opds] at hy
  cases hx:opd g x with
  | none=>simp [hx] at hy
  | some y =>
   cases hxs:opds g xs with
   | none=>simp [hx,hxs] at hy
   | some ys' =>
    simp only [hx,hxs,Option.some.injEq] at hy
    subst hy
    obtain ⟨h1,h2⟩:=opds_sound h ha hxs
    refine ⟨by simp [h1],fun k y' x' hy' hx'=>?_⟩
    cases k with
    | zero=>simp at hy' hx'; subst hy' hx'; exact opd_sound h hx ha
    | succ k=>simp at hy' hx'; exact h2 k y' x' hy' hx'
theorem R.alloc (h:SR w I T g Fs) (o:Obj) {x:AV}{v:Value}{F:BSet}(hR:R w I (RG w T g) x v F) (hF:∀ c,F c->c<w.heap.size):R (w.alloc o) I (RG (w.alloc o) T g) x v F :=
 h.frame (fun _ _=>rfl) (fun t c hc=>alloc_old w o c (h.ltF t c hc)) (fun c hc=>alloc_old w o c (h.lt c hc)) (fun _ h=>h) (fun _ _ h=>h) hR fun c hc=>alloc_old w o c (hF c hc)
theorem ofCells_sound {ρ:AV->Value->Prop}{vs:List Value}:∀ (k:Nat) (x:AV) (u:Value),(vs.map ofCell)[k]?=some x->vs[k]?=some u->R w I ρ x u E0:=by
 intro k x u hx hu
 rw [List.getElem?_map,hu] at hx
 simp only [Option.map_some,Option.some.injEq] at hx
 subst hx
 exact ofCell_sound u
theorem R.objE0 {ρ:AV->Value->Prop}{cs:List AV}{b:Nat}{e:TypeId}{arr:Array Value}(ho:w.heap[b]?=some (.cells arr e (0,0))) (hl:cs.length=arr.size) (h1:∀ (k:Nat) (u:Value),arr[k]?=some u->u.oneCell'=true)
  (hr:∀ (k:Nat) (x:AV) (u:Value),cs[k]?=some x->arr[k]?=some u->R w I ρ x u E0) (hns:NoSelf cs):R w I ρ (.obj cs) (.pointer (some ⟨b,0,none⟩)) (fun c=>c=b) :=
 .obj (Fs:=fun _=>E0) ho hl h1 hr (fun _ _ _ _ _ h=>h.elim) (fun _ _ h=>h) (fun _=>⟨fun h=>.inl h,fun h=>h.elim id fun ⟨_,_,h⟩=>h.elim⟩) fun k j _ h=>absurd h (hns k j)
theorem R.ownE0 {ρ:AV->Value->Prop}{z n:Nat}{cs:List AV}{b cap:Nat}{e:TypeId}{arr:Array Value}(ho:w.heap[b]?=some (.cells arr e (0,0))) (hn:n<=cap) (hc:cap<=maxLen) (hs:arr.size=cap * z) (hl:cs.length=n * z) (h1:∀ (k:Nat) (u:Value),arr[k]?=some u->u.oneCell'=true)
  (hr:∀ (k:Nat) (x:AV) (u:Value),cs[k]?=some x->arr[k]?=some u->R w I ρ x u E0):R w I ρ (.own z n cs) (.slice (some ⟨b,0,none⟩) n cap) (fun c=>c=b):=by
 have hle:n * z<=arr.size:=by rw [hs]; exact Nat.mul_le_mul_right _ hn
 refine .own (e:=e) (us:=arr.toList.take (n * z)) (Fs:=fun _=>E0) ⟨by simp; omega,.inr ⟨b,cap,arr,rfl,Nat.zero_le _,ho,hn,hc,hs,rfl⟩⟩ (by simp; omega) (fun k u hu=>?_) ?_ (fun _ _ _ _ _ h=>h.elim) (fun _ _ _ h=>h.elim) (fun c=>?_)
 ·rw [List.getElem?_take] at hu
  split at hu
  ·exact h1 k u (by simpa using hu)
  ·cases hu
 ·intro k x u hx hu
  rw [List.getElem?_take] at hu
  split at hu
  ·exact hr k x u hx (by simpa using hu)
  ·cases hu
 ·simp only [Value.ownBlock,Option.some.injEq]
  exact ⟨fun h=>.inl h.symm,fun h=>h.elim Eq.symm fun ⟨_,_,h⟩=>h.elim⟩
theorem boxAll_sound {ρ:AV->Value->Prop}(hρ:∀ x v,x.isRef=true->ρ x v->v.oneCell'=true):∀ {ys:List AV}{vs:List Value}{cs:List AV},ys.length=vs.length->(∀ (k:Nat) (y:AV) (v:Value),ys[k]?=some y->vs[k]?=some v->R w I ρ y v E0)->boxAll ys=some cs ->
  cs.length=(vs.flatMap fun v=>v.cells.toList).length/\(∀ (k:Nat) (u:Value),(vs.flatMap fun v=>v.cells.toList)[k]?=some u->u.oneCell'=true)/\∀ (k:Nat) (x:AV) (u:Value),cs[k]?=some x->(vs.flatMap fun v=>v.cells.toList)[k]?=some u->R w I ρ x u E0
 | [],vs,cs,hl,hr,hc=>by
  cases vs with
  | nil=>simp only [boxAll,Option.some.injEq] at hc; subst hc; simp
  | cons=>simp at hl
 | y::ys,vs,cs,hl,hr,hc=>by
  cases vs with
  | nil=>simp at hl
  | cons v vs =>
   simp only [boxAll] at hc
   cases ha:boxCells y with
   | none=>simp [ha] at hc
   | some a =>
    cases hb:boxAll ys with
    | none=>simp [ha,hb] at hc
    | some b =>
     simp only [ha,hb,Option.some.injEq] at hc
     subst hc
     obtain ⟨h1,h1c,h2⟩:=(hr 0 y v rfl rfl).boxCells (fun _ h=>h) hρ ha
     obtain ⟨h3,h3c,h4⟩:=boxAll_sound hρ (by simpa using hl) (fun k y' v' hy hv=>hr (k+1) y' v' hy hv) hb
     refine ⟨by simp [h1,h3],fun k u hu=>?_,fun k x u hx hu=>?_⟩
     ·simp only [List.flatMap_cons] at hu
      by_cases hk:k<v.cells.toList.length
      ·rw [List.getElem?_append_left hk] at hu
       exact h1c k u (by simpa using hu)
      ·rw [List.getElem?_append_right (by omega)] at hu
       exact h3c _ u hu
     simp only [List.flatMap_cons] at hu
     by_cases hk:k<a.length
     ·rw [List.getElem?_append_left hk] at hx
      rw [List.getElem?_append_left (by simp; omega)] at hu
      exact h2 k x u hx (by simpa using hu)
     ·rw [List.getElem?_append_right (by omega)] at hx
      rw [List.getElem?_append_right (by simp; omega)] at hu
      refine h4 (k - a.length) x u hx ?_
      rw [<- hu]; simp [h1]
end
end Go.Own
namespace Go.Own
open Go
set_option linter.unusedSectionVars false
variable [TB]
theorem foldl_set (off:Nat):∀ (l:List Value) (s:Nat) (arr:Array Value),off+s+l.length<=arr.size ->
  ((l.zipIdx s).foldl (fun cs (x:Value × Nat)=>cs.setIfInBounds (off+x.2) x.1) arr).toList=arr.toList.take (off+s)++l++arr.toList.drop (off+s+l.length)
 | [],s,arr,h=>by simp
 | v::l,s,arr,h=>by
  simp only [List.length_cons] at h
  rw [List.zipIdx_cons,List.foldl_cons,foldl_set off l (s+1) _ (by simp; omega)]
  simp only [Array.toList_setIfInBounds,List.length_cons]
  have h1:(arr.toList.set (off+s) v).take (off+(s+1))=arr.toList.take (off+s)++[v]:=by
   rw [show off+(s+1)=off+s+1 by omega,List.take_succ_eq_append_getElem (by simp; omega)]
   rw [List.take_set_of_le (Nat.le_refl _)]
   simp
  have h2:(arr.toList.set (off+s) v).drop (off+(s+1)+l.length)=arr.toList.drop (off+s+(l.length+1)):=by
   rw [List.drop_set_of_lt (by omega)]
   congr 1; omega
  rw [h1,h2]
  simp
theorem fill_step {place:Nat->Option (Nat × Nat)}{i off size:Nat}(hp:place i=some (off,size)) {arr:Array Value}{v:Value}(h1:v.cells.size=size) (h2:off+v.cells.size<=arr.size) (rest:List (Nat × Value)) :
  ∃ arr':Array Value,Instr.fill place arr ((i,v)::rest)=Instr.fill place arr' rest/\arr'.toList=arr.toList.take off++v.cells.toList++arr.toList.drop (off+v.cells.size):=by
 refine ⟨_,by simp only [Instr.fill,hp]; rw [if_neg (by simp; omega)],?_⟩
 have:=foldl_set off v.cells.toList 0 arr (by simpa using h2)
 grind [Array.toList_zipIdx]
theorem fill_all (z:Nat):∀ (vs:List Value) (k:Nat) (arr:Array Value) (done rest:List Value),(∀ v∈vs,v.cells.size=z)->arr.toList=done++rest->done.length=k * z->rest.length=vs.length * z ->
  ∃ arr':Array Value,Instr.fill (fun i=>some (i * z,z)) arr (vs.mapIdx fun i v=>(k+i,v))=some arr'/\arr'.toList=done++vs.flatMap fun v=>v.cells.toList
 | [],k,arr,done,rest,_,h1,h2,h3=>by
  have:rest=[]:=List.eq_nil_of_length_eq_zero (by simpa using h3)
  subst this
  exact ⟨arr,rfl,by simpa using h1⟩
 | v::vs,k,arr,done,rest,hz,h1,h2,h3=>by
  have hv:=hz v (by simp)
  have hlen:arr.size=done.length+rest.length:=by rw [<- Array.length_toList,h1,List.length_append]
  simp only [List.length_cons,Nat.add_mul,Nat.one_mul] at h3
  rw [List.mapIdx_cons]
  obtain ⟨arr1,e1,e2⟩:=fill_step (place:=fun i=>some (i * z,z)) (i:=k+0) (off:=k * z) (size:=z) (by simp) (arr:=arr) (v:=v) hv (by omega) ((vs.mapIdx fun i v=>(k+(i+1),v)))
  have e2':arr1.toList=(done++v.cells.toList)++rest.drop z:=by
   rw [e2,h1,<- h2,List.take_left,hv,List.drop_append]
   simp
  obtain ⟨arr',e3,e4⟩:=fill_all z vs (k+1) arr1 (done++v.cells.toList) (rest.drop z) (fun u hu=>hz u (by simp [hu])) e2' (by simp [h2,hv,Nat.add_mul]) (by simp; omega)
  refine ⟨arr',?_,by rw [e4]; simp⟩
  rw [e1,<- e3]
  congr 1
  congr 1
  funext i u
  congr 1; omega
theorem allOne {vs:Array Value}(h:vs.all Value.oneCell'=true):∀ (k:Nat) (u:Value),vs[k]?=some u->u.oneCell'=true:=by grind
theorem bind_zero {P:Program}{e:TypeId}{z:Value}(h:(P.info? e).bind (·.zero)=some z) (w:World):(zeroValue e).run P w=.ok z w:=by
 cases hi:P.info? e with
 | none=>simp [hi] at h
 | some i=>simp [hi] at h; simp [zeroValue,typeInfo,hi,h]
theorem getElem?_replicate_flatten {α:Type}(l:List α):∀ (n k:Nat),k<n * l.length->(List.replicate n l).flatten[k]?=l[k % l.length]?
 | 0,k,h=>by simp at h
 | n+1,k,h=>by
  rw [List.replicate_succ,List.flatten_cons]
  by_cases hk:k<l.length
  ·rw [List.getElem?_append_left hk,Nat.mod_eq_of_lt hk]
  ·rw [List.getElem?_append_right (by omega),getElem?_replicate_flatten l n (k - l.length) (by rw [Nat.add_mul] at h; omega)]
   rw [<- Nat.mod_eq_sub_mod (by omega)]
section
variable {P:Program}{w:World}{I:BSet}{T:Array Value}{g:Gst}{Fs:Nat->BSet}
theorem boxAll_len {ys cs:List AV}{z:Nat}(hz:∀ y∈ys,∃ c,boxCells y=some c/\c.length=z) (hc:boxAll ys=some cs):cs.length=ys.length * z:=by
 induction ys generalizing cs with
 | nil=>simp [boxAll] at hc; subst hc; simp
 | cons y ys ih =>
  obtain ⟨c,h1,h2⟩:=hz y (by simp)
  simp only [boxAll,h1] at hc
  grind
theorem PS2.sound (h:SR w I T g Fs) {a:Act}(ha:a.tmps=T) {o:Oper}{xv:AV}(hp:PS2 P g o.op o.type xv) :
  ∃ v ob,(execOp a.eval o).run P w=.ok (.value v) (w.alloc ob)/\R (w.alloc ob) I (RG (w.alloc ob) T g) xv v (fun c=>c=w.heap.size):=by
 obtain ⟨dst,op,ty,pos,after,guard⟩:=o
 simp only at hp
 have old:∀ (ob:Obj) {x:AV}{v:Value},R w I (RG w T g) x v E0->R (w.alloc ob) I (RG (w.alloc ob) T g) x v E0:=fun ob _ _ hR=>R.alloc h ob hR fun _ h=>h.elim
 cases hp with
 | @box e _ x y cs hx hc =>
  have hy:=opd_sound h hx ha
  obtain ⟨h1,h1c,h2⟩:=hy.boxCells (fun _ h=>h) (fun _ _ hx hr=>hr.oneCell hx) hc
  refine ⟨_,.cells (a.eval x).cells e,by simp [execOp,Instr.box,newVar,newRow],R.objE0 (e:=e) (alloc_new w _) h1 h1c (fun k x u hx hu=>old _ (h2 k x u hx hu)) (boxCells_ns (opd_okA hx) hc)⟩
 | @allocN e _ z hz hc =>
  refine ⟨.pointer (some ⟨w.heap.size,0,none⟩),.cells z.cells e,by simp [execOp,Instr.alloc,newVar,newRow,bind_zero hz],?_⟩
  rw [hc]
  refine .obj (Fs:=fun _=>E0) (e:=e) (alloc_new w _) rfl (fun k u hu=>?_) (fun k y u hy hu=>?_) (fun _ _ _ _ _ h=>h.elim) (fun _ _ h=>h) (fun c=>⟨.inl,fun h=>h.elim id fun ⟨_,_,h⟩=>h.elim⟩) fun k j u hy hu=>?_
  ·match k,hu with
   | 0,hu=>cases hu; rfl
   | 1,hu=>cases hu; rfl
   | k+2,hu=>simp at hu
  ·match k,hy,hu with
   | 0,hy,hu=>cases hy; exact .slf fun _ h=>h
   | 1,hy,hu=>cases hy; cases hu; exact .nils fun _ h=>h
   | k+2,hy,hu=>cases hy
  ·match k,hy,hu with
   | 0,hy,hu=>cases hy; cases hu; exact .inl ⟨rfl,rfl⟩
   | 1,hy,hu=>cases hy
   | k+2,hy,hu=>cases hy
 | @boxB e _ t k x y cs hx hc h0 h1' =>
  have hy:=opd_sound h hx ha
  obtain ⟨h1,h1c,h2⟩:=hy.boxCells (fun _ h=>h) (fun _ _ hx hr=>hr.oneCell hx) hc
  have hns:=boxCells_ns (opd_okA hx) hc
  have hkl:k+1<cs.length:=(List.getElem?_eq_some_iff.1 h1').1
  refine ⟨.pointer (some ⟨w.heap.size,0,none⟩),.cells (a.eval x).cells e,by simp [execOp,Instr.box,newVar,newRow],?_⟩
  refine .obj (Fs:=fun _=>E0) (e:=e) (alloc_new w _) (by simpa using h1) h1c (fun j z u hz hu=>?_) (fun _ _ _ _ _ h=>h.elim) (fun _ _ h=>h) (fun c=>⟨.inl,fun h=>h.elim id fun ⟨_,_,h⟩=>h.elim⟩) fun j i u hj hu=>?_
  ·by_cases e1:k+1=j
   ·subst e1
    rw [List.getElem?_set_self (by simpa using hkl)] at hz
    cases hz
    rw [(h2 _ _ u h1' hu).inv_nils]
    exact .brow (World.ownsRow_nil _ _ _ _) rfl fun c=>⟨fun h=>h.elim,fun h=>by simp [Value.ownBlock] at h⟩
   ·rw [List.getElem?_set_ne e1] at hz
    by_cases e0:k=j
    ·subst e0
     rw [List.getElem?_set_self (by omega)] at hz
     cases hz
     exact .slf fun _ h=>h
    ·rw [List.getElem?_set_ne e0] at hz
     exact old _ (h2 j z u hz hu)
  ·by_cases e1:k+1=j
   ·subst e1
    rw [List.getElem?_set_self (by simpa using hkl)] at hj
    cases hj
   ·rw [List.getElem?_set_ne e1] at hj
    by_cases e0:k=j
    ·subst e0
     rw [List.getElem?_set_self (by omega)] at hj
     cases hj
     exact .inl ⟨(h2 k _ u h0 hu).inv_lit.1,rfl⟩
    ·rw [List.getElem?_set_ne e0] at hj
     exact absurd hj (hns _ _)
 | @allocB e _ t z hz hc =>
  refine ⟨.pointer (some ⟨w.heap.size,0,none⟩),.cells z.cells e,by simp [execOp,Instr.alloc,newVar,newRow,bind_zero hz],?_⟩
  rw [hc]
  refine .obj (Fs:=fun _=>E0) (e:=e) (alloc_new w _) rfl (fun k u hu=>?_) (fun k y u hy hu=>?_) (fun _ _ _ _ _ h=>h.elim) (fun _ _ h=>h) (fun c=>⟨.inl,fun h=>h.elim id fun ⟨_,_,h⟩=>h.elim⟩) fun k j u hy hu=>?_
  ·match k,hu with
   | 0,hu=>cases hu; rfl
   | 1,hu=>cases hu; rfl
   | k+2,hu=>simp at hu
  ·match k,hy,hu with
   | 0,hy,hu=>cases hy; exact .slf fun _ h=>h
   | 1,hy,hu=>cases hy; cases hu; exact .brow (World.ownsRow_nil _ _ _ _) rfl fun c=>⟨fun h=>h.elim,fun h=>by simp [Value.ownBlock] at h⟩
   | k+2,hy,hu=>cases hy
  ·match k,hy,hu with
   | 0,hy,hu=>cases hy; cases hu; exact .inl ⟨rfl,rfl⟩
   | 1,hy,hu=>cases hy
   | k+2,hy,hu=>cases hy
 | @alloc e _ z hz hone =>
  refine ⟨_,.cells z.cells e,by simp [execOp,Instr.alloc,newVar,newRow,bind_zero hz],R.objE0 (e:=e) (alloc_new w _) (by simp) (allOne hone) (fun k x u hx hu=>old _ (ofCells_sound k x u hx (by simpa using hu))) (ofCells_ns _)⟩
 | @makeMap t _ q hq =>
  have hmm:(Instr.makeMap t none).run P w=.ok (.map (some w.heap.size)) (w.alloc (.map #[] 0)):=rfl
  exact ⟨.map (some w.heap.size),.map #[] 0,by simp [execOp,hmm],.mp (alloc_new w _) hq fun c=>Iff.rfl⟩
 | @buildSlice t e _ z parts xs ys cs ht hp hx hz hc hb hnn hzero =>
  obtain ⟨hu,he,hsz⟩:=slT_spec (w:=w) ht
  obtain ⟨hl,hr⟩:=opds_sound h ha hx
  have hcl:=boxAll_len hz hc
  have hvz:∀ v∈xs.map a.eval,v.cells.size=z:=by
   intro v hv
   obtain ⟨x,hxm,rfl⟩:=List.mem_map.1 hv
   obtain ⟨k,hk,rfl⟩:=List.mem_iff_getElem.1 hxm
   have hy':ys[k]?=some (ys[k]'(by omega)):=List.getElem?_eq_getElem (by omega)
   obtain ⟨c,h1,h2⟩:=hz _ (List.getElem_mem (l:=ys) (n:=k) (by omega))
   obtain ⟨h3,_,_⟩:=(hr k _ _ hy' (List.getElem?_eq_getElem hk)).boxCells (fun _ h=>h) (fun _ _ hx hr=>hr.oneCell hx) h1
   rw [<- h3,h2]
  obtain ⟨zv,hzv⟩:∃ zv:Array Value,(xs.length * z=0/\zv=#[])\/(xs.length * z≠0/\∃ v,zv=v.cells/\(zeroValue e).run P w=.ok v w):=by
   by_cases h0:xs.length * z=0
   ·exact ⟨#[],.inl ⟨h0,rfl⟩⟩
   ·rcases hzero with h1 | ⟨v,h1,h2⟩
    ·exact absurd h1 h0
    ·exact ⟨v.cells,.inr ⟨h0,v,rfl,bind_zero h1 w⟩⟩
  obtain ⟨arr,e1,e2⟩:=fill_all z (xs.map a.eval) 0 ((Array.range (xs.length * z)).map (zv[· % zv.size]!)) [] ((Array.range (xs.length * z)).map (zv[· % zv.size]!)).toList hvz (by simp) (by simp) (by simp)
  have hparts:(parts.map fun (p:Nat × Operand)=>(p.1,a.eval p.2)).toList=(xs.map a.eval).mapIdx fun i v=>(0+i,v):=by
   rw [Array.toList_map,hp]
   apply List.ext_getElem?
   intro k
   simp only [List.getElem?_map,List.getElem?_mapIdx]
   cases xs[k]? <;> simp
  obtain ⟨hcs,hc1,hcr⟩:=boxAll_sound (ρ:=RG w T g) (fun _ _ hx hr=>hr.oneCell hx) (ys:=ys) (vs:=xs.map a.eval) (by simp [hl]) (fun k y v hy hv=>by
   rw [List.getElem?_map] at hv
   cases hxk:xs[k]? with
   | none=>simp [hxk] at hv
   | some x=>simp [hxk] at hv; subst hv; exact hr k y x hy hxk) hc
  have hal:arr.toList=(xs.map a.eval).flatMap fun v=>v.cells.toList:=by simpa using e2
  have hsize:arr.size=xs.length * z:=by rw [<- Array.length_toList,hal,<- hcs,hcl,hl]
  have hrun:(execOp a.eval { dst:=dst,op:=.buildSlice t xs.length parts,type:=ty,pos:=pos,after:=after,guard:=guard }).run P w=.ok (.value (.slice (some ⟨w.heap.size,0,none⟩) xs.length xs.length)) (w.alloc (.cells arr e)):=by
   have hle:¬ (16777216<xs.length * z):=by omega
   rcases hzv with ⟨h0,rfl⟩ | ⟨h0,v,rfl,hzr⟩
   ·simp only [h0] at e1
    rw [<- hparts] at e1
    simp at e1
    simp [execOp,Instr.buildSlice,run_underlying hu,hsz,h0,e1,newRow]
   ·rw [<- hparts] at e1
    simp at e1
    simp [execOp,Instr.buildSlice,run_underlying hu,hsz,h0,hle,hzr,e1,newRow]
  refine ⟨_,_,hrun,R.ownE0 (e:=e) (arr:=arr) (alloc_new w _) (Nat.le_refl _) ?_ hsize (by rw [hcl,hl]) (fun k u hu=>hc1 k u (by rw [<- hal]; simpa using hu)) fun k x u hx hu=>old _ (hcr k x u hx ?_)⟩
  ·unfold maxLen; omega
  ·rw [<- hal]; simpa using hu
 | @makeSlice t e _ x y z n b k1 k2 zv ht hx hy hzero hone hzs hb hn hn2 zs hzl hzo =>
  obtain ⟨hu,he,hsz⟩:=slT_spec (w:=w) ht
  have h1:=(opd_sound h hx ha).inv_lit.1
  have h2:=(opd_sound h hy ha).inv_lit.1
  cases hi:P.info? e with
  | none=>simp [hi] at hb
  | some i =>
   simp [hi] at hb hzero
   have hiz:i.size=z:=by
    unfold slT at ht
    rw [hu] at ht
    simp [hi] at ht
    exact ht
   have hbytes:(i.bytes:Int) * (n:Int)<=281474976710656:=by
    have:((b * n:Nat):Int)<=281474976710656:=by have:=Nat.mul_comm n b; omega
    rw [hb,<- Int.natCast_mul]; exact this
   have hr:=run_make (P:=P) w t e i zv hu hi hzero k1 k2 n n (by omega) (Int.le_refl _) hbytes (by omega)
   simp only [Int.toNat_natCast] at hr
   refine ⟨_,.cells (madeCells zv.cells (n * i.size)) e,by simp [execOp,h1,h2,hr],R.ownE0 (e:=e) (alloc_new w _) (Nat.le_refl _) (by unfold maxLen; omega) (by rw [size_madeCells,hiz]) (by simp [hzs,hzl]) (fun k u hu=>?_) fun k x u hx hu=>?_⟩
   ·rw [madeCells,Array.getElem?_map,Array.getElem?_range] at hu
    split at hu
    ·rename_i hk
     have h0:0<zv.cells.size:=by
      rcases Nat.eq_zero_or_pos zv.cells.size with h | h
      ·rw [hiz,<- hzs,h] at hk; simp at hk
      ·exact h
     have hm:k % zv.cells.size<zv.cells.size:=Nat.mod_lt _ h0
     simp only [Option.map_some,Option.some.injEq] at hu
     rw [<- hu,show zv.cells[k % zv.cells.size]! = zv.cells[k % zv.cells.size] by simp [hm]]
     exact allOne hone _ _ (Array.getElem?_eq_getElem hm)
    ·cases hu
   have hk:k<n * zv.cells.size:=by
    have:=(List.getElem?_eq_some_iff.1 hx).1
    simpa [Nat.mul_comm,hzl] using this
   have h0:0<zv.cells.size:=by
    rcases Nat.eq_zero_or_pos zv.cells.size with h | h
    ·rw [h] at hk; simp at hk
    ·exact h
   have hm:k % zv.cells.size<zv.cells.size:=Nat.mod_lt _ h0
   rw [getElem?_replicate_flatten _ n k (by simpa [hzl] using hk),hzl] at hx
   rw [madeCells,Array.getElem?_map,Array.getElem?_range,if_pos (by rw [hiz,<- hzs]; exact hk)] at hu
   simp only [Option.map_some,Option.some.injEq] at hu
   have hu':zv.cells[k % zv.cells.size]! = zv.cells[k % zv.cells.size]:=by simp [hm]
   rw [hu'] at hu
   subst hu
   rcases hzo _ _ x (Array.getElem?_eq_getElem hm) hx with rfl | ⟨h1,z',rfl⟩
   ·exact old _ (ofCell_sound _)
   ·have hR:=ofCell_sound (w:=w) (I:=I) (ρ:=RG w T g) zv.cells[k % zv.cells.size]
    rw [h1] at hR
    rw [hR.inv_nils]
    exact .imm0 fun _ h=>h
def Cells (w:World) (I:BSet) (ρ:AV->Value->Prop) (cs:List AV) (vs:List Value):Prop :=
 cs.length=vs.length/\(∀ (k:Nat) (u:Value),vs[k]?=some u->u.oneCell'=true)/\∀ (k:Nat) (x:AV) (u:Value),cs[k]?=some x->vs[k]?=some u->R w I ρ x u E0
theorem Cells.append {ρ:AV->Value->Prop}{a b:List AV}{u v:List Value}(h:Cells w I ρ a u) (h':Cells w I ρ b v):Cells w I ρ (a++b) (u++v):=by
 refine ⟨by simp [h.1,h'.1],fun k y hy=>?_,fun k x y hx hy=>?_⟩
 ·by_cases hk:k<u.length
  ·rw [List.getElem?_append_left hk] at hy; exact h.2.1 k y hy
  ·rw [List.getElem?_append_right (by omega)] at hy; exact h'.2.1 _ y hy
 ·by_cases hk:k<a.length
  ·rw [List.getElem?_append_left hk] at hx
   rw [List.getElem?_append_left (by rw [<- h.1]; exact hk)] at hy
   exact h.2.2 k x y hx hy
  ·rw [List.getElem?_append_right (by omega)] at hx
   rw [List.getElem?_append_right (by rw [<- h.1]; omega)] at hy
   exact h'.2.2 _ x y hx (by rw [h.1]; exact hy)
theorem Cells.take {ρ:AV->Value->Prop}{a:List AV}{u:List Value}(h:Cells w I ρ a u) (n:Nat):Cells w I ρ (a.take n) (u.take n):=by
 refine ⟨by simp [h.1],fun k y hy=>?_,fun k x y hx hy=>?_⟩
 ·rw [List.getElem?_take] at hy
  split at hy
  ·exact h.2.1 k y hy
  grind
 ·rw [List.getElem?_take] at hx hy
  split at hx
  ·rename_i hk
   rw [if_pos hk] at hy
   exact h.2.2 k x y hx hy
  grind
theorem Cells.drop {ρ:AV->Value->Prop}{a:List AV}{u:List Value}(h:Cells w I ρ a u) (n:Nat):Cells w I ρ (a.drop n) (u.drop n):=by
 refine ⟨by simp [h.1],fun k y hy=>?_,fun k x y hx hy=>?_⟩
 ·rw [List.getElem?_drop] at hy; exact h.2.1 _ y hy
 ·rw [List.getElem?_drop] at hx hy
  exact h.2.2 _ x y hx hy
theorem fillAV_sound {ρ:AV->Value->Prop}{place:Nat->Option (Nat × Nat)}:∀ (ps:List (Nat × List AV)) (vps:List (Nat × Value)) {cells cs:List AV}{arr:Array Value},Cells w I ρ cells arr.toList ->
  ps.map (·.1)=vps.map (·.1)->(∀ (k:Nat) (p:Nat × List AV) (q:Nat × Value),ps[k]?=some p->vps[k]?=some q->Cells w I ρ p.2 q.2.cells.toList)->fillAV place cells ps=some cs ->
  ∃ arr':Array Value,Instr.fill place arr vps=some arr'/\Cells w I ρ cs arr'.toList
 | [],vps,cells,cs,arr,hc,hk,_,hf=>by
  cases vps with
  | nil=>simp only [fillAV,Option.some.injEq] at hf; subst hf; exact ⟨arr,rfl,hc⟩
  | cons=>simp at hk
 | (i,c)::ps,vps,cells,cs,arr,hc,hk,hr,hf=>by
  cases vps with
  | nil=>simp at hk
  | cons q vps =>
   obtain ⟨j,v⟩:=q
   simp only [List.map_cons,List.cons.injEq] at hk
   obtain ⟨rfl,hk⟩:=hk
   have h0:=hr 0 _ _ rfl rfl
   simp only [fillAV] at hf
   cases hp:place i with
   | none=>simp [hp] at hf
   | some os =>
    obtain ⟨off,size⟩:=os
    simp only [hp] at hf
    split at hf
    ·rename_i hcond
     have hlen:v.cells.size=c.length:=by rw [<- Array.length_toList]; exact h0.1.symm
     have hlen2:arr.size=cells.length:=by rw [<- Array.length_toList]; exact hc.1.symm
     obtain ⟨arr1,e1,e2⟩:=fill_step (arr:=arr) (v:=v) hp (by omega) (by omega) vps
     have hc1:Cells w I ρ (cells.take off++c++cells.drop (off+c.length)) arr1.toList:=by
      rw [e2,hlen]
      exact ((hc.take off).append h0).append (hc.drop _)
     obtain ⟨arr',e3,e4⟩:=fillAV_sound ps vps hc1 hk (fun k p q hp hq=>hr (k+1) p q hp hq) hf
     exact ⟨arr',by rw [e1,e3],e4⟩
    ·cases hf
theorem partsAV_sound (h:SR w I T g Fs) {a:Act}(ha:a.tmps=T):∀ {l:List (Nat × Operand)}{ps:List (Nat × List AV)},partsAV g l=some ps ->
  ps.map (·.1)=(l.map fun p=>(p.1,a.eval p.2)).map (·.1)/\∀ (k:Nat) (p:Nat × List AV) (q:Nat × Value),ps[k]?=some p->(l.map fun p=>(p.1,a.eval p.2))[k]?=some q->Cells w I (RG w T g) p.2 q.2.cells.toList
 | [],ps,hp=>by simp only [partsAV,Option.some.injEq] at hp; subst hp; simp
 | (i,x)::l,ps,hp=>by
  simp only [partsAV] at hp
  cases hx:opd g x with
  | none=>simp [hx] at hp
  | some y =>
   cases hl:partsAV g l with
   | none=>simp [hx,hl] at hp
   | some ps' =>
    simp only [hx,hl,Option.map_eq_some_iff] at hp
    obtain ⟨c,hc,rfl⟩:=hp
    obtain ⟨h1,h2⟩:=partsAV_sound h ha hl
    refine ⟨by simp [h1],fun k p q hp hq=>?_⟩
    cases k with
    | zero =>
     simp at hp hq
     subst hp hq
     obtain ⟨h3,h31,h4⟩:=(opd_sound h hx ha).boxCells (fun _ h=>h) (fun _ _ hx hr=>hr.oneCell hx) hc
     exact ⟨by simpa using h3,fun k u hu=>h31 k u (by simpa using hu),fun k x u hx hu=>h4 k x u hx (by simpa using hu)⟩
    | succ k=>simp at hp hq; exact h2 k p q hp (by simpa using hq)
theorem structT_spec {t:TypeId}{pl:List (Nat × Nat)}(h:structT P t pl=true):∃ fs,P.underlying t=some (.struct fs)/\fs.toList.mapM (fun f=>(P.info? f.type).map fun i=>(f.offset,i.size))=some pl:=by
 unfold structT at h
 cases hu:P.underlying t with
 | none=>simp [hu] at h
 | some d =>
  cases d <;> simp only [hu,Bool.false_eq_true] at h
  rename_i fs
  refine ⟨fs,rfl,?_⟩
  replace h:=LawfulBEq.eq_of_beq h
  generalize fs.toList=l at h
  induction l generalizing pl with
  | nil=>cases pl with
   | nil=>rfl
   | cons=>simp at h
  | cons f l ih =>
   cases pl with
   | nil=>simp at h
   | cons p pl =>
    obtain ⟨o,s⟩:=p
    simp only [List.map_cons,List.cons.injEq,Prod.mk.injEq] at h
    obtain ⟨⟨rfl,h1⟩,h2⟩:=h
    have:=ih h2
    rw [List.mapM_cons,this]
    cases hi:P.info? f.type with
    | none=>simp [hi] at h1
    | some i=>simp [hi] at h1; subst h1; rfl
theorem PS3.sound (h:SR w I T g Fs) {a:Act}(ha:a.tmps=T) {o:Oper}{xv:AV}(hp:PS3 P g o.op o.type xv) :
  ∃ v,(execOp a.eval o).run P w=.ok (.value v) w/\R w I (RG w T g) xv v E0:=by
 obtain ⟨dst,op,ty,pos,after,guard⟩:=o
 simp only at hp
 cases hp with
 | @build t _ parts pl zv ps cs ht hz hone hp hc =>
  obtain ⟨fs,hu,hpl⟩:=structT_spec ht
  obtain ⟨h1,h2⟩:=partsAV_sound h ha hp
  obtain ⟨arr',e1,e2⟩:=fillAV_sound (w:=w) (I:=I) (ρ:=RG w T g) (place:=fun i=>pl[i]?) ps _ (arr:=zv.cells) ⟨by simp,fun k u hu=>allOne hone k u (by simpa using hu),fun k x u hx hu=>ofCells_sound k x u hx hu⟩ h1 h2 hc
  refine ⟨.agg arr',?_,.agg (Fs:=fun _=>E0) (by simpa using e2.1) (fun k u hu=>e2.2.1 k u (by simpa using hu)) (fun k x u hx hu=>e2.2.2 k x u hx (by simpa using hu)) (fun _ _ _ _ _ h=>h.elim) (fun c=>⟨fun h=>h.elim,fun ⟨_,_,h⟩=>h⟩)⟩
  have hrp:=run_places (P:=P) w fs.toList pl hpl
  have hb:P.built t ((parts.map fun (p:Nat × Operand)=>(p.1,a.eval p.2))).toList=some arr':=by
   rw [Array.toList_map]
   cases hi:P.info? t with
   | none=>simp [hi] at hz
   | some it =>
    simp_all [Program.built]
  simp_all [run_build,execOp]
 | @makeFunc fn first caps _ l1 l2 h1 h2 =>
  obtain ⟨a1,a2⟩:=opds_sound h ha h1
  obtain ⟨b1,b2⟩:=opds_sound h ha h2
  refine ⟨.func fn (first.map a.eval) (caps.map a.eval),by simp [execOp,Instr.makeFunc],.clo (fun _ h=>h) (by simpa using a1) (by simpa using b1) (fun k x u hx hu=>?_) (fun k x u hx hu=>?_)⟩
  ·grind
  grind
end
end Go.Own
namespace Go.Own
open Go
set_option linter.unusedSectionVars false
variable [TB]
structure AppRun (w w':World) (bv v':Value) (e e2:TypeId) (z n m:Nat) (us news:List Value):Prop where
 old:w'.ownsRow 0 e z bv n us
 new:w'.ownsRow 0 e2 z v' (n+m) (us++news)
 fr:Fr w w' (fun c=>bv.ownBlock=some c)
 blk:∀ c,v'.ownBlock=some c->bv.ownBlock=some c\/w.heap.size<=c
 sp:∀ c,bv.ownBlock=some c->∃ arr arr':Array Value,w.heap[c]?=some (.cells arr e (0,0))/\w'.heap[c]?=some (.cells arr' e (0,0))/\arr'.size=arr.size/\arr'.toList.take (n * z)=arr.toList.take (n * z)
section
variable {P:Program}{w:World}
theorem AppRun.same {bv v':Value}{e e2:TypeId}{z n m:Nat}{us news:List Value}{w':World}(hob:w.ownsRow 0 e z bv n us) (hb:∀ c,c<w.heap.size->w'.heap[c]?=w.heap[c]?) (hs:w.heap.size<=w'.heap.size)
  (h1:w'.os=w.os) (h2:w'.tape=w.tape) (h3:w'.output=w.output) (hnew:w'.ownsRow 0 e2 z v' (n+m) (us++news)) (hblk:∀ c,v'.ownBlock=some c->bv.ownBlock=some c\/w.heap.size<=c) (hfz:∀ a,w'.frozen? a=w.frozen? a) (hdr:w.drawn<=w'.drawn:=by first | exact Nat.le_refl _ | exact Nat.le_succ _):AppRun w w' bv v' e e2 z n m us news:=by
 have hlt:=hob.lt
 refine ⟨ownsRow_of_block hob fun c hc=>hb c (hlt c hc).2,hnew,⟨h1,h2,h3,hs,fun b hb' _=>hb b hb',fun a _ _=>hfz a,hdr⟩,hblk,fun c hc=>?_⟩
 obtain ⟨_,hh⟩:=hob
 rcases hh with ⟨rfl,_⟩ | ⟨b,cap,cur,rfl,_,hg,_⟩
 ·simp [Value.ownBlock] at hc
 ·simp only [Value.ownBlock,Option.some.injEq] at hc
  subst hc
  exact ⟨cur,cur,hg,(hb _ (hlt b rfl).2).trans hg,rfl,rfl⟩
theorem run_append_room' (t ty e e':TypeId) (i:TypeInfo) (ht:P.underlying t=some (.slice e)) (hi:P.info? e=some i)
  (b sLen sCap:Nat) (cur:Array Value) (hg:w.heap[b]?=some (.cells cur e' (0,0)))
  (a:Addr) (m c:Nat) (news:List Value) (hl:news.length=m * i.size) (hnews:∀ j u,news[j]?=some u->w.cell? (a.add j)=some u) (h1:∀ u∈news,u.oneCell'=true)
  (hroom:sLen+m<=sCap) (hfit:sLen * i.size+news.length<=cur.size) :
  (Builtin.append_ #[t,t] ty #[.slice (some ⟨b,0,none⟩) sLen sCap,.slice (some a) m c]).run P w =
   .ok (.slice (some ⟨b,0,none⟩) (sLen+m) sCap) (w.setRow b (cur.toList.take (sLen * i.size)++news++cur.toList.drop (sLen * i.size+news.length)).toArray):=by
 have hf:=run_firstCells_some (P:=P) w i.size m a m c news hl hnews
 have hst:=run_storeCells_at P b (sLen * i.size) e' news 0 cur w hg (by simpa using hfit) h1
 simp only [Nat.add_zero] at hst
 simp [Builtin.append_,run_underlying ht,sizeOf,typeInfo,hi,Builtin.lenOf,hroom,hf,Addr.add_lit,hst]
theorem run_app (t ty e e':TypeId) (i:TypeInfo) (zv:Value) (ht:P.underlying t=some (.slice e)) (hi:P.info? e=some i) (hz:i.zero=some zv) (hzs:zv.cells.size=i.size) (_h0:0<i.size)
  {bv:Value}{n m c:Nat}{us news:List Value}(hob:w.ownsRow 0 e' i.size bv n us) {a:Option Addr}(ha:0<m->a.isSome=true)
  (hl:news.length=m * i.size) (hnews:∀ ad,a=some ad->∀ (j:Nat) (u:Value),news[j]?=some u->w.cell? (ad.add j)=some u) (h1:∀ u∈news,u.oneCell'=true)
  (h63:n+m<=maxLen) (hbytes:(n+m) * i.bytes<=140737488355328) :
  ∃ v' w' e2,(Builtin.append_ #[t,t] ty #[bv,.slice a m c]).run P w=.ok v' w'/\AppRun w w' bv v' e' e2 i.size n m us news:=by
 have hus:=hob.1
 by_cases hm:m=0
 ·subst hm
  have hn:news=[]:=List.eq_nil_of_length_eq_zero (by simpa using hl)
  subst hn
  refine ⟨bv,w,e',?_,.same hob (fun _ _=>rfl) (Nat.le_refl _) rfl rfl rfl (by simpa using hob) (fun c hc=>.inl hc) fun _=>rfl⟩
  obtain ⟨_,hh⟩:=hob
  rcases hh with ⟨rfl,rfl⟩ | ⟨b,cap,cur,rfl,_,hg,hle,_⟩
  ·cases a <;> simp [Builtin.append_,run_underlying ht,sizeOf,typeInfo,hi,Builtin.lenOf,Builtin.firstCells,loadCells,loadCellsFrom]
  ·cases a <;> simp [Builtin.append_,run_underlying ht,sizeOf,typeInfo,hi,Builtin.lenOf,Builtin.firstCells,loadCells,loadCellsFrom,hle,storeCells]
 ·cases a with
  | none=>simp at ha; omega
  | some ad =>
   replace hnews:=hnews ad rfl
   have hsmall:n+m<=9223372036854775807:=by simp only [maxLen] at h63; omega
   have grown:∀ (old:Nat),old<n+m ->
     (w.drew.alloc (.cells (us.toArray++news.toArray++Builtin.zeroCells zv.cells (grownCap w (n+m) old e - (n+m))) e)).ownsRow 0 e i.size (.slice (some ⟨w.heap.size,0,none⟩) (n+m) (grownCap w (n+m) old e)) (n+m) (us++news):=by
    intro old ho
    have hge:=grownCap_ge w (n+m) old e
    have hlen:(us++news).length=(n+m) * i.size:=by rw [List.length_append,hus,hl,Nat.add_mul]
    refine ⟨hlen,.inr ⟨w.heap.size,_,_,rfl,Nat.zero_le _,alloc_new w.drew _,hge,grownCap_le_maxLen w (n+m) old e h63,?_,?_⟩⟩
    ·simp only [Array.size_append,List.size_toArray,size_zeroCells,hzs,hus,hl,<- Nat.add_mul]
     congr 1
     omega
    ·simp only [Array.toList_append,List.append_assoc]
     rw [<- List.append_assoc,<- hlen]
     exact List.take_left
   have hob0:=hob
   obtain ⟨_,hh⟩:=hob
   rcases hh with ⟨rfl,rfl⟩ | ⟨b,cap,cur,rfl,_,hg,hle,hcm,hcs,htake⟩
   ·have hx:us=[]:=List.eq_nil_of_length_eq_zero (by simpa using hus)
    subst hx
    have hr:=run_append_nil (P:=P) w t ty e i zv ht hi hz ad m c news hl hnews (by omega) (by omega) (by simp only [Nat.zero_add] at hbytes; omega)
    have hgr:=grown 0 (by omega)
    simp only [Nat.zero_add,List.nil_append,Array.empty_append] at hgr
    exact ⟨_,_,e,hr,.same hob0 (fun c hc=>alloc_old w.drew _ c hc) (by simp) rfl rfl rfl (by simpa using hgr) (fun c hc=>.inr (by simp [Value.ownBlock] at hc; omega)) (fun a=>fz_alloc w.drew _ _ a)⟩
   ·by_cases hroom:n+m<=cap
    ·have hfit:n * i.size+news.length<=cur.size:=by rw [hl,hcs,<- Nat.add_mul]; exact Nat.mul_le_mul_right _ hroom
     have hr:=run_append_room' (P:=P) (w:=w) t ty e e' i ht hi b n cap cur hg ad m c news hl hnews h1 hroom hfit
     have hlen:(us++news).length=(n+m) * i.size:=by rw [List.length_append,hus,hl,Nat.add_mul]
     have hsz:(cur.toList.take (n * i.size)++news++cur.toList.drop (n * i.size+news.length)).toArray.size=cur.size:=by
      simp only [List.size_toArray,List.length_append,List.length_take,List.length_drop,Array.length_toList]
      omega
     have htk:(cur.toList.take (n * i.size)++news++cur.toList.drop (n * i.size+news.length)).take (n * i.size)=cur.toList.take (n * i.size):=by
      rw [List.append_assoc]
      exact List.take_left' (by simp; omega)
     refine ⟨_,_,e',hr,⟨⟨hus,.inr ⟨b,cap,_,rfl,Nat.zero_le _,setRow_heap w b cur _ e' _ hg,hle,hcm,hsz.trans hcs,?_⟩⟩,⟨hlen,.inr ⟨b,cap,_,rfl,Nat.zero_le _,setRow_heap w b cur _ e' _ hg,hroom,hcm,hsz.trans hcs,?_⟩⟩,
      ⟨rfl,rfl,rfl,by simp,fun k _ hk=>setRow_other w b k _ (fun e=>hk (by simp [Value.ownBlock,e])),fun a _ _=>fz_setRow w b _ a,Nat.le_refl _⟩,fun c hc=>.inl hc,fun c hc=>?_⟩⟩
     ·rw [<- htake]; exact htk
     ·rw [htake,<- hlen]
      exact List.take_left
     ·simp only [Value.ownBlock,Option.some.injEq] at hc
      subst hc
      exact ⟨cur,_,hg,setRow_heap w b cur _ e' _ hg,hsz,htk⟩
    ·have holds:∀ (j:Nat) (u:Value),us[j]?=some u->w.cell? ((⟨b,0,none⟩:Addr).add j)=some u:=hob0.cells (g:=b) rfl
     have hr:=run_append_grow (P:=P) w t ty e i zv ht hi hz ⟨b,0,none⟩ n cap us hus holds ad m c news hl hnews (by omega) (by omega) (growslice_fits (by omega) hbytes)
     have hgr:=grown cap (by omega)
     exact ⟨_,_,e,hr,.same hob0 (fun c hc=>alloc_old w.drew _ c hc) (by simp) rfl rfl rfl hgr (fun c hc=>.inr (by simp [Value.ownBlock] at hc; omega)) (fun a=>fz_alloc w.drew _ _ a)⟩
end
end Go.Own
namespace Go.Own
open Go
set_option linter.unusedSectionVars false
variable [TB]
section
variable {w w':World}{I:BSet}{ρ ρ':AV->Value->Prop}
theorem R.kids {x:AV}{v:Value}{F:BSet}(h:R w I ρ x v F) (hx:x.kids≠[]):∃ Fs:Nat->BSet,
  (∀ k y,x.kids[k]?=some y->∃ u,child w v k=some u/\R w I ρ y u (Fs k))/\(∀ (j k c:Nat),j<x.kids.length->k<x.kids.length->Fs j c->Fs k c->j=k) /\
  (∀ k c,k<x.kids.length->Fs k c->F c)/\(∀ z n cs,x=.own z n cs->∀ c,v.ownBlock=some c->∀ k,k<x.kids.length->¬ Fs k c):=by
 cases h with
 | @own z n cs _ e us Fs _ ho hl h1 hr hd hb hF =>
  refine ⟨Fs,fun k y hk=>?_,hd,fun k c hk hc=>(hF c).2 (.inr ⟨k,hk,hc⟩),fun _ _ _ _ c hc k hk h=>hb k c hk h hc⟩
  simp only [AV.kids] at hk
  have hlt:k<cs.length:=(List.getElem?_eq_some_iff.1 hk).1
  have hu:us[k]?=some us[k]:=List.getElem?_eq_getElem (hl ▸ hlt)
  grind [ownsRow_child]
 | @obj cs b e arr Fs _ ho hl h1 hr hd hb hF =>
  refine ⟨Fs,fun k y hk=>?_,hd,fun k c hk hc=>(hF c).2 (.inr ⟨k,hk,hc⟩),fun _ _ _ h=>by simp at h⟩
  simp only [AV.kids] at hk
  have hlt:k<cs.length:=(List.getElem?_eq_some_iff.1 hk).1
  have hu:arr[k]?=some arr[k]:=Array.getElem?_eq_getElem (hl ▸ hlt)
  exact ⟨_,by simp [child,World.cell?,ho,hu],hr k y _ hk hu⟩
 | @agg cs vs Fs _ hl h1 hr hd hF =>
  refine ⟨Fs,fun k y hk=>?_,hd,fun k c hk hc=>(hF c).2 ⟨k,hk,hc⟩,fun _ _ _ h=>by simp at h⟩
  simp only [AV.kids] at hk
  have hlt:k<cs.length:=(List.getElem?_eq_some_iff.1 hk).1
  simp_all [child]
 | @tup cs vs Fs _ hl hr hd hF =>
  refine ⟨Fs,fun k y hk=>?_,hd,fun k c hk hc=>(hF c).2 ⟨k,hk,hc⟩,fun _ _ _ h=>by simp at h⟩
  simp only [AV.kids] at hk
  have hlt:k<cs.length:=(List.getElem?_eq_some_iff.1 hk).1
  simp_all [child]
 | ref hx'=>cases x <;> simp [AV.isRef,AV.kids] at hx' hx
 | _=>simp [AV.kids] at hx
theorem AV.at_cons {x y:AV}{k:Nat}{p:List Nat}(h:x.at (k::p)=some y):∃ c,x.kids[k]?=some c/\c.at p=some y:=by
 grind [AV.at]
theorem R.node_inj {b:Nat}:∀ (q r:List Nat) {x:AV}{v:Value}{F:BSet}{z n z' n':Nat}{cs cs':List AV}{vq vr:Value},R w I ρ x v F->x.at q=some (.own z n cs)->x.at r=some (.own z' n' cs') ->
  walk w v q=some vq->walk w v r=some vr->vq.ownBlock=some b->vr.ownBlock=some b->q=r
 | [],[],_,_,_,_,_,_,_,_,_,_,_,_,_,_,_,_,_,_=>rfl
 | [],k::r,x,v,F,z,n,z',n',cs,cs',vq,vr,h,hq,hr,wq,wr,bq,br=>by
  obtain ⟨c,hk,hc⟩:=AV.at_cons hr
  simp only [AV.at,Option.some.injEq] at hq
  simp only [walk,Option.some.injEq] at wq
  subst hq wq
  have hlt:k<(AV.own z n cs).kids.length:=(List.getElem?_eq_some_iff.1 hk).1
  obtain ⟨Fs,h1,h2,h3,h4⟩:=h.kids (by intro e; rw [e] at hlt; simp at hlt)
  obtain ⟨u,hu,hRu⟩:=h1 k c hk
  simp only [walk,hu] at wr
  obtain ⟨vy,Fy,hw,hRy,hFy,_⟩:=R.focus r hRu hc
  rw [hw] at wr
  cases wr
  exact absurd (hFy b (hRy.own_block b br)) (h4 z n cs rfl b bq k hlt)
 | j::q,[],x,v,F,z,n,z',n',cs,cs',vq,vr,h,hq,hr,wq,wr,bq,br=>by
  obtain ⟨c,hk,hc⟩:=AV.at_cons hq
  simp only [AV.at,Option.some.injEq] at hr
  simp only [walk,Option.some.injEq] at wr
  subst hr wr
  have hlt:j<(AV.own z' n' cs').kids.length:=(List.getElem?_eq_some_iff.1 hk).1
  obtain ⟨Fs,h1,h2,h3,h4⟩:=h.kids (by intro e; rw [e] at hlt; simp at hlt)
  obtain ⟨u,hu,hRu⟩:=h1 j c hk
  simp only [walk,hu] at wq
  obtain ⟨vy,Fy,hw,hRy,hFy,_⟩:=R.focus q hRu hc
  rw [hw] at wq
  cases wq
  exact absurd (hFy b (hRy.own_block b bq)) (h4 z' n' cs' rfl b br j hlt)
 | j::q,k::r,x,v,F,z,n,z',n',cs,cs',vq,vr,h,hq,hr,wq,wr,bq,br=>by
  obtain ⟨c,hj,hc⟩:=AV.at_cons hq
  obtain ⟨d,hk,hd⟩:=AV.at_cons hr
  have hjl:j<x.kids.length:=(List.getElem?_eq_some_iff.1 hj).1
  have hkl:k<x.kids.length:=(List.getElem?_eq_some_iff.1 hk).1
  obtain ⟨Fs,h1,h2,h3,h4⟩:=h.kids (by intro e; rw [e] at hjl; simp at hjl)
  obtain ⟨u,hu,hRu⟩:=h1 j c hj
  obtain ⟨u',hu',hRu'⟩:=h1 k d hk
  simp only [walk,hu] at wq
  simp only [walk,hu'] at wr
  by_cases hjk:j=k
  ·subst hjk
   rw [hj] at hk; cases hk
   rw [hu] at hu'; cases hu'
   rw [R.node_inj q r hRu hc hd wq wr bq br]
  ·exfalso
   obtain ⟨vy,Fy,hw,hRy,hFy,_⟩:=R.focus q hRu hc
   obtain ⟨vy',Fy',hw',hRy',hFy',_⟩:=R.focus r hRu' hd
   rw [hw] at wq; cases wq
   rw [hw'] at wr; cases wr
   exact hjk (h2 j k b hjl hkl (hFy b (hRy.own_block b bq)) (hFy' b (hRy'.own_block b br)))
theorem AV.setAt_self:∀ (q:List Nat) {x y:AV},x.at q=some y->x.setAt q y=x
 | [],x,y,h=>by simp [AV.at] at h; simp [AV.setAt,h]
 | k::q,x,y,h=>by
  obtain ⟨c,hk,hc⟩:=AV.at_cons h
  simp only [AV.setAt,hk,AV.setAt_self q hc]
  have:∀ (l:List AV),l[k]?=some c->l.set k c=l:=by
   intro l hl
   apply List.ext_getElem?
   intro j
   by_cases hjk:k=j
   ·subst hjk
    have hlt:k<l.length:=(List.getElem?_eq_some_iff.1 hl).1
    rw [List.getElem?_set_self hlt,hl]
   ·rw [List.getElem?_set_ne hjk]
  cases x <;> simp [AV.kids] at hk <;> simp [AV.setKid,this _ hk]
theorem walk_app (w:World):∀ (p:List Nat) (v:Value) (r:List Nat),walk w v (p++r)=(walk w v p).bind fun u=>walk w u r
 | [],v,r=>rfl
 | k::p,v,r=>by
  simp only [List.cons_append,walk]
  cases child w v k with
  | none=>rfl
  | some u=>exact walk_app w p u r
theorem AV.at_app:∀ (p:List Nat) (x:AV) (r:List Nat),x.at (p++r)=(x.at p).bind fun y=>y.at r
 | [],x,r=>rfl
 | k::p,x,r=>by
  simp only [List.cons_append,AV.at]
  cases x.kids[k]? with
  | none=>rfl
  | some u=>exact AV.at_app p u r
structure Spare (w w':World) (b M:Nat):Prop where
 other:∀ c,c<w.heap.size->c≠b->w'.heap[c]?=w.heap[c]?
 here:∃ (arr arr':Array Value) (e:TypeId),w.heap[b]?=some (.cells arr e (0,0))/\w'.heap[b]?=some (.cells arr' e (0,0))/\arr'.size=arr.size/\arr'.toList.take M=arr.toList.take M
theorem Spare.row {b M:Nat}(s:Spare w w' b M) {e:TypeId}{z n:Nat}{v:Value}{us:List Value}(h:w.ownsRow 0 e z v n us) (hn:v.ownBlock=some b->n * z<=M):w'.ownsRow 0 e z v n us:=by
 by_cases hb:v.ownBlock=some b
 ·obtain ⟨arr,arr',e1,h1,h2,h3,h4⟩:=s.here
  obtain ⟨hu,hh⟩:=h
  rcases hh with ⟨rfl,rfl⟩ | ⟨g,cap,cur,rfl,hg,hc,r1,r2,r3,r4⟩
  ·grind [Value.ownBlock]
  ·simp only [Value.ownBlock,Option.some.injEq] at hb
   subst hb
   rw [h1] at hc
   cases hc
   refine ⟨hu,.inr ⟨g,cap,arr',rfl,hg,h2,r1,r2,by omega,?_⟩⟩
   rw [<- r4]
   have:=congrArg (List.take (n * z)) h4
   rwa [List.take_take,List.take_take,Nat.min_eq_left (hn rfl)] at this
 ·exact ownsRow_of_block h fun c hc=>s.other c (h.lt c hc).2 fun e=>hb (e ▸ hc)
theorem R.spare {b M:Nat}(s:Spare w w' b M) (hI:∀ c,I c->c<w.heap.size/\c≠b) (hρ:∀ x v,ρ x v->ρ' x v) {x:AV}{v:Value}{F:BSet}(h:R w I ρ x v F) {q:List Nat}{z n:Nat}{cs:List AV}{vy:Value}
  (hat:x.at q=some (.own z n cs)) (hw:walk w v q=some vy) (hb:vy.ownBlock=some b) (hn:n * z<=M) :
  R w' I ρ' x v F/\∀ r y,x.at r=some y->walk w' v r=walk w v r:=by
 obtain ⟨vy',Fy,hw',hRy,hFy,wk,rebuild⟩:=R.focus q h hat
 rw [hw] at hw'
 cases hw'
 have hbF:Fy b:=hRy.own_block b hb
 have hlt:=h.lt
 have same:∀ c,F c->c≠b->w'.heap[c]?=w.heap[c]?:=fun c hc hne=>s.other c (hlt c hc) hne
 have hRy0:=hRy
 cases hRy with
 | ref hx=>simp [AV.isRef] at hx
 | @own _ _ _ _ e us Fs _ ho hl h1 hr hd hbb hF =>
  have ho':=s.row ho fun _=>hn
  have hne:∀ k c,k<cs.length->Fs k c->c≠b:=fun k c hk hc e=>hbb k c hk hc (e ▸ hb)
  have hFs:∀ k c,k<cs.length->Fs k c->F c:=fun k c hk hc=>hFy c ((hF c).2 (.inr ⟨k,hk,hc⟩))
  have hnew:R w' I ρ' (.own z n cs) vy Fy:=by
   refine .own ho' hl h1 (fun k x u hx hu=>?_) hd hbb hF
   have hk:k<cs.length:=(List.getElem?_eq_some_iff.1 hx).1
   exact (hr k x u hx hu).frame (fun c hc=>s.other c (hI c hc).1 (hI c hc).2) (fun _ h=>h) hρ fun c hc=>same c (hFs k c hk hc) (hne k c hk hc)
  constructor
  ·obtain ⟨F',hR',hF'⟩:=rebuild w' I ρ' _ Fy ⟨fun c hc=>s.other c (hI c hc).1 (hI c hc).2,fun c hc hn=>same c hc fun e=>hn (e ▸ hbF),fun _ h=>h,hρ⟩ hnew (fun c hc _=>hc) fun _ h=>by cases h
   rw [AV.setAt_self q hat] at hR'
   refine hR'.congrF fun c=>?_
   rw [hF' c]
   constructor
   ·rintro (⟨h,_⟩ | h)
    ·exact h
    ·exact hFy c h
   ·intro h
    by_cases hc:Fy c
    ·exact .inr hc
    ·exact .inl ⟨h,hc⟩
  ·obtain ⟨w1,w2⟩:=wk w' fun c hc hn=>same c hc fun e=>hn (e ▸ hbF)
   intro r y hr'
   rcases w2 r y hr' with ⟨r',rfl⟩ | h
   ·rw [walk_app,walk_app,w1,hw]
    simp only [Option.bind_some]
    cases r' with
    | nil=>rfl
    | cons k r' =>
     rw [AV.at_app,hat] at hr'
     obtain ⟨c,hk,hc⟩:=AV.at_cons (x:=.own z n cs) hr'
     simp only [AV.kids] at hk
     have hkl:k<cs.length:=(List.getElem?_eq_some_iff.1 hk).1
     have hu:us[k]?=some us[k]:=List.getElem?_eq_getElem (hl ▸ hkl)
     have:=R.walk_frame (w':=w') r' (hr k c _ hk hu) hc fun c hc=>same c (hFs k c hkl hc) (hne k c hkl hc)
     simp [walk,ownsRow_child ho hu,ownsRow_child ho' hu,this]
   ·exact h
end
end Go.Own
