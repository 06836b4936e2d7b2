/- Parts of the proof that the last text states. -/
import Derived.ChangeAt
import Derived.ChangeOld
import Derived.ChangeSame
import Derived.Deep.Slices
import Derived.ReadAgain
import Derived.RowKit3
import Derived.WideShapes
import Derived.Test.YtkpckhoghkeicaaE1
namespace Go.Own
open Go
set_option linter.unusedSectionVars false
variable [TB]
inductive Fz:AV->AV->Prop
 | refl {x:AV}:Fz x x
 | nilO {z:Nat}:Fz .nils (.own z 0 [])
 | ice {x y:AV}(hn:NR x) (h:View (fun _=>none) x y):Fz x y
 | own {z n:Nat}{cs cs':List AV}(hl:cs'.length=cs.length) (h:∀ (k:Nat) (x y:AV),cs[k]?=some x->cs'[k]?=some y->Fz x y):Fz (.own z n cs) (.own z n cs')
 | obj {cs cs':List AV}(hl:cs'.length=cs.length) (h:∀ (k:Nat) (x y:AV),cs[k]?=some x->cs'[k]?=some y->Fz x y):Fz (.obj cs) (.obj cs')
 | agg {cs cs':List AV}(hl:cs'.length=cs.length) (h:∀ (k:Nat) (x y:AV),cs[k]?=some x->cs'[k]?=some y->Fz x y):Fz (.agg cs) (.agg cs')
theorem View.up {g g':Gst}(h:∀ t x,g t=some x->g' t=some x) {x y:AV}(hv:View g x y):View g' x y:=by
 induction hv with
 | nilI=>exact .nilI
 | self h1 h2 h3 h4 h5 h6=>exact .self h1 h2 h3 h4 h5 h6
 | mp=>exact .mp
 | mref hp=>exact .mref (atP_mono h hp)
 | agg hl _ ih=>exact .agg hl ih
 | own hl _ ih=>exact .own hl ih
 | obj hl _ ih=>exact .obj hl ih
 | clo hl _ ih=>exact .clo hl ih
 | brw hp hn hl _ ih=>exact .brw (atP_mono h hp) hn hl ih
 | sub hp hn hl _ ih=>exact .sub (atP_mono h hp) hn hl ih
 | ptr hp hy hk hl _ ih=>exact .ptr (atP_mono h hp) hy hk hl ih
 | rows hp hl _ ih=>exact .rows (hp.mono (fun hp=>atP_mono h hp) h) hl ih
theorem View.ns {g:Gst}{x y:AV}{j:Nat × Nat}(h:View g x y) (e:y=.self j):x=.self j:=by
 cases h <;> first | exact e | cases e
theorem Fz.ns {x y:AV}{j:Nat × Nat}(h:Fz x y) (e:y=.self j):x=.self j:=by
 cases h <;> first | exact e | exact View.ns ‹_› e | cases e
theorem ns_each {F:AV->AV->Prop}{cs cs':List AV}(hl:cs'.length=cs.length) (h:∀ (k:Nat) (x y:AV),cs[k]?=some x->cs'[k]?=some y->F x y) (hF:∀ x y j,F x y->y=.self j->x=.self j) (k:Nat) (j:Nat × Nat) (hk:cs'[k]?=some (.self j)):cs[k]?=some (.self j):=by
 have hlt:k<cs.length:=hl ▸ (List.getElem?_eq_some_iff.1 hk).1
 rw [List.getElem?_eq_getElem hlt]
 exact congrArg some (hF _ _ j (h k _ _ (List.getElem?_eq_getElem hlt) hk) rfl)
theorem nr_each {cs cs':List AV}(hl:cs'.length=cs.length) (hn:∀ x∈cs,NR x) (ih:∀ (k:Nat) (x y:AV),cs[k]?=some x->cs'[k]?=some y->NR x->NR y):∀ y∈cs',NR y:=by
 intro y hy
 obtain ⟨k,hk⟩:=List.getElem?_of_mem hy
 have hkl:=(List.getElem?_eq_some_iff.1 hk).1
 have hx:=List.getElem?_eq_getElem (hl ▸ hkl:k<cs.length)
 exact ih k _ y hx hk (hn _ (List.mem_of_getElem? hx))
section
variable {w:World}{I:BSet}
theorem R.ice {ρ:AV->Value->Prop}{x y:AV}{v:Value}{F:BSet}(hR:R w I ρ x v F) (hn:NR x) (h:View (fun _=>none) x y) (hI:∀ c,F c->¬ I c) (hlt:∀ c,I c->c<w.heap.size) (htb:TB.q w I):R w (fun c=>I c\/F c) ρ y v E0:=by
 have hS:SRc w I #[v] (fun t=>if t=0 then some x else none) (fun t c=>t=0/\F c):=by
  refine ⟨fun t z hz=>?_,fun t ht c hc=>?_,fun t t' c hc hc'=>hc.1.trans hc'.1.symm,fun t c hc=>hI c hc.2,hlt,htb⟩
  ·by_cases h0:t=0
   ·subst h0
    rw [if_pos rfl] at hz
    cases hz
    exact ⟨v,rfl,.tree ((hR.nr hn).congrF fun c=>⟨fun h=>⟨rfl,h⟩,fun h=>h.2⟩)⟩
   ·rw [if_neg h0] at hz; cases hz
  ·rw [if_pos hc.1] at ht; cases ht
 have:=View.soundC hS (h.up fun _ _ h=>by cases h) (hR.nr hn) (fun c hc=>⟨0,rfl,hc⟩) ρ
 exact this.moreI fun c hc=>by
  rcases hc with h | ⟨t,_,h⟩
  ·exact .inl h
  ·exact .inr h
theorem Fz.nr {x y:AV}(h:Fz x y):NR x->NR y:=by
 induction h with
 | refl=>exact id
 | nilO=>exact fun _=>.own (by simp)
 | ice hn h =>
  intro _
  have key:∀ {x y:AV},View (fun _=>none) x y->NR x->NR y:=by
   intro x y h
   induction h with
   | nilI=>exact fun _=>.imm (by simp)
   | self h=>exact fun _=>h
   | mp=>exact fun _=>.imp
   | mref hp=>simp [atP] at hp
   | agg hl _ ih=>intro hn; cases hn with | agg hn=>exact .agg (nr_each hl hn ih)
   | own hl _ ih=>intro hn; cases hn with | own hn=>exact .imm (nr_each hl hn ih)
   | obj hl _ ih=>intro hn; cases hn with | obj hn=>exact .iptr (nr_each hl hn ih)
   | clo hl _ ih=>intro hn; cases hn with | clo h1 h2=>exact .clo h1 (nr_each hl h2 ih)
   | brw hp=>simp [atP] at hp
   | sub hp=>simp [atP] at hp
   | ptr hp=>simp [atP] at hp
   | rows hp =>
    cases hp with
    | own hp=>simp [atP] at hp
    | pend ht=>cases ht
  exact key h hn
 | own hl _ ih=>intro hn; cases hn with | own hn=>exact .own (nr_each hl hn ih)
 | obj hl _ ih=>intro hn; cases hn with | obj hn=>exact .obj (nr_each hl hn ih)
 | agg hl _ ih=>intro hn; cases hn with | agg hn=>exact .agg (nr_each hl hn ih)
theorem fz_kids {ρ:AV->Value->Prop}{cs cs':List AV}{get:Nat->Option Value}{Fs:Nat->BSet}{F B:BSet}(hl:cs'.length=cs.length)
  (hg:∀ k,k<cs.length->∃ u,get k=some u)
  (hd:∀ (j k c:Nat),j<cs.length->k<cs.length->Fs j c->Fs k c->j=k) (hb:∀ k c,k<cs.length->Fs k c->¬ B c) (hF:∀ c,F c↔B c\/∃ k,k<cs.length/\Fs k c)
  (ih:∀ (k:Nat) (x y:AV),cs[k]?=some x->cs'[k]?=some y->∀ u,get k=some u->∃ F',(∀ c,F' c->Fs k c)/\R w (fun c=>I c\/(Fs k c/\¬ F' c)) ρ y u F') :
  ∃ Gs:Nat->BSet,(∀ k c,k<cs'.length->Gs k c->Fs k c)/\(∀ (k:Nat) (y:AV) (u:Value),cs'[k]?=some y->get k=some u->R w (fun c=>I c\/(F c/\¬ (B c\/∃ j,j<cs'.length/\Gs j c))) ρ y u (Gs k)):=by
 have:∀ k,∃ G:BSet,k<cs.length->(∀ c,G c->Fs k c)/\∀ (y:AV) (u:Value),cs'[k]?=some y->get k=some u->R w (fun c=>I c\/(Fs k c/\¬ G c)) ρ y u G:=by
  intro k
  by_cases hk:k<cs.length
  ·have hx:=List.getElem?_eq_getElem hk
   have hy:=List.getElem?_eq_getElem (hl ▸ hk:k<cs'.length)
   obtain ⟨u,hu⟩:=hg k hk
   obtain ⟨G,h1,h2⟩:=ih k _ _ hx hy u hu
   refine ⟨G,fun _=>⟨h1,fun y u' hy' hu'=>?_⟩⟩
   rw [hy] at hy'; cases hy'
   rw [hu] at hu'; cases hu'
   exact h2
  ·exact ⟨E0,fun h=>absurd h hk⟩
 obtain ⟨Gs,hGs⟩:=Classical.axiomOfChoice this
 refine ⟨Gs,fun k c hk=>(hGs k (hl ▸ hk)).1 c,fun k y u hy hu=>?_⟩
 have hk:k<cs'.length:=(List.getElem?_eq_some_iff.1 hy).1
 have hk':k<cs.length:=hl ▸ hk
 refine ((hGs k hk').2 y u hy hu).moreI fun c hc=>?_
 rcases hc with h | ⟨h1,h2⟩
 ·exact .inl h
 ·refine .inr ⟨(hF c).2 (.inr ⟨k,hk',h1⟩),?_⟩
  rintro (h | ⟨j,hj,h⟩)
  ·exact hb k c hk' h1 h
  ·have hj':j<cs.length:=hl ▸ hj
   have:=hd j k c hj' hk' ((hGs j hj').1 c h) h1
   subst this
   exact h2 h
theorem R.fz {ρ:AV->Value->Prop}{x y:AV}(h:Fz x y):∀ {v:Value}{F:BSet},R w I ρ x v F->NR x->(∀ c,F c->¬ I c)->(∀ c,I c->c<w.heap.size)->TB.q w I->∃ F',(∀ c,F' c->F c)/\R w (fun c=>I c\/(F c/\¬ F' c)) ρ y v F':=by
 induction h with
 | refl=>exact fun hR _ _ _ _=>⟨_,fun _ h=>h,hR.moreI fun _ h=>.inl h⟩
 | nilO =>
  intro v F hR _ _ _ _
  have:=hR.inv_nils
  subst this
  refine ⟨E0,fun _ h=>h.elim,.own (e:=0) (us:=[]) (Fs:=fun _=>E0) ⟨by simp,.inl ⟨rfl,rfl⟩⟩ rfl (by simp) (by simp) (fun _ _ _ _ _ h=>h.elim) (fun _ _ _ h=>h.elim) fun c=>⟨fun h=>h.elim,fun h=>?_⟩⟩
  rcases h with h | ⟨_,_,h⟩
  ·cases h
  ·exact h
 | ice hn h=>exact fun hR _ hI hlt htb=>⟨E0,fun _ h=>h.elim,(hR.ice hn h hI hlt htb).moreI fun c hc=>hc.elim .inl fun h=>.inr ⟨h,fun h=>h⟩⟩
 | @own z n cs cs' hl _ ih =>
  intro v F hR hn hI hlt htb
  cases hR with
  | ref hx=>simp [AV.isRef] at hx
  | @own _ _ _ _ e us Fs _ ho hl' h1 hr hd hb hF =>
   cases hn with
   | own hn =>
    obtain ⟨Gs,hG1,hG2⟩:=fz_kids (get:=fun k=>us[k]?) (B:=fun c=>v.ownBlock=some c) hl (fun k hk=>⟨_,List.getElem?_eq_getElem (hl' ▸ hk)⟩) hd (fun k c hk hc e=>hb k c hk hc e) hF (fun k x y hx hy u hu=>ih k x y hx hy (hr k x u hx hu) (hn x (List.mem_of_getElem? hx)) (fun c hc=>hI c ((hF c).2 (.inr ⟨k,(List.getElem?_eq_some_iff.1 hx).1,hc⟩))) hlt htb)
    exact ⟨_,fun c hc=>(hF c).2 (hc.imp id fun ⟨k,hk,h⟩=>⟨k,hl ▸ hk,hG1 k c hk h⟩),
     .own ho (by rw [hl,hl']) h1 (fun k y u hy hu=>hG2 k y u hy hu) (fun j k c hj hk h2 h3=>hd j k c (hl ▸ hj) (hl ▸ hk) (hG1 j c hj h2) (hG1 k c hk h3)) (fun k c hk hc=>hb k c (hl ▸ hk) (hG1 k c hk hc)) (fun c=>Iff.rfl)⟩
 | @obj cs cs' hl hfz ih =>
  intro v F hR hn hI hlt htb
  cases hR with
  | ref hx=>simp [AV.isRef] at hx
  | @obj _ b e arr Fs _ ho hl' h1 hr hd hb hF hs =>
   cases hn with
   | obj hn =>
    obtain ⟨Gs,hG1,hG2⟩:=fz_kids (get:=fun k=>arr[k]?) (B:=fun c=>c=b) hl (fun k hk=>⟨_,Array.getElem?_eq_getElem (hl' ▸ hk)⟩) hd (fun k c hk hc e=>hb k hk (e ▸ hc)) hF (fun k x y hx hy u hu=>ih k x y hx hy (hr k x u hx hu) (hn x (List.mem_of_getElem? hx)) (fun c hc=>hI c ((hF c).2 (.inr ⟨k,(List.getElem?_eq_some_iff.1 hx).1,hc⟩))) hlt htb)
    exact ⟨_,fun c hc=>(hF c).2 (hc.imp id fun ⟨k,hk,h⟩=>⟨k,hl ▸ hk,hG1 k c hk h⟩),
     .obj ho (by rw [hl,hl']) h1 (fun k y u hy hu=>hG2 k y u hy hu) (fun j k c hj hk h2 h3=>hd j k c (hl ▸ hj) (hl ▸ hk) (hG1 j c hj h2) (hG1 k c hk h3)) (fun k hk hc=>hb k (hl ▸ hk) (hG1 k b hk hc)) (fun c=>Iff.rfl) (fun k j u hk=>hs k j u (ns_each hl hfz (fun _ _ _=>Fz.ns) k j hk))⟩
 | @agg cs cs' hl _ ih =>
  intro v F hR hn hI hlt htb
  cases hR with
  | ref hx=>simp [AV.isRef] at hx
  | @agg _ vs Fs _ hl' h1 hr hd hF =>
   cases hn with
   | agg hn =>
    obtain ⟨Gs,hG1,hG2⟩:=fz_kids (get:=fun k=>vs[k]?) (B:=fun _=>False) hl (fun k hk=>⟨_,Array.getElem?_eq_getElem (hl' ▸ hk)⟩) hd (fun k c hk hc e=>e) (fun c=>(hF c).trans ⟨.inr,fun h=>h.elim (fun h=>h.elim) id⟩) (fun k x y hx hy u hu=>ih k x y hx hy (hr k x u hx hu) (hn x (List.mem_of_getElem? hx)) (fun c hc=>hI c ((hF c).2 ⟨k,(List.getElem?_eq_some_iff.1 hx).1,hc⟩)) hlt htb)
    refine ⟨fun c=>∃ k,k<cs'.length/\Gs k c,fun c ⟨k,hk,h⟩=>(hF c).2 ⟨k,hl ▸ hk,hG1 k c hk h⟩,
     .agg (Fs:=Gs) (by rw [hl,hl']) h1 (fun k y u hy hu=>(hG2 k y u hy hu).moreI fun c hc=>hc.imp id fun ⟨h1,h2⟩=>⟨h1,fun h=>h2 (.inr h)⟩) (fun j k c hj hk h2 h3=>hd j k c (hl ▸ hj) (hl ▸ hk) (hG1 j c hj h2) (hG1 k c hk h3)) (fun c=>Iff.rfl)⟩
end
end Go.Own
namespace Go.Own
open Go
set_option linter.unusedSectionVars false
variable [TB]
structure Keep (g1 g2:Gst):Prop where
 sub:∀ t x,g2 t=some x->g1 t=some x
 rk:∀ t x,g2 t=some x->RK g2 x
 np:∀ t z q n m new,g2 t≠some (.pend z q n m new)
structure Rm where
 size:Nat
 pins:List Nat
def Rm.ok (N:Rm) (d:Nat):Bool:=Nat.blt d N.size&&!N.pins.elem d
def Hold (N:Rm) (T T':Array Value):Prop:=T'.size=T.size/\∀ t∈N.pins,T'[t]?=T[t]?
theorem Hold.refl {N:Rm}{T:Array Value}:Hold N T T:=⟨rfl,fun _ _=>rfl⟩
theorem Hold.trans {N:Rm}{T T1 T2:Array Value}(h:Hold N T T1) (h1:Hold N T1 T2):Hold N T T2:=⟨h1.1.trans h.1,fun t ht=>(h1.2 t ht).trans (h.2 t ht)⟩
theorem Rm.lt {N:Rm}{d:Nat}(h:N.ok d=true):d<N.size:=by
 simp [Rm.ok] at h; exact h.1
theorem Hold.put {N:Rm}{d:Nat}(h:N.ok d=true) (T:Array Value) (v:Value):Hold N T (T.setIfInBounds d v):=by
 refine ⟨by simp,fun t ht=>?_⟩
 rw [Array.getElem?_setIfInBounds_ne]
 rintro rfl
 simp [Rm.ok,ht] at h
def Next' (N:Rm) (a:Act) (w:World) (I:BSet) (Fs:Nat->BSet) (g':Gst) (a':Act) (w':World):Prop :=
 a'.defers=a.defers/\Hold N a.tmps a'.tmps/\∃ I' Fs',SR w' I' a'.tmps g' Fs'/\St w I (fun c=>∃ t,Fs t c) w' I' (fun c=>∃ t,Fs' t c)
theorem upd_updF {Fs':Nat->BSet}{d:Nat}{F:BSet}{c:Nat}(h:∃ t,updF Fs' d F t c):(∃ t,Fs' t c)\/F c:=by
 obtain ⟨t,h⟩:=h
 unfold updF at h
 split at h
 ·exact .inr h
 ·exact .inl ⟨t,h⟩
structure ECall (P:Program) (g:Gst) (f:FuncId) (all xs0 xs1 args:List AV) (tk:Nat->Bool) (vw:Bool) (g1 g2:Gst) (outs:List (Option AV)) (res:AV) (l:List (Place × AV)) (ks:Nat->Nat) (g4:Gst):Prop where
 hf:callT P f=true
 l0:xs0.length=all.length
 la:args.length=all.length
 h0:∀ (k:Nat) (x:AV),all[k]?=some x->xs0[k]?=some x\/xs0[k]?=some .dead
 ht:Take g xs0 xs1 g1
 hk:Keep g1 g2
 ha:∀ (k:Nat) (x y:AV),all[k]?=some x->args[k]?=some y->if tk k then xs1[k]?=some y else vw=true/\View g2 x y
 hcon:Con P f args outs res
 hr:if vw then OO res else NR res
 hro:∀ (k:Nat) (x:AV),outs[k]?=some (some x)->if vw then OO x else NR x
 hl:∀ (j:Nat) (p:Place) (x:AV),l[j]?=some (p,x)->Lent g g2 all outs (ks j) p x
 nd:(l.map (·.1)).Nodup
 inj:∀ i j,i<l.length->j<l.length->ks i=ks j->i=j
 k4:Keep (putAll g2 l) g4
section
variable {P:Program}{w:World}{I:BSet}{T:Array Value}{g:Gst}{Fs:Nat->BSet}
theorem SRc.keep (h:SRc w I T g Fs) {g2:Gst}(hk:Keep g g2):SR w I T g2 (fun t c=>g2 t≠none/\Fs t c) :=
 h.toR hk.sub hk.rk fun _ _ _ _ _ _ _ _ _ _ _ h1=>absurd h1 (hk.np _ _ _ _ _ _)
structure Bk (g:Gst) (d:Nat) (g4 g5:Gst):Prop where
 sub:∀ t x,g4 t=some x->g5 t=some x
 new:∀ t x,g5 t=some x->g4 t=some x\/(g4 t=none/\t≠d/\g t=some x/\∃ r k cs,x=.ptr ⟨r,[]⟩ k/\r≠d/\g4 r=some (.obj cs)/\k<cs.length)
theorem Bk.refl {d:Nat}{g4:Gst}:Bk g d g4 g4:=⟨fun _ _ h=>h,fun _ _ h=>.inl h⟩
theorem SR.back (h:SR w I T g Fs) {w':World}{I':BSet}{d:Nat}{v:Value}{g4 g5:Gst}{Fs4:Nat->BSet}(h4:SR w' I' (T.setIfInBounds d v) g4 Fs4) (hb:Bk g d g4 g5):SR w' I' (T.setIfInBounds d v) g5 Fs4:=by
 refine ⟨fun t x hx=>?_,fun t ht c hc=>?_,h4.dis,h4.imm,h4.lt,fun t t' z p n m new z' n' m' new' h1 h2=>?_,h4.tb⟩
 ·rcases hb.new t x hx with h' | ⟨h1,h2,h3,r,k,cs,rfl,h5,h6,h7⟩
  ·obtain ⟨u,hu,hR⟩:=h4.rel t x h'
   exact ⟨u,hu,h4.frameT (fun _ _=>rfl) (fun _ _ _=>rfl) (fun _ _=>rfl) (fun _ h=>h) hb.sub hR fun _ _=>rfl⟩
  ·obtain ⟨u,hu,hR⟩:=h.rel t _ h3
   obtain ⟨⟨u2,ad,a1,a2,rfl⟩,_⟩:=(hR.isTree (by simp)).inv_ptr
   have hT:∀ s,s≠d->(T.setIfInBounds d v)[s]?=T[s]?:=fun s hs=>by rw [Array.getElem?_setIfInBounds_ne (Ne.symm hs)]
   refine ⟨_,by rw [hT t h2]; exact hu,.tree (.ref rfl ⟨⟨u2,ad,?_,a2,rfl⟩,?_⟩ (h4.non t h1))⟩
   ·have:valAt w T ⟨r,[]⟩=T[r]?:=by
     unfold valAt; simp only; cases T[r]? <;> rfl
    rw [this] at a1
    unfold valAt
    simp only [hT r h5,a1,walk]
   ·exact ⟨.obj cs,by simp [atP,hb.sub r _ h6,AV.at],0,0,cs,.inr rfl,h7⟩
 ·cases h':g4 t with
  | none=>exact h4.non t h' c hc
  | some y=>rw [hb.sub t y h'] at ht; cases ht
 ·have:∀ {t z p n m new},g5 t=some (.pend z p n m new)->g4 t=some (.pend z p n m new):=by
   intro t z p n m new hx
   rcases hb.new t _ hx with h' | ⟨_,_,_,r,k,cs,e,_⟩
   ·exact h'
   ·cases e
  exact h4.pok t t' z p n m new z' n' m' new' (this h1) (this h2)
def CallOk (P:Program) (N:Rm) (g:Gst) (o:Oper) (d:Nat) (g5:Gst):Prop :=
 ∀ (w:World) (I:BSet) (T:Array Value) (Fs:Nat->BSet),SR w I T g Fs->∀ (a:Act),a.tmps=T->a.tmps.size=N.size->∀ (K:Act->World->Prop) (Q:Exit->Act->World->Prop),
  (∀ (a':Act) (w':World) (v:Value) (I':BSet) (Fs':Nat->BSet),a'.defers=a.defers->a'.tmps=T.setIfInBounds d v->SR w' I' (T.setIfInBounds d v) g5 Fs'->St w I (fun c=>∃ t,Fs t c) w' I' (fun c=>∃ t,Fs' t c)->K a' w')->o.wp P a w K Q
theorem CallOk.sound {N:Rm}{o:Oper}{d:Nat}{g5:Gst}(hc:CallOk P N g o d g5) (hdN:N.ok d=true) (h:SR w I T g Fs) {a:Act}(ha:a.tmps=T) (hN:a.tmps.size=N.size) {K:Act->World->Prop}{Q:Exit->Act->World->Prop}
  (hK:∀ a' w',Next' N a w I Fs g5 a' w'->K a' w'):o.wp P a w K Q :=
 hc w I T Fs h a ha hN K Q fun a' w' v I' Fs' h1 h2 h3 h4=>hK a' w' ⟨h1,by rw [h2,<- ha]; exact Hold.put hdN _ _,I',Fs',by rw [h2]; exact h3,h4⟩
theorem ECall.ok {N:Rm}{o:Oper}{c:Operand}{xs:Array Operand}{tys:Array TypeId}{d:Nat}{f:FuncId}{first caps ys xs0 xs1 args:List AV}{tk:Nat->Bool}{vw:Bool}{g1 g2 g4 g5:Gst}{outs:List (Option AV)}{res:AV}{l:List (Place × AV)}{ks:Nat->Nat}
  (ho:o.op=.call { callee:=.value c,args:=xs,argTypes:=tys }) (hd:o.dst=some d) (hc:opd g c=some (.clo (.func f) first caps)) (hx:opds g xs.toList=some ys)
  (he:ECall P g f (first++ys++caps) xs0 xs1 args tk vw g1 g2 outs res l ks g4) (hg:g4 d=none) (hdN:N.ok d=true) (hbk:Bk g d (upd g4 d res) g5):CallOk P N g o d g5:=by
 intro w I T Fs h a ha hN K Q hK
 obtain ⟨v1,v2,hcv,hl,hargs⟩:=callArgs h ha hc hx
 have hrun:(execOp a.eval o).run P w=.ok (.enter f (v1++xs.map a.eval++v2)) w:=by
  simp [execOp,ho,resolve,Deferred.ofValue,hcv,invoke,callT_run he.hf]
 generalize hvs:(v1++xs.map a.eval++v2).toList=vs at *
 generalize hall0:first++ys++caps=all at *
 -- what is taken
 have hH0:Hand w I (RefAt w T) Fs xs0 vs (fun _=>E0):=by
  refine ⟨by rw [he.l0,hl],fun k x u hx hu=>?_,fun _ _ _ _ _ h=>h.elim,fun _ _ _ _ h=>h.elim,fun _ _ _ h=>h.elim⟩
  have hk:k<all.length:=by rw [<- he.l0]; exact (List.getElem?_eq_some_iff.1 hx).1
  have hak:=List.getElem?_eq_getElem hk
  rcases he.h0 k _ hak with h0 | h0
  ·rw [h0] at hx; cases hx
   exact (hargs k _ u hak hu).frame (fun _ _=>rfl) (fun _ h=>h) (fun _ _ h=>h.1) fun _ _=>rfl
  ·rw [h0] at hx; cases hx
   exact .dead fun _ h=>h
 obtain ⟨Fs1,H1,hS1,hH1,hall⟩:=he.ht.sound h.toC hH0
 have hallU:∀ c,AllB Fs1 xs1.length H1 c->∃ t,Fs t c:=by
  intro c hc
  rcases hall c hc with h' | ⟨_,_,h'⟩
  ·exact h'
  ·exact h'.elim
 have hS2:=hS1.keep he.hk
 generalize hFs2:(fun t c=>g2 t≠none/\Fs1 t c)=Fs2 at hS2
 have hF21:∀ t c,Fs2 t c->Fs1 t c:=by intro t c hc; rw [<- hFs2] at hc; exact hc.2
 have hl1:xs1.length=all.length:=by rw [he.ht.length,he.l0]
 -- what the callee sees
 let Ic:BSet:=fun c=>I c\/(vw=true/\∃ t,Fs2 t c)
 let Fc:Nat->BSet:=fun t c=>t<all.length/\tk t=true/\H1 t c
 have hFcoff:∀ t c,Fc t c->(∀ s,¬ Fs2 s c)/\¬ I c/\∃ t,Fs t c:=by
  rintro t c ⟨h1,h2,h3⟩
  exact ⟨fun s hs=>hH1.off t s c (by omega) h3 (hF21 s c hs),hH1.imm t c (by omega) h3,hallU c (.inr ⟨t,by omega,h3⟩)⟩
 have hrelc:∀ (ρ':AV->Value->Prop) (k:Nat) (y:AV) (u:Value),args[k]?=some y->vs[k]?=some u->R w Ic ρ' y u (Fc k):=by
  intro ρ' k y u hy hu
  have hk:k<all.length:=by rw [<- he.la]; exact (List.getElem?_eq_some_iff.1 hy).1
  have hak:=List.getElem?_eq_getElem hk
  have:=he.ha k _ y hak hy
  split at this
  ·rename_i ht
   have hnr:NR y:=he.ht.nrOut y (List.mem_of_getElem? this)
   exact (((hH1.rel k y u this hu).nr hnr).moreI fun c hc=>.inl hc).congrF fun c=>⟨fun hc=>⟨hk,ht,hc⟩,fun hc=>hc.2.2⟩
  ·rename_i ht
   obtain ⟨hv,hview⟩:=this
   have hR0:R w I (RefAt w T) all[k] u E0:=(hargs k _ u hak hu).frame (fun _ _=>rfl) (fun _ h=>h) (fun _ _ h=>h.1) fun _ _=>rfl
   have:=View.soundC hS2.toC hview hR0 (fun _ h=>h.elim) ρ'
   refine (this.moreI (I':=Ic) fun c hc=>?_).congrF fun c=>⟨fun h=>h.elim,fun hc=>absurd hc.2.1 ht⟩
   rcases hc with h' | h'
   ·exact .inl h'
   ·exact .inr ⟨hv,h'⟩
 have hSc:SR w Ic vs.toArray (argG args) Fc:=by
  refine ⟨fun t x hx=>?_,fun t ht c hc=>?_,fun t t' c hc hc'=>hH1.dis t t' c (by have:=hc.1; omega) (by have:=hc'.1; omega) hc.2.2 hc'.2.2,fun t c hc hi=>?_,fun c hc=>?_,fun t t' z p n m new z' n' m' new' h1 h2=>?_,TB.keep h.tb (fun _ _=>rfl) fun _ h=>.inl h⟩
  ·have ht:t<args.length:=(List.getElem?_eq_some_iff.1 hx).1
   have hu:vs[t]?=some (vs[t]'(by rw [<- hl,<- he.la]; exact ht)):=List.getElem?_eq_getElem _
   exact ⟨_,by rw [List.getElem?_toArray]; exact hu,.tree (hrelc _ t x _ hx hu)⟩
  ·have hle:args.length<=t:=by simpa [argG] using ht
   have:=hc.1; have:=he.la; omega
  ·obtain ⟨h1,h2,_⟩:=hFcoff t c hc
   rcases hi with h' | ⟨_,s,h'⟩
   ·exact h2 h'
   ·exact h1 s h'
  ·rcases hc with h' | ⟨_,s,h'⟩
   ·exact h.lt c h'
   ·exact hS2.ltF s c h'
  ·have ht:t<args.length:=(List.getElem?_eq_some_iff.1 h1).1
   have hu:vs[t]?=some (vs[t]'(by rw [<- hl,<- he.la]; exact ht)):=List.getElem?_eq_getElem _
   exact (hrelc (fun _ _=>False) t _ _ h1 hu).notPend.elim
 have hcall:=he.hcon.2 w Ic vs Fc (by rw [<- hl,he.la]) hSc
 unfold Oper.wp Oper.upon
 simp only [hrun]
 rw [<- hvs,Array.toArray_toList] at hcall
 refine Calls.mono hcall ?_
 rintro e w' ⟨v,I',Fs',rfl,hS',hst⟩
 rw [hvs] at hS'
 have hlo:outs.length=all.length:=by rw [he.hcon.1,he.la]
 have hlv:vs.length=all.length:=hl.symm
 -- the blocks behind the call
 have same2:∀ t c,Fs2 t c->w'.heap[c]?=w.heap[c]?:=fun t c hc=>hst.fr.block c (hS2.ltF t c hc) fun ⟨s,hs⟩=>(hFcoff s c hs).1 t hc
 have sameI:∀ c,I c->w'.heap[c]?=w.heap[c]?:=fun c hc=>hst.fr.block c (h.lt c hc) fun ⟨s,hs⟩=>(hFcoff s c hs).2.1 hc
 let If:BSet:=fun c=>if vw then I c else I' c
 have ownU:∀ t c,Fs' t c->(∃ s,Fc s c)\/w.heap.size<=c:=fun t c hc=>hst.own c ⟨t,hc⟩
 have offF:∀ t c,Fs' t c->∀ s,¬ Fs2 s c:=by
  intro t c hc s hs
  rcases ownU t c hc with ⟨s',h'⟩ | h'
  ·exact (hFcoff s' c h').1 s hs
  ·have:=hS2.ltF s c hs; omega
 have offI:∀ t c,Fs' t c->¬ If c:=by
  intro t c hc hi
  cases vw with
  | true =>
   simp only [If,if_true] at hi
   rcases ownU t c hc with ⟨s',h'⟩ | h'
   ·exact (hFcoff s' c h').2.1 hi
   ·have:=h.lt c hi; omega
  | false =>
   simp only [If,Bool.false_eq_true,if_false] at hi
   exact hS'.imm t c hc hi
 have hIf:∀ c,If c->I c\/(∃ s,Fc s c)\/w.heap.size<=c:=by
  intro c hc
  cases vw with
  | true=>simp only [If,if_true] at hc; exact .inl hc
  | false =>
   simp only [If,Bool.false_eq_true,if_false] at hc
   rcases hst.new c hc with h' | h' | h'
   ·rcases h' with h' | ⟨h',_⟩
    ·exact .inl h'
    ·cases h'
   ·exact .inr (.inl h')
   ·exact .inr (.inr h')
 have hIIf:∀ c,I c->If c:=by
  intro c hc
  cases vw with
  | true=>simp only [If,if_true]; exact hc
  | false=>simp only [If,Bool.false_eq_true,if_false]; exact hst.more c (.inl hc)
 have hS2':SR w' If T g2 Fs2:=by
  have:=hS2.world (w':=w') same2 sameI hst.fr.size
  refine ⟨fun t x hx=>?_,this.non,this.dis,fun t c hc hi=>?_,fun c hc=>?_,this.pok,TB.keep h.tb sameI hIIf⟩
  ·obtain ⟨v,hv,hR⟩:=this.rel t x hx
   exact ⟨v,hv,hR.frame (fun _ _=>rfl) hIIf (fun _ _ h=>h) (fun _ _ _ _ _ _ _=>rfl) fun _ _=>rfl⟩
  ·rcases hIf c hi with h' | ⟨s,h'⟩ | h'
   ·exact hS2.imm t c hc h'
   ·exact (hFcoff s c h').1 t hc
   ·have:=hS2.ltF t c hc; omega
  ·cases vw with
   | true=>simp only [If,if_true] at hc; exact Nat.lt_of_lt_of_le (h.lt c hc) hst.fr.size
   | false=>simp only [If,Bool.false_eq_true,if_false] at hc; exact hS'.lt c hc
 -- what comes back in the arguments, and the result
 have backR:∀ {x:AV}{u:Value}{F:BSet}{ρ ρ':AV->Value->Prop},R w' I' ρ x u F->(if vw then OO x else NR x)->R w' If ρ' x u F:=by
  intro x u F ρ ρ' hR hx
  cases vw with
  | true=>simp only [if_true] at hx; exact hR.oo hx
  | false =>
   simp only [Bool.false_eq_true,if_false] at hx
   refine (hR.nr hx).moreI fun c hc=>?_
   simpa [If] using hc
 have notP:∀ {x:AV},(if vw then OO x else NR x)->∀ z p n m new,x≠.pend z p n m new:=by
  rintro x hx z p n m new rfl
  cases vw with
  | true=>simp only [if_true] at hx; cases hx
  | false=>simp only [Bool.false_eq_true,if_false] at hx; cases hx
 have outR:∀ (k:Nat) (x:AV) (u:Value),outs[k]?=some (some x)->vs[k]?=some u->R w' If (RefAt w' T) x u (Fs' k):=by
  intro k x u hx hu
  have hk:k<outs.length:=(List.getElem?_eq_some_iff.1 hx).1
  obtain ⟨u',hu',hR⟩:=hS'.rel k x (by simp only [outG,if_neg (Nat.ne_of_lt hk),hx]; rfl)
  have:u'=u:=by
   rw [List.getElem?_toArray,List.getElem?_append_left (by rw [hlv,<- hlo]; exact hk),hu] at hu'
   exact (Option.some.inj hu').symm
  subst this
  exact backR (hR.isTree (notP (he.hro k x hx))) (he.hro k x hx)
 obtain ⟨uv,huv,hRv⟩:=hS'.rel outs.length res (by simp [outG])
 have huv':uv=v:=by
  have e:outs.length=vs.length:=by omega
  rw [e] at huv
  simpa using huv.symm
 subst huv'
 -- back into the places
 obtain ⟨Fs3,hS3,hF3⟩:=SRc.putAll (w:=w') (I:=If) (T:=T) l (fun j=>Fs' (ks j)) (fun j=>vs.getD (ks j) undef) hS2'.toC he.nd (fun j p x hj=>by
   have L:=he.hl j p x hj
   have hk:ks j<outs.length:=(List.getElem?_eq_some_iff.1 L.out).1
   have hu:vs[ks j]?=some (vs[ks j]'(by rw [hlv,<- hlo]; exact hk)):=List.getElem?_eq_getElem _
   have hgd:vs.getD (ks j) undef=vs[ks j]'(by rw [hlv,<- hlo]; exact hk):=by simp [List.getD,hu]
   refine ⟨L.at2,?_,?_,fun i e=>?_⟩
   ·rw [hgd,hS2.valAt_same (w':=w') (fun _ _=>rfl) same2 L.at2]
    rcases L.arg with ⟨z,n,cs,h1,h2⟩ | ⟨cs,h1,h2⟩
    ·exact argAt_own h (hargs _ _ _ h1 hu) h2
    ·exact argAt_obj h (hargs _ _ _ h1 hu) h2
   ·rw [hgd]; exact outR _ x _ L.out hu
   ·exact L.ns i e)
  (fun j t c hj hc=>offF _ c hc t) (fun j c hj hc=>offI _ c hc) (fun i j c hi hj h1 h2=>he.inj i j hi hj (hS'.dis _ _ c h1 h2))
 have hS4:=hS3.keep he.k4
 have off4:∀ t c,Fs' outs.length c->¬ (g4 t≠none/\Fs3 t c):=by
  rintro t c hc ⟨_,h4⟩
  rcases hF3 t c h4 with h' | ⟨j,hj,h'⟩
  ·exact offF _ c hc t h'
  ·have hk:ks j<outs.length:=by
    have hj':=List.getElem?_eq_getElem hj
    exact (List.getElem?_eq_some_iff.1 (he.hl j _ _ hj').out).1
   have:=hS'.dis _ _ c hc h'
   omega
 have hput:=hS4.put0 (d:=d) (x:=res) (v:=uv) (F:=Fs' outs.length) hg (by rw [<- ha,hN]; exact Rm.lt hdN) (.tree (backR (hRv.isTree (notP he.hr)) he.hr)) off4 (fun c hc=>offI _ c hc) (fun z p n m new e=>absurd e (notP he.hr z p n m new))
 refine hK _ _ uv If _ (by rw [hd]; rfl) (by rw [hd]; simp [Act.put,ha]) (h.back hput hbk) ⟨?_,hIIf,fun c hc=>?_,fun c hc=>?_⟩
 ·exact hst.fr.mono fun b _ ⟨s,hs⟩=>(hFcoff s b hs).2.2
 ·rcases hIf c hc with h' | ⟨s,h'⟩ | h'
  ·exact .inl h'
  ·exact .inr (.inl (hFcoff s c h').2.2)
  ·exact .inr (.inr h')
 ·have fin:∀ t,Fs' t c->(∃ s,Fs s c)\/w.heap.size<=c:=by
   intro t ht
   rcases ownU t c ht with ⟨s,h'⟩ | h'
   ·exact .inl (hFcoff s c h').2.2
   ·exact .inr h'
  rcases upd_updF hc with ⟨t,_,h'⟩ | h'
  ·rcases hF3 t c h' with h'' | ⟨j,_,h''⟩
   ·exact .inl (hallU c (.inl ⟨t,hF21 t c h''⟩))
   ·exact fin _ h''
  ·exact fin _ h'
structure BkF (g:Gst) (d r k0:Nat) (g4 g5:Gst):Prop where
 sub:∀ t x,g4 t=some x->g5 t=some x
 new:∀ t x,g5 t=some x->g4 t=some x\/(g4 t=none/\t≠d/\g t=some x/\∃ m z n cs,x=.ptr ⟨r,[k0]⟩ m/\atP g4 ⟨r,[k0]⟩=some (.own z n cs)/\m<cs.length)
theorem Keep.atP {g1 g2:Gst}(h:Keep g1 g2) {p:Place}{y:AV}(hp:atP g2 p=some y):atP g1 p=some y:=by
 unfold Own.atP at *
 cases hx:g2 p.root with
 | none=>rw [hx] at hp; cases hp
 | some x=>rw [hx] at hp; rw [h.sub _ _ hx]; exact hp
theorem CallOk.framed {N:Rm}{o:Oper}{r k0 d:Nat}{y:AV}{cs:List AV}{g5:Gst}(hr:g r=some (.obj cs)) (hy:cs[k0]?=some y) (hyn:NR y) (hns:∀ i,y≠.self i)
  (hop:∀ v:Value,v.oneCell'=true->∃ g1 g4 g4',Keep (setP g ⟨r,[k0]⟩ (.lit v)) g1/\CallOk P N g1 o d g4/\atP g4 ⟨r,[k0]⟩=some (.lit v)/\Keep (setP g4 ⟨r,[k0]⟩ y) g4'/\atP g4' ⟨r,[k0]⟩=some y/\BkF g d r k0 g4' g5):CallOk P N g o d g5:=by
 intro w I T Fs h a ha hN K Q hK
 have hnp:∀ z q n m new,y≠.pend z q n m new:=by rintro z q n m new rfl; cases hyn
 have hat:atP g ⟨r,[k0]⟩=some y:=by simp [atP,hr,AV.at,AV.kids,hy]
 obtain ⟨v,Fy,hv,hRy,hFy,put⟩:=h.toC.part hat hnp
 have hv1:v.oneCell'=true:=by
  obtain ⟨u,hu,hRu⟩:=h.rel r _ hr
  obtain ⟨b,u',h1,h2,h3,h4,_⟩:=R.node (z:=0) (n:=0) (hRu.isTree (by simp)) (.inr rfl) hy
  have:valAt w T ⟨r,[k0]⟩=child w u k0:=by
   unfold valAt
   simp only [hu,walk]
   cases child w u k0 <;> rfl
  rw [this,h3] at hv
  cases hv
  exact h4
 obtain ⟨Fs1,hS1,hF1,hF2⟩:=put (.lit v) E0 (.lit hv1 fun _ h=>h) (fun _ h=>h.elim) (fun _ h=>h.elim) (fun _ _ _ h=>h.elim) (fun _ h=>by cases h)
 obtain ⟨g1,g4,g4',hk1,hok,hat4,hk4,hat4',hb⟩:=hop v hv1
 have sub1:∀ t c,Fs1 t c->Fs t c/\¬ Fy c:=by
  intro t c hc
  by_cases ht:t=r
  ·subst ht
   rcases (hF1 c).1 hc with h' | h'
   ·exact h'
   ·exact h'.elim
  ·rw [hF2 t ht] at hc
   exact ⟨hc,fun hf=>ht (h.dis t r c hc (hFy c hf))⟩
 have hS1':=hS1.keep hk1
 refine hok w I T _ hS1' a ha hN K Q fun a' w' v' I' Fs' ed et hS' hst=>?_
 obtain ⟨v2,F2,hv2,hR2,hF2',put2⟩:=hS'.toC.part hat4 (by simp)
 have hv2':v2=v:=hR2.inv_lit.1
 subst hv2'
 have hFyI:∀ c,Fy c->¬ I c:=fun c hc=>h.imm r c (hFy c hc)
 have hFylt:∀ c,Fy c->c<w.heap.size:=fun c hc=>h.ltF r c (hFy c hc)
 have offU:∀ c,Fy c->¬ ∃ t,(g1 t≠none/\Fs1 t c):=fun c hc ⟨t,_,h'⟩=>(sub1 t c h').2 hc
 have offF':∀ t c,Fs' t c->¬ Fy c:=by
  intro t c hc hf
  rcases hst.own c ⟨t,hc⟩ with h' | h'
  ·exact offU c hf h'
  ·have:=hFylt c hf; omega
 have offI':∀ c,Fy c->¬ I' c:=by
  intro c hc hi
  rcases hst.new c hi with h' | h' | h'
  ·exact hFyI c hc h'
  ·exact offU c hc h'
  ·have:=hFylt c hc; omega
 have sameY:∀ c,Fy c->w'.heap[c]?=w.heap[c]?:=fun c hc=>hst.fr.block c (hFylt c hc) (offU c hc)
 have sameI:∀ c,I c->w'.heap[c]?=w.heap[c]?:=fun c hc=>hst.fr.block c (h.lt c hc) fun ⟨t,_,h'⟩=>h.imm t c (sub1 t c h').1 hc
 have hRy':R w' I' (RefAt w' (T.setIfInBounds d v')) y v2 Fy :=
  ((hRy.nr hyn).frame sameI hst.more (fun _ _ h=>h) sameY)
 obtain ⟨Fs5,hS5,hF5,hF6⟩:=put2 y Fy hRy' (fun c hc hf=>(offF' _ c hf hc).elim) (fun c hc=>offI' c hc) (fun t c _ hc hf=>offF' t c hf hc) (fun i e=>absurd e (hns i))
 have hS6:=hS5.keep hk4
 have hval':valAt w' (T.setIfInBounds d v') ⟨r,[k0]⟩=some v2:=hv2
 have hS7:SR w' I' (T.setIfInBounds d v') g5 (fun t c=>g4' t≠none/\Fs5 t c):=by
  refine ⟨fun t x hx=>?_,fun t ht c hc=>?_,hS6.dis,hS6.imm,hS6.lt,fun t t' z p n m new z' n' m' new' h1 h2=>?_,hS6.tb⟩
  ·rcases hb.new t x hx with h' | ⟨h1,h2,h3,m,z,n,cs2,rfl,h5,h6⟩
   ·obtain ⟨u,hu,hR⟩:=hS6.rel t x h'
    exact ⟨u,hu,hS6.frameT (fun _ _=>rfl) (fun _ _ _=>rfl) (fun _ _=>rfl) (fun _ h=>h) hb.sub hR fun _ _=>rfl⟩
   ·obtain ⟨u,hu,hR⟩:=h.rel t _ h3
    obtain ⟨⟨u2,ad,a1,a2,rfl⟩,_⟩:=(hR.isTree (by simp)).inv_ptr
    rw [hv] at a1
    cases a1
    refine ⟨_,by rw [Array.getElem?_setIfInBounds_ne (Ne.symm h2)]; exact hu,.tree (.ref rfl ⟨⟨v2,ad,hval',a2,rfl⟩,?_⟩ (hS6.non t h1))⟩
    refine ⟨.own z n cs2,?_,z,n,cs2,.inl rfl,h6⟩
    unfold Own.atP at h5 ⊢
    cases hx':g4' r with
    | none=>simp only [hx'] at h5; cases h5
    | some x'=>simp only [hx'] at h5; simp only [hb.sub r x' hx']; exact h5
  ·cases h':g4' t with
   | none=>exact hc.1 h'
   | some y=>rw [hb.sub t y h'] at ht; cases ht
  ·have:∀ {t z p n m new},g5 t=some (.pend z p n m new)->g4' t=some (.pend z p n m new):=by
    intro t z p n m new hx
    rcases hb.new t _ hx with h' | ⟨_,_,_,m,z,n,cs2,e,_⟩
    ·exact h'
    ·cases e
   exact hS6.pok t t' z p n m new z' n' m' new' (this h1) (this h2)
 refine hK a' w' v' I' _ ed et hS7 ⟨?_,hst.more,fun c hc=>?_,fun c hc=>?_⟩
 ·exact hst.fr.mono fun b _ ⟨t,_,h'⟩=>⟨t,(sub1 t b h').1⟩
 ·rcases hst.new c hc with h' | ⟨t,_,h'⟩ | h'
  ·exact .inl h'
  ·exact .inr (.inl ⟨t,(sub1 t c h').1⟩)
  ·exact .inr (.inr h')
 ·obtain ⟨t,_,hc⟩:=hc
  have:(∃ t,Fs' t c)\/Fy c:=by
   by_cases ht:t=r
   ·subst ht
    rcases (hF5 c).1 hc with ⟨h',_⟩ | h'
    ·exact .inl ⟨_,h'⟩
    ·exact .inr h'
   ·rw [hF6 t ht] at hc; exact .inl ⟨t,hc⟩
  rcases this with h' | h'
  ·rcases hst.own c h' with ⟨t,_,h''⟩ | h''
   ·exact .inl ⟨t,(sub1 t c h'').1⟩
   ·exact .inr h''
  ·exact .inl ⟨r,hFy c h'⟩
end
end Go.Own
namespace Go.Own
open Go
set_option linter.unusedSectionVars false
variable [TB]
def cellsP:AV->Option (List AV)
 | .agg cs=>some cs
 | .lit v=>some [.lit v]
 | .nils=>some [.nils]
 | .imm z n cs=>some [.imm z n cs]
 | .own z n cs=>some [.own z n cs]
 | .obj cs=>some [.obj cs]
 | .iptr cs=>some [.iptr cs]
 | .clo f a b=>some [.clo f a b]
 | _=>none
def sizeT (P:Program) (t:TypeId) (m:Nat):Bool :=
 match P.info? t with
 | some i=>i.size == m
 | none=>false
def EffOk (P:Program) (N:Rm) (g:Gst) (o:Oper) (g':Gst):Prop :=
 ∀ (w:World) (I:BSet) (T:Array Value) (Fs:Nat->BSet),SR w I T g Fs->∀ (a:Act),a.tmps=T->a.tmps.size=N.size->∀ (K:Act->World->Prop) (Q:Exit->Act->World->Prop),
  (∀ (a':Act) (w':World),Next' N a w I Fs g' a' w'->(∀ t,o.dst≠some t->a'.tmps[t]?=a.tmps[t]?)->K a' w')->o.wp P a w K Q
inductive EO (P:Program) (N:Rm) (g:Gst):Oper->Gst->Prop
 | assign {o:Oper}{d:Nat}{x:Operand}{y y1 y':AV}{g1 g2:Gst}(ho:o.op=.assign x) (hd:o.dst=some d) (hx:opd g x=some y) (ht:Take g [y] [y1] g1) (hz:Fz y1 y') (hk:Keep g1 g2) (hg:g2 d=none) (hN:N.ok d=true):EO P N g o (upd g2 d y')
 | assignRef {o:Oper}{d:Nat}{x:Operand}{y:AV}{g2:Gst}(ho:o.op=.assign x) (hd:o.dst=some d) (hx:opd g x=some y) (hk:Keep g g2) (hy:RK g2 y) (hg:g2 d=none) (hN:N.ok d=true):EO P N g o (upd g2 d y)
 | store {o:Oper}{t:TypeId}{ad val:Operand}{p:Place}{k z n:Nat}{y y1 y' nd:AV}{cs cs':List AV}{g1 g2:Gst}(ho:o.op=.store t ad val) (hd:o.dst=none) (had:opd g ad=some (.ptr p k)) (hval:opd g val=some y) (ht:Take g [y] [y1] g1) (hfz:Fz y1 y')
   (hc:cellsP y'=some cs') (hs:sizeT P t cs'.length=true) (hp:atP g1 p=some nd) (hnd:nd=.own z n cs\/nd=.obj cs) (hk:k+cs'.length<=cs.length) (h0:0<cs'.length)
   (hg2:∀ t x,g2 t=some x->setP g1 p (nd.splice k cs') t=some x) (hrk:∀ t x,g2 t=some x->∀ y,g1 t=some y->RKp (fun r=>RefOk g1 r/\Clear p k cs'.length r/\RefOk g2 r) y) (hnp:∀ t z q n m new,g2 t≠some (.pend z q n m new)) (hroot:g2 p.root≠none):EO P N g o g2
 | call {o:Oper}{d:Nat}{g5:Gst}(hd:o.dst=some d) (hN:N.ok d=true) (h:CallOk P N g o d g5):EO P N g o g5
 | sem {o:Oper}{g2:Gst}(h:EffOk P N g o g2):EO P N g o g2
theorem cellsP_ns {y:AV}{cs:List AV}(h:OkA y) (hc:cellsP y=some cs):NoSelf cs:=by
 have one:∀ {x:AV},(∀ j,x≠.self j)->NoSelf [x]:=fun hx k j e=>by
  cases k with
  | zero=>simp only [List.getElem?_cons_zero,Option.some.injEq] at e; exact hx j e
  | succ k=>simp at e
 cases y <;> simp only [Go.Own.cellsP,Option.some.injEq,reduceCtorEq] at hc <;> subst hc
 all_goals first | exact h _ rfl | exact one (by simp)
theorem View.okA {g:Gst}{x y:AV}(h:View g x y) (hx:OkA x):OkA y:=by
 intro cs e k j hk
 cases h with
 | self=>exact hx _ e k j hk
 | agg hl h=>cases e; exact hx _ rfl k j (ns_each hl h (fun _ _ _=>View.ns) k j hk)
 | _=>cases e
theorem Fz.okA {x y:AV}(h:Fz x y) (hx:OkA x):OkA y:=by
 intro cs e k j hk
 cases h with
 | refl=>exact hx _ e k j hk
 | ice _ h=>exact h.okA hx _ e k j hk
 | agg hl h=>cases e; exact hx _ rfl k j (ns_each hl h (fun _ _ _=>Fz.ns) k j hk)
 | _=>cases e
section
variable {P:Program}{w:World}{I:BSet}{T:Array Value}{g:Gst}{Fs:Nat->BSet}
theorem Hand.one {y:AV}{v:Value}(hR:R w I (RG w T g) y v E0):Hand w I (RefAt w T) Fs [y] [v] (fun _=>E0) :=
 ⟨rfl,fun k x u hx hu=>by
  cases k with
  | zero=>simp at hx hu; subst hx hu; exact hR.frame (fun _ _=>rfl) (fun _ h=>h) (fun _ _ h=>h.1) fun _ _=>rfl
  | succ k=>simp at hx,fun _ _ _ _ _ h=>h.elim,fun _ _ _ _ h=>h.elim,fun _ _ _ h=>h.elim⟩
theorem Hand.rel0 {ρ:AV->Value->Prop}{y:AV}{v:Value}{Hs:Nat->BSet}(h:Hand w I ρ Fs [y] [v] Hs):R w I ρ y v (Hs 0):=h.rel 0 y v rfl rfl
theorem Hand.cells {y:AV}{v:Value}{Hs:Nat->BSet}(h:Hand w I (RefAt w T) Fs [y] [v] Hs) (hn:NR y) {cs:List AV}(hc:cellsP y=some cs) :
  ∃ Hc,Hand w I (RefAt w T) Fs cs v.cells.toList Hc/\(∀ x∈cs,NR x)/\(∀ (j:Nat) (u:Value),v.cells.toList[j]?=some u->u.oneCell'=true)/\∀ j c,j<cs.length->Hc j c->Hs 0 c:=by
 have hR:=h.rel0
 have single:∀ {x:AV},y=x->v.oneCell'=true->∃ Hc,Hand w I (RefAt w T) Fs [x] v.cells.toList Hc/\(∀ z∈[x],NR z)/\(∀ (j:Nat) (u:Value),v.cells.toList[j]?=some u->u.oneCell'=true)/\∀ j c,j<[x].length->Hc j c->Hs 0 c:=by
  rintro x rfl h1
  have hcells:v.cells=#[v]:=by cases v <;> first | rfl | (simp [Value.oneCell'] at h1)
  refine ⟨Hs,by rw [hcells]; exact h,by simpa using hn,fun j u hu=>?_,fun j c hj hc=>?_⟩
  ·rw [hcells] at hu
   cases j with
   | zero=>simp at hu; subst hu; exact h1
   | succ j=>simp at hu
  ·have:j=0:=by simpa using hj
   subst this; exact hc
 cases y <;> simp only [cellsP,Option.some.injEq,reduceCtorEq] at hc
 case agg l =>
  subst hc
  cases hR with
  | ref hx=>simp [AV.isRef] at hx
  | @agg _ vs Fk _ hl h1 hr hd hF =>
   have hFk:∀ k c,k<l.length->Fk k c->Hs 0 c:=fun k c hk hc=>(hF c).2 ⟨k,hk,hc⟩
   refine ⟨Fk,⟨by simp [Value.cells,hl],fun k x u hx hu=>hr k x u hx (by simpa [Value.cells] using hu),hd,fun k t c hk hc=>h.off 0 t c (by simp) (hFk k c hk hc),fun k c hk hc=>h.imm 0 c (by simp) (hFk k c hk hc)⟩,?_,fun j u hu=>h1 j u (by simpa [Value.cells] using hu),hFk⟩
   cases hn with | agg h=>exact h
 case lit a=>subst hc; exact single rfl (by obtain ⟨rfl,h1⟩:=hR.inv_lit; exact h1)
 case nils=>subst hc; exact single rfl (by rw [hR.inv_nils]; rfl)
 case imm z n l=>subst hc; exact single rfl (by obtain ⟨a,cap,rfl,_⟩:=hR.inv_imm; rfl)
 case own z n l=>subst hc; exact single rfl (by obtain ⟨a,cap,rfl,_⟩:=hR.own_slice; rfl)
 case iptr l=>subst hc; exact single rfl (by obtain ⟨ad,us,rfl,_⟩:=hR.inv_iptr; rfl)
 case obj l =>
  subst hc
  refine single rfl ?_
  cases hR with
  | ref hx=>simp [AV.isRef] at hx
  | obj=>rfl
 case clo f a b =>
  subst hc
  refine single rfl ?_
  cases hR with
  | ref hx=>simp [AV.isRef] at hx
  | clo=>rfl
theorem RT.moreI {I':BSet}{ρ:AV->Value->Prop}{x:AV}{v:Value}{F:BSet}(h:RT w I ρ x v F) (hI:∀ c,I c->I' c):RT w I' ρ x v F:=by
 cases h with
 | tree h=>exact .tree (h.moreI hI)
 | pend h=>exact .pend ⟨h.hbv,h.hob,h.hov,h.hl,h.h1,fun k x u hx hu=>(h.hr k x u hx hu).moreI hI,h.hF⟩
theorem freeze_hand {g1:Gst}{Fs1:Nat->BSet}{H1:Nat->BSet}{y1 y':AV}{v:Value}(hS:SRc w I T g1 Fs1) (hH:Hand w I (RefAt w T) Fs1 [y1] [v] H1) (hn:NR y1) (hz:Fz y1 y') :
  ∃ (I':BSet) (H':BSet),(∀ c,I c->I' c)/\(∀ c,I' c->I c\/H1 0 c)/\SRc w I' T g1 Fs1/\Hand w I' (RefAt w T) Fs1 [y'] [v] (fun _=>H')/\∀ c,H' c->H1 0 c:=by
 have hR:=hH.rel0
 obtain ⟨H',hsub,hR'⟩:=R.fz hz hR hn (fun c hc=>hH.imm 0 c (by simp) hc) hS.lt hS.tb
 refine ⟨fun c=>I c\/(H1 0 c/\¬ H' c),H',fun c hc=>.inl hc,fun c hc=>hc.elim .inl fun h=>.inr h.1,⟨fun t x hx=>?_,hS.non,hS.dis,fun t c hc hi=>?_,fun c hc=>?_,TB.keep hS.tb (fun _ _=>rfl) fun _ h=>.inl h⟩,⟨rfl,fun k x u hx hu=>?_,fun j k c hj hk _ _=>by simp at hj hk; omega,fun k t c hk hc hf=>hH.off 0 t c (by simp) (hsub c hc) hf,fun k c hk hc hi=>?_⟩,hsub⟩
 ·obtain ⟨u,hu,hRu⟩:=hS.rel t x hx
  exact ⟨u,hu,hRu.moreI fun c hc=>.inl hc⟩
 ·rcases hi with h | ⟨h,_⟩
  ·exact hS.imm t c hc h
  ·exact hH.off 0 t c (by simp) h hc
 ·rcases hc with h | ⟨h,_⟩
  ·exact hS.lt c h
  ·exact hR.lt c h
 ·cases k with
  | zero=>simp at hx hu; subst hx hu; exact hR'
  | succ k=>simp at hx
 ·rcases hi with h | ⟨_,h⟩
  ·exact hH.imm 0 c (by simp) (hsub c hc) h
  ·exact h hc
theorem EO.eff {N:Rm}{o:Oper}{g':Gst}(he:EO P N g o g'):EffOk P N g o g':=by
 intro w I T Fs h a ha hN K Q hK
 cases he with
 | sem he=>exact he w I T Fs h a ha hN K Q hK
 | @call d _ hd hdN hc =>
  refine hc w I T Fs h a ha hN K Q fun a' w' v I' Fs' h1 h2 h3 h4=>hK a' w' ⟨h1,by rw [h2,<- ha]; exact Hold.put hdN _ _,I',Fs',by rw [h2]; exact h3,h4⟩ fun t ht=>?_
  rw [h2,ha,Array.getElem?_setIfInBounds_ne]
  rintro rfl
  exact ht hd
 | @assign d x y y1 y' g1 g2 ho hd hx ht hz hk hg hdN =>
  have hR:=opd_sound h hx ha
  obtain ⟨Fs1,H1,hS0,hH0,hall⟩:=ht.sound h.toC (Hand.one hR)
  have hnr0:NR y1:=ht.nrOut y1 (by simp)
  obtain ⟨I',H',hII,hI',hS1,hH1,hsub⟩:=freeze_hand hS0 hH0 hnr0 hz
  have hnr:NR y':=hz.nr hnr0
  have hS2:=hS1.keep hk
  have hput:=hS2.put0 (d:=d) (x:=y') (v:=a.eval x) (F:=H') hg (by rw [<- ha,hN]; exact Rm.lt hdN) (.tree (hH1.rel0.nr hnr)) (fun t c hc hf=>hH1.off 0 t c (by simp) hc hf.2) (fun c hc=>hH1.imm 0 c (by simp) hc) (by rintro z p n m new rfl; cases hnr)
  have hrun:(execOp a.eval o).run P w=.ok (.value (a.eval x)) w:=by simp [execOp,ho]
  unfold Oper.wp Oper.upon
  simp only [hrun]
  have hU:∀ c,H1 0 c->∃ t,Fs t c:=fun c hc=>by
   rcases hall c (.inr ⟨0,by simp,hc⟩) with h'' | ⟨_,_,h''⟩
   ·exact h''
   ·exact h''.elim
  refine hK _ _ ⟨by rw [hd]; rfl,by rw [hd]; exact Hold.put hdN _ _,I',_,by rw [hd]; simpa [Act.put,ha] using hput,⟨Fr.refl _ _,hII,fun c hc=>(hI' c hc).elim .inl fun h=>.inr (.inl (hU c h)),fun c hc=>?_⟩⟩ fun t ht=>by rw [hd]; simp only [Act.put]; rw [Array.getElem?_setIfInBounds_ne]; rintro rfl; exact ht hd
  rcases upd_updF hc with ⟨t,_,h'⟩ | h'
  ·rcases hall c (.inl ⟨t,h'⟩) with h'' | ⟨_,_,h''⟩
   ·exact .inl h''
   ·exact h''.elim
  ·exact .inl (hU c (hsub c h'))
 | @assignRef d x y g2 ho hd hx hk hy hg hdN =>
  have hR:=opd_sound h hx ha
  have hS2:=h.toC.keep hk
  have hR':R w I (RG w T g2) y (a.eval x) E0:=(hR.frame (ρ':=RefAt w T) (fun _ _=>rfl) (fun _ h=>h) (fun _ _ h=>h.1) fun _ _=>rfl).rk hy
  have hput:=hS2.put0 (d:=d) (x:=y) (v:=a.eval x) (F:=E0) hg (by rw [<- ha,hN]; exact Rm.lt hdN) (.tree hR') (fun _ _ h=>h.elim) (fun _ h=>h.elim) (by rintro z p n m new rfl; exact hR'.notPend.elim)
  have hrun:(execOp a.eval o).run P w=.ok (.value (a.eval x)) w:=by simp [execOp,ho]
  unfold Oper.wp Oper.upon
  simp only [hrun]
  refine hK _ _ ⟨by rw [hd]; rfl,by rw [hd]; exact Hold.put hdN _ _,I,_,by rw [hd]; simpa [Act.put,ha] using hput,⟨Fr.refl _ _,fun _ h=>h,fun _ h=>.inl h,fun c hc=>?_⟩⟩ fun t ht=>by rw [hd]; simp only [Act.put]; rw [Array.getElem?_setIfInBounds_ne]; rintro rfl; exact ht hd
  rcases upd_updF hc with ⟨t,_,h'⟩ | h'
  ·exact .inl ⟨t,h'⟩
  ·exact h'.elim
 | @store t ad val p k z n y y1 y' nd cs cs' g1 _ ho hd had hval ht hfz hc hs hp hnd hk h0 hg2 hrk hnp hroot =>
  have hRv:=opd_sound h hval ha
  obtain ⟨⟨u,adr,hu,hadr,hev⟩,_⟩:=(opd_sound h had ha).inv_ptr
  obtain ⟨Fs1,H0,hS0,hH0,hall0⟩:=ht.sound h.toC (Hand.one hRv)
  have hnr0:NR y1:=ht.nrOut y1 (by simp)
  obtain ⟨I',H',hII,hI',hS1,hH1,hsubI⟩:=freeze_hand hS0 hH0 hnr0 hfz
  have hnr:NR y':=hfz.nr hnr0
  have hU:∀ c,H0 0 c->∃ t,Fs t c:=fun c hc=>by
   rcases hall0 c (.inr ⟨0,by simp,hc⟩) with h'' | ⟨_,_,h''⟩
   ·exact h''
   ·exact h''.elim
  have hall:∀ c,AllB Fs1 1 (fun _=>H') c->AllB Fs [y].length (fun _=>E0) c:=by
   rintro c (⟨t,hc⟩ | ⟨_,_,hc⟩)
   ·exact hall0 c (.inl ⟨t,hc⟩)
   ·exact .inl (hU c (hsubI c hc))
  obtain ⟨Hc,hHc,hcn,hone,hHsub⟩:=hH1.cells hnr hc
  have notPend:∀ z q n m new,nd≠.pend z q n m new:=by rcases hnd with rfl | rfl <;> simp
  obtain ⟨v,Fy,hv,hRy,hFy,_⟩:=hS1.part hp notPend
  rw [hu] at hv
  cases hv
  obtain ⟨b,uu,hb,_⟩:=hRy.node hnd (List.getElem?_eq_getElem (show k<cs.length by omega))
  rw [hadr] at hb
  cases hb
  have harr:∃ e arr,w.heap[b]?=some (.cells arr e (0,0))/\cs.length<=arr.size:=by
   rcases hnd with rfl | rfl
   ·cases hRy with
    | ref hx=>simp [AV.isRef] at hx
    | own hrow hl =>
     obtain ⟨hus,hh⟩:=hrow
     rcases hh with ⟨rfl,_⟩ | ⟨b',cap,cur,rfl,_,r2,r3,r4,r5,r6⟩
     ·simp [addrOf] at hadr
     ·simp only [addrOf,Option.some.injEq,Addr.mk.injEq,and_true] at hadr
      subst hadr
      refine ⟨_,cur,r2,?_⟩
      rw [hl,<- r6,List.length_take]; simp; omega
   ·cases hRy with
    | ref hx=>simp [AV.isRef] at hx
    | obj hrow hl =>
     simp only [addrOf,Option.some.injEq,Addr.mk.injEq,and_true] at hadr
     subst hadr
     exact ⟨_,_,hrow,by omega⟩
  obtain ⟨e,arr,harr,hle⟩:=harr
  obtain ⟨Fs2,hS2,hsub⟩:=hS1.store hp hnd hk hHc hcn (fun _=>cellsP_ns (hfz.okA (ht.okA (by simpa using opd_okA hval) y1 (by simp))) hc) hone hg2 hrk hnp hroot hu hadr harr
  have hcl:(a.eval val).cells.toList.length=cs'.length:=hHc.len.symm
  have hst:=run_storeCells_at P b k e (a.eval val).cells.toList 0 arr w harr (by omega) (fun u hu=>by
   obtain ⟨j,hj,rfl⟩:=List.mem_iff_getElem.1 hu
   exact hone j _ (List.getElem?_eq_getElem hj))
  simp only [Nat.add_zero] at hst
  have hsz:(sizeOf t).run P w=.ok cs'.length w:=by
   unfold sizeT at hs
   cases hi:P.info? t with
   | none=>simp [hi] at hs
   | some i=>simp [hi] at hs; simp [sizeOf,typeInfo,hi,hs]
  have hrun:(execOp a.eval o).run P w=.ok .skip (w.setRow b (splice arr.toList k (a.eval val).cells.toList).toArray):=by
   have hcs:(a.eval val).cells.size=cs'.length:=by rw [<- Array.length_toList]; exact hcl
   simp only [Nat.zero_add] at hev
   simp [execOp,ho,hev,Instr.storeAt,Instr.sureAddr,storeVar,hsz,hcs,hst,splice]
  unfold Oper.wp Oper.upon
  simp only [hrun]
  have hbU:∃ t,Fs t b:=by
   rcases hall b (.inl ⟨_,hFy b (hRy.node_block hnd (ad:=⟨b,0,none⟩) hadr)⟩) with h' | ⟨_,_,h'⟩
   ·exact h'
   ·exact h'.elim
  refine hK _ _ ⟨by rw [hd]; rfl,by rw [hd]; exact Hold.refl,I',Fs2,by rw [hd]; simpa [Act.put,ha] using hS2,⟨⟨rfl,rfl,rfl,by simp,fun c _ hc=>setRow_other w b c _ (fun e=>hc (e ▸ hbU)),fun a _ _=>fz_setRow w b _ a,Nat.le_refl _⟩,hII,fun c hc=>(hI' c hc).elim .inl fun h=>.inr (.inl (hU c h)),fun c ⟨t,hc⟩=>?_⟩⟩ fun t _=>by rw [hd]; rfl
  rcases hsub t c hc with h' | ⟨j,hj,h'⟩
  ·rcases hall c (.inl ⟨t,h'⟩) with h'' | ⟨_,_,h''⟩
   ·exact .inl h''
   ·exact h''.elim
  ·rcases hall c (.inr ⟨0,by simp,hHsub j c hj h'⟩) with h'' | ⟨_,_,h''⟩
   ·exact .inl h''
   ·exact h''.elim
theorem EO.sound (h:SR w I T g Fs) {a:Act}(ha:a.tmps=T) {N:Rm}(hN:a.tmps.size=N.size) {o:Oper}{g':Gst}(he:EO P N g o g') {K:Act->World->Prop}{Q:Exit->Act->World->Prop}
  (hK:∀ a' w',Next' N a w I Fs g' a' w'->K a' w'):o.wp P a w K Q:=he.eff w I T Fs h a ha hN K Q fun a' w' h _=>hK a' w' h
end
end Go.Own
namespace Go.Own
open Go
set_option linter.unusedSectionVars false
variable [TB]
def Le (g g':Gst):Prop:=∀ t x,g t=some x->g' t=some x
section
variable {P:Program}{g g':Gst}
theorem opd_mono (h:Le g g') {x:Operand}{y:AV}(hy:opd g x=some y):opd g' x=some y:=by
 cases x <;> simp only [opd] at hy ⊢
 case tmp t =>
  cases hx:g t with
  | none=>rw [hx] at hy; cases hy
  | some z=>rw [hx] at hy; rw [h t z hx]; exact hy
 case const v=>exact hy
 case global n=>exact hy
 case func f=>exact hy
theorem opds_mono (h:Le g g'):∀ {xs:List Operand}{ys:List AV},opds g xs=some ys->opds g' xs=some ys
 | [],_,hy=>hy
 | x::xs,ys,hy=>by
  simp only [opds] at hy ⊢
  cases hx:opd g x with
  | none=>simp [hx] at hy
  | some y =>
   cases hxs:opds g xs with
   | none=>simp [hx,hxs] at hy
   | some ys'=>simp only [hx,hxs] at hy; simp only [opd_mono h hx,opds_mono h hxs]; exact hy
theorem partsAV_mono (h:Le g g'):∀ {l:List (Nat × Operand)}{ps:List (Nat × List AV)},partsAV g l=some ps->partsAV g' l=some ps
 | [],_,hy=>hy
 | (i,x)::l,ps,hy=>by
  simp only [partsAV] at hy ⊢
  cases hx:opd g x with
  | none=>simp [hx] at hy
  | some y =>
   cases hxs:partsAV g l with
   | none=>simp [hx,hxs] at hy
   | some ys'=>simp only [hx,hxs] at hy; simp only [opd_mono h hx,partsAV_mono h hxs]; exact hy
theorem Bnd.mono (h:Le g g') {d:Nat}{x:Option Operand}{j:Nat}(hb:Bnd g d x j):Bnd g' d x j:=by
 cases x with
 | none=>exact hb
 | some o=>obtain ⟨k,hk⟩:=hb; exact ⟨k,opd_mono h hk⟩
theorem PS1.mono (h:Le g g') {op:Op}{ty:TypeId}{x:AV}(hp:PS1 P g op ty x):PS1 P g' op ty x:=by
 cases hp with
 | move hx=>exact .move (opd_mono h hx)
 | assign hx=>exact .assign (opd_mono h hx)
 | pick hc hr=>exact .pick (opd_mono h hc) (opd_mono h hr)
 | nilP hx=>exact .nilP (opd_mono h hx)
 | eqP hx hy ht=>exact .eqP (opd_mono h hx) (opd_mono h hy) ht
 | nilI hx=>exact .nilI (opd_mono h hx)
 | fieldP hx hf hok=>exact .fieldP (opd_mono h hx) hf (hok.mono h)
 | fieldI hx hf=>exact .fieldI (opd_mono h hx) hf
 | field1 hx hf ht hy=>exact .field1 (opd_mono h hx) hf ht hy
 | fieldN hx hf ht hk=>exact .fieldN (opd_mono h hx) hf ht hk
 | idxImm hx hi ht hj=>exact .idxImm (opd_mono h hx) (opd_mono h hi) ht hj
 | idxBrw hx hi ht hj hok=>exact .idxBrw (opd_mono h hx) (opd_mono h hi) ht hj (hok.mono h)
 | idxSub hx hi ht hj hok=>exact .idxSub (opd_mono h hx) (opd_mono h hi) ht hj (hok.mono h)
 | idxArrP hx hi ht hj hok=>exact .idxArrP (opd_mono h hx) (opd_mono h hi) ht hj (hok.mono h)
 | idxArrI hx hi ht hj=>exact .idxArrI (opd_mono h hx) (opd_mono h hi) ht hj
 | loadI1 hx ht=>exact .loadI1 (opd_mono h hx) ht
 | loadIN hx ht hk=>exact .loadIN (opd_mono h hx) ht hk
 | load1 hx ht hy=>exact .load1 (opd_mono h hx) ht (atP_mono h hy)
 | loadN hx ht hy hc hm=>exact .loadN (opd_mono h hx) ht (atP_mono h hy) hc hm
 | idxStr hx hi ht hb=>exact .idxStr (opd_mono h hx) (opd_mono h hi) ht hb
 | bin hx hy hv hr=>exact .bin (opd_mono h hx) (opd_mono h hy) hv hr
 | binA hx hy hv hr=>exact .binA (opd_mono h hx) (opd_mono h hy) hv hr
 | un hx hv hr=>exact .un (opd_mono h hx) hv hr
 | conv hx hv hr=>exact .conv (opd_mono h hx) hv hr
 | convB hx hp hn hcs ht=>exact .convB (opd_mono h hx) (atP_mono h hp) hn hcs ht
 | convI hx ht=>exact .convI (opd_mono h hx) ht
 | @extF xs tys _ f vs v hx hv hr =>
  refine .extF (vs:=vs) ?_ hv hr
  apply List.ext_getElem?
  intro k
  have:=congrArg (·[k]?) hx
  simp only [List.getElem?_map] at this ⊢
  rw [<- this]
  cases hk:xs.toList[k]? with
  | none=>rfl
  | some o =>
   rw [hk] at this
   cases hv:vs[k]? with
   | none=>rw [hv] at this; cases this
   | some v =>
    rw [hv] at this
    simp only [Option.map_some,Option.some.injEq] at this ⊢
    rw [this,opd_mono h this]
 | extr hx hy=>exact .extr (opd_mono h hx) hy
 | sliceImm hx hl hh ht h1 h2=>exact .sliceImm (opd_mono h hx) (hl.mono h) (hh.mono h) ht h1 h2
 | sliceBrw0 hx hl hh ht hn hok=>exact .sliceBrw0 (opd_mono h hx) (hl.mono h) (hh.mono h) ht hn (hok.mono h)
 | sliceBrw hx hl hh ht h1 h2 hok=>exact .sliceBrw (opd_mono h hx) (hl.mono h) (hh.mono h) ht h1 h2 (hok.mono h)
 | sliceStr hx hl hh ht h1 h2=>exact .sliceStr (opd_mono h hx) (hl.mono h) (hh.mono h) ht h1 h2
 | lenImm hx ht=>exact .lenImm (opd_mono h hx) ht
 | lenBrw hx ht=>exact .lenBrw (opd_mono h hx) ht
 | lenSub hx ht=>exact .lenSub (opd_mono h hx) ht
 | lenNils hx ht=>exact .lenNils (opd_mono h hx) ht
 | lkM hx hp hy hK hR hr=>exact .lkM (opd_mono h hx) (atP_mono h hp) (opd_mono h hy) hK hR hr
 | lkI hx hy hK hR hr=>exact .lkI (opd_mono h hx) (opd_mono h hy) hK hR hr
 | @lits b xs tys _ vs v hx hv hr =>
  refine .lits (vs:=vs) ?_ hv hr
  clear hr
  generalize xs.toList=l at hx
  induction l generalizing vs with
  | nil=>exact hx
  | cons x l ih =>
   cases vs with
   | nil=>simp at hx
   | cons v vs =>
    simp only [List.map_cons,List.cons.injEq] at hx ⊢
    exact ⟨opd_mono h hx.1,ih hx.2⟩
theorem PS2.mono (h:Le g g') {op:Op}{ty:TypeId}{x:AV}(hp:PS2 P g op ty x):PS2 P g' op ty x:=by
 cases hp with
 | box hx hc=>exact .box (opd_mono h hx) hc
 | alloc hz h1=>exact .alloc hz h1
 | allocB hz hc=>exact .allocB hz hc
 | makeMap hq=>exact .makeMap hq
 | buildSlice ht hp hx hz hc hb hn hzero=>exact .buildSlice ht hp (opds_mono h hx) hz hc hb hn hzero
 | makeSlice ht hx hy hzero h1 hzs hb hn hn2 hzl hzo=>exact .makeSlice ht (opd_mono h hx) (opd_mono h hy) hzero h1 hzs hb hn hn2 hzl hzo
theorem PS3.mono (h:Le g g') {op:Op}{ty:TypeId}{x:AV}(hp:PS3 P g op ty x):PS3 P g' op ty x:=by
 cases hp with
 | build ht hz h1 hp hc=>exact .build ht hz h1 (partsAV_mono h hp) hc
 | makeFunc ha hb=>exact .makeFunc (opds_mono h ha) (opds_mono h hb)
theorem Src.mono (h:Le g g') {y:AV}{z m:Nat}{cells:List AV}(hs:Src g y z m cells):Src g' y z m cells:=by
 cases hs with
 | imm=>exact .imm
 | nils=>exact .nils
 | brw hq hm=>exact .brw (atP_mono h hq) hm
 | sub hq hm=>exact .sub (atP_mono h hq) hm
theorem PS.mono (h:Le g g') {op:Op}{ty:TypeId}{x:AV}(hp:PS P g op ty x) (hno:∀ z p n m new,x=.pend z p n m new->∀ t z' n' m' new',g' t≠some (.pend z' p n' m' new')):PS P g' op ty x:=by
 cases hp with
 | p1 hp=>exact .p1 (hp.mono h)
 | p2 hp=>exact .p2 (hp.mono h)
 | p3 hp=>exact .p3 (hp.mono h)
 | pa hp =>
  cases hp with
  | grow hs hok _ hx hsrc ht h63 hb=>exact .pa (.grow (opd_mono h hs) (hok.mono h) (hno _ _ _ _ _ rfl) (opd_mono h hx) (hsrc.mono h) ht h63 hb)
  | nil hs hx hsrc ht h63 hb=>exact .pa (.nil (opd_mono h hs) (opd_mono h hx) (hsrc.mono h) ht h63 hb)
theorem View.mono (h:Le g g') {x y:AV}(hv:View g x y):View g' x y:=by
 induction hv with
 | nilI=>exact .nilI
 | self h1 h2 h3 h4 h5 h6=>exact .self h1 h2 h3 h4 h5 h6
 | mp=>exact .mp
 | mref hp=>exact .mref (atP_mono h hp)
 | agg hl _ ih=>exact .agg hl ih
 | own hl _ ih=>exact .own hl ih
 | obj hl _ ih=>exact .obj hl ih
 | clo hl _ ih=>exact .clo hl ih
 | brw hp hn hl _ ih=>exact .brw (atP_mono h hp) hn hl ih
 | sub hp hn hl _ ih=>exact .sub (atP_mono h hp) hn hl ih
 | ptr hp hy hk hl _ ih=>exact .ptr (atP_mono h hp) hy hk hl ih
 | rows hp hl _ ih=>exact .rows (hp.mono (fun hp=>atP_mono h hp) h) hl ih
theorem PC.mono (h:Le g g') {op:Op}{x:AV}(hp:PC P g op x):PC P g' op x:=by
 cases hp with
 | plain hc hx hf hn hcon hr=>exact .plain (opd_mono h hc) (opds_mono h hx) hf hn hcon hr
 | lent hc hx hf hl hv hcon hr=>exact .lent (opd_mono h hc) (opds_mono h hx) hf hl (fun k x y hx hy=>(hv k x y hx hy).mono h) hcon hr
def Wanted (g:Gst) (ops:Array Oper) (o:Oper) (b:Bool):Prop :=
 match o.guard with
 | none=>b=true
 | some (j,want)=>∃ t,(ops[j]?).bind (·.dst)=some t/\((∃ c,g t=some (.lit (.bool c))/\b=(c == want))\/(g t=some (.tup [])/\b=false))
theorem Wanted.mono (h:Le g g') {ops:Array Oper}{o:Oper}{b:Bool}(hw:Wanted g ops o b):Wanted g' ops o b:=by
 unfold Wanted at *
 split
 ·rename_i hg; rw [hg] at hw; exact hw
 ·rename_i j want hg
  rw [hg] at hw
  obtain ⟨t,h1,⟨c,h2,h3⟩ | ⟨h2,h3⟩⟩:=hw
  ·exact ⟨t,h1,.inl ⟨c,h t _ h2,h3⟩⟩
  ·exact ⟨t,h1,.inr ⟨h t _ h2,h3⟩⟩
theorem Wanted.sound {w:World}{I:BSet}{T:Array Value}{Fs:Nat->BSet}(hS:SR w I T g Fs) {ops:Array Oper}{o:Oper}{b:Bool}(hw:Wanted g ops o b):Region.wanted o (yielded ops T)=b:=by
 unfold Wanted at hw
 unfold Region.wanted
 split at hw
 ·rename_i hg; rw [hg]; exact hw.symm
 ·rename_i j want hg
  rw [hg]
  obtain ⟨t,h1,⟨c,h2,h3⟩ | ⟨h2,h3⟩⟩:=hw
  ·obtain ⟨v,hv,hR⟩:=hS.rel _ _ h2
   have:=(hR.isTree (by simp)).inv_lit.1
   subst this
   subst h3
   simp only [yielded,h1,Option.bind_some,hv]
   cases c <;> cases want <;> rfl
  ·obtain ⟨v,hv,hR⟩:=hS.rel _ _ h2
   have:∃ vs,v=.tuple vs:=by
    cases hR.isTree (by simp) with
    | tup=>exact ⟨_,rfl⟩
    | ref hx=>simp [AV.isRef] at hx
   obtain ⟨vs,rfl⟩:=this
   subst h3
   simp only [yielded,h1,Option.bind_some,hv]
   cases want <;> rfl
def StepOk (P:Program) (g:Gst) (ops:Array Oper) (o:Oper):Option AV->Prop
 | none=>Wanted g ops o false
 | some x=>(Wanted g ops o true/\(PS P g o.op o.type x\/PC P g o.op x))\/(Wanted g ops o false/\x=.tup [])\/(Wanted g ops o true/\∃ y,(PS P g o.op o.type y\/PC P g o.op y)/\NR y/\View (fun _=>none) y x)
theorem StepOk.mono (h:Le g g') {ops:Array Oper}{o:Oper}{r:Option AV}(hs:StepOk P g ops o r) (hno:∀ z p n m new,r=some (.pend z p n m new)->∀ t z' n' m' new',g' t≠some (.pend z' p n' m' new')):StepOk P g' ops o r:=by
 cases r with
 | none=>exact Wanted.mono h hs
 | some x =>
  rcases hs with hs | ⟨hs,hx⟩ | ⟨hs,y,hp,hn,hv⟩
  ·refine .inl ⟨hs.1.mono h,?_⟩
   rcases hs.2 with hp | hp
   ·exact .inl (hp.mono h fun z p n m new e=>hno z p n m new (by rw [e]))
   ·exact .inr (hp.mono h)
  ·exact .inr (.inl ⟨hs.mono h,hx⟩)
  ·refine .inr (.inr ⟨hs.mono h,y,?_,hn,hv⟩)
   rcases hp with hp | hp
   ·exact .inl (hp.mono h fun z p n m new e=>by subst e; cases hn)
   ·exact .inr (hp.mono h)
def leaf:AV->Bool
 | .own .. | .obj .. | .agg .. | .tup .. | .pend .. | .mp .. | .brow ..=>false
 | _=>true
def del (g:Gst) (d:Nat):Gst:=fun t=>if t=d then none else g t
theorem leaf_at {x y:AV}(h:leaf x=true):∀ {q:List Nat},x.at q=some y->y=x
 | [],hy=>by simpa [AV.at] using hy.symm
 | k::q,hy=>by
  have:x.kids=[]:=by cases x <;> first | rfl | simp [leaf] at h
  simp [AV.at,this] at hy
theorem atP_del {d:Nat}{x:AV}(hd:g d=some x) (hl:leaf x=true) {p:Place}{y:AV}(hp:atP g p=some y) (hy:leaf y=false):atP (del g d) p=some y:=by
 have hr:p.root≠d:=by
  intro e
  unfold atP at hp
  rw [e,hd] at hp
  rw [leaf_at hl hp,hl] at hy
  cases hy
 simp only [atP,del,if_neg hr] at hp ⊢
 exact hp
theorem RefOk.del {d:Nat}{x:AV}(hd:g d=some x) (hl:leaf x=true) {r:AV}(h:RefOk g r):RefOk (del g d) r:=by
 have root:∀ {t:Nat}{y:AV},g t=some y->leaf y=false->Own.del g d t=some y:=by
  intro t y ht hy
  have:t≠d:=by
   rintro rfl
   rw [hd] at ht
   cases ht
   rw [hl] at hy; cases hy
  simp only [Own.del,if_neg this,ht]
 cases r <;> simp only [RefOk] at h ⊢
 case ptr p k =>
  obtain ⟨y,hy,z,n,cs,hyc,hk⟩:=h
  exact ⟨y,atP_del hd hl hy (by rcases hyc with rfl | rfl <;> rfl),z,n,cs,hyc,hk⟩
 case brw z p n =>
  rcases h with ⟨N,cs,hy,hn⟩ | ⟨h1,q,n0,m,new,h2,h3⟩
  ·exact .inl ⟨N,cs,atP_del hd hl hy rfl,hn⟩
  ·exact .inr ⟨h1,q,n0,m,new,root h2 rfl,h3⟩
 case sub z p lo n =>
  obtain ⟨N,cs,hy,hn⟩:=h
  exact ⟨N,cs,atP_del hd hl hy rfl,hn⟩
 case mref p=>obtain ⟨q,h⟩:=h; exact ⟨q,atP_del hd hl h rfl⟩
 case pend z p n m new =>
  rcases h with ⟨cs,hy⟩ | ⟨h1,q,n0,m,new,cs,h2,h3,h4⟩
  ·exact .inl ⟨cs,atP_del hd hl hy rfl⟩
  ·exact .inr ⟨h1,q,n0,m,new,cs,root h2 rfl,h3,atP_del hd hl h4 rfl⟩
theorem R.leafF {w:World}{I:BSet}{ρ:AV->Value->Prop}{x:AV}{v:Value}{F:BSet}(h:R w I ρ x v F) (hl:leaf x=true):∀ c,¬ F c:=by
 cases h with
 | own | obj | agg | tup | mp | brow=>simp [leaf] at hl
 | lit _ hF | nils hF | dead hF | slf hF | ref _ _ hF | imm0 hF | imm hF | iptr hF | clo hF | imp hF=>exact hF
theorem SR.drop {w:World}{I:BSet}{T:Array Value}{Fs:Nat->BSet}(h:SR w I T g Fs) {d:Nat}{x:AV}(hd:g d=some x) (hl:leaf x=true):SR w I T (del g d) Fs:=by
 refine ⟨fun t y hy=>?_,fun t ht c hc=>?_,h.dis,h.imm,h.lt,fun t t' z p n m new z' n' m' new' h1 h2=>?_,h.tb⟩
 ·have hy':g t=some y:=by
   unfold del at hy
   split at hy
   ·cases hy
   ·exact hy
  obtain ⟨v,hv,hR⟩:=h.rel t y hy'
  exact ⟨v,hv,hR.frame (fun _ _=>rfl) (fun _ h=>h) (fun _ _ hr=>⟨hr.1,hr.2.del hd hl⟩) (fun _ _ _ _ _ _ _=>rfl) fun _ _=>rfl⟩
 ·unfold del at ht
  split at ht
  ·rename_i e
   subst e
   obtain ⟨v,hv,hR⟩:=h.rel t x hd
   exact (hR.isTree (by rintro z p n m new rfl; simp [leaf] at hl)).leafF hl c hc
  ·exact h.non t ht c hc
 ·have key:∀ {t:Nat}{y:AV},del g d t=some y->g t=some y:=by
   intro t y hy
   unfold del at hy
   split at hy
   ·cases hy
   ·exact hy
  exact h.pok _ _ _ _ _ _ _ _ _ _ _ (key h1) (key h2)
end
end Go.Own
namespace Go.Own
open Go
set_option linter.unusedSectionVars false
variable [TB]
def putR (g:Gst) (d:Nat):Option AV->Gst
 | some x=>upd g d x
 | none=>g
section
variable {P:Program}{w:World}{I:BSet}{T:Array Value}{g:Gst}{Fs:Nat->BSet}{N:Rm}{ops:Array Oper}
theorem St.refl (w:World) (I U:BSet):St w I U w I U:=⟨Fr.refl _ _,fun _ h=>h,fun _ h=>.inl h,fun _ h=>.inl h⟩
theorem St.trans {w w1 w2:World}{I I1 I2 U U1 U2:BSet}(h:St w I U w1 I1 U1) (h1:St w1 I1 U1 w2 I2 U2):St w I U w2 I2 U2:=by
 have old:∀ c,c<w.heap.size->U1 c->U c:=fun c hc hu=>by
  rcases h.own c hu with h' | h'
  ·exact h'
  ·omega
 refine ⟨h.fr.trans h1.fr old,fun c hc=>h1.more c (h.more c hc),fun c hc=>?_,fun c hc=>?_⟩
 ·rcases h1.new c hc with h' | h' | h'
  ·exact h.new c h'
  ·rcases h.own c h' with h'' | h''
   ·exact .inr (.inl h'')
   ·exact .inr (.inr h'')
  ·exact .inr (.inr (Nat.le_trans h.fr.size h'))
 ·rcases h1.own c hc with h' | h'
  ·exact h.own c h'
  ·exact .inr (Nat.le_trans h.fr.size h')
theorem Next'.trans {N:Rm}{a a1 a2:Act}{w1 w2:World}{I1:BSet}{Fs1:Nat->BSet}{g2:Gst}(h1:a1.defers=a.defers) (h2:Hold N a.tmps a1.tmps) (hst:St w I (fun c=>∃ t,Fs t c) w1 I1 (fun c=>∃ t,Fs1 t c)) (h:Next' N a1 w1 I1 Fs1 g2 a2 w2):Next' N a w I Fs g2 a2 w2:=by
 obtain ⟨e1,e2,I2,Fs2,hS,hst2⟩:=h
 exact ⟨e1.trans h1,h2.trans e2,I2,Fs2,hS,hst.trans hst2⟩
theorem SR.putNone (h:SR w I T g Fs) {d:Nat}(hd:g d=none) (v:Value):SR w I (T.setIfInBounds d v) g Fs:=by
 have hT:∀ t,g t≠none->(T.setIfInBounds d v)[t]?=T[t]?:=by
  intro t ht
  rw [Array.getElem?_setIfInBounds_ne]
  rintro rfl; exact ht hd
 refine ⟨fun t x hx=>?_,h.non,h.dis,h.imm,h.lt,h.pok,h.tb⟩
 obtain ⟨u,hu,hR⟩:=h.rel t x hx
 exact ⟨u,by rw [hT t (by rw [hx]; simp)]; exact hu,h.frameT hT (fun _ _ _=>rfl) (fun _ _=>rfl) (fun _ h=>h) (fun _ _ h=>h) hR fun _ _=>rfl⟩
structure Frz (fz:Nat->Bool) (g g2:Gst):Prop where
 old:∀ t x,g2 t=some x->fz t=false->g t=some x/\RK g2 x
 ice:∀ t x,g2 t=some x->fz t=true->∃ y,g t=some y/\NR y/\Fz y x
 np:∀ t z q n m new,g2 t≠some (.pend z q n m new)
theorem SR.frz (h:SR w I T g Fs) {fz:Nat->Bool}{g2:Gst}(hz:Frz fz g g2):∃ I' Fs',SR w I' T g2 Fs'/\St w I (fun c=>∃ t,Fs t c) w I' (fun c=>∃ t,Fs' t c):=by
 have hC:=h.toC
 have notP:∀ t x,g2 t=some x->∀ z p n m new,x≠.pend z p n m new:=by
  rintro t x hx z p n m new rfl
  exact hz.np _ _ _ _ _ _ hx
 -- of each slot what it owns from now on
 have:∀ t,∃ F':BSet,(∀ c,F' c->Fs t c/\g2 t≠none)/\∀ x,g2 t=some x->(fz t=false->∀ c,Fs t c->F' c)/\∃ v,T[t]?=some v/\R w (fun c=>I c\/(Fs t c/\¬ F' c)) (RG w T g2) x v F':=by
  intro t
  cases hx:g2 t with
  | none=>exact ⟨E0,fun _ h=>h.elim,fun x h=>by cases h⟩
  | some x =>
   cases ht:fz t with
   | false =>
    obtain ⟨h1,h2⟩:=hz.old t x hx ht
    obtain ⟨v,hv,hR⟩:=hC.rel t x h1
    refine ⟨Fs t,fun c hc=>⟨hc,by simp⟩,fun y hy=>?_⟩
    cases hy
    exact ⟨fun _ _ h=>h,v,hv,((hR.isTree (notP t x hx)).rk h2).moreI fun c hc=>.inl hc⟩
   | true =>
    obtain ⟨y,h1,h2,h3⟩:=hz.ice t x hx ht
    obtain ⟨v,hv,hR⟩:=hC.rel t y h1
    have hR':=hR.isTree (by rintro z p n m new rfl; cases h2)
    obtain ⟨F',hs,hRx⟩:=R.fz h3 hR' h2 (fun c hc=>hC.imm t c hc) hC.lt hC.tb
    refine ⟨F',fun c hc=>⟨hs c hc,by simp⟩,fun z hz=>?_⟩
    cases hz
    exact ⟨fun h=>absurd h (by simp),v,hv,hRx.nr (h3.nr h2)⟩
 obtain ⟨Fs',hFs⟩:=Classical.axiomOfChoice this
 refine ⟨fun c=>I c\/∃ t,Fs t c/\g2 t≠none/\¬ Fs' t c,Fs',⟨fun t x hx=>?_,fun t ht c hc=>((hFs t).1 c hc).2 ht,fun t t' c hc hc'=>h.dis t t' c ((hFs t).1 c hc).1 ((hFs t').1 c hc').1,fun t c hc hi=>?_,fun c hc=>?_,fun t t' z p n m new z' n' m' new' h1 _=>absurd h1 (hz.np _ _ _ _ _ _),TB.keep h.tb (fun _ _=>rfl) fun _ h=>.inl h⟩,Fr.refl _ _,fun _ h=>.inl h,fun c hc=>?_,fun c ⟨t,hc⟩=>.inl ⟨t,((hFs t).1 c hc).1⟩⟩
 ·obtain ⟨_,v,hv,hR⟩:=(hFs t).2 x hx
  exact ⟨v,hv,.tree (hR.moreI fun c hc=>hc.elim .inl fun hc=>.inr ⟨t,hc.1,by rw [hx]; simp,hc.2⟩)⟩
 ·rcases hi with h' | ⟨s,h1,_,h2⟩
  ·exact h.imm t c ((hFs t).1 c hc).1 h'
  ·have:=h.dis t s c ((hFs t).1 c hc).1 h1
   subst this
   exact h2 hc
 ·rcases hc with h' | ⟨s,h',_⟩
  ·exact h.lt c h'
  ·exact h.ltF s c h'
 ·rcases hc with h' | ⟨s,h',_⟩
  ·exact .inl h'
  ·exact .inr (.inl ⟨s,h'⟩)
theorem StepOk.sound (h:SR w I T g Fs) {a:Act}(ha:a.tmps=T) (hN:a.tmps.size=N.size) {o:Oper}{r:Option AV}{d:Nat}(hs:StepOk P g ops o r) (hd:o.dst=some d) (hg:g d=none) (hdN:N.ok d=true) {K:Act->World->Prop}{Q:Exit->Act->World->Prop}
  (hK:∀ a' w',Next' N a w I Fs (putR g d r) a' w'->K a' w') :
  if Region.wanted o (yielded ops a.tmps) then o.wp P a w K Q\/(o.asks P a w/\LetsOut Q) else K (a.put o.dst undef) w:=by
 subst ha
 cases r with
 | none =>
  rw [Wanted.sound h hs]
  simp only [Bool.false_eq_true,if_false]
  refine hK _ _ ⟨by rw [hd]; rfl,by rw [hd]; exact Hold.put hdN _ _,I,Fs,by rw [hd]; exact h.putNone hg _,St.refl _ _ _⟩
 | some x =>
  have fin:∀ x v w',Gives w I a.tmps g Fs x v w'->(∀ a' w',Next' N a w I Fs (upd g d x) a' w'->K a' w')->K (a.put o.dst v) w':=by
   rintro x v w' ⟨F,I',hS,hR,h1,h2,h3,h4,h5,h6⟩ hK
   refine hK _ _ ⟨by rw [hd]; rfl,by rw [hd]; exact Hold.put hdN _ _,I',_,by rw [hd]; exact hS.put0 hg (by rw [hN]; exact Rm.lt hdN) hR (fun t c hc hf=>h1 t c hc hf) (fun c hc=>(h2 c hc).2) h6,⟨h5,h3,fun c hc=>?_,fun c hc=>?_⟩⟩
   ·rcases h4 c hc with h' | h'
    ·exact .inl h'
    ·exact .inr (.inr h')
   ·rcases upd_updF hc with h' | h'
    ·exact .inl h'
    ·exact .inr (h2 c h').1
  have ice:∀ y v w',NR y->View (fun _=>none) y x->Gives w I a.tmps g Fs y v w'->Gives w I a.tmps g Fs x v w':=by
   rintro y v w' hn hv ⟨F,I',hS,hR,h1,h2,h3,h4,h5,h6⟩
   have hRy:=hR.isTree (by rintro z p n m new rfl; cases hn)
   refine ⟨E0,fun c=>I' c\/F c,⟨fun t z hz=>?_,hS.non,hS.dis,fun t c hc hi=>?_,fun c hc=>?_,hS.pok,TB.keep hS.tb (fun _ _=>rfl) fun _ h=>.inl h⟩,.tree (hRy.ice hn hv (fun c hc=>(h2 c hc).2) hS.lt hS.tb),fun _ _ h=>h.elim,fun _ h=>h.elim,fun c hc=>.inl (h3 c hc),fun c hc=>?_,h5,?_⟩
   ·obtain ⟨u,hu,hRu⟩:=hS.rel t z hz
    exact ⟨u,hu,hRu.moreI fun c hc=>.inl hc⟩
   ·rcases hi with h | h
    ·exact hS.imm t c hc h
    ·exact h1 t c h hc
   ·rcases hc with h | h
    ·exact hS.lt c h
    ·exact hRy.lt c h
   ·rcases hc with h | h
    ·exact h4 c h
    ·exact .inr (h2 c h).1
   ·rintro z p n m new rfl
    cases hv with
    | self h=>cases h
  rcases hs with hs | ⟨hs,rfl⟩ | ⟨hs,y,hp,hn,hv⟩
  rotate_left
  rotate_left
  ·rw [Wanted.sound h hs]
   simp only [if_true]
   refine .inl ?_
   have fin2:∀ v w',Gives w I a.tmps g Fs y v w'->K (a.put o.dst v) w':=fun v w' hG=>fin x v w' (ice y v w' hn hv hG) hK
   rcases hp with hp | hp
   ·obtain ⟨v,w',hrun,hG⟩:=hp.sound h rfl
    unfold Oper.wp Oper.upon
    simp only [hrun]
    exact fin2 v w' hG
   ·exact hp.sound h rfl fin2
  rotate_left
  ·rw [Wanted.sound h hs]
   simp only [Bool.false_eq_true,if_false]
   refine hK _ _ ⟨by rw [hd]; rfl,by rw [hd]; exact Hold.put hdN _ _,I,_,by rw [hd]; exact h.put0 hg (by rw [hN]; exact Rm.lt hdN) (.tree (.tup (Fs:=fun _=>E0) (F:=E0) rfl (fun k x u hx _=>by simp at hx) (fun _ _ _ _ _ h=>h.elim) (fun c=>⟨fun h=>h.elim,fun ⟨_,_,h⟩=>h⟩))) (fun _ _ h=>h.elim) (fun _ h=>h.elim) (fun _ _ _ _ _ e=>by cases e),⟨Fr.refl _ _,fun _ h=>h,fun _ h=>.inl h,fun c hc=>?_⟩⟩
   rcases upd_updF hc with h' | h'
   ·exact .inl h'
   ·exact h'.elim
  rw [Wanted.sound h hs.1]
  simp only [if_true]
  refine .inl ?_
  have fin:∀ v w',Gives w I a.tmps g Fs x v w'->K (a.put o.dst v) w':=by
   rintro v w' ⟨F,I',hS,hR,h1,h2,h3,h4,h5,h6⟩
   refine hK _ _ ⟨by rw [hd]; rfl,by rw [hd]; exact Hold.put hdN _ _,I',_,by rw [hd]; exact hS.put0 hg (by rw [hN]; exact Rm.lt hdN) hR (fun t c hc hf=>h1 t c hc hf) (fun c hc=>(h2 c hc).2) h6,⟨h5,h3,fun c hc=>?_,fun c hc=>?_⟩⟩
   ·rcases h4 c hc with h' | h'
    ·exact .inl h'
    ·exact .inr (.inr h')
   ·rcases upd_updF hc with h' | h'
    ·exact .inl h'
    ·exact .inr (h2 c h').1
  rcases hs.2 with hp | hp
  ·obtain ⟨v,w',hrun,hG⟩:=hp.sound h rfl
   unfold Oper.wp Oper.upon
   simp only [hrun]
   exact fin v w' hG
  ·exact hp.sound h rfl fin
inductive Run (P:Program) (N:Rm) (ops:Array Oper):List Nat->Gst->Gst->Prop
 | nil {g:Gst}:Run P N ops [] g g
 | step {i:Nat}{rest:List Nat}{g g':Gst}{o:Oper}{d:Nat}{r:Option AV}(ho:ops[i]?=some o) (hd:o.dst=some d) (hg:g d=none) (hdN:N.ok d=true) (hs:StepOk P g ops o r)
   (hr:Run P N ops rest (putR g d r) g'):Run P N ops (i::rest) g g'
 | eff {i:Nat}{rest:List Nat}{g g1 g':Gst}{o:Oper}(ho:ops[i]?=some o) (hw:Wanted g ops o true) (he:EO P N g o g1) (hr:Run P N ops rest g1 g'):Run P N ops (i::rest) g g'
 | drop {is:List Nat}{g g':Gst}{d:Nat}{x:AV}(hd:g d=some x) (hl:leaf x=true) (hr:Run P N ops is (del g d) g'):Run P N ops is g g'
 | forget {is:List Nat}{g g1 g':Gst}(hk:Keep g g1) (hr:Run P N ops is g1 g'):Run P N ops is g g'
 | frz {is:List Nat}{g g1 g':Gst}{fz:Nat->Bool}(hk:Frz fz g g1) (hr:Run P N ops is g1 g'):Run P N ops is g g'
theorem Run.sound {is:List Nat}{g':Gst}(hr:Run P N ops is g g'):∀ {a:Act}{w:World}{I:BSet}{Fs:Nat->BSet}{Q:Exit->Act->World->Prop},SR w I a.tmps g Fs->a.tmps.size=N.size ->
  (∀ a' w',Next' N a w I Fs g' a' w'->Q .normal a' w')->wpOps P ops Q is a w:=by
 induction hr with
 | nil=>exact fun hS hN hQ=>hQ _ _ ⟨rfl,Hold.refl,_,_,hS,St.refl _ _ _⟩
 | @step i rest g g' o d r ho hd hg hdN hs _ ih =>
  intro a w I Fs Q hS hN hQ
  simp only [wpOps,ho]
  refine hs.sound hS rfl hN hd hg hdN fun a' w' hn=>?_
  obtain ⟨e1,e2,I',Fs',hS',hst⟩:=hn
  exact ih hS' (e2.1.trans hN) fun a2 w2 h2=>hQ _ _ (Next'.trans e1 e2 hst h2)
 | @eff i rest g g1 g' o ho hw he _ ih =>
  intro a w I Fs Q hS hN hQ
  simp only [wpOps,ho,hw.sound hS,if_true]
  refine .inl (he.sound hS rfl hN fun a' w' hn=>?_)
  obtain ⟨e1,e2,I',Fs',hS',hst⟩:=hn
  exact ih hS' (e2.1.trans hN) fun a2 w2 h2=>hQ _ _ (Next'.trans e1 e2 hst h2)
 | @drop is g g' d x hd hl _ ih=>exact fun hS hN hQ=>ih (hS.drop hd hl) hN hQ
 | @frz is g g1 g' fz hk _ ih =>
  intro a w I Fs Q hS hN hQ
  obtain ⟨I',Fs',hS',hst⟩:=hS.frz hk
  exact ih hS' hN fun a2 w2 h2=>hQ _ _ (Next'.trans rfl Hold.refl hst h2)
 | @forget is g g1 g' hk _ ih =>
  intro a w I Fs Q hS hN hQ
  have hS':=hS.toC.keep hk
  refine ih hS' hN fun a2 w2 h2=>hQ _ _ (Next'.trans rfl Hold.refl ⟨Fr.refl _ _,fun _ h=>h,fun _ h=>.inl h,fun c hc=>?_⟩ h2)
  obtain ⟨t,_,hc⟩:=hc
  exact .inl ⟨t,hc⟩
end
end Go.Own
namespace Go.Own
open Go
set_option linter.unusedSectionVars false
variable [TB]
def rsV (rs:List Nat):Place->Prop:=fun p=>p.root∈rs
def EffV (P:Program) (N:Rm) (rs:Place->Prop) (g:Gst) (o:Oper) (g':Gst):Prop :=
 ∀ (w:World) (I:BSet) (T:Array Value) (Fs:Nat->BSet),SR w I T g Fs->∀ (a:Act),a.tmps=T->a.tmps.size=N.size->∀ (K:Act->World->Prop) (Q:Exit->Act->World->Prop),
  (∀ (a':Act) (w':World),Next' N a w I Fs g' a' w'->(∀ t,o.dst≠some t->a'.tmps[t]?=a.tmps[t]?)->(∀ r path,rs ⟨r,path⟩->∀ y,atP g ⟨r,path⟩=some y->(∀ z q n m new,y≠.pend z q n m new)->valAt w' a'.tmps ⟨r,path⟩=valAt w T ⟨r,path⟩)->K a' w')->o.wp P a w K Q
theorem EffOk.v {P:Program}{N:Rm}{g g':Gst}{o:Oper}(h:EffOk P N g o g'):EffV P N (rsV []) g o g' :=
 fun w I T Fs hS a ha hN K Q hK=>h w I T Fs hS a ha hN K Q fun a' w' h1 h2=>hK a' w' h1 h2 fun _ _ h=>by simp [rsV] at h
inductive Pl:AV->Prop
 | lit {v:Value}:Pl (.lit v)
 | nils:Pl .nils
 | imm {z n:Nat}{cs:List AV}(h:∀ x∈cs,NR x):Pl (.imm z n cs)
 | agg {cs:List AV}(h:∀ x∈cs,Pl x):Pl (.agg cs)
theorem Pl.nr {x:AV}(h:Pl x):NR x:=by
 induction h with
 | lit=>exact .lit
 | nils=>exact .nils
 | imm h=>exact .imm h
 | agg _ ih=>exact .agg ih
theorem Pl.non {w:World}{I:BSet}{ρ:AV->Value->Prop}{x:AV}(h:Pl x):∀ {v:Value}{F:BSet},R w I ρ x v F->∀ c,¬ F c:=by
 induction h with
 | lit =>
  intro v F hR
  cases hR with
  | lit _ hF=>exact hF
  | ref hx=>simp [AV.isRef] at hx
 | nils =>
  intro v F hR
  cases hR with
  | nils hF=>exact hF
  | ref hx=>simp [AV.isRef] at hx
 | imm =>
  intro v F hR
  cases hR with
  | ref hx=>simp [AV.isRef] at hx
  | imm0 hF=>exact hF
  | imm hF=>exact hF
 | @agg cs _ ih =>
  intro v F hR c hc
  cases hR with
  | ref hx=>simp [AV.isRef] at hx
  | @agg _ vs Fk _ hl h1 hr hd hFF =>
   obtain ⟨k,hk,h2⟩:=(hFF c).1 hc
   have hu:vs[k]?=some (vs[k]'(by omega)):=Array.getElem?_eq_getElem (by omega)
   exact ih _ (List.getElem_mem hk) (hr k _ _ (List.getElem?_eq_getElem hk) hu) c h2
structure Clo (g:Gst):Prop where
 rk:∀ t x,g t=some x->RK g x
 np:∀ t z q n m new,g t≠some (.pend z q n m new)
def Stab (rs:Place->Prop) (g g1:Gst) (o:Oper) (x:AV):Prop:=(∃ r path z n N cs,x=.brw z ⟨r,path⟩ n/\rs ⟨r,path⟩/\atP g ⟨r,path⟩=some (.own z N cs)/\atP g1 ⟨r,path⟩=some (.own z N cs)/\n<=N)\/(∃ v,x=.lit v)\/(∃ s p k,x=.ptr p k/\g s=some x/\g1 s=some x/\o.dst≠some s)\/(∃ r k cs,x=.ptr ⟨r,[]⟩ k/\g1 r=some (.obj cs)/\k<cs.length/\o.dst≠some r/\∃ cs',g r=some (.obj cs')/\k<cs'.length)\/(∃ z n cs,x=.imm z n cs/\NR x)\/(∃ cs,x=.agg cs/\Pl x/\Clo g)\/(∃ cs,x=.iptr cs/\NR x)
section
variable {P:Program}{N:Rm}{g g1:Gst}{o:Oper}
theorem set_same {T:Array Value}{t:Nat}{v:Value}(h:T[t]?=some v):T.setIfInBounds t v=T:=by
 apply Array.ext (by simp)
 intro i h1 h2
 rw [Array.getElem_setIfInBounds]
 split
 ·rename_i e
  subst e
  have:=(Array.getElem?_eq_some_iff.1 h)
  exact this.2.symm
 ·rfl
theorem SR.dropC {w:World}{I:BSet}{T:Array Value}{Fs:Nat->BSet}{t:Nat}{x:AV}(h:SR w I T (upd g t x) Fs) (hg:g t=none) (hc:Clo g) (hE:∀ c,¬ Fs t c):SR w I T g Fs:=by
 have hsub:∀ s y,g s=some y->upd g t x s=some y:=fun s y hs=>by
  unfold upd
  rw [if_neg (fun e=>by rw [e,hg] at hs; cases hs)]; exact hs
 have h2:=h.toC.keep (g2:=g) ⟨hsub,hc.rk,hc.np⟩
 have e:(fun s c=>g s≠none/\Fs s c)=Fs:=by
  funext s c
  apply propext
  refine ⟨fun h=>h.2,fun hf=>⟨fun hn=>?_,hf⟩⟩
  by_cases hs:s=t
  ·subst hs; exact hE c hf
  ·exact h.non s (by unfold upd; rw [if_neg hs]; exact hn) c hf
 rw [e] at h2
 exact h2
theorem EffV.extra {rs:Place->Prop}(h:EffV P N rs g o g1) {t:Nat}{x:AV}(hrs:∀ p,rs p->g p.root≠none) (hg:g t=none) (hg1:g1 t=none) (ht:o.dst≠some t) (hx:Stab rs g g1 o x):EffV P N rs (upd g t x) o (upd g1 t x):=by
 intro w I T Fs hS a ha hN K Q hK
 have hut:upd g t x t=some x:=by simp [upd]
 have hnp:∀ z q n m new,x≠.pend z q n m new:=by
  rcases hx with ⟨r,path,z,n,N,cs,rfl,_⟩ | ⟨v,rfl⟩ | ⟨s,p,k,rfl,_⟩ | ⟨r,k,cs,rfl,_⟩ | ⟨z,n,cs,rfl,_⟩ | ⟨cs,rfl,_⟩ | ⟨cs,rfl,_⟩ <;> simp
 have hS0:SR w I T g Fs:=by
  have byLeaf:leaf x=true->SR w I T g Fs:=fun hlf=>by
   have:=hS.drop hut hlf
   have e:del (upd g t x) t=g:=by
    funext s
    unfold del upd
    by_cases hs:s=t
    ·subst hs; simp [hg]
    ·simp [hs]
   rwa [e] at this
  rcases hx with ⟨r,path,z,n,N,cs,rfl,_⟩ | ⟨v,rfl⟩ | ⟨s,p,k,rfl,_⟩ | ⟨r,k,cs,rfl,_⟩ | ⟨z,n,cs,rfl,_⟩ | ⟨cs,rfl,hpl,hcl⟩ | ⟨cs,rfl,_⟩
  ·exact byLeaf rfl
  ·exact byLeaf rfl
  ·exact byLeaf rfl
  ·exact byLeaf rfl
  ·exact byLeaf rfl
  ·obtain ⟨v,_,hRv⟩:=hS.rel t _ hut
   exact hS.dropC hg hcl (hpl.non (hRv.isTree (by simp)))
  ·exact byLeaf rfl
 obtain ⟨v,hv,hRv⟩:=hS.rel t x hut
 refine h w I T Fs hS0 a ha hN K Q fun a' w' hn htm hvr=>hK a' w' ?_ htm fun r path hr y hy hnp=>?_
 rotate_left
 ·by_cases hrt:r=t
  ·subst hrt
   exact absurd hg (hrs _ hr)
  ·exact hvr r path hr y (by simpa [atP,upd,hrt] using hy) hnp
 obtain ⟨e1,e2,I',Fs',hS',hst⟩:=hn
 have hv':a'.tmps[t]?=some v:=by rw [htm t ht,ha]; exact hv
 have hR':RT w' I' (RG w' a'.tmps g1) x v E0:=by
  rcases hx with ⟨r,path,z,n,N0,cs,rfl,hr,hr0,hr1,hnN⟩ | ⟨u,rfl⟩ | ⟨s,p,k,rfl,hs,hs1,hsd⟩ | ⟨r,k,cs,rfl,hr1,hk,hrd,_⟩ | ⟨z,n,cs,rfl,hnr⟩ | ⟨cs,rfl,hpl,hcl⟩ | ⟨cs,rfl,hnr⟩
  ·obtain ⟨⟨a1,N',cap,b1,rfl,b3⟩,_⟩:=(hRv.isTree (by simp)).inv_brw
   exact .tree (.ref rfl ⟨⟨a1,N',cap,by rw [hvr r path hr _ hr0 (by simp)]; exact b1,rfl,b3⟩,.inl ⟨N0,cs,hr1,hnN⟩⟩ fun _ h=>h)
  ·obtain ⟨rfl,hc⟩:=(hRv.isTree (by simp)).inv_lit
   exact .tree (.lit hc fun _ h=>h)
  ·obtain ⟨⟨u2,ad,a1,a2,rfl⟩,_⟩:=(hRv.isTree (by simp)).inv_ptr
   have hst:s≠t:=by rintro rfl; rw [hg] at hs; cases hs
   obtain ⟨u,hu,hRu⟩:=hS0.rel s _ hs
   obtain ⟨⟨u3,ad3,b1,b2,rfl⟩,_⟩:=(hRu.isTree (by simp)).inv_ptr
   rw [a1] at b1
   cases b1
   rw [a2] at b2
   cases b2
   obtain ⟨u',hu',hRu'⟩:=hS'.rel s _ hs1
   have:a'.tmps[s]?=T[s]?:=by rw [htm s hsd,ha]
   rw [this,hu] at hu'
   cases hu'
   exact .tree (.ref rfl (hRu'.isTree (by simp)).inv_ptr fun _ h=>h)
  ·obtain ⟨⟨u2,ad,a1,a2,rfl⟩,_⟩:=(hRv.isTree (by simp)).inv_ptr
   have hT:a'.tmps[r]?=T[r]?:=by rw [htm r hrd,ha]
   have hval:∀ (w:World) (T:Array Value),valAt w T ⟨r,[]⟩=T[r]?:=fun w T=>by
    unfold valAt; simp only; cases T[r]? <;> rfl
   exact .tree (.ref rfl ⟨⟨u2,ad,by rw [hval,hT,<- hval w T]; exact a1,a2,rfl⟩,⟨.obj cs,by simp [atP,hr1,AV.at],0,0,cs,.inr rfl,hk⟩⟩ fun _ h=>h)
  ·have sameI:∀ c,I c->w'.heap[c]?=w.heap[c]?:=fun c hc=>hst.fr.block c (hS.lt c hc) fun ⟨t',h'⟩=>hS0.imm t' c h' hc
   have hRi:=(hRv.isTree (by simp)).nr hnr (ρ':=RG w' a'.tmps g1)
   have hE:∀ c,¬ Fs t c:=by
    cases hRv.isTree (by simp) with
    | ref hx=>simp [AV.isRef] at hx
    | imm0 hF=>exact hF
    | imm hF=>exact hF
   exact .tree ((hRi.frame sameI hst.more (fun _ _ h=>h) fun c hc=>absurd hc (hE c)).empty hE)
  ·have sameI:∀ c,I c->w'.heap[c]?=w.heap[c]?:=fun c hc=>hst.fr.block c (hS.lt c hc) fun ⟨t',h'⟩=>hS0.imm t' c h' hc
   have hE:=hpl.non (hRv.isTree (by simp))
   have hRi:=(hRv.isTree (by simp)).nr hpl.nr (ρ':=RG w' a'.tmps g1)
   exact .tree ((hRi.frame sameI hst.more (fun _ _ h=>h) fun c hc=>absurd hc (hE c)).empty hE)
  ·have sameI:∀ c,I c->w'.heap[c]?=w.heap[c]?:=fun c hc=>hst.fr.block c (hS.lt c hc) fun ⟨t',h'⟩=>hS0.imm t' c h' hc
   have hRi:=(hRv.isTree (by simp)).nr hnr (ρ':=RG w' a'.tmps g1)
   have hE:∀ c,¬ Fs t c:=by
    cases hRv.isTree (by simp) with
    | ref hx=>simp [AV.isRef] at hx
    | iptr hF=>exact hF
   exact .tree ((hRi.frame sameI hst.more (fun _ _ h=>h) fun c hc=>absurd hc (hE c)).empty hE)
 have hput:=hS'.put0 (d:=t) (x:=x) (v:=v) (F:=E0) hg1 (Array.getElem?_eq_some_iff.1 hv').1 hR' (fun _ _ h=>h.elim) (fun _ h=>h.elim) (fun z p n m new e=>absurd e (hnp _ _ _ _ _))
 rw [set_same hv'] at hput
 refine ⟨e1,e2,I',_,hput,⟨hst.fr,hst.more,hst.new,fun c hc=>?_⟩⟩
 rcases upd_updF hc with h' | h'
 ·exact hst.own c h'
 ·exact h'.elim
theorem EffOk.frame {g0 g1':Gst}{r:Nat}{x:AV}(h:EffOk P N g0 o g1') (hr:g r=some x) (hx:NR x) (hk:Keep g g0) (h0:g0 r=none) (h1:g1' r=none) (hd:o.dst≠some r):EffV P N (rsV [r]) g o (upd g1' r x):=by
 intro w I T Fs hS a ha hN K Q hK
 have hS0:=hS.toC.keep hk
 refine h w I T _ hS0 a ha hN K Q fun a' w' hn htm=>?_
 obtain ⟨e1,e2,I',Fs',hS',hst⟩:=hn
 obtain ⟨u,hu,hR⟩:=hS.rel r x hr
 have hu':a'.tmps[r]?=some u:=by rw [htm r hd,ha]; exact hu
 have hnp:∀ z q n m new,x≠.pend z q n m new:=by rintro z q n m new rfl; cases hx
 have off:∀ c,Fs r c->¬ ∃ t,(g0 t≠none/\Fs t c):=by
  rintro c hc ⟨t,q1,h2⟩
  have:=hS.dis t r c h2 hc
  subst this
  exact q1 h0
 have same:∀ c,Fs r c->w'.heap[c]?=w.heap[c]?:=fun c hc=>hst.fr.block c (hS.ltF r c hc) (off c hc)
 have sameI:∀ c,I c->w'.heap[c]?=w.heap[c]?:=fun c hc=>hst.fr.block c (hS.lt c hc) fun ⟨t,_,h'⟩=>hS.imm t c h' hc
 have hput:=hS'.put0 (d:=r) (x:=x) (v:=u) (F:=Fs r) h1 (Array.getElem?_eq_some_iff.1 hu').1 (.tree (((hR.isTree hnp).nr hx).frame sameI hst.more (fun _ _ h=>h) same)) (fun t c hc hf=>by
   rcases hst.own c ⟨t,hf⟩ with h' | h'
   ·exact off c hc h'
   ·have:=hS.ltF r c hc; omega) (fun c hc hi=>by
   rcases hst.new c hi with h' | h' | h'
   ·exact hS.imm r c hc h'
   ·exact off c hc h'
   ·have:=hS.ltF r c hc; omega) (fun z p n m new e=>absurd e (hnp _ _ _ _ _))
 rw [set_same hu'] at hput
 refine hK a' w' ⟨e1,e2,I',_,hput,⟨hst.fr.mono fun b _ ⟨t,_,h'⟩=>⟨t,h'⟩,hst.more,fun c hc=>?_,fun c hc=>?_⟩⟩ htm fun r' path hr' y hy hyp=>?_
 ·rcases hst.new c hc with h' | ⟨t,_,h'⟩ | h'
  ·exact .inl h'
  ·exact .inr (.inl ⟨t,h'⟩)
  ·exact .inr (.inr h')
 ·rcases upd_updF hc with h' | h'
  ·rcases hst.own c h' with ⟨t,_,h''⟩ | h''
   ·exact .inl ⟨t,h''⟩
   ·exact .inr h''
  ·exact .inl ⟨r,h'⟩
 ·have hr':r'∈[r]:=hr'
  simp only [List.mem_singleton] at hr'
  subst hr'
  have hk1:Keep g (fun t=>if t=r' then some x else none):=by
   refine ⟨fun t y e0=>?_,fun t y e0=>?_,fun t z q n m new e0=>?_⟩
   all_goals
    by_cases e:t=r'
    case neg=>simp [e] at e0
   ·subst e; simp at e0; subst e0; exact hr
   ·subst e; simp at e0; subst e0; exact .nr hx
   ·subst e; simp at e0; exact hnp _ _ _ _ _ e0
  refine (hS.toC.keep hk1).valAt_same (T':=a'.tmps) (fun t ht=>?_) (fun t c hc=>?_) (p:=⟨r',path⟩) (y:=y) ?_
  ·by_cases e:t=r'
   ·subst e; rw [htm t hd,ha]
   ·simp [e] at ht
  ·by_cases e:t=r'
   ·subst e; exact same c hc.2
   ·simp [e] at hc
  ·simp only [atP,if_true]
   simpa [atP,hr] using hy
end
end Go.Own
namespace Go.Own
open Go
set_option linter.unusedSectionVars false
variable [TB]
abbrev Acc:=List (Nat × Nat × Option AV)
def visG (g0:Gst) (A:Nat->Bool):Acc->Gst
 | [],t=>g0 t
 | (k,d,r)::acc,t=>if d=t then (if A k then r else none) else visG g0 A acc t
def pendPlace:Nat × Nat × Option AV->Option Place
 | (_,_,some (.pend _ p _ _ _))=>some p
 | _=>none
def ancOk (ops:Array Oper) (AT:List (List Nat)):Bool :=
 (List.range ops.size).all fun k =>
  match ops[k]? with
  | none=>true
  | some o=>(o.after.all fun e=>!Region.binds .any e||decide (e.on<k))&&(AT.getD k []).all fun m=>decide (m<k)&&o.after.any fun e=>Region.binds .any e&&(e.on == m||(AT.getD e.on []).contains m)
inductive Seg (P:Program) (N:Rm) (ops:Array Oper) (AT:List (List Nat)) (g0:Gst) (i:Nat) (U0:Acc):Nat->Acc->Prop
 | nil:Seg P N ops AT g0 i U0 i U0
 | step {j:Nat}{acc:Acc}{o:Oper}{d:Nat}{r:Option AV}(h:Seg P N ops AT g0 i U0 j acc) (ho:ops[j]?=some o) (hd:o.dst=some d) (hg:g0 d=none) (hn:∀ e∈acc,e.2.1≠d) (hdN:N.ok d=true)
   (hs:StepOk P (visG g0 (fun m=>(AT.getD j []).contains m) acc) ops o r):Seg P N ops AT g0 i U0 (j+1) ((j,d,r)::acc)
structure PendOk (P:Program) (N:Rm) (ops:Array Oper) (AT:List (List Nat)) (g0:Gst) (i:Nat) (U0:Acc):Prop where
 lt:∀ e∈U0,e.1<i
 free:∀ e∈U0,g0 e.2.1=none
 nd:(U0.map (·.2.1)).Nodup
 uq:∀ e∈U0,∀ e'∈U0,(e.1=e'.1\/e.2.1=e'.2.1)->e=e'
 st:∀ e∈U0,∃ o',ops[e.1]?=some o'/\o'.dst=some e.2.1/\N.ok e.2.1=true/\StepOk P (visG g0 (fun m=>(AT.getD e.1 []).contains m) U0) ops o' e.2.2
theorem PendOk.nil {P:Program}{N:Rm}{ops:Array Oper}{AT:List (List Nat)}{g0:Gst}{i:Nat}:PendOk P N ops AT g0 i []:=⟨by simp,by simp,by simp,by simp,by simp⟩
inductive DRun (P:Program) (N:Rm) (ops:Array Oper) (AT:List (List Nat)):Nat->Acc->Gst->Gst->Prop
 | fin {i:Nat}{U0:Acc}{g:Gst}{acc:Acc}(hs:Seg P N ops AT g i U0 ops.size acc) (hpd:(acc.filterMap pendPlace).Nodup) (hp0:∀ t z q n m new,g t≠some (.pend z q n m new)):DRun P N ops AT i U0 g (visG g (fun _=>true) acc)
 | bar {i j:Nat}{g g1 g':Gst}{U0 acc U:Acc}{o:Oper}{rs:Place->Prop}(hs:Seg P N ops AT g i U0 j acc) (hpd:(acc.filterMap pendPlace).Nodup) (hp0:∀ t z q n m new,g t≠some (.pend z q n m new)) (ho:ops[j]?=some o) (hw:Wanted (visG g (fun m=>(AT.getD j []).contains m) acc) ops o true)
   (he:EffV P N rs (visG g (fun m=>(AT.getD j []).contains m) acc) o g1) (hrs:∀ p,rs p->g p.root≠none) (hU:U=acc.filter fun e=>!(AT.getD j []).contains e.1) (hx:∀ e∈U,∃ x,e.2.2=some x/\Stab rs (visG g (fun m=>(AT.getD j []).contains m) acc) g1 o x) (h1:∀ e∈U,g1 e.2.1=none/\o.dst≠some e.2.1)
   (h2:∀ e∈U,∃ o',ops[e.1]?=some o'/\o'.dst=some e.2.1/\N.ok e.2.1=true/\StepOk P (visG g1 (fun m=>(AT.getD e.1 []).contains m) U) ops o' e.2.2)
   (hb:(List.range ops.size).all (fun k=>decide (k<=j)||(AT.getD k []).contains j)=true) (hr:DRun P N ops AT (j+1) U g1 g'):DRun P N ops AT i U0 g g'
theorem visG_out {g0:Gst}{A:Nat->Bool}{acc:Acc}{t:Nat}(h:∀ e∈acc,e.2.1≠t):visG g0 A acc t=g0 t:=by
 induction acc with
 | nil=>rfl
 | cons e acc ih =>
  obtain ⟨k,d,r⟩:=e
  simp only [visG]
  rw [if_neg (h (k,d,r) (by simp)),ih fun e he=>h e (by simp [he])]
theorem visG_some {g0:Gst}{A:Nat->Bool}{acc:Acc}{t:Nat}{x:AV}(h:visG g0 A acc t=some x):(∃ e∈acc,e.2.1=t/\A e.1=true/\e.2.2=some x)\/((∀ e∈acc,e.2.1≠t)/\g0 t=some x):=by
 induction acc with
 | nil=>exact .inr ⟨by simp,h⟩
 | cons e acc ih =>
  obtain ⟨k,d,r⟩:=e
  simp only [visG] at h
  by_cases hd:d=t
  ·rw [if_pos hd] at h
   by_cases hA:A k=true
   ·rw [if_pos hA] at h; exact .inl ⟨(k,d,r),by simp,hd,hA,h⟩
   ·rw [if_neg hA] at h; cases h
  ·rw [if_neg hd] at h
   rcases ih h with ⟨e,he,r⟩ | ⟨h1,h2⟩
   ·exact .inl ⟨e,by simp [he],r⟩
   ·refine .inr ⟨fun e he=>?_,h2⟩
    rcases List.mem_cons.1 he with rfl | he
    ·exact hd
    ·exact h1 e he
theorem vis_mem {g:Gst}{A:Nat->Bool}{acc:Acc}(hu:∀ e∈acc,∀ e'∈acc,e.2.1=e'.2.1->e=e') {e:Nat × Nat × Option AV}(he:e∈acc):visG g A acc e.2.1=if A e.1 then e.2.2 else none:=by
 induction acc with
 | nil=>cases he
 | cons a acc ih =>
  obtain ⟨k,d,r⟩:=a
  simp only [visG]
  by_cases hd:d=e.2.1
  ·have:=hu (k,d,r) (by simp) e he hd
   subst this
   simp
  ·rw [if_neg hd]
   rcases List.mem_cons.1 he with rfl | he
   ·exact absurd rfl hd
   ·exact ih (fun x hx y hy=>hu x (by simp [hx]) y (by simp [hy])) he
section
variable {P:Program}{N:Rm}{ops:Array Oper}{AT:List (List Nat)}{g0:Gst}{i:Nat}
variable {U0:Acc}
theorem Seg.le {j:Nat}{acc:Acc}(h:Seg P N ops AT g0 i U0 j acc) (hU:PendOk P N ops AT g0 i U0):i<=j/\∀ e∈acc,e.1<j:=by
 induction h with
 | nil=>exact ⟨Nat.le_refl _,hU.lt⟩
 | step _ _ _ _ _ _ _ ih =>
  refine ⟨by omega,fun e he=>?_⟩
  rcases List.mem_cons.1 he with rfl | he
  ·simp
  ·have:=ih.2 e he; omega
theorem Seg.ge {j:Nat}{acc:Acc}(h:Seg P N ops AT g0 i U0 j acc) (hU:PendOk P N ops AT g0 i U0):∀ e∈acc,e∈U0\/i<=e.1:=by
 induction h with
 | nil=>exact fun e he=>.inl he
 | step hs _ _ _ _ _ _ ih =>
  intro e he
  rcases List.mem_cons.1 he with rfl | he
  ·exact .inr (hs.le hU).1
  ·exact ih e he
theorem Seg.sub0 {j:Nat}{acc:Acc}(h:Seg P N ops AT g0 i U0 j acc):∀ e∈U0,e∈acc:=by
 induction h with
 | nil=>exact fun e he=>he
 | step _ _ _ _ _ _ _ ih=>exact fun e he=>by simp [ih e he]
theorem Seg.fresh {j:Nat}{acc:Acc}(h:Seg P N ops AT g0 i U0 j acc) (hU:PendOk P N ops AT g0 i U0):∀ e∈acc,g0 e.2.1=none:=by
 induction h with
 | nil=>exact hU.free
 | step _ _ _ hg _ _ _ ih =>
  intro e he
  rcases List.mem_cons.1 he with rfl | he
  ·exact hg
  ·exact ih e he
theorem Seg.nodup {j:Nat}{acc:Acc}(h:Seg P N ops AT g0 i U0 j acc) (hU:PendOk P N ops AT g0 i U0):(acc.map (·.2.1)).Nodup:=by
 induction h with
 | nil=>exact hU.nd
 | step _ _ _ _ hn _ _ ih =>
  refine List.nodup_cons.2 ⟨fun hm=>?_,ih⟩
  obtain ⟨e,he,h⟩:=List.mem_map.1 hm
  exact hn e he h
theorem Seg.uniq {j:Nat}{acc:Acc}(h:Seg P N ops AT g0 i U0 j acc) (hU:PendOk P N ops AT g0 i U0):∀ {e e':Nat × Nat × Option AV},e∈acc->e'∈acc->(e.1=e'.1\/e.2.1=e'.2.1)->e=e':=by
 induction h with
 | nil=>exact fun {e e'} he he' hh=>hU.uq e he e' he' hh
 | @step j acc o d r hs _ _ _ hn _ _ ih =>
  intro e e' he he' hh
  rcases List.mem_cons.1 he with rfl | he <;> rcases List.mem_cons.1 he' with rfl | he'
  ·rfl
  ·rcases hh with hh | hh
   ·have:=(hs.le hU).2 e' he'; simp at hh; omega
   ·exact absurd hh.symm (hn e' he')
  ·rcases hh with hh | hh
   ·have:=(hs.le hU).2 e he; simp at hh; omega
   ·exact absurd hh (hn e he)
  ·exact ih he he' hh
theorem Seg.at_mem {j:Nat}{acc:Acc}(h:Seg P N ops AT g0 i U0 j acc) (hU:PendOk P N ops AT g0 i U0) {A:Nat->Bool}{e:Nat × Nat × Option AV}(he:e∈acc):visG g0 A acc e.2.1=if A e.1 then e.2.2 else none :=
 vis_mem (fun _ hx _ hy h'=>h.uniq hU hx hy (.inr h')) he
theorem Seg.get {j:Nat}{acc:Acc}(h:Seg P N ops AT g0 i U0 j acc) (hU:PendOk P N ops AT g0 i U0):∀ e∈acc,∃ o acc0,ops[e.1]?=some o/\o.dst=some e.2.1/\N.ok e.2.1=true/\StepOk P (visG g0 (fun m=>(AT.getD e.1 []).contains m) acc0) ops o e.2.2/\∀ e∈acc0,e∈acc:=by
 induction h with
 | nil =>
  intro e he
  obtain ⟨o',h1,h2,h3,h4⟩:=hU.st e he
  exact ⟨o',U0,h1,h2,h3,h4,fun _ h=>h⟩
 | @step j acc o d r hs ho hd hg hn hdN hst ih =>
  intro e he
  rcases List.mem_cons.1 he with rfl | he
  ·exact ⟨o,acc,ho,hd,hdN,hst,fun e he=>by simp [he]⟩
  ·obtain ⟨o',acc0,a1,a2,a3,a4,a5⟩:=ih e he
   exact ⟨o',acc0,a1,a2,a3,a4,fun e he=>by simp [a5 e he]⟩
theorem Seg.has {j:Nat}{acc:Acc}(h:Seg P N ops AT g0 i U0 j acc):∀ k,i<=k->k<j->∃ e∈acc,e.1=k:=by
 induction h with
 | nil=>intro k h1 h2; omega
 | @step j acc o d r hs ho hd hg hn hdN hst ih =>
  intro k h1 h2
  by_cases hk:k=j
  ·exact ⟨_,List.mem_cons_self,hk.symm⟩
  ·obtain ⟨e,he,h⟩:=ih k h1 (by omega)
   exact ⟨e,by simp [he],h⟩
theorem pend_uniq {acc:Acc}(hpd:(acc.filterMap pendPlace).Nodup) {e e':Nat × Nat × Option AV}{p:Place}(he:e∈acc) (he':e'∈acc) (h:pendPlace e=some p) (h':pendPlace e'=some p):e=e':=by
 induction acc with
 | nil=>simp at he
 | cons a acc ih =>
  have mem:∀ {x:Nat × Nat × Option AV},x∈acc->pendPlace x=some p->p∈acc.filterMap pendPlace:=fun hx hp=>List.mem_filterMap.2 ⟨_,hx,hp⟩
  rcases List.mem_cons.1 he with rfl | he1 <;> rcases List.mem_cons.1 he' with rfl | he1'
  ·rfl
  ·rw [List.filterMap_cons,h] at hpd
   exact absurd (mem he1' h') (List.nodup_cons.1 hpd).1
  ·rw [List.filterMap_cons,h'] at hpd
   exact absurd (mem he1 h) (List.nodup_cons.1 hpd).1
  ·refine ih ?_ he1 he1'
   rw [List.filterMap_cons] at hpd
   cases hp:pendPlace a with
   | none=>rw [hp] at hpd; exact hpd
   | some q=>rw [hp] at hpd; exact (List.nodup_cons.1 hpd).2
def Lst (listed:Array Bool) (k:Nat):Bool:=listed.getD k false
def cnt (ops:Array Oper) (listed:Array Bool):Nat:=((List.range ops.size).filter fun k=>!Lst listed k).length
theorem cnt_set {listed:Array Bool}{k:Nat}(hk:k<ops.size) (hl:Lst listed k=false) (hsz:listed.size=ops.size):cnt ops (listed.setIfInBounds k true)+1<=cnt ops listed:=by
 unfold cnt
 have key:∀ l:List Nat,l.Nodup->((l.filter fun j=>!Lst (listed.setIfInBounds k true) j).length+if k∈l then 1 else 0)=(l.filter fun j=>!Lst listed j).length:=by
  intro l
  induction l with
  | nil=>intro _; simp
  | cons j l ih =>
   intro hnd
   have hnd':=List.nodup_cons.1 hnd
   have ih':=ih hnd'.2
   by_cases hjk:j=k
   ·subst hjk
    have h1:Lst (listed.setIfInBounds j true) j=true:=by simp [Lst,hsz,hk]
    rw [List.filter_cons,List.filter_cons]
    simp only [h1,hl,Bool.not_true,Bool.not_false,if_true,if_false,Bool.false_eq_true,List.length_cons,List.mem_cons,true_or]
    rw [if_neg hnd'.1] at ih'
    omega
   ·have h1:Lst (listed.setIfInBounds k true) j=Lst listed j:=by simp [Lst,Array.getElem?_setIfInBounds_ne (Ne.symm hjk)]
    rw [List.filter_cons,List.filter_cons,h1]
    have hmem:(k∈j::l)↔k∈l:=by simp [Ne.symm hjk]
    by_cases hb:(!Lst listed j)=true
    ·simp only [hb,if_true,List.length_cons,hmem]; omega
    ·simp only [hb,hmem]; simpa using ih'
 have:=key (List.range ops.size) List.nodup_range
 rw [if_pos (List.mem_range.2 hk)] at this
 omega
end
end Go.Own
namespace Go.Own
open Go
set_option linter.unusedSectionVars false
variable [TB]
section
variable {P:Program}{N:Rm}{ops:Array Oper}{AT:List (List Nat)}
def Down (AT:List (List Nat)) (listed:Array Bool):Prop:=∀ k,Lst listed k=true->∀ m∈AT.getD k [],Lst listed m=true
theorem ancOk_spec (h:ancOk ops AT=true) {k:Nat}{o:Oper}(ho:ops[k]?=some o) :
  (∀ e∈o.after,Region.binds .any e=true->e.on<k)/\∀ m∈AT.getD k [],m<k/\∃ e∈o.after,Region.binds .any e=true/\(e.on=m\/m∈AT.getD e.on []):=by
 have hk:k<ops.size:=(Array.getElem?_eq_some_iff.1 ho).1
 unfold ancOk at h
 have:=List.all_eq_true.1 h k (List.mem_range.2 hk)
 simp only [ho,Bool.and_eq_true] at this
 obtain ⟨h1,h2⟩:=this
 constructor
 ·intro e he hb
  have:=Array.all_eq_true_iff_forall_mem.1 h1 e he
  simpa [hb] using this
 ·intro m hm
  have:=List.all_eq_true.1 h2 m hm
  simp only [Bool.and_eq_true,decide_eq_true_eq] at this
  refine ⟨this.1,?_⟩
  obtain ⟨j,hj,hb⟩:=Array.any_eq_true.1 this.2
  have he:=Array.getElem_mem hj
  generalize o.after[j]=e at hb he
  simp only [Bool.and_eq_true,Bool.or_eq_true,beq_iff_eq,List.contains_iff_mem] at hb
  exact ⟨e,he,hb.1,hb.2⟩
theorem ready_spec {listed:Array Bool}{k:Nat}(h:k∈Region.ready .any ops listed):Lst listed k=false/\∃ o,ops[k]?=some o/\∀ e∈o.after,Region.binds .any e=true->Lst listed e.on=true:=by
 obtain ⟨h1,o,ho,h2⟩:=mem_ready.1 h
 refine ⟨?_,o,ho,h2⟩
 unfold Lst
 rcases Nat.lt_or_ge k listed.size with hk | hk
 ·simp [hk] at h1 ⊢; exact h1
 ·simp [Array.getElem?_eq_none hk] at h1
theorem ready_anc (hA:ancOk ops AT=true) {listed:Array Bool}(hd:Down AT listed) {k:Nat}(h:k∈Region.ready .any ops listed):∀ m∈AT.getD k [],Lst listed m=true:=by
 obtain ⟨_,o,ho,h2⟩:=ready_spec h
 intro m hm
 obtain ⟨_,e,he,hb,h3⟩:=(ancOk_spec hA ho).2 m hm
 rcases h3 with rfl | h3
 ·exact h2 e he hb
 ·exact hd e.on (h2 e he hb) m h3
theorem ready_ex (hA:ancOk ops AT=true) {listed:Array Bool}(hsz:listed.size=ops.size):∀ k,k<ops.size->Lst listed k=false->Region.ready .any ops listed≠[]:=by
 intro k
 induction k using Nat.strongRecOn with
 | _ k ih =>
  intro hk hl
  by_cases hex:∃ j,j<k/\Lst listed j=false
  ·obtain ⟨j,hj,hlj⟩:=hex
   exact ih j hj (by omega) hlj
  ·have hmem:k∈Region.ready .any ops listed:=by
    refine mem_ready.2 ⟨?_,ops[k],Array.getElem?_eq_getElem hk,fun e he hb=>?_⟩
    ·unfold Lst at hl
     simp [hsz,hk] at hl ⊢; exact hl
    ·have hlt:=(ancOk_spec hA (Array.getElem?_eq_getElem hk)).1 e he hb
     cases hle:Lst listed e.on with
     | true=>exact hle
     | false=>exact absurd ⟨e.on,hlt,hle⟩ hex
   intro e
   rw [e] at hmem
   cases hmem
theorem visG_congr {g0:Gst}{A B:Nat->Bool}{acc:Acc}{t:Nat}(h:∀ e∈acc,e.2.1=t->A e.1=B e.1):visG g0 A acc t=visG g0 B acc t:=by
 induction acc with
 | nil=>rfl
 | cons e acc ih =>
  obtain ⟨k,d,r⟩:=e
  simp only [visG]
  by_cases hd:d=t
  ·rw [if_pos hd,if_pos hd,h (k,d,r) (by simp) hd]
  ·rw [if_neg hd,if_neg hd,ih fun e he=>h e (by simp [he])]
theorem Lst_set {listed:Array Bool}{k j:Nat}(hk:k<listed.size):Lst (listed.setIfInBounds k true) j=if j=k then true else Lst listed j:=by
 by_cases hjk:j=k
 ·subst hjk; simp [Lst,hk]
 ·rw [if_neg hjk]; simp [Lst,Array.getElem?_setIfInBounds_ne (Ne.symm hjk)]
theorem vis_split {g0:Gst}{i j:Nat}{acc U U0:Acc}(hs:Seg P N ops AT g0 i U0 j acc) (hP:PendOk P N ops AT g0 i U0) {A S:Nat->Bool}(hU:U=acc.filter fun e=>!A e.1) (hAS:∀ e∈acc,A e.1=true->S e.1=true):visG g0 S acc=visG (visG g0 A acc) S U:=by
 subst hU
 funext t
 by_cases hex:∃ e∈acc,e.2.1=t
 ·obtain ⟨e,he,rfl⟩:=hex
  rw [hs.at_mem hP he]
  by_cases hA:A e.1=true
  ·rw [visG_out,hs.at_mem hP he,if_pos hA,if_pos (hAS e he hA)]
   intro e' he' h
   obtain ⟨h1,h2⟩:=List.mem_filter.1 he'
   have:=hs.uniq hP h1 he (.inr h)
   subst this
   simp [hA] at h2
  ·rw [vis_mem (fun x hx y hy h=>hs.uniq hP (List.mem_filter.1 hx).1 (List.mem_filter.1 hy).1 (.inr h)) (List.mem_filter.2 ⟨he,by simpa using hA⟩)]
 ·rw [visG_out fun e he h=>hex ⟨e,he,h⟩,visG_out fun e he h=>hex ⟨e,(List.mem_filter.1 he).1,h⟩,visG_out fun e he h=>hex ⟨e,he,h⟩]
theorem RK.mono {g g':Gst}(hg:∀ t x,g t=some x->g' t=some x) {x:AV}(h:RK g x):RK g' x:=by
 induction h with
 | nr h=>exact .nr h
 | ref hx h=>exact .ref hx (h.mono hg)
 | own _ ih=>exact .own ih
 | obj _ ih=>exact .obj ih
 | agg _ ih=>exact .agg ih
 | tup _ ih=>exact .tup ih
 | clo _ _ ih1 ih2=>exact .clo ih1 ih2
 | pend hp _ ih=>exact .pend (hp.mono hg) ih
theorem eff_vis {gA g1:Gst}{o:Oper}{S:Nat->Bool}{rs:Place->Prop}(h:EffV P N rs gA o g1) (hrs:∀ p,rs p->gA p.root≠none):∀ (U:Acc),(∀ e∈U,∃ x,e.2.2=some x/\Stab rs gA g1 o x)->(∀ e∈U,gA e.2.1=none/\g1 e.2.1=none/\o.dst≠some e.2.1)->(U.map (·.2.1)).Nodup->EffV P N rs (visG gA S U) o (visG g1 S U)
 | [],_,_,_=>h
 | (k,d,r)::U,hx,h1,hnd=>by
  simp only [List.map_cons,List.nodup_cons] at hnd
  have ih:=eff_vis (S:=S) h hrs U (fun e he=>hx e (by simp [he])) (fun e he=>h1 e (by simp [he])) hnd.2
  obtain ⟨x,e,hst⟩:=hx (k,d,r) (by simp)
  simp only at e
  subst e
  obtain ⟨a1,a2,a3⟩:=h1 (k,d,some x) (by simp)
  simp only at a1 a2 a3
  have hout:∀ e∈U,e.2.1≠d:=fun e he h'=>hnd.1 (List.mem_map.2 ⟨e,he,h'⟩)
  cases hS:S k with
  | true =>
   have e:∀ g:Gst,visG g S ((k,d,some x)::U)=upd (visG g S U) d x:=fun g=>by
    funext t
    simp only [visG,upd,hS,if_true]
    by_cases hd:d=t
    ·rw [if_pos hd,if_pos hd.symm]
    ·rw [if_neg hd,if_neg (Ne.symm hd)]
   rw [e,e]
   have outr:∀ r,gA r≠none->∀ e∈U,e.2.1≠r:=fun r hr e he h'=>by
    have:=(h1 e (by simp [he])).1
    rw [h'] at this
    exact hr this
   have outr1:∀ r,g1 r≠none->∀ e∈U,e.2.1≠r:=fun r hr e he h'=>by
    have:=(h1 e (by simp [he])).2.1
    rw [h'] at this
    exact hr this
   refine ih.extra (fun r hr=>by rw [visG_out (outr r.root (hrs r hr))]; exact hrs r hr) (by rw [visG_out hout]; exact a1) (by rw [visG_out hout]; exact a2) a3 ?_
   rcases hst with ⟨r,path,z,n,N0,cs,rfl,b1,b2,b3,b4⟩ | ⟨v,rfl⟩ | ⟨s,p,m,rfl,b1,b2,b3⟩ | ⟨s,m,cs,rfl,b1,b2,b3,cs',b4,b5⟩ | ⟨z,n,cs,rfl,b1⟩ | ⟨cs,rfl,b1,b2⟩ | ⟨cs,rfl,b1⟩
   ·refine .inl ⟨r,path,z,n,N0,cs,rfl,b1,?_,?_,b4⟩
    ·have:gA r≠none:=hrs _ b1
     simpa [atP,visG_out (outr r this)] using b2
    ·have:g1 r≠none:=fun e=>by simp [atP,e] at b3
     simpa [atP,visG_out (outr1 r this)] using b3
   ·exact .inr (.inl ⟨v,rfl⟩)
   ·refine .inr (.inr (.inl ⟨s,p,m,rfl,?_,?_,b3⟩))
    ·rw [visG_out]; exact b1
     intro e he h'
     have:=(h1 e (by simp [he])).1
     rw [h',b1] at this; cases this
    ·rw [visG_out]; exact b2
     intro e he h'
     have:=(h1 e (by simp [he])).2.1
     rw [h',b2] at this; cases this
   ·refine .inr (.inr (.inr (.inl ⟨s,m,cs,rfl,?_,b2,b3,cs',?_,b5⟩)))
    ·rw [visG_out]; exact b1
     intro e he h'
     have:=(h1 e (by simp [he])).2.1
     rw [h',b1] at this; cases this
    ·rw [visG_out (outr s (by rw [b4]; simp))]; exact b4
   ·exact .inr (.inr (.inr (.inr (.inl ⟨z,n,cs,rfl,b1⟩))))
   ·refine .inr (.inr (.inr (.inr (.inr (.inl ⟨cs,rfl,b1,?_⟩)))))
    have hle:∀ t y,gA t=some y->visG gA S U t=some y:=fun t y hy=>by rw [visG_out (outr t (by rw [hy]; simp))]; exact hy
    refine ⟨fun t y hy=>?_,fun t z q n m new hy=>?_⟩
    ·rcases visG_some hy with ⟨e',he',_,_,hey⟩ | ⟨_,hy⟩
     ·obtain ⟨y',ey,hst'⟩:=hx e' (by simp [he'])
      rw [hey] at ey; cases ey
      rcases hst' with ⟨r,path,z,n,N0,cs,rfl,c1,c2,c3,c4⟩ | ⟨v,rfl⟩ | ⟨s,p,m,rfl,c1,_⟩ | ⟨s,m,cs,rfl,_,_,_,cs',c4,c5⟩ | ⟨z,n,cs,rfl,c1⟩ | ⟨cs,rfl,c1,_⟩ | ⟨cs,rfl,c1⟩
      ·exact .ref rfl (.inl ⟨N0,cs,atP_mono hle c2,c4⟩)
      ·exact .nr .lit
      ·exact RK.mono hle (b2.rk s _ c1)
      ·exact .ref rfl ⟨.obj cs',by simp [atP,hle s _ c4,AV.at],0,0,cs',.inr rfl,c5⟩
      ·exact .nr c1
      ·exact .nr c1.nr
      ·exact .nr c1
     ·exact RK.mono hle (b2.rk t y hy)
    ·rcases visG_some hy with ⟨e',he',_,_,hey⟩ | ⟨_,hy⟩
     ·obtain ⟨y',ey,hst'⟩:=hx e' (by simp [he'])
      rw [hey] at ey; cases ey
      rcases hst' with ⟨r,path,z,n,N0,cs,h,_⟩ | ⟨v,h⟩ | ⟨s,p,m,h,_⟩ | ⟨s,m,cs,h,_⟩ | ⟨z,n,cs,h,_⟩ | ⟨cs,h,_⟩ | ⟨cs,h,_⟩ <;> cases h
     ·exact b2.np _ _ _ _ _ _ hy
   ·exact .inr (.inr (.inr (.inr (.inr (.inr ⟨cs,rfl,b1⟩)))))
  | false =>
   have e:∀ g:Gst,g d=none->visG g S ((k,d,some x)::U)=visG g S U:=fun g hg=>by
    funext t
    simp only [visG,hS]
    by_cases hd:d=t
    ·subst hd; rw [if_pos rfl,visG_out hout,hg]; rfl
    ·rw [if_neg hd]
   rw [e gA a1,e g1 a2]
   exact ih
theorem pure_step (hA:ancOk ops AT=true) {g0:Gst}{i j:Nat}{acc U0:Acc}(hs:Seg P N ops AT g0 i U0 j acc) (hP:PendOk P N ops AT g0 i U0) (hpd:(acc.filterMap pendPlace).Nodup) (hp0:∀ t z q n m new,g0 t≠some (.pend z q n m new)) {listed:Array Bool}(hsz:listed.size=ops.size) (hd:Down AT listed)
  {a:Act}{w:World}{I:BSet}{Fs:Nat->BSet}(hS:SR w I a.tmps (visG g0 (Lst listed) acc) Fs) (hN:a.tmps.size=N.size) {e:Nat × Nat × Option AV}(he:e∈acc) (hk:e.1∈Region.ready .any ops listed) {K:Act->World->Prop}{Q:Exit->Act->World->Prop}
  (hK:∀ a' w' I' Fs',a'.defers=a.defers->Hold N a.tmps a'.tmps->SR w' I' a'.tmps (visG g0 (Lst (listed.setIfInBounds e.1 true)) acc) Fs'->St w I (fun c=>∃ t,Fs t c) w' I' (fun c=>∃ t,Fs' t c)->K a' w'):wpOp P ops Q e.1 K a w:=by
 obtain ⟨hkl,oo,hoo,_⟩:=ready_spec hk
 have hks:=(Array.getElem?_eq_some_iff.1 hoo).1
 have hanc:=ready_anc hA hd hk
 obtain ⟨o,acc0,ho,hod,hdN,hst,hsub⟩:=hs.get hP e he
 obtain ⟨k,d,r⟩:=e
 simp only at *
 have hle:Le (visG g0 (fun m=>(AT.getD k []).contains m) acc0) (visG g0 (Lst listed) acc):=by
  intro t x hx
  rcases visG_some hx with ⟨e,he,rfl,hAe,hex⟩ | ⟨hout,hg⟩
  ·rw [hs.at_mem hP (hsub e he),hanc e.1 (by simpa using hAe)]
   exact hex
  ·rw [visG_out fun e he hed=>?_]
   ·exact hg
   ·have:=hs.fresh hP e he
    rw [hed,hg] at this; cases this
 have hno:∀ z p n m new,r=some (.pend z p n m new)->∀ t z' n' m' new',visG g0 (Lst listed) acc t≠some (.pend z' p n' m' new'):=by
  intro z p n m new hr t z' n' m' new' ht
  rcases visG_some ht with ⟨e,he',_,hAe,hex⟩ | ⟨_,hg⟩
  ·obtain ⟨k',d',r'⟩:=e
   have:=pend_uniq hpd (p:=p) he he' (by rw [hr]; rfl) (by simp only at hex; rw [hex]; rfl)
   cases this
   rw [hkl] at hAe; cases hAe
  ·exact hp0 _ _ _ _ _ _ hg
 have hst':=hst.mono hle hno
 have hgd:visG g0 (Lst listed) acc d=none:=by
  have:=hs.at_mem hP (A:=Lst listed) he
  simpa [hkl] using this
 unfold wpOp
 simp only [ho]
 refine hst'.sound hS rfl hN hod hgd hdN fun a' w' hn=>?_
 obtain ⟨e1,e2,I',Fs',hS',hst2⟩:=hn
 have hL:∀ j,Lst (listed.setIfInBounds k true) j=if j=k then true else Lst listed j:=fun j=>Lst_set (by omega)
 have hG:visG g0 (Lst (listed.setIfInBounds k true)) acc=putR (visG g0 (Lst listed) acc) d r:=by
  funext t
  by_cases htd:t=d
  ·subst htd
   have h1:=hs.at_mem hP (A:=Lst (listed.setIfInBounds k true)) he
   simp only [hL k,if_true] at h1
   rw [h1]
   cases r with
   | none=>simp only [putR]; exact hgd.symm
   | some x=>simp [putR,upd]
  ·have h1:visG g0 (Lst (listed.setIfInBounds k true)) acc t=visG g0 (Lst listed) acc t:=visG_congr fun e he' het=>by
    rw [hL e.1,if_neg]
    intro hek
    have:=hs.uniq hP he' he (.inl hek)
    rw [this] at het
    exact htd het.symm
   rw [h1]
   cases r with
   | none=>rfl
   | some x=>simp [putR,upd,htd]
 exact hK a' w' I' Fs' e1 e2 (by rw [hG]; exact hS') hst2
theorem down_set (hA:ancOk ops AT=true) {listed:Array Bool}(hsz:listed.size=ops.size) (hd:Down AT listed) {k:Nat}(hk:k∈Region.ready .any ops listed):Down AT (listed.setIfInBounds k true):=by
 obtain ⟨hkl,oo,hoo,_⟩:=ready_spec hk
 have hks:=(Array.getElem?_eq_some_iff.1 hoo).1
 have hanc:=ready_anc hA hd hk
 have hL:∀ q,Lst (listed.setIfInBounds k true) q=if q=k then true else Lst listed q:=fun q=>Lst_set (by omega)
 intro m hm q hq
 rw [hL] at hm ⊢
 split
 ·rfl
 ·split at hm
  ·rename_i hmk; subst hmk; exact hanc q hq
  ·exact hd m hm q hq
theorem Seg.entry {g0:Gst}{i j:Nat}{acc U0:Acc}(hs:Seg P N ops AT g0 i U0 j acc) {listed:Array Bool}(hlt:∀ k,k<i->(∀ e∈U0,e.1≠k)->Lst listed k=true) {k:Nat}(hkj:k<j) (hkl:Lst listed k=false):∃ e∈acc,e.1=k:=by
 rcases Nat.lt_or_ge k i with h | h
 ·rcases Classical.em (∃ e∈U0,e.1=k) with ⟨e,he,h'⟩ | h'
  ·exact ⟨e,hs.sub0 e he,h'⟩
  ·have:=hlt k h fun e he hek=>h' ⟨e,he,hek⟩
   rw [hkl] at this; cases this
 ·exact hs.has k h hkj
theorem DRun.sound (hA:ancOk ops AT=true) {i:Nat}{U0:Acc}{g g':Gst}(h:DRun P N ops AT i U0 g g'):PendOk P N ops AT g i U0->∀ {Q:Exit->Act->World->Prop}(fuel:Nat) (listed:Array Bool) (a:Act) (w:World) (I:BSet) (Fs:Nat->BSet),cnt ops listed<=fuel->listed.size=ops.size->(∀ k,k<i->(∀ e∈U0,e.1≠k)->Lst listed k=true)->(∀ k,i<=k->Lst listed k=false)->Down AT listed ->
  SR w I a.tmps (visG g (Lst listed) U0) Fs->a.tmps.size=N.size->(∀ a' w',Next' N a w I Fs g' a' w'->Q .normal a' w')->wpAny P .any ops Q fuel listed a w:=by
 have start:∀ {g:Gst}{i j:Nat}{acc U0:Acc}{listed:Array Bool},Seg P N ops AT g i U0 j acc->PendOk P N ops AT g i U0->(∀ k,i<=k->Lst listed k=false)->visG g (Lst listed) acc=visG g (Lst listed) U0:=by
  intro g i j acc U0 listed hs hP hge
  funext t
  by_cases hex:∃ e∈acc,e.2.1=t
  ·obtain ⟨e,he,rfl⟩:=hex
   rw [hs.at_mem hP he]
   rcases hs.ge hP e he with h | h
   ·rw [vis_mem (fun x hx y hy h'=>hP.uq x hx y hy (.inr h')) h]
   ·rw [hge e.1 h]
    by_cases hex':∃ e'∈U0,e'.2.1=e.2.1
    ·obtain ⟨e',he',h'⟩:=hex'
     have:=hs.uniq hP (hs.sub0 e' he') he (.inr h')
     subst this
     have:=hP.lt e' he'; omega
    ·rw [visG_out fun e' he' h'=>hex' ⟨e',he',h'⟩,hs.fresh hP e he]; rfl
  ·rw [visG_out fun e he h=>hex ⟨e,he,h⟩,visG_out fun e he h=>hex ⟨e,hs.sub0 e he,h⟩]
 induction h with
 | @fin i U0 g acc hs hpd hp0 =>
  intro hP Q fuel listed a w I Fs hc hsz hlt hge hd hS hN hQ
  rw [<- start hs hP hge] at hS
  clear hge
  revert listed a w I Fs
  induction fuel with
  | zero =>
   intro listed a w I Fs hc hsz hlt hd hS hN hQ
   have hall:∀ k,k<ops.size->Lst listed k=true:=fun k hk=>by
    cases hl:Lst listed k with
    | true=>rfl
    | false=>have:=cnt_set (ops:=ops) (listed:=listed) (k:=k) hk hl hsz; omega
   refine wpAny_done ?_ (hQ _ _ ⟨rfl,Hold.refl,I,Fs,?_,St.refl _ _ _⟩) 0
   ·cases hr:Region.ready .any ops listed with
    | nil=>rfl
    | cons k l =>
     have hk:k∈Region.ready .any ops listed:=by rw [hr]; simp
     obtain ⟨hkl,o,ho,_⟩:=ready_spec hk
     rw [hall k (Array.getElem?_eq_some_iff.1 ho).1] at hkl; cases hkl
   ·have:visG g (Lst listed) acc=visG g (fun _=>true) acc:=funext fun t=>visG_congr fun e he _=>hall e.1 ((hs.le hP).2 e he)
    rw [<- this]; exact hS
  | succ fuel ih =>
   intro listed a w I Fs hc hsz hlt hd hS hN hQ
   by_cases hall:∀ k,k<ops.size->Lst listed k=true
   ·refine wpAny_done ?_ (hQ _ _ ⟨rfl,Hold.refl,I,Fs,?_,St.refl _ _ _⟩) _
    ·cases hr:Region.ready .any ops listed with
     | nil=>rfl
     | cons k l =>
      have hk:k∈Region.ready .any ops listed:=by rw [hr]; simp
      obtain ⟨hkl,o,ho,_⟩:=ready_spec hk
      rw [hall k (Array.getElem?_eq_some_iff.1 ho).1] at hkl; cases hkl
    ·have:visG g (Lst listed) acc=visG g (fun _=>true) acc:=funext fun t=>visG_congr fun e he _=>hall e.1 ((hs.le hP).2 e he)
     rw [<- this]; exact hS
   ·obtain ⟨k0,hk0⟩:=Classical.not_forall.1 hall
    obtain ⟨hk0j,hk0l⟩:=Classical.not_imp.1 hk0
    refine ⟨fun hr=>absurd hr (ready_ex hA hsz k0 hk0j (by simpa using hk0l)),fun k hk=>?_⟩
    obtain ⟨hkl,oo,hoo,_⟩:=ready_spec hk
    have hks:=(Array.getElem?_eq_some_iff.1 hoo).1
    obtain ⟨e,he,rfl⟩:=hs.entry hlt hks hkl
    have hcnt:=cnt_set (ops:=ops) (listed:=listed) (k:=e.1) hks hkl hsz
    refine pure_step hA hs hP hpd hp0 hsz hd hS hN he hk fun a' w' I' Fs' e1 e2 hS' hst2=>?_
    refine ih _ a' w' I' Fs' (by omega) (by simpa using hsz) (fun m hm hne=>?_) (down_set hA hsz hd hk) hS' (e2.1.trans hN) fun a2 w2 h2=>hQ _ _ (Next'.trans e1 e2 hst2 h2)
    rw [Lst_set (by omega)]; split
    ·rfl
    ·exact hlt m hm hne
 | @bar i j g g1 g' U0 acc U o rs hs hpd hp0 ho hw he hrs hU hx h1 h2 hb _ ihr =>
  intro hP Q fuel listed a w I Fs hc hsz hlt hge hd hS hN hQ
  have hjs:j<ops.size:=(Array.getElem?_eq_some_iff.1 ho).1
  have hbj:∀ k,j<k->k<ops.size->j∈AT.getD k []:=fun k hk hks=>by
   have:=List.all_eq_true.1 hb k (List.mem_range.2 hks)
   simp only [Bool.or_eq_true,decide_eq_true_eq,List.contains_iff_mem] at this
   exact this.resolve_left (by omega)
  have hmemU:∀ e∈U,e∈acc/\(AT.getD j []).contains e.1=false:=fun e he=>by
   rw [hU] at he
   obtain ⟨q1,q2⟩:=List.mem_filter.1 he
   exact ⟨q1,by simpa using q2⟩
  have hnd:(U.map (·.2.1)).Nodup:=by
   rw [hU]; exact (List.filter_sublist.map _).nodup (hs.nodup hP)
  have hgA:∀ e∈U,visG g (fun m=>(AT.getD j []).contains m) acc e.2.1=none:=fun e he=>by
   rw [hs.at_mem hP (hmemU e he).1,(hmemU e he).2]; rfl
  have hP1:PendOk P N ops AT g1 (j+1) U:=⟨fun e he=>by have:=(hs.le hP).2 e (hmemU e he).1; omega,fun e he=>(h1 e he).1,hnd,fun e he e' he' h=>hs.uniq hP (hmemU e he).1 (hmemU e' he').1 h,h2⟩
  have hge':∀ k,j<=k->Lst listed k=false:=fun k hk=>hge k (Nat.le_trans (hs.le hP).1 hk)
  rw [<- start hs hP hge] at hS
  clear hge
  revert listed a w I Fs
  induction fuel with
  | zero =>
   intro listed a w I Fs hc hsz hlt hd hS hN hQ hge
   have:=cnt_set (ops:=ops) (listed:=listed) (k:=j) hjs (hge j (Nat.le_refl _)) hsz
   omega
  | succ fuel ihf =>
   intro listed a w I Fs hc hsz hlt hd hS hN hQ hge
   have hjl:=hge j (Nat.le_refl _)
   refine ⟨fun hr=>absurd hr (ready_ex hA hsz j hjs hjl),fun k hk=>?_⟩
   obtain ⟨hkl,oo,hoo,_⟩:=ready_spec hk
   have hks:=(Array.getElem?_eq_some_iff.1 hoo).1
   have hanc:=ready_anc hA hd hk
   have hL:∀ q,Lst (listed.setIfInBounds k true) q=if q=k then true else Lst listed q:=fun q=>Lst_set (by omega)
   have hcnt:=cnt_set (ops:=ops) (listed:=listed) (k:=k) (by omega) hkl hsz
   rcases Nat.lt_trichotomy k j with hkj | rfl | hkj
   ·obtain ⟨e,hee,rfl⟩:=hs.entry hlt hkj hkl
    refine pure_step hA hs hP hpd hp0 hsz hd hS hN hee hk fun a' w' I' Fs' e1 e2 hS' hst2=>?_
    refine ihf _ a' w' I' Fs' (by omega) (by simpa using hsz) (fun m hm hne=>?_) (down_set hA hsz hd hk) hS' (e2.1.trans hN) (fun a2 w2 h2=>hQ _ _ (Next'.trans e1 e2 hst2 h2)) fun m hm=>?_
    ·rw [hL]; split
     ·rfl
     ·exact hlt m hm hne
    ·rw [hL,if_neg (by omega)]; exact hge m hm
   ·have esp:=vis_split (A:=fun m=>(AT.getD k []).contains m) (S:=Lst listed) hs hP hU fun e he hA=>hanc e.1 (by simpa using hA)
    have hrsA:∀ r:Place,rs r->visG g (fun m=>(AT.getD k []).contains m) acc r.root≠none:=fun r hr=>by
     rw [visG_out]
     ·exact hrs r hr
     ·intro e he h'
      have:=hs.fresh hP e he
      rw [h'] at this
      exact hrs r hr this
    have heff:=eff_vis (S:=Lst listed) he hrsA U hx (fun e he=>⟨hgA e he,h1 e he⟩) hnd
    have hle:Le (visG g (fun m=>(AT.getD k []).contains m) acc) (visG g (Lst listed) acc):=by
     intro t x hx
     rcases visG_some hx with ⟨e,he,rfl,hAe,hex⟩ | ⟨hout,hg⟩
     ·rw [hs.at_mem hP he,hanc e.1 (by simpa using hAe)]; exact hex
     ·rw [visG_out hout]; exact hg
    unfold wpOp
    simp only [ho,(Wanted.mono hle hw).sound hS,if_true]
    refine .inl (heff w I a.tmps Fs (by rw [<- esp]; exact hS) a rfl hN _ _ fun a' w' hn _ _=>?_)
    obtain ⟨e1,e2,I',Fs',hS',hst2⟩:=hn
    refine ihr hP1 fuel (listed.setIfInBounds k true) a' w' I' Fs' (by omega) (by simpa using hsz) (fun m hm hne=>?_) (fun m hm=>?_) (down_set hA hsz hd hk) ?_ (e2.1.trans hN) fun a2 w2 h2=>hQ _ _ (Next'.trans e1 e2 hst2 h2)
    ·rw [hL]
     split
     ·rfl
     ·rename_i hmk
      cases hml:Lst listed m with
      | true=>rfl
      | false =>
       exfalso
       obtain ⟨e,hee,rfl⟩:=hs.entry hlt (show m<k by omega) hml
       by_cases hmA:e.1∈AT.getD k []
       ·rw [hanc e.1 hmA] at hml; cases hml
       ·exact hne e (by rw [hU]; exact List.mem_filter.2 ⟨hee,by simpa using hmA⟩) rfl
    ·rw [hL,if_neg (by omega)]; exact hge m (by omega)
    ·have:visG g1 (Lst (listed.setIfInBounds k true)) U=visG g1 (Lst listed) U:=funext fun t=>visG_congr fun e he _=>by
      rw [hL e.1,if_neg]
      have:=(hs.le hP).2 e (hmemU e he).1
      omega
     rw [this]; exact hS'
   ·have:=hanc j (hbj k hkj hks); rw [hjl] at this; cases this
end
end Go.Own
namespace Go.Own
open Go
set_option linter.unusedSectionVars false
variable [TB]
section
variable {P:Program}{N:Rm}
def Ev (P:Program) (N:Rm) (c:Code) (g:Gst) (e:Exit) (g':Gst):Prop :=
 ∀ ⦃Q:Exit->Act->World->Prop⦄ ⦃a:Act⦄ ⦃w:World⦄ ⦃I:BSet⦄ ⦃Fs:Nat->BSet⦄,SR w I a.tmps g Fs->a.tmps.size=N.size->(∀ a' w',Next' N a w I Fs g' a' w'->Q e a' w')->c.wp P Q a w
theorem Ev.skip {g:Gst}:Ev P N .skip g .normal g:=fun _ _ _ _ _ hS _ hQ=>wp_skip (hQ _ _ ⟨rfl,Hold.refl,_,_,hS,St.refl _ _ _⟩)
theorem Ev.ret {g:Gst}:Ev P N .ret g .ret g:=fun _ _ _ _ _ hS _ hQ=>wp_ret (hQ _ _ ⟨rfl,Hold.refl,_,_,hS,St.refl _ _ _⟩)
theorem Ev.exit {g:Gst}{id:Nat}:Ev P N (.exit id) g (.exit id) g:=fun _ _ _ _ _ hS _ hQ=>wp_exit (hQ _ _ ⟨rfl,Hold.refl,_,_,hS,St.refl _ _ _⟩)
theorem Ev.seq {x y:Code}{g g1 g':Gst}{e:Exit}(h1:Ev P N x g .normal g1) (h2:Ev P N y g1 e g'):Ev P N (.seq x y) g e g':=by
 intro Q a w I Fs hS hN hQ
 refine wp_seq (h1 hS hN fun a1 w1 hn=>?_)
 obtain ⟨e1,e2,I',Fs',hS',hst⟩:=hn
 exact h2 hS' (e2.1.trans hN) fun a2 w2 hn2=>hQ _ _ (Next'.trans e1 e2 hst hn2)
theorem Ev.cond {c:Operand}{x y:Code}{g g':Gst}{e:Exit}{b:Bool}(hc:opd g c=some (.lit (.bool b))) (h:Ev P N (if b then x else y) g e g'):Ev P N (.cond c x y) g e g':=by
 intro Q a w I Fs hS hN hQ
 exact wp_cond (t:=b) (opd_sound hS hc rfl).inv_lit.1 (h hS hN hQ)
theorem Ev.condT {c:Operand}{x y:Code}{g g':Gst}{e:Exit}(hc:opd g c=some (.lit (.bool true))) (h:Ev P N x g e g'):Ev P N (.cond c x y) g e g':=Ev.cond hc h
theorem Ev.condF {c:Operand}{x y:Code}{g g':Gst}{e:Exit}(hc:opd g c=some (.lit (.bool false))) (h:Ev P N y g e g'):Ev P N (.cond c x y) g e g':=Ev.cond hc h
theorem Ev.block {id:Nat}{c:Code}{g g':Gst}(h:Ev P N c g .normal g'):Ev P N (.block id c) g .normal g' :=
 fun _ _ _ _ _ hS hN hQ=>wp_block (h hS hN fun a1 w1 hn=>hQ a1 w1 hn)
def LoopWp (P:Program) (c:Code) (Q:Exit->Act->World->Prop) (a:Act) (w:World):Prop :=
 ∀ (b:Frame) (k:List Item) (cs:List Frame),∃ e a' w',Q e a' w'/\Arrives P (lone (b.at a (.code c::.inLoop c::k)) cs w) b k cs e a' w'
def EvL (P:Program) (N:Rm) (c:Code) (g:Gst) (e:Exit) (g':Gst):Prop :=
 ∀ ⦃Q:Exit->Act->World->Prop⦄ ⦃a:Act⦄ ⦃w:World⦄ ⦃I:BSet⦄ ⦃Fs:Nat->BSet⦄,SR w I a.tmps g Fs->a.tmps.size=N.size->(∀ a' w',Next' N a w I Fs g' a' w'->Q e a' w')->LoopWp P c Q a w
theorem loopWp_of {c:Code}{Q:Exit->Act->World->Prop}{a:Act}{w:World}(h:c.wp P (Exit.then (LoopWp P c Q) Q) a w):LoopWp P c Q a w:=by
 intro b k cs
 obtain ⟨e,a₁,w₁,hq,harr⟩:=h b (.inLoop c::k) cs
 cases e with
 | normal =>
  obtain ⟨e₂,a₂,w₂,hq₂,harr₂⟩:=hq b k cs
  exact ⟨e₂,a₂,w₂,hq₂,.of_steps (Steps.trans harr (.one step_inLoop)) harr₂⟩
 | exit id=>exact ⟨_,a₁,w₁,hq,.pass (x:=.inLoop c) rfl (fun _ _=>.inl (by simp)) harr⟩
 | goto l=>exact ⟨_,a₁,w₁,hq,.pass (x:=.inLoop c) rfl (fun _ _=>.inl (by simp)) harr⟩
 | ret=>exact ⟨_,a₁,w₁,hq,.pass (x:=.inLoop c) rfl (fun _ _=>.inl (by simp)) harr⟩
 | panic ch=>exact ⟨_,a₁,w₁,hq,.pass (x:=.inLoop c) rfl (fun _ _=>.inl (by simp)) harr⟩
 | outgrown=>exact ⟨_,a₁,w₁,hq,.pass (x:=.inLoop c) rfl (fun _ _=>.inl (by simp)) harr⟩
theorem Ev.loop {c:Code}{g g':Gst}{e:Exit}(h:EvL P N c g e g'):Ev P N (.loop c) g e g':=by
 intro Q a w I Fs hS hN hQ b k cs
 obtain ⟨e,a',w',hq,harr⟩:=h hS hN hQ b k cs
 exact ⟨e,a',w',hq,.of_steps (.one step_loop) harr⟩
theorem EvL.step {c:Code}{g g1 g':Gst}{e:Exit}(h1:Ev P N c g .normal g1) (h2:EvL P N c g1 e g'):EvL P N c g e g':=by
 intro Q a w I Fs hS hN hQ
 refine loopWp_of (h1 hS hN fun a1 w1 hn=>?_)
 obtain ⟨e1,e2,I',Fs',hS',hst⟩:=hn
 exact h2 hS' (e2.1.trans hN) fun a2 w2 hn2=>hQ _ _ (Next'.trans e1 e2 hst hn2)
theorem EvL.out {c:Code}{g g':Gst}{e:Exit}(h:Ev P N c g e g') (he:e≠.normal):EvL P N c g e g':=by
 intro Q a w I Fs hS hN hQ
 refine loopWp_of (h hS hN fun a1 w1 hn=>?_)
 cases e with
 | normal=>exact absurd rfl he
 | _=>exact hQ _ _ hn
theorem Ev.region {id:Nat}{ops:Array Oper}{g g':Gst}(h:Run P N ops (List.range ops.size) g g'):Ev P N (.region id ops false) g .normal g' :=
 fun _ _ _ _ _ hS hN hQ=>wp_region (h.sound hS hN hQ)
theorem Ev.draw {id:Nat}{ops:Array Oper}{AT:List (List Nat)}{g g':Gst}(hm:P.follows .mixedOrders=true) (hA:ancOk ops AT=true) (h:DRun P N ops AT 0 [] g g'):Ev P N (.region id ops true) g .normal g':=by
 intro Q a w I Fs hS hN hQ
 refine wp_region_any hm ?_
 have hS':SR w.drew I a.tmps g Fs:=hS.world (fun _ _ _=>rfl) (fun _ _=>rfl) (Nat.le_refl _)
 have hall:∀ k,Lst (Array.replicate ops.size false) k=false:=by
  intro k
  unfold Lst
  rcases Nat.lt_or_ge k ops.size with h | h
  ·simp [h]
  ·simp [Array.getElem?_eq_none (show (Array.replicate ops.size false).size<=k by simpa using h)]
 refine h.sound hA .nil ops.size (Array.replicate ops.size false) a w.drew I Fs ?_ (by simp) (fun k hk=>by omega) (fun k _=>hall k) (fun k hk=>by rw [hall] at hk; cases hk) hS' hN fun a' w' hn=>hQ _ _ ?_
 ·unfold cnt
  exact Nat.le_trans (List.length_filter_le _ _) (by simp)
 ·obtain ⟨e1,e2,I',Fs',hS2,hst⟩:=hn
  exact ⟨e1,e2,I',Fs',hS2,⟨⟨hst.fr.os,hst.fr.tape,hst.fr.output,hst.fr.size,hst.fr.block,hst.fr.fz,Nat.le_trans (Nat.le_succ _) hst.fr.dr⟩,hst.more,hst.new,hst.own⟩⟩
inductive WkV:AV->AV->Prop
 | refl {x:AV}:WkV x x
 | dead {x:AV}(h:OO x\/NR x):WkV x .dead
 | nilOwn {z:Nat}:WkV .nils (.own z 0 [])
 | nilImm {z:Nat}:WkV .nils (.imm z 0 [])
 | obj {cs cs':List AV}(hl:cs'.length=cs.length) (h:∀ (k:Nat) (x y:AV),cs[k]?=some x->cs'[k]?=some y->WkV x y):WkV (.obj cs) (.obj cs')
 | own {z n:Nat}{cs cs':List AV}(hl:cs'.length=cs.length) (h:∀ (k:Nat) (x y:AV),cs[k]?=some x->cs'[k]?=some y->WkV x y):WkV (.own z n cs) (.own z n cs')
theorem WkV.ns {x y:AV}{j:Nat × Nat}(h:WkV x y) (e:y=.self j):x=.self j:=by
 cases h <;> first | exact e | cases e
theorem R.wk {w:World}{I:BSet}{ρ:AV->Value->Prop}{x x':AV}(h:WkV x x'):∀ {v:Value}{F:BSet},R w I ρ x v F->∃ F',R w I ρ x' v F'/\∀ c,F' c->F c:=by
 induction h with
 | refl=>exact fun hR=>⟨_,hR,fun _ h=>h⟩
 | dead=>exact fun hR=>⟨E0,.dead fun _ h=>h,fun _ h=>h.elim⟩
 | nilOwn =>
  intro v F hR
  rw [hR.inv_nils]
  exact ⟨E0,.own (e:=0) (us:=[]) (Fs:=fun _=>E0) ⟨by simp,.inl ⟨rfl,rfl⟩⟩ rfl (by simp) (by simp) (fun _ _ _ _ _ h=>h.elim) (fun _ _ _ h=>h.elim) fun c=>⟨fun h=>h.elim,fun h=>h.elim (fun h=>by simp [Value.ownBlock] at h) fun ⟨_,_,h⟩=>h⟩,fun _ h=>h.elim⟩
 | nilImm=>intro v F hR; rw [hR.inv_nils]; exact ⟨E0,.imm0 fun _ h=>h,fun _ h=>h.elim⟩
 | @obj cs cs' hl hwk ih =>
  intro v F hR
  cases hR with
  | ref hx=>simp [AV.isRef] at hx
  | @obj _ b e arr Fk _ ho hl' h1 hr hd hb hF hs =>
   have:∀ k,∃ Fk':BSet,k<cs.length->(∀ (x:AV) (u:Value),cs'[k]?=some x->arr[k]?=some u->R w I ρ x u Fk')/\∀ c,Fk' c->Fk k c:=by
    intro k
    by_cases hk:k<cs.length
    ·have hx:=List.getElem?_eq_getElem hk
     have hy:cs'[k]?=some (cs'[k]'(by omega)):=List.getElem?_eq_getElem (by omega)
     have hu:arr[k]?=some (arr[k]'(by omega)):=Array.getElem?_eq_getElem (by omega)
     obtain ⟨F',h1,h2⟩:=ih k _ _ hx hy (hr k _ _ hx hu)
     refine ⟨F',fun _=>⟨fun x u hx' hu'=>?_,h2⟩⟩
     rw [hy] at hx'; rw [hu] at hu'
     cases hx'; cases hu'
     exact h1
    ·exact ⟨E0,fun h=>absurd h hk⟩
   obtain ⟨Fk',hFk'⟩:=Classical.axiomOfChoice this
   refine ⟨_,.obj (Fs:=Fk') ho (by omega) h1 (fun k x u hx hu=>(hFk' k (by rw [<- hl]; exact (List.getElem?_eq_some_iff.1 hx).1)).1 x u hx hu) (fun j k c hj hk h h'=>hd j k c (by omega) (by omega) ((hFk' j (by omega)).2 c h) ((hFk' k (by omega)).2 c h')) (fun k hk h=>hb k (by omega) ((hFk' k (by omega)).2 b h)) (fun c=>Iff.rfl) (fun k j u hk=>hs k j u (ns_each hl hwk (fun _ _ _=>WkV.ns) k j hk)),fun c hc=>?_⟩
   rcases hc with rfl | ⟨k,hk,h⟩
   ·exact (hF _).2 (.inl rfl)
   ·exact (hF c).2 (.inr ⟨k,by omega,(hFk' k (by omega)).2 c h⟩)
 | @own z n cs cs' hl _ ih =>
  intro v F hR
  cases hR with
  | ref hx=>simp [AV.isRef] at hx
  | @own _ _ _ _ e us Fk _ ho hl' h1 hr hd hb hF =>
   have:∀ k,∃ Fk':BSet,k<cs.length->(∀ (x:AV) (u:Value),cs'[k]?=some x->us[k]?=some u->R w I ρ x u Fk')/\∀ c,Fk' c->Fk k c:=by
    intro k
    by_cases hk:k<cs.length
    ·have hx:=List.getElem?_eq_getElem hk
     have hy:cs'[k]?=some (cs'[k]'(by omega)):=List.getElem?_eq_getElem (by omega)
     have hu:us[k]?=some (us[k]'(by omega)):=List.getElem?_eq_getElem (by omega)
     obtain ⟨F',h1,h2⟩:=ih k _ _ hx hy (hr k _ _ hx hu)
     refine ⟨F',fun _=>⟨fun x u hx' hu'=>?_,h2⟩⟩
     rw [hy] at hx'; rw [hu] at hu'
     cases hx'; cases hu'
     exact h1
    ·exact ⟨E0,fun h=>absurd h hk⟩
   obtain ⟨Fk',hFk'⟩:=Classical.axiomOfChoice this
   refine ⟨_,.own (Fs:=Fk') ho (by omega) h1 (fun k x u hx hu=>(hFk' k (by rw [<- hl]; exact (List.getElem?_eq_some_iff.1 hx).1)).1 x u hx hu) (fun j k c hj hk h h'=>hd j k c (by omega) (by omega) ((hFk' j (by omega)).2 c h) ((hFk' k (by omega)).2 c h')) (fun k c hk h=>hb k c (by omega) ((hFk' k (by omega)).2 c h)) (fun c=>Iff.rfl),fun c hc=>?_⟩
   rcases hc with hc | ⟨k,hk,h⟩
   ·exact (hF _).2 (.inl hc)
   ·exact (hF c).2 (.inr ⟨k,by omega,(hFk' k (by omega)).2 c h⟩)
structure Wk (g1 g2:Gst):Prop where
 sub:∀ t x,g2 t=some x->∃ y,g1 t=some y/\WkV y x
 rk:∀ t x,g2 t=some x->RK g2 x
 np:∀ t z q n m new,g2 t≠some (.pend z q n m new)
theorem SR.wk {w:World}{I:BSet}{T:Array Value}{g1 g2:Gst}{Fs:Nat->BSet}(h:SR w I T g1 Fs) (hk:Wk g1 g2):∃ Fs',SR w I T g2 Fs'/\∀ t c,Fs' t c->Fs t c:=by
 have:∀ t,∃ F':BSet,(∀ x,g2 t=some x->∃ v,T[t]?=some v/\R w I (RG w T g2) x v F')/\(∀ c,F' c->Fs t c)/\(g2 t=none->∀ c,¬ F' c):=by
  intro t
  cases hx:g2 t with
  | none=>exact ⟨E0,by simp,fun _ h=>h.elim,fun _ _ h=>h⟩
  | some x =>
   obtain ⟨y,hy,hw⟩:=hk.sub t x hx
   obtain ⟨v,hv,hR⟩:=h.toC.rel t y hy
   have hnp:∀ z q n m new,y≠.pend z q n m new:=by
    rintro z q n m new rfl
    cases hw with
    | refl=>exact hk.np _ _ _ _ _ _ hx
    | dead hh=>rcases hh with hh | hh <;> cases hh
   obtain ⟨F',hR',hF'⟩:=R.wk hw (hR.isTree hnp)
   exact ⟨F',fun x' hx'=>by cases hx'; exact ⟨v,hv,hR'.rk (hk.rk t x hx)⟩,hF',by simp⟩
 obtain ⟨Fs',hFs'⟩:=Classical.axiomOfChoice this
 refine ⟨Fs',⟨fun t x hx=>?_,fun t ht=>(hFs' t).2.2 ht,fun t t' c h1 h2=>h.dis _ _ _ ((hFs' t).2.1 c h1) ((hFs' t').2.1 c h2),fun t c hc=>h.imm _ _ ((hFs' t).2.1 c hc),h.lt,fun t t' z p n m new _ _ _ _ h1=>absurd h1 (hk.np _ _ _ _ _ _),h.tb⟩,fun t=>(hFs' t).2.1⟩
 obtain ⟨v,hv,hR⟩:=(hFs' t).1 x hx
 exact ⟨v,hv,.tree hR⟩
theorem Ev.weaken {c:Code}{g g1 g':Gst}{e:Exit}(hk:Wk g g1) (h:Ev P N c g1 e g'):Ev P N c g e g':=by
 intro Q a w I Fs hS hN hQ
 obtain ⟨Fs',hS',hsub⟩:=hS.wk hk
 exact h hS' hN fun a' w' hn=>hQ _ _ (Next'.trans rfl Hold.refl ⟨Fr.refl _ _,fun _ h=>h,fun _ h=>.inl h,fun c ⟨t,hc⟩=>.inl ⟨t,hsub t c hc⟩⟩ hn)
theorem EvL.weaken {c:Code}{g g1 g':Gst}{e:Exit}(hk:Wk g g1) (h:EvL P N c g1 e g'):EvL P N c g e g':=by
 intro Q a w I Fs hS hN hQ
 obtain ⟨Fs',hS',hsub⟩:=hS.wk hk
 exact h hS' hN fun a' w' hn=>hQ _ _ (Next'.trans rfl Hold.refl ⟨Fr.refl _ _,fun _ h=>h,fun _ h=>.inl h,fun c ⟨t,hc⟩=>.inl ⟨t,hsub t c hc⟩⟩ hn)
end
end Go.Own
namespace Go.Own
open Go
set_option linter.unusedSectionVars false
variable [TB]
inductive ResV (P:Program) (g:Gst):ResultVar->AV->Prop
 | tmp {t:Nat}{y:AV}(h:opd g (.tmp t)=some y):ResV P g (.tmp t) y
 | cell {a:Nat}{t ty:TypeId}{y:AV}(h:PS1 P g (.load t (.tmp a)) ty y):ResV P g (.cell a t) y
inductive ResVs (P:Program) (g:Gst):List ResultVar->List AV->Prop
 | nil:ResVs P g [] []
 | cons {r:ResultVar}{rs:List ResultVar}{y:AV}{ys:List AV}(h:ResV P g r y) (ht:ResVs P g rs ys):ResVs P g (r::rs) (y::ys)
def resAV:List AV->AV
 | [x]=>x
 | l=>.tup l
def resV:List Value->Value
 | [x]=>x
 | l=>.tuple l.toArray
def resSem (tmps:Array Value):ResultVar->Sem Value
 | .tmp t=>pure (tmps.getD t undef)
 | .cell a t=>do loadVar t (<- asAddr (tmps.getD a undef))
section
variable {P:Program}{w:World}{I:BSet}{g:Gst}{Fs:Nat->BSet}
theorem ResV.run {a:Act}(h:SR w I a.tmps g Fs) {r:ResultVar}{y:AV}(hr:ResV P g r y):∃ v,(resSem a.tmps r).run P w=.ok v w/\R w I (RG w a.tmps g) y v E0:=by
 cases hr with
 | @tmp t y h1=>exact ⟨_,rfl,opd_sound h h1 rfl⟩
 | @cell a0 t ty y h1 =>
  obtain ⟨v, hv, hR⟩ := PS1.sound h rfl (o := { dst := none, op := .load t (.tmp a0), type := ty, pos := "", after := #[], guard := none }) h1
  refine ⟨v,?_,hR⟩
  have he:a.eval (.tmp a0)=a.tmps.getD a0 undef:=rfl
  simp only [execOp,he] at hv
  cases hc:a.tmps.getD a0 undef with
  | pointer ad =>
   cases ad with
   | some ad =>
    rw [hc] at hv
    simp only [Instr.loadAt,Instr.sureAddr] at hv
    simp only [resSem,hc,asAddr]
    have hp:(pure ad >>= fun x=>loadVar t x:Sem Value)=loadVar t ad:=by simp
    rw [hp]
    revert hv
    generalize hq:loadVar t ad=q
    intro hv
    simp [hq] at hv
    cases hqr:q.run P w with
    | ok x w2=>rw [hqr] at hv; simp at hv; rw [hv.1,hv.2]
    | halt e w2=>rw [hqr] at hv; simp at hv
   | none=>rw [hc] at hv; simp [Instr.loadAt,Instr.sureAddr] at hv
  | _=>rw [hc] at hv; simp [Instr.loadAt,Instr.sureAddr] at hv
theorem run_mapM {f:ResultVar->Sem Value}:∀ (l:List ResultVar) (vs:List Value),l.length=vs.length->(∀ (k:Nat) (r:ResultVar) (v:Value),l[k]?=some r->vs[k]?=some v->(f r).run P w=.ok v w)->(l.mapM f).run P w=.ok vs w
 | [],[],_,_=>rfl
 | r::l,v::vs,hl,h=>by
  have h0:=h 0 r v rfl rfl
  have h1:=run_mapM l vs (by simpa using hl) fun k r v hr hv=>h (k+1) r v (by simpa using hr) (by simpa using hv)
  simp [List.mapM_cons,h0,h1]
 | [],_::_,hl,_=>by simp at hl
 | _::_,[],hl,_=>by simp at hl
theorem run_results {fn:Func}{tmps:Array Value}{vs:List Value}(hl:fn.results.toList.length=vs.length) (h:∀ (k:Nat) (r:ResultVar) (v:Value),fn.results.toList[k]?=some r->vs[k]?=some v->(resSem tmps r).run P w=.ok v w):(results fn tmps).run P w=.ok (resV vs) w:=by
 have h1:=run_mapM fn.results.toList vs hl h
 have h2:fn.results.mapM (resSem tmps)=List.toArray <$> fn.results.toList.mapM (resSem tmps):=Array.mapM_eq_mapM_toList
 have h3:(fn.results.mapM (resSem tmps)).run P w=.ok vs.toArray w:=by rw [h2]; simp [h1]
 have h4:results fn tmps=(do let vs <- fn.results.mapM (resSem tmps); pure (if h:vs.size=1 then vs[0] else .tuple vs)):=by
  unfold results
  congr 1
 rw [h4]
 simp only [Sem.run_bind,h3]
 match vs with
 | []=>rfl
 | [x]=>rfl
 | x::y::l=>simp [resV]
theorem ResVs.length {g:Gst}{rs:List ResultVar}{ys:List AV}(h:ResVs P g rs ys):rs.length=ys.length:=by
 induction h with
 | nil=>rfl
 | cons _ _ ih=>simp [ih]
theorem ResVs.run {a:Act}(h:SR w I a.tmps g Fs) {rs:List ResultVar}{ys:List AV}(hr:ResVs P g rs ys):∃ vs:List Value,rs.length=vs.length/\(∀ (k:Nat) (r:ResultVar) (v:Value),rs[k]?=some r->vs[k]?=some v->(resSem a.tmps r).run P w=.ok v w) /\
  ∀ (k:Nat) (y:AV) (v:Value),ys[k]?=some y->vs[k]?=some v->R w I (RG w a.tmps g) y v E0:=by
 induction hr with
 | nil=>exact ⟨[],rfl,by simp,by simp⟩
 | cons h1 _ ih =>
  obtain ⟨v,hv,hR⟩:=h1.run h
  obtain ⟨vs,hl,h2,h3⟩:=ih
  refine ⟨v::vs,by simp [hl],fun k r u hr hu=>?_,fun k y u hy hu=>?_⟩
  ·cases k with
   | zero=>simp at hr hu; subst hr hu; exact hv
   | succ k=>exact h2 k r u (by simpa using hr) (by simpa using hu)
  ·cases k with
   | zero=>simp at hy hu; subst hy hu; exact hR
   | succ k=>exact h3 k y u (by simpa using hy) (by simpa using hu)
theorem Hand.resAV {ρ:AV->Value->Prop}{Fs:Nat->BSet}{xs:List AV}{vs:List Value}{Hs:Nat->BSet}(h:Hand w I ρ Fs xs vs Hs) (hn:∀ x∈xs,NR x) (ρ':AV->Value->Prop):R w I ρ' (resAV xs) (resV vs) (fun c=>∃ k,k<xs.length/\Hs k c)/\NR (resAV xs):=by
 have tup:R w I ρ' (.tup xs) (.tuple vs.toArray) (fun c=>∃ k,k<xs.length/\Hs k c) :=
  .tup (by simpa using h.len) (fun k x u hx hu=>(h.rel k x u hx (by simpa using hu)).nr (hn x (List.mem_of_getElem? hx))) h.dis fun c=>Iff.rfl
 match xs,vs,h,hn,tup with
 | [],[],_,_,tup=>exact ⟨tup,.tup (by simp)⟩
 | [x],[v],h,hn,_ =>
  refine ⟨((h.rel 0 x v rfl rfl).nr (hn x (by simp))).congrF fun c=>⟨fun hc=>⟨0,by simp,hc⟩,fun ⟨k,hk,hc⟩=>?_⟩,hn x (by simp)⟩
  have:k=0:=by simpa using hk
  subst this; exact hc
 | x::y::l,v::u::m,_,hn,tup=>exact ⟨tup,.tup hn⟩
 | [],_::_,h,_,_=>have:=h.len; simp at this
 | _::_,[],h,_,_=>have:=h.len; simp at this
 | [_],_::_::_,h,_,_=>have:=h.len; simp at this
 | _::_::_,[_],h,_,_=>have:=h.len; simp at this
structure Leaves (P:Program) (N:Rm) (rs:List ResultVar) (g':Gst) (n:Nat) (outs:List (Option AV)) (res:AV):Prop where
 ex:∃ ys xs g1,ResVs P g' rs ys/\Take g' ys xs g1/\res=resAV xs/\∀ (k:Nat) (x:AV),outs[k]?=some (some x)->g1 k=some x/\NR x/\k∈N.pins
 len:outs.length=n
theorem SR.more {T:Array Value}(h:SR w I T g Fs) {T':Array Value}(hT:∀ t,g t≠none->T'[t]?=T[t]?):SR w I T' g Fs:=by
 refine ⟨fun t x hx=>?_,h.non,h.dis,h.imm,h.lt,h.pok,h.tb⟩
 obtain ⟨u,hu,hR⟩:=h.rel t x hx
 exact ⟨u,by rw [hT t (by rw [hx]; simp)]; exact hu,h.frameT hT (fun _ _ _=>rfl) (fun _ _=>rfl) (fun _ h=>h) (fun _ _ h=>h) hR fun _ _=>rfl⟩
end
end Go.Own
namespace Go.Own
open Go
set_option linter.unusedSectionVars false
variable [TB]
section
variable {P:Program}{N:Rm}
def W (P:Program) (N:Rm) (c:Code) (g:Gst) (Φ:Exit->Gst->Prop):Prop :=
 ∀ ⦃Q:Exit->Act->World->Prop⦄ ⦃a:Act⦄ ⦃w:World⦄ ⦃I:BSet⦄ ⦃Fs:Nat->BSet⦄,SR w I a.tmps g Fs->a.tmps.size=N.size->(∀ e g' a' w',Φ e g'->Next' N a w I Fs g' a' w'->Q e a' w')->c.wp P Q a w
def thenP (Ψ:Gst->Prop) (Φ:Exit->Gst->Prop):Exit->Gst->Prop
 | .normal,g=>Ψ g
 | e,g=>Φ e g
def inB (id:Nat) (Φ:Exit->Gst->Prop):Exit->Gst->Prop
 | .exit k,g=>if k=id then Φ .normal g else Φ (.exit k) g
 | e,g=>Φ e g
theorem Next'.refl {a:Act}{w:World}{I:BSet}{g:Gst}{Fs:Nat->BSet}(h:SR w I a.tmps g Fs):Next' N a w I Fs g a w:=⟨rfl,Hold.refl,_,_,h,St.refl _ _ _⟩
theorem Ev.w {c:Code}{g g':Gst}{e:Exit}{Φ:Exit->Gst->Prop}(h:Ev P N c g e g') (hΦ:Φ e g'):W P N c g Φ :=
 fun _ _ _ _ _ hS hN hQ=>h hS hN fun a' w' hn=>hQ _ _ a' w' hΦ hn
theorem W.mono {c:Code}{g:Gst}{Φ Φ':Exit->Gst->Prop}(h:W P N c g Φ) (hΦ:∀ e g',Φ e g'->Φ' e g'):W P N c g Φ' :=
 fun _ _ _ _ _ hS hN hQ=>h hS hN fun _ _ a' w' h1 hn=>hQ _ _ a' w' (hΦ _ _ h1) hn
theorem W.skip {g:Gst}{Φ:Exit->Gst->Prop}(h:Φ .normal g):W P N .skip g Φ:=Ev.skip.w h
theorem W.ret {g:Gst}{Φ:Exit->Gst->Prop}(h:Φ .ret g):W P N .ret g Φ:=Ev.ret.w h
theorem W.exit {g:Gst}{id:Nat}{Φ:Exit->Gst->Prop}(h:Φ (.exit id) g):W P N (.exit id) g Φ:=Ev.exit.w h
theorem W.seq {x y:Code}{g:Gst}{Φ:Exit->Gst->Prop}(h:W P N x g (thenP (fun g1=>W P N y g1 Φ) Φ)):W P N (.seq x y) g Φ:=by
 intro Q a w I Fs hS hN hQ
 refine wp_seq (h hS hN fun e g1 a1 w1 h1 hn=>?_)
 cases e with
 | normal =>
  obtain ⟨e1,e2,I',Fs',hS',hst⟩:=hn
  exact h1 hS' (e2.1.trans hN) fun e2' g2 a2 w2 h2 hn2=>hQ _ _ _ _ h2 (Next'.trans e1 e2 hst hn2)
 | _=>exact hQ _ _ _ _ h1 hn
theorem W.cond {c:Operand}{x y:Code}{g:Gst}{Φ:Exit->Gst->Prop}{b:Bool}(hc:opd g c=some (.lit (.bool b))) (h:W P N (if b then x else y) g Φ):W P N (.cond c x y) g Φ :=
 fun _ _ _ _ _ hS hN hQ=>wp_cond (t:=b) (opd_sound hS hc rfl).inv_lit.1 (h hS hN hQ)
theorem W.condT {c:Operand}{x y:Code}{g:Gst}{Φ:Exit->Gst->Prop}(hc:opd g c=some (.lit (.bool true))) (h:W P N x g Φ):W P N (.cond c x y) g Φ:=W.cond hc h
theorem W.condF {c:Operand}{x y:Code}{g:Gst}{Φ:Exit->Gst->Prop}(hc:opd g c=some (.lit (.bool false))) (h:W P N y g Φ):W P N (.cond c x y) g Φ:=W.cond hc h
theorem W.block {id:Nat}{c:Code}{g:Gst}{Φ:Exit->Gst->Prop}(h:W P N c g (inB id Φ)):W P N (.block id c) g Φ:=by
 intro Q a w I Fs hS hN hQ
 refine wp_block (h hS hN fun e g1 a1 w1 h1 hn=>?_)
 cases e with
 | exit k =>
  have h2:if k=id then Φ .normal g1 else Φ (.exit k) g1:=h1
  simp only [Exit.inBlock]
  by_cases hk:k=id
  ·rw [if_pos hk] at h2 ⊢
   exact hQ _ _ _ _ h2 hn
  ·rw [if_neg hk] at h2 ⊢
   exact hQ _ _ _ _ h2 hn
 | _=>exact hQ _ _ _ _ h1 hn
def WL (P:Program) (N:Rm) (c:Code) (g:Gst) (Φ:Exit->Gst->Prop):Prop :=
 ∀ ⦃Q:Exit->Act->World->Prop⦄ ⦃a:Act⦄ ⦃w:World⦄ ⦃I:BSet⦄ ⦃Fs:Nat->BSet⦄,SR w I a.tmps g Fs->a.tmps.size=N.size->(∀ e g' a' w',Φ e g'->Next' N a w I Fs g' a' w'->Q e a' w')->LoopWp P c Q a w
theorem W.loop {c:Code}{g:Gst}{Φ:Exit->Gst->Prop}(h:WL P N c g Φ):W P N (.loop c) g Φ:=by
 intro Q a w I Fs hS hN hQ b k cs
 obtain ⟨e,a',w',hq,harr⟩:=h hS hN hQ b k cs
 exact ⟨e,a',w',hq,.of_steps (.one step_loop) harr⟩
theorem WL.step {c:Code}{g:Gst}{Φ:Exit->Gst->Prop}(h:W P N c g (thenP (fun g1=>WL P N c g1 Φ) Φ)):WL P N c g Φ:=by
 intro Q a w I Fs hS hN hQ
 refine loopWp_of (h hS hN fun e g1 a1 w1 h1 hn=>?_)
 cases e with
 | normal =>
  obtain ⟨e1,e2,I',Fs',hS',hst⟩:=hn
  exact h1 hS' (e2.1.trans hN) fun e2' g2 a2 w2 h2 hn2=>hQ _ _ _ _ h2 (Next'.trans e1 e2 hst hn2)
 | _=>exact hQ _ _ _ _ h1 hn
theorem W.weaken {c:Code}{g g1:Gst}{Φ:Exit->Gst->Prop}(hk:Wk g g1) (h:W P N c g1 Φ):W P N c g Φ:=by
 intro Q a w I Fs hS hN hQ
 obtain ⟨Fs',hS',hsub⟩:=hS.wk hk
 exact h hS' hN fun e g' a' w' h1 hn=>hQ _ _ _ _ h1 (Next'.trans rfl Hold.refl ⟨Fr.refl _ _,fun _ h=>h,fun _ h=>.inl h,fun c ⟨t,hc⟩=>.inl ⟨t,hsub t c hc⟩⟩ hn)
theorem WL.weaken {c:Code}{g g1:Gst}{Φ:Exit->Gst->Prop}(hk:Wk g g1) (h:WL P N c g1 Φ):WL P N c g Φ:=by
 intro Q a w I Fs hS hN hQ
 obtain ⟨Fs',hS',hsub⟩:=hS.wk hk
 exact h hS' hN fun e g' a' w' h1 hn=>hQ _ _ _ _ h1 (Next'.trans rfl Hold.refl ⟨Fr.refl _ _,fun _ h=>h,fun _ h=>.inl h,fun c ⟨t,hc⟩=>.inl ⟨t,hsub t c hc⟩⟩ hn)
theorem W.out {c:Code}{g:Gst}{Φ Φ':Exit->Gst->Prop}(h:W P N c g Φ) (hΦ:∀ e g',Φ e g'->∃ g2,Wk g' g2/\Φ' e g2):W P N c g Φ':=by
 intro Q a w I Fs hS hN hQ
 refine h hS hN fun e g' a' w' h1 hn=>?_
 obtain ⟨g2,hk,h2⟩:=hΦ e g' h1
 obtain ⟨e1,e2,I',Fs',hS',hst⟩:=hn
 obtain ⟨Fs2,hS2,hsub⟩:=hS'.wk hk
 exact hQ _ _ _ _ h2 ⟨e1,e2,I',Fs2,hS2,hst.trans ⟨Fr.refl _ _,fun _ h=>h,fun _ h=>.inl h,fun c ⟨t,hc⟩=>.inl ⟨t,hsub t c hc⟩⟩⟩
def RunK (P:Program) (N:Rm) (ops:Array Oper) (is:List Nat) (g:Gst) (K:Gst->Prop):Prop:=∃ g',Run P N ops is g g'/\K g'
theorem W.region {id:Nat}{ops:Array Oper}{g:Gst}{Φ:Exit->Gst->Prop}(h:RunK P N ops (List.range ops.size) g (Φ .normal)):W P N (.region id ops false) g Φ:=by
 obtain ⟨g',hr,hΦ⟩:=h
 exact (Ev.region hr).w hΦ
theorem Con.of_w {f:FuncId}{fn:Func}{c:Code}{args:List AV}{outs:List (Option AV)}{res:AV}{N:Rm}(hf:P.funcs[f]?=some fn) (hb:fn.body=some c) (hN:fn.ntmps=N.size) (ha:args.length<=N.size)
  (hlen:outs.length=args.length) (hw:W P N c (argG args) fun e g'=>(e=.normal\/e=.ret)/\Leaves P N fn.results.toList g' args.length outs res):Con P f args outs res:=by
 refine ⟨hlen,fun w I vs Fs hvl hS=>calls_of_wp hf hb ?_⟩
 have hsz:({ tmps:=vs.toArray++Array.replicate (fn.ntmps - vs.toArray.size) undef,defers:=[] }:Act).tmps.size=N.size:=by
  simp; omega
 have hget:∀ t,t<vs.length->(vs.toArray++Array.replicate (fn.ntmps - vs.toArray.size) undef)[t]?=vs.toArray[t]?:=by
  intro t ht
  rw [Array.getElem?_append_left (by simpa using ht)]
 refine hw (hS.more (T':=vs.toArray++Array.replicate (fn.ntmps - vs.toArray.size) undef) fun t ht=>hget t ?_) hsz fun e g' a' w' ⟨he,ho⟩ hn=>?_
 ·unfold argG at ht
  rw [hvl]
  rcases Nat.lt_or_ge t args.length with h | h
  ·exact h
  ·exact absurd (List.getElem?_eq_none h) ht
 obtain ⟨hd,hold,I',Fs',hS',hst⟩:=hn
 obtain ⟨ys,xs,g1,hrv,ht,rfl,hout⟩:=ho.ex
 obtain ⟨us,hul,hrun,hRu⟩:=hrv.run hS'
 have hyl:ys.length=us.length:=by rw [<- hrv.length,hul]
 obtain ⟨Fs1,Hs,hS1,hH1,hall⟩:=ht.sound hS'.toC (⟨hyl,fun k x u hx hu=>(hRu k x u hx hu).frame (fun _ _=>rfl) (fun _ h=>h) (fun _ _ h=>h.1) fun _ _=>rfl,fun _ _ _ _ _ h=>h.elim,fun _ _ _ _ h=>h.elim,fun _ _ _ h=>h.elim⟩:Hand w' I' (RefAt w' a'.tmps) Fs' ys us fun _=>E0)
 have hsub:∀ c,AllB Fs1 xs.length Hs c->∃ t,Fs' t c:=by
  intro c hc
  rcases hall c hc with h | ⟨_,_,h⟩
  ·exact h
  ·exact h.elim
 have hfin:∃ Fs2,SR w' I' (vs++[resV us]).toArray (outG outs (resAV xs)) Fs2/\∀ t c,Fs2 t c->∃ t,Fs' t c:=by
  classical
  refine ⟨fun t=>if t=outs.length then (fun c=>∃ k,k<xs.length/\Hs k c) else if ∃ x,outs[t]?=some (some x) then Fs1 t else E0,⟨fun t x hx=>?_,fun t ht' c hc=>?_,fun t t' c h1 h2=>?_,fun t c hc=>?_,hS'.lt,fun t t' z p n m new z' n' m' new' h1 h2=>?_,hS'.tb⟩,fun t c hc=>?_⟩
  ·unfold outG at hx
   by_cases h0:t=outs.length
   ·rw [if_pos h0] at hx
    cases hx
    subst h0
    refine ⟨resV us,?_,.tree ?_⟩
    ·rw [ho.len,<- hvl]; simp
    ·simpa using (hH1.resAV ht.nrOut _).1
   ·rw [if_neg h0] at hx
    have hx':outs[t]?=some (some x):=by
     cases hh:outs[t]? with
     | none=>rw [hh] at hx; cases hx
     | some y=>rw [hh] at hx; simpa using hx
    obtain ⟨h1,h2,h3⟩:=hout t x hx'
    have htl:t<vs.length:=by
     have:=(List.getElem?_eq_some_iff.1 hx').1
     rw [hvl,<- ho.len]; exact this
    obtain ⟨v,hv,hR⟩:=hS1.rel t x h1
    refine ⟨v,?_,?_⟩
    ·rw [hold.2 t h3] at hv
     simp only at hv
     rw [hget t htl] at hv
     simp only [List.getElem?_toArray] at hv ⊢
     rw [List.getElem?_append_left htl]; exact hv
    ·simp only [h0,if_false]
     rw [if_pos ⟨x,hx'⟩]
     exact .tree ((hR.isTree (by rintro z p n m new rfl; cases h2)).nr h2)
  ·unfold outG at ht'
   by_cases h0:t=outs.length
   ·rw [if_pos h0] at ht'; cases ht'
   ·rw [if_neg h0] at ht'
    simp only [h0,if_false] at hc
    rw [if_neg] at hc
    ·exact hc
    ·rintro ⟨x,hx⟩
     rw [hx] at ht'; cases ht'
  ·by_cases h0:t=outs.length <;> by_cases h0':t'=outs.length <;> simp only [h0,h0',if_true,if_false] at h1 h2
   ·rw [h0,h0']
   ·split at h2
    ·obtain ⟨k,hk,hc⟩:=h1
     exact absurd h2 (hH1.off k t' c hk hc)
    ·exact h2.elim
   ·split at h1
    ·obtain ⟨k,hk,hc⟩:=h2
     exact absurd h1 (hH1.off k t c hk hc)
    ·exact h1.elim
   ·split at h1
    ·split at h2
     ·exact hS1.dis _ _ _ h1 h2
     ·exact h2.elim
    ·exact h1.elim
  ·by_cases h0:t=outs.length <;> simp only [h0,if_true,if_false] at hc
   ·obtain ⟨k,hk,hc⟩:=hc
    exact hH1.imm k c hk hc
   ·split at hc
    ·exact hS1.imm _ _ hc
    ·exact hc.elim
  ·have key:∀ t x,outG outs (resAV xs) t=some x->NR x:=by
    intro t x hx
    unfold outG at hx
    split at hx
    ·cases hx; exact (hH1.resAV ht.nrOut (fun _ _=>False)).2
    ·cases hh:outs[t]? with
     | none=>rw [hh] at hx; cases hx
     | some y=>rw [hh] at hx; exact (hout t x (by rw [hh]; simpa using hx)).2.1
   have:=key t _ h1
   cases this
  ·by_cases h0:t=outs.length <;> simp only [h0,if_true,if_false] at hc
   ·obtain ⟨k,hk,hc⟩:=hc
    exact hsub c (.inr ⟨k,hk,hc⟩)
   ·split at hc
    ·exact hsub c (.inl ⟨t,hc⟩)
    ·exact hc.elim
 obtain ⟨Fs2,hS2,hsub2⟩:=hfin
 have hpost:a'.defers=[]/\∃ v,(results fn a'.tmps).run P w'=.ok v w'/\∃ v' I' Fs',Ending.returned v=.returned v'/\SR w' I' (vs++[v']).toArray (outG outs (resAV xs)) Fs'/\St w I (fun c=>∃ t,Fs t c) w' I' (fun c=>∃ t,Fs' t c) :=
  ⟨hd,resV us,run_results hul hrun,resV us,I',Fs2,rfl,hS2,hst.trans ⟨Fr.refl _ _,fun _ h=>h,fun _ h=>.inl h,fun c ⟨t,hc⟩=>.inl (hsub2 t c hc)⟩⟩
 rcases he with rfl | rfl <;> exact hpost
end
end Go.Own
namespace Go.Own
open Go
set_option linter.unusedSectionVars false
variable [TB]
def get:List (Nat × AV)->Gst
 | [],_=>none
 | (s,x)::l,t=>if t=s then some x else get l t
inductive Rd (g:Gst):Operand->AV->Prop
 | lit {t:Nat}{v:Value}(h:g t=some (.lit v)):Rd g (.tmp t) (.lit v)
 | k {v:Value}(h:ofConst v=.lit v):Rd g (.const v) (.lit v)
 | knil:Rd g (.const (.slice none 0 0)) .nils
 | kagg {v:Value}{cs:List AV}(h:ofConst v=.agg cs):Rd g (.const v) (.agg cs)
 | nils {t:Nat}(h:g t=some .nils):Rd g (.tmp t) .nils
 | imm {t z n:Nat}{cs:List AV}(h:g t=some (.imm z n cs)):Rd g (.tmp t) (.imm z n cs)
 | own {t z n:Nat}{cs:List AV}(h:g t=some (.own z n cs)):Rd g (.tmp t) (.brw z ⟨t,[]⟩ n)
 | obj {t:Nat}{c:AV}{cs:List AV}(h:g t=some (.obj (c::cs))):Rd g (.tmp t) (.ptr ⟨t,[]⟩ 0)
 | iptr {t:Nat}{cs:List AV}(h:g t=some (.iptr cs)):Rd g (.tmp t) (.iptr cs)
 | ptr {t k:Nat}{p:Place}(h:g t=some (.ptr p k)):Rd g (.tmp t) (.ptr p k)
 | brw {t z n:Nat}{p:Place}(h:g t=some (.brw z p n)):Rd g (.tmp t) (.brw z p n)
 | sub {t z lo n:Nat}{p:Place}(h:g t=some (.sub z p lo n)):Rd g (.tmp t) (.sub z p lo n)
 | pend {t z n m:Nat}{p:Place}{new:List AV}(h:g t=some (.pend z p n m new)):Rd g (.tmp t) (.brw z ⟨t,[]⟩ (n+m))
 | agg {t:Nat}{cs cs':List AV}(h:g t=some (.agg cs)) (hc:(cs.mapIdx fun i x=>refIn 1 (Place.push ⟨t,[]⟩ i) x)=cs'):Rd g (.tmp t) (.agg cs')
 | tup {t:Nat}{cs cs':List AV}(h:g t=some (.tup cs)) (hc:(cs.mapIdx fun i x=>refIn 1 (Place.push ⟨t,[]⟩ i) x)=cs'):Rd g (.tmp t) (.tup cs')
 | func {f:FuncId}:Rd g (.func f) (.clo (.func f) [] [])
 | clo {t:Nat}{fn:Fn}{cs:List AV}(h:g t=some (.clo fn [] cs)):Rd g (.tmp t) (.clo fn [] cs)
 | mp {t:Nat}{q:Array MapEntry->Nat->Prop}(h:g t=some (.mp q)):Rd g (.tmp t) (.mref ⟨t,[]⟩)
 | mref {t:Nat}{p:Place}(h:g t=some (.mref p)):Rd g (.tmp t) (.mref p)
 | imp {t:Nat}{q:Array MapEntry->Nat->Prop}(h:g t=some (.imp q)):Rd g (.tmp t) (.imp q)
theorem Rd.opd {g:Gst}{x:Operand}{y:AV}(h:Rd g x y):opd g x=some y:=by
 cases h with
 | agg h hc=>subst hc; simp [Own.opd,h,refTop,refIn]
 | tup h hc=>subst hc; simp [Own.opd,h,refTop,refIn]
 | k h=>simp [Own.opd,h]
 | knil=>rfl
 | kagg h=>simp [Own.opd,h]
 | func=>rfl
 | _ h=>simp [Own.opd,h,refTop,refIn]
section
variable {P:Program}{N:Rm}{ops:Array Oper}{g:Gst}{K:Gst->Prop}{l:List Oper}
def RunL (P:Program) (N:Rm) (ops:Array Oper) (l:List Oper) (g:Gst) (K:Gst->Prop):Prop:=∀ i,ops.toList.drop i=l->RunK P N ops (List.range' i l.length) g K
theorem W.reg {id:Nat}{l:List Oper}{g:Gst}{Φ:Exit->Gst->Prop}(h:RunL P N l.toArray l g (Φ .normal)):W P N (.region id l.toArray false) g Φ:=by
 refine W.region ?_
 have:=h 0 (by simp)
 rw [List.range_eq_range']
 simpa using this
theorem RunL.nil (h:K g):RunL P N ops [] g K:=fun _ _=>⟨g,.nil,h⟩
theorem drop_cons {i:Nat}{o:Oper}(h:ops.toList.drop i=o::l):ops[i]?=some o/\ops.toList.drop (i+1)=l:=by
 have h1:(ops.toList.drop i)[0]?=some o:=by rw [h]; rfl
 rw [List.getElem?_drop] at h1
 refine ⟨by simpa using h1,?_⟩
 rw [<- List.drop_drop,h]
 rfl
variable {d:Nat}{op:Op}{ty:TypeId}{pos:String}{after:Array Edge}{x:AV}
theorem RunL.stepS {r:Option AV}{o:Oper}(hd:o.dst=some d) (hN:N.ok d=true) (hf:g d=none) (hs:StepOk P g ops o r) (hk:RunL P N ops l (putR g d r) K):RunL P N ops (o::l) g K:=by
 intro i hi
 obtain ⟨h1,h2⟩:=drop_cons hi
 obtain ⟨g',hr,hK⟩:=hk (i+1) h2
 exact ⟨g',.step h1 hd hf hN hs hr,hK⟩
inductive Free (g:Gst) (d:Nat):Gst->Prop
 | new (h:g d=none):Free g d g
 | old {y:AV}(h:g d=some y) (hl:leaf y=true):Free g d (del g d)
inductive Gd (g:Gst) (ops:Array Oper):Option (Nat × Bool)->Prop
 | none:Gd g ops none
 | yes {j t:Nat}{b:Bool}(h:(ops[j]?).bind (·.dst)=some t) (hg:g t=some (.lit (.bool b))):Gd g ops (some (j,b))
variable {gd:Option (Nat × Bool)}{g1:Gst}
theorem Gd.del {y:AV}(h:Gd g ops gd) (hd:g d=some y) (hb:∀ b,y≠.lit (.bool b)):Wanted (del g d) ops ⟨some d,op,ty,pos,after,gd⟩ true:=by
 cases h with
 | none=>rfl
 | @yes j t b h hg =>
  have:t≠d:=by
   rintro rfl
   rw [hd] at hg; cases hg; exact hb _ rfl
  exact ⟨t,h,.inl ⟨b,by simp only [Own.del,if_neg this,hg],by simp⟩⟩
theorem Gd.wanted (h:Gd g ops gd):Wanted g ops ⟨some d,op,ty,pos,after,gd⟩ true:=by
 cases h with
 | none=>rfl
 | @yes j t b h hg=>exact ⟨t,h,.inl ⟨b,hg,by simp⟩⟩
theorem RunL.valQ (hp:PS P g op ty x) (hN:N.ok d=true) (hf:g d=none) (hw:Wanted g ops ⟨some d,op,ty,pos,after,gd⟩ true) (hk:RunL P N ops l (upd g d x) K):RunL P N ops (⟨some d,op,ty,pos,after,gd⟩::l) g K :=
 .stepS rfl hN hf (r:=some x) (.inl ⟨hw,.inl hp⟩) hk
theorem RunL.val (hp:PS1 P g op ty x) (hN:N.ok d=true) (hf:g d=none) (hg:Gd g ops gd) (hk:RunL P N ops l (upd g d x) K):RunL P N ops (⟨some d,op,ty,pos,after,gd⟩::l) g K :=
 .valQ (.p1 hp) hN hf hg.wanted hk
theorem RunL.valP (hp:PS P g op ty x) (hN:N.ok d=true) (hf:g d=none) (hg:Gd g ops gd) (hk:RunL P N ops l (upd g d x) K):RunL P N ops (⟨some d,op,ty,pos,after,gd⟩::l) g K :=
 .valQ hp hN hf hg.wanted hk
theorem RunL.call (hp:PC P g op x) (hN:N.ok d=true) (hf:g d=none) (hg:Gd g ops gd) (hk:RunL P N ops l (upd g d x) K):RunL P N ops (⟨some d,op,ty,pos,after,gd⟩::l) g K :=
 .stepS rfl hN hf (r:=some x) (.inl ⟨hg.wanted,.inr hp⟩) hk
theorem RunL.pass {j t':Nat}{b:Bool}(h:(ops[j]?).bind (·.dst)=some t') (hg:g t'=some (.lit (.bool (!b)))) (hN:N.ok d=true) (hf:g d=none) (hk:RunL P N ops l g K):RunL P N ops (⟨some d,op,ty,pos,after,some (j,b)⟩::l) g K :=
 .stepS rfl hN hf (r:=Option.none) ⟨t',h,.inl ⟨!b,hg,by cases b <;> rfl⟩⟩ hk
variable {ds:Option Nat}
theorem RunL.forget {g1:Gst}(hk:Keep g g1) (h:RunL P N ops l g1 K):RunL P N ops l g K:=by
 intro i hi
 obtain ⟨g',hr,hK⟩:=h i hi
 exact ⟨g',.forget hk hr,hK⟩
variable {a b:Operand}{t t2:TypeId}{k:IntKind}{m n:Int}
theorem PS1.add (hx:Rd g a (.lit (.int k m))) (hy:Rd g b (.lit (.int k n))):PS1 P g (.binOp .add t a b t2) ty (.lit (.int k (k.wrap (m+n)))) :=
 .bin hx.opd hy.opd rfl fun w=>by simp [eqGuard,binOp,Op.intArith]
theorem PS1.subt (hx:Rd g a (.lit (.int k m))) (hy:Rd g b (.lit (.int k n))):PS1 P g (.binOp .sub t a b t2) ty (.lit (.int k (k.wrap (m - n)))) :=
 .bin hx.opd hy.opd rfl fun w=>by simp [eqGuard,binOp,Op.intArith]
theorem bytes_ext {s u:ByteArray}(h:s.toList=u.toList):s=u:=by
 have h1:s.data.toList=u.data.toList:=by
  rw [<- ByteArray.toList_eq,<- ByteArray.toList_eq,h]
 cases s; cases u
 congr 1
 exact Array.toList_inj.1 h1
theorem PS1.eqS {s u:ByteArray}(hx:Rd g a (.lit (.string s))) (hy:Rd g b (.lit (.string u))) {c:Bool}(hc:c=true↔s=u):PS1 P g (.binOp .eql t a b t2) ty (.lit (.bool c)) :=
 .bin hx.opd hy.opd rfl fun w=>by
  have:(s.toList == u.toList)=c:=by
   rw [Bool.eq_iff_iff,hc]
   simp only [beq_iff_eq]
   exact ⟨bytes_ext,fun h=>by rw [h]⟩
  simp [eqGuard,binOp,Op.stringOp,this]
theorem PS1.lss (hx:Rd g a (.lit (.int k m))) (hy:Rd g b (.lit (.int k n))) {c:Bool}(hc:c=true↔m<n):PS1 P g (.binOp .lss t a b t2) ty (.lit (.bool c)) :=
 .bin hx.opd hy.opd rfl fun w=>by
  have:decide (m<n)=c:=by rw [Bool.eq_iff_iff,hc]; simp
  simp [eqGuard,binOp,Op.intCmp,this]
theorem PS1.gtr (hx:Rd g a (.lit (.int k m))) (hy:Rd g b (.lit (.int k n))) {c:Bool}(hc:c=true↔n<m):PS1 P g (.binOp .gtr t a b t2) ty (.lit (.bool c)) :=
 .bin hx.opd hy.opd rfl fun w=>by
  have:decide (n<m)=c:=by rw [Bool.eq_iff_iff,hc]; simp
  simp [eqGuard,binOp,Op.intCmp,this]
theorem PS1.geq (hx:Rd g a (.lit (.int k m))) (hy:Rd g b (.lit (.int k n))) {c:Bool}(hc:c=true↔n<=m):PS1 P g (.binOp .geq t a b t2) ty (.lit (.bool c)) :=
 .bin hx.opd hy.opd rfl fun w=>by
  have:decide (n<=m)=c:=by rw [Bool.eq_iff_iff,hc]; simp
  simp [eqGuard,binOp,Op.intCmp,this]
theorem PS1.eql (hx:Rd g a (.lit (.int k m))) (hy:Rd g b (.lit (.int k n))) {c:Bool}(hc:c=true↔m=n):PS1 P g (.binOp .eql t a b t2) ty (.lit (.bool c)) :=
 .bin hx.opd hy.opd rfl fun w=>by
  have:(m == n)=c:=by rw [Bool.eq_iff_iff,hc]; simp
  simp [eqGuard,binOp,Op.intCmp,this]
theorem PS1.neq (hx:Rd g a (.lit (.int k m))) (hy:Rd g b (.lit (.int k n))) {c:Bool}(hc:c=true↔m≠n):PS1 P g (.binOp .neq t a b t2) ty (.lit (.bool c)) :=
 .bin hx.opd hy.opd rfl fun w=>by
  have:(m != n)=c:=by rw [Bool.eq_iff_iff,hc]; simp
  simp [eqGuard,binOp,Op.intCmp,this]
theorem PS1.not {c:Bool}(hx:Rd g a (.lit (.bool c))):PS1 P g (.unOp .not t a) ty (.lit (.bool (!c))) :=
 .un hx.opd rfl fun w=>by simp [Op.unary]
theorem PS1.pickT {c a b:Operand}{y:AV}(hc:Rd g c (.lit (.bool true))) (hr:Rd g a y):PS1 P g (.pick c a b) ty y:=.pick hc.opd hr.opd
theorem PS1.pickF {c a b:Operand}{y:AV}(hc:Rd g c (.lit (.bool false))) (hr:Rd g b y):PS1 P g (.pick c a b) ty y:=.pick hc.opd hr.opd
theorem PS1.lenS {s:ByteArray}(hx:Rd g a (.lit (.string s))) (ht:strT P t=true):PS1 P g (.call { callee:=.builtin .len,args:=#[a],argTypes:=#[t] }) ty (.lit (.int .i64 s.size)) :=
 .lits (vs:=[.string s]) (by simp [hx.opd]) rfl fun w cs=>by
  simp [builtin,Builtin.len_,run_underlying (strT_spec ht),goInt]
section
variable {Ψ:Gst->Prop}{Φ:Exit->Gst->Prop}{id k:Nat}
theorem thenN (h:Ψ g):thenP Ψ Φ .normal g:=h
theorem thenR (h:Φ .ret g):thenP Ψ Φ .ret g:=h
theorem thenE (h:Φ (.exit k) g):thenP Ψ Φ (.exit k) g:=h
theorem inBN (h:Φ .normal g):inB id Φ .normal g:=h
theorem inBR (h:Φ .ret g):inB id Φ .ret g:=h
theorem inBH (h:Φ .normal g):inB id Φ (.exit id) g:=by
 show if id=id then Φ .normal g else Φ (.exit id) g
 rw [if_pos rfl]; exact h
end
def Fin (P:Program) (N:Rm) (rs:List ResultVar) (n:Nat) (outs:List (Option AV)) (res:AV) (e:Exit) (g':Gst):Prop:=(e=.normal\/e=.ret)/\Leaves P N rs g' n outs res
theorem Con.fin {f:FuncId}{fn:Func}{c:Code}{args:List AV}{outs:List (Option AV)}{res:AV}{N:Rm}(hf:P.funcs[f]?=some fn) (hb:fn.body=some c) (hN:fn.ntmps=N.size) (ha:Nat.ble args.length N.size=true) (hlen:outs.length=args.length)
  (hw:W P N c (argG args) (Fin P N fn.results.toList args.length outs res)):Con P f args outs res:=.of_w hf hb hN (Nat.le_of_ble_eq_true ha) hlen hw
def noneB (outs:List (Option AV)):Bool:=outs.all fun x=>x.isNone
theorem noneB_spec {outs:List (Option AV)}(h:noneB outs=true) (k:Nat) (x:AV):outs[k]?≠some (some x):=by
 intro e
 have:=List.all_eq_true.1 h _ (List.mem_of_getElem? e)
 simp at this
theorem Fin.one {t:Nat}{y res:AV}{outs:List (Option AV)}{n:Nat}(hy:Rd g (.tmp t) y) (hn:NR y) (ho:noneB outs=true) (hl:outs.length=n) (he:y=res):Fin P N [.tmp t] n outs res .ret g :=
 ⟨.inr rfl,⟨[y],[y],g,.cons (.tmp hy.opd) .nil,.nr (by simpa using hn),he.symm,fun k x hk=>absurd hk (noneB_spec ho k x)⟩,hl⟩
inductive Rds (g:Gst):List ResultVar->List AV->Prop
 | nil:Rds g [] []
 | cons {t:Nat}{y:AV}{rs:List ResultVar}{ys:List AV}(h:Rd g (.tmp t) y) (hn:NR y) (ht:Rds g rs ys):Rds g (.tmp t::rs) (y::ys)
theorem Rds.spec {rs:List ResultVar}{ys:List AV}(h:Rds g rs ys):ResVs P g rs ys/\∀ y∈ys,NR y:=by
 induction h with
 | nil=>exact ⟨.nil,by simp⟩
 | cons h hn _ ih=>exact ⟨.cons (.tmp h.opd) ih.1,nr_cons hn ih.2⟩
inductive Opds (g:Gst):List Operand->List AV->Prop
 | nil:Opds g [] []
 | cons {x:Operand}{y:AV}{xs:List Operand}{ys:List AV}(h:Rd g x y) (hn:NR y) (ht:Opds g xs ys):Opds g (x::xs) (y::ys)
theorem Opds.spec {xs:List Operand}{ys:List AV}(h:Opds g xs ys):opds g xs=some ys/\∀ y∈ys,NR y:=by
 induction h with
 | nil=>exact ⟨rfl,by simp⟩
 | cons h hn _ ih=>exact ⟨by simp only [opds,h.opd,ih.1],nr_cons hn ih.2⟩
theorem PC.easy {xs:List Operand}{tys:Array TypeId}{f:FuncId}{ys:List AV}{outs:List (Option AV)}{res:AV}(hcon:Con P f ys outs res) (hf:callT P f=true) (hx:Opds g xs ys) (ho:noneB outs=true) (hr:NR res) :
  PC P g (.call { callee:=.value (.func f),args:=xs.toArray,argTypes:=tys }) res:=by
 have hout:outs=ys.map fun _=>Option.none:=by
  apply List.ext_getElem?
  intro k
  rw [List.getElem?_map]
  cases hy:ys[k]? with
  | none=>rw [List.getElem?_eq_none (by rw [hcon.1]; exact List.getElem?_eq_none_iff.1 hy)]; rfl
  | some y =>
   have hk:k<outs.length:=by rw [hcon.1]; exact (List.getElem?_eq_some_iff.1 hy).1
   have h1:=List.getElem?_eq_getElem hk
   rw [h1]
   cases h2:outs[k] with
   | none=>rfl
   | some x=>rw [h2] at h1; exact absurd h1 (noneB_spec ho k x)
 exact .plain (first:=[]) (caps:=[]) (ys:=ys) rfl (by simpa using hx.spec.1) hf (by simpa using hx.spec.2) (by simpa [<- hout] using hcon) hr
end
end Go.Own
namespace Go.Own
open Go
set_option linter.unusedSectionVars false
variable [TB]
def cutS (s:ByteArray) (m n:Int):ByteArray:=s.extract m.toNat n.toNat
section
variable {P:Program}{N:Rm}{ops:Array Oper}{g:Gst}{K:Gst->Prop}{l:List Oper}
variable {d:Nat}{op:Op}{ty:TypeId}{pos:String}{after:Array Edge}{x:AV}{a b:Operand}{t t2:TypeId}{k:IntKind}{m n:Int}{gd:Option (Nat × Bool)}
theorem PS1.slS {s:ByteArray}{lo hi:Operand}{k2:IntKind}(hx:Rd g a (.lit (.string s))) (hl:Rd g lo (.lit (.int k m))) (hh:Rd g hi (.lit (.int k2 n))) (ht:strT P t=true) (h:0<=m/\m<=n/\n<=s.size) :
  PS1 P g (.slice t a (some lo) (some hi) none) ty (.lit (.string (cutS s m n))):=by
 obtain ⟨i,rfl⟩:=Int.eq_ofNat_of_zero_le h.1
 obtain ⟨j,rfl⟩:=Int.eq_ofNat_of_zero_le (show 0<=n by omega)
 exact .sliceStr hx.opd ⟨_,hl.opd⟩ ⟨_,hh.opd⟩ ht (by omega) (by omega)
theorem PS1.slS0 {s:ByteArray}{hi:Operand}{k2:IntKind}(hx:Rd g a (.lit (.string s))) (hh:Rd g hi (.lit (.int k2 n))) (ht:strT P t=true) (h:0<=n/\n<=s.size) :
  PS1 P g (.slice t a none (some hi) none) ty (.lit (.string (cutS s 0 n))):=by
 obtain ⟨j,rfl⟩:=Int.eq_ofNat_of_zero_le h.1
 exact .sliceStr (l:=0) hx.opd rfl ⟨_,hh.opd⟩ ht (by omega) (by omega)
theorem PS1.bytes {z p N':Nat}{cs:List AV}{xs:List Int}(hx:g p=some (.own 1 N' cs)) (hcs:cs=xs.map fun b=>.lit (.int .u8 b)) (hl:cs.length=N') (ht:bytT P t t2=true) (_hz:z=0):PS1 P g (.convert t t2 (.tmp p)) ty (.lit (.string (strOfNums xs))) :=
 .convB (p:=⟨p,[]⟩) (n:=N') (N:=N') (cs:=cs) (by simp [opd,hx,refTop,refIn]) (by simp [atP,hx,AV.at]) (Nat.le_refl _) (by rw [List.take_of_length_le (by omega)]; exact hcs) ht
def zeroT (P:Program) (e:TypeId) (z:Nat):Bool :=
 match (P.info? e).bind (·.zero) with
 | some v=>v.cells.size == z
 | none=>false
theorem zeroT_spec {e:TypeId}{z:Nat}(h:zeroT P e z=true):∃ v,(P.info? e).bind (·.zero)=some v/\v.cells.size=z:=by
 unfold zeroT at h
 split at h
 ·rename_i v hv; exact ⟨v,hv,by simpa using h⟩
 ·cases h
inductive Lits (g:Gst):List Operand->List Value->Prop
 | nil:Lits g [] []
 | cons {x:Operand}{v:Value}{xs:List Operand}{vs:List Value}(h:Rd g x (.lit v)) (ht:Lits g xs vs):Lits g (x::xs) (v::vs)
theorem Lits.opds {xs:List Operand}{vs:List Value}(h:Lits g xs vs):opds g xs=some (vs.map .lit):=by
 induction h with
 | nil=>rfl
 | cons h _ ih=>simp only [Own.opds,h.opd,ih]; rfl
theorem Lits.map {xs:List Operand}{vs:List Value}(h:Lits g xs vs):xs.map (opd g)=vs.map fun v=>some (.lit v):=by
 induction h with
 | nil=>rfl
 | cons h _ ih=>simp only [List.map_cons,h.opd,ih]
theorem PS.row {e:TypeId}{xs:List Operand}{vs:List Value}{parts:Array (Nat × Operand)}{nn:Nat}(hx:Lits g xs vs) (hp:parts.toList=xs.mapIdx (fun i x=>(i,x))) (hn:xs.length=nn) (ht:slT P t e 1=true) (hz:zeroT P e 1=true) (hb:Nat.ble nn 1000=true) :
  PS P g (.buildSlice t nn parts) ty (.own 1 nn (vs.map .lit)):=by
 subst hn
 have hb':=Nat.le_of_ble_eq_true hb
 refine .p2 (.buildSlice ht hp hx.opds (fun y hy=>?_) ?_ (by omega) (by omega) (.inr (zeroT_spec hz)))
 ·obtain ⟨v,_,rfl⟩:=List.mem_map.1 hy
  exact ⟨[.lit v],rfl,rfl⟩
 ·generalize vs=l
  induction l with
  | nil=>rfl
  | cons v l ih=>simp only [List.map_cons,boxAll,boxCells,ih]; rfl
theorem PS1.extL {xs:List Operand}{tys:Array TypeId}{f:FuncId}{vs:List Value}{v:Value}(hr:∀ w,(callFunc f vs.toArray).run P w=.ok (.value v) w) (hv:v.oneCell'=true) (hx:Lits g xs vs) :
  PS1 P g (.call { callee:=.value (.func f),args:=xs.toArray,argTypes:=tys }) ty (.lit v) :=
 .extF (vs:=vs) (by simpa using hx.map) hv hr
inductive Pick (g:Gst):List Nat->List (Nat × AV)->Prop
 | nil:Pick g [] []
 | some {s:Nat}{x:AV}{ss:List Nat}{l:List (Nat × AV)}(h:g s=some x) (hn:NR x) (ht:Pick g ss l):Pick g (s::ss) ((s,x)::l)
 | none {s:Nat}{ss:List Nat}{l:List (Nat × AV)}(ht:Pick g ss l):Pick g (s::ss) l
theorem Pick.spec {g:Gst}{ss:List Nat}{l:List (Nat × AV)}(h:Pick g ss l):∀ t x,get l t=Option.some x->g t=Option.some x/\NR x:=by
 induction h with
 | nil=>intro t x hx; cases hx
 | @some s y ss l h hn _ ih =>
  intro t x hx
  simp only [get] at hx
  split at hx
  ·rename_i e; subst e; cases hx; exact ⟨h,hn⟩
  ·exact ih t x hx
 | none _ ih=>exact ih
theorem Pick.wk {g:Gst}{ss:List Nat}{l:List (Nat × AV)}(h:Pick g ss l):Wk g (get l) :=
 ⟨fun t x hx=>⟨x,(h.spec t x hx).1,.refl⟩,fun t x hx=>.nr (h.spec t x hx).2,fun t z q n m new hx=>by have:=(h.spec t _ hx).2; cases this⟩
end
end Go.Own
namespace Go.Own
open Go
set_option linter.unusedSectionVars false
variable [TB]
def Sz (s:ByteArray) (n:Nat):Prop:=s.size<=n
theorem Sz.app {s u:ByteArray}{a b:Nat}(h:Sz s a) (h':Sz u b):Sz (s++u) (a+b):=by
 unfold Sz at *
 rw [ByteArray.size_append]; omega
theorem Sz.cut {s:ByteArray}{a:Nat}{m n:Int}(h:Sz s a):Sz (cutS s m n) a:=by
 unfold Sz cutS at *
 rw [ByteArray.size_extract]; omega
theorem Sz.const {xs:Array UInt8}:Sz ⟨xs⟩ xs.size:=Nat.le_refl _
theorem Sz.of {s:ByteArray}{n:Nat}(h:s.size<=n):Sz s n:=h
theorem Sz.self {s:ByteArray}:Sz s s.size:=Nat.le_refl _
section
variable {P:Program}{g:Gst}{ty:TypeId}{a b:Operand}{t t2:TypeId}{N:Rm}{ops:Array Oper}{K:Gst->Prop}{l:List Oper}{d:Nat}{pos:String}{after:Array Edge}{gd:Option (Nat × Bool)}
theorem W.condS {c:Operand}{x y:Code}{Φ:Exit->Gst->Prop}{b:Bool}(hc:Rd g c (.lit (.bool b))) (hT:b=true->W P N x g Φ) (hF:b=false->W P N y g Φ):W P N (.cond c x y) g Φ:=by
 cases b with
 | true=>exact .condT hc.opd (hT rfl)
 | false=>exact .condF hc.opd (hF rfl)
inductive Bytes (g:Gst):List Operand->List Int->Prop
 | nil:Bytes g [] []
 | cons {x:Operand}{v:Int}{xs:List Operand}{vs:List Int}(h:Rd g x (.lit (.int .u8 v))) (ht:Bytes g xs vs):Bytes g (x::xs) (v::vs)
theorem Bytes.lits {xs:List Operand}{vs:List Int}(h:Bytes g xs vs):Lits g xs (vs.map fun b=>.int .u8 b):=by
 induction h with
 | nil=>exact .nil
 | cons h _ ih=>exact .cons h ih
end
end Go.Own
namespace Go.Own
open Go Go.RowKit
set_option linter.unusedSectionVars false
variable [TB]
theorem SR.lits {w:World}(vs:List Value) (h:∀ v∈vs,v.oneCell'=true) (htb:TB.q w fun _=>False):SR w (fun _=>False) vs.toArray (argG (vs.map .lit)) (fun _=>E0):=by
 refine ⟨fun t x hx=>?_,fun _ _ _ h=>h,fun _ _ _ h=>h.elim,fun _ _ h=>h.elim,fun _ h=>h.elim,fun t t' z p n m new z' n' m' new' h1 _=>?_,htb⟩
 ·simp only [argG,List.getElem?_map] at hx
  cases hv:vs[t]? with
  | none=>rw [hv] at hx; cases hx
  | some v =>
   rw [hv] at hx
   simp only [Option.map_some,Option.some.injEq] at hx
   subst hx
   exact ⟨v,by simpa using hv,.tree (.lit (h v (List.mem_of_getElem? hv)) fun _ h=>h)⟩
 ·simp only [argG,List.getElem?_map] at h1
  cases hv:vs[t]? with
  | none=>rw [hv] at h1; cases h1
  | some v=>rw [hv] at h1; cases h1
end Go.Own
namespace Go.Own
open Go
set_option linter.unusedSectionVars false
variable [TB]
section
variable {P:Program}{g:Gst}{ty:TypeId}{a b:Operand}{t t2:TypeId}{N:Rm}{ops:Array Oper}{K:Gst->Prop}{l:List Oper}{d:Nat}{pos:String}{after:Array Edge}{gd:Option (Nat × Bool)}
theorem PS1.lenO {z n z':Nat}{p:Place}{e:TypeId}(hx:Rd g a (.brw z p n)) (ht:slT P t e z'=true):PS1 P g (.call { callee:=.builtin .len,args:=#[a],argTypes:=#[t] }) ty (.lit (.int .i64 n)):=.lenBrw hx.opd ht
theorem PS1.lenI {z n z':Nat}{cs:List AV}{e:TypeId}(hx:Rd g a (.imm z n cs)) (ht:slT P t e z'=true):PS1 P g (.call { callee:=.builtin .len,args:=#[a],argTypes:=#[t] }) ty (.lit (.int .i64 n)):=.lenImm hx.opd ht
end
end Go.Own
namespace Go.Own
open Go
set_option linter.unusedSectionVars false
variable [TB]
end Go.Own
namespace Go.Own
open Go
set_option linter.unusedSectionVars false
variable [TB]
structure En (α:Type) where
 z:Nat
 cells:α->List AV
 len:∀ a,(cells a).length=z
 nr:∀ a,∀ x∈cells a,NR x
variable {α β S R:Type}
def rowc (e:En α) (l:List α):List AV:=l.flatMap e.cells
abbrev oR (e:En α) (l:List α):AV:=.own e.z l.length (rowc e l)
abbrev iR (e:En α) (l:List α):AV:=.imm e.z l.length (rowc e l)
abbrev I64 (n:Int):AV:=.lit (.int .i64 n)
abbrev U8 (n:Int):AV:=.lit (.int .u8 n)
abbrev BB (b:Bool):AV:=.lit (.bool b)
abbrev SS (s:ByteArray):AV:=.lit (.string s)
abbrev w64 (n:Int):Int:=IntKind.i64.wrap n
theorem rowc_len (e:En α) (l:List α):(rowc e l).length=l.length * e.z:=by
 induction l with
 | nil=>simp [rowc]
 | cons a l ih =>
  have:rowc e (a::l)=e.cells a++rowc e l:=by simp [rowc]
  rw [this,List.length_append,e.len,ih,List.length_cons,Nat.add_mul]; omega
theorem rowc_nr (e:En α) (l:List α):∀ x∈rowc e l,NR x:=by
 intro x hx
 obtain ⟨a,_,h⟩:=List.mem_flatMap.1 hx
 exact e.nr a x h
theorem rowc_app (e:En α) (l m:List α):rowc e (l++m)=rowc e l++rowc e m:=by simp [rowc]
theorem rowc_drop (e:En α):∀ (l:List α) (i:Nat),(rowc e l).drop (i * e.z)=rowc e (l.drop i)
 | l,0=>by simp
 | [],i+1=>by simp [rowc]
 | a::l,i+1=>by
  have h:rowc e (a::l)=e.cells a++rowc e l:=by simp [rowc]
  rw [h,List.drop_append,e.len,List.drop_eq_nil_of_le (by rw [e.len,Nat.add_mul]; omega)]
  have:(i+1) * e.z - e.z=i * e.z:=by rw [Nat.add_mul]; omega
  rw [this,List.nil_append,rowc_drop e l i]; rfl
theorem rowc_take (e:En α):∀ (l:List α) (i:Nat),(rowc e l).take (i * e.z)=rowc e (l.take i)
 | l,0=>by simp [rowc]
 | [],i+1=>by simp [rowc]
 | a::l,i+1=>by
  have h:rowc e (a::l)=e.cells a++rowc e l:=by simp [rowc]
  rw [h,List.take_append,e.len,List.take_of_length_le (by rw [e.len,Nat.add_mul]; omega)]
  have:(i+1) * e.z - e.z=i * e.z:=by rw [Nat.add_mul]; omega
  rw [this,rowc_take e l i]; simp [rowc]
def idx (l:List α) (i:Int):Option α:=if 0<=i then l[i.toNat]? else none
theorem idx_spec {l:List α}{i:Int}{y:α}(h:idx l i=some y):0<=i/\i<l.length/\l[i.toNat]?=some y:=by
 unfold idx at h
 split at h
 ·have:=(List.getElem?_eq_some_iff.1 h).1
  exact ⟨by assumption,by omega,h⟩
 ·cases h
theorem rowc_idx (e:En α) {l:List α}{i:Int}{y:α}(h:idx l i=some y):(rowc e l).drop (i.toNat * e.z)=e.cells y++rowc e (l.drop (i.toNat+1)):=by
 obtain ⟨h0,h1,h2⟩:=idx_spec h
 rw [rowc_drop]
 obtain ⟨hlt,he⟩:=List.getElem?_eq_some_iff.1 h2
 rw [List.drop_eq_getElem_cons hlt,he]; simp [rowc]
theorem rowc_at (e:En α) {l:List α}{i:Int}{y:α}(h:idx l i=some y) {k:Nat}{x:AV}(hk:(e.cells y)[k]?=some x):(rowc e l)[i.toNat * e.z+k]?=some x:=by
 have hlt:=(List.getElem?_eq_some_iff.1 hk).1
 rw [<- List.getElem?_drop,rowc_idx e h,List.getElem?_append_left hlt]; exact hk
abbrev lim:Nat:=1099511627776
def fuel:Nat:=1000000000000000000
def iter (f:S->Option (S ⊕ R)):Nat->S->Option R
 | 0,_=>none
 | n+1,s=>match f s with
  | none=>none
  | some (.inl s')=>iter f n s'
  | some (.inr r)=>some r
def loopM (f:S->Option (S ⊕ R)) (s:S):Option R:=iter f fuel s
theorem bnd {o:Option α}{f:α->Option β}{r:β}(h:o.bind f=some r):∃ y,o=some y/\f y=some r:=Option.bind_eq_some_iff.1 h
theorem cndT {b:Bool}{x y o:α}(hb:b=true) (h:cond b x y=o):x=o:=by subst hb; exact h
theorem cndF {b:Bool}{x y o:α}(hb:b=false) (h:cond b x y=o):y=o:=by subst hb; exact h
theorem cnd {b:Bool}{x y o:α}(h:cond b x y=o):(b=true/\x=o)\/(b=false/\y=o):=by cases b <;> simp_all
theorem sm {a b:α}(h:some a=some b):a=b:=Option.some.inj h
class NRc (x:AV):Prop where nr:NR x
class NRl (cs:List AV):Prop where nr:∀ x∈cs,NR x
instance {v:Value}:NRc (.lit v):=⟨.lit⟩
instance:NRc .nils:=⟨.nils⟩
instance:NRc .dead:=⟨.dead⟩
instance {k:Nat × Nat}:NRc (.self k):=⟨.self⟩
instance {t:Nat}{us:List Value}:NRc (.brow t us):=⟨.brow⟩
instance {z n:Nat}{cs:List AV} [h:NRl cs]:NRc (.imm z n cs):=⟨.imm h.nr⟩
instance {z n:Nat}{cs:List AV} [h:NRl cs]:NRc (.own z n cs):=⟨.own h.nr⟩
instance {cs:List AV} [h:NRl cs]:NRc (.obj cs):=⟨.obj h.nr⟩
instance {cs:List AV} [h:NRl cs]:NRc (.agg cs):=⟨.agg h.nr⟩
instance {cs:List AV} [h:NRl cs]:NRc (.tup cs):=⟨.tup h.nr⟩
instance {cs:List AV} [h:NRl cs]:NRc (.iptr cs):=⟨.iptr h.nr⟩
instance {f:Fn}{a b:List AV} [h:NRl a] [h':NRl b]:NRc (.clo f a b):=⟨.clo h.nr h'.nr⟩
instance:NRl []:=⟨by simp⟩
instance {x:AV}{cs:List AV} [h:NRc x] [h':NRl cs]:NRl (x::cs):=⟨nr_cons h.nr h'.nr⟩
instance {e:En α}{l:List α}:NRl (rowc e l):=⟨rowc_nr e l⟩
instance {e:En α}{a:α}:NRl (e.cells a):=⟨e.nr a⟩
instance {a b:List AV} [h:NRl a] [h':NRl b]:NRl (a++b):=⟨fun x hx=>(List.mem_append.1 hx).elim (h.nr x) (h'.nr x)⟩
instance {a:List AV}{n:Nat} [h:NRl a]:NRl (a.drop n):=⟨fun x hx=>h.nr x (List.mem_of_mem_drop hx)⟩
instance {a:List AV}{n:Nat} [h:NRl a]:NRl (a.take n):=⟨fun x hx=>h.nr x (List.mem_of_mem_take hx)⟩
instance {v:Value}{n:Nat}:NRl (List.replicate n (.lit v)):=⟨fun x hx=>by rw [(List.mem_replicate.1 hx).2]; exact .lit⟩
abbrev En.one (f:α->AV) (h:∀ a,NR (f a)):En α:=⟨1,fun a=>[f a],fun _=>rfl,fun a x hx=>by rw [List.mem_singleton.1 hx]; exact h a⟩
def eI:En Int:=.one (fun n=>I64 n) fun _=>.lit
def eU:En Int:=.one (fun n=>U8 n) fun _=>.lit
def eB:En Bool:=.one (fun b=>BB b) fun _=>.lit
def eS:En ByteArray:=.one (fun s=>SS s) fun _=>.lit
def eO (e:En α):En (List α):=.one (fun l=>oR e l) fun l=>.own (rowc_nr e l)
def eM (e:En α):En (List α):=.one (fun l=>iR e l) fun l=>.imm (rowc_nr e l)
inductive Trim (b:Bool) (g g2:Gst):List (Nat × AV)->Prop
 | nil:Trim b g g2 []
 | n {s:Nat}{x:AV}{l:List (Nat × AV)}(h:g s=some x) [hn:NRc x] (t:Trim b g g2 l):Trim b g g2 ((s,x)::l)
 | r {s:Nat}{x:AV}{l:List (Nat × AV)}(h:g s=some x) (hn:RK g2 x) (hp:∀ z p n m new,x≠.pend z p n m new) (t:Trim b g g2 l):Trim b g g2 ((s,x)::l)
 | e {s:Nat}{x y:AV}{l:List (Nat × AV)}(h:g s=some y) (he:y=x) [hn:NRc x] (t:Trim b g g2 l):Trim b g g2 ((s,x)::l)
 | w {s:Nat}{x y:AV}{l:List (Nat × AV)}(hb:b=true) (h:g s=some y) (hw:WkV y x) [hn:NRc x] (t:Trim b g g2 l):Trim b g g2 ((s,x)::l)
theorem Trim.spec {b:Bool}{g g2:Gst}{l:List (Nat × AV)}(h:Trim b g g2 l):∀ t x,get l t=some x->(∃ y,g t=some y/\WkV y x/\(b=false->y=x))/\RK g2 x/\∀ z p n m new,x≠.pend z p n m new:=by
 have np:∀ {x:AV},NR x->∀ z p n m new,x≠.pend z p n m new:=by rintro x h z p n m new rfl; cases h
 induction h with
 | nil=>intro t x hx; cases hx
 | @n _ _ _ h hn _ ih =>
  intro t x hx; simp only [get] at hx
  split at hx
  ·rename_i e; subst e; cases hx; exact ⟨⟨_,h,.refl,fun _=>rfl⟩,.nr hn.nr,np hn.nr⟩
  ·exact ih t x hx
 | r h hn hp _ ih =>
  intro t x hx; simp only [get] at hx
  split at hx
  ·rename_i e; subst e; cases hx; exact ⟨⟨_,h,.refl,fun _=>rfl⟩,hn,hp⟩
  ·exact ih t x hx
 | @e _ _ _ _ h he hn _ ih =>
  intro t x hx; simp only [get] at hx
  split at hx
  ·rename_i e; subst e he; cases hx; exact ⟨⟨_,h,.refl,fun _=>rfl⟩,.nr hn.nr,np hn.nr⟩
  ·exact ih t x hx
 | @w _ _ _ _ hb h hw hn _ ih =>
  intro t x hx; simp only [get] at hx
  split at hx
  ·rename_i e; subst e; cases hx; exact ⟨⟨_,h,hw,fun h=>by rw [hb] at h; cases h⟩,.nr hn.nr,np hn.nr⟩
  ·exact ih t x hx
theorem Trim.wk {b:Bool}{g:Gst}{l:List (Nat × AV)}(h:Trim b g (get l) l):Wk g (get l) :=
 ⟨fun t x hx=>by obtain ⟨⟨y,h1,h2,_⟩,_⟩:=h.spec t x hx; exact ⟨y,h1,h2⟩,fun t x hx=>(h.spec t x hx).2.1,fun t z q n m new hx=>(h.spec t _ hx).2.2 _ _ _ _ _ rfl⟩
theorem Trim.keep {g:Gst}{l:List (Nat × AV)}(h:Trim false g (get l) l):Keep g (get l) :=
 ⟨fun t x hx=>by obtain ⟨⟨y,h1,_,h3⟩,_⟩:=h.spec t x hx; rw [<- h3 rfl]; exact h1,fun t x hx=>(h.spec t x hx).2.1,fun t z q n m new hx=>(h.spec t _ hx).2.2 _ _ _ _ _ rfl⟩
section
variable {P:Program}{N:Rm}{ops:Array Oper}{g:Gst}{K:Gst->Prop}{l:List Oper}{d:Nat}{op:Op}{ty:TypeId}{pos:String}{after:Array Edge}{x:AV}{gd:Option (Nat × Bool)}
def To (P:Program) (N:Rm) (c:Code) (G G1:List (Nat × AV)):Prop:=W P N c (get G) fun e g'=>e=.normal/\Wk g' (get G1)
theorem W.sq {A B:Code}{G G1:List (Nat × AV)}{Φ:Exit->Gst->Prop}(h1:To P N A G G1) (h2:W P N B (get G1) Φ):W P N (.seq A B) (get G) Φ:=by
 refine W.seq (W.out h1 fun e g' h=>⟨get G1,h.2,?_⟩)
 obtain ⟨rfl,_⟩:=h
 exact h2
theorem W.sq' {A B:Code}{G:List (Nat × AV)}{Φ:Exit->Gst->Prop}(h:W P N A (get G) (thenP (fun g1=>W P N B g1 Φ) Φ)):W P N (.seq A B) (get G) Φ:=W.seq h
theorem RunL.fin {G1:List (Nat × AV)}(h:Trim true g (get G1) G1):RunL P N ops [] g fun g'=>Wk g' (get G1):=.nil h.wk
theorem RunL.re {G1:List (Nat × AV)}(h:Trim false g (get G1) G1) (hk:RunL P N ops l (get G1) K):RunL P N ops l g K:=.forget h.keep hk
theorem RunL.v (hp:PS P g op ty x) (hN:N.ok d=true) (hf:g d=none) (hg:Gd g ops gd) (hk:RunL P N ops l (upd g d x) K):RunL P N ops (⟨some d,op,ty,pos,after,gd⟩::l) g K:=.valP hp hN hf hg hk
theorem RunL.c (hp:PC P g op x) (hN:N.ok d=true) (hf:g d=none) (hg:Gd g ops gd) (hk:RunL P N ops l (upd g d x) K):RunL P N ops (⟨some d,op,ty,pos,after,gd⟩::l) g K:=.call hp hN hf hg hk
theorem Gd.yb {j t:Nat}{b c:Bool}(h:(ops[j]?).bind (·.dst)=some t) (hg:g t=some (.lit (.bool c))) (hb:c=b):Gd g ops (some (j,b)):=by subst hb; exact .yes h hg
theorem RunL.ps {j t':Nat}{b c:Bool}(h:(ops[j]?).bind (·.dst)=some t') (hg:g t'=some (.lit (.bool c))) (hb:c=!b) (hN:N.ok d=true) (hf:g d=none) (hk:RunL P N ops l (upd g d (.tup [])) K):RunL P N ops (⟨some d,op,ty,pos,after,some (j,b)⟩::l) g K:=by
 subst hb; exact .stepS rfl hN hf (r:=some (.tup [])) (.inr (.inl ⟨⟨t',h,.inl ⟨_,hg,by cases b <;> rfl⟩⟩,rfl⟩)) hk
theorem To.skip {G G1:List (Nat × AV)}(h:Trim true (get G) (get G1) G1):To P N .skip G G1:=W.skip ⟨rfl,h.wk⟩
theorem To.cnd {t:Nat}{A B:Code}{b:Bool}{G G1:List (Nat × AV)}(hc:get G t=some (BB b)) (hT:b=true->To P N A G G1) (hF:b=false->To P N B G G1):To P N (.cond (.tmp t) A B) G G1:=W.condS (.lit hc) hT hF
theorem W.cnd {t:Nat}{A B:Code}{b:Bool}{G:List (Nat × AV)}{Φ:Exit->Gst->Prop}(hc:get G t=some (BB b)) (hT:b=true->W P N A (get G) Φ) (hF:b=false->W P N B (get G) Φ):W P N (.cond (.tmp t) A B) (get G) Φ:=W.condS (.lit hc) hT hF
theorem To.sq {A B:Code}{G G1 G2:List (Nat × AV)}(h1:To P N A G G1) (h2:To P N B G1 G2):To P N (.seq A B) G G2:=W.sq h1 h2
theorem To.blk {id:Nat}{c:Code}{G G1:List (Nat × AV)}(h:W P N c (get G) fun e g'=>(e=.normal\/e=.exit id)/\Wk g' (get G1)):To P N (.block id c) G G1:=by
 refine W.block (h.mono ?_)
 rintro e g' ⟨rfl | rfl,h⟩
 ·exact ⟨rfl,h⟩
 ·show if id=id then _ else _
  rw [if_pos rfl]; exact ⟨rfl,h⟩
end
end Go.Own
namespace Go.Own
open Go
set_option linter.unusedSectionVars false
variable [TB]
variable {α β:Type}
def cutO (s:ByteArray) (m n:Int):Option ByteArray:=if 0<=m/\m<=n/\n<=s.size then some (cutS s m n) else none
def subO (l:List α) (m n:Int):Option (List α):=if 0<=m/\m<=n/\n<=l.length then some ((l.drop m.toNat).take (n - m).toNat) else none
def flatB:AV->Bool
 | .lit _ | .nils | .imm .. | .iptr _ | .clo .. | .ptr .. | .brw .. | .sub .. | .mref .. | .imp ..=>true
 | _=>false
theorem flat_ref {d:Nat}{p:Place}{x:AV}(h:flatB x=true):refIn d p x=x:=by
 cases x <;> simp [flatB] at h <;> cases d <;> rfl
theorem flat_top {t:Nat}{x:AV}(h:flatB x=true):refTop t x=x:=by
 cases x <;> simp [flatB] at h <;> rfl
theorem flat_map {d:Nat}{q:Nat->Place}{cs:List AV}(h:cs.all flatB=true):(cs.mapIdx fun i x=>refIn d (q i) x)=cs:=by
 apply List.ext_getElem?
 intro k
 rw [List.getElem?_mapIdx]
 cases hk:cs[k]? with
 | none=>rfl
 | some x=>simp only [Option.map_some,flat_ref (List.all_eq_true.1 h x (List.mem_of_getElem? hk))]
section
variable {P:Program}{N:Rm}{ops:Array Oper}{g:Gst}{K:Gst->Prop}{l:List Oper}{d:Nat}{ty t t2:TypeId}{a b c:Operand}{k k':IntKind}{m n:Int}{s u:ByteArray}{p q e:Bool}
theorem Rd.f {t:Nat}{x:AV}(h:g t=some x) (hf:flatB x=true):Own.opd g (.tmp t)=some x:=by simp only [Own.opd,h,Option.map_some,flat_top hf]
theorem Rd.aggF {t:Nat}{cs:List AV}(h:g t=some (.agg cs)) (hf:cs.all flatB=true):Rd g (.tmp t) (.agg cs):=.agg h (flat_map hf)
theorem Rd.tupF {t:Nat}{cs:List AV}(h:g t=some (.tup cs)) (hf:cs.all flatB=true):Rd g (.tmp t) (.tup cs):=.tup h (flat_map hf)
namespace O
theorem mv {y:AV}(h:Rd g a y):PS P g (.move a) ty y:=.p1 (.move h.opd)
theorem az {y:AV}(h:Rd g a y):PS P g (.assign a) ty y:=.p1 (.assign h.opd)
theorem pkT {y:AV}(hc:Rd g c (BB p)) (hb:p=true) (h:Rd g a y):PS P g (.pick c a b) ty y:=by subst hb; exact .p1 (.pickT hc h)
theorem pkF {y:AV}(hc:Rd g c (BB p)) (hb:p=false) (h:Rd g b y):PS P g (.pick c a b) ty y:=by subst hb; exact .p1 (.pickF hc h)
theorem add (hx:Rd g a (.lit (.int k m))) (hy:Rd g b (.lit (.int k n))):PS P g (.binOp .add t a b t2) ty (.lit (.int k (k.wrap (m+n)))):=.p1 (.add hx hy)
theorem sub (hx:Rd g a (.lit (.int k m))) (hy:Rd g b (.lit (.int k n))):PS P g (.binOp .sub t a b t2) ty (.lit (.int k (k.wrap (m - n)))):=.p1 (.subt hx hy)
theorem lss (hx:Rd g a (.lit (.int k m))) (hy:Rd g b (.lit (.int k n))):PS P g (.binOp .lss t a b t2) ty (BB (decide (m<n))):=.p1 (.lss hx hy (by simp))
theorem gtr (hx:Rd g a (.lit (.int k m))) (hy:Rd g b (.lit (.int k n))):PS P g (.binOp .gtr t a b t2) ty (BB (decide (n<m))):=.p1 (.gtr hx hy (by simp))
theorem geq (hx:Rd g a (.lit (.int k m))) (hy:Rd g b (.lit (.int k n))):PS P g (.binOp .geq t a b t2) ty (BB (decide (n<=m))):=.p1 (.geq hx hy (by simp))
theorem eql (hx:Rd g a (.lit (.int k m))) (hy:Rd g b (.lit (.int k n))):PS P g (.binOp .eql t a b t2) ty (BB (decide (m=n))):=.p1 (.eql hx hy (by simp))
theorem neq (hx:Rd g a (.lit (.int k m))) (hy:Rd g b (.lit (.int k n))):PS P g (.binOp .neq t a b t2) ty (BB (!decide (m=n))):=.p1 (.neq hx hy (by simp))
theorem geS {s u:ByteArray}(hx:Rd g a (SS s)) (hy:Rd g b (SS u)):PS P g (.binOp .geq t a b t2) ty (BB (!Op.bytesLess s.toList u.toList)):=.p1 (.bin hx.opd hy.opd rfl fun w=>by simp [eqGuard,binOp,Op.stringOp])
theorem eqS (hx:Rd g a (SS s)) (hy:Rd g b (SS u)):PS P g (.binOp .eql t a b t2) ty (BB (decide (s=u))):=.p1 (.eqS hx hy (by simp))
theorem neg (hx:Rd g a (.lit (.int k m))):PS P g (.unOp .neg t a) ty (.lit (.int k (k.wrap (-m)))):=.p1 (.un hx.opd rfl fun w=>by simp [Op.unary,Op.intArith])
theorem not (hx:Rd g a (BB p)):PS P g (.unOp .not t a) ty (BB (!p)):=.p1 (.not hx)
theorem lenS (hx:Rd g a (SS s)) (ht:strT P t=true):PS P g (.call { callee:=.builtin .len,args:=#[a],argTypes:=#[t] }) ty (I64 s.size):=.p1 (.lenS hx ht)
theorem sl {r:ByteArray}{k2:IntKind}(hx:Rd g a (SS s)) (hl:Rd g b (.lit (.int k m))) (hh:Rd g c (.lit (.int k2 n))) (ht:strT P t=true) (h:cutO s m n=some r):PS P g (.slice t a (some b) (some c) none) ty (SS r):=by
 unfold cutO at h
 split at h
 ·cases h; exact .p1 (.slS hx hl hh ht (by assumption))
 ·cases h
theorem sl0 {r:ByteArray}(hx:Rd g a (SS s)) (hh:Rd g c (.lit (.int k n))) (ht:strT P t=true) (h:cutO s 0 n=some r):PS P g (.slice t a none (some c) none) ty (SS r):=by
 unfold cutO at h
 split at h
 ·rename_i hc; cases h; exact .p1 (.slS0 hx hh ht ⟨hc.2.1,hc.2.2⟩)
 ·cases h
theorem lenI {z z' n:Nat}{cs:List AV}{e:TypeId}(hx:Rd g a (.imm z n cs)) (ht:slT P t e z'=true):PS P g (.call { callee:=.builtin .len,args:=#[a],argTypes:=#[t] }) ty (I64 n):=.p1 (.lenImm hx.opd ht)
theorem ixI {en:En α}{L:List α}{y:α}{e:TypeId}(hx:Rd g a (.imm en.z L.length (rowc en L))) (hy:Rd g b (.lit (.int k m))) (ht:slT P t e en.z=true) (h:idx L m=some y):PS P g (.indexAddr t a b) ty (.iptr (en.cells y++rowc en (L.drop (m.toNat+1)))):=by
 rw [<- rowc_idx en h]
 obtain ⟨h0,h1,_⟩:=idx_spec h
 obtain ⟨j,rfl⟩:=Int.eq_ofNat_of_zero_le h0
 exact .p1 (.idxImm hx.opd hy.opd ht (by omega))
theorem fI {s' f off:Nat}{cs:List AV}(hx:Rd g a (.iptr cs)) (hf:fldT P s' f off t=true):PS P g (.fieldAddr s' a f) ty (.iptr (cs.drop off)):=.p1 (.fieldI hx.opd hf)
theorem ldI {x:AV}{cs:List AV}(hx:Rd g a (.iptr cs)) (ht:cellT P t=true) (hc:cs.head?=some x):PS P g (.load t a) ty x:=by
 cases cs with
 | nil=>cases hc
 | cons y cs=>cases hc; exact .p1 (.loadI1 hx.opd ht)
theorem nlI {cs:List AV}(hx:Rd g a (.iptr cs)):PS P g (.nilCheck a) ty (.iptr cs):=.p1 (.nilI hx.opd)
theorem eqP {p:Place}{k:Nat}(hx:Rd g a (.ptr p k)) (hy:Rd g b (.lit (.pointer none))) (ht:ptrT P t=true):PS P g (.binOp .eql t a b t2) ty (BB false):=.p1 (.eqP hx.opd hy.opd ht)
theorem nlP {p:Place}{k:Nat}(hx:Rd g a (.ptr p k)):PS P g (.nilCheck a) ty (.ptr p k):=.p1 (.nilP hx.opd)
theorem fd {s' f off:Nat}{cs:List AV}{x:AV}(hx:Rd g a (.agg cs)) (hf:fldT P s' f off t=true) (ht:cellT P t=true) (hy:cs[off]?=some x):PS P g (.field s' a f) ty x:=.p1 (.field1 hx.opd hf ht hy)
theorem ex {p i:Nat}{cs:List AV}{x y:AV}(hx:g p=some (.tup cs)) (hy:cs[i]?=some x) (hr:refIn 1 (Place.push ⟨p,[]⟩ i) x=y):PS P g (.extract (.tmp p) i) ty y :=
 .p1 (.extr (cs:=cs.mapIdx fun i x=>refIn 1 (Place.push ⟨p,[]⟩ i) x) (by simp [opd,hx,refTop,refIn]) (by simp [hy,hr]))
theorem box {e:TypeId}{y:AV}{cs:List AV}(hx:Rd g a y) (hc:boxCells y=some cs):PS P g (.box e a) ty (.obj cs):=.p2 (.box hx.opd hc)
theorem fO {s' f off k r:Nat}{cs:List AV}(hs:g r=some (.obj cs)) (hx:Rd g a (.ptr ⟨r,[]⟩ k)) (hf:fldT P s' f off t=true) (hlt:Nat.blt (k+off) cs.length=true):PS P g (.fieldAddr s' a f) ty (.ptr ⟨r,[]⟩ (k+off)) :=
 .p1 (.fieldP hx.opd hf ⟨.obj cs,by simp [atP,hs,AV.at],0,0,cs,.inr rfl,by simpa using hlt⟩)
theorem ldO {k r:Nat}{cs:List AV}{x y:AV}(hs:g r=some (.obj cs)) (hx:Rd g a (.ptr ⟨r,[]⟩ k)) (ht:cellT P t=true) (hc:cs[k]?=some x) (hy:refIn 0 ⟨r,[k]⟩ x=y):PS P g (.load t a) ty y:=by
 subst hy
 exact .p1 (.load1 (p:=⟨r,[]⟩) hx.opd ht (by simp [atP,hs,AV.at,Place.push,AV.kids,hc]))
end O
theorem Opds.cc {x:Operand}{y:AV}{xs:List Operand}{ys:List AV}(h:Rd g x y) [hn:NRc y] (ht:Opds g xs ys):Opds g (x::xs) (y::ys):=.cons h hn.nr ht
theorem PC.go {xs:List Operand}{tys:Array TypeId}{f:FuncId}{ys:List AV}{outs:List (Option AV)}{res:AV}(hx:Opds g xs ys) (hcon:Con P f ys outs res) (hf:callT P f=true) (ho:noneB outs=true) [hr:NRc res] :
  PC P g (.call { callee:=.value (.func f),args:=xs.toArray,argTypes:=tys }) res:=.easy hcon hf hx ho hr.nr
inductive Rts (P:Program) (g:Gst):List ResultVar->List AV->Prop
 | nil:Rts P g [] []
 | f {t:Nat}{x:AV}{rs:List ResultVar}{xs:List AV}(h:g t=some x) (hf:flatB x=true) [hn:NRc x] (ht:Rts P g rs xs):Rts P g (.tmp t::rs) (x::xs)
 | c {a:Nat}{t:TypeId}{z:Nat}{cs:List AV}{rs:List ResultVar}{xs:List AV}(h:g a=some (.obj cs)) (ht:aggT P t z=true) (hz:cs.length=z) (hf:(0<z&&cs.all flatB)=true) [hn:NRl cs] (hr:Rts P g rs xs):Rts P g (.cell a t::rs) (.agg cs::xs)
theorem Rts.spec {rs:List ResultVar}{xs:List AV}(h:Rts P g rs xs):ResVs P g rs xs/\∀ x∈xs,NR x:=by
 induction h with
 | nil=>exact ⟨.nil,by simp⟩
 | @f t x rs xs h hf hn _ ih=>exact ⟨.cons (.tmp (Rd.f h hf)) ih.1,nr_cons hn.nr ih.2⟩
 | @c a t z cs rs xs h ht hz hf hn _ ih =>
  simp only [Bool.and_eq_true,decide_eq_true_eq] at hf
  refine ⟨.cons ?_ ih.1,nr_cons (.agg hn.nr) ih.2⟩
  have hx:Own.opd g (.tmp a)=some (.ptr ⟨a,[]⟩ 0):=by
   cases cs with
   | nil=>simp at hz; omega
   | cons c cs=>simp [Own.opd,h,refTop,refIn]
  have:=PS1.loadN (P:=P) (ty:=t) (p:=⟨a,[]⟩) (n:=0) (z:=0) hx ht (by simp only [atP,h,AV.at]) (.inr rfl) (show 0+z<=cs.length by omega)
  have hall:((cs.drop 0).take z).mapIdx (fun i x=>refIn 0 (Place.push ⟨a,[]⟩ (0+i)) x)=cs:=by
   rw [List.drop_zero,List.take_of_length_le (by omega)]
   exact flat_map hf.2
  rw [hall] at this
  exact .cell this
theorem Fin.rt {rs:List ResultVar}{xs:List AV}{res:AV}{outs:List (Option AV)}{n:Nat}(h:Rts P g rs xs) (he:resAV xs=res) (ho:noneB outs=true) (hl:outs.length=n):Fin P N rs n outs res .ret g :=
 ⟨.inr rfl,⟨xs,xs,g,h.spec.1,.nr h.spec.2,he.symm,fun k x hk=>absurd hk (noneB_spec ho k x)⟩,hl⟩
end
def numbered:Nat->List AV->List (Nat × AV)
 | _,[]=>[]
 | i,x::l=>(i,x)::numbered (i+1) l
theorem get_numbered:∀ (l:List AV) (i t:Nat),get (numbered i l) t=if i<=t then l[t - i]? else none
 | [],i,t=>by simp [numbered,get]
 | x::l,i,t=>by
  simp only [numbered,get]
  by_cases h:t=i
  ·subst h; simp
  ·rw [if_neg h,get_numbered l (i+1) t]
   by_cases h1:i+1<=t
   ·rw [if_pos h1,if_pos (by omega)]
    have:t - i=(t - (i+1))+1:=by omega
    rw [this,List.getElem?_cons_succ]
   ·rw [if_neg h1,if_neg (by omega)]
theorem argG_num (args:List AV):argG args=get (numbered 0 args):=funext fun t=>by rw [get_numbered]; simp [argG]
theorem Con.go {P:Program}{f:FuncId}{fn:Func}{c:Code}{args:List AV}{outs:List (Option AV)}{res:AV}{N:Rm}(hf:P.funcs[f]?=some fn) (hb:fn.body=some c) (hN:fn.ntmps=N.size) (ha:Nat.ble args.length N.size=true) (hlen:outs.length=args.length)
  (hw:W P N c (get (numbered 0 args)) (Fin P N fn.results.toList args.length outs res)):Con P f args outs res :=
 .fin hf hb hN ha hlen (by rw [argG_num]; exact hw)
end Go.Own
namespace Go.Own
open Go
set_option linter.unusedSectionVars false
variable [TB]
section
variable {P:Program}{N:Rm}{Φ Φ':Exit->Gst->Prop}{Ψ:Gst->Prop}{G G1:List (Nat × AV)}{A B c:Code}{id k:Nat}{e:Exit}{S R:Type}
theorem To.sk (h:Trim true (get G) (get G1) G1):To P N .skip G G1:=.skip h
inductive Be:Gst->List (Nat × AV)->Prop
 | rf {G:List (Nat × AV)}:Be (get G) G
 | wk {g g1:Gst}{G:List (Nat × AV)}(h:Wk g g1) (hb:Be g1 G):Be g G
theorem Be.trans {g:Gst}{G G1:List (Nat × AV)}(h:Be g G) (h1:Be (get G) G1):Be g G1:=by
 induction h with
 | rf=>exact h1
 | wk h _ ih=>exact .wk h (ih h1)
inductive Ev1 (P:Program) (N:Rm):Gst->Exit->(Exit->Gst->Prop)->Prop
 | rf {g:Gst}{e:Exit}{Φ:Exit->Gst->Prop}(h:Φ e g):Ev1 P N g e Φ
 | wk {g g1:Gst}{e:Exit}{Φ:Exit->Gst->Prop}(hw:Wk g g1) (h:Ev1 P N g1 e Φ):Ev1 P N g e Φ
theorem W.outs {g:Gst}(h:W P N c g Φ) (hΦ:∀ e g',Φ e g'->Ev1 P N g' e Φ'):W P N c g Φ':=by
 intro a w I Fs Q hS hN hQ
 refine h hS hN fun e g' a' w' hp hn=>?_
 have hev:=hΦ e g' hp
 clear hp hΦ
 revert hn
 induction hev with
 | rf h=>exact fun hn=>hQ _ _ _ _ h hn
 | wk hw _ ih =>
  intro hn
  refine ih hQ ?_
  obtain ⟨h1,h2,I',Fs',hS',hst⟩:=hn
  obtain ⟨Fs2,hS2,hsub⟩:=hS'.wk hw
  exact ⟨h1,h2,I',Fs2,hS2,hst.fr,hst.more,hst.new,fun c ⟨t,hc⟩=>hst.own c ⟨t,hsub t c hc⟩⟩
def Px (e:Exit) (Φ:Exit->Gst->Prop) (G:List (Nat × AV)):Prop:=∀ g,Be g G->Φ e g
theorem W.be {g:Gst}(h:W P N c (get G) Φ) (hb:Be g G):W P N c g Φ:=by
 induction hb with
 | rf=>exact h
 | wk hw _ ih=>exact (ih h).weaken hw
theorem WL.be {g:Gst}(h:WL P N c (get G) Φ) (hb:Be g G):WL P N c g Φ:=by
 induction hb with
 | rf=>exact h
 | wk hw _ ih=>exact (ih h).weaken hw
theorem Px.sq (h:W P N B (get G) Φ):Px .normal (thenP (fun g1=>W P N B g1 Φ) Φ') G:=fun _ hb=>thenN (h.be hb)
theorem Px.sqE (h:Px (.exit k) Φ' G):Px (.exit k) (thenP Ψ Φ') G:=fun g hb=>thenE (h g hb)
theorem Px.sqR (h:Px .ret Φ' G):Px .ret (thenP Ψ Φ') G:=fun g hb=>thenR (h g hb)
theorem Px.bk (h:Px .normal Φ G):Px .normal (inB id Φ) G:=fun g hb=>inBN (h g hb)
theorem Px.bkH (h:Px .normal Φ G):Px (.exit id) (inB id Φ) G:=fun g hb=>inBH (h g hb)
theorem Px.bkR (h:Px .ret Φ G):Px .ret (inB id Φ) G:=fun g hb=>inBR (h g hb)
theorem W.xi (h:Px (.exit k) Φ G):W P N (.exit k) (get G) Φ:=W.exit (h _ .rf)
theorem W.sk (h:Px .normal Φ G):W P N .skip (get G) Φ:=W.skip (h _ .rf)
theorem W.rt (h:Px .ret Φ G):W P N .ret (get G) Φ:=W.ret (h _ .rf)
theorem W.rx {id:Nat}{l:List Oper}(G1:List (Nat × AV)) (h:RunL P N l.toArray l (get G) fun g'=>Wk g' (get G1)) (hk:Px .normal Φ G1):W P N (.region id l.toArray false) (get G) Φ :=
 W.reg (fun i hi=>by obtain ⟨g',h1,h2⟩:=h i hi; exact ⟨g',h1,hk g' (.wk h2 .rf)⟩)
theorem W.tr {G1:List (Nat × AV)}(h:Trim true (get G) (get G1) G1) (hw:W P N c (get G1) Φ):W P N c (get G) Φ:=hw.weaken h.wk
theorem W.st {G:List (Nat × AV)}(G1:List (Nat × AV)) (h:W P N c (get G1) Φ) (e:G1=G:=by rfl):W P N c (get G) Φ:=by subst e; exact h
theorem W.bk (h:W P N c (get G) (inB id Φ)):W P N (.block id c) (get G) Φ:=W.block h
theorem W.jn (G1:List (Nat × AV)) (h:W P N c (get G) fun e g=>e=.normal/\Be g G1) (hk:Px .normal Φ G1):W P N c (get G) Φ :=
 h.mono fun e g ⟨he,hb⟩=>by subst he; exact hk g hb
theorem Px.jn (h:Trim true (get G) (get G1) G1):Px .normal (fun e g=>e=.normal/\Be g G1) G:=fun _ hb=>⟨rfl,hb.trans (.wk h.wk .rf)⟩
def Rd2 (G:S->List (Nat × AV)) (Ψ:R->Exit->Gst->Prop):S ⊕ R->Exit->Gst->Prop
 | .inl s,e,g=>e=.normal/\Be g (G s)
 | .inr r,e,g=>e≠.normal/\Ψ r e g
theorem WL.it {f:S->Option (S ⊕ R)}{G:S->List (Nat × AV)}{Ψ:R->Exit->Gst->Prop}(hb:∀ s o,f s=some o->W P N c (get (G s)) (Rd2 G Ψ o)) :
  ∀ (n:Nat) (s:S) (r:R),Own.iter f n s=some r->WL P N c (get (G s)) (Ψ r)
 | 0,_,_,h=>by simp [Own.iter] at h
 | n+1,s,r,h=>by
  simp only [Own.iter] at h
  cases hf:f s with
  | none=>rw [hf] at h; cases h
  | some o =>
   rw [hf] at h
   refine .step ((hb s o hf).mono fun e g' hr=>?_)
   cases o with
   | inl s' =>
    obtain ⟨rfl,hw⟩:=hr
    exact (WL.it hb n s' r h).be hw
   | inr r' =>
    cases h
    obtain ⟨hn,hw⟩:=hr
    cases e with
    | normal=>exact absurd rfl hn
    | _=>exact hw
theorem W.lp {f:S->Option (S ⊕ R)}{s:S}{r:R}(G:S->List (Nat × AV)) (Ψ:R->Exit->Gst->Prop) (h:loopM f s=some r) (hb:∀ s o,f s=some o->W P N c (get (G s)) (Rd2 G Ψ o)) (hk:∀ e g,Ψ r e g->Φ e g):W P N (.loop c) (get (G s)) Φ :=
 (W.loop (WL.it hb fuel s r h)).mono hk
theorem W.lp1 {f:S->Option (S ⊕ R)}{s:S}{r:R}(G:S->List (Nat × AV)) (id:Nat) (Gx:R->List (Nat × AV)) (h:loopM f s=some r) (hb:∀ s o,f s=some o->W P N c (get (G s)) (Rd2 G (fun r e g=>e=.exit id/\Be g (Gx r)) o)) (hk:Px (.exit id) Φ (Gx r)):W P N (.loop c) (get (G s)) Φ :=
 .lp G _ h hb fun e g ⟨he,hg⟩=>by subst he; exact hk g hg
theorem W.lp2 {R2:Type}{f:S->Option (S ⊕ (R ⊕ R2))}{s:S}{r:R ⊕ R2}(G:S->List (Nat × AV)) (id:Nat) (Gx:R->List (Nat × AV)) (Gr:R2->List (Nat × AV)) (h:loopM f s=some r)
  (hb:∀ s o,f s=some o->W P N c (get (G s)) (Rd2 G (fun (r:R ⊕ R2) e g=>match r with | .inl r=>e=.exit id/\Be g (Gx r) | .inr r=>e=.ret/\Be g (Gr r)) o))
  (hx:∀ x,r=.inl x->Px (.exit id) Φ (Gx x)) (hr:∀ x,r=.inr x->Px .ret Φ (Gr x)):W P N (.loop c) (get (G s)) Φ:=by
 refine .lp G _ h hb fun e g h=>?_
 cases r with
 | inl r=>obtain ⟨rfl,hg⟩:=h; exact hx r rfl g hg
 | inr r=>obtain ⟨rfl,hg⟩:=h; exact hr r rfl g hg
theorem Px.go {s:S}{F:S->List (Nat × AV)}{Ψ:R->Exit->Gst->Prop}(h:Trim true (get G) (get (F s)) (F s)):Px .normal (Rd2 F Ψ (.inl s)) G:=fun _ hb=>⟨rfl,hb.trans (.wk h.wk .rf)⟩
theorem Px.x1 {r:R}{F:S->List (Nat × AV)}{Gx:R->List (Nat × AV)}(h:Trim true (get G) (get (Gx r)) (Gx r)):Px (.exit id) (Rd2 F (fun r e g=>e=.exit id/\Be g (Gx r)) (.inr r)) G:=fun _ hb=>⟨by simp,rfl,hb.trans (.wk h.wk .rf)⟩
theorem Px.x2 {R2:Type}{r:R}{F:S->List (Nat × AV)}{Gx:R->List (Nat × AV)}{Gr:R2->List (Nat × AV)}(h:Trim true (get G) (get (Gx r)) (Gx r)) :
  Px (.exit id) (Rd2 F (fun (r:R ⊕ R2) e g=>match r with | .inl r=>e=.exit id/\Be g (Gx r) | .inr r=>e=.ret/\Be g (Gr r)) (.inr (.inl r))) G:=fun _ hb=>⟨by simp,rfl,hb.trans (.wk h.wk .rf)⟩
theorem Px.r2 {R2:Type}{r:R2}{F:S->List (Nat × AV)}{Gx:R->List (Nat × AV)}{Gr:R2->List (Nat × AV)}(h:Trim true (get G) (get (Gr r)) (Gr r)) :
  Px .ret (Rd2 F (fun (r:R ⊕ R2) e g=>match r with | .inl r=>e=.exit id/\Be g (Gx r) | .inr r=>e=.ret/\Be g (Gr r)) (.inr (.inr r))) G:=fun _ hb=>⟨by simp,rfl,hb.trans (.wk h.wk .rf)⟩
def FinW (P:Program) (N:Rm) (rs:List ResultVar) (n:Nat) (outs:List (Option AV)) (res:AV) (e:Exit) (g:Gst):Prop:=∃ G,Be g G/\Fin P N rs n outs res e (get G)
theorem W.fin {rs:List ResultVar}{n:Nat}{outs:List (Option AV)}{res:AV}{g:Gst}(h:W P N c g (FinW P N rs n outs res)):W P N c g (Fin P N rs n outs res):=by
 have key:∀ e g,FinW P N rs n outs res e g->Ev1 P N g e (Fin P N rs n outs res):=by
  rintro e g ⟨G,hb,hf⟩
  induction hb with
  | rf=>exact .rf hf
  | wk hw _ ih=>exact .wk hw (ih hf)
 exact W.outs h key
theorem Px.fin {rs:List ResultVar}{n:Nat}{outs:List (Option AV)}{res:AV}(h:Fin P N rs n outs res e (get G)):Px e (FinW P N rs n outs res) G:=fun _ hb=>⟨G,hb,h⟩
end
end Go.Own
namespace Go.Own
open Go
set_option linter.unusedSectionVars false
variable [TB]
section
variable {P:Program}{N:Rm}{ops:Array Oper}{AT:List (List Nat)}{g0:Gst}{K:Gst->Prop}{l:List Oper}{acc:Acc}{d i:Nat}{op:Op}{ty:TypeId}{pos:String}{after:Array Edge}{x:AV}{gd:Option (Nat × Bool)}
abbrev vis (AT:List (List Nat)) (g0:Gst) (j:Nat) (acc:Acc):Gst:=visG g0 (fun m=>(AT.getD j []).contains m) acc
def DL (P:Program) (N:Rm) (ops:Array Oper) (AT:List (List Nat)) (g0:Gst) (i:Nat) (acc:Acc) (l:List Oper) (K:Gst->Prop):Prop:=∀ U0 j,PendOk P N ops AT g0 i U0->Seg P N ops AT g0 i U0 j acc->ops.toList.drop j=l->∃ g',DRun P N ops AT i U0 g0 g'/\K g'
theorem drop_at {j j0:Nat}{o:Oper}(h:ops.toList.drop j=o::l) (hj:Nat.beq ops.size (j0+l.length+1)=true):j=j0:=by
 have h1:=congrArg List.length h
 rw [List.length_drop,List.length_cons,Array.length_toList] at h1
 have:=Nat.eq_of_beq_eq_true hj
 omega
theorem acc_new (hn:acc.all (fun e=>!Nat.beq e.2.1 d)=true):∀ e∈acc,e.2.1≠d:=by
 intro e he h
 have:=List.all_eq_true.1 hn e he
 rw [h] at this
 simp at this
theorem DL.st (j0:Nat) {r:Option AV}{o:Oper}(hd:o.dst=some d) (hs:StepOk P (vis AT g0 j0 acc) ops o r) (hj:Nat.beq ops.size (j0+l.length+1)=true) (hf:g0 d=none) (hn:acc.all (fun e=>!Nat.beq e.2.1 d)=true) (hN:N.ok d=true)
  (hk:DL P N ops AT g0 i ((j0,d,r)::acc) l K):DL P N ops AT g0 i acc (o::l) K:=by
 intro U0 j hP hseg hdrop
 have:=drop_at hdrop hj
 subst this
 obtain ⟨h1,h2⟩:=drop_cons hdrop
 exact hk U0 (j+1) hP (.step hseg h1 hd hf (acc_new hn) hN hs) h2
theorem DL.v (j0:Nat) (hp:PS P (vis AT g0 j0 acc) op ty x) (hj:Nat.beq ops.size (j0+l.length+1)=true) (hf:g0 d=none) (hn:acc.all (fun e=>!Nat.beq e.2.1 d)=true) (hN:N.ok d=true) (hg:Gd (vis AT g0 j0 acc) ops gd)
  (hk:DL P N ops AT g0 i ((j0,d,some x)::acc) l K):DL P N ops AT g0 i acc (⟨some d,op,ty,pos,after,gd⟩::l) K :=
 .st j0 (r:=some x) rfl (.inl ⟨hg.wanted,.inl hp⟩) hj hf hn hN hk
theorem DL.c (j0:Nat) (hp:PC P (vis AT g0 j0 acc) op x) (hj:Nat.beq ops.size (j0+l.length+1)=true) (hf:g0 d=none) (hn:acc.all (fun e=>!Nat.beq e.2.1 d)=true) (hN:N.ok d=true) (hg:Gd (vis AT g0 j0 acc) ops gd)
  (hk:DL P N ops AT g0 i ((j0,d,some x)::acc) l K):DL P N ops AT g0 i acc (⟨some d,op,ty,pos,after,gd⟩::l) K :=
 .st j0 (r:=some x) rfl (.inl ⟨hg.wanted,.inr hp⟩) hj hf hn hN hk
theorem DL.ps (j0:Nat) {j' t':Nat}{b c:Bool}(h:(ops[j']?).bind (·.dst)=some t') (hg:vis AT g0 j0 acc t'=some (BB c)) (hb:c=!b) (hj:Nat.beq ops.size (j0+l.length+1)=true) (hf:g0 d=none) (hn:acc.all (fun e=>!Nat.beq e.2.1 d)=true) (hN:N.ok d=true)
  (hk:DL P N ops AT g0 i ((j0,d,some (.tup []))::acc) l K):DL P N ops AT g0 i acc (⟨some d,op,ty,pos,after,some (j',b)⟩::l) K :=
 .st j0 (r:=some (.tup [])) rfl (.inr (.inl ⟨⟨t',h,.inl ⟨c,hg,by subst hb; cases b <;> rfl⟩⟩,rfl⟩)) hj hf hn hN hk
def npB (G:List (Nat × AV)):Bool:=G.all fun p=>match p.2 with | .pend ..=>false | _=>true
theorem npB_spec {G:List (Nat × AV)}(h:npB G=true):∀ t z q n m new,get G t≠some (.pend z q n m new):=by
 induction G with
 | nil=>intro t z q n m new hx; cases hx
 | cons p G ih =>
  obtain ⟨s,x⟩:=p
  simp only [npB,List.all_cons,Bool.and_eq_true] at h
  intro t z q n m new hx
  simp only [get] at hx
  split at hx
  ·cases hx; exact absurd h.1 (by simp)
  ·exact ih h.2 t z q n m new hx
def ndz:List Place->Bool
 | []=>true
 | p::l=>l.all (fun q=>!(Nat.beq p.root q.root&&decide (p.path=q.path)))&&ndz l
omit [TB] in
theorem ndz_spec:∀ {l:List Place},ndz l=true->l.Nodup
 | [],_=>List.nodup_nil
 | p::l,h=>by
  simp only [ndz,Bool.and_eq_true,List.all_eq_true] at h
  refine List.nodup_cons.2 ⟨fun hm=>?_,ndz_spec h.2⟩
  have:=h.1 p hm
  simp at this
theorem DL.fin {G G1:List (Nat × AV)}(hz:ndz (acc.filterMap pendPlace)=true) (hp0:npB G=true) (hi:Nat.ble i ops.size=true) (h:Trim true (visG (get G) (fun _=>true) acc) (get G1) G1):DL P N ops AT (get G) i acc [] fun g'=>Wk g' (get G1):=by
 intro U0 j hP hseg hdrop
 have hj:j=ops.size:=by
  have h1:ops.size<=j:=by
   have:=congrArg List.length hdrop
   rw [List.length_drop,List.length_nil,Array.length_toList] at this
   omega
  have h3:j<=ops.size:=by
   cases hseg with
   | nil=>exact Nat.le_of_ble_eq_true hi
   | step _ ho=>have:=(Array.getElem?_eq_some_iff.1 ho).1; omega
  omega
 subst hj
 exact ⟨_,.fin hseg (ndz_spec hz) (npB_spec hp0),h.wk⟩
theorem DRun.bar0 {g g1 g':Gst}{i j:Nat}{U0:Acc}{o:Oper}(hP:PendOk P N ops AT g i U0) (hs:Seg P N ops AT g i U0 j acc) (hpd:(acc.filterMap pendPlace).Nodup) (hp0:∀ t z q n m new,g t≠some (.pend z q n m new)) (ho:ops[j]?=some o) (hw:Wanted (visG g (fun _=>true) acc) ops o true)
  (he:EO P N (visG g (fun _=>true) acc) o g1) (ha:(List.range j).all (fun k=>(AT.getD j []).contains k)=true) (hb:(List.range ops.size).all (fun k=>decide (k<=j)||(AT.getD k []).contains j)=true) (hr:DRun P N ops AT (j+1) [] g1 g'):DRun P N ops AT i U0 g g':=by
 have hA:∀ e∈acc,(AT.getD j []).contains e.1=true:=fun e h=>List.all_eq_true.1 ha e.1 (List.mem_range.2 ((hs.le hP).2 e h))
 have e:visG g (fun m=>(AT.getD j []).contains m) acc=visG g (fun _=>true) acc:=funext fun t=>visG_congr fun e h _=>hA e h
 have hU:[]=acc.filter fun e=>!(AT.getD j []).contains e.1:=by
  symm
  rw [List.filter_eq_nil_iff]
  intro a h
  rw [hA a h]
  decide
 exact .bar (rs:=rsV []) hs hpd hp0 ho (by rw [e]; exact hw) (by rw [e]; exact he.eff.v) (fun p hp=>by simp [rsV] at hp) hU (by simp) (by simp) (by simp) hb hr
theorem W.rd {id:Nat}{l:List Oper}{G:List (Nat × AV)}{Φ:Exit->Gst->Prop}(AT:List (List Nat)) (G1:List (Nat × AV)) (hm:P.follows .mixedOrders=true) (hA:ancOk l.toArray AT=true)
  (h:DL P N l.toArray AT (get G) 0 [] l fun g'=>Wk g' (get G1)) (hk:Px .normal Φ G1):W P N (.region id l.toArray true) (get G) Φ:=by
 obtain ⟨g',h1,h2⟩:=h [] 0 .nil .nil (by simp)
 exact (Ev.draw hm hA h1).w (hk g' (.wk h2 .rf))
end
end Go.Own
namespace Go.Own
open Go
set_option linter.unusedSectionVars false
variable [TB]
variable {α:Type}
section
variable {P:Program}{N:Rm}{ops:Array Oper}{g g2:Gst}{K:Gst->Prop}{l:List Oper}{d r:Nat}{ty t t2:TypeId}{pos:String}{after:Array Edge}{a b c:Operand}{k k':IntKind}{m n:Int}{s u:ByteArray}
namespace O
theorem bu {t:TypeId}{parts:Array (Nat × Operand)}{pl:List (Nat × Nat)}{zv:Value}{ps:List (Nat × List AV)}{cs:List AV}(ht:structT P t pl=true) (hz:(P.info? t).bind (·.zero)=some zv) (h1:zv.cells.toList.all Value.oneCell'=true)
  (hp:partsAV g parts.toList=some ps) (hc:fillAV (fun i=>pl[i]?) (zv.cells.toList.map ofCell) ps=some cs):PS P g (.build t parts) ty (.agg cs):=.p3 (.build ht hz (by rw [<- Array.all_toList]; exact h1) hp hc)
end O
inductive SK (g g2:Gst):AV->Prop
 | n {x:AV}(h:NR x):SK g g2 x
 | p {r k:Nat}{cs cs2:List AV}(h:g r=some (.obj cs)) (hk:k<cs.length) (h2:g2 r=some (.obj cs2)) (hk2:k<cs2.length):SK g g2 (.ptr ⟨r,[]⟩ k)
 | r {z n N N2 q:Nat}{cs cs2:List AV}(h:g q=some (.own z N cs)) (hn:n<=N) (h2:g2 q=some (.own z N2 cs2)) (hn2:n<=N2):SK g g2 (.brw z ⟨q,[]⟩ n)
theorem refOk_obj {r k:Nat}{cs:List AV}(h:g r=some (.obj cs)) (hk:k<cs.length):RefOk g (.ptr ⟨r,[]⟩ k):=⟨.obj cs,by simp [atP,h,AV.at],0,0,cs,.inr rfl,hk⟩
theorem refOk_own {z n N q:Nat}{cs:List AV}(h:g q=some (.own z N cs)) (hn:n<=N):RefOk g (.brw z ⟨q,[]⟩ n):=.inl ⟨N,cs,by simp [atP,h,AV.at],hn⟩
theorem SK.rk {x:AV}(h:SK g g2 x):RK g2 x:=by
 cases h with
 | n h=>exact .nr h
 | p _ _ h2 hk2=>exact .ref rfl (refOk_obj h2 hk2)
 | r _ _ h2 hn2=>exact .ref rfl (refOk_own h2 hn2)
theorem SK.rkp {x:AV}{r0 k0 m0:Nat}(h:SK g g2 x):RKp (fun r=>RefOk g r/\Clear ⟨r0,[]⟩ k0 m0 r/\RefOk g2 r) x:=by
 cases h with
 | n h=>exact .nr h
 | p h hk h2 hk2 =>
  refine .ref rfl ⟨refOk_obj h hk,?_,refOk_obj h2 hk2⟩
  intro q hq _ j r' e
  simp only [refPlace,Option.some.injEq] at hq
  subst hq
  simp at e
 | r h hk h2 hk2 =>
  refine .ref rfl ⟨refOk_own h hk,?_,refOk_own h2 hk2⟩
  intro q hq _ j r' e
  simp only [refPlace,Option.some.injEq] at hq
  subst hq
  simp at e
theorem SK.np {x:AV}(h:SK g g2 x):∀ z p n m new,x≠.pend z p n m new:=by
 rintro z p n m new rfl
 cases h with
 | n h=>cases h
inductive TrS (g g2:Gst) (r:Nat) (cs2:List AV):List (Nat × AV)->Prop
 | nil:TrS g g2 r cs2 []
 | n {s:Nat}{x:AV}{l:List (Nat × AV)}(hne:Nat.beq s r=false) (h:g s=some x) [hn:NRc x] (t:TrS g g2 r cs2 l):TrS g g2 r cs2 ((s,x)::l)
 | p {s q k:Nat}{l:List (Nat × AV)}{cs ct:List AV}(hne:Nat.beq s r=false) (h:g s=some (.ptr ⟨q,[]⟩ k)) (h1:g q=some (.obj cs)) (hk:Nat.blt k cs.length=true) (h2:g2 q=some (.obj ct)) (hk2:Nat.blt k ct.length=true) (t:TrS g g2 r cs2 l):TrS g g2 r cs2 ((s,.ptr ⟨q,[]⟩ k)::l)
 | w {α:Type}{s q:Nat}{en:En α}{L:List α}{l:List (Nat × AV)}(hne:Nat.beq s r=false) (h:g s=some (.brw en.z ⟨q,[]⟩ L.length)) (h1:g q=some (oR en L)) (h2:g2 q=some (oR en L)) (t:TrS g g2 r cs2 l):TrS g g2 r cs2 ((s,.brw en.z ⟨q,[]⟩ L.length)::l)
 | b {l:List (Nat × AV)}{x:AV}(e:x=.obj cs2) [hn:NRl cs2] (t:TrS g g2 r cs2 l):TrS g g2 r cs2 ((r,x)::l)
theorem TrS.spec {cs2:List AV}{l:List (Nat × AV)}(h:TrS g g2 r cs2 l):∀ t x,get l t=some x->(t≠r/\g t=some x/\SK g g2 x)\/(t=r/\x=.obj cs2/\NR x):=by
 induction h with
 | nil=>intro t x hx; cases hx
 | @n s x l hne h hn _ ih =>
  intro t y hy; simp only [get] at hy
  split at hy
  ·rename_i e; subst e; cases hy; exact .inl ⟨Nat.ne_of_beq_eq_false hne,h,.n hn.nr⟩
  ·exact ih t y hy
 | @p s q k l cs ct hne h h1 hk h2 hk2 _ ih =>
  intro t y hy; simp only [get] at hy
  split at hy
  ·rename_i e; subst e; cases hy; exact .inl ⟨Nat.ne_of_beq_eq_false hne,h,.p h1 (by simpa using hk) h2 (by simpa using hk2)⟩
  ·exact ih t y hy
 | @w α s q en L l hne h h1 h2 _ ih =>
  intro t y hy; simp only [get] at hy
  split at hy
  ·rename_i e; subst e; cases hy; exact .inl ⟨Nat.ne_of_beq_eq_false hne,h,.r h1 (Nat.le_refl _) h2 (Nat.le_refl _)⟩
  ·exact ih t y hy
 | @b l x e hn _ ih =>
  intro t y hy; simp only [get] at hy
  split at hy
  ·rename_i e'; subst e'; cases hy; subst e; exact .inr ⟨rfl,rfl,.obj hn.nr⟩
  ·exact ih t y hy
theorem EO.box {o:Oper}{k0:Nat}{cs cs' cs2:List AV}{y:AV}{G2:List (Nat × AV)}(ho:o.op=.store t a b) (hd:o.dst=none) (hs:g r=some (.obj cs)) (ha:Rd g a (.ptr ⟨r,[]⟩ k0)) (hb:Rd g b y) (hn:NR y) (hc:cellsP y=some cs') (hz:sizeT P t cs'.length=true)
  (hk:k0+cs'.length<=cs.length) (h0:0<cs'.length) (he:splice cs k0 cs'=cs2) [hno:NRl cs] (hr:get G2 r≠none) (hG:TrS g (get G2) r cs2 G2):EO P N g o (get G2):=by
 subst he
 have hroot:g r≠none:=by rw [hs]; simp
 refine .store ho hd ha.opd hb.opd (.nr (by simpa using hn)) .refl hc hz (p:=⟨r,[]⟩) (nd:=.obj cs) (z:=0) (n:=0) (by simp [atP,hs,AV.at]) (.inr rfl) hk h0 (fun t x hx=>?_) (fun t x hx y hy=>?_) (fun t z q n m new hx=>?_) hr
 ·rcases hG.spec t x hx with ⟨h1,h2,_⟩ | ⟨h1,h2,_⟩
  ·rw [setP_slot h1]; exact h2
  ·subst h1 h2; simp [setP,hs,AV.setAt,AV.splice]
 ·rcases hG.spec t x hx with ⟨h1,h2,h3⟩ | ⟨h1,h2,h3⟩
  ·rw [h2] at hy; cases hy; exact h3.rkp
  ·subst h1
   rw [hs] at hy
   cases hy
   exact .nr (.obj hno.nr)
 ·rcases hG.spec t _ hx with ⟨_,_,h3⟩ | ⟨_,h2,_⟩
  ·exact h3.np _ _ _ _ _ rfl
  ·cases h2
theorem Trim.q {bb:Bool}{sl q k0:Nat}{cs:List AV}{lG:List (Nat × AV)}(h:g sl=some (.ptr ⟨q,[]⟩ k0)) (h2:g2 q=some (.obj cs)) (hk:Nat.blt k0 cs.length=true) (tt:Trim bb g g2 lG):Trim bb g g2 ((sl,.ptr ⟨q,[]⟩ k0)::lG) :=
 .r h (.ref rfl (refOk_obj h2 (by simpa using hk))) (by simp) tt
theorem RunL.ef {o:Oper}{G2:List (Nat × AV)}(hg:o.guard=none) (he:EO P N g o (get G2)) (hk:RunL P N ops l (get G2) K):RunL P N ops (o::l) g K:=by
 intro i hi
 obtain ⟨h1,h2⟩:=drop_cons hi
 obtain ⟨g',hr,hK⟩:=hk (i+1) h2
 refine ⟨g',.eff h1 ?_ he hr,hK⟩
 unfold Wanted; rw [hg]
variable {AT:List (List Nat)}{acc:Acc}{i:Nat}
theorem DL.bar (j0:Nat) {G G2:List (Nat × AV)}{o:Oper}(he:EO P N (visG (get G) (fun _=>true) acc) o (get G2)) (hg:o.guard=none) (hz:acc.filterMap pendPlace=[]) (hp0:npB G=true) (hj:Nat.beq ops.size (j0+l.length+1)=true)
  (ha:(List.range j0).all (fun k=>(AT.getD j0 []).contains k)=true) (hb:(List.range ops.size).all (fun k=>Nat.ble k j0||(AT.getD k []).contains j0)=true) (hk:DL P N ops AT (get G2) (j0+1) [] l K):DL P N ops AT (get G) i acc (o::l) K:=by
 intro U0 j hP hseg hdrop
 have:=drop_at hdrop hj
 subst this
 obtain ⟨h1,h2⟩:=drop_cons hdrop
 obtain ⟨g',hr,hK⟩:=hk [] (j+1) .nil .nil h2
 refine ⟨g',.bar0 hP hseg (by rw [hz]; exact List.nodup_nil) (npB_spec hp0) h1 ?_ he ha ?_ hr,hK⟩
 ·unfold Wanted; rw [hg]
 ·refine List.all_eq_true.2 fun k hk=>?_
  have:=List.all_eq_true.1 hb k hk
  simp only [Bool.or_eq_true,decide_eq_true_eq,Nat.ble_eq] at this ⊢
  exact this
end
end Go.Own
namespace Go.Own
open Go
set_option linter.unusedSectionVars false
variable [TB]
variable {α β:Type}
def mkO (m:Int) (z:α):Option (List α):=if 0<=m/\m<=lim then some (List.replicate m.toNat z) else none
def appO (l m:List α):Option (List α):=if l.length+m.length<=lim then some (l++m) else none
class Flat (e:En α):Prop where fl:∀ a,(e.cells a).all flatB=true
instance:Flat eI:=⟨fun _=>rfl⟩
instance:Flat eU:=⟨fun _=>rfl⟩
instance:Flat eB:=⟨fun _=>rfl⟩
instance:Flat eS:=⟨fun _=>rfl⟩
instance {e:En α}:Flat (eM e):=⟨fun _=>rfl⟩
theorem oR_app (e:En α) (l m:List α):(.own e.z (l.length+m.length) (rowc e l++rowc e m):AV)=oR e (l++m):=by
 unfold oR
 rw [List.length_append,rowc_app]
theorem rowc_take_all (e:En α) (l:List α):(rowc e l).take (l.length * e.z)=rowc e l:=List.take_of_length_le (by rw [rowc_len]; omega)
section
variable {P:Program}{N:Rm}{ops:Array Oper}{g g1 g2:Gst}{K:Gst->Prop}{l:List Oper}{d r:Nat}{ty t t2:TypeId}{pos:String}{after:Array Edge}{gd:Option (Nat × Bool)}{a b c:Operand}{k k':IntKind}{m n:Int}{s u:ByteArray}{p q:Place}
namespace O
theorem bs {e nn:Nat}{parts:Array (Nat × Operand)}{ys:List AV}(en:En α) (L:List α) (ht:slT P t e en.z=true) (hx:opds g (parts.toList.map (·.2))=some ys) (hc:boxAll ys=some (rowc en L)) (hz:ys.all (fun y=>match boxCells y with | some c=>Nat.beq c.length en.z | none=>false)=true)
  (hp:parts.toList=(parts.toList.map (·.2)).mapIdx (fun i x=>(i,x))) (hn:(parts.toList.map (·.2)).length=nn) (hl:L.length=nn) (hzero:zeroT P e en.z=true) (hb:Nat.ble (nn * en.z) 16777216=true) (hb2:Nat.ble nn 16777216=true):PS P g (.buildSlice t nn parts) ty (oR en L):=by
 subst hn
 have:=PS2.buildSlice (P:=P) (ty:=ty) ht hp hx (fun y hy=>by
  have:=List.all_eq_true.1 hz y hy
  cases hc':boxCells y with
  | none=>rw [hc'] at this; cases this
  | some c=>rw [hc'] at this; exact ⟨c,rfl,Nat.eq_of_beq_eq_true this⟩) hc (Nat.le_of_ble_eq_true hb) (Nat.le_of_ble_eq_true hb2) (.inr (zeroT_spec hzero))
 unfold oR
 rw [hl]
 exact .p2 this
theorem lenO {z z' n:Nat}{e:TypeId}(hx:Rd g a (.brw z p n)) (ht:slT P t e z'=true):PS P g (.call { callee:=.builtin .len,args:=#[a],argTypes:=#[t] }) ty (I64 n):=.p1 (.lenBrw hx.opd ht)
theorem ixO {en:En α}{L:List α}{y:α}{e:TypeId}(hp:atP g p=some (oR en L)) (hx:Rd g a (.brw en.z p L.length)) (hi:Rd g b (.lit (.int k m))) (ht:slT P t e en.z=true) (h:idx L m=some y) (hz:Nat.blt 0 en.z=true):PS P g (.indexAddr t a b) ty (.ptr p (m.toNat * en.z+0)):=by
 obtain ⟨h0,h1,_⟩:=idx_spec h
 obtain ⟨j,rfl⟩:=Int.eq_ofNat_of_zero_le h0
 have hz':0<en.z:=by simpa using hz
 have hj:j<L.length:=by omega
 refine .p1 (.idxBrw hx.opd hi.opd ht hj ⟨_,hp,_,_,_,.inl rfl,?_⟩)
 rw [rowc_len]; exact Nat.mul_lt_mul_of_pos_right hj hz'
theorem atP_el {en:En α}{L:List α}{y:α}{o:Nat}{x:AV}(hp:atP g p=some (oR en L)) (h:idx L m=some y) (hc:(en.cells y)[o]?=some x):atP g (p.push (m.toNat * en.z+o))=some x:=by
 rw [atP_push,hp]
 exact rowc_at en h hc
theorem ldE {en:En α}{L:List α}{y:α}{o:Nat}{x x':AV}(hp:atP g p=some (oR en L)) (hx:Rd g a (.ptr p (m.toNat * en.z+o))) (ht:cellT P t=true) (h:idx L m=some y) (hc:(en.cells y)[o]?=some x) (hr:refIn 0 (p.push (m.toNat * en.z+o)) x=x'):PS P g (.load t a) ty x':=by
 subst hr
 exact .p1 (.load1 hx.opd ht (atP_el hp h hc))
end O
class NoPd (g:Gst):Prop where np:∀ t z q n m new,g t≠some (.pend z q n m new)
class NPc (x:AV):Prop where np:∀ z q n m new,x≠.pend z q n m new
instance {x:AV} [h:NRc x]:NPc x:=⟨by rintro z q n m new rfl; cases h.nr⟩
instance {p:Place}{k:Nat}:NPc (.ptr p k):=⟨by simp⟩
instance {p:Place}{z n:Nat}:NPc (.brw z p n):=⟨by simp⟩
instance {p:Place}{z lo n:Nat}:NPc (.sub z p lo n):=⟨by simp⟩
instance {cs:List AV}:NPc (.agg cs):=⟨by simp⟩
instance {cs:List AV}:NPc (.tup cs):=⟨by simp⟩
instance {cs:List AV}:NPc (.obj cs):=⟨by simp⟩
instance {g:Gst}{d:Nat}{x:AV} [h:NoPd g] [hx:NPc x]:NoPd (upd g d x):=⟨fun t z q n m new e=>by
 unfold upd at e
 split at e
 ·cases e; exact hx.np _ _ _ _ _ rfl
 ·exact h.np _ _ _ _ _ _ e⟩
instance:NoPd (get []):=⟨fun _ _ _ _ _ _ e=>by cases e⟩
instance {t:Nat}{x:AV}{G:List (Nat × AV)} [hx:NPc x] [h:NoPd (get G)]:NoPd (get ((t,x)::G)):=⟨fun s z q n m new e=>by
 simp only [get] at e
 split at e
 ·cases e; exact hx.np _ _ _ _ _ rfl
 ·exact h.np _ _ _ _ _ _ e⟩
class NPa (acc:Acc):Prop where np:∀ e∈acc,∀ z q n m new,e.2.2≠some (.pend z q n m new)
instance:NPa []:=⟨by simp⟩
instance {j d:Nat}{x:AV}{acc:Acc} [hx:NPc x] [h:NPa acc]:NPa ((j,d,some x)::acc):=⟨fun e he z q n m new hh=>by
 rcases List.mem_cons.1 he with rfl | he
 ·exact hx.np z q n m new (Option.some.inj hh)
 ·exact h.np e he z q n m new hh⟩
instance {G:List (Nat × AV)}{A:Nat->Bool}{acc:Acc} [hg:NoPd (get G)] [h:NPa acc]:NoPd (visG (get G) A acc):=⟨fun t z q n m new e=>by
 rcases visG_some e with ⟨e',he,_,_,h2⟩ | ⟨_,h2⟩
 ·exact h.np e' he _ _ _ _ _ h2
 ·exact hg.np _ _ _ _ _ _ h2⟩
theorem app_bound {L M:List α}{r:List α}{b:Nat}(h:appO L M=some r) (hb:Nat.ble b 128=true):L.length+M.length<=4611686018427387904/\(L.length+M.length) * b<=140737488355328/\r=L++M:=by
 unfold appO at h
 split at h
 ·rename_i hl
  have hb':=Nat.le_of_ble_eq_true hb
  have hlim:lim=1099511627776:=rfl
  refine ⟨by omega,?_,(Option.some.inj h).symm⟩
  calc (L.length+M.length) * b<=1099511627776 * 128:=Nat.mul_le_mul hl hb'
   _=140737488355328:=by decide
 ·cases h
inductive Sr (g:Gst) (en:En α):AV->List α->Prop
 | i {M:List α}:Sr g en (.imm en.z M.length (rowc en M)) M
 | n:Sr g en .nils []
 | o {q:Place}{M:List α}(hq:atP g q=some (oR en M)) (hf:(rowc en M).all flatB=true):Sr g en (.brw en.z q M.length) M
theorem Sr.src {en:En α}{y:AV}{M:List α}(h:Sr g en y M):Src g y en.z M.length (rowc en M):=by
 cases h with
 | i=>exact .imm
 | n=>exact .nils
 | o hq hf =>
  have:=Src.brw (g:=g) (m:=M.length) hq (Nat.le_refl _)
  rw [rowc_take_all,flat_map (q:=fun i=>_) hf] at this
  exact this
namespace O
theorem ap {en:En α}{L M r:List α}{y:AV}{e b0:Nat}(hs:Rd g a (.brw en.z p L.length)) (hp:atP g p=some (oR en L)) (hx:Rd g b y) (hm:Sr g en y M) (ht:appT P t e en.z b0=true) (hb:Nat.ble b0 128=true) (h:appO L M=some r) [hno:NoPd g] :
  PS P g (.call { callee:=.builtin .append,args:=#[a,b],argTypes:=#[t,t] }) ty (.pend en.z p L.length M.length (rowc en M)):=by
 obtain ⟨h1,h2,_⟩:=app_bound h hb
 exact .pa (.grow hs.opd (.inl ⟨_,hp⟩) (fun t z' n' m' new' e=>hno.np _ _ _ _ _ _ e) hx.opd hm.src ht h1 h2)
end O
inductive TrK (ex:List Nat) (g g2:Gst):List (Nat × AV)->Prop
 | nil:TrK ex g g2 []
 | n {s:Nat}{x:AV}{l:List (Nat × AV)}(hne:ex.elem s=false) (h:g s=some x) [hn:NRc x] (t:TrK ex g g2 l):TrK ex g g2 ((s,x)::l)
 | p {s q k:Nat}{l:List (Nat × AV)}{ct:List AV}(hne:ex.elem s=false) (h:g s=some (.ptr ⟨q,[]⟩ k)) (h2:g2 q=some (.obj ct)) (hk2:Nat.blt k ct.length=true) (t:TrK ex g g2 l):TrK ex g g2 ((s,.ptr ⟨q,[]⟩ k)::l)
 | w {α:Type}{s q:Nat}{en:En α}{L:List α}{l:List (Nat × AV)}(hne:ex.elem s=false) (h:g s=some (.brw en.z ⟨q,[]⟩ L.length)) (h2:g2 q=some (oR en L)) (t:TrK ex g g2 l):TrK ex g g2 ((s,.brw en.z ⟨q,[]⟩ L.length)::l)
theorem TrK.spec {ex:List Nat}{l:List (Nat × AV)}(h:TrK ex g g2 l):∀ t x,get l t=some x->ex.elem t=false/\g t=some x/\RK g2 x/\∀ z p n m new,x≠.pend z p n m new:=by
 induction h with
 | nil=>intro t x hx; cases hx
 | @n s x l hne h hn _ ih =>
  intro t y hy; simp only [get] at hy
  split at hy
  ·rename_i e; subst e; cases hy; exact ⟨hne,h,.nr hn.nr,by rintro z p n m new rfl; cases hn.nr⟩
  ·exact ih t y hy
 | @p s q k l ct hne h h2 hk2 _ ih =>
  intro t y hy; simp only [get] at hy
  split at hy
  ·rename_i e; subst e; cases hy; exact ⟨hne,h,.ref rfl (refOk_obj h2 (by simpa using hk2)),by simp⟩
  ·exact ih t y hy
 | @w α s q en L l hne h h2 _ ih =>
  intro t y hy; simp only [get] at hy
  split at hy
  ·rename_i e; subst e; cases hy; exact ⟨hne,h,.ref rfl (.inl ⟨_,_,(by simp [atP,h2,AV.at]:atP g2 ⟨q,[]⟩=some (oR en L)),Nat.le_refl _⟩),by simp⟩
  ·exact ih t y hy
theorem TrK.keep {ex:List Nat}{G2:List (Nat × AV)}(h:TrK ex g (get G2) G2) (hg:∀ t,ex.elem t=false->g1 t=g t):Keep g1 (get G2) :=
 ⟨fun t x hx=>by obtain ⟨h1,h2,_⟩:=h.spec t x hx; rw [hg t h1]; exact h2,fun t x hx=>(h.spec t x hx).2.2.1,fun t z q n m new hx=>(h.spec t _ hx).2.2.2 _ _ _ _ _ rfl⟩
theorem Take.row {en:En α}{L:List α}(hp:atP g p=some (oR en L)):Take g [.brw en.z p L.length] [oR en L] (setP g p .dead):=by
 have h1:Take (setP g p .dead) ((rowc en L).take (L.length * en.z)) (rowc en L) (setP g p .dead):=by
  rw [rowc_take_all]; exact .nr (rowc_nr en L)
 exact .brw hp (Nat.le_refl _) h1 (.nr (by simp))
theorem Take.row_pend {en:En α}{L M:List α}{s:Nat}(hs:g s=some (.pend en.z q L.length M.length (rowc en M))) (hp:atP g q=some (oR en L)) (hq:q.root≠s):Take g [.brw en.z ⟨s,[]⟩ (L.length+M.length)] [oR en (L++M)] (setP (setP g ⟨s,[]⟩ .dead) q .dead):=by
 rw [<- oR_app]
 exact .pend hs hp hq (.nr fun x hx=>(List.mem_append.1 hx).elim (rowc_nr en L x) (rowc_nr en M x)) (.nr (by simp))
theorem setP_out {t:Nat}{y:AV}(h:t≠p.root):setP g p y t=g t:=by unfold setP; rw [if_neg h]
theorem elem_ne {ex:List Nat}{t s:Nat}(h:ex.elem t=false) (hs:ex.elem s=true):t≠s:=by rintro rfl; rw [h] at hs; cases hs
theorem EO.aR {o:Oper}{en:En α}{L:List α}{x:Operand}{G2:List (Nat × AV)}(ho:o.op=.assign x) (hd:o.dst=some d) (hx:Rd g x (.brw en.z p L.length)) (hp:atP g p=some (oR en L)) (hG:TrK [p.root] g (get G2) G2) (hg:get G2 d=none) (hN:N.ok d=true):EO P N g o (upd (get G2) d (oR en L)) :=
 .assign ho hd hx.opd (.row hp) .refl (hG.keep fun t ht=>setP_out (elem_ne ht (by simp))) hg hN
theorem EO.aP {o:Oper}{en:En α}{L M:List α}{s:Nat}{x:Operand}{G2:List (Nat × AV)}(ho:o.op=.assign x) (hd:o.dst=some d) (hx:Rd g x (.brw en.z ⟨s,[]⟩ (L.length+M.length))) (hs:g s=some (.pend en.z q L.length M.length (rowc en M))) (hp:atP g q=some (oR en L)) (hq:Nat.beq q.root s=false)
  (hG:TrK [s,q.root] g (get G2) G2) (hg:get G2 d=none) (hN:N.ok d=true):EO P N g o (upd (get G2) d (oR en (L++M))) :=
 .assign ho hd hx.opd (.row_pend hs hp (Nat.ne_of_beq_eq_false hq)) .refl (hG.keep fun t ht=>by rw [setP_out (elem_ne ht (by simp)),setP_out (elem_ne ht (by simp))]) hg hN
theorem RunL.ea {o:Oper}{x:AV}{G2:List (Nat × AV)}(hg:o.guard=none) (he:EO P N g o (upd (get G2) d x)) (hk:RunL P N ops l (upd (get G2) d x) K):RunL P N ops (o::l) g K:=by
 intro i hi
 obtain ⟨h1,h2⟩:=drop_cons hi
 obtain ⟨g',hr,hK⟩:=hk (i+1) h2
 refine ⟨g',.eff h1 ?_ he hr,hK⟩
 unfold Wanted; rw [hg]
theorem get_cons {x:AV}{G:List (Nat × AV)}:upd (get G) d x=get ((d,x)::G):=by
 funext t; unfold upd; simp only [get]
variable {AT:List (List Nat)}{acc:Acc}{i:Nat}
inductive Rto (P:Program):Gst->List ResultVar->List AV->List AV->Gst->Prop
 | nil {g:Gst}:Rto P g [] [] [] g
 | f {g g':Gst}{t:Nat}{x:AV}{rs:List ResultVar}{ys xs:List AV}(h:g t=some x) (hf:flatB x=true) [hn:NRc x] (ht:Rto P g rs ys xs g'):Rto P g (.tmp t::rs) (x::ys) (x::xs) g'
 | o {g g':Gst}{t:Nat}{en:En α}{L:List α}{rs:List ResultVar}{ys xs:List AV}(h:g t=some (oR en L)) (ht:Rto P (setP g ⟨t,[]⟩ .dead) rs ys xs g'):Rto P g (.tmp t::rs) (.brw en.z ⟨t,[]⟩ L.length::ys) (oR en L::xs) g'
end
end Go.Own
namespace Go.Own
open Go
set_option linter.unusedSectionVars false
variable [TB]
variable {α β:Type}
section
variable {P:Program}{N:Rm}{ops:Array Oper}{g g' g1 g2:Gst}{K:Gst->Prop}{l:List Oper}{d r:Nat}{ty t t2:TypeId}{pos:String}{after:Array Edge}{a b c:Operand}{p q:Place}{e:Exit}
inductive TkB (s:Nat):Gst->Nat->List AV->List AV->Gst->Prop
 | nil {g:Gst}{i:Nat}:TkB s g i [] [] g
 | f {g g':Gst}{i:Nat}{x:AV}{ys xs:List AV}(hf:flatB x=true) [hn:NRc x] (ht:TkB s g (i+1) ys xs g'):TkB s g i (x::ys) (x::xs) g'
 | o {α:Type}{g g':Gst}{i:Nat}{en:En α}{L:List α}{ys xs:List AV}(hp:atP g ⟨s,[i]⟩=some (oR en L)) (ht:TkB s (setP g ⟨s,[i]⟩ .dead) (i+1) ys xs g'):TkB s g i (.brw en.z ⟨s,[i]⟩ L.length::ys) (oR en L::xs) g'
theorem TkB.take {s i:Nat}{ys xs:List AV}(h:TkB s g i ys xs g'):Take g ys xs g':=by
 induction h with
 | nil=>exact .nr (by simp)
 | @f g g' i x ys xs hf hn _ ih=>exact .cons hn.nr ih
 | @o α g g' i en L ys xs hp _ ih =>
  refine .brw hp (Nat.le_refl _) ?_ ih
  rw [rowc_take_all]; exact .nr (rowc_nr en L)
inductive Rt2 (P:Program):Gst->List ResultVar->List AV->List AV->Gst->Prop
 | nil {g:Gst}:Rt2 P g [] [] [] g
 | f {g g':Gst}{t:Nat}{x:AV}{rs:List ResultVar}{ys xs:List AV}(h:g t=some x) (hf:flatB x=true) [hn:NRc x] (ht:Rt2 P g rs ys xs g'):Rt2 P g (.tmp t::rs) (x::ys) (x::xs) g'
 | o {α:Type}{g g':Gst}{t:Nat}{en:En α}{L:List α}{rs:List ResultVar}{ys xs:List AV}(h:g t=some (oR en L)) (ht:Rt2 P (setP g ⟨t,[]⟩ .dead) rs ys xs g'):Rt2 P g (.tmp t::rs) (.brw en.z ⟨t,[]⟩ L.length::ys) (oR en L::xs) g'
 | c {g g' g'':Gst}{t z:Nat}{ty:TypeId}{cs ys0:List AV}{rs:List ResultVar}{ys xs:List AV}(h:g t=some (.obj cs)) (ht:aggT P ty z=true) (hz:cs.length=z) (h0:Nat.blt 0 z=true) (hy:(cs.mapIdx fun i x=>refIn 0 ⟨t,[i]⟩ x)=ys0) (hk:TkB t g 0 ys0 cs g'') (hr:Rt2 P g'' rs ys xs g'):Rt2 P g (.cell t ty::rs) (.agg ys0::ys) (.agg cs::xs) g'
def Dies (g0 g:Gst):Prop:=∀ t x,g t=some x->(flatB x=true\/(∃ z n cs,x=.own z n cs))->g0 t=some x
theorem Dies.set {g0:Gst}{t:Nat}{pp:List Nat}(h:Dies g0 g) (ho:pp=[]\/∃ cs,g t=some (.obj cs)):Dies g0 (setP g ⟨t,pp⟩ .dead):=by
 intro s x hx hf
 unfold setP at hx
 split at hx
 ·rename_i hs
  simp only at hs hx
  subst hs
  exfalso
  cases hg:g s with
  | none=>rw [hg] at hx; cases hx
  | some y =>
   rw [hg] at hx
   simp only [Option.map_some,Option.some.injEq] at hx
   rcases ho with rfl | ⟨cs,hc⟩
   ·simp only [AV.setAt] at hx
    subst hx
    rcases hf with hf | ⟨_,_,_,hf⟩ <;> cases hf
   ·rw [hg] at hc
    cases hc
    have:∃ cs',x=.obj cs':=by
     subst hx
     cases pp with
     | nil=>simp only [AV.setAt] at hf; rcases hf with hf | ⟨_,_,_,hf⟩ <;> cases hf
     | cons k pp =>
      simp only [AV.setAt,AV.kids]
      split
      ·exact ⟨_,rfl⟩
      ·exact ⟨_,rfl⟩
    obtain ⟨cs',rfl⟩:=this
    rcases hf with hf | ⟨_,_,_,hf⟩ <;> cases hf
 ·exact h s x hx hf
theorem TkB.dies {g0:Gst}{s i:Nat}{ys xs:List AV}(h:TkB s g i ys xs g'):(∃ cs,g s=some (.obj cs))->Dies g0 g->Dies g0 g':=by
 induction h with
 | nil=>exact fun _ h=>h
 | f _ _ ih=>exact ih
 | @o α g g' i en L ys xs hp _ ih =>
  intro ho hd
  refine ih ?_ (hd.set (.inr ho))
  obtain ⟨cs,hc⟩:=ho
  unfold setP
  simp only [if_pos,hc,Option.map_some,AV.setAt,AV.kids]
  split
  ·exact ⟨_,rfl⟩
  ·exact ⟨_,rfl⟩
theorem TkB.out {s i:Nat}{ys xs:List AV}(h:TkB s g i ys xs g'):∀ t,t≠s->g' t=g t:=by
 induction h with
 | nil=>exact fun _ _=>rfl
 | f _ _ ih=>exact ih
 | o _ _ ih=>exact fun t ht=>by rw [ih t ht,setP_out ht]
theorem Rt2.take {rs:List ResultVar}{ys xs:List AV}(h:Rt2 P g rs ys xs g'):Take g ys xs g':=by
 induction h with
 | nil=>exact .nr (by simp)
 | @f g g' t x rs ys xs h hf hn _ ih=>exact .cons hn.nr ih
 | @o α g g' t en L rs ys xs h _ ih =>
  have hp:atP g ⟨t,[]⟩=some (oR en L):=by simp [atP,h,AV.at]
  refine .brw hp (Nat.le_refl _) ?_ ih
  rw [rowc_take_all]; exact .nr (rowc_nr en L)
 | @c g g' g'' t z ty cs ys0 rs ys xs h ht hz h0 hy hk _ ih=>exact .agg hk.take ih
theorem Rt2.vs {rs:List ResultVar}{ys xs:List AV}(h:Rt2 P g rs ys xs g'):∀ g0:Gst,Dies g0 g->(∀ t ty,ResultVar.cell t ty∈rs->∀ cs,g t=some (.obj cs)->g0 t=some (.obj cs))->(rs.filterMap fun | .cell t _=>some t | _=>none).Nodup->ResVs P g0 rs ys:=by
 induction h with
 | nil=>exact fun _ _ _ _=>.nil
 | @f g g' t x rs ys xs h hf hn _ ih =>
  intro g0 hd hb hnd
  exact .cons (.tmp (Rd.f (hd t x h (.inl hf)) hf)) (ih g0 hd (fun t ty hm=>hb t ty (List.mem_cons_of_mem _ hm)) (by simpa using hnd))
 | @o α g g' t en L rs ys xs h _ ih =>
  intro g0 hd hb hnd
  refine .cons (.tmp ?_) (ih g0 (hd.set (.inl rfl)) (fun s ty hm cs hc=>?_) (by simpa using hnd))
  ·have:=hd t _ h (.inr ⟨_,_,_,rfl⟩)
   simp [Own.opd,this,refTop,refIn]
  ·by_cases hs:s=t
   ·subst hs; simp [setP,h,AV.setAt] at hc
   ·rw [setP_out hs] at hc; exact hb s ty (List.mem_cons_of_mem _ hm) cs hc
 | @c g g' g'' t z ty cs ys0 rs ys xs h ht hz h0 hy hk _ ih =>
  intro g0 hd hb hnd
  have h1:=hb t ty (by simp) cs h
  simp only [List.filterMap_cons,List.nodup_cons] at hnd
  refine .cons ?_ (ih g0 (hk.dies ⟨cs,h⟩ hd) (fun s ty' hm cs' hc=>?_) hnd.2)
  ·have hz':0<z:=by simpa using h0
   have hx:Own.opd g0 (.tmp t)=some (.ptr ⟨t,[]⟩ 0):=by
    cases cs with
    | nil=>simp at hz; omega
    | cons c cs=>simp [Own.opd,h1,refTop,refIn]
   have:=PS1.loadN (P:=P) (ty:=ty) (p:=⟨t,[]⟩) (n:=0) (z:=0) hx ht (by simp only [atP,h1,AV.at]) (.inr rfl) (show 0+z<=cs.length by omega)
   have hall:((cs.drop 0).take z).mapIdx (fun i x=>refIn 0 (Place.push ⟨t,[]⟩ (0+i)) x)=ys0:=by
    rw [List.drop_zero,List.take_of_length_le (by omega),<- hy]
    congr 1
    funext i x
    simp [Place.push]
   rw [hall] at this
   exact .cell this
  ·have hst:s≠t:=by
    rintro rfl
    exact hnd.1 (List.mem_filterMap.2 ⟨.cell s ty',hm,rfl⟩)
   have:=hk.out s hst
   rw [this] at hc
   exact hb s ty' (List.mem_cons_of_mem _ hm) cs' hc
theorem Fin.ob0 {t:Nat}{cs:List AV}{outs:List (Option AV)}{n:Nat}(h:g t=some (.obj cs)) (hc:Nat.blt 0 cs.length=true) [hn:NRl cs] (ho:∀ (k:Nat) (x:AV),outs[k]?≠some (some x)) (hl:outs.length=n) (hx:e=.normal\/e=.ret):Fin P N [.tmp t] n outs (.obj cs) e g:=by
 have hp:atP g ⟨t,[]⟩=some (.obj cs):=by simp [atP,h,AV.at]
 have hd:Own.opd g (.tmp t)=some (.ptr ⟨t,[]⟩ 0):=by
  cases cs with
  | nil=>simp at hc
  | cons c cs=>simp [Own.opd,h,refTop,refIn]
 exact ⟨hx,⟨[.ptr ⟨t,[]⟩ 0],[.obj cs],setP g ⟨t,[]⟩ .dead,.cons (.tmp hd) .nil,.obj hp (.nr hn.nr) (.nr (by simp)),rfl,fun k x hk=>absurd hk (ho k x)⟩,hl⟩
inductive Ots (g:Gst) (pins:List Nat):Nat->List (Option AV)->Prop
 | nil {i:Nat}:Ots g pins i []
 | no {i:Nat}{os:List (Option AV)}(t:Ots g pins (i+1) os):Ots g pins i (none::os)
 | so {i:Nat}{x:AV}{os:List (Option AV)}(h:g i=some x) [hn:NRc x] (hp:pins.elem i=true) (t:Ots g pins (i+1) os):Ots g pins i (some x::os)
theorem Ots.spec {pins:List Nat}{i:Nat}{os:List (Option AV)}(h:Ots g pins i os):∀ k x,os[k]?=some (some x)->g (i+k)=some x/\NR x/\i+k∈pins:=by
 induction h with
 | nil=>intro k x hk; simp at hk
 | no _ ih =>
  intro k x hk
  cases k with
  | zero=>simp at hk
  | succ k=>have:=ih k x (by simpa using hk); rw [Nat.add_assoc,Nat.add_comm 1 k] at this; exact this
 | @so i y os h hn hp _ ih =>
  intro k x hk
  cases k with
  | zero=>simp at hk; subst hk; exact ⟨h,hn.nr,by simpa using hp⟩
  | succ k=>have:=ih k x (by simpa using hk); rw [Nat.add_assoc,Nat.add_comm 1 k] at this; exact this
theorem Fin.ro {rs:List ResultVar}{ys xs:List AV}{res:AV}{outs:List (Option AV)}{n:Nat}(h:Rt2 P g rs ys xs g') (he:resAV xs=res) (hnd:(rs.filterMap fun | .cell t _=>some t | _=>none).Nodup) (ho:Ots g' N.pins 0 outs) (hl:outs.length=n) (hx:e=.normal\/e=.ret):Fin P N rs n outs res e g :=
 ⟨hx,⟨ys,xs,g',h.vs g (fun _ _ h _=>h) (fun _ _ _ _ h=>h) hnd,h.take,he.symm,fun k x hk=>by have:=ho.spec k x hk; rw [Nat.zero_add] at this; exact this⟩,hl⟩
class Vw (x y:AV):Prop where v:∀ g,View g x y
class Vws (xs ys:List AV):Prop where
 l:ys.length=xs.length
 v:∀ (g:Gst) (k:Nat) (x y:AV),xs[k]?=some x->ys[k]?=some y->View g x y
class Tw (e e':En α):Prop where
 z:e.z=e'.z
 v:∀ a,Vws (e.cells a) (e'.cells a)
instance {v:Value}:Vw (.lit v) (.lit v):=⟨fun _=>.self .lit (by simp) (by simp) (by simp) (by simp) (by simp)⟩
instance:Vw .nils .nils:=⟨fun _=>.self .nils (by simp) (by simp) (by simp) (by simp) (by simp)⟩
instance {z n:Nat}{cs:List AV} [h:NRl cs]:Vw (.imm z n cs) (.imm z n cs):=⟨fun _=>.self (.imm h.nr) (by simp) (by simp) (by simp) (by simp) (by simp)⟩
instance {cs:List AV} [h:NRl cs]:Vw (.iptr cs) (.iptr cs):=⟨fun _=>.self (.iptr h.nr) (by simp) (by simp) (by simp) (by simp) (by simp)⟩
instance {e:En α}:Vw .nils (iR e []):=⟨fun _=>.nilI⟩
instance:Vws [] []:=⟨rfl,by simp⟩
instance {x y:AV}{xs ys:List AV} [h:Vw x y] [h':Vws xs ys]:Vws (x::xs) (y::ys):=⟨by simp [h'.l],fun g k a b ha hb=>by
 cases k with
 | zero=>simp at ha hb; subst ha hb; exact h.v g
 | succ k=>exact h'.v g k a b (by simpa using ha) (by simpa using hb)⟩
theorem vws_rowc (e e':En α) [h:Tw e e']:∀ L:List α,(rowc e' L).length=(rowc e L).length/\∀ (g:Gst) (k:Nat) (x y:AV),(rowc e L)[k]?=some x->(rowc e' L)[k]?=some y->View g x y
 | []=>⟨rfl,by simp [rowc]⟩
 | a::L=>by
  obtain ⟨h1,h2⟩:=vws_rowc e e' L
  have ec:∀ e:En α,rowc e (a::L)=e.cells a++rowc e L:=fun e=>by simp [rowc]
  refine ⟨by rw [rowc_len,rowc_len,h.z],fun g k x y hx hy=>?_⟩
  rw [ec] at hx hy
  by_cases hk:k<e.z
  ·rw [List.getElem?_append_left (by rw [e.len]; exact hk)] at hx
   rw [List.getElem?_append_left (by rw [e'.len,<- h.z]; exact hk)] at hy
   exact (h.v a).v g k x y hx hy
  ·rw [List.getElem?_append_right (by rw [e.len]; omega),e.len] at hx
   rw [List.getElem?_append_right (by rw [e'.len,<- h.z]; omega),e'.len,<- h.z] at hy
   exact h2 g _ x y hx hy
instance {e e':En α}{L:List α} [h:Tw e e']:Vw (oR e L) (iR e' L):=⟨fun g=>by
 have:=vws_rowc e e' L
 show View g (.own e.z L.length (rowc e L)) (.imm e'.z L.length (rowc e' L))
 rw [<- h.z]
 exact .own this.1 (this.2 g)⟩
instance:Tw eI eI:=⟨rfl,fun a=>(inferInstance:Vws [I64 a] [I64 a])⟩
instance:Tw eU eU:=⟨rfl,fun a=>(inferInstance:Vws [U8 a] [U8 a])⟩
instance:Tw eB eB:=⟨rfl,fun a=>(inferInstance:Vws [BB a] [BB a])⟩
instance:Tw eS eS:=⟨rfl,fun a=>(inferInstance:Vws [SS a] [SS a])⟩
instance {e e':En α} [h:Tw e e']:Tw (eO e) (eM e'):=⟨rfl,fun a=>(inferInstance:Vws [oR e a] [iR e' a])⟩
instance {e:En α}:Tw (eM e) (eM e):=⟨rfl,fun a=>(inferInstance:Vws [iR e a] [iR e a])⟩
theorem View.row {e e':En α}{L:List α} [h:Tw e e'] (hp:atP g p=some (oR e L)):View g (.brw e.z p L.length) (iR e' L):=by
 have:=vws_rowc e e' L
 show View g _ (.imm e'.z L.length (rowc e' L))
 rw [<- h.z]
 refine .brw hp (Nat.le_refl _) (by rw [rowc_take_all]; exact this.1) (fun k x y hx hy=>?_)
 rw [rowc_take_all] at hx
 exact this.2 g k x y hx hy
inductive VwL (g:Gst):List AV->List AV->Prop
 | nil:VwL g [] []
 | s {x y:AV}{xs ys:List AV} [h:Vw x y] (t:VwL g xs ys):VwL g (x::xs) (y::ys)
 | c {x y:AV}{xs ys:List AV}(h:View g x y) (t:VwL g xs ys):VwL g (x::xs) (y::ys)
theorem VwL.len {xs ys:List AV}(h:VwL g xs ys):ys.length=xs.length:=by
 induction h with
 | nil=>rfl
 | s _ ih=>simp [ih]
 | c _ _ ih=>simp [ih]
theorem VwL.get {xs ys:List AV}(h:VwL g xs ys):∀ (k:Nat) (x y:AV),xs[k]?=some x->ys[k]?=some y->View g x y:=by
 induction h with
 | nil=>intro k x y hx; simp at hx
 | @s x y xs ys h _ ih =>
  intro k a b ha hb
  cases k with
  | zero=>simp at ha hb; subst ha hb; exact h.v g
  | succ k=>exact ih k a b (by simpa using ha) (by simpa using hb)
 | @c x y xs ys h _ ih =>
  intro k a b ha hb
  cases k with
  | zero=>simp at ha hb; subst ha hb; exact h
  | succ k=>exact ih k a b (by simpa using ha) (by simpa using hb)
class OOc (x:AV):Prop where oo:OO x
class OOl (cs:List AV):Prop where oo:∀ x∈cs,OO x
class OOe (e:En α):Prop where oo:∀ a,OOl (e.cells a)
instance {v:Value}:OOc (.lit v):=⟨.lit⟩
instance:OOc .nils:=⟨.nils⟩
instance {k:Nat × Nat}:OOc (.self k):=⟨.self⟩
instance {t:Nat}{us:List Value}:OOc (.brow t us):=⟨.brow⟩
instance:OOl []:=⟨by simp⟩
instance {x:AV}{xs:List AV} [h:OOc x] [h':OOl xs]:OOl (x::xs):=⟨fun y hy=>by
 rcases List.mem_cons.1 hy with rfl | hy
 ·exact h.oo
 ·exact h'.oo y hy⟩
instance {e:En α}{L:List α} [h:OOe e]:OOl (rowc e L):=⟨fun x hx=>by
 obtain ⟨a,_,ha⟩:=List.mem_flatMap.1 hx
 exact (h.oo a).oo x ha⟩
instance {z n:Nat}{cs:List AV} [h:OOl cs]:OOc (.own z n cs):=⟨.own h.oo⟩
instance {cs:List AV} [h:OOl cs]:OOc (.obj cs):=⟨.obj h.oo⟩
instance {cs:List AV} [h:OOl cs]:OOc (.agg cs):=⟨.agg h.oo⟩
instance {cs:List AV} [h:OOl cs]:OOc (.tup cs):=⟨.tup h.oo⟩
instance {e:En α}{a:α} [h:OOe e]:OOl (e.cells a):=h.oo a
instance:OOe eI:=⟨fun a=>(inferInstance:OOl [I64 a])⟩
instance:OOe eU:=⟨fun a=>(inferInstance:OOl [U8 a])⟩
instance:OOe eB:=⟨fun a=>(inferInstance:OOl [BB a])⟩
instance:OOe eS:=⟨fun a=>(inferInstance:OOl [SS a])⟩
instance {e:En α} [h:OOe e]:OOe (eO e):=⟨fun a=>(inferInstance:OOl [oR e a])⟩
theorem noneB_map {outs:List (Option AV)}{args:List AV}(ho:noneB outs=true) (hl:outs.length=args.length):outs=args.map fun _=>none:=by
 apply List.ext_getElem?
 intro k
 rw [List.getElem?_map]
 cases hy:args[k]? with
 | none=>rw [List.getElem?_eq_none (by rw [hl]; exact List.getElem?_eq_none_iff.1 hy)]; rfl
 | some y =>
  have hk:k<outs.length:=by rw [hl]; exact (List.getElem?_eq_some_iff.1 hy).1
  have h1:=List.getElem?_eq_getElem hk
  rw [h1]
  cases h2:outs[k] with
  | none=>rfl
  | some x=>rw [h2] at h1; exact absurd h1 (noneB_spec ho k x)
theorem PC.vw {xs:List Operand}{tys:Array TypeId}{f:FuncId}{ys args:List AV}{outs:List (Option AV)}{res:AV}(hx:opds g xs=some ys) (hv:VwL g ys args) (hcon:Con P f args outs res) (hf:callT P f=true) (ho:noneB outs=true) [hr:OOc res] :
  PC P g (.call { callee:=.value (.func f),args:=xs.toArray,argTypes:=tys }) res:=by
 have e:=noneB_map ho hcon.1
 refine .lent (first:=[]) (caps:=[]) (ys:=ys) (args:=args) rfl (by simpa using hx) hf (by simpa using hv.len) (fun k x y hx hy=>hv.get k x y (by simpa using hx) hy) ?_ hr.oo
 rw [<- e]; exact hcon
end
end Go.Own
namespace Go.Own
open Go
set_option linter.unusedSectionVars false
variable [TB]
variable {α β:Type}
section
variable {P:Program}{N:Rm}{ops:Array Oper}{g g' g1 g2:Gst}{K:Gst->Prop}{l:List Oper}{d r:Nat}{op:Op}{ty t t2:TypeId}{pos:String}{after:Array Edge}{gd:Option (Nat × Bool)}{a b c:Operand}{p q:Place}{x y:AV}
variable {AT:List (List Nat)}{g0:Gst}{acc:Acc}{i:Nat}
instance {cs cs':List AV} [h:Vws cs cs']:Vw (.obj cs) (.iptr cs'):=⟨fun g=>.obj h.l (h.v g)⟩
instance {cs cs':List AV} [h:Vws cs cs']:Vw (.agg cs) (.agg cs'):=⟨fun g=>.agg h.l (h.v g)⟩
instance {z n:Nat}{cs cs':List AV} [h:Vws cs cs']:Vw (.own z n cs) (.imm z n cs'):=⟨fun g=>.own h.l (h.v g)⟩
theorem RunL.vi (hp:PS P g op ty y) [hn:NRc y] [hv:Vw y x] (hN:N.ok d=true) (hf:g d=none) (hg:Gd g ops gd) (hk:RunL P N ops l (upd g d x) K):RunL P N ops (⟨some d,op,ty,pos,after,gd⟩::l) g K :=
 .stepS rfl hN hf (r:=some x) (.inr (.inr ⟨hg.wanted,y,.inl hp,hn.nr,hv.v _⟩)) hk
theorem DL.vi (j0:Nat) (hp:PS P (vis AT g0 j0 acc) op ty y) [hn:NRc y] [hv:Vw y x] (hj:Nat.beq ops.size (j0+l.length+1)=true) (hf:g0 d=none) (hn0:acc.all (fun e=>!Nat.beq e.2.1 d)=true) (hN:N.ok d=true) (hg:Gd (vis AT g0 j0 acc) ops gd)
  (hk:DL P N ops AT g0 i ((j0,d,some x)::acc) l K):DL P N ops AT g0 i acc (⟨some d,op,ty,pos,after,gd⟩::l) K :=
 .st j0 (r:=some x) rfl (.inr (.inr ⟨hg.wanted,y,.inl hp,hn.nr,hv.v _⟩)) hj hf hn0 hN hk
inductive TrF (ex:List Nat) (g g2:Gst):List (Nat × AV)->Prop
 | nil:TrF ex g g2 []
 | n {s:Nat}{x:AV}{l:List (Nat × AV)}(hne:ex.elem s=false) (h:g s=some x) [hn:NRc x] (t:TrF ex g g2 l):TrF ex g g2 ((s,x)::l)
 | p {s q k:Nat}{l:List (Nat × AV)}{ct:List AV}(hne:ex.elem s=false) (h:g s=some (.ptr ⟨q,[]⟩ k)) (h2:g2 q=some (.obj ct)) (hk2:Nat.blt k ct.length=true) (t:TrF ex g g2 l):TrF ex g g2 ((s,.ptr ⟨q,[]⟩ k)::l)
 | z {s:Nat}{x y:AV}{l:List (Nat × AV)}(he:ex.elem s=true) (h:g s=some y) [hn:NRc y] (hv:Fz y x) [hx:NPc x] (t:TrF ex g g2 l):TrF ex g g2 ((s,x)::l)
theorem TrF.spec {ex:List Nat}{l:List (Nat × AV)}(h:TrF ex g g2 l):∀ t x,get l t=some x->((ex.elem t=false/\g t=some x/\RK g2 x)\/(ex.elem t=true/\∃ y,g t=some y/\NR y/\Fz y x))/\∀ z p n m new,x≠.pend z p n m new:=by
 induction h with
 | nil=>intro t x hx; cases hx
 | @n s x l hne h hn _ ih =>
  intro t y hy; simp only [get] at hy
  split at hy
  ·rename_i e; subst e; cases hy; exact ⟨.inl ⟨hne,h,.nr hn.nr⟩,by rintro z p n m new rfl; cases hn.nr⟩
  ·exact ih t y hy
 | @p s q k l ct hne h h2 hk2 _ ih =>
  intro t y hy; simp only [get] at hy
  split at hy
  ·rename_i e; subst e; cases hy; exact ⟨.inl ⟨hne,h,.ref rfl (refOk_obj h2 (by simpa using hk2))⟩,by simp⟩
  ·exact ih t y hy
 | @z s x y l he h hn hv hx _ ih =>
  intro t y' hy; simp only [get] at hy
  split at hy
  ·rename_i e; subst e; cases hy; exact ⟨.inr ⟨he,y,h,hn.nr,hv⟩,hx.np⟩
  ·exact ih t y' hy
theorem TrF.frz {ex:List Nat}{G2:List (Nat × AV)}(h:TrF ex g (get G2) G2):Frz (fun t=>ex.elem t) g (get G2):=by
 refine ⟨fun t x hx ht=>?_,fun t x hx ht=>?_,fun t z q n m new hx=>(h.spec t _ hx).2 _ _ _ _ _ rfl⟩
 ·rcases (h.spec t x hx).1 with ⟨_,h1,h2⟩ | ⟨h1,_⟩
  ·exact ⟨h1,h2⟩
  ·rw [h1] at ht; cases ht
 ·rcases (h.spec t x hx).1 with ⟨h1,_⟩ | ⟨_,h2⟩
  ·rw [h1] at ht; cases ht
  ·exact h2
theorem W.fz {cd:Code}{G G1:List (Nat × AV)}{Φ:Exit->Gst->Prop}(ex:List Nat) (h:TrF ex (get G) (get G1) G1) (hw:W P N cd (get G1) Φ):W P N cd (get G) Φ:=by
 intro Q a w I Fs hS hN hQ
 obtain ⟨I',Fs',hS',hst⟩:=hS.frz h.frz
 exact hw hS' hN fun e g' a' w' he hn=>hQ e g' a' w' he (Next'.trans rfl Hold.refl hst hn)
theorem RunL.fz {G1:List (Nat × AV)}(ex:List Nat) (h:TrF ex g (get G1) G1) (hk:RunL P N ops l (get G1) K):RunL P N ops l g K:=by
 intro i hi
 obtain ⟨g',hr,hK⟩:=hk i hi
 exact ⟨g',.frz h.frz hr,hK⟩
theorem Take.pre {xs xs':List AV}:∀ {ps:List AV},(∀ x∈ps,NR x)->Take g xs xs' g'->Take g (ps++xs) (ps++xs') g'
 | [],_,h=>h
 | x::ps,hn,h=>.cons (hn x (by simp)) (Take.pre (ps:=ps) (fun y hy=>hn y (List.mem_cons_of_mem _ hy)) h)
inductive TkL:Gst->List AV->List AV->Gst->Prop
 | nil {g:Gst}:TkL g [] [] g
 | ns {g:Gst}{xs:List AV} [hn:NRl xs]:TkL g xs xs g
 | f {g g':Gst}{x:AV}{xs xs':List AV} [hn:NRc x] (t:TkL g xs xs' g'):TkL g (x::xs) (x::xs') g'
 | r {α:Type}{g g':Gst}{p:Place}{en:En α}{L:List α}{xs xs':List AV}(hp:atP g p=some (oR en L)) (t:TkL (setP g p .dead) xs xs' g'):TkL g (.brw en.z p L.length::xs) (oR en L::xs') g'
 | l {g g1 g':Gst}{p:Place}{z n:Nat}{cs cs' xs xs':List AV}(hp:atP g p=some (.own z n cs)) (hl:cs.length=n * z) (h1:TkL (setP g p .dead) cs cs' g1) (t:TkL g1 xs xs' g'):TkL g (.brw z p n::xs) (.own z n cs'::xs') g'
 | pn {α:Type}{g g1 g':Gst}{q:Place}{s m:Nat}{en:En α}{L:List α}{new new' xs xs':List AV}(hs:g s=some (.pend en.z q L.length m new)) (hp:atP g q=some (oR en L)) (hq:Nat.beq q.root s=false) (h1:TkL (setP (setP g ⟨s,[]⟩ .dead) q .dead) new new' g1) (t:TkL g1 xs xs' g') :
   TkL g (.brw en.z ⟨s,[]⟩ (L.length+m)::xs) (.own en.z (L.length+m) (rowc en L++new')::xs') g'
 | ag {g g1 g':Gst}{cs cs' xs xs':List AV}(h1:TkL g cs cs' g1) (t:TkL g1 xs xs' g'):TkL g (.agg cs::xs) (.agg cs'::xs') g'
 | m {g g':Gst}{p:Place}{q:Array MapEntry->Nat->Prop}{xs xs':List AV}(hp:atP g p=some (.mp q)) (t:TkL (setP g p .dead) xs xs' g'):TkL g (.mref p::xs) (.mp q::xs') g'
 | b {g g1 g':Gst}{p:Place}{cs cs' xs xs':List AV}(hp:atP g p=some (.obj cs)) (h1:TkL (setP g p .dead) cs cs' g1) (t:TkL g1 xs xs' g'):TkL g (.ptr p 0::xs) (.obj cs'::xs') g'
theorem TkL.take {xs xs':List AV}(h:TkL g xs xs' g'):Take g xs xs' g':=by
 induction h with
 | m hp _ ih=>exact .mp hp (.nr (by simp)) ih
 | nil=>exact .nr (by simp)
 | @ns g xs hn=>exact .nr hn.nr
 | @f g g' x xs xs' hn _ ih=>exact .cons hn.nr ih
 | @r α g g' p en L xs xs' hp _ ih =>
  refine .brw hp (Nat.le_refl _) ?_ ih
  rw [rowc_take_all]; exact .nr (rowc_nr en L)
 | @l g g1 g' p z n cs cs' xs xs' hp hl _ _ ih1 ih2 =>
  refine .brw hp (Nat.le_refl _) ?_ ih2
  rw [List.take_of_length_le (by omega)]; exact ih1
 | @pn α g g1 g' q s m en L new new' xs xs' hs hp hq _ _ ih1 ih2=>exact .pend hs hp (Nat.ne_of_beq_eq_false hq) (.pre (rowc_nr en L) ih1) ih2
 | @ag g g1 g' cs cs' xs xs' _ _ ih1 ih2=>exact .agg ih1 ih2
 | @b g g1 g' p cs cs' xs xs' hp _ _ ih1 ih2=>exact .obj hp ih1 ih2
inductive FzL:List AV->List AV->Prop
 | nil:FzL [] []
 | rf {xs:List AV}:FzL xs xs
 | f {x:AV}{xs ys:List AV}(t:FzL xs ys):FzL (x::xs) (x::ys)
 | o {z:Nat}{xs ys:List AV}(t:FzL xs ys):FzL (.nils::xs) (.own z 0 []::ys)
 | z {x y:AV}{xs ys:List AV} [hn:NRc x] [hv:Vw x y] (t:FzL xs ys):FzL (x::xs) (y::ys)
 | g {x y:AV}{xs ys:List AV}(h:Fz x y) (t:FzL xs ys):FzL (x::xs) (y::ys)
theorem FzL.len {xs ys:List AV}(h:FzL xs ys):ys.length=xs.length:=by
 induction h with
 | nil=>rfl
 | rf=>rfl
 | f _ ih=>simp [ih]
 | o _ ih=>simp [ih]
 | z _ ih=>simp [ih]
 | g _ _ ih=>simp [ih]
theorem FzL.get {xs ys:List AV}(h:FzL xs ys):∀ (k:Nat) (x y:AV),xs[k]?=some x->ys[k]?=some y->Fz x y:=by
 induction h with
 | nil=>intro k x y hx; simp at hx
 | rf=>intro k x y hx hy; rw [hx] at hy; cases hy; exact .refl
 | @f x xs ys _ ih =>
  intro k a b ha hb
  cases k with
  | zero=>simp at ha hb; subst ha hb; exact .refl
  | succ k=>exact ih k a b (by simpa using ha) (by simpa using hb)
 | @o z xs ys _ ih =>
  intro k a b ha hb
  cases k with
  | zero=>simp at ha hb; subst ha hb; exact .nilO
  | succ k=>exact ih k a b (by simpa using ha) (by simpa using hb)
 | @z x y xs ys hn hv _ ih =>
  intro k a b ha hb
  cases k with
  | zero=>simp at ha hb; subst ha hb; exact .ice hn.nr (hv.v _)
  | succ k=>exact ih k a b (by simpa using ha) (by simpa using hb)
 | @g x y xs ys h _ ih =>
  intro k a b ha hb
  cases k with
  | zero=>simp at ha hb; subst ha hb; exact h
  | succ k=>exact ih k a b (by simpa using ha) (by simpa using hb)
theorem FzL.pre {xs ys:List AV}(h:FzL xs ys):∀ ps:List AV,FzL (ps++xs) (ps++ys)
 | []=>h
 | _::ps=>.f (FzL.pre h ps)
theorem FzL.own {z n:Nat}{xs ys:List AV}(h:FzL xs ys):Fz (.own z n xs) (.own z n ys):=.own h.len h.get
theorem FzL.obj {xs ys:List AV}(h:FzL xs ys):Fz (.obj xs) (.obj ys):=.obj h.len h.get
theorem FzL.agg {xs ys:List AV}(h:FzL xs ys):Fz (.agg xs) (.agg ys):=.agg h.len h.get
theorem Fz.zz [hn:NRc x] [hv:Vw x y]:Fz x y:=.ice hn.nr (hv.v _)
theorem EO.aG {o:Oper}{x:Operand}{y y1 y':AV}{G2:List (Nat × AV)}(ho:o.op=.assign x) (hd:o.dst=some d) (hx:Rd g x y) (ht:TkL g [y] [y1] g1) (hz:Fz y1 y') (hG:Trim false g1 (get G2) G2) (hg:get G2 d=none) (hN:N.ok d=true):EO P N g o (upd (get G2) d y') :=
 .assign ho hd hx.opd ht.take hz hG.keep hg hN
theorem EO.stB {o:Oper}{k0:Nat}{cs1 cs' cs2:List AV}{y y1 y':AV}{G2:List (Nat × AV)}(ho:o.op=.store t a b) (hd:o.dst=none) (ha:Rd g a (.ptr ⟨r,[]⟩ k0)) (hb:Rd g b y) (ht:TkL g [y] [y1] g1) (hfz:Fz y1 y') (hc:cellsP y'=some cs') (hz:sizeT P t cs'.length=true)
  (hs:g1 r=some (.obj cs1)) (hk:Nat.ble (k0+cs'.length) cs1.length=true) (h0:Nat.blt 0 cs'.length=true) (he:splice cs1 k0 cs'=cs2) [hno:NRl cs1] (hr:(get G2 r).isSome=true) (hG:TrS g1 (get G2) r cs2 G2):EO P N g o (get G2):=by
 subst he
 refine .store ho hd ha.opd hb.opd ht.take hfz hc hz (p:=⟨r,[]⟩) (nd:=.obj cs1) (z:=0) (n:=0) (by simp [atP,hs,AV.at]) (.inr rfl) (Nat.le_of_ble_eq_true hk) (by simpa using h0) (fun t x hx=>?_) (fun t x hx y hy=>?_) (fun t z q n m new hx=>?_) (by intro e; rw [e] at hr; cases hr)
 ·rcases hG.spec t x hx with ⟨h1,h2,_⟩ | ⟨h1,h2,_⟩
  ·rw [setP_slot h1]; exact h2
  ·subst h1 h2; simp [setP,hs,AV.setAt,AV.splice]
 ·rcases hG.spec t x hx with ⟨h1,h2,h3⟩ | ⟨h1,h2,h3⟩
  ·rw [h2] at hy; cases hy; exact h3.rkp
  ·subst h1
   rw [hs] at hy
   cases hy
   exact .nr (.obj hno.nr)
 ·rcases hG.spec t _ hx with ⟨_,_,h3⟩ | ⟨_,h2,_⟩
  ·exact h3.np _ _ _ _ _ rfl
  ·cases h2
theorem EO.stP {o:Oper}{k0 s m:Nat}{en:En α}{L M R:List α}{new new':List AV}{cs1 cs2:List AV}{G2:List (Nat × AV)}(ho:o.op=.store t a b) (hd:o.dst=none) (ha:Rd g a (.ptr ⟨r,[]⟩ k0)) (hb:Rd g b (.brw en.z ⟨s,[]⟩ (L.length+m))) (hps:g s=some (.pend en.z q L.length m new)) (hp:atP g q=some (oR en L)) (hq:Nat.beq q.root s=false)
  (h1:TkL (setP (setP g ⟨s,[]⟩ .dead) q .dead) new new' g1) (hfz:FzL new' (rowc en M)) (hm:M.length=m) (hR:L++M=R) (hz:sizeT P t 1=true)
  (hs:g1 r=some (.obj cs1)) (hk:Nat.ble (k0+1) cs1.length=true) (he:splice cs1 k0 [oR en R]=cs2) [hno:NRl cs1] (hr:(get G2 r).isSome=true) (hG:TrS g1 (get G2) r cs2 G2):EO P N g o (get G2):=by
 subst hm hR
 have ht:=TkL.pn (xs:=[]) (xs':=[]) hps hp hq h1 .nil
 refine .stB (y':=oR en (L++M)) ho hd ha hb ht ?_ rfl hz hs hk rfl he hr hG
 rw [<- oR_app]; exact (hfz.pre _).own
inductive LnA (r:Nat) (cs:List AV) (k0:Nat):Nat->List AV->List AV->Prop
 | nil {i:Nat}:LnA r cs k0 i [] []
 | b {i:Nat}{xs ys:List AV}(hi:Nat.beq i k0=true) (t:LnA r cs k0 (i+1) xs ys):LnA r cs k0 i (.ptr ⟨r,[]⟩ 0::xs) (.obj cs::ys)
 | n {i:Nat}{x:AV}{xs ys:List AV}(hi:Nat.beq i k0=false) [hn:NRc x] (t:LnA r cs k0 (i+1) xs ys):LnA r cs k0 i (x::xs) (x::ys)
theorem LnA.len {cs:List AV}{k0 i:Nat}{xs ys:List AV}(h:LnA r cs k0 i xs ys):ys.length=xs.length:=by
 induction h with
 | nil=>rfl
 | b _ _ ih=>simp [ih]
 | n _ _ ih=>simp [ih]
theorem LnA.nrs {cs:List AV}{k0 i:Nat}{xs ys:List AV}(h:LnA r cs k0 i xs ys) (hi:k0<i):xs=ys/\∀ x∈xs,NR x:=by
 induction h with
 | nil=>exact ⟨rfl,by simp⟩
 | @b i _ _ h _ _=>have:=Nat.eq_of_beq_eq_true h; omega
 | @n i x xs ys _ hn _ ih =>
  obtain ⟨h1,h2⟩:=ih (by omega)
  exact ⟨by rw [h1],nr_cons hn.nr h2⟩
theorem LnA.take {cs:List AV}{k0 i:Nat}{xs ys:List AV}(h:LnA r cs k0 i xs ys) (hs:g r=some (.obj cs)) (hn:∀ x∈cs,NR x):i<=k0->k0<i+xs.length->Take g xs ys (setP g ⟨r,[]⟩ .dead):=by
 induction h with
 | nil=>intro h1 h2; simp at h2; omega
 | @b i xs ys hi t _ =>
  intro h1 h2
  have:=Nat.eq_of_beq_eq_true hi
  obtain ⟨e,hnr⟩:=t.nrs (by omega)
  subst e
  exact .obj (by simp [atP,hs,AV.at]) (.nr hn) (.nr hnr)
 | @n i x xs ys hi hx _ ih =>
  intro h1 h2
  have:=Nat.ne_of_beq_eq_false hi
  simp only [List.length_cons] at h2
  exact .cons hx.nr (ih (by omega) (by omega))
theorem LnA.at0 {cs:List AV}{k0 i:Nat}{xs ys:List AV}(h:LnA r cs k0 i xs ys):i<=k0->k0<i+xs.length->xs[k0 - i]?=some (.ptr ⟨r,[]⟩ 0):=by
 induction h with
 | nil=>intro h1 h2; simp at h2; omega
 | @b i xs ys hi _ _=>intro _ _; have:=Nat.eq_of_beq_eq_true hi; subst this; simp
 | @n i x xs ys hi _ _ ih =>
  intro h1 h2
  have:=Nat.ne_of_beq_eq_false hi
  simp only [List.length_cons] at h2
  have h3:=ih (by omega) (by omega)
  have:k0 - i=(k0 - (i+1))+1:=by omega
  rw [this,List.getElem?_cons_succ]; exact h3
def out1 (n k0:Nat) (x:AV):List (Option AV):=(List.range n).map fun i=>if i=k0 then some x else none
inductive BkL (g:Gst) (d r:Nat) (n:Nat) (G4:List (Nat × AV)):List (Nat × AV)->Prop
 | nil:BkL g d r n G4 []
 | c {s k:Nat}{l:List (Nat × AV)}(h:g s=some (.ptr ⟨r,[]⟩ k)) (hk:Nat.blt k n=true) (hd:Nat.beq s d=false) (h4:get G4 s=none) (t:BkL g d r n G4 l):BkL g d r n G4 ((s,.ptr ⟨r,[]⟩ k)::l)
theorem get_app {A B:List (Nat × AV)}{t:Nat}:get (A++B) t=match get A t with | some x=>some x | none=>get B t:=by
 induction A with
 | nil=>rfl
 | cons p A ih =>
  obtain ⟨s,x⟩:=p
  show (if t=s then some x else get (A++B) t)=_
  by_cases h:t=s
  ·simp [get,h]
  ·simp only [get,if_neg h]; exact ih
theorem BkL.spec {n:Nat}{G4 A:List (Nat × AV)}(h:BkL g d r n G4 A):∀ t x,get A t=some x->get G4 t=none/\t≠d/\g t=some x/\∃ k,x=.ptr ⟨r,[]⟩ k/\k<n:=by
 induction h with
 | nil=>intro t x hx; cases hx
 | @c s k l h hk hd h4 _ ih =>
  intro t x hx; simp only [get] at hx
  split at hx
  ·rename_i e; subst e; cases hx; exact ⟨h4,Nat.ne_of_beq_eq_false hd,h,k,rfl,by simpa using hk⟩
  ·exact ih t x hx
theorem CallOk.ln {o:Oper}{xs:List Operand}{tys:Array TypeId}{f:FuncId}{ys args:List AV}{res:AV}{cs cs':List AV}{k0:Nat}{G2 A:List (Nat × AV)}(ho:o.op=.call { callee:=.value (.func f),args:=xs.toArray,argTypes:=tys }) (hd:o.dst=some d) (hx:Own.opds g xs=some ys)
  (hs:g r=some (.obj cs)) [hno:NRl cs] (ha:LnA r cs k0 0 ys args) (hk0:Nat.blt k0 ys.length=true) (hcon:Con P f args (out1 args.length k0 (.obj cs')) res) (hf:callT P f=true) [hr:NRc res] [hno':NRl cs']
  (hG:Trim false (setP g ⟨r,[]⟩ .dead) (get ((r,.dead)::G2)) G2) (hg:get G2 d=none) (hrd:Nat.beq r d=false) (hG4:Trim false (get ((r,.obj cs')::G2)) (get ((r,.obj cs')::G2)) G2) (hA:BkL g d r cs'.length ((r,.obj cs')::G2) A) (hN:N.ok d=true) :
  CallOk P N g o d (get (A++(d,res)::(r,.obj cs')::G2)):=by
 have hk0':k0<ys.length:=by simpa using hk0
 have hrd':r≠d:=Nat.ne_of_beq_eq_false hrd
 have hal:args.length=ys.length:=ha.len
 have hout:(out1 args.length k0 (.obj cs'))[k0]?=some (some (.obj cs')):=by
  unfold out1
  rw [List.getElem?_map,List.getElem?_range (by omega)]
  simp
 have houtn:∀ (k:Nat) (x:AV),(out1 args.length k0 (.obj cs'))[k]?=some (some x)->x=.obj cs':=by
  intro k x h
  unfold out1 at h
  rw [List.getElem?_map] at h
  cases hk:(List.range args.length)[k]? with
  | none=>rw [hk] at h; cases h
  | some j =>
   rw [hk] at h
   simp only [Option.map_some,Option.some.injEq] at h
   split at h
   ·exact (Option.some.inj h).symm
   ·cases h
 have dead2:get ((r,AV.dead)::G2) r=some .dead:=by simp [get]
 have keep2:Keep (setP g ⟨r,[]⟩ .dead) (get ((r,.dead)::G2)):=by
  refine ⟨fun t x h=>?_,fun t x h=>?_,fun t z q n m new h=>?_⟩
  all_goals
   simp only [get] at h
   split at h
  ·rename_i e; subst e; cases h; simp [setP,hs,AV.setAt]
  ·obtain ⟨⟨y,h1,_,h3⟩,_⟩:=hG.spec t x h; rw [<- h3 rfl]; exact h1
  ·cases h; exact .nr .dead
  ·exact (hG.spec t x h).2.1
  ·cases h
  ·exact (hG.spec t _ h).2.2 _ _ _ _ _ rfl
 have put:putAll (get ((r,.dead)::G2)) [(⟨r,[]⟩,.obj cs')]=get ((r,.obj cs')::G2):=by
  funext t
  simp only [putAll,setP,get]
  by_cases h:t=r
  ·simp [h,AV.setAt]
  ·simp [h]
 have keep4:Keep (get ((r,.obj cs')::G2)) (get ((r,.obj cs')::G2)):=by
  refine ⟨fun t x h=>h,fun t x h=>?_,fun t z q n m new h=>?_⟩
  all_goals
   simp only [get] at h
   split at h
  ·cases h; exact .nr (.obj hno'.nr)
  ·exact (hG4.spec t x h).2.1
  ·cases h
  ·exact (hG4.spec t _ h).2.2 _ _ _ _ _ rfl
 refine ECall.ok (first:=[]) (caps:=[]) (ys:=ys) (tk:=fun _=>true) (vw:=false) (outs:=out1 args.length k0 (.obj cs')) (g1:=setP g ⟨r,[]⟩ .dead) (g2:=get ((r,.dead)::G2)) (g4:=get ((r,.obj cs')::G2)) (l:=[(⟨r,[]⟩,.obj cs')]) (ks:=fun _=>k0) (xs0:=ys) (xs1:=args) (args:=args) (res:=res) ho hd rfl (by simpa using hx)
  ⟨hf,by simp,by simpa using hal,fun k x h=>.inl (by simpa using h),ha.take hs hno.nr (Nat.zero_le _) (by omega),keep2,fun k x y _ hy=>by simpa using hy,hcon,by simpa using hr.nr,fun k x h=>by rw [houtn k x h]; simpa using NR.obj hno'.nr,fun j p x hj=>?_,by simp,fun i j hi hj _=>by simp at hi hj; omega,by rw [put]; exact keep4⟩ ?_ hN ?_
 ·cases j with
  | succ j=>simp at hj
  | zero =>
   simp only [List.getElem?_cons_zero,Option.some.injEq,Prod.mk.injEq] at hj
   obtain ⟨rfl,rfl⟩:=hj
   refine ⟨hout,by simp [atP,dead2,AV.at],.inr ⟨cs,?_,by simp [atP,hs,AV.at]⟩,fun _ h=>by cases h⟩
   have:=ha.at0 (Nat.zero_le _) (by omega)
   simpa using this
 ·simp only [get,if_neg (Ne.symm hrd')]; exact hg
 ·refine ⟨fun t x h=>?_,fun t x h=>?_⟩
  ·rw [get_cons] at h
   rw [get_app]
   cases hA':get A t with
   | none=>exact h
   | some y =>
    obtain ⟨h1,h2,_⟩:=hA.spec t y hA'
    simp only [get,if_neg h2] at h
    simp only [get] at h1
    rw [h1] at h; cases h
  ·rw [get_cons]
   rw [get_app] at h
   cases hA':get A t with
   | none=>rw [hA'] at h; exact .inl h
   | some y =>
    rw [hA'] at h
    cases h
    obtain ⟨h1,h2,h3,k,rfl,hk⟩:=hA.spec t x hA'
    refine .inr ⟨?_,h2,h3,r,k,cs',rfl,hrd',?_,hk⟩
    ·simp only [get,if_neg h2]; exact h1
    ·simp only [get,if_neg hrd',if_true]
end
end Go.Own
namespace Go.Own
open Go
set_option linter.unusedSectionVars false
variable [TB]
variable {α β:Type}
def eK (k:IntKind):En Int:=.one (fun n=>.lit (.int k n)) fun _=>.lit
instance {k:IntKind}:Flat (eK k):=⟨fun _=>rfl⟩
instance {k:IntKind}:Tw (eK k) (eK k):=⟨rfl,fun a=>(inferInstance:Vws [.lit (.int k a)] [.lit (.int k a)])⟩
instance {k:IntKind}:OOe (eK k):=⟨fun a=>(inferInstance:OOl [.lit (.int k a)])⟩
instance {cs:List AV}{n:Nat}{x:AV} [h:NRl cs] [hx:NRc x]:NRl (cs.set n x):=⟨fun y hy=>by
 rcases List.mem_or_eq_of_mem_set hy with h' | h'
 ·exact h.nr y h'
 ·rw [h']; exact hx.nr⟩
instance {x y:AV} [h:NRc y]:NRc (x.setAt [] y):=⟨by simpa [AV.setAt] using h.nr⟩
inductive WkL:List AV->List AV->Prop
 | nil:WkL [] []
 | f {x:AV}{xs ys:List AV}(t:WkL xs ys):WkL (x::xs) (x::ys)
 | o {z:Nat}{xs ys:List AV}(t:WkL xs ys):WkL (.nils::xs) (.own z 0 []::ys)
 | i {z:Nat}{xs ys:List AV}(t:WkL xs ys):WkL (.nils::xs) (.imm z 0 []::ys)
theorem WkL.len {xs ys:List AV}(h:WkL xs ys):ys.length=xs.length:=by
 induction h with
 | nil=>rfl
 | f _ ih=>simp [ih]
 | o _ ih=>simp [ih]
 | i _ ih=>simp [ih]
theorem WkL.get {xs ys:List AV}(h:WkL xs ys):∀ (k:Nat) (x y:AV),xs[k]?=some x->ys[k]?=some y->WkV x y:=by
 induction h with
 | nil=>intro k x y hx; simp at hx
 | f _ ih =>
  intro k a b ha hb
  cases k with
  | zero=>simp at ha hb; subst ha hb; exact .refl
  | succ k=>exact ih k a b (by simpa using ha) (by simpa using hb)
 | o _ ih =>
  intro k a b ha hb
  cases k with
  | zero=>simp at ha hb; subst ha hb; exact .nilOwn
  | succ k=>exact ih k a b (by simpa using ha) (by simpa using hb)
 | i _ ih =>
  intro k a b ha hb
  cases k with
  | zero=>simp at ha hb; subst ha hb; exact .nilImm
  | succ k=>exact ih k a b (by simpa using ha) (by simpa using hb)
theorem WkL.obj {xs ys:List AV}(h:WkL xs ys):WkV (.obj xs) (.obj ys):=.obj h.len h.get
section
variable {P:Program}{N:Rm}{ops:Array Oper}{g g' g1 g2:Gst}{K:Gst->Prop}{l:List Oper}{d r:Nat}{op:Op}{ty t t2:TypeId}{pos:String}{after:Array Edge}{gd:Option (Nat × Bool)}{a b c:Operand}{p q:Place}{x y:AV}{k:IntKind}{m n:Int}
variable {AT:List (List Nat)}{g0:Gst}{acc:Acc}{i:Nat}
def ndr:List Nat->Bool
 | []=>true
 | x::l=>l.all (fun y=>!Nat.beq x y)&&ndr l
theorem ndr_spec:∀ {l:List Place},ndr (l.map Place.root)=true->l.Nodup
 | [],_=>List.nodup_nil
 | p::l,h=>by
  simp only [List.map_cons,ndr,Bool.and_eq_true,List.all_eq_true] at h
  refine List.nodup_cons.2 ⟨fun hm=>?_,ndr_spec h.2⟩
  have:=h.1 p.root (List.mem_map.2 ⟨p,hm,rfl⟩)
  simp at this
theorem DL.bp (j0:Nat) {G G2:List (Nat × AV)}{o:Oper}(he:EO P N (visG (get G) (fun _=>true) acc) o (get G2)) (hg:o.guard=none) (hpd:ndr ((acc.filterMap pendPlace).map Place.root)=true) (hp0:npB G=true) (hj:Nat.beq ops.size (j0+l.length+1)=true)
  (ha:(List.range j0).all (fun k=>(AT.getD j0 []).contains k)=true) (hb:(List.range ops.size).all (fun k=>Nat.ble k j0||(AT.getD k []).contains j0)=true) (hk:DL P N ops AT (get G2) (j0+1) [] l K):DL P N ops AT (get G) i acc (o::l) K:=by
 intro U0 j hP hseg hdrop
 have:=drop_at hdrop hj
 subst this
 obtain ⟨h1,h2⟩:=drop_cons hdrop
 obtain ⟨g',hr,hK⟩:=hk [] (j+1) .nil .nil h2
 refine ⟨g',.bar0 hP hseg (ndr_spec hpd) (npB_spec hp0) h1 ?_ he ha ?_ hr,hK⟩
 ·unfold Wanted; rw [hg]
 ·refine List.all_eq_true.2 fun k hk=>?_
  have:=List.all_eq_true.1 hb k hk
  simp only [Bool.or_eq_true,decide_eq_true_eq,Nat.ble_eq] at this ⊢
  exact this
class NoPe (s:Nat) (g:Gst):Prop where np:∀ t,t≠s->∀ z q n m new,g t≠some (.pend z q n m new)
instance (priority:=low) {s:Nat}{g:Gst} [h:NoPd g]:NoPe s g:=⟨fun t _=>h.np t⟩
instance {s:Nat}{g:Gst}{x:AV} [h:NoPe s g]:NoPe s (upd g s x):=⟨fun t ht z q n m new e=>by
 unfold upd at e
 rw [if_neg ht] at e
 exact h.np t ht _ _ _ _ _ e⟩
instance {s d:Nat}{g:Gst}{x:AV} [h:NoPe s g] [hx:NPc x]:NoPe s (upd g d x):=⟨fun t ht z q n m new e=>by
 unfold upd at e
 split at e
 ·cases e; exact hx.np _ _ _ _ _ rfl
 ·exact h.np t ht _ _ _ _ _ e⟩
class NPe (s:Nat) (acc:Acc):Prop where np:∀ e∈acc,e.2.1≠s->∀ z q n m new,e.2.2≠some (.pend z q n m new)
instance {s:Nat}:NPe s []:=⟨by simp⟩
instance {s j d:Nat}{x:AV}{acc:Acc} [hx:NPc x] [h:NPe s acc]:NPe s ((j,d,some x)::acc):=⟨fun e he hs z q n m new hh=>by
 rcases List.mem_cons.1 he with rfl | he
 ·exact hx.np z q n m new (Option.some.inj hh)
 ·exact h.np e he hs z q n m new hh⟩
instance {s j:Nat}{x:Option AV}{acc:Acc} [h:NPe s acc]:NPe s ((j,s,x)::acc):=⟨fun e he hs z q n m new hh=>by
 rcases List.mem_cons.1 he with rfl | he
 ·exact absurd rfl hs
 ·exact h.np e he hs z q n m new hh⟩
instance {s:Nat}{G:List (Nat × AV)}{A:Nat->Bool}{acc:Acc} [hg:NoPd (get G)] [h:NPe s acc]:NoPe s (visG (get G) A acc):=⟨fun t ht z q n m new e=>by
 rcases visG_some e with ⟨e',he,h1,_,h2⟩ | ⟨_,h2⟩
 ·exact h.np e' he (by rw [h1]; exact ht) _ _ _ _ _ h2
 ·exact hg.np _ _ _ _ _ _ h2⟩
namespace O
theorem mkG {en:En α}{z0:α}{r:List α}{e b0:Nat}{zv:Value}(ht:slT P t e en.z=true) (hx:Rd g a (.lit (.int k m))) (hy:Rd g b (.lit (.int .i64 m))) (hzero:(P.info? e).bind (·.zero)=some zv) (h1:zv.cells.toList.all Value.oneCell'=true) (hcl:(en.cells z0).length=zv.cells.size) (hco:∀ (k:Nat) (u:Value) (x:AV),zv.cells[k]?=some u->(en.cells z0)[k]?=some x->x=ofCell u\/(ofCell u=.nils/\∃ z',x=.imm z' 0 [])) (h:mkO m z0=some r) (hbb:(P.info? e).map (·.bytes)=some b0) (hb:Nat.ble b0 128=true) :
  PS P g (.makeSlice t a b) ty (oR en r):=by
 unfold mkO at h
 split at h
 ·rename_i hm
  have hlim:lim=1099511627776:=rfl
  have hb':=Nat.le_of_ble_eq_true hb
  obtain ⟨j,rfl⟩:=Int.eq_ofNat_of_zero_le hm.1
  cases h
  have hj:j<=1099511627776:=by omega
  have hsz:zv.cells.size=en.z:=by rw [<- hcl,en.len]
  have:=PS2.makeSlice (P:=P) (ty:=ty) ht hx.opd hy.opd hzero (by rw [<- Array.all_toList]; exact h1) hsz hbb (by
   calc j * b0<=1099511627776 * 128:=Nat.mul_le_mul hj hb'
    _=140737488355328:=by decide) (by omega) hcl hco
  have e1:(List.replicate j (en.cells z0)).flatten=rowc en (List.replicate j z0):=by simp [rowc,List.flatMap_def]
  unfold oR
  rw [Int.toNat_natCast,List.length_replicate,<- e1]
  exact .p2 this
 ·cases h
theorem mk {en:En α}{z0:α}{r:List α}{e b0:Nat}{zv:Value}(ht:slT P t e en.z=true) (hx:Rd g a (.lit (.int k m))) (hy:Rd g b (.lit (.int .i64 m))) (hzero:(P.info? e).bind (·.zero)=some zv) (h1:zv.cells.toList.all Value.oneCell'=true) (hc:zv.cells.toList.map ofCell=en.cells z0) (h:mkO m z0=some r) (hbb:(P.info? e).map (·.bytes)=some b0) (hb:Nat.ble b0 128=true) :
  PS P g (.makeSlice t a b) ty (oR en r):=by
 refine mkG ht hx hy hzero h1 (by rw [<- hc,List.length_map]; simp) (fun k u x hu hx=>.inl ?_) h hbb hb
 rw [<- hc,List.getElem?_map] at hx
 have:zv.cells.toList[k]?=some u:=by simpa using hu
 rw [this] at hx
 exact (Option.some.inj hx).symm
end O
theorem el_lt {en:En α}{L:List α}{i:Int}{off:Nat}{y:α}(h:idx L i=some y) (ho:Nat.blt off en.z=true):i.toNat * en.z+off<(rowc en L).length:=by
 obtain ⟨q0,q1,_⟩:=idx_spec h
 have ho':off<en.z:=by simpa using ho
 rw [rowc_len]
 have h2:i.toNat+1<=L.length:=by omega
 calc i.toNat * en.z+off<i.toNat * en.z+en.z:=by omega
  _=(i.toNat+1) * en.z:=by rw [Nat.add_mul]; omega
  _<=L.length * en.z:=Nat.mul_le_mul_right _ h2
inductive El (g g2:Gst):AV->Prop
 | mk {α:Type}{en:En α}{L L2:List α}{r j off:Nat}{i:Int}{y y2:α}(h1:atP g ⟨r,[j]⟩=some (oR en L)) (hi:idx L i=some y) (h2:atP g2 ⟨r,[j]⟩=some (oR en L2)) (hi2:idx L2 i=some y2) (ho:Nat.blt off en.z=true):El g g2 (.ptr ⟨r,[j]⟩ (i.toNat * en.z+off))
theorem El.ok2 {x:AV}(h:El g g2 x):RefOk g2 x:=by
 cases h with
 | mk h1 hi h2 hi2 ho=>exact ⟨_,h2,_,_,_,.inl rfl,el_lt hi2 ho⟩
theorem El.rk {x:AV}(h:El g g2 x):RK g2 x:=by
 have:=h.ok2
 cases h with
 | mk=>exact .ref rfl this
theorem El.np {x:AV}(h:El g g2 x):∀ z p n m new,x≠.pend z p n m new:=by
 cases h with
 | mk=>simp
inductive TrX (g g2:Gst) (r:Nat) (x2:AV):List (Nat × AV)->Prop
 | nil:TrX g g2 r x2 []
 | n {s:Nat}{x:AV}{l:List (Nat × AV)}(hne:Nat.beq s r=false) (h:g s=some x) [hn:NRc x] (t:TrX g g2 r x2 l):TrX g g2 r x2 ((s,x)::l)
 | p {s q k:Nat}{l:List (Nat × AV)}{cs ct:List AV}(hne:Nat.beq s r=false) (h:g s=some (.ptr ⟨q,[]⟩ k)) (h1:g q=some (.obj cs)) (hk:Nat.blt k cs.length=true) (h2:g2 q=some (.obj ct)) (hk2:Nat.blt k ct.length=true) (t:TrX g g2 r x2 l):TrX g g2 r x2 ((s,.ptr ⟨q,[]⟩ k)::l)
 | e {s:Nat}{x:AV}{c2:List AV}{l:List (Nat × AV)}(hne:Nat.beq s r=false) (h:g s=some x) (he:El g g2 x) (hx2:x2=.obj c2) (t:TrX g g2 r x2 l):TrX g g2 r x2 ((s,x)::l)
 | w {α:Type}{s q:Nat}{en:En α}{L:List α}{l:List (Nat × AV)}(hne:Nat.beq s r=false) (h:g s=some (.brw en.z ⟨q,[]⟩ L.length)) (h1:g q=some (oR en L)) (h2:g2 q=some (oR en L)) (t:TrX g g2 r x2 l):TrX g g2 r x2 ((s,.brw en.z ⟨q,[]⟩ L.length)::l)
 | b {l:List (Nat × AV)}{x:AV}(e:x=x2) [hn:NRc x2] (t:TrX g g2 r x2 l):TrX g g2 r x2 ((r,x)::l)
theorem TrX.spec {x2:AV}{l:List (Nat × AV)}(h:TrX g g2 r x2 l):∀ t x,get l t=some x->(t≠r/\g t=some x/\(SK g g2 x\/El g g2 x/\∃ c2,x2=.obj c2))\/(t=r/\x=x2/\NR x):=by
 induction h with
 | nil=>intro t x hx; cases hx
 | @n s x l hne h hn _ ih =>
  intro t y hy; simp only [get] at hy
  split at hy
  ·rename_i e; subst e; cases hy; exact .inl ⟨Nat.ne_of_beq_eq_false hne,h,.inl (.n hn.nr)⟩
  ·exact ih t y hy
 | @p s q k l cs ct hne h h1 hk h2 hk2 _ ih =>
  intro t y hy; simp only [get] at hy
  split at hy
  ·rename_i e; subst e; cases hy; exact .inl ⟨Nat.ne_of_beq_eq_false hne,h,.inl (.p h1 (by simpa using hk) h2 (by simpa using hk2))⟩
  ·exact ih t y hy
 | @e s x c2 l hne h he hx2 _ ih =>
  intro t y hy; simp only [get] at hy
  split at hy
  ·rename_i e; subst e; cases hy; exact .inl ⟨Nat.ne_of_beq_eq_false hne,h,.inr ⟨he,_,hx2⟩⟩
  ·exact ih t y hy
 | @w α s q en L l hne h h1 h2 _ ih =>
  intro t y hy; simp only [get] at hy
  split at hy
  ·rename_i e; subst e; cases hy; exact .inl ⟨Nat.ne_of_beq_eq_false hne,h,.inl (.r h1 (Nat.le_refl _) h2 (Nat.le_refl _))⟩
  ·exact ih t y hy
 | @b l x e hn _ ih =>
  intro t y hy; simp only [get] at hy
  split at hy
  ·rename_i e'; subst e'; cases hy; subst e; exact .inr ⟨rfl,rfl,hn.nr⟩
  ·exact ih t y hy
theorem SK.rkq {x:AV}{k0 m0:Nat}(h:SK g g2 x):RKp (fun r=>RefOk g r/\Clear p k0 m0 r/\RefOk g2 r) x:=by
 cases h with
 | n h=>exact .nr h
 | p h hk h2 hk2 =>
  refine .ref rfl ⟨refOk_obj h hk,?_,refOk_obj h2 hk2⟩
  intro q hq _ j r' e
  simp only [refPlace,Option.some.injEq] at hq
  subst hq
  simp at e
 | r h hk h2 hk2 =>
  refine .ref rfl ⟨refOk_own h hk,?_,refOk_own h2 hk2⟩
  intro q hq _ j r' e
  simp only [refPlace,Option.some.injEq] at hq
  subst hq
  simp at e
end
end Go.Own
namespace Go.Own
open Go
set_option linter.unusedSectionVars false
variable [TB]
inductive Sh where
 | b | s | i (k:IntKind)
 deriving DecidableEq
end Go.Own
namespace Go.Own
open Go
set_option linter.unusedSectionVars false
variable [TB]
section
variable {P:Program}{g:Gst}{t t2:TypeId}{ty:TypeId}{a b:Operand}
namespace O
end O
end
end Go.Own
namespace Go.Own
open Go
set_option linter.unusedSectionVars false
variable [TB]
section
variable {P:Program}{N:Rm}{g g2:Gst}{d r k0:Nat}{α:Type}
theorem View.p0 {p:Place}{cs cs':List AV}(hp:atP g p=some (.obj cs)) (hk:Nat.blt 0 cs.length=true) [h:Vws cs cs']:View g (.ptr p 0) (.iptr cs') :=
 .ptr hp (z:=0) (n:=0) (.inr rfl) (by simpa using hk) (by simpa using h.l) fun k x y hx hy=>h.v g k x y (by simpa using hx) hy
inductive BkE (g:Gst) (d r k0:Nat) (G4:List (Nat × AV)):List (Nat × AV)->Prop
 | nil:BkE g d r k0 G4 []
 | c {α:Type}{en:En α}{L:List α}{s off:Nat}{i:Int}{y:α}{l:List (Nat × AV)}(h:g s=some (.ptr ⟨r,[k0]⟩ (i.toNat * en.z+off))) (hp:atP (get G4) ⟨r,[k0]⟩=some (oR en L)) (hi:idx L i=some y) (ho:Nat.blt off en.z=true) (hd:Nat.beq s d=false) (h4:get G4 s=none) (t:BkE g d r k0 G4 l):BkE g d r k0 G4 ((s,.ptr ⟨r,[k0]⟩ (i.toNat * en.z+off))::l)
theorem BkE.spec {G4 l:List (Nat × AV)}(h:BkE g d r k0 G4 l):∀ t x,get l t=some x->get G4 t=none/\t≠d/\g t=some x/\∃ m z n cs,x=.ptr ⟨r,[k0]⟩ m/\atP (get G4) ⟨r,[k0]⟩=some (.own z n cs)/\m<cs.length:=by
 induction h with
 | nil=>intro t x hx; cases hx
 | @c α en L s off i y l h hp hi ho hd h4 _ ih =>
  intro t x hx; simp only [get] at hx
  split at hx
  ·rename_i e; subst e; cases hx; exact ⟨h4,Nat.ne_of_beq_eq_false hd,h,_,_,_,_,rfl,hp,el_lt hi ho⟩
  ·exact ih t x hx
theorem TrX.keep {g':Gst}{x2:AV}{G2:List (Nat × AV)}(hG:TrX g (get G2) r x2 G2) (h1:∀ t,t≠r->g' t=g t) (h2:g' r=some x2):Keep g' (get G2):=by
 refine ⟨fun t x hx=>?_,fun t x hx=>?_,fun t z q n m new hx=>?_⟩
 ·rcases hG.spec t x hx with ⟨a,b,_⟩ | ⟨rfl,rfl,_⟩
  ·rw [h1 t a]; exact b
  ·exact h2
 ·rcases hG.spec t x hx with ⟨_,_,h3 | ⟨h3,_⟩⟩ | ⟨_,_,h3⟩
  ·exact h3.rk
  ·exact h3.rk
  ·exact .nr h3
 ·rcases hG.spec t _ hx with ⟨_,_,h3 | ⟨h3,_⟩⟩ | ⟨_,_,h3⟩
  ·exact h3.np _ _ _ _ _ rfl
  ·exact h3.np _ _ _ _ _ rfl
  ·cases h3
theorem setP_box {cs:List AV}{y x:AV}(h:g r=some (.obj cs)) (hk:cs[k0]?=some x):setP g ⟨r,[k0]⟩ y r=some (.obj (cs.set k0 y)):=by
 simp [setP,h,AV.setAt,AV.kids,hk,AV.setKid]
theorem EO.fr {o:Oper}{y:AV}{cs cs5:List AV}{G1 G4:Value->List (Nat × AV)}{c4:Value->List AV}{G5 A:List (Nat × AV)}(hd:o.dst=some d) (hN:N.ok d=true) (hr:g r=some (.obj cs)) (hy:cs[k0]?=some y) [hyn:NRc y]
  (h1:∀ v,TrX g (get (G1 v)) r (.obj (cs.set k0 (.lit v))) (G1 v)) (hc:∀ v,CallOk P N (get (G1 v)) o d (get (G4 v))) (h4r:∀ v,get (G4 v) r=some (.obj (c4 v))) (h4k:∀ v,(c4 v)[k0]?=some (.lit v)) (h4s:∀ v,(c4 v).set k0 y=cs5)
  (h5:∀ v,TrX (get (G4 v)) (get G5) r (.obj cs5) G5) (h5r:atP (get G5) ⟨r,[k0]⟩=some y) (hA:BkE g d r k0 G5 A) (hns:∀ i,y≠.self i:=by exact fun _ h=>by cases h):EO P N g o (get (A++G5)):=by
 refine .call hd hN (CallOk.framed hr hy hyn.nr hns fun v hv=>⟨get (G1 v),get (G4 v),get G5,?_,hc v,?_,?_,h5r,?_⟩)
 ·exact (h1 v).keep (fun t ht=>setP_slot ht) (setP_box hr hy)
 ·have:=h4r v
  simp only [atP,this,AV.at,AV.kids,h4k v]
 ·refine (h5 v).keep (fun t ht=>setP_slot ht) ?_
  rw [setP_box (h4r v) (h4k v),h4s v]
 ·refine ⟨fun t x h=>?_,fun t x h=>?_⟩
  ·rw [get_app]
   cases hA':get A t with
   | none=>exact h
   | some z =>
    obtain ⟨q1,_⟩:=hA.spec t z hA'
    rw [q1] at h; cases h
  ·rw [get_app] at h
   cases hA':get A t with
   | none=>rw [hA'] at h; exact .inl h
   | some z =>
    rw [hA'] at h
    cases h
    exact .inr (hA.spec t x hA')
end
end Go.Own
namespace Go.Own
open Go
set_option linter.unusedSectionVars false
variable [TB]
section
variable {P:Program}{N:Rm}{ops:Array Oper}{g g1 gA:Gst}{K:Gst->Prop}{l:List Oper}{d r:Nat}{t:TypeId}{a b:Operand}{x y:AV}
variable {AT:List (List Nat)}{acc:Acc}{i:Nat}
def neD:Option Nat->Nat->Bool
 | none,_=>true
 | some a,d=>!Nat.beq a d
theorem neD_spec {o:Option Nat}{d:Nat}(h:neD o d=true):o≠some d:=by
 rintro rfl
 simp [neD] at h
inductive UL (P:Program) (N:Rm) (ops:Array Oper) (AT:List (List Nat)) (rs:Place->Prop) (gA g1:Gst) (o:Oper) (U:Acc):Acc->Prop
 | nil:UL P N ops AT rs gA g1 o U []
 | c {k d:Nat}{x:AV}{o':Oper}{V:Acc}(hst:Stab rs gA g1 o x) (h1:g1 d=none) (hne:neD o.dst d=true) (ho:ops[k]?=some o') (hod:o'.dst=some d) (hN:N.ok d=true) (hw:Wanted (visG g1 (fun m=>(AT.getD k []).contains m) U) ops o' true)
   (hs:PS P (visG g1 (fun m=>(AT.getD k []).contains m) U) o'.op o'.type x) (t:UL P N ops AT rs gA g1 o U V):UL P N ops AT rs gA g1 o U ((k,d,some x)::V)
theorem UL.spec {o:Oper}{U V:Acc}{rs:Place->Prop}(h:UL P N ops AT rs gA g1 o U V):∀ e∈V,(∃ x,e.2.2=some x/\Stab rs gA g1 o x)/\(g1 e.2.1=none/\o.dst≠some e.2.1)/\∃ o',ops[e.1]?=some o'/\o'.dst=some e.2.1/\N.ok e.2.1=true/\StepOk P (visG g1 (fun m=>(AT.getD e.1 []).contains m) U) ops o' e.2.2:=by
 induction h with
 | nil=>intro e he; cases he
 | c hst h1 hne ho hod hN hw hs _ ih =>
  intro e he
  rcases List.mem_cons.1 he with rfl | he
  ·exact ⟨⟨_,rfl,hst⟩,⟨h1,neD_spec hne⟩,_,ho,hod,hN,.inl ⟨hw,.inl hs⟩⟩
  ·exact ih e he
theorem DL.bu (j0:Nat) {G G2:List (Nat × AV)}{U:Acc}{o:Oper}{rs:List Nat}(he:EffV P N (rsV rs) (visG (get G) (fun m=>(AT.getD j0 []).contains m) acc) o (get G2)) (hrs:rs.all (fun r=>(get G r).isSome)=true) (hg:o.guard=none) (hpd:ndr ((acc.filterMap pendPlace).map Place.root)=true) (hp0:npB G=true) (hj:Nat.beq ops.size (j0+l.length+1)=true)
  (hU:acc.filter (fun e=>!(AT.getD j0 []).contains e.1)=U) (hul:UL P N ops AT (rsV rs) (visG (get G) (fun m=>(AT.getD j0 []).contains m) acc) (get G2) o U U)
  (hb:(List.range ops.size).all (fun k=>Nat.ble k j0||(AT.getD k []).contains j0)=true) (hk:DL P N ops AT (get G2) (j0+1) U l K):DL P N ops AT (get G) i acc (o::l) K:=by
 intro U0 j hP hseg hdrop
 have:=drop_at hdrop hj
 subst this
 obtain ⟨h1,h2⟩:=drop_cons hdrop
 have hmem:∀ e∈U,e∈acc:=fun e he=>by rw [<- hU] at he; exact (List.mem_filter.1 he).1
 have hP1:PendOk P N ops AT (get G2) (j+1) U:=⟨fun e he=>by have:=(hseg.le hP).2 e (hmem e he); omega,fun e he=>(hul.spec e he).2.1.1,by rw [<- hU]; exact (List.filter_sublist.map _).nodup (hseg.nodup hP),fun e he e' he' h=>hseg.uniq hP (hmem e he) (hmem e' he') h,fun e he=>(hul.spec e he).2.2⟩
 obtain ⟨g',hr,hK⟩:=hk U (j+1) hP1 .nil h2
 refine ⟨g',.bar hseg (ndr_spec hpd) (npB_spec hp0) h1 ?_ he (fun r hr e=>by have:=List.all_eq_true.1 hrs r.root hr; rw [e] at this; cases this) hU.symm (fun e h=>(hul.spec e h).1) (fun e h=>(hul.spec e h).2.1) (fun e h=>(hul.spec e h).2.2) ?_ hr,hK⟩
 ·unfold Wanted; rw [hg]
 ·refine List.all_eq_true.2 fun k hk=>?_
  have:=List.all_eq_true.1 hb k hk
  simp only [Bool.or_eq_true,decide_eq_true_eq,Nat.ble_eq] at this ⊢
  exact this
theorem EffV.box {o:Oper}{r:Nat}{x:AV}{G1 G2:List (Nat × AV)}(he:EO P N (get G1) o (get G2)) (hr:g r=some x) [hx:NRc x] (hk:Trim false g (get G1) G1) (h0:get G1 r=none) (h1:get G2 r=none) (hd:neD o.dst r=true):EffV P N (rsV [r]) g o (get ((r,x)::G2)):=by
 rw [<- get_cons]
 exact he.eff.frame hr hx.nr hk.keep h0 h1 (neD_spec hd)
end
end Go.Own
namespace Go.Own
open Go
set_option linter.unusedSectionVars false
variable [TB]
section
variable {α:Type}
theorem Vws.app {xs ys xs' ys':List AV}(h:Vws xs ys) (h':Vws xs' ys'):Vws (xs++xs') (ys++ys'):=⟨by simp [h.l,h'.l],fun g k a b ha hb=>by
 by_cases hk:k<xs.length
 ·rw [List.getElem?_append_left hk] at ha
  rw [List.getElem?_append_left (by rw [h.l]; exact hk)] at hb
  exact h.v g k a b ha hb
 ·rw [List.getElem?_append_right (by omega)] at ha
  rw [List.getElem?_append_right (by rw [h.l]; omega),h.l] at hb
  exact h'.v g _ a b ha hb⟩
instance {e e':En α}{L:List α} [h:Tw e e']:Vws (rowc e L) (rowc e' L):=⟨(vws_rowc e e' L).1,(vws_rowc e e' L).2⟩
theorem Vw.pn {en en':En α}{L M:List α}{m:Nat}{new new':List AV} [h:Tw en en'] (hn:rowc en' M=new') (hm:M.length=m) [h':Vws new new']:Vw (.own en.z (L.length+m) (rowc en L++new)) (iR en' (L++M)):=⟨fun g=>by
 subst hn hm
 have hv:=Vws.app (inferInstance:Vws (rowc en L) (rowc en' L)) h'
 show View g (.own en.z (L.length+M.length) (rowc en L++new)) (.imm en'.z (L++M).length (rowc en' (L++M)))
 have e:rowc en' (L++M)=rowc en' L++rowc en' M:=by simp [rowc]
 rw [e,List.length_append,<- h.z]
 exact .own hv.l (hv.v g)⟩
end
end Go.Own
namespace Go.Own
open Go
set_option linter.unusedSectionVars false
variable [TB]
section
variable {α:Type}{g g2:Gst}{p q:Place}{P:Program}{a b:Operand}{t:TypeId}{ty:TypeId}
theorem RK.brw {en:En α}{L:List α}(h:atP g2 p=some (oR en L)):RK g2 (.brw en.z p L.length):=.ref rfl (.inl ⟨_,_,h,Nat.le_refl _⟩)
namespace O
end O
end
end Go.Own
namespace Go.Own
open Go Go.RowKit Go.ChangeShapes Go.WideShapes Go.Deep
set_option linter.unusedSectionVars false
variable [TB]
variable {α β σ:Type}{P:Program}
abbrev R0 (w:World) (y:AV) (u:Value):Prop:=R w (fun b=>b<w.heap.size) (fun _ _=>False) y u (fun _=>False)
def RL (w:World) (ys:List AV) (cs:List Value):Prop :=
 ys.length=cs.length/\∀ (k:Nat) (y:AV) (u:Value),ys[k]?=some y->cs[k]?=some u->u.oneCell'=true/\R0 w y u
theorem RL.nil {w:World}:RL w [] []:=⟨rfl,fun _ _ _ h=>by simp at h⟩
theorem RL.one {w:World}{y:AV}{u:Value}(h1:u.oneCell'=true) (h:R0 w y u):RL w [y] [u] :=
 ⟨rfl,fun k y' u' hy hu=>by
  cases k with
  | zero=>simp at hy hu; subst hy hu; exact ⟨h1,h⟩
  | succ k=>simp at hy⟩
theorem RL.app {w:World}{ys zs:List AV}{cs ds:List Value}(h:RL w ys cs) (h2:RL w zs ds):RL w (ys++zs) (cs++ds):=by
 refine ⟨by simp [h.1,h2.1],fun k y u hy hu=>?_⟩
 by_cases hk:k<ys.length
 ·rw [List.getElem?_append_left hk] at hy
  rw [List.getElem?_append_left (h.1 ▸ hk)] at hu
  exact h.2 k y u hy hu
 ·rw [List.getElem?_append_right (by omega)] at hy
  rw [List.getElem?_append_right (by have:=h.1; omega),<- h.1] at hu
  exact h2.2 _ y u hy hu
structure Ar (P:Program) (e:En α) (t:TypeId) (ok:α->Prop):Prop where
 z:P.cellsOf t=e.z
 go:∀ {H:Type}{enc:TypeId × Value->H}{w:World}{n:Nat}{cs:List Value}{x:DataW H × List MemPlace},
  DataW.trod enc P w 0 (fun _=>true) true n t cs=some x->∃ a,ok a/\RL w (e.cells a) cs
theorem Ar.int {e:En Int}{t:TypeId}{k:IntKind}(ht:P.underlying t=some (.int k)) (hz:P.cellsOf t=e.z) (he:∀ n,e.cells n=[.lit (.int k n)]) :
  Ar P e t (fun n=>(Lit.int k n).wf=true):=by
 refine ⟨hz,fun h=>?_⟩
 obtain ⟨n,rfl,_,hw⟩:=DataW.trod_int ht h
 exact ⟨n,hw,he n ▸ RL.one rfl (.lit rfl fun _ h=>h)⟩
theorem Ar.bool {e:En Bool}{t:TypeId}(ht:P.underlying t=some .bool) (hz:P.cellsOf t=e.z) (he:∀ n,e.cells n=[.lit (.bool n)]) :
  Ar P e t (fun _=>True):=by
 refine ⟨hz,fun h=>?_⟩
 obtain ⟨n,rfl,_⟩:=DataW.trod_bool ht h
 exact ⟨n,trivial,he n ▸ RL.one rfl (.lit rfl fun _ h=>h)⟩
theorem Ar.str {e:En ByteArray}{t:TypeId}(ht:P.underlying t=some .string) (hz:P.cellsOf t=e.z) (he:∀ n,e.cells n=[.lit (.string n)]) :
  Ar P e t (fun s=>s.size<=maxLen):=by
 refine ⟨hz,fun h=>?_⟩
 obtain ⟨n,rfl,_,hw⟩:=DataW.trod_string ht h
 exact ⟨n,hw,he n ▸ RL.one rfl (.lit rfl fun _ h=>h)⟩
theorem rowc_nth (e:En α) (hz:0<e.z):∀ (l:List α) (k:Nat) (y:AV),(rowc e l)[k]?=some y->∃ a,l[k / e.z]?=some a/\(e.cells a)[k % e.z]?=some y
 | [],k,y,h=>by simp [rowc] at h
 | a::l,k,y,h=>by
  have he:rowc e (a::l)=e.cells a++rowc e l:=by simp [rowc]
  rw [he] at h
  by_cases hk:k<e.z
  ·rw [List.getElem?_append_left (by rw [e.len]; exact hk)] at h
   exact ⟨a,by simp [Nat.div_eq_of_lt hk],by rw [Nat.mod_eq_of_lt hk]; exact h⟩
  ·rw [List.getElem?_append_right (by rw [e.len]; omega),e.len] at h
   obtain ⟨b,h1,h2⟩:=rowc_nth e hz l (k - e.z) y h
   have hd:k / e.z=(k - e.z) / e.z+1:=by rw [Nat.div_eq_sub_div hz (by omega)]
   refine ⟨b,by rw [hd]; simpa using h1,?_⟩
   rw [Nat.mod_eq_sub_mod (by omega)]; exact h2
theorem Ar.slice {e:En α}{t te:TypeId}{ok:α->Prop}(h:Ar P e te ok) (ht:P.underlying t=some (.slice te)) (hz:P.cellsOf t=1) (hpos:0<e.z) :
  Ar P (eM e) t (fun l=>l.length<=maxLen/\∀ x∈l,ok x):=by
 classical
 refine ⟨hz,fun {H enc w n cs x} hr=>?_⟩
 rcases open_slice ht hr with ⟨rfl,rfl⟩ | ⟨a,len,cap,m,n',D,Pl,rfl,hb,hl,hm,hmm,rfl,hx⟩
 ·exact ⟨[],⟨by simp,by simp⟩,RL.one rfl (.imm0 fun _ h=>h)⟩
 ·have hmc:m=cap:=by simpa using hmm
  subst hmc
  have hex:∀ i,i<len->∃ q:α × List Value,ok q.1/\RL w (e.cells q.1) q.2/\w.cells? 0 (a.add (i * P.cellsOf te)) (P.cellsOf te)=some q.2:=fun i hi=>by
   obtain ⟨cs',h1,h2⟩:=hx i (by omega)
   obtain ⟨b,hb1,hb2⟩:=h.go h2
   exact ⟨(b,cs'),hb1,hb2,h1⟩
  by_cases h0:len=0
  ·subst h0
   exact ⟨[],⟨by simp,by simp⟩,RL.one rfl (.imm0 fun _ h=>h)⟩
  ·obtain ⟨q0,_⟩:=hex 0 (by omega)
   haveI:Inhabited (α × List Value):=⟨q0⟩
   obtain ⟨f,hf⟩:=choose_lt hex
   have hlen:((List.range len).map fun i=>(f i).1).length=len:=by simp
   have hget:∀ (i:Nat) (b:α),((List.range len).map fun i=>(f i).1)[i]?=some b->i<len/\b=(f i).1:=fun i b hi=>by
    have hlt:=(List.getElem?_eq_some_iff.1 hi).1
    simp at hlt
    simp [hlt] at hi
    exact ⟨hlt,hi.symm⟩
   have hsp:a.spot=none/\a.block<w.heap.size:=by
    obtain ⟨_,_,h3⟩:=hf 0 (by omega)
    obtain ⟨_,hl3,h5⟩:=World.cells?_some h3
    have h6:=h5 0 (by rw [h.z]; exact hpos)
    simp only [Nat.zero_mul,Addr.add,if_true] at h6
    have:0<(f 0).2.length:=by rw [hl3,h.z]; exact hpos
    rw [List.getElem?_eq_getElem this] at h6
    unfold World.cell? at h6
    split at h6
    ·rename_i hh
     refine ⟨?_,(Array.getElem?_eq_some_iff.1 hh).1⟩
     cases hs:a.spot with
     | none=>rfl
     | some s=>simp [hs] at h6
    ·cases h6
   have key:∀ (k:Nat) (y:AV),(rowc e ((List.range len).map fun i=>(f i).1))[k]?=some y->∃ u,w.cell? ⟨a.block,a.off+k,none⟩=some u/\u.oneCell'=true/\R0 w y u:=fun k y hk=>by
    obtain ⟨b,hb1,hb2⟩:=rowc_nth e hpos _ k y hk
    obtain ⟨hi,rfl⟩:=hget _ _ hb1
    obtain ⟨_,h2,h3⟩:=hf _ hi
    obtain ⟨_,hl3,h5⟩:=World.cells?_some h3
    have hmod:k % e.z<e.z:=Nat.mod_lt _ hpos
    have h6:=h5 (k % e.z) (by rw [h.z]; exact hmod)
    rw [Deep.add_add,h.z] at h6
    have hk2:k / e.z * e.z+k % e.z=k:=by rw [Nat.mul_comm]; exact Nat.div_add_mod k e.z
    rw [hk2] at h6
    have hlt:k % e.z<(f (k / e.z)).2.length:=by rw [hl3,h.z]; exact hmod
    rw [List.getElem?_eq_getElem hlt] at h6
    have ha:a.add k=⟨a.block,a.off+k,none⟩:=by
     unfold Addr.add
     split
     ·rename_i h00; subst h00; cases a; simp at hsp ⊢; exact hsp.1
     ·rfl
    rw [ha] at h6
    exact ⟨_,h6,h2.2 _ _ _ hb2 (List.getElem?_eq_getElem hlt)⟩
   refine ⟨(List.range len).map fun i=>(f i).1,⟨by rw [hlen]; omega,fun y hy=>?_⟩,RL.one rfl ?_⟩
   ·obtain ⟨i,hi,rfl⟩:=List.mem_map.1 hy
    exact (hf i (List.mem_range.1 hi)).1
   ·show R0 w (.imm e.z _ _) _
    rw [hlen]
    refine .imm (us:=fun k=>(w.cell? ⟨a.block,a.off+k,none⟩).getD .nilFunc) (fun _ h=>h) hl hsp.2 hsp.1 (by rw [rowc_len,hlen]) (fun k y hk=>?_) (fun k y hk=>?_) (fun k y hk=>?_)
    ·obtain ⟨u,h1,h2,h3⟩:=key k y hk
     simp only [h1,Option.getD_some]; exact h2
    ·obtain ⟨u,h1,h2,h3⟩:=key k y hk
     simp only [h1,Option.getD_some]
    ·obtain ⟨u,h1,h2,h3⟩:=key k y hk
     simp only [h1,Option.getD_some]; exact h3
def fieldsB (P:Program):Nat->List Field->List TypeId->Bool
 | _,[],[]=>true
 | off,f::fs,t::ts=>decide (f.type=t)&&decide (f.offset=off)&&fieldsB P (off+P.cellsOf t) fs ts
 | _,_,_=>false
def strB (P:Program) (t:TypeId) (ts:List TypeId):Bool :=
 match P.underlying t with
 | some (.struct fs)=>fieldsB P 0 fs.toList ts&&decide (P.cellsOf t=(ts.map P.cellsOf).sum)
 | _=>false
structure ArL (P:Program) (cells:β->List AV) (ts:List TypeId) (ok:β->Prop):Prop where
 go:∀ {H:Type}{enc:TypeId × Value->H}{w:World}{n:Nat}{cs:List Value}{fs:List Field}{off:Nat},fieldsB P off fs ts=true->cs.length=off+(ts.map P.cellsOf).sum ->
  (∀ (i:Nat) (f:Field),fs[i]?=some f->∃ x,DataW.trod enc P w 0 (fun _=>true) true n f.type ((cs.drop f.offset).take (P.cellsOf f.type))=some x) ->
  ∃ b,ok b/\RL w (cells b) (cs.drop off)
theorem ArL.nil:ArL P (fun _:Unit=>[]) [] (fun _=>True) :=
 ⟨fun {H enc w n cs fs off} _ hl _=>⟨(),trivial,by rw [List.drop_eq_nil_of_le (by simp at hl; omega)]; exact RL.nil⟩⟩
theorem ArL.cons {e:En α}{t:TypeId}{ts:List TypeId}{ok:α->Prop}{cells:β->List AV}{okl:β->Prop}(h:Ar P e t ok) (hl:ArL P cells ts okl) :
  ArL P (fun p:α × β=>e.cells p.1++cells p.2) (t::ts) (fun p=>ok p.1/\okl p.2):=by
 refine ⟨fun {H enc w n cs fs off} hB hlen hr=>?_⟩
 cases fs with
 | nil=>simp [fieldsB] at hB
 | cons f fs =>
  simp only [fieldsB,Bool.and_eq_true,decide_eq_true_eq] at hB
  obtain ⟨⟨rfl,rfl⟩,hB⟩:=hB
  obtain ⟨x,hx⟩:=hr 0 f rfl
  obtain ⟨a,ha,hR⟩:=h.go hx
  obtain ⟨b,hb,hRb⟩:=hl.go (off:=f.offset+P.cellsOf f.type) (cs:=cs) hB (by rw [hlen]; simp [Nat.add_assoc]) (fun i f' hf'=>hr (i+1) f' (by simpa using hf'))
  refine ⟨(a,b),⟨ha,hb⟩,?_⟩
  have:cs.drop f.offset=(cs.drop f.offset).take (P.cellsOf f.type)++cs.drop (f.offset+P.cellsOf f.type):=by
   rw [<- List.drop_drop]; exact (List.take_append_drop _ _).symm
  rw [this]
  exact hR.app hRb
theorem Ar.struct {e:En σ}{t:TypeId}{ts:List TypeId}{cells:β->List AV}{ok:β->Prop}(h:ArL P cells ts ok) (mk:β->σ) (un:σ->β) (hun:∀ b,un (mk b)=b) (hc:∀ b,e.cells (mk b)=cells b) (ht:strB P t ts=true) (hz:P.cellsOf t=e.z) :
  Ar P e t (fun s=>ok (un s)):=by
 refine ⟨hz,fun {H enc w n cs x} hr=>?_⟩
 unfold strB at ht
 split at ht
 ·rename_i fs hu
  simp only [Bool.and_eq_true,decide_eq_true_eq] at ht
  obtain ⟨xs,n',rfl,rfl,hl,hxl,hx⟩:=DataW.trod_struct hu hr
  obtain ⟨b,hb,hR⟩:=h.go (w:=w) (off:=0) (cs:=cs) (fs:=fs.toList) (n:=n') (enc:=enc) ht.1 (by rw [hl,ht.2]; simp) (fun i f hf=>by
   have hf':fs[i]?=some f:=by simpa using hf
   have hi:i<xs.length:=by rw [hxl]; exact (Array.getElem?_eq_some_iff.1 hf').1
   exact ⟨xs[i],by rw [hx i f hf',List.getElem?_eq_getElem hi]⟩)
  exact ⟨mk b,by rw [hun]; exact hb,by rw [hc]; simpa using hR⟩
 ·cases ht
inductive ArgR (w:World):AV->Value->Prop
 | mk {y:AV}{v:Value}(h:R0 w y v):ArgR w y v
theorem Ar.one {e:En α}{t:TypeId}{ok:α->Prop}{g:α->AV}(h:Ar P e t ok) (he:∀ a,e.cells a=[g a]) {H:Type}{enc:TypeId × Value->H}{w:World}{v:Value}{d:DataW H}{p:List MemPlace}(hv:v.cells.toList=[v])
  (ht:DataW.Trod enc P w 0 (fun _=>true) true t v d p):∃ a,ok a/\ArgR w (g a) v:=by
 obtain ⟨n,hn⟩:=ht
 obtain ⟨a,ha,hR⟩:=h.go hn
 refine ⟨a,ha,.mk ?_⟩
 rw [hv,he] at hR
 exact (hR.2 0 _ _ rfl rfl).2
theorem Ar.oneS {e:En α}{t te:TypeId}{ok:List α->Prop}(h:Ar P (eM e) t ok) (hu:P.underlying t=some (.slice te)) {H:Type}{enc:TypeId × Value->H}{w:World}{v:Value}{d:DataW H}{p:List MemPlace}{base:Nat}(hv:Value.okWide P w .any base t v)
  (ht:DataW.Trod enc P w 0 (fun _=>true) true t v d p):∃ a,ok a/\ArgR w (iR e a) v:=by
 obtain ⟨a,l,c,rfl⟩:=okWide_slice hu hv
 exact h.one (fun _=>rfl) rfl ht
inductive ArgsR (w:World):List AV->List Value->Prop
 | nil:ArgsR w [] []
 | cons {y:AV}{v:Value}{ys:List AV}{vs:List Value}(h:ArgR w y v) (hs:ArgsR w ys vs):ArgsR w (y::ys) (v::vs)
theorem ArgsR.get {w:World}{ys:List AV}{vs:List Value}(h:ArgsR w ys vs):ys.length=vs.length/\∀ (k:Nat) (y:AV),ys[k]?=some y->∃ v,vs[k]?=some v/\R0 w y v:=by
 induction h with
 | nil=>exact ⟨rfl,fun k y h=>by simp at h⟩
 | cons h _ ih =>
  refine ⟨by simp [ih.1],fun k y hy=>?_⟩
  cases k with
  | zero =>
   simp at hy; subst hy
   obtain ⟨h⟩:=h
   exact ⟨_,rfl,h⟩
  | succ k=>simpa using ih.2 k y (by simpa using hy)
theorem ArgsR.sr {w:World}{ys:List AV}{vs:List Value}(h:ArgsR w ys vs) (hp:ys.all (fun y=>match y with | .pend ..=>false | _=>true)=true) (htb:TB.q w fun b=>b<w.heap.size) :
  SR w (fun b=>b<w.heap.size) vs.toArray (argG ys) (fun _=>E0):=by
 refine ⟨fun t x hx=>?_,fun _ _ _ h=>h,fun _ _ _ h=>h.elim,fun _ _ h=>h.elim,fun _ h=>h,fun t t' z p n m new z' n' m' new' h1 _=>?_,htb⟩
 ·obtain ⟨v,hv,hR⟩:=h.get.2 t x hx
  exact ⟨v,by simpa using hv,.tree (hR.frame (fun _ _=>rfl) (fun _ h=>h) (fun _ _ h=>h.elim) (fun _ _=>rfl))⟩
 ·have:=List.all_eq_true.1 hp _ (List.mem_of_getElem? h1)
  cases this
structure Kp (w w':World):Prop where
 kept:∀ may:MemPlace->Prop,w.keptBut w' may
 fz:∀ a,a.block<w.heap.size->w'.frozen? a=w.frozen? a
theorem Con.walkA {f:FuncId}{ys:List AV}{vs:List Value}{outs:List (Option AV)}{r:Value}(hc:Con P f ys outs (.lit r)) (w:World) (h:ArgsR w ys vs) (hp:ys.all (fun y=>match y with | .pend ..=>false | _=>true)=true) (htb:TB.q w fun b=>b<w.heap.size) :
  Calls P f vs.toArray w fun e w'=>e=.returned r/\Kp w w'/\∀ i:Nat,i<w.heap.size->w'.heap[i]?=w.heap[i]?:=by
 have:=hc.2 w _ vs _ h.get.1.symm (h.sr hp htb)
 refine this.mono ?_
 rintro e w' ⟨v,I',Fs',rfl,hS,hst⟩
 obtain ⟨u,hu,hR⟩:=hS.rel outs.length (.lit r) (by simp [outG])
 have hl:outs.length=vs.length:=by rw [hc.1]; exact h.get.1
 have huv:u=v:=by
  rw [hl] at hu
  simpa using hu.symm
 subst huv
 have hv:=(hR.isTree (by simp)).inv_lit.1
 subst hv
 have hb:∀ i:Nat,i<w.heap.size->w'.heap[i]?=w.heap[i]?:=fun i hi=>hst.fr.block i hi fun ⟨_,h⟩=>h
 have hk:World.keptBut w w' (fun _=>False):=⟨hst.fr.os,hst.fr.output,fun i hi=>by
  rw [hb i hi]
  exact (World.keptBut_refl w (fun _=>False)).2.2 i hi⟩
 exact ⟨rfl,⟨fun may=>World.keptBut_mono (fun _ f=>f.elim) hk,fun a ha=>hst.fr.fz a ha fun ⟨_,h⟩=>h⟩,hb⟩
theorem trodAll_old {H:Type}{enc:TypeId × Value->H}{w w':World}{base:Nat}{sp:Nat->Bool}{held:Bool}(hb:∀ i:Nat,i<w.heap.size->w'.heap[i]?=w.heap[i]?) :
  ∀ {ts:List TypeId}{vs:List Value}{ds:List (DataW H)}{ps:List MemPlace},DataW.TrodAll enc P w base sp held ts vs ds ps->DataW.TrodAll enc P w' base sp held ts vs ds ps
 | [],[],[],_,h=>h
 | _::_,_::_,_::_,_,⟨p,q,⟨n,hn⟩,h2,e⟩=>by
  refine ⟨p,q,⟨n,DataW.trod_carry n _ _ _ hn fun x hx=>?_⟩,trodAll_old hb h2,e⟩
  have hlt:=DataW.trod_lt n _ _ _ hn x hx
  cases x with
  | cell b off =>
   show w'.cell? _=w.cell? _
   exact World.cell?_of_block (hb b hlt)
  | map b=>exact hb b hlt
theorem args_again {H:Type}{enc:TypeId × Value->H}{w w':World}(hl:laidOutB P=true) (hm:mapsRowed P=true)
  (hz:((List.range P.types.size).all fun t=>match P.underlying t with | some (.slice e)=>decide (0<P.cellsOf e) | _=>true)=true)
  (hb:∀ i:Nat,i<w.heap.size->w'.heap[i]?=w.heap[i]?) {ts:List TypeId}{vs:List Value}{ds:List (DataW H)}{ps:List MemPlace}(ht:ts.all (fun t=>decide (t<P.types.size))=true)
  (h:DataW.TrodAll enc P w 0 (fun _=>true) true ts vs ds ps) {sp:Nat->Bool}(hsp:∀ p∈ps,sp p.block=true):DataW.TrodAll enc P w' 0 sp true ts vs ds ps :=
 (trodAll_old hb h).respare (kids_rows hl hm) (slices_full_of P hz) (fun t h=>of_decide_eq_true (List.all_eq_true.1 ht t h)) hsp
end Go.Own
namespace Go.Own
open Go
set_option linter.unusedSectionVars false
variable [TB]
section
variable {α β:Type}{P:Program}{N:Rm}{g g1:Gst}{p:Place}{m:Int}{a b:Operand}{t:TypeId}
theorem AV.at_app1:∀ (l:List Nat) {x nd:AV}{k:Nat}{c:AV},x.at l=some nd->nd.kids[k]?=some c->x.at (l++[k])=some c
 | [],x,nd,k,c,h,hk=>by
  simp only [AV.at,Option.some.injEq] at h
  subst h
  simp [AV.at,hk]
 | j::l,x,nd,k,c,h,hk=>by
  simp only [AV.at] at h
  cases hj:x.kids[j]? with
  | none=>rw [hj] at h; cases h
  | some y =>
   rw [hj] at h
   simp only [List.cons_append,AV.at,hj]
   exact AV.at_app1 l h hk
theorem el_cell {en:En α}{L:List α}{yy:α}{o:Nat}{c:AV}(h:idx L m=some yy) (hc:(en.cells yy)[o]?=some c):(oR en L).kids[m.toNat * en.z+o]?=some c:=rowc_at en h hc
theorem atP_el {en:En α}{L:List α}{yy:α}{r o:Nat}{path:List Nat}{c:AV}(hp:atP g ⟨r,path⟩=some (oR en L)) (h:idx L m=some yy) (hc:(en.cells yy)[o]?=some c):atP g ⟨r,path++[m.toNat * en.z+o]⟩=some c:=by
 unfold atP at hp ⊢
 simp only at hp ⊢
 cases hx:g r with
 | none=>rw [hx] at hp; cases hp
 | some x =>
  rw [hx] at hp
  exact AV.at_app1 path hp (el_cell h hc)
end
end Go.Own
/- Short forms for printed walks. -/
namespace Go.Own
open Go
set_option linter.unusedSectionVars false
variable [TB]
section
variable {P:Program}{N:Rm}{ops:Array Oper}{AT:List (List Nat)}{g g0:Gst}{K:Gst->Prop}{l:List Oper}{acc:Acc}{d i:Nat}{op:Op}{ty:TypeId}{pos:String}{after:Array Edge}{x:AV}
theorem Rv (hp:PS P g op ty x) (hk:RunL P N ops l (upd g d x) K) (hN:N.ok d=true:=by rfl) (hf:g d=none:=by rfl):RunL P N ops (⟨some d,op,ty,pos,after,none⟩::l) g K:=.v hp hN hf .none hk
theorem Rc (hp:PC P g op x) (hk:RunL P N ops l (upd g d x) K) (hN:N.ok d=true:=by rfl) (hf:g d=none:=by rfl):RunL P N ops (⟨some d,op,ty,pos,after,none⟩::l) g K:=.c hp hN hf .none hk
theorem Dv (j0:Nat) (hp:PS P (vis AT g0 j0 acc) op ty x) (hk:DL P N ops AT g0 i ((j0,d,some x)::acc) l K) (hj:Nat.beq ops.size (j0+l.length+1)=true:=by rfl) (hf:g0 d=none:=by rfl) (hn:acc.all (fun e=>!Nat.beq e.2.1 d)=true:=by rfl) (hN:N.ok d=true:=by rfl) :
  DL P N ops AT g0 i acc (⟨some d,op,ty,pos,after,none⟩::l) K:=.v j0 hp hj hf hn hN .none hk
theorem Dc (j0:Nat) (hp:PC P (vis AT g0 j0 acc) op x) (hk:DL P N ops AT g0 i ((j0,d,some x)::acc) l K) (hj:Nat.beq ops.size (j0+l.length+1)=true:=by rfl) (hf:g0 d=none:=by rfl) (hn:acc.all (fun e=>!Nat.beq e.2.1 d)=true:=by rfl) (hN:N.ok d=true:=by rfl) :
  DL P N ops AT g0 i acc (⟨some d,op,ty,pos,after,none⟩::l) K:=.c j0 hp hj hf hn hN .none hk
end
instance {z n:Nat}{cs:List AV}:NPc (.own z n cs):=⟨by simp⟩
def rn (a n:Nat) (l:List Nat):List Nat:=List.range' a n++l
end Go.Own
namespace Go.Own
open Go
set_option linter.unusedSectionVars false
variable [TB]
section
variable {α:Type}{P:Program}{N:Rm}{g:Gst}{d r:Nat}{ty:TypeId}
instance {fn:Fn}{cs:List AV} [h:NRl cs]:NRc (.clo fn [] cs):=⟨.clo (by simp) h.nr⟩
theorem O.mf {fn:Fn}{caps:List Operand}{b:List AV}(hb:Own.opds g caps=some b):PS P g (.makeFunc fn #[] caps.toArray) ty (.clo fn [] b):=.p3 (.makeFunc rfl (by simpa using hb))
theorem View.cl {fn:Fn}{cs cs':List AV}(h:VwL g cs cs'):View g (.clo fn [] cs) (.clo fn [] cs'):=.clo h.len h.get
theorem CallOk.lv {o:Oper}{xs:List Operand}{tys:Array TypeId}{f:FuncId}{ys args:List AV}{res:AV}{en:En α}{L L':List α}{G2:List (Nat × AV)}(ho:o.op=.call { callee:=.value (.func f),args:=xs.toArray,argTypes:=tys }) (hd:o.dst=some d) (hx:Own.opds g xs=some (.brw en.z ⟨r,[]⟩ L.length::ys))
  (hs:g r=some (oR en L)) (hv:VwL (get ((r,.dead)::G2)) ys args) (hcon:Con P f (oR en L::args) (some (oR en L')::args.map fun _=>none) res) (hf:callT P f=true) [hr:OOc res] [hro:OOc (oR en L')]
  (hG:Trim false (setP g ⟨r,[]⟩ .dead) (get ((r,.dead)::G2)) G2) (hg:get G2 d=none) (hrd:Nat.beq r d=false) (hG4:Trim false (get ((r,oR en L')::G2)) (get ((r,oR en L')::G2)) G2) (hN:N.ok d=true) :
  CallOk P N g o d (get ((d,res)::(r,oR en L')::G2)):=by
 have hrd':r≠d:=Nat.ne_of_beq_eq_false hrd
 have dead2:get ((r,AV.dead)::G2) r=some .dead:=by simp [get]
 have hnr:∀ x∈rowc en L,NR x:=by
  intro x hx
  obtain ⟨a,_,ha⟩:=List.mem_flatMap.1 hx
  exact en.nr a x ha
 have htk:(rowc en L).take (L.length * en.z)=rowc en L:=List.take_of_length_le (by rw [rowc_len]; exact Nat.le_refl _)
 have keep2:Keep (setP g ⟨r,[]⟩ .dead) (get ((r,.dead)::G2)):=by
  refine ⟨fun t x h=>?_,fun t x h=>?_,fun t z q n m new h=>?_⟩
  all_goals
   simp only [get] at h
   split at h
  ·rename_i e; subst e; cases h; simp [setP,hs,AV.setAt]
  ·obtain ⟨⟨y,h1,_,h3⟩,_⟩:=hG.spec t x h; rw [<- h3 rfl]; exact h1
  ·cases h; exact .nr .dead
  ·exact (hG.spec t x h).2.1
  ·cases h
  ·exact (hG.spec t _ h).2.2 _ _ _ _ _ rfl
 have put:putAll (get ((r,.dead)::G2)) [(⟨r,[]⟩,oR en L')]=get ((r,oR en L')::G2):=by
  funext t
  simp only [putAll,setP,get]
  by_cases h:t=r
  ·simp [h,AV.setAt]
  ·simp [h]
 have keep4:Keep (get ((r,oR en L')::G2)) (get ((r,oR en L')::G2)):=by
  refine ⟨fun t x h=>h,fun t x h=>?_,fun t z q n m new h=>?_⟩
  all_goals
   simp only [get] at h
   split at h
  ·cases h; exact .nr hro.oo.nr
  ·exact (hG4.spec t x h).2.1
  ·cases h
  ·exact (hG4.spec t _ h).2.2 _ _ _ _ _ rfl
 have hl:=hv.len
 have e5:get ((d,res)::(r,oR en L')::G2)=upd (get ((r,oR en L')::G2)) d res:=by
  funext t
  rw [get_cons]
 rw [e5]
 refine ECall.ok (first:=[]) (caps:=[]) (ys:=.brw en.z ⟨r,[]⟩ L.length::ys) (tk:=fun k=>k == 0) (vw:=true) (outs:=some (oR en L')::args.map fun _=>none) (g1:=setP g ⟨r,[]⟩ .dead) (g2:=get ((r,.dead)::G2)) (g4:=get ((r,oR en L')::G2)) (l:=[(⟨r,[]⟩,oR en L')]) (ks:=fun _=>0) (xs0:=.brw en.z ⟨r,[]⟩ L.length::ys.map fun _=>.dead) (xs1:=oR en L::ys.map fun _=>.dead) (args:=oR en L::args) (res:=res) ho hd rfl (by simpa using hx)
  ⟨hf,by simp,by simpa using hl,fun k x h=>?_,?_,keep2,fun k x y hx hy=>?_,hcon,by simpa using hr.oo,fun k x h=>?_,fun j p x hj=>?_,by simp,fun i j hi hj _=>by simp at hi hj; omega,by rw [put]; exact keep4⟩ ?_ hN Bk.refl
 ·simp only [List.nil_append,List.append_nil] at h
  cases k with
  | zero=>exact .inl h
  | succ k =>
   refine .inr ?_
   simp only [List.getElem?_cons_succ] at h ⊢
   rw [List.getElem?_map,h]; rfl
 ·have h1:Take (setP g ⟨r,[]⟩ .dead) ((rowc en L).take (L.length * en.z)) (rowc en L) (setP g ⟨r,[]⟩ .dead):=by rw [htk]; exact .nr hnr
  refine .brw (N:=L.length) (by simp [atP,hs,AV.at]) (Nat.le_refl _) h1 (.nr fun x hx=>?_)
  obtain ⟨_,_,rfl⟩:=List.mem_map.1 hx
  exact .dead
 ·simp only [List.nil_append,List.append_nil] at hx
  cases k with
  | zero=>simpa using hy
  | succ k =>
   simp only [List.getElem?_cons_succ] at hx hy
   exact ⟨rfl,hv.get k x y hx hy⟩
 ·cases k with
  | zero=>simp only [List.getElem?_cons_zero,Option.some.injEq] at h; subst h; exact hro.oo
  | succ k =>
   simp only [List.getElem?_cons_succ,List.getElem?_map] at h
   cases ha:args[k]? <;> rw [ha] at h <;> cases h
 ·cases j with
  | succ j=>simp at hj
  | zero =>
   simp only [List.getElem?_cons_zero,Option.some.injEq,Prod.mk.injEq] at hj
   obtain ⟨rfl,rfl⟩:=hj
   exact ⟨rfl,by simp [atP,dead2,AV.at],.inl ⟨en.z,L.length,rowc en L,rfl,by simp [atP,hs,AV.at]⟩,fun _ h=>by cases h⟩
 ·simp only [get,if_neg (Ne.symm hrd')]; exact hg
end
end Go.Own
