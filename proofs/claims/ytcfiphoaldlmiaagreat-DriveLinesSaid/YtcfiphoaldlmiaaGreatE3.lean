/- Parts of the proof that the last text states. -/
import Derived.RowKit3
import Derived.Test.YtcfiphoaldlmiaaGreatE2
namespace Go.Own
open Go
set_option linter.unusedSectionVars false
variable [TB]
structure Keep (g1 g2:Gst):Prop where
 sub:∀ t x,g2 t=some x->g1 t=some x
 rk:∀ t x,g2 t=some x->RK g2 x
 np:∀ t z q n m new,g2 t≠some (.pend z q n m new)
structure Rm where
 size:Nat
 pins:List Nat
def Rm.ok (N:Rm) (d:Nat):Bool:=Nat.blt d N.size&&!N.pins.elem d
def Hold (N:Rm) (T T':Array Value):Prop:=T'.size=T.size/\∀ t∈N.pins,T'[t]?=T[t]?
theorem Hold.refl {N:Rm}{T:Array Value}:Hold N T T:=⟨rfl,fun _ _=>rfl⟩
theorem Hold.trans {N:Rm}{T T1 T2:Array Value}(h:Hold N T T1) (h1:Hold N T1 T2):Hold N T T2:=⟨h1.1.trans h.1,fun t ht=>(h1.2 t ht).trans (h.2 t ht)⟩
theorem Rm.lt {N:Rm}{d:Nat}(h:N.ok d=true):d<N.size:=by
 simp_all [Rm.ok]
theorem Hold.put {N:Rm}{d:Nat}(h:N.ok d=true) (T:Array Value) (v:Value):Hold N T (T.setIfInBounds d v):=by
 refine ⟨by simp,fun t ht=>?_⟩
 grind [Rm.ok]
def Next' (N:Rm) (a:Act) (w:World) (I:BSet) (Fs:Nat->BSet) (g':Gst) (a':Act) (w':World):Prop :=
 a'.defers=a.defers/\Hold N a.tmps a'.tmps/\∃ I' Fs',SR w' I' a'.tmps g' Fs'/\St w I (fun c=>∃ t,Fs t c) w' I' (fun c=>∃ t,Fs' t c)
theorem upd_updF {Fs':Nat->BSet}{d:Nat}{F:BSet}{c:Nat}(h:∃ t,updF Fs' d F t c):(∃ t,Fs' t c)\/F c:=by
 obtain ⟨t,h⟩:=h
 unfold updF at h
 grind
structure ECall (P:Program) (g:Gst) (f:FuncId) (all xs0 xs1 args:List AV) (tk:Nat->Bool) (vw:Bool) (g1 g2:Gst) (outs:List (Option AV)) (res:AV) (l:List (Place × AV)) (ks:Nat->Nat) (g4:Gst):Prop where
 hf:callT P f=true
 l0:xs0.length=all.length
 la:args.length=all.length
 h0:∀ (k:Nat) (x:AV),all[k]?=some x->xs0[k]?=some x\/xs0[k]?=some .dead
 ht:Take g xs0 xs1 g1
 hk:Keep g1 g2
 ha:∀ (k:Nat) (x y:AV),all[k]?=some x->args[k]?=some y->if tk k then xs1[k]?=some y else vw=true/\View g2 x y
 hcon:Con P f args outs res
 hr:if vw then OO res else NR res
 hro:∀ (k:Nat) (x:AV),outs[k]?=some (some x)->if vw then OO x else NR x
 hl:∀ (j:Nat) (p:Place) (x:AV),l[j]?=some (p,x)->Lent g g2 all outs (ks j) p x
 nd:(l.map (·.1)).Nodup
 inj:∀ i j,i<l.length->j<l.length->ks i=ks j->i=j
 k4:Keep (putAll g2 l) g4
section
variable {P:Program}{w:World}{I:BSet}{T:Array Value}{g:Gst}{Fs:Nat->BSet}
theorem SRc.keep (h:SRc w I T g Fs) {g2:Gst}(hk:Keep g g2):SR w I T g2 (fun t c=>g2 t≠none/\Fs t c) :=
 h.toR hk.sub hk.rk fun _ _ _ _ _ _ _ _ _ _ _ h1=>absurd h1 (hk.np _ _ _ _ _ _)
structure Bk (g:Gst) (d:Nat) (g4 g5:Gst):Prop where
 sub:∀ t x,g4 t=some x->g5 t=some x
 new:∀ t x,g5 t=some x->g4 t=some x\/(g4 t=none/\t≠d/\g t=some x/\∃ r k cs,x=.ptr ⟨r,[]⟩ k/\r≠d/\g4 r=some (.obj cs)/\k<cs.length)
theorem Bk.refl {d:Nat}{g4:Gst}:Bk g d g4 g4:=⟨fun _ _ h=>h,fun _ _ h=>.inl h⟩
theorem SR.back (h:SR w I T g Fs) {w':World}{I':BSet}{d:Nat}{v:Value}{g4 g5:Gst}{Fs4:Nat->BSet}(h4:SR w' I' (T.setIfInBounds d v) g4 Fs4) (hb:Bk g d g4 g5):SR w' I' (T.setIfInBounds d v) g5 Fs4:=by
 refine ⟨fun t x hx=>?_,fun t ht c hc=>?_,h4.dis,h4.imm,h4.lt,fun t t' z p n m new z' n' m' new' h1 h2=>?_,h4.tb⟩
 ·rcases hb.new t x hx with h' | ⟨h1,h2,h3,r,k,cs,rfl,h5,h6,h7⟩
  ·obtain ⟨u,hu,hR⟩:=h4.rel t x h'
   exact ⟨u,hu,h4.frameT (fun _ _=>rfl) (fun _ _ _=>rfl) (fun _ _=>rfl) (fun _ h=>h) hb.sub hR fun _ _=>rfl⟩
  ·obtain ⟨u,hu,hR⟩:=h.rel t _ h3
   obtain ⟨⟨u2,ad,a1,a2,rfl⟩,_⟩:=(hR.isTree (by simp)).inv_ptr
   have hT:∀ s,s≠d->(T.setIfInBounds d v)[s]?=T[s]?:=fun s hs=>by rw [Array.getElem?_setIfInBounds_ne (Ne.symm hs)]
   refine ⟨_,by rw [hT t h2]; exact hu,.tree (.ref rfl ⟨⟨u2,ad,?_,a2,rfl⟩,?_⟩ (h4.non t h1))⟩
   ·have:valAt w T ⟨r,[]⟩=T[r]?:=by
     unfold valAt; simp only; cases T[r]? <;> rfl
    rw [this] at a1
    unfold valAt
    simp only [hT r h5,a1,walk]
   ·exact ⟨.obj cs,by simp [atP,hb.sub r _ h6,AV.at],0,0,cs,.inr rfl,h7⟩
 ·cases h':g4 t with
  | none=>exact h4.non t h' c hc
  | some y=>rw [hb.sub t y h'] at ht; cases ht
 ·have:∀ {t z p n m new},g5 t=some (.pend z p n m new)->g4 t=some (.pend z p n m new):=by
   intro t z p n m new hx
   rcases hb.new t _ hx with h' | ⟨_,_,_,r,k,cs,e,_⟩
   ·exact h'
   ·cases e
  exact h4.pok t t' z p n m new z' n' m' new' (this h1) (this h2)
def CallOk (P:Program) (N:Rm) (g:Gst) (o:Oper) (d:Nat) (g5:Gst):Prop :=
 ∀ (w:World) (I:BSet) (T:Array Value) (Fs:Nat->BSet),SR w I T g Fs->∀ (a:Act),a.tmps=T->a.tmps.size=N.size->∀ (K:Act->World->Prop) (Q:Exit->Act->World->Prop),
  (∀ (a':Act) (w':World) (v:Value) (I':BSet) (Fs':Nat->BSet),a'.defers=a.defers->a'.tmps=T.setIfInBounds d v->SR w' I' (T.setIfInBounds d v) g5 Fs'->St w I (fun c=>∃ t,Fs t c) w' I' (fun c=>∃ t,Fs' t c)->K a' w')->o.wp P a w K Q
theorem CallOk.sound {N:Rm}{o:Oper}{d:Nat}{g5:Gst}(hc:CallOk P N g o d g5) (hdN:N.ok d=true) (h:SR w I T g Fs) {a:Act}(ha:a.tmps=T) (hN:a.tmps.size=N.size) {K:Act->World->Prop}{Q:Exit->Act->World->Prop}
  (hK:∀ a' w',Next' N a w I Fs g5 a' w'->K a' w'):o.wp P a w K Q :=
 hc w I T Fs h a ha hN K Q fun a' w' v I' Fs' h1 h2 h3 h4=>hK a' w' ⟨h1,by rw [h2,<- ha]; exact Hold.put hdN _ _,I',Fs',by rw [h2]; exact h3,h4⟩
theorem ECall.ok {N:Rm}{o:Oper}{c:Operand}{xs:Array Operand}{tys:Array TypeId}{d:Nat}{f:FuncId}{first caps ys xs0 xs1 args:List AV}{tk:Nat->Bool}{vw:Bool}{g1 g2 g4 g5:Gst}{outs:List (Option AV)}{res:AV}{l:List (Place × AV)}{ks:Nat->Nat}
  (ho:o.op=.call { callee:=.value c,args:=xs,argTypes:=tys }) (hd:o.dst=some d) (hc:opd g c=some (.clo (.func f) first caps)) (hx:opds g xs.toList=some ys)
  (he:ECall P g f (first++ys++caps) xs0 xs1 args tk vw g1 g2 outs res l ks g4) (hg:g4 d=none) (hdN:N.ok d=true) (hbk:Bk g d (upd g4 d res) g5):CallOk P N g o d g5:=by
 intro w I T Fs h a ha hN K Q hK
 obtain ⟨v1,v2,hcv,hl,hargs⟩:=callArgs h ha hc hx
 have hrun:(execOp a.eval o).run P w=.ok (.enter f (v1++xs.map a.eval++v2)) w:=by
  simp [execOp,ho,resolve,Deferred.ofValue,hcv,invoke,callT_run he.hf]
 generalize hvs:(v1++xs.map a.eval++v2).toList=vs at *
 generalize hall0:first++ys++caps=all at *
 -- what is taken
 have hH0:Hand w I (RefAt w T) Fs xs0 vs (fun _=>E0):=by
  refine ⟨by rw [he.l0,hl],fun k x u hx hu=>?_,fun _ _ _ _ _ h=>h.elim,fun _ _ _ _ h=>h.elim,fun _ _ _ h=>h.elim⟩
  have hk:k<all.length:=by rw [<- he.l0]; exact (List.getElem?_eq_some_iff.1 hx).1
  have hak:=List.getElem?_eq_getElem hk
  rcases he.h0 k _ hak with h0 | h0
  ·rw [h0] at hx; cases hx
   exact (hargs k _ u hak hu).frame (fun _ _=>rfl) (fun _ h=>h) (fun _ _ h=>h.1) fun _ _=>rfl
  ·rw [h0] at hx; cases hx
   exact .dead fun _ h=>h
 obtain ⟨Fs1,H1,hS1,hH1,hall⟩:=he.ht.sound h.toC hH0
 have hallU:∀ c,AllB Fs1 xs1.length H1 c->∃ t,Fs t c:=by
  intro c hc
  rcases hall c hc with h' | ⟨_,_,h'⟩
  ·exact h'
  ·exact h'.elim
 have hS2:=hS1.keep he.hk
 generalize hFs2:(fun t c=>g2 t≠none/\Fs1 t c)=Fs2 at hS2
 have hF21:∀ t c,Fs2 t c->Fs1 t c:=by intro t c hc; rw [<- hFs2] at hc; exact hc.2
 have hl1:xs1.length=all.length:=by rw [he.ht.length,he.l0]
 -- what the callee sees
 let Ic:BSet:=fun c=>I c\/(vw=true/\∃ t,Fs2 t c)
 let Fc:Nat->BSet:=fun t c=>t<all.length/\tk t=true/\H1 t c
 have hFcoff:∀ t c,Fc t c->(∀ s,¬ Fs2 s c)/\¬ I c/\∃ t,Fs t c:=by
  rintro t c ⟨h1,h2,h3⟩
  exact ⟨fun s hs=>hH1.off t s c (by omega) h3 (hF21 s c hs),hH1.imm t c (by omega) h3,hallU c (.inr ⟨t,by omega,h3⟩)⟩
 have hrelc:∀ (ρ':AV->Value->Prop) (k:Nat) (y:AV) (u:Value),args[k]?=some y->vs[k]?=some u->R w Ic ρ' y u (Fc k):=by
  intro ρ' k y u hy hu
  have hk:k<all.length:=by rw [<- he.la]; exact (List.getElem?_eq_some_iff.1 hy).1
  have hak:=List.getElem?_eq_getElem hk
  have:=he.ha k _ y hak hy
  split at this
  ·rename_i ht
   have hnr:NR y:=he.ht.nrOut y (List.mem_of_getElem? this)
   exact (((hH1.rel k y u this hu).nr hnr).moreI fun c hc=>.inl hc).congrF fun c=>⟨fun hc=>⟨hk,ht,hc⟩,fun hc=>hc.2.2⟩
  ·rename_i ht
   obtain ⟨hv,hview⟩:=this
   have hR0:R w I (RefAt w T) all[k] u E0:=(hargs k _ u hak hu).frame (fun _ _=>rfl) (fun _ h=>h) (fun _ _ h=>h.1) fun _ _=>rfl
   have:=View.soundC hS2.toC hview hR0 (fun _ h=>h.elim) ρ'
   refine (this.moreI (I':=Ic) fun c hc=>?_).congrF fun c=>⟨fun h=>h.elim,fun hc=>absurd hc.2.1 ht⟩
   rcases hc with h' | h'
   ·exact .inl h'
   ·exact .inr ⟨hv,h'⟩
 have hSc:SR w Ic vs.toArray (argG args) Fc:=by
  refine ⟨fun t x hx=>?_,fun t ht c hc=>?_,fun t t' c hc hc'=>hH1.dis t t' c (by have:=hc.1; omega) (by have:=hc'.1; omega) hc.2.2 hc'.2.2,fun t c hc hi=>?_,fun c hc=>?_,fun t t' z p n m new z' n' m' new' h1 h2=>?_,TB.keep h.tb (fun _ _=>rfl) fun _ h=>.inl h⟩
  ·have ht:t<args.length:=(List.getElem?_eq_some_iff.1 hx).1
   have hu:vs[t]?=some (vs[t]'(by rw [<- hl,<- he.la]; exact ht)):=List.getElem?_eq_getElem _
   exact ⟨_,by rw [List.getElem?_toArray]; exact hu,.tree (hrelc _ t x _ hx hu)⟩
  ·have hle:args.length<=t:=by simpa [argG] using ht
   have:=hc.1; have:=he.la; omega
  ·obtain ⟨h1,h2,_⟩:=hFcoff t c hc
   rcases hi with h' | ⟨_,s,h'⟩
   ·exact h2 h'
   ·exact h1 s h'
  ·rcases hc with h' | ⟨_,s,h'⟩
   ·exact h.lt c h'
   ·exact hS2.ltF s c h'
  ·have ht:t<args.length:=(List.getElem?_eq_some_iff.1 h1).1
   have hu:vs[t]?=some (vs[t]'(by rw [<- hl,<- he.la]; exact ht)):=List.getElem?_eq_getElem _
   exact (hrelc (fun _ _=>False) t _ _ h1 hu).notPend.elim
 have hcall:=he.hcon.2 w Ic vs Fc (by rw [<- hl,he.la]) hSc
 unfold Oper.wp Oper.upon
 simp only [hrun]
 rw [<- hvs,Array.toArray_toList] at hcall
 refine Calls.mono hcall ?_
 rintro e w' ⟨v,I',Fs',rfl,hS',hst⟩
 rw [hvs] at hS'
 have hlo:outs.length=all.length:=by rw [he.hcon.1,he.la]
 have hlv:vs.length=all.length:=hl.symm
 -- the blocks behind the call
 have same2:∀ t c,Fs2 t c->w'.heap[c]?=w.heap[c]?:=fun t c hc=>hst.fr.block c (hS2.ltF t c hc) fun ⟨s,hs⟩=>(hFcoff s c hs).1 t hc
 have sameI:∀ c,I c->w'.heap[c]?=w.heap[c]?:=fun c hc=>hst.fr.block c (h.lt c hc) fun ⟨s,hs⟩=>(hFcoff s c hs).2.1 hc
 let If:BSet:=fun c=>if vw then I c else I' c
 have ownU:∀ t c,Fs' t c->(∃ s,Fc s c)\/w.heap.size<=c:=fun t c hc=>hst.own c ⟨t,hc⟩
 have offF:∀ t c,Fs' t c->∀ s,¬ Fs2 s c:=by
  intro t c hc s hs
  rcases ownU t c hc with ⟨s',h'⟩ | h'
  ·exact (hFcoff s' c h').1 s hs
  ·have:=hS2.ltF s c hs; omega
 have offI:∀ t c,Fs' t c->¬ If c:=by
  intro t c hc hi
  cases vw with
  | true =>
   simp only [If,if_true] at hi
   rcases ownU t c hc with ⟨s',h'⟩ | h'
   ·exact (hFcoff s' c h').2.1 hi
   ·have:=h.lt c hi; omega
  | false =>
   simp only [If,Bool.false_eq_true,if_false] at hi
   exact hS'.imm t c hc hi
 have hIf:∀ c,If c->I c\/(∃ s,Fc s c)\/w.heap.size<=c:=by
  intro c hc
  cases vw with
  | true=>simp only [If,if_true] at hc; exact .inl hc
  | false =>
   simp only [If,Bool.false_eq_true,if_false] at hc
   rcases hst.new c hc with h' | h' | h'
   ·rcases h' with h' | ⟨h',_⟩
    ·exact .inl h'
    ·cases h'
   ·exact .inr (.inl h')
   ·exact .inr (.inr h')
 have hIIf:∀ c,I c->If c:=by
  intro c hc
  cases vw with
  | true=>simp only [If,if_true]; exact hc
  | false=>simp only [If,Bool.false_eq_true,if_false]; exact hst.more c (.inl hc)
 have hS2':SR w' If T g2 Fs2:=by
  have:=hS2.world (w':=w') same2 sameI hst.fr.size
  refine ⟨fun t x hx=>?_,this.non,this.dis,fun t c hc hi=>?_,fun c hc=>?_,this.pok,TB.keep h.tb sameI hIIf⟩
  ·obtain ⟨v,hv,hR⟩:=this.rel t x hx
   exact ⟨v,hv,hR.frame (fun _ _=>rfl) hIIf (fun _ _ h=>h) (fun _ _ _ _ _ _ _=>rfl) fun _ _=>rfl⟩
  ·rcases hIf c hi with h' | ⟨s,h'⟩ | h'
   ·exact hS2.imm t c hc h'
   ·exact (hFcoff s c h').1 t hc
   ·have:=hS2.ltF t c hc; omega
  ·cases vw with
   | true=>simp only [If,if_true] at hc; exact Nat.lt_of_lt_of_le (h.lt c hc) hst.fr.size
   | false=>simp only [If,Bool.false_eq_true,if_false] at hc; exact hS'.lt c hc
 -- what comes back in the arguments, and the result
 have backR:∀ {x:AV}{u:Value}{F:BSet}{ρ ρ':AV->Value->Prop},R w' I' ρ x u F->(if vw then OO x else NR x)->R w' If ρ' x u F:=by
  intro x u F ρ ρ' hR hx
  cases vw with
  | true=>simp only [if_true] at hx; exact hR.oo hx
  | false =>
   simp only [Bool.false_eq_true,if_false] at hx
   refine (hR.nr hx).moreI fun c hc=>?_
   simpa [If] using hc
 have notP:∀ {x:AV},(if vw then OO x else NR x)->∀ z p n m new,x≠.pend z p n m new:=by
  rintro x hx z p n m new rfl
  cases vw with
  | true=>simp only [if_true] at hx; cases hx
  | false=>simp only [Bool.false_eq_true,if_false] at hx; cases hx
 have outR:∀ (k:Nat) (x:AV) (u:Value),outs[k]?=some (some x)->vs[k]?=some u->R w' If (RefAt w' T) x u (Fs' k):=by
  intro k x u hx hu
  have hk:k<outs.length:=(List.getElem?_eq_some_iff.1 hx).1
  obtain ⟨u',hu',hR⟩:=hS'.rel k x (by simp only [outG,if_neg (Nat.ne_of_lt hk),hx]; rfl)
  have:u'=u:=by
   rw [List.getElem?_toArray,List.getElem?_append_left (by rw [hlv,<- hlo]; exact hk),hu] at hu'
   exact (Option.some.inj hu').symm
  subst this
  exact backR (hR.isTree (notP (he.hro k x hx))) (he.hro k x hx)
 obtain ⟨uv,huv,hRv⟩:=hS'.rel outs.length res (by simp [outG])
 have huv':uv=v:=by
  have e:outs.length=vs.length:=by omega
  rw [e] at huv
  simpa using huv.symm
 subst huv'
 -- back into the places
 obtain ⟨Fs3,hS3,hF3⟩:=SRc.putAll (w:=w') (I:=If) (T:=T) l (fun j=>Fs' (ks j)) (fun j=>vs.getD (ks j) undef) hS2'.toC he.nd (fun j p x hj=>by
   have L:=he.hl j p x hj
   have hk:ks j<outs.length:=(List.getElem?_eq_some_iff.1 L.out).1
   have hu:vs[ks j]?=some (vs[ks j]'(by rw [hlv,<- hlo]; exact hk)):=List.getElem?_eq_getElem _
   have hgd:vs.getD (ks j) undef=vs[ks j]'(by rw [hlv,<- hlo]; exact hk):=by simp [List.getD,hu]
   refine ⟨L.at2,?_,?_,fun i e=>?_⟩
   ·rw [hgd,hS2.valAt_same (w':=w') (fun _ _=>rfl) same2 L.at2]
    rcases L.arg with ⟨z,n,cs,h1,h2⟩ | ⟨cs,h1,h2⟩
    ·exact argAt_own h (hargs _ _ _ h1 hu) h2
    ·exact argAt_obj h (hargs _ _ _ h1 hu) h2
   ·rw [hgd]; exact outR _ x _ L.out hu
   ·exact L.ns i e)
  (fun j t c hj hc=>offF _ c hc t) (fun j c hj hc=>offI _ c hc) (fun i j c hi hj h1 h2=>he.inj i j hi hj (hS'.dis _ _ c h1 h2))
 have hS4:=hS3.keep he.k4
 have off4:∀ t c,Fs' outs.length c->¬ (g4 t≠none/\Fs3 t c):=by
  rintro t c hc ⟨_,h4⟩
  rcases hF3 t c h4 with h' | ⟨j,hj,h'⟩
  ·exact offF _ c hc t h'
  ·have hk:ks j<outs.length:=by
    have hj':=List.getElem?_eq_getElem hj
    exact (List.getElem?_eq_some_iff.1 (he.hl j _ _ hj').out).1
   have:=hS'.dis _ _ c hc h'
   omega
 have hput:=hS4.put0 (d:=d) (x:=res) (v:=uv) (F:=Fs' outs.length) hg (by rw [<- ha,hN]; exact Rm.lt hdN) (.tree (backR (hRv.isTree (notP he.hr)) he.hr)) off4 (fun c hc=>offI _ c hc) (fun z p n m new e=>absurd e (notP he.hr z p n m new))
 refine hK _ _ uv If _ (by rw [hd]; rfl) (by rw [hd]; simp [Act.put,ha]) (h.back hput hbk) ⟨?_,hIIf,fun c hc=>?_,fun c hc=>?_⟩
 ·exact hst.fr.mono fun b _ ⟨s,hs⟩=>(hFcoff s b hs).2.2
 ·rcases hIf c hc with h' | ⟨s,h'⟩ | h'
  ·exact .inl h'
  ·exact .inr (.inl (hFcoff s c h').2.2)
  ·exact .inr (.inr h')
 ·have fin:∀ t,Fs' t c->(∃ s,Fs s c)\/w.heap.size<=c:=by
   intro t ht
   rcases ownU t c ht with ⟨s,h'⟩ | h'
   ·exact .inl (hFcoff s c h').2.2
   ·exact .inr h'
  rcases upd_updF hc with ⟨t,_,h'⟩ | h'
  ·rcases hF3 t c h' with h'' | ⟨j,_,h''⟩
   ·exact .inl (hallU c (.inl ⟨t,hF21 t c h''⟩))
   ·exact fin _ h''
  ·exact fin _ h'
structure BkF (g:Gst) (d r k0:Nat) (g4 g5:Gst):Prop where
 sub:∀ t x,g4 t=some x->g5 t=some x
 new:∀ t x,g5 t=some x->g4 t=some x\/(g4 t=none/\t≠d/\g t=some x/\∃ m z n cs,x=.ptr ⟨r,[k0]⟩ m/\atP g4 ⟨r,[k0]⟩=some (.own z n cs)/\m<cs.length)
theorem Keep.atP {g1 g2:Gst}(h:Keep g1 g2) {p:Place}{y:AV}(hp:atP g2 p=some y):atP g1 p=some y:=by
 unfold Own.atP at *
 cases hx:g2 p.root with
 | none=>rw [hx] at hp; cases hp
 | some x=>rw [hx] at hp; rw [h.sub _ _ hx]; exact hp
theorem CallOk.framed {N:Rm}{o:Oper}{r k0 d:Nat}{y:AV}{cs:List AV}{g5:Gst}(hr:g r=some (.obj cs)) (hy:cs[k0]?=some y) (hyn:NR y) (hns:∀ i,y≠.self i)
  (hop:∀ v:Value,v.oneCell'=true->∃ g1 g4 g4',Keep (setP g ⟨r,[k0]⟩ (.lit v)) g1/\CallOk P N g1 o d g4/\atP g4 ⟨r,[k0]⟩=some (.lit v)/\Keep (setP g4 ⟨r,[k0]⟩ y) g4'/\atP g4' ⟨r,[k0]⟩=some y/\BkF g d r k0 g4' g5):CallOk P N g o d g5:=by
 intro w I T Fs h a ha hN K Q hK
 have hnp:∀ z q n m new,y≠.pend z q n m new:=by rintro z q n m new rfl; cases hyn
 have hat:atP g ⟨r,[k0]⟩=some y:=by simp [atP,hr,AV.at,AV.kids,hy]
 obtain ⟨v,Fy,hv,hRy,hFy,put⟩:=h.toC.part hat hnp
 have hv1:v.oneCell'=true:=by
  obtain ⟨u,hu,hRu⟩:=h.rel r _ hr
  obtain ⟨b,u',h1,h2,h3,h4,_⟩:=R.node (z:=0) (n:=0) (hRu.isTree (by simp)) (.inr rfl) hy
  have:valAt w T ⟨r,[k0]⟩=child w u k0:=by
   unfold valAt
   simp only [hu,walk]
   cases child w u k0 <;> rfl
  rw [this,h3] at hv
  cases hv
  exact h4
 obtain ⟨Fs1,hS1,hF1,hF2⟩:=put (.lit v) E0 (.lit hv1 fun _ h=>h) (fun _ h=>h.elim) (fun _ h=>h.elim) (fun _ _ _ h=>h.elim) (fun _ h=>by cases h)
 obtain ⟨g1,g4,g4',hk1,hok,hat4,hk4,hat4',hb⟩:=hop v hv1
 have sub1:∀ t c,Fs1 t c->Fs t c/\¬ Fy c:=by
  intro t c hc
  by_cases ht:t=r
  ·subst ht
   rcases (hF1 c).1 hc with h' | h'
   ·exact h'
   ·exact h'.elim
  ·rw [hF2 t ht] at hc
   exact ⟨hc,fun hf=>ht (h.dis t r c hc (hFy c hf))⟩
 have hS1':=hS1.keep hk1
 refine hok w I T _ hS1' a ha hN K Q fun a' w' v' I' Fs' ed et hS' hst=>?_
 obtain ⟨v2,F2,hv2,hR2,hF2',put2⟩:=hS'.toC.part hat4 (by simp)
 have hv2':v2=v:=hR2.inv_lit.1
 subst hv2'
 have hFyI:∀ c,Fy c->¬ I c:=fun c hc=>h.imm r c (hFy c hc)
 have hFylt:∀ c,Fy c->c<w.heap.size:=fun c hc=>h.ltF r c (hFy c hc)
 have offU:∀ c,Fy c->¬ ∃ t,(g1 t≠none/\Fs1 t c):=fun c hc ⟨t,_,h'⟩=>(sub1 t c h').2 hc
 have offF':∀ t c,Fs' t c->¬ Fy c:=by
  intro t c hc hf
  rcases hst.own c ⟨t,hc⟩ with h' | h'
  ·exact offU c hf h'
  ·have:=hFylt c hf; omega
 have offI':∀ c,Fy c->¬ I' c:=by
  intro c hc hi
  rcases hst.new c hi with h' | h' | h'
  ·exact hFyI c hc h'
  ·exact offU c hc h'
  ·have:=hFylt c hc; omega
 have sameY:∀ c,Fy c->w'.heap[c]?=w.heap[c]?:=fun c hc=>hst.fr.block c (hFylt c hc) (offU c hc)
 have sameI:∀ c,I c->w'.heap[c]?=w.heap[c]?:=fun c hc=>hst.fr.block c (h.lt c hc) fun ⟨t,_,h'⟩=>h.imm t c (sub1 t c h').1 hc
 have hRy':R w' I' (RefAt w' (T.setIfInBounds d v')) y v2 Fy :=
  ((hRy.nr hyn).frame sameI hst.more (fun _ _ h=>h) sameY)
 obtain ⟨Fs5,hS5,hF5,hF6⟩:=put2 y Fy hRy' (fun c hc hf=>(offF' _ c hf hc).elim) (fun c hc=>offI' c hc) (fun t c _ hc hf=>offF' t c hf hc) (fun i e=>absurd e (hns i))
 have hS6:=hS5.keep hk4
 have hval':valAt w' (T.setIfInBounds d v') ⟨r,[k0]⟩=some v2:=hv2
 have hS7:SR w' I' (T.setIfInBounds d v') g5 (fun t c=>g4' t≠none/\Fs5 t c):=by
  refine ⟨fun t x hx=>?_,fun t ht c hc=>?_,hS6.dis,hS6.imm,hS6.lt,fun t t' z p n m new z' n' m' new' h1 h2=>?_,hS6.tb⟩
  ·rcases hb.new t x hx with h' | ⟨h1,h2,h3,m,z,n,cs2,rfl,h5,h6⟩
   ·obtain ⟨u,hu,hR⟩:=hS6.rel t x h'
    exact ⟨u,hu,hS6.frameT (fun _ _=>rfl) (fun _ _ _=>rfl) (fun _ _=>rfl) (fun _ h=>h) hb.sub hR fun _ _=>rfl⟩
   ·obtain ⟨u,hu,hR⟩:=h.rel t _ h3
    obtain ⟨⟨u2,ad,a1,a2,rfl⟩,_⟩:=(hR.isTree (by simp)).inv_ptr
    rw [hv] at a1
    cases a1
    refine ⟨_,by rw [Array.getElem?_setIfInBounds_ne (Ne.symm h2)]; exact hu,.tree (.ref rfl ⟨⟨v2,ad,hval',a2,rfl⟩,?_⟩ (hS6.non t h1))⟩
    refine ⟨.own z n cs2,?_,z,n,cs2,.inl rfl,h6⟩
    unfold Own.atP at h5 ⊢
    cases hx':g4' r with
    | none=>simp only [hx'] at h5; cases h5
    | some x'=>simp only [hx'] at h5; simp only [hb.sub r x' hx']; exact h5
  ·cases h':g4' t with
   | none=>exact hc.1 h'
   | some y=>rw [hb.sub t y h'] at ht; cases ht
  ·have:∀ {t z p n m new},g5 t=some (.pend z p n m new)->g4' t=some (.pend z p n m new):=by
    intro t z p n m new hx
    rcases hb.new t _ hx with h' | ⟨_,_,_,m,z,n,cs2,e,_⟩
    ·exact h'
    ·cases e
   exact hS6.pok t t' z p n m new z' n' m' new' (this h1) (this h2)
 refine hK a' w' v' I' _ ed et hS7 ⟨?_,hst.more,fun c hc=>?_,fun c hc=>?_⟩
 ·exact hst.fr.mono fun b _ ⟨t,_,h'⟩=>⟨t,(sub1 t b h').1⟩
 ·rcases hst.new c hc with h' | ⟨t,_,h'⟩ | h'
  ·exact .inl h'
  ·exact .inr (.inl ⟨t,(sub1 t c h').1⟩)
  ·exact .inr (.inr h')
 ·obtain ⟨t,_,hc⟩:=hc
  have:(∃ t,Fs' t c)\/Fy c:=by
   by_cases ht:t=r
   ·subst ht
    rcases (hF5 c).1 hc with ⟨h',_⟩ | h'
    ·exact .inl ⟨_,h'⟩
    ·exact .inr h'
   ·rw [hF6 t ht] at hc; exact .inl ⟨t,hc⟩
  rcases this with h' | h'
  ·rcases hst.own c h' with ⟨t,_,h''⟩ | h''
   ·exact .inl ⟨t,(sub1 t c h'').1⟩
   ·exact .inr h''
  ·exact .inl ⟨r,hFy c h'⟩
end
end Go.Own
namespace Go.Own
open Go
set_option linter.unusedSectionVars false
variable [TB]
def cellsP:AV->Option (List AV)
 | .agg cs=>some cs
 | .lit v=>some [.lit v]
 | .nils=>some [.nils]
 | .imm z n cs=>some [.imm z n cs]
 | .own z n cs=>some [.own z n cs]
 | .obj cs=>some [.obj cs]
 | .iptr cs=>some [.iptr cs]
 | .clo f a b=>some [.clo f a b]
 | _=>none
def sizeT (P:Program) (t:TypeId) (m:Nat):Bool :=
 match P.info? t with
 | some i=>i.size == m
 | none=>false
def EffOk (P:Program) (N:Rm) (g:Gst) (o:Oper) (g':Gst):Prop :=
 ∀ (w:World) (I:BSet) (T:Array Value) (Fs:Nat->BSet),SR w I T g Fs->∀ (a:Act),a.tmps=T->a.tmps.size=N.size->∀ (K:Act->World->Prop) (Q:Exit->Act->World->Prop),
  (∀ (a':Act) (w':World),Next' N a w I Fs g' a' w'->(∀ t,o.dst≠some t->a'.tmps[t]?=a.tmps[t]?)->K a' w')->o.wp P a w K Q
inductive EO (P:Program) (N:Rm) (g:Gst):Oper->Gst->Prop
 | assign {o:Oper}{d:Nat}{x:Operand}{y y1 y':AV}{g1 g2:Gst}(ho:o.op=.assign x) (hd:o.dst=some d) (hx:opd g x=some y) (ht:Take g [y] [y1] g1) (hz:Fz y1 y') (hk:Keep g1 g2) (hg:g2 d=none) (hN:N.ok d=true):EO P N g o (upd g2 d y')
 | assignRef {o:Oper}{d:Nat}{x:Operand}{y:AV}{g2:Gst}(ho:o.op=.assign x) (hd:o.dst=some d) (hx:opd g x=some y) (hk:Keep g g2) (hy:RK g2 y) (hg:g2 d=none) (hN:N.ok d=true):EO P N g o (upd g2 d y)
 | store {o:Oper}{t:TypeId}{ad val:Operand}{p:Place}{k z n:Nat}{y y1 y' nd:AV}{cs cs':List AV}{g1 g2:Gst}(ho:o.op=.store t ad val) (hd:o.dst=none) (had:opd g ad=some (.ptr p k)) (hval:opd g val=some y) (ht:Take g [y] [y1] g1) (hfz:Fz y1 y')
   (hc:cellsP y'=some cs') (hs:sizeT P t cs'.length=true) (hp:atP g1 p=some nd) (hnd:nd=.own z n cs\/nd=.obj cs) (hk:k+cs'.length<=cs.length) (h0:0<cs'.length)
   (hg2:∀ t x,g2 t=some x->setP g1 p (nd.splice k cs') t=some x) (hrk:∀ t x,g2 t=some x->∀ y,g1 t=some y->RKp (fun r=>RefOk g1 r/\Clear p k cs'.length r/\RefOk g2 r) y) (hnp:∀ t z q n m new,g2 t≠some (.pend z q n m new)) (hroot:g2 p.root≠none):EO P N g o g2
 | call {o:Oper}{d:Nat}{g5:Gst}(hd:o.dst=some d) (hN:N.ok d=true) (h:CallOk P N g o d g5):EO P N g o g5
 | sem {o:Oper}{g2:Gst}(h:EffOk P N g o g2):EO P N g o g2
theorem cellsP_ns {y:AV}{cs:List AV}(h:OkA y) (hc:cellsP y=some cs):NoSelf cs:=by
 have one:∀ {x:AV},(∀ j,x≠.self j)->NoSelf [x]:=fun hx k j e=>by
  cases k with
  | zero=>simp only [List.getElem?_cons_zero,Option.some.injEq] at e; exact hx j e
  | succ k=>simp at e
 cases y <;> simp only [Go.Own.cellsP,Option.some.injEq,reduceCtorEq] at hc <;> subst hc
 all_goals first | exact h _ rfl | exact one (by simp)
theorem View.okA {g:Gst}{x y:AV}(h:View g x y) (hx:OkA x):OkA y:=by
 intro cs e k j hk
 cases h with
 | self=>exact hx _ e k j hk
 | agg hl h=>cases e; exact hx _ rfl k j (ns_each hl h (fun _ _ _=>View.ns) k j hk)
 | _=>cases e
theorem Fz.okA {x y:AV}(h:Fz x y) (hx:OkA x):OkA y:=by
 intro cs e k j hk
 cases h with
 | refl=>exact hx _ e k j hk
 | ice _ h=>exact h.okA hx _ e k j hk
 | agg hl h=>cases e; exact hx _ rfl k j (ns_each hl h (fun _ _ _=>Fz.ns) k j hk)
 | _=>cases e
section
variable {P:Program}{w:World}{I:BSet}{T:Array Value}{g:Gst}{Fs:Nat->BSet}
theorem Hand.one {y:AV}{v:Value}(hR:R w I (RG w T g) y v E0):Hand w I (RefAt w T) Fs [y] [v] (fun _=>E0) :=
 ⟨rfl,fun k x u hx hu=>by
  cases k with
  | zero=>simp at hx hu; subst hx hu; exact hR.frame (fun _ _=>rfl) (fun _ h=>h) (fun _ _ h=>h.1) fun _ _=>rfl
  | succ k=>simp at hx,fun _ _ _ _ _ h=>h.elim,fun _ _ _ _ h=>h.elim,fun _ _ _ h=>h.elim⟩
theorem Hand.rel0 {ρ:AV->Value->Prop}{y:AV}{v:Value}{Hs:Nat->BSet}(h:Hand w I ρ Fs [y] [v] Hs):R w I ρ y v (Hs 0):=h.rel 0 y v rfl rfl
theorem Hand.cells {y:AV}{v:Value}{Hs:Nat->BSet}(h:Hand w I (RefAt w T) Fs [y] [v] Hs) (hn:NR y) {cs:List AV}(hc:cellsP y=some cs) :
  ∃ Hc,Hand w I (RefAt w T) Fs cs v.cells.toList Hc/\(∀ x∈cs,NR x)/\(∀ (j:Nat) (u:Value),v.cells.toList[j]?=some u->u.oneCell'=true)/\∀ j c,j<cs.length->Hc j c->Hs 0 c:=by
 have hR:=h.rel0
 have single:∀ {x:AV},y=x->v.oneCell'=true->∃ Hc,Hand w I (RefAt w T) Fs [x] v.cells.toList Hc/\(∀ z∈[x],NR z)/\(∀ (j:Nat) (u:Value),v.cells.toList[j]?=some u->u.oneCell'=true)/\∀ j c,j<[x].length->Hc j c->Hs 0 c:=by
  rintro x rfl h1
  have hcells:v.cells=#[v]:=by cases v <;> first | rfl | (simp [Value.oneCell'] at h1)
  grind
 cases y <;> simp only [cellsP,Option.some.injEq,reduceCtorEq] at hc
 case agg l =>
  subst hc
  cases hR with
  | ref hx=>simp [AV.isRef] at hx
  | @agg _ vs Fk _ hl h1 hr hd hF =>
   have hFk:∀ k c,k<l.length->Fk k c->Hs 0 c:=fun k c hk hc=>(hF c).2 ⟨k,hk,hc⟩
   refine ⟨Fk,⟨by simp [Value.cells,hl],fun k x u hx hu=>hr k x u hx (by simpa [Value.cells] using hu),hd,fun k t c hk hc=>h.off 0 t c (by simp) (hFk k c hk hc),fun k c hk hc=>h.imm 0 c (by simp) (hFk k c hk hc)⟩,?_,fun j u hu=>h1 j u (by simpa [Value.cells] using hu),hFk⟩
   cases hn with | agg h=>exact h
 case lit a=>subst hc; exact single rfl (by obtain ⟨rfl,h1⟩:=hR.inv_lit; exact h1)
 case nils=>subst hc; exact single rfl (by rw [hR.inv_nils]; rfl)
 case imm z n l=>subst hc; exact single rfl (by obtain ⟨a,cap,rfl,_⟩:=hR.inv_imm; rfl)
 case own z n l=>subst hc; exact single rfl (by obtain ⟨a,cap,rfl,_⟩:=hR.own_slice; rfl)
 case iptr l=>subst hc; exact single rfl (by obtain ⟨ad,us,rfl,_⟩:=hR.inv_iptr; rfl)
 case obj l =>
  subst hc
  refine single rfl ?_
  cases hR with
  | ref hx=>simp [AV.isRef] at hx
  | obj=>rfl
 case clo f a b =>
  subst hc
  refine single rfl ?_
  cases hR with
  | ref hx=>simp [AV.isRef] at hx
  | clo=>rfl
theorem RT.moreI {I':BSet}{ρ:AV->Value->Prop}{x:AV}{v:Value}{F:BSet}(h:RT w I ρ x v F) (hI:∀ c,I c->I' c):RT w I' ρ x v F:=by
 cases h with
 | tree h=>exact .tree (h.moreI hI)
 | pend h=>exact .pend ⟨h.hbv,h.hob,h.hov,h.hl,h.h1,fun k x u hx hu=>(h.hr k x u hx hu).moreI hI,h.hF⟩
theorem freeze_hand {g1:Gst}{Fs1:Nat->BSet}{H1:Nat->BSet}{y1 y':AV}{v:Value}(hS:SRc w I T g1 Fs1) (hH:Hand w I (RefAt w T) Fs1 [y1] [v] H1) (hn:NR y1) (hz:Fz y1 y') :
  ∃ (I':BSet) (H':BSet),(∀ c,I c->I' c)/\(∀ c,I' c->I c\/H1 0 c)/\SRc w I' T g1 Fs1/\Hand w I' (RefAt w T) Fs1 [y'] [v] (fun _=>H')/\∀ c,H' c->H1 0 c:=by
 have hR:=hH.rel0
 obtain ⟨H',hsub,hR'⟩:=R.fz hz hR hn (fun c hc=>hH.imm 0 c (by simp) hc) hS.lt hS.tb
 refine ⟨fun c=>I c\/(H1 0 c/\¬ H' c),H',fun c hc=>.inl hc,fun c hc=>hc.elim .inl fun h=>.inr h.1,⟨fun t x hx=>?_,hS.non,hS.dis,fun t c hc hi=>?_,fun c hc=>?_,TB.keep hS.tb (fun _ _=>rfl) fun _ h=>.inl h⟩,⟨rfl,fun k x u hx hu=>?_,fun j k c hj hk _ _=>by simp at hj hk; omega,fun k t c hk hc hf=>hH.off 0 t c (by simp) (hsub c hc) hf,fun k c hk hc hi=>?_⟩,hsub⟩
 ·obtain ⟨u,hu,hRu⟩:=hS.rel t x hx
  exact ⟨u,hu,hRu.moreI fun c hc=>.inl hc⟩
 ·rcases hi with h | ⟨h,_⟩
  ·exact hS.imm t c hc h
  ·exact hH.off 0 t c (by simp) h hc
 ·rcases hc with h | ⟨h,_⟩
  ·exact hS.lt c h
  ·exact hR.lt c h
 ·cases k with
  | zero=>simp at hx hu; subst hx hu; exact hR'
  | succ k=>simp at hx
 ·rcases hi with h | ⟨_,h⟩
  ·exact hH.imm 0 c (by simp) (hsub c hc) h
  ·exact h hc
theorem EO.eff {N:Rm}{o:Oper}{g':Gst}(he:EO P N g o g'):EffOk P N g o g':=by
 intro w I T Fs h a ha hN K Q hK
 cases he with
 | sem he=>exact he w I T Fs h a ha hN K Q hK
 | @call d _ hd hdN hc =>
  refine hc w I T Fs h a ha hN K Q fun a' w' v I' Fs' h1 h2 h3 h4=>hK a' w' ⟨h1,by rw [h2,<- ha]; exact Hold.put hdN _ _,I',Fs',by rw [h2]; exact h3,h4⟩ fun t ht=>?_
  rw [h2,ha,Array.getElem?_setIfInBounds_ne]
  rintro rfl
  exact ht hd
 | @assign d x y y1 y' g1 g2 ho hd hx ht hz hk hg hdN =>
  have hR:=opd_sound h hx ha
  obtain ⟨Fs1,H1,hS0,hH0,hall⟩:=ht.sound h.toC (Hand.one hR)
  have hnr0:NR y1:=ht.nrOut y1 (by simp)
  obtain ⟨I',H',hII,hI',hS1,hH1,hsub⟩:=freeze_hand hS0 hH0 hnr0 hz
  have hnr:NR y':=hz.nr hnr0
  have hS2:=hS1.keep hk
  have hput:=hS2.put0 (d:=d) (x:=y') (v:=a.eval x) (F:=H') hg (by rw [<- ha,hN]; exact Rm.lt hdN) (.tree (hH1.rel0.nr hnr)) (fun t c hc hf=>hH1.off 0 t c (by simp) hc hf.2) (fun c hc=>hH1.imm 0 c (by simp) hc) (by rintro z p n m new rfl; cases hnr)
  have hrun:(execOp a.eval o).run P w=.ok (.value (a.eval x)) w:=by simp [execOp,ho]
  unfold Oper.wp Oper.upon
  simp only [hrun]
  have hU:∀ c,H1 0 c->∃ t,Fs t c:=fun c hc=>by
   rcases hall c (.inr ⟨0,by simp,hc⟩) with h'' | ⟨_,_,h''⟩
   ·exact h''
   ·exact h''.elim
  refine hK _ _ ⟨by rw [hd]; rfl,by rw [hd]; exact Hold.put hdN _ _,I',_,by rw [hd]; simpa [Act.put,ha] using hput,⟨Fr.refl _ _,hII,fun c hc=>(hI' c hc).elim .inl fun h=>.inr (.inl (hU c h)),fun c hc=>?_⟩⟩ fun t ht=>by rw [hd]; simp only [Act.put]; rw [Array.getElem?_setIfInBounds_ne]; rintro rfl; exact ht hd
  rcases upd_updF hc with ⟨t,_,h'⟩ | h'
  ·rcases hall c (.inl ⟨t,h'⟩) with h'' | ⟨_,_,h''⟩
   ·exact .inl h''
   ·exact h''.elim
  ·exact .inl (hU c (hsub c h'))
 | @assignRef d x y g2 ho hd hx hk hy hg hdN =>
  have hR:=opd_sound h hx ha
  have hS2:=h.toC.keep hk
  have hR':R w I (RG w T g2) y (a.eval x) E0:=(hR.frame (ρ':=RefAt w T) (fun _ _=>rfl) (fun _ h=>h) (fun _ _ h=>h.1) fun _ _=>rfl).rk hy
  have hput:=hS2.put0 (d:=d) (x:=y) (v:=a.eval x) (F:=E0) hg (by rw [<- ha,hN]; exact Rm.lt hdN) (.tree hR') (fun _ _ h=>h.elim) (fun _ h=>h.elim) (by rintro z p n m new rfl; exact hR'.notPend.elim)
  have hrun:(execOp a.eval o).run P w=.ok (.value (a.eval x)) w:=by simp [execOp,ho]
  unfold Oper.wp Oper.upon
  simp only [hrun]
  refine hK _ _ ⟨by rw [hd]; rfl,by rw [hd]; exact Hold.put hdN _ _,I,_,by rw [hd]; simpa [Act.put,ha] using hput,⟨Fr.refl _ _,fun _ h=>h,fun _ h=>.inl h,fun c hc=>?_⟩⟩ fun t ht=>by rw [hd]; simp only [Act.put]; rw [Array.getElem?_setIfInBounds_ne]; rintro rfl; exact ht hd
  rcases upd_updF hc with ⟨t,_,h'⟩ | h'
  ·exact .inl ⟨t,h'⟩
  ·exact h'.elim
 | @store t ad val p k z n y y1 y' nd cs cs' g1 _ ho hd had hval ht hfz hc hs hp hnd hk h0 hg2 hrk hnp hroot =>
  have hRv:=opd_sound h hval ha
  obtain ⟨⟨u,adr,hu,hadr,hev⟩,_⟩:=(opd_sound h had ha).inv_ptr
  obtain ⟨Fs1,H0,hS0,hH0,hall0⟩:=ht.sound h.toC (Hand.one hRv)
  have hnr0:NR y1:=ht.nrOut y1 (by simp)
  obtain ⟨I',H',hII,hI',hS1,hH1,hsubI⟩:=freeze_hand hS0 hH0 hnr0 hfz
  have hnr:NR y':=hfz.nr hnr0
  have hU:∀ c,H0 0 c->∃ t,Fs t c:=fun c hc=>by
   rcases hall0 c (.inr ⟨0,by simp,hc⟩) with h'' | ⟨_,_,h''⟩
   ·exact h''
   ·exact h''.elim
  have hall:∀ c,AllB Fs1 1 (fun _=>H') c->AllB Fs [y].length (fun _=>E0) c:=by
   rintro c (⟨t,hc⟩ | ⟨_,_,hc⟩)
   ·exact hall0 c (.inl ⟨t,hc⟩)
   ·exact .inl (hU c (hsubI c hc))
  obtain ⟨Hc,hHc,hcn,hone,hHsub⟩:=hH1.cells hnr hc
  have notPend:∀ z q n m new,nd≠.pend z q n m new:=by rcases hnd with rfl | rfl <;> simp
  obtain ⟨v,Fy,hv,hRy,hFy,_⟩:=hS1.part hp notPend
  rw [hu] at hv
  cases hv
  obtain ⟨b,uu,hb,_⟩:=hRy.node hnd (List.getElem?_eq_getElem (show k<cs.length by omega))
  rw [hadr] at hb
  cases hb
  have harr:∃ e arr,w.heap[b]?=some (.cells arr e (0,0))/\cs.length<=arr.size:=by
   rcases hnd with rfl | rfl
   ·cases hRy with
    | ref hx=>simp [AV.isRef] at hx
    | own hrow hl =>
     obtain ⟨hus,hh⟩:=hrow
     rcases hh with ⟨rfl,_⟩ | ⟨b',cap,cur,rfl,_,r2,r3,r4,r5,r6⟩
     ·simp [addrOf] at hadr
     ·simp only [addrOf,Option.some.injEq,Addr.mk.injEq,and_true] at hadr
      subst hadr
      refine ⟨_,cur,r2,?_⟩
      rw [hl,<- r6,List.length_take]; simp; omega
   ·cases hRy with
    | ref hx=>simp [AV.isRef] at hx
    | obj hrow hl =>
     simp only [addrOf,Option.some.injEq,Addr.mk.injEq,and_true] at hadr
     subst hadr
     exact ⟨_,_,hrow,by omega⟩
  obtain ⟨e,arr,harr,hle⟩:=harr
  obtain ⟨Fs2,hS2,hsub⟩:=hS1.store hp hnd hk hHc hcn (fun _=>cellsP_ns (hfz.okA (ht.okA (by simpa using opd_okA hval) y1 (by simp))) hc) hone hg2 hrk hnp hroot hu hadr harr
  have hcl:(a.eval val).cells.toList.length=cs'.length:=hHc.len.symm
  have hst:=run_storeCells_at P b k e (a.eval val).cells.toList 0 arr w harr (by omega) (fun u hu=>by
   obtain ⟨j,hj,rfl⟩:=List.mem_iff_getElem.1 hu
   exact hone j _ (List.getElem?_eq_getElem hj))
  simp only [Nat.add_zero] at hst
  have hsz:(sizeOf t).run P w=.ok cs'.length w:=by
   unfold sizeT at hs
   cases hi:P.info? t with
   | none=>simp [hi] at hs
   | some i=>simp [hi] at hs; simp [sizeOf,typeInfo,hi,hs]
  have hrun:(execOp a.eval o).run P w=.ok .skip (w.setRow b (splice arr.toList k (a.eval val).cells.toList).toArray):=by
   have hcs:(a.eval val).cells.size=cs'.length:=by rw [<- Array.length_toList]; exact hcl
   simp only [Nat.zero_add] at hev
   simp [execOp,ho,hev,Instr.storeAt,Instr.sureAddr,storeVar,hsz,hcs,hst,splice]
  unfold Oper.wp Oper.upon
  simp only [hrun]
  have hbU:∃ t,Fs t b:=by
   rcases hall b (.inl ⟨_,hFy b (hRy.node_block hnd (ad:=⟨b,0,none⟩) hadr)⟩) with h' | ⟨_,_,h'⟩
   ·exact h'
   ·exact h'.elim
  refine hK _ _ ⟨by rw [hd]; rfl,by rw [hd]; exact Hold.refl,I',Fs2,by rw [hd]; simpa [Act.put,ha] using hS2,⟨⟨rfl,rfl,rfl,by simp,fun c _ hc=>setRow_other w b c _ (fun e=>hc (e ▸ hbU)),fun a _ _=>fz_setRow w b _ a,Nat.le_refl _⟩,hII,fun c hc=>(hI' c hc).elim .inl fun h=>.inr (.inl (hU c h)),fun c ⟨t,hc⟩=>?_⟩⟩ fun t _=>by rw [hd]; rfl
  rcases hsub t c hc with h' | ⟨j,hj,h'⟩
  ·rcases hall c (.inl ⟨t,h'⟩) with h'' | ⟨_,_,h''⟩
   ·exact .inl h''
   ·exact h''.elim
  ·rcases hall c (.inr ⟨0,by simp,hHsub j c hj h'⟩) with h'' | ⟨_,_,h''⟩
   ·exact .inl h''
   ·exact h''.elim
theorem EO.sound (h:SR w I T g Fs) {a:Act}(ha:a.tmps=T) {N:Rm}(hN:a.tmps.size=N.size) {o:Oper}{g':Gst}(he:EO P N g o g') {K:Act->World->Prop}{Q:Exit->Act->World->Prop}
  (hK:∀ a' w',Next' N a w I Fs g' a' w'->K a' w'):o.wp P a w K Q:=he.eff w I T Fs h a ha hN K Q fun a' w' h _=>hK a' w' h
end
end Go.Own
namespace Go.Own
open Go
set_option linter.unusedSectionVars false
variable [TB]
def Le (g g':Gst):Prop:=∀ t x,g t=some x->g' t=some x
section
variable {P:Program}{g g':Gst}
theorem opd_mono (h:Le g g') {x:Operand}{y:AV}(hy:opd g x=some y):opd g' x=some y:=by
 cases x <;> simp only [opd] at hy ⊢
 case tmp t =>
  cases hx:g t with
  | none=>rw [hx] at hy; cases hy
  | some z=>rw [hx] at hy; rw [h t z hx]; exact hy
 case const v=>exact hy
 case global n=>exact hy
 case func f=>exact hy
theorem opds_mono (h:Le g g'):∀ {xs:List Operand}{ys:List AV},opds g xs=some ys->opds g' xs=some ys
 | [],_,hy=>hy
 | x::xs,ys,hy=>by
  simp only [opds] at hy ⊢
  cases hx:opd g x with
  | none=>simp [hx] at hy
  | some y =>
   cases hxs:opds g xs with
   | none=>simp [hx,hxs] at hy
   | some ys'=>simp only [hx,hxs] at hy; simp only [opd_mono h hx,opds_mono h hxs]; exact hy
theorem partsAV_mono (h:Le g g'):∀ {l:List (Nat × Operand)}{ps:List (Nat × List AV)},partsAV g l=some ps->partsAV g' l=some ps
 | [],_,hy=>hy
 | (i,x)::l,ps,hy=>by
  simp only [partsAV] at hy ⊢
  cases hx:opd g x with
  | none=>simp [hx] at hy
  | some y =>
   cases hxs:partsAV g l with
   | none=>simp [hx,hxs] at hy
   | some ys'=>simp only [hx,hxs] at hy; simp only [opd_mono h hx,partsAV_mono h hxs]; exact hy
theorem Bnd.mono (h:Le g g') {d:Nat}{x:Option Operand}{j:Nat}(hb:Bnd g d x j):Bnd g' d x j:=by
 cases x with
 | none=>exact hb
 | some o=>obtain ⟨k,hk⟩:=hb; exact ⟨k,opd_mono h hk⟩
theorem PS1.mono (h:Le g g') {op:Op}{ty:TypeId}{x:AV}(hp:PS1 P g op ty x):PS1 P g' op ty x:=by
 cases hp with
 | move hx=>exact .move (opd_mono h hx)
 | assign hx=>exact .assign (opd_mono h hx)
 | pick hc hr=>exact .pick (opd_mono h hc) (opd_mono h hr)
 | nilP hx=>exact .nilP (opd_mono h hx)
 | nilI hx=>exact .nilI (opd_mono h hx)
 | fieldP hx hf hok=>exact .fieldP (opd_mono h hx) hf (hok.mono h)
 | fieldI hx hf=>exact .fieldI (opd_mono h hx) hf
 | field1 hx hf ht hy=>exact .field1 (opd_mono h hx) hf ht hy
 | fieldN hx hf ht hk=>exact .fieldN (opd_mono h hx) hf ht hk
 | idxImm hx hi ht hj=>exact .idxImm (opd_mono h hx) (opd_mono h hi) ht hj
 | idxBrw hx hi ht hj hok=>exact .idxBrw (opd_mono h hx) (opd_mono h hi) ht hj (hok.mono h)
 | idxSub hx hi ht hj hok=>exact .idxSub (opd_mono h hx) (opd_mono h hi) ht hj (hok.mono h)
 | idxArrP hx hi ht hj hok=>exact .idxArrP (opd_mono h hx) (opd_mono h hi) ht hj (hok.mono h)
 | idxArrI hx hi ht hj=>exact .idxArrI (opd_mono h hx) (opd_mono h hi) ht hj
 | loadI1 hx ht=>exact .loadI1 (opd_mono h hx) ht
 | loadIN hx ht hk=>exact .loadIN (opd_mono h hx) ht hk
 | load1 hx ht hy=>exact .load1 (opd_mono h hx) ht (atP_mono h hy)
 | loadN hx ht hy hc hm=>exact .loadN (opd_mono h hx) ht (atP_mono h hy) hc hm
 | idxStr hx hi ht hb=>exact .idxStr (opd_mono h hx) (opd_mono h hi) ht hb
 | bin hx hy hv hr=>exact .bin (opd_mono h hx) (opd_mono h hy) hv hr
 | binA hx hy hv hr=>exact .binA (opd_mono h hx) (opd_mono h hy) hv hr
 | un hx hv hr=>exact .un (opd_mono h hx) hv hr
 | conv hx hv hr=>exact .conv (opd_mono h hx) hv hr
 | convB hx hp hn hcs ht=>exact .convB (opd_mono h hx) (atP_mono h hp) hn hcs ht
 | convI hx ht=>exact .convI (opd_mono h hx) ht
 | @extF xs tys _ f vs v hx hv hr =>
  refine .extF (vs:=vs) ?_ hv hr
  apply List.ext_getElem?
  intro k
  have:=congrArg (·[k]?) hx
  simp only [List.getElem?_map] at this ⊢
  rw [<- this]
  cases hk:xs.toList[k]? with
  | none=>rfl
  | some o =>
   rw [hk] at this
   cases hv:vs[k]? with
   | none=>rw [hv] at this; cases this
   | some v =>
    rw [hv] at this
    simp only [Option.map_some,Option.some.injEq] at this ⊢
    rw [this,opd_mono h this]
 | extr hx hy=>exact .extr (opd_mono h hx) hy
 | sliceImm hx hl hh ht h1 h2=>exact .sliceImm (opd_mono h hx) (hl.mono h) (hh.mono h) ht h1 h2
 | sliceBrw0 hx hl hh ht hn hok=>exact .sliceBrw0 (opd_mono h hx) (hl.mono h) (hh.mono h) ht hn (hok.mono h)
 | sliceBrw hx hl hh ht h1 h2 hok=>exact .sliceBrw (opd_mono h hx) (hl.mono h) (hh.mono h) ht h1 h2 (hok.mono h)
 | sliceStr hx hl hh ht h1 h2=>exact .sliceStr (opd_mono h hx) (hl.mono h) (hh.mono h) ht h1 h2
 | lenImm hx ht=>exact .lenImm (opd_mono h hx) ht
 | lenBrw hx ht=>exact .lenBrw (opd_mono h hx) ht
 | lenSub hx ht=>exact .lenSub (opd_mono h hx) ht
 | lenNils hx ht=>exact .lenNils (opd_mono h hx) ht
 | lkM hx hp hy hK hR hr=>exact .lkM (opd_mono h hx) (atP_mono h hp) (opd_mono h hy) hK hR hr
 | lkI hx hy hK hR hr=>exact .lkI (opd_mono h hx) (opd_mono h hy) hK hR hr
 | @lits b xs tys _ vs v hx hv hr =>
  refine .lits (vs:=vs) ?_ hv hr
  clear hr
  generalize xs.toList=l at hx
  induction l generalizing vs with
  | nil=>exact hx
  | cons x l ih =>
   cases vs with
   | nil=>simp at hx
   | cons v vs =>
    simp only [List.map_cons,List.cons.injEq] at hx ⊢
    exact ⟨opd_mono h hx.1,ih hx.2⟩
theorem PS2.mono (h:Le g g') {op:Op}{ty:TypeId}{x:AV}(hp:PS2 P g op ty x):PS2 P g' op ty x:=by
 cases hp with
 | box hx hc=>exact .box (opd_mono h hx) hc
 | alloc hz h1=>exact .alloc hz h1
 | allocB hz hc=>exact .allocB hz hc
 | allocN hz hc=>exact .allocN hz hc
 | boxB hx hc h0 h1=>exact .boxB (opd_mono h hx) hc h0 h1
 | makeMap hq=>exact .makeMap hq
 | buildSlice ht hp hx hz hc hb hn hzero=>exact .buildSlice ht hp (opds_mono h hx) hz hc hb hn hzero
 | makeSlice ht hx hy hzero h1 hzs hb hn hn2 hzl hzo=>exact .makeSlice ht (opd_mono h hx) (opd_mono h hy) hzero h1 hzs hb hn hn2 hzl hzo
theorem PS3.mono (h:Le g g') {op:Op}{ty:TypeId}{x:AV}(hp:PS3 P g op ty x):PS3 P g' op ty x:=by
 cases hp with
 | build ht hz h1 hp hc=>exact .build ht hz h1 (partsAV_mono h hp) hc
 | makeFunc ha hb=>exact .makeFunc (opds_mono h ha) (opds_mono h hb)
theorem Src.mono (h:Le g g') {y:AV}{z m:Nat}{cells:List AV}(hs:Src g y z m cells):Src g' y z m cells:=by
 cases hs with
 | imm=>exact .imm
 | nils=>exact .nils
 | brw hq hm=>exact .brw (atP_mono h hq) hm
 | sub hq hm=>exact .sub (atP_mono h hq) hm
theorem PS.mono (h:Le g g') {op:Op}{ty:TypeId}{x:AV}(hp:PS P g op ty x) (hno:∀ z p n m new,x=.pend z p n m new->∀ t z' n' m' new',g' t≠some (.pend z' p n' m' new')):PS P g' op ty x:=by
 cases hp with
 | p1 hp=>exact .p1 (hp.mono h)
 | p2 hp=>exact .p2 (hp.mono h)
 | p3 hp=>exact .p3 (hp.mono h)
 | pa hp =>
  cases hp with
  | grow hs hok _ hx hsrc ht h63 hb=>exact .pa (.grow (opd_mono h hs) (hok.mono h) (hno _ _ _ _ _ rfl) (opd_mono h hx) (hsrc.mono h) ht h63 hb)
  | nil hs hx hsrc ht h63 hb=>exact .pa (.nil (opd_mono h hs) (opd_mono h hx) (hsrc.mono h) ht h63 hb)
theorem View.mono (h:Le g g') {x y:AV}(hv:View g x y):View g' x y:=by
 induction hv with
 | nilI=>exact .nilI
 | self h1 h2 h3 h4 h5 h6=>exact .self h1 h2 h3 h4 h5 h6
 | mp=>exact .mp
 | mref hp=>exact .mref (atP_mono h hp)
 | agg hl _ ih=>exact .agg hl ih
 | own hl _ ih=>exact .own hl ih
 | obj hl _ ih=>exact .obj hl ih
 | clo hl _ ih=>exact .clo hl ih
 | brw hp hn hl _ ih=>exact .brw (atP_mono h hp) hn hl ih
 | sub hp hn hl _ ih=>exact .sub (atP_mono h hp) hn hl ih
 | ptr hp hy hk hl _ ih=>exact .ptr (atP_mono h hp) hy hk hl ih
 | rows hp hl _ ih=>exact .rows (hp.mono (fun hp=>atP_mono h hp) h) hl ih
theorem PC.mono (h:Le g g') {op:Op}{x:AV}(hp:PC P g op x):PC P g' op x:=by
 cases hp with
 | plain hc hx hf hn hcon hr=>exact .plain (opd_mono h hc) (opds_mono h hx) hf hn hcon hr
 | cl hx hsrc hz hf hfl hbig hc hn=>exact .cl (opd_mono h hx) (hsrc.mono h) hz hf hfl hbig hc hn
 | lent hc hx hf hl hv hcon hr=>exact .lent (opd_mono h hc) (opds_mono h hx) hf hl (fun k x y hx hy=>(hv k x y hx hy).mono h) hcon hr
def Wanted (g:Gst) (ops:Array Oper) (o:Oper) (b:Bool):Prop :=
 match o.guard with
 | none=>b=true
 | some (j,want)=>∃ t,(ops[j]?).bind (·.dst)=some t/\((∃ c,g t=some (.lit (.bool c))/\b=(c == want))\/(g t=some (.tup [])/\b=false))
theorem Wanted.mono (h:Le g g') {ops:Array Oper}{o:Oper}{b:Bool}(hw:Wanted g ops o b):Wanted g' ops o b:=by
 unfold Wanted at *
 split
 ·rename_i hg; rw [hg] at hw; exact hw
 ·rename_i j want hg
  rw [hg] at hw
  obtain ⟨t,h1,⟨c,h2,h3⟩ | ⟨h2,h3⟩⟩:=hw
  ·exact ⟨t,h1,.inl ⟨c,h t _ h2,h3⟩⟩
  ·exact ⟨t,h1,.inr ⟨h t _ h2,h3⟩⟩
theorem Wanted.sound {w:World}{I:BSet}{T:Array Value}{Fs:Nat->BSet}(hS:SR w I T g Fs) {ops:Array Oper}{o:Oper}{b:Bool}(hw:Wanted g ops o b):Region.wanted o (yielded ops T)=b:=by
 unfold Wanted at hw
 unfold Region.wanted
 split at hw
 ·rename_i hg; rw [hg]; exact hw.symm
 ·rename_i j want hg
  rw [hg]
  obtain ⟨t,h1,⟨c,h2,h3⟩ | ⟨h2,h3⟩⟩:=hw
  ·obtain ⟨v,hv,hR⟩:=hS.rel _ _ h2
   have:=(hR.isTree (by simp)).inv_lit.1
   subst this
   subst h3
   simp only [yielded,h1,Option.bind_some,hv]
   cases c <;> cases want <;> rfl
  ·obtain ⟨v,hv,hR⟩:=hS.rel _ _ h2
   have:∃ vs,v=.tuple vs:=by
    cases hR.isTree (by simp) with
    | tup=>exact ⟨_,rfl⟩
    | ref hx=>simp [AV.isRef] at hx
   obtain ⟨vs,rfl⟩:=this
   subst h3
   simp only [yielded,h1,Option.bind_some,hv]
   cases want <;> rfl
def StepOk (P:Program) (g:Gst) (ops:Array Oper) (o:Oper):Option AV->Prop
 | none=>Wanted g ops o false
 | some x=>(Wanted g ops o true/\(PS P g o.op o.type x\/PC P g o.op x))\/(Wanted g ops o false/\x=.tup [])\/(Wanted g ops o true/\∃ y,(PS P g o.op o.type y\/PC P g o.op y)/\NR y/\View (fun _=>none) y x)
theorem StepOk.mono (h:Le g g') {ops:Array Oper}{o:Oper}{r:Option AV}(hs:StepOk P g ops o r) (hno:∀ z p n m new,r=some (.pend z p n m new)->∀ t z' n' m' new',g' t≠some (.pend z' p n' m' new')):StepOk P g' ops o r:=by
 cases r with
 | none=>exact Wanted.mono h hs
 | some x =>
  rcases hs with hs | ⟨hs,hx⟩ | ⟨hs,y,hp,hn,hv⟩
  ·refine .inl ⟨hs.1.mono h,?_⟩
   rcases hs.2 with hp | hp
   ·exact .inl (hp.mono h fun z p n m new e=>hno z p n m new (by rw [e]))
   ·exact .inr (hp.mono h)
  ·exact .inr (.inl ⟨hs.mono h,hx⟩)
  ·refine .inr (.inr ⟨hs.mono h,y,?_,hn,hv⟩)
   rcases hp with hp | hp
   ·exact .inl (hp.mono h fun z p n m new e=>by subst e; cases hn)
   ·exact .inr (hp.mono h)
def leaf:AV->Bool
 | .own .. | .obj .. | .agg .. | .tup .. | .pend .. | .mp .. | .brow ..=>false
 | _=>true
def del (g:Gst) (d:Nat):Gst:=fun t=>if t=d then none else g t
theorem leaf_at {x y:AV}(h:leaf x=true):∀ {q:List Nat},x.at q=some y->y=x
 | [],hy=>by simpa [AV.at] using hy.symm
 | k::q,hy=>by
  have:x.kids=[]:=by cases x <;> first | rfl | simp [leaf] at h
  simp [AV.at,this] at hy
theorem atP_del {d:Nat}{x:AV}(hd:g d=some x) (hl:leaf x=true) {p:Place}{y:AV}(hp:atP g p=some y) (hy:leaf y=false):atP (del g d) p=some y:=by
 have hr:p.root≠d:=by
  intro e
  unfold atP at hp
  rw [e,hd] at hp
  rw [leaf_at hl hp,hl] at hy
  cases hy
 simp only [atP,del,if_neg hr] at hp ⊢
 exact hp
theorem RefOk.del {d:Nat}{x:AV}(hd:g d=some x) (hl:leaf x=true) {r:AV}(h:RefOk g r):RefOk (del g d) r:=by
 have root:∀ {t:Nat}{y:AV},g t=some y->leaf y=false->Own.del g d t=some y:=by
  intro t y ht hy
  have:t≠d:=by
   rintro rfl
   rw [hd] at ht
   cases ht
   rw [hl] at hy; cases hy
  simp only [Own.del,if_neg this,ht]
 cases r <;> simp only [RefOk] at h ⊢
 case ptr p k =>
  obtain ⟨y,hy,z,n,cs,hyc,hk⟩:=h
  exact ⟨y,atP_del hd hl hy (by rcases hyc with rfl | rfl <;> rfl),z,n,cs,hyc,hk⟩
 case brw z p n =>
  rcases h with ⟨N,cs,hy,hn⟩ | ⟨h1,q,n0,m,new,h2,h3⟩
  ·exact .inl ⟨N,cs,atP_del hd hl hy rfl,hn⟩
  ·exact .inr ⟨h1,q,n0,m,new,root h2 rfl,h3⟩
 case sub z p lo n =>
  obtain ⟨N,cs,hy,hn⟩:=h
  exact ⟨N,cs,atP_del hd hl hy rfl,hn⟩
 case mref p=>obtain ⟨q,h⟩:=h; exact ⟨q,atP_del hd hl h rfl⟩
 case pend z p n m new =>
  rcases h with ⟨cs,hy⟩ | ⟨h1,q,n0,m,new,cs,h2,h3,h4⟩
  ·exact .inl ⟨cs,atP_del hd hl hy rfl⟩
  ·exact .inr ⟨h1,q,n0,m,new,cs,root h2 rfl,h3,atP_del hd hl h4 rfl⟩
theorem R.leafF {w:World}{I:BSet}{ρ:AV->Value->Prop}{x:AV}{v:Value}{F:BSet}(h:R w I ρ x v F) (hl:leaf x=true):∀ c,¬ F c:=by
 cases h with
 | own | obj | agg | tup | mp | brow=>simp [leaf] at hl
 | lit _ hF | nils hF | dead hF | slf hF | ref _ _ hF | imm0 hF | imm hF | iptr hF | clo hF | imp hF=>exact hF
theorem SR.drop {w:World}{I:BSet}{T:Array Value}{Fs:Nat->BSet}(h:SR w I T g Fs) {d:Nat}{x:AV}(hd:g d=some x) (hl:leaf x=true):SR w I T (del g d) Fs:=by
 refine ⟨fun t y hy=>?_,fun t ht c hc=>?_,h.dis,h.imm,h.lt,fun t t' z p n m new z' n' m' new' h1 h2=>?_,h.tb⟩
 ·have hy':g t=some y:=by
   unfold del at hy
   split at hy
   ·cases hy
   ·exact hy
  obtain ⟨v,hv,hR⟩:=h.rel t y hy'
  exact ⟨v,hv,hR.frame (fun _ _=>rfl) (fun _ h=>h) (fun _ _ hr=>⟨hr.1,hr.2.del hd hl⟩) (fun _ _ _ _ _ _ _=>rfl) fun _ _=>rfl⟩
 ·unfold del at ht
  split at ht
  ·rename_i e
   subst e
   obtain ⟨v,hv,hR⟩:=h.rel t x hd
   exact (hR.isTree (by rintro z p n m new rfl; simp [leaf] at hl)).leafF hl c hc
  ·exact h.non t ht c hc
 ·have key:∀ {t:Nat}{y:AV},del g d t=some y->g t=some y:=by
   intro t y hy
   unfold del at hy
   split at hy
   ·cases hy
   ·exact hy
  exact h.pok _ _ _ _ _ _ _ _ _ _ _ (key h1) (key h2)
end
end Go.Own
namespace Go.Own
open Go
set_option linter.unusedSectionVars false
variable [TB]
def putR (g:Gst) (d:Nat):Option AV->Gst
 | some x=>upd g d x
 | none=>g
section
variable {P:Program}{w:World}{I:BSet}{T:Array Value}{g:Gst}{Fs:Nat->BSet}{N:Rm}{ops:Array Oper}
theorem St.refl (w:World) (I U:BSet):St w I U w I U:=⟨Fr.refl _ _,fun _ h=>h,fun _ h=>.inl h,fun _ h=>.inl h⟩
theorem St.trans {w w1 w2:World}{I I1 I2 U U1 U2:BSet}(h:St w I U w1 I1 U1) (h1:St w1 I1 U1 w2 I2 U2):St w I U w2 I2 U2:=by
 have old:∀ c,c<w.heap.size->U1 c->U c:=fun c hc hu=>by
  rcases h.own c hu with h' | h'
  ·exact h'
  ·omega
 refine ⟨h.fr.trans h1.fr old,fun c hc=>h1.more c (h.more c hc),fun c hc=>?_,fun c hc=>?_⟩
 ·rcases h1.new c hc with h' | h' | h'
  ·exact h.new c h'
  ·rcases h.own c h' with h'' | h''
   ·exact .inr (.inl h'')
   ·exact .inr (.inr h'')
  ·exact .inr (.inr (Nat.le_trans h.fr.size h'))
 ·rcases h1.own c hc with h' | h'
  ·exact h.own c h'
  ·exact .inr (Nat.le_trans h.fr.size h')
theorem Next'.trans {N:Rm}{a a1 a2:Act}{w1 w2:World}{I1:BSet}{Fs1:Nat->BSet}{g2:Gst}(h1:a1.defers=a.defers) (h2:Hold N a.tmps a1.tmps) (hst:St w I (fun c=>∃ t,Fs t c) w1 I1 (fun c=>∃ t,Fs1 t c)) (h:Next' N a1 w1 I1 Fs1 g2 a2 w2):Next' N a w I Fs g2 a2 w2:=by
 obtain ⟨e1,e2,I2,Fs2,hS,hst2⟩:=h
 exact ⟨e1.trans h1,h2.trans e2,I2,Fs2,hS,hst.trans hst2⟩
theorem SR.putNone (h:SR w I T g Fs) {d:Nat}(hd:g d=none) (v:Value):SR w I (T.setIfInBounds d v) g Fs:=by
 have hT:∀ t,g t≠none->(T.setIfInBounds d v)[t]?=T[t]?:=by
  intro t ht
  rw [Array.getElem?_setIfInBounds_ne]
  rintro rfl; exact ht hd
 refine ⟨fun t x hx=>?_,h.non,h.dis,h.imm,h.lt,h.pok,h.tb⟩
 obtain ⟨u,hu,hR⟩:=h.rel t x hx
 exact ⟨u,by rw [hT t (by rw [hx]; simp)]; exact hu,h.frameT hT (fun _ _ _=>rfl) (fun _ _=>rfl) (fun _ h=>h) (fun _ _ h=>h) hR fun _ _=>rfl⟩
structure Frz (fz:Nat->Bool) (g g2:Gst):Prop where
 old:∀ t x,g2 t=some x->fz t=false->g t=some x/\RK g2 x
 ice:∀ t x,g2 t=some x->fz t=true->∃ y,g t=some y/\NR y/\Fz y x
 np:∀ t z q n m new,g2 t≠some (.pend z q n m new)
theorem SR.frz (h:SR w I T g Fs) {fz:Nat->Bool}{g2:Gst}(hz:Frz fz g g2):∃ I' Fs',SR w I' T g2 Fs'/\St w I (fun c=>∃ t,Fs t c) w I' (fun c=>∃ t,Fs' t c):=by
 have hC:=h.toC
 have notP:∀ t x,g2 t=some x->∀ z p n m new,x≠.pend z p n m new:=by
  rintro t x hx z p n m new rfl
  exact hz.np _ _ _ _ _ _ hx
 -- of each slot what it owns from now on
 have:∀ t,∃ F':BSet,(∀ c,F' c->Fs t c/\g2 t≠none)/\∀ x,g2 t=some x->(fz t=false->∀ c,Fs t c->F' c)/\∃ v,T[t]?=some v/\R w (fun c=>I c\/(Fs t c/\¬ F' c)) (RG w T g2) x v F':=by
  intro t
  cases hx:g2 t with
  | none=>exact ⟨E0,fun _ h=>h.elim,fun x h=>by cases h⟩
  | some x =>
   cases ht:fz t with
   | false =>
    obtain ⟨h1,h2⟩:=hz.old t x hx ht
    obtain ⟨v,hv,hR⟩:=hC.rel t x h1
    refine ⟨Fs t,fun c hc=>⟨hc,by simp⟩,fun y hy=>?_⟩
    cases hy
    exact ⟨fun _ _ h=>h,v,hv,((hR.isTree (notP t x hx)).rk h2).moreI fun c hc=>.inl hc⟩
   | true =>
    obtain ⟨y,h1,h2,h3⟩:=hz.ice t x hx ht
    obtain ⟨v,hv,hR⟩:=hC.rel t y h1
    have hR':=hR.isTree (by rintro z p n m new rfl; cases h2)
    obtain ⟨F',hs,hRx⟩:=R.fz h3 hR' h2 (fun c hc=>hC.imm t c hc) hC.lt hC.tb
    refine ⟨F',fun c hc=>⟨hs c hc,by simp⟩,fun z hz=>?_⟩
    cases hz
    exact ⟨fun h=>absurd h (by simp),v,hv,hRx.nr (h3.nr h2)⟩
 obtain ⟨Fs',hFs⟩:=Classical.axiomOfChoice this
 refine ⟨fun c=>I c\/∃ t,Fs t c/\g2 t≠none/\¬ Fs' t c,Fs',⟨fun t x hx=>?_,fun t ht c hc=>((hFs t).1 c hc).2 ht,fun t t' c hc hc'=>h.dis t t' c ((hFs t).1 c hc).1 ((hFs t').1 c hc').1,fun t c hc hi=>?_,fun c hc=>?_,fun t t' z p n m new z' n' m' new' h1 _=>absurd h1 (hz.np _ _ _ _ _ _),TB.keep h.tb (fun _ _=>rfl) fun _ h=>.inl h⟩,Fr.refl _ _,fun _ h=>.inl h,fun c hc=>?_,fun c ⟨t,hc⟩=>.inl ⟨t,((hFs t).1 c hc).1⟩⟩
 ·obtain ⟨_,v,hv,hR⟩:=(hFs t).2 x hx
  exact ⟨v,hv,.tree (hR.moreI fun c hc=>hc.elim .inl fun hc=>.inr ⟨t,hc.1,by rw [hx]; simp,hc.2⟩)⟩
 ·rcases hi with h' | ⟨s,h1,_,h2⟩
  ·exact h.imm t c ((hFs t).1 c hc).1 h'
  ·have:=h.dis t s c ((hFs t).1 c hc).1 h1
   subst this
   exact h2 hc
 ·rcases hc with h' | ⟨s,h',_⟩
  ·exact h.lt c h'
  ·exact h.ltF s c h'
 ·rcases hc with h' | ⟨s,h',_⟩
  ·exact .inl h'
  ·exact .inr (.inl ⟨s,h'⟩)
theorem StepOk.sound (h:SR w I T g Fs) {a:Act}(ha:a.tmps=T) (hN:a.tmps.size=N.size) {o:Oper}{r:Option AV}{d:Nat}(hs:StepOk P g ops o r) (hd:o.dst=some d) (hg:g d=none) (hdN:N.ok d=true) {K:Act->World->Prop}{Q:Exit->Act->World->Prop}
  (hK:∀ a' w',Next' N a w I Fs (putR g d r) a' w'->K a' w') :
  if Region.wanted o (yielded ops a.tmps) then o.wp P a w K Q\/(o.asks P a w/\LetsOut Q) else K (a.put o.dst undef) w:=by
 subst ha
 cases r with
 | none =>
  rw [Wanted.sound h hs]
  simp only [Bool.false_eq_true,if_false]
  refine hK _ _ ⟨by rw [hd]; rfl,by rw [hd]; exact Hold.put hdN _ _,I,Fs,by rw [hd]; exact h.putNone hg _,St.refl _ _ _⟩
 | some x =>
  have fin:∀ x v w',Gives w I a.tmps g Fs x v w'->(∀ a' w',Next' N a w I Fs (upd g d x) a' w'->K a' w')->K (a.put o.dst v) w':=by
   rintro x v w' ⟨F,I',hS,hR,h1,h2,h3,h4,h5,h6⟩ hK
   refine hK _ _ ⟨by rw [hd]; rfl,by rw [hd]; exact Hold.put hdN _ _,I',_,by rw [hd]; exact hS.put0 hg (by rw [hN]; exact Rm.lt hdN) hR (fun t c hc hf=>h1 t c hc hf) (fun c hc=>(h2 c hc).2) h6,⟨h5,h3,fun c hc=>?_,fun c hc=>?_⟩⟩
   ·rcases h4 c hc with h' | h'
    ·exact .inl h'
    ·exact .inr (.inr h')
   ·rcases upd_updF hc with h' | h'
    ·exact .inl h'
    ·exact .inr (h2 c h').1
  have ice:∀ y v w',NR y->View (fun _=>none) y x->Gives w I a.tmps g Fs y v w'->Gives w I a.tmps g Fs x v w':=by
   rintro y v w' hn hv ⟨F,I',hS,hR,h1,h2,h3,h4,h5,h6⟩
   have hRy:=hR.isTree (by rintro z p n m new rfl; cases hn)
   refine ⟨E0,fun c=>I' c\/F c,⟨fun t z hz=>?_,hS.non,hS.dis,fun t c hc hi=>?_,fun c hc=>?_,hS.pok,TB.keep hS.tb (fun _ _=>rfl) fun _ h=>.inl h⟩,.tree (hRy.ice hn hv (fun c hc=>(h2 c hc).2) hS.lt hS.tb),fun _ _ h=>h.elim,fun _ h=>h.elim,fun c hc=>.inl (h3 c hc),fun c hc=>?_,h5,?_⟩
   ·obtain ⟨u,hu,hRu⟩:=hS.rel t z hz
    exact ⟨u,hu,hRu.moreI fun c hc=>.inl hc⟩
   ·rcases hi with h | h
    ·exact hS.imm t c hc h
    ·exact h1 t c h hc
   ·rcases hc with h | h
    ·exact hS.lt c h
    ·exact hRy.lt c h
   ·rcases hc with h | h
    ·exact h4 c h
    ·exact .inr (h2 c h).1
   ·rintro z p n m new rfl
    cases hv with
    | self h=>cases h
  rcases hs with hs | ⟨hs,rfl⟩ | ⟨hs,y,hp,hn,hv⟩
  rotate_left
  rotate_left
  ·rw [Wanted.sound h hs]
   simp only [if_true]
   refine .inl ?_
   have fin2:∀ v w',Gives w I a.tmps g Fs y v w'->K (a.put o.dst v) w':=fun v w' hG=>fin x v w' (ice y v w' hn hv hG) hK
   rcases hp with hp | hp
   ·obtain ⟨v,w',hrun,hG⟩:=hp.sound h rfl
    unfold Oper.wp Oper.upon
    simp only [hrun]
    exact fin2 v w' hG
   ·exact hp.sound h rfl fin2
  rotate_left
  ·rw [Wanted.sound h hs]
   simp only [Bool.false_eq_true,if_false]
   refine hK _ _ ⟨by rw [hd]; rfl,by rw [hd]; exact Hold.put hdN _ _,I,_,by rw [hd]; exact h.put0 hg (by rw [hN]; exact Rm.lt hdN) (.tree (.tup (Fs:=fun _=>E0) (F:=E0) rfl (fun k x u hx _=>by simp at hx) (fun _ _ _ _ _ h=>h.elim) (fun c=>⟨fun h=>h.elim,fun ⟨_,_,h⟩=>h⟩))) (fun _ _ h=>h.elim) (fun _ h=>h.elim) (fun _ _ _ _ _ e=>by cases e),⟨Fr.refl _ _,fun _ h=>h,fun _ h=>.inl h,fun c hc=>?_⟩⟩
   rcases upd_updF hc with h' | h'
   ·exact .inl h'
   ·exact h'.elim
  rw [Wanted.sound h hs.1]
  simp only [if_true]
  refine .inl ?_
  have fin:∀ v w',Gives w I a.tmps g Fs x v w'->K (a.put o.dst v) w':=by
   rintro v w' ⟨F,I',hS,hR,h1,h2,h3,h4,h5,h6⟩
   refine hK _ _ ⟨by rw [hd]; rfl,by rw [hd]; exact Hold.put hdN _ _,I',_,by rw [hd]; exact hS.put0 hg (by rw [hN]; exact Rm.lt hdN) hR (fun t c hc hf=>h1 t c hc hf) (fun c hc=>(h2 c hc).2) h6,⟨h5,h3,fun c hc=>?_,fun c hc=>?_⟩⟩
   ·rcases h4 c hc with h' | h'
    ·exact .inl h'
    ·exact .inr (.inr h')
   ·rcases upd_updF hc with h' | h'
    ·exact .inl h'
    ·exact .inr (h2 c h').1
  rcases hs.2 with hp | hp
  ·obtain ⟨v,w',hrun,hG⟩:=hp.sound h rfl
   unfold Oper.wp Oper.upon
   simp only [hrun]
   exact fin v w' hG
  ·exact hp.sound h rfl fin
inductive Run (P:Program) (N:Rm) (ops:Array Oper):List Nat->Gst->Gst->Prop
 | nil {g:Gst}:Run P N ops [] g g
 | step {i:Nat}{rest:List Nat}{g g':Gst}{o:Oper}{d:Nat}{r:Option AV}(ho:ops[i]?=some o) (hd:o.dst=some d) (hg:g d=none) (hdN:N.ok d=true) (hs:StepOk P g ops o r)
   (hr:Run P N ops rest (putR g d r) g'):Run P N ops (i::rest) g g'
 | eff {i:Nat}{rest:List Nat}{g g1 g':Gst}{o:Oper}(ho:ops[i]?=some o) (hw:Wanted g ops o true) (he:EO P N g o g1) (hr:Run P N ops rest g1 g'):Run P N ops (i::rest) g g'
 | drop {is:List Nat}{g g':Gst}{d:Nat}{x:AV}(hd:g d=some x) (hl:leaf x=true) (hr:Run P N ops is (del g d) g'):Run P N ops is g g'
 | forget {is:List Nat}{g g1 g':Gst}(hk:Keep g g1) (hr:Run P N ops is g1 g'):Run P N ops is g g'
 | frz {is:List Nat}{g g1 g':Gst}{fz:Nat->Bool}(hk:Frz fz g g1) (hr:Run P N ops is g1 g'):Run P N ops is g g'
theorem Run.sound {is:List Nat}{g':Gst}(hr:Run P N ops is g g'):∀ {a:Act}{w:World}{I:BSet}{Fs:Nat->BSet}{Q:Exit->Act->World->Prop},SR w I a.tmps g Fs->a.tmps.size=N.size ->
  (∀ a' w',Next' N a w I Fs g' a' w'->Q .normal a' w')->wpOps P ops Q is a w:=by
 induction hr with
 | nil=>exact fun hS hN hQ=>hQ _ _ ⟨rfl,Hold.refl,_,_,hS,St.refl _ _ _⟩
 | @step i rest g g' o d r ho hd hg hdN hs _ ih =>
  intro a w I Fs Q hS hN hQ
  simp only [wpOps,ho]
  refine hs.sound hS rfl hN hd hg hdN fun a' w' hn=>?_
  obtain ⟨e1,e2,I',Fs',hS',hst⟩:=hn
  exact ih hS' (e2.1.trans hN) fun a2 w2 h2=>hQ _ _ (Next'.trans e1 e2 hst h2)
 | @eff i rest g g1 g' o ho hw he _ ih =>
  intro a w I Fs Q hS hN hQ
  simp only [wpOps,ho,hw.sound hS,if_true]
  refine .inl (he.sound hS rfl hN fun a' w' hn=>?_)
  obtain ⟨e1,e2,I',Fs',hS',hst⟩:=hn
  exact ih hS' (e2.1.trans hN) fun a2 w2 h2=>hQ _ _ (Next'.trans e1 e2 hst h2)
 | @drop is g g' d x hd hl _ ih=>exact fun hS hN hQ=>ih (hS.drop hd hl) hN hQ
 | @frz is g g1 g' fz hk _ ih =>
  intro a w I Fs Q hS hN hQ
  obtain ⟨I',Fs',hS',hst⟩:=hS.frz hk
  exact ih hS' hN fun a2 w2 h2=>hQ _ _ (Next'.trans rfl Hold.refl hst h2)
 | @forget is g g1 g' hk _ ih =>
  intro a w I Fs Q hS hN hQ
  have hS':=hS.toC.keep hk
  refine ih hS' hN fun a2 w2 h2=>hQ _ _ (Next'.trans rfl Hold.refl ⟨Fr.refl _ _,fun _ h=>h,fun _ h=>.inl h,fun c hc=>?_⟩ h2)
  obtain ⟨t,_,hc⟩:=hc
  exact .inl ⟨t,hc⟩
end
end Go.Own
namespace Go.Own
open Go
set_option linter.unusedSectionVars false
variable [TB]
def rsV (rs:List Nat):Place->Prop:=fun p=>p.root∈rs
def EffV (P:Program) (N:Rm) (rs:Place->Prop) (g:Gst) (o:Oper) (g':Gst):Prop :=
 ∀ (w:World) (I:BSet) (T:Array Value) (Fs:Nat->BSet),SR w I T g Fs->∀ (a:Act),a.tmps=T->a.tmps.size=N.size->∀ (K:Act->World->Prop) (Q:Exit->Act->World->Prop),
  (∀ (a':Act) (w':World),Next' N a w I Fs g' a' w'->(∀ t,o.dst≠some t->a'.tmps[t]?=a.tmps[t]?)->(∀ r path,rs ⟨r,path⟩->∀ y,atP g ⟨r,path⟩=some y->(∀ z q n m new,y≠.pend z q n m new)->valAt w' a'.tmps ⟨r,path⟩=valAt w T ⟨r,path⟩)->K a' w')->o.wp P a w K Q
theorem EffOk.v {P:Program}{N:Rm}{g g':Gst}{o:Oper}(h:EffOk P N g o g'):EffV P N (rsV []) g o g' :=
 fun w I T Fs hS a ha hN K Q hK=>h w I T Fs hS a ha hN K Q fun a' w' h1 h2=>hK a' w' h1 h2 fun _ _ h=>by simp [rsV] at h
inductive Pl:AV->Prop
 | lit {v:Value}:Pl (.lit v)
 | nils:Pl .nils
 | imm {z n:Nat}{cs:List AV}(h:∀ x∈cs,NR x):Pl (.imm z n cs)
 | agg {cs:List AV}(h:∀ x∈cs,Pl x):Pl (.agg cs)
theorem Pl.nr {x:AV}(h:Pl x):NR x:=by
 induction h with
 | lit=>exact .lit
 | nils=>exact .nils
 | imm h=>exact .imm h
 | agg _ ih=>exact .agg ih
theorem Pl.non {w:World}{I:BSet}{ρ:AV->Value->Prop}{x:AV}(h:Pl x):∀ {v:Value}{F:BSet},R w I ρ x v F->∀ c,¬ F c:=by
 induction h with
 | lit =>
  intro v F hR
  cases hR with
  | lit _ hF=>exact hF
  | ref hx=>simp [AV.isRef] at hx
 | nils =>
  intro v F hR
  cases hR with
  | nils hF=>exact hF
  | ref hx=>simp [AV.isRef] at hx
 | imm =>
  intro v F hR
  cases hR with
  | ref hx=>simp [AV.isRef] at hx
  | imm0 hF=>exact hF
  | imm hF=>exact hF
 | @agg cs _ ih =>
  intro v F hR c hc
  cases hR with
  | ref hx=>simp [AV.isRef] at hx
  | @agg _ vs Fk _ hl h1 hr hd hFF =>
   obtain ⟨k,hk,h2⟩:=(hFF c).1 hc
   have hu:vs[k]?=some (vs[k]'(by omega)):=Array.getElem?_eq_getElem (by omega)
   exact ih _ (List.getElem_mem hk) (hr k _ _ (List.getElem?_eq_getElem hk) hu) c h2
structure Clo (g:Gst):Prop where
 rk:∀ t x,g t=some x->RK g x
 np:∀ t z q n m new,g t≠some (.pend z q n m new)
def Stab (rs:Place->Prop) (g g1:Gst) (o:Oper) (x:AV):Prop:=(∃ r path z n N cs,x=.brw z ⟨r,path⟩ n/\rs ⟨r,path⟩/\atP g ⟨r,path⟩=some (.own z N cs)/\atP g1 ⟨r,path⟩=some (.own z N cs)/\n<=N)\/(∃ v,x=.lit v)\/(∃ s p k,x=.ptr p k/\g s=some x/\g1 s=some x/\o.dst≠some s)\/(∃ r k cs,x=.ptr ⟨r,[]⟩ k/\g1 r=some (.obj cs)/\k<cs.length/\o.dst≠some r/\∃ cs',g r=some (.obj cs')/\k<cs'.length)\/(∃ z n cs,x=.imm z n cs/\NR x)\/(∃ cs,x=.agg cs/\Pl x/\Clo g)
section
variable {P:Program}{N:Rm}{g g1:Gst}{o:Oper}
theorem set_same {T:Array Value}{t:Nat}{v:Value}(h:T[t]?=some v):T.setIfInBounds t v=T:=by
 apply Array.ext (by simp)
 intro i h1 h2
 rw [Array.getElem_setIfInBounds]
 split
 ·rename_i e
  subst e
  have:=(Array.getElem?_eq_some_iff.1 h)
  exact this.2.symm
 ·rfl
theorem SR.dropC {w:World}{I:BSet}{T:Array Value}{Fs:Nat->BSet}{t:Nat}{x:AV}(h:SR w I T (upd g t x) Fs) (hg:g t=none) (hc:Clo g) (hE:∀ c,¬ Fs t c):SR w I T g Fs:=by
 have hsub:∀ s y,g s=some y->upd g t x s=some y:=fun s y hs=>by
  unfold upd
  rw [if_neg (fun e=>by rw [e,hg] at hs; cases hs)]; exact hs
 have h2:=h.toC.keep (g2:=g) ⟨hsub,hc.rk,hc.np⟩
 have e:(fun s c=>g s≠none/\Fs s c)=Fs:=by
  funext s c
  apply propext
  refine ⟨fun h=>h.2,fun hf=>⟨fun hn=>?_,hf⟩⟩
  by_cases hs:s=t
  ·subst hs; exact hE c hf
  ·exact h.non s (by unfold upd; rw [if_neg hs]; exact hn) c hf
 rw [e] at h2
 exact h2
theorem EffV.extra {rs:Place->Prop}(h:EffV P N rs g o g1) {t:Nat}{x:AV}(hrs:∀ p,rs p->g p.root≠none) (hg:g t=none) (hg1:g1 t=none) (ht:o.dst≠some t) (hx:Stab rs g g1 o x):EffV P N rs (upd g t x) o (upd g1 t x):=by
 intro w I T Fs hS a ha hN K Q hK
 have hut:upd g t x t=some x:=by simp [upd]
 have hnp:∀ z q n m new,x≠.pend z q n m new:=by
  rcases hx with ⟨r,path,z,n,N,cs,rfl,_⟩ | ⟨v,rfl⟩ | ⟨s,p,k,rfl,_⟩ | ⟨r,k,cs,rfl,_⟩ | ⟨z,n,cs,rfl,_⟩ | ⟨cs,rfl,_⟩ <;> simp
 have hS0:SR w I T g Fs:=by
  have byLeaf:leaf x=true->SR w I T g Fs:=fun hlf=>by
   have:=hS.drop hut hlf
   have e:del (upd g t x) t=g:=by
    funext s
    unfold del upd
    by_cases hs:s=t
    ·subst hs; simp [hg]
    ·simp [hs]
   rwa [e] at this
  rcases hx with ⟨r,path,z,n,N,cs,rfl,_⟩ | ⟨v,rfl⟩ | ⟨s,p,k,rfl,_⟩ | ⟨r,k,cs,rfl,_⟩ | ⟨z,n,cs,rfl,_⟩ | ⟨cs,rfl,hpl,hcl⟩
  ·exact byLeaf rfl
  ·exact byLeaf rfl
  ·exact byLeaf rfl
  ·exact byLeaf rfl
  ·exact byLeaf rfl
  ·obtain ⟨v,_,hRv⟩:=hS.rel t _ hut
   exact hS.dropC hg hcl (hpl.non (hRv.isTree (by simp)))
 obtain ⟨v,hv,hRv⟩:=hS.rel t x hut
 refine h w I T Fs hS0 a ha hN K Q fun a' w' hn htm hvr=>hK a' w' ?_ htm fun r path hr y hy hnp=>?_
 rotate_left
 ·by_cases hrt:r=t
  ·subst hrt
   exact absurd hg (hrs _ hr)
  ·exact hvr r path hr y (by simpa [atP,upd,hrt] using hy) hnp
 obtain ⟨e1,e2,I',Fs',hS',hst⟩:=hn
 have hv':a'.tmps[t]?=some v:=by rw [htm t ht,ha]; exact hv
 have hR':RT w' I' (RG w' a'.tmps g1) x v E0:=by
  rcases hx with ⟨r,path,z,n,N0,cs,rfl,hr,hr0,hr1,hnN⟩ | ⟨u,rfl⟩ | ⟨s,p,k,rfl,hs,hs1,hsd⟩ | ⟨r,k,cs,rfl,hr1,hk,hrd,_⟩ | ⟨z,n,cs,rfl,hnr⟩ | ⟨cs,rfl,hpl,hcl⟩
  ·obtain ⟨⟨a1,N',cap,b1,rfl,b3⟩,_⟩:=(hRv.isTree (by simp)).inv_brw
   exact .tree (.ref rfl ⟨⟨a1,N',cap,by rw [hvr r path hr _ hr0 (by simp)]; exact b1,rfl,b3⟩,.inl ⟨N0,cs,hr1,hnN⟩⟩ fun _ h=>h)
  ·obtain ⟨rfl,hc⟩:=(hRv.isTree (by simp)).inv_lit
   exact .tree (.lit hc fun _ h=>h)
  ·obtain ⟨⟨u2,ad,a1,a2,rfl⟩,_⟩:=(hRv.isTree (by simp)).inv_ptr
   have hst:s≠t:=by rintro rfl; rw [hg] at hs; cases hs
   obtain ⟨u,hu,hRu⟩:=hS0.rel s _ hs
   obtain ⟨⟨u3,ad3,b1,b2,rfl⟩,_⟩:=(hRu.isTree (by simp)).inv_ptr
   rw [a1] at b1
   cases b1
   rw [a2] at b2
   cases b2
   obtain ⟨u',hu',hRu'⟩:=hS'.rel s _ hs1
   have:a'.tmps[s]?=T[s]?:=by rw [htm s hsd,ha]
   rw [this,hu] at hu'
   cases hu'
   exact .tree (.ref rfl (hRu'.isTree (by simp)).inv_ptr fun _ h=>h)
  ·obtain ⟨⟨u2,ad,a1,a2,rfl⟩,_⟩:=(hRv.isTree (by simp)).inv_ptr
   have hT:a'.tmps[r]?=T[r]?:=by rw [htm r hrd,ha]
   have hval:∀ (w:World) (T:Array Value),valAt w T ⟨r,[]⟩=T[r]?:=fun w T=>by
    unfold valAt; simp only; cases T[r]? <;> rfl
   exact .tree (.ref rfl ⟨⟨u2,ad,by rw [hval,hT,<- hval w T]; exact a1,a2,rfl⟩,⟨.obj cs,by simp [atP,hr1,AV.at],0,0,cs,.inr rfl,hk⟩⟩ fun _ h=>h)
  ·have sameI:∀ c,I c->w'.heap[c]?=w.heap[c]?:=fun c hc=>hst.fr.block c (hS.lt c hc) fun ⟨t',h'⟩=>hS0.imm t' c h' hc
   have hRi:=(hRv.isTree (by simp)).nr hnr (ρ':=RG w' a'.tmps g1)
   have hE:∀ c,¬ Fs t c:=by
    cases hRv.isTree (by simp) with
    | ref hx=>simp [AV.isRef] at hx
    | imm0 hF=>exact hF
    | imm hF=>exact hF
   exact .tree ((hRi.frame sameI hst.more (fun _ _ h=>h) fun c hc=>absurd hc (hE c)).empty hE)
  ·have sameI:∀ c,I c->w'.heap[c]?=w.heap[c]?:=fun c hc=>hst.fr.block c (hS.lt c hc) fun ⟨t',h'⟩=>hS0.imm t' c h' hc
   have hE:=hpl.non (hRv.isTree (by simp))
   have hRi:=(hRv.isTree (by simp)).nr hpl.nr (ρ':=RG w' a'.tmps g1)
   exact .tree ((hRi.frame sameI hst.more (fun _ _ h=>h) fun c hc=>absurd hc (hE c)).empty hE)
 have hput:=hS'.put0 (d:=t) (x:=x) (v:=v) (F:=E0) hg1 (Array.getElem?_eq_some_iff.1 hv').1 hR' (fun _ _ h=>h.elim) (fun _ h=>h.elim) (fun z p n m new e=>absurd e (hnp _ _ _ _ _))
 rw [set_same hv'] at hput
 refine ⟨e1,e2,I',_,hput,⟨hst.fr,hst.more,hst.new,fun c hc=>?_⟩⟩
 rcases upd_updF hc with h' | h'
 ·exact hst.own c h'
 ·exact h'.elim
theorem EffOk.frame {g0 g1':Gst}{r:Nat}{x:AV}(h:EffOk P N g0 o g1') (hr:g r=some x) (hx:NR x) (hk:Keep g g0) (h0:g0 r=none) (h1:g1' r=none) (hd:o.dst≠some r):EffV P N (rsV [r]) g o (upd g1' r x):=by
 intro w I T Fs hS a ha hN K Q hK
 have hS0:=hS.toC.keep hk
 refine h w I T _ hS0 a ha hN K Q fun a' w' hn htm=>?_
 obtain ⟨e1,e2,I',Fs',hS',hst⟩:=hn
 obtain ⟨u,hu,hR⟩:=hS.rel r x hr
 have hu':a'.tmps[r]?=some u:=by rw [htm r hd,ha]; exact hu
 have hnp:∀ z q n m new,x≠.pend z q n m new:=by rintro z q n m new rfl; cases hx
 have off:∀ c,Fs r c->¬ ∃ t,(g0 t≠none/\Fs t c):=by
  rintro c hc ⟨t,q1,h2⟩
  have:=hS.dis t r c h2 hc
  subst this
  exact q1 h0
 have same:∀ c,Fs r c->w'.heap[c]?=w.heap[c]?:=fun c hc=>hst.fr.block c (hS.ltF r c hc) (off c hc)
 have sameI:∀ c,I c->w'.heap[c]?=w.heap[c]?:=fun c hc=>hst.fr.block c (hS.lt c hc) fun ⟨t,_,h'⟩=>hS.imm t c h' hc
 have hput:=hS'.put0 (d:=r) (x:=x) (v:=u) (F:=Fs r) h1 (Array.getElem?_eq_some_iff.1 hu').1 (.tree (((hR.isTree hnp).nr hx).frame sameI hst.more (fun _ _ h=>h) same)) (fun t c hc hf=>by
   rcases hst.own c ⟨t,hf⟩ with h' | h'
   ·exact off c hc h'
   ·have:=hS.ltF r c hc; omega) (fun c hc hi=>by
   rcases hst.new c hi with h' | h' | h'
   ·exact hS.imm r c hc h'
   ·exact off c hc h'
   ·have:=hS.ltF r c hc; omega) (fun z p n m new e=>absurd e (hnp _ _ _ _ _))
 rw [set_same hu'] at hput
 refine hK a' w' ⟨e1,e2,I',_,hput,⟨hst.fr.mono fun b _ ⟨t,_,h'⟩=>⟨t,h'⟩,hst.more,fun c hc=>?_,fun c hc=>?_⟩⟩ htm fun r' path hr' y hy hyp=>?_
 ·rcases hst.new c hc with h' | ⟨t,_,h'⟩ | h'
  ·exact .inl h'
  ·exact .inr (.inl ⟨t,h'⟩)
  ·exact .inr (.inr h')
 ·rcases upd_updF hc with h' | h'
  ·rcases hst.own c h' with ⟨t,_,h''⟩ | h''
   ·exact .inl ⟨t,h''⟩
   ·exact .inr h''
  ·exact .inl ⟨r,h'⟩
 ·have hr':r'∈[r]:=hr'
  simp only [List.mem_singleton] at hr'
  subst hr'
  have hk1:Keep g (fun t=>if t=r' then some x else none):=by
   refine ⟨fun t y e0=>?_,fun t y e0=>?_,fun t z q n m new e0=>?_⟩
   all_goals
    by_cases e:t=r'
    case neg=>simp [e] at e0
   ·subst e; simp at e0; subst e0; exact hr
   ·subst e; simp at e0; subst e0; exact .nr hx
   ·subst e; simp at e0; exact hnp _ _ _ _ _ e0
  refine (hS.toC.keep hk1).valAt_same (T':=a'.tmps) (fun t ht=>?_) (fun t c hc=>?_) (p:=⟨r',path⟩) (y:=y) ?_
  ·by_cases e:t=r'
   ·subst e; rw [htm t hd,ha]
   ·simp [e] at ht
  ·by_cases e:t=r'
   ·subst e; exact same c hc.2
   ·simp [e] at hc
  ·simp only [atP,if_true]
   simpa [atP,hr] using hy
end
end Go.Own
namespace Go.Own
open Go
set_option linter.unusedSectionVars false
variable [TB]
abbrev Acc:=List (Nat × Nat × Option AV)
def visG (g0:Gst) (A:Nat->Bool):Acc->Gst
 | [],t=>g0 t
 | (k,d,r)::acc,t=>if d=t then (if A k then r else none) else visG g0 A acc t
def pendPlace:Nat × Nat × Option AV->Option Place
 | (_,_,some (.pend _ p _ _ _))=>some p
 | _=>none
def ancOk (ops:Array Oper) (AT:List (List Nat)):Bool :=
 (List.range ops.size).all fun k =>
  match ops[k]? with
  | none=>true
  | some o=>(o.after.all fun e=>!Region.binds .any e||decide (e.on<k))&&(AT.getD k []).all fun m=>decide (m<k)&&o.after.any fun e=>Region.binds .any e&&(e.on == m||(AT.getD e.on []).contains m)
inductive Seg (P:Program) (N:Rm) (ops:Array Oper) (AT:List (List Nat)) (g0:Gst) (i:Nat) (U0:Acc):Nat->Acc->Prop
 | nil:Seg P N ops AT g0 i U0 i U0
 | step {j:Nat}{acc:Acc}{o:Oper}{d:Nat}{r:Option AV}(h:Seg P N ops AT g0 i U0 j acc) (ho:ops[j]?=some o) (hd:o.dst=some d) (hg:g0 d=none) (hn:∀ e∈acc,e.2.1≠d) (hdN:N.ok d=true)
   (hs:StepOk P (visG g0 (fun m=>(AT.getD j []).contains m) acc) ops o r):Seg P N ops AT g0 i U0 (j+1) ((j,d,r)::acc)
structure PendOk (P:Program) (N:Rm) (ops:Array Oper) (AT:List (List Nat)) (g0:Gst) (i:Nat) (U0:Acc):Prop where
 lt:∀ e∈U0,e.1<i
 free:∀ e∈U0,g0 e.2.1=none
 nd:(U0.map (·.2.1)).Nodup
 uq:∀ e∈U0,∀ e'∈U0,(e.1=e'.1\/e.2.1=e'.2.1)->e=e'
 st:∀ e∈U0,∃ o',ops[e.1]?=some o'/\o'.dst=some e.2.1/\N.ok e.2.1=true/\StepOk P (visG g0 (fun m=>(AT.getD e.1 []).contains m) U0) ops o' e.2.2
theorem PendOk.nil {P:Program}{N:Rm}{ops:Array Oper}{AT:List (List Nat)}{g0:Gst}{i:Nat}:PendOk P N ops AT g0 i []:=⟨by simp,by simp,by simp,by simp,by simp⟩
inductive DRun (P:Program) (N:Rm) (ops:Array Oper) (AT:List (List Nat)):Nat->Acc->Gst->Gst->Prop
 | fin {i:Nat}{U0:Acc}{g:Gst}{acc:Acc}(hs:Seg P N ops AT g i U0 ops.size acc) (hpd:(acc.filterMap pendPlace).Nodup) (hp0:∀ t z q n m new,g t≠some (.pend z q n m new)):DRun P N ops AT i U0 g (visG g (fun _=>true) acc)
 | bar {i j:Nat}{g g1 g':Gst}{U0 acc U:Acc}{o:Oper}{rs:Place->Prop}(hs:Seg P N ops AT g i U0 j acc) (hpd:(acc.filterMap pendPlace).Nodup) (hp0:∀ t z q n m new,g t≠some (.pend z q n m new)) (ho:ops[j]?=some o) (hw:Wanted (visG g (fun m=>(AT.getD j []).contains m) acc) ops o true)
   (he:EffV P N rs (visG g (fun m=>(AT.getD j []).contains m) acc) o g1) (hrs:∀ p,rs p->g p.root≠none) (hU:U=acc.filter fun e=>!(AT.getD j []).contains e.1) (hx:∀ e∈U,∃ x,e.2.2=some x/\Stab rs (visG g (fun m=>(AT.getD j []).contains m) acc) g1 o x) (h1:∀ e∈U,g1 e.2.1=none/\o.dst≠some e.2.1)
   (h2:∀ e∈U,∃ o',ops[e.1]?=some o'/\o'.dst=some e.2.1/\N.ok e.2.1=true/\StepOk P (visG g1 (fun m=>(AT.getD e.1 []).contains m) U) ops o' e.2.2)
   (hb:(List.range ops.size).all (fun k=>decide (k<=j)||(AT.getD k []).contains j)=true) (hr:DRun P N ops AT (j+1) U g1 g'):DRun P N ops AT i U0 g g'
theorem visG_out {g0:Gst}{A:Nat->Bool}{acc:Acc}{t:Nat}(h:∀ e∈acc,e.2.1≠t):visG g0 A acc t=g0 t:=by
 induction acc with
 | nil=>rfl
 | cons e acc ih =>
  grind [visG]
theorem visG_some {g0:Gst}{A:Nat->Bool}{acc:Acc}{t:Nat}{x:AV}(h:visG g0 A acc t=some x):(∃ e∈acc,e.2.1=t/\A e.1=true/\e.2.2=some x)\/((∀ e∈acc,e.2.1≠t)/\g0 t=some x):=by
 induction acc with
 | nil=>exact .inr ⟨by simp,h⟩
 | cons e acc ih =>
  grind [visG]
theorem vis_mem {g:Gst}{A:Nat->Bool}{acc:Acc}(hu:∀ e∈acc,∀ e'∈acc,e.2.1=e'.2.1->e=e') {e:Nat × Nat × Option AV}(he:e∈acc):visG g A acc e.2.1=if A e.1 then e.2.2 else none:=by
 induction acc with
 | nil=>cases he
 | cons a acc ih =>
  grind [visG]
section
variable {P:Program}{N:Rm}{ops:Array Oper}{AT:List (List Nat)}{g0:Gst}{i:Nat}
variable {U0:Acc}
theorem Seg.le {j:Nat}{acc:Acc}(h:Seg P N ops AT g0 i U0 j acc) (hU:PendOk P N ops AT g0 i U0):i<=j/\∀ e∈acc,e.1<j:=by
 induction h with
 | nil=>exact ⟨Nat.le_refl _,hU.lt⟩
 | step _ _ _ _ _ _ _ ih =>
  grind
theorem Seg.ge {j:Nat}{acc:Acc}(h:Seg P N ops AT g0 i U0 j acc) (hU:PendOk P N ops AT g0 i U0):∀ e∈acc,e∈U0\/i<=e.1:=by
 induction h with
 | nil=>exact fun e he=>.inl he
 | step hs _ _ _ _ _ _ ih =>
  intro e he
  rcases List.mem_cons.1 he with rfl | he
  ·exact .inr (hs.le hU).1
  grind
theorem Seg.sub0 {j:Nat}{acc:Acc}(h:Seg P N ops AT g0 i U0 j acc):∀ e∈U0,e∈acc:=by
 induction h with
 | nil=>exact fun e he=>he
 | step _ _ _ _ _ _ _ ih=>exact fun e he=>by simp [ih e he]
theorem Seg.fresh {j:Nat}{acc:Acc}(h:Seg P N ops AT g0 i U0 j acc) (hU:PendOk P N ops AT g0 i U0):∀ e∈acc,g0 e.2.1=none:=by
 induction h with
 | nil=>exact hU.free
 | step _ _ _ hg _ _ _ ih =>
  grind
theorem Seg.nodup {j:Nat}{acc:Acc}(h:Seg P N ops AT g0 i U0 j acc) (hU:PendOk P N ops AT g0 i U0):(acc.map (·.2.1)).Nodup:=by
 induction h with
 | nil=>exact hU.nd
 | step _ _ _ _ hn _ _ ih =>
  grind
theorem Seg.uniq {j:Nat}{acc:Acc}(h:Seg P N ops AT g0 i U0 j acc) (hU:PendOk P N ops AT g0 i U0):∀ {e e':Nat × Nat × Option AV},e∈acc->e'∈acc->(e.1=e'.1\/e.2.1=e'.2.1)->e=e':=by
 induction h with
 | nil=>exact fun {e e'} he he' hh=>hU.uq e he e' he' hh
 | @step j acc o d r hs _ _ _ hn _ _ ih =>
  intro e e' he he' hh
  rcases List.mem_cons.1 he with rfl | he <;> rcases List.mem_cons.1 he' with rfl | he'
  ·rfl
  ·rcases hh with hh | hh
   ·have:=(hs.le hU).2 e' he'
    grind
   grind
  ·rcases hh with hh | hh
   ·have:=(hs.le hU).2 e he
    grind
   grind
  grind
theorem Seg.at_mem {j:Nat}{acc:Acc}(h:Seg P N ops AT g0 i U0 j acc) (hU:PendOk P N ops AT g0 i U0) {A:Nat->Bool}{e:Nat × Nat × Option AV}(he:e∈acc):visG g0 A acc e.2.1=if A e.1 then e.2.2 else none :=
 vis_mem (fun _ hx _ hy h'=>h.uniq hU hx hy (.inr h')) he
theorem Seg.get {j:Nat}{acc:Acc}(h:Seg P N ops AT g0 i U0 j acc) (hU:PendOk P N ops AT g0 i U0):∀ e∈acc,∃ o acc0,ops[e.1]?=some o/\o.dst=some e.2.1/\N.ok e.2.1=true/\StepOk P (visG g0 (fun m=>(AT.getD e.1 []).contains m) acc0) ops o e.2.2/\∀ e∈acc0,e∈acc:=by
 induction h with
 | nil =>
  intro e he
  obtain ⟨o',h1,h2,h3,h4⟩:=hU.st e he
  grind
 | @step j acc o d r hs ho hd hg hn hdN hst ih =>
  intro e he
  rcases List.mem_cons.1 he with rfl | he
  ·grind
  grind
theorem Seg.has {j:Nat}{acc:Acc}(h:Seg P N ops AT g0 i U0 j acc):∀ k,i<=k->k<j->∃ e∈acc,e.1=k:=by
 induction h with
 | nil=>intro k h1 h2; omega
 | @step j acc o d r hs ho hd hg hn hdN hst ih =>
  grind [List.mem_cons_self]
theorem pend_uniq {acc:Acc}(hpd:(acc.filterMap pendPlace).Nodup) {e e':Nat × Nat × Option AV}{p:Place}(he:e∈acc) (he':e'∈acc) (h:pendPlace e=some p) (h':pendPlace e'=some p):e=e':=by
 induction acc with
 | nil=>simp at he
 | cons a acc ih =>
  grind
def Lst (listed:Array Bool) (k:Nat):Bool:=listed.getD k false
def cnt (ops:Array Oper) (listed:Array Bool):Nat:=((List.range ops.size).filter fun k=>!Lst listed k).length
theorem cnt_set {listed:Array Bool}{k:Nat}(hk:k<ops.size) (hl:Lst listed k=false) (hsz:listed.size=ops.size):cnt ops (listed.setIfInBounds k true)+1<=cnt ops listed:=by
 unfold cnt
 have key:∀ l:List Nat,l.Nodup->((l.filter fun j=>!Lst (listed.setIfInBounds k true) j).length+if k∈l then 1 else 0)=(l.filter fun j=>!Lst listed j).length:=by
  intro l
  induction l with
  | nil=>intro _; simp
  | cons j l ih =>
   intro hnd
   have hnd':=List.nodup_cons.1 hnd
   have ih':=ih hnd'.2
   by_cases hjk:j=k
   ·simp_all [Lst]
   ·have h1:Lst (listed.setIfInBounds k true) j=Lst listed j:=by simp [Lst,Array.getElem?_setIfInBounds_ne (Ne.symm hjk)]
    grind
 grind
end
end Go.Own
namespace Go.Own
open Go
set_option linter.unusedSectionVars false
variable [TB]
section
variable {P:Program}{N:Rm}{ops:Array Oper}{AT:List (List Nat)}
def Down (AT:List (List Nat)) (listed:Array Bool):Prop:=∀ k,Lst listed k=true->∀ m∈AT.getD k [],Lst listed m=true
theorem ancOk_spec (h:ancOk ops AT=true) {k:Nat}{o:Oper}(ho:ops[k]?=some o) :
  (∀ e∈o.after,Region.binds .any e=true->e.on<k)/\∀ m∈AT.getD k [],m<k/\∃ e∈o.after,Region.binds .any e=true/\(e.on=m\/m∈AT.getD e.on []):=by
 grind [ancOk,Array.all_eq_true_iff_forall_mem]
theorem ready_spec {listed:Array Bool}{k:Nat}(h:k∈Region.ready .any ops listed):Lst listed k=false/\∃ o,ops[k]?=some o/\∀ e∈o.after,Region.binds .any e=true->Lst listed e.on=true:=by
 grind [mem_ready,Lst]
theorem ready_anc (hA:ancOk ops AT=true) {listed:Array Bool}(hd:Down AT listed) {k:Nat}(h:k∈Region.ready .any ops listed):∀ m∈AT.getD k [],Lst listed m=true:=by
 obtain ⟨_,o,ho,h2⟩:=ready_spec h
 intro m hm
 obtain ⟨_,e,he,hb,h3⟩:=(ancOk_spec hA ho).2 m hm
 rcases h3 with rfl | h3
 ·grind
 ·exact hd e.on (h2 e he hb) m h3
theorem ready_ex (hA:ancOk ops AT=true) {listed:Array Bool}(hsz:listed.size=ops.size):∀ k,k<ops.size->Lst listed k=false->Region.ready .any ops listed≠[]:=by
 intro k
 induction k using Nat.strongRecOn with
 | _ k ih =>
  intro hk hl
  by_cases hex:∃ j,j<k/\Lst listed j=false
  ·grind
  ·have hmem:k∈Region.ready .any ops listed:=by
    refine mem_ready.2 ⟨?_,ops[k],Array.getElem?_eq_getElem hk,fun e he hb=>?_⟩
    ·grind [Lst]
    ·have hlt:=(ancOk_spec hA (Array.getElem?_eq_getElem hk)).1 e he hb
     grind [Lst]
   grind
theorem visG_congr {g0:Gst}{A B:Nat->Bool}{acc:Acc}{t:Nat}(h:∀ e∈acc,e.2.1=t->A e.1=B e.1):visG g0 A acc t=visG g0 B acc t:=by
 induction acc with
 | nil=>rfl
 | cons e acc ih =>
  grind [visG]
theorem Lst_set {listed:Array Bool}{k j:Nat}(hk:k<listed.size):Lst (listed.setIfInBounds k true) j=if j=k then true else Lst listed j:=by
 by_cases hjk:j=k
 all_goals simp_all [Lst,Ne.symm]
theorem vis_split {g0:Gst}{i j:Nat}{acc U U0:Acc}(hs:Seg P N ops AT g0 i U0 j acc) (hP:PendOk P N ops AT g0 i U0) {A S:Nat->Bool}(hU:U=acc.filter fun e=>!A e.1) (hAS:∀ e∈acc,A e.1=true->S e.1=true):visG g0 S acc=visG (visG g0 A acc) S U:=by
 subst hU
 funext t
 by_cases hex:∃ e∈acc,e.2.1=t
 ·obtain ⟨e,he,rfl⟩:=hex
  rw [hs.at_mem hP he]
  by_cases hA:A e.1=true
  ·rw [visG_out,hs.at_mem hP he,if_pos hA,if_pos (hAS e he hA)]
   intro e' he' h
   obtain ⟨h1,h2⟩:=List.mem_filter.1 he'
   have:=hs.uniq hP h1 he (.inr h)
   grind
  ·rw [vis_mem (fun x hx y hy h=>hs.uniq hP (List.mem_filter.1 hx).1 (List.mem_filter.1 hy).1 (.inr h)) (List.mem_filter.2 ⟨he,by simpa using hA⟩)]
 grind [visG_out]
theorem RK.mono {g g':Gst}(hg:∀ t x,g t=some x->g' t=some x) {x:AV}(h:RK g x):RK g' x:=by
 induction h with
 | nr h=>exact .nr h
 | ref hx h=>exact .ref hx (h.mono hg)
 | own _ ih=>exact .own ih
 | obj _ ih=>exact .obj ih
 | agg _ ih=>exact .agg ih
 | tup _ ih=>exact .tup ih
 | clo _ _ ih1 ih2=>exact .clo ih1 ih2
 | pend hp _ ih=>exact .pend (hp.mono hg) ih
theorem eff_vis {gA g1:Gst}{o:Oper}{S:Nat->Bool}{rs:Place->Prop}(h:EffV P N rs gA o g1) (hrs:∀ p,rs p->gA p.root≠none):∀ (U:Acc),(∀ e∈U,∃ x,e.2.2=some x/\Stab rs gA g1 o x)->(∀ e∈U,gA e.2.1=none/\g1 e.2.1=none/\o.dst≠some e.2.1)->(U.map (·.2.1)).Nodup->EffV P N rs (visG gA S U) o (visG g1 S U)
 | [],_,_,_=>h
 | (k,d,r)::U,hx,h1,hnd=>by
  simp only [List.map_cons,List.nodup_cons] at hnd
  have ih:=eff_vis (S:=S) h hrs U (fun e he=>hx e (by simp [he])) (fun e he=>h1 e (by simp [he])) hnd.2
  obtain ⟨x,e,hst⟩:=hx (k,d,r) (by simp)
  simp only at e
  subst e
  obtain ⟨a1,a2,a3⟩:=h1 (k,d,some x) (by simp)
  simp only at a1 a2 a3
  have hout:∀ e∈U,e.2.1≠d:=fun e he h'=>hnd.1 (List.mem_map.2 ⟨e,he,h'⟩)
  cases hS:S k with
  | true =>
   have e:∀ g:Gst,visG g S ((k,d,some x)::U)=upd (visG g S U) d x:=fun g=>by
    funext t
    simp only [visG,upd,hS,if_true]
    by_cases hd:d=t
    ·rw [if_pos hd,if_pos hd.symm]
    ·rw [if_neg hd,if_neg (Ne.symm hd)]
   rw [e,e]
   have outr:∀ r,gA r≠none->∀ e∈U,e.2.1≠r:=fun r hr e he h'=>by
    have:=(h1 e (by simp [he])).1
    rw [h'] at this
    exact hr this
   have outr1:∀ r,g1 r≠none->∀ e∈U,e.2.1≠r:=fun r hr e he h'=>by
    have:=(h1 e (by simp [he])).2.1
    rw [h'] at this
    exact hr this
   refine ih.extra (fun r hr=>by rw [visG_out (outr r.root (hrs r hr))]; exact hrs r hr) (by rw [visG_out hout]; exact a1) (by rw [visG_out hout]; exact a2) a3 ?_
   rcases hst with ⟨r,path,z,n,N0,cs,rfl,b1,b2,b3,b4⟩ | ⟨v,rfl⟩ | ⟨s,p,m,rfl,b1,b2,b3⟩ | ⟨s,m,cs,rfl,b1,b2,b3,cs',b4,b5⟩ | ⟨z,n,cs,rfl,b1⟩ | ⟨cs,rfl,b1,b2⟩
   ·refine .inl ⟨r,path,z,n,N0,cs,rfl,b1,?_,?_,b4⟩
    ·have:gA r≠none:=hrs _ b1
     simpa [atP,visG_out (outr r this)] using b2
    ·have:g1 r≠none:=fun e=>by simp [atP,e] at b3
     simpa [atP,visG_out (outr1 r this)] using b3
   ·exact .inr (.inl ⟨v,rfl⟩)
   ·refine .inr (.inr (.inl ⟨s,p,m,rfl,?_,?_,b3⟩))
    ·rw [visG_out]; exact b1
     intro e he h'
     have:=(h1 e (by simp [he])).1
     rw [h',b1] at this; cases this
    ·rw [visG_out]; exact b2
     intro e he h'
     have:=(h1 e (by simp [he])).2.1
     rw [h',b2] at this; cases this
   ·refine .inr (.inr (.inr (.inl ⟨s,m,cs,rfl,?_,b2,b3,cs',?_,b5⟩)))
    ·rw [visG_out]; exact b1
     intro e he h'
     have:=(h1 e (by simp [he])).2.1
     rw [h',b1] at this; cases this
    ·rw [visG_out (outr s (by rw [b4]; simp))]; exact b4
   ·exact .inr (.inr (.inr (.inr (.inl ⟨z,n,cs,rfl,b1⟩))))
   ·refine .inr (.inr (.inr (.inr (.inr ⟨cs,rfl,b1,?_⟩))))
    have hle:∀ t y,gA t=some y->visG gA S U t=some y:=fun t y hy=>by rw [visG_out (outr t (by rw [hy]; simp))]; exact hy
    refine ⟨fun t y hy=>?_,fun t z q n m new hy=>?_⟩
    ·rcases visG_some hy with ⟨e',he',_,_,hey⟩ | ⟨_,hy⟩
     ·obtain ⟨y',ey,hst'⟩:=hx e' (by simp [he'])
      rw [hey] at ey; cases ey
      rcases hst' with ⟨r,path,z,n,N0,cs,rfl,c1,c2,c3,c4⟩ | ⟨v,rfl⟩ | ⟨s,p,m,rfl,c1,_⟩ | ⟨s,m,cs,rfl,_,_,_,cs',c4,c5⟩ | ⟨z,n,cs,rfl,c1⟩ | ⟨cs,rfl,c1,_⟩
      ·exact .ref rfl (.inl ⟨N0,cs,atP_mono hle c2,c4⟩)
      ·exact .nr .lit
      ·exact RK.mono hle (b2.rk s _ c1)
      ·exact .ref rfl ⟨.obj cs',by simp [atP,hle s _ c4,AV.at],0,0,cs',.inr rfl,c5⟩
      ·exact .nr c1
      ·exact .nr c1.nr
     ·exact RK.mono hle (b2.rk t y hy)
    ·rcases visG_some hy with ⟨e',he',_,_,hey⟩ | ⟨_,hy⟩
     ·obtain ⟨y',ey,hst'⟩:=hx e' (by simp [he'])
      rw [hey] at ey; cases ey
      rcases hst' with ⟨r,path,z,n,N0,cs,h,_⟩ | ⟨v,h⟩ | ⟨s,p,m,h,_⟩ | ⟨s,m,cs,h,_⟩ | ⟨z,n,cs,h,_⟩ | ⟨cs,h,_⟩ <;> cases h
     ·exact b2.np _ _ _ _ _ _ hy
  | false =>
   have e:∀ g:Gst,g d=none->visG g S ((k,d,some x)::U)=visG g S U:=fun g hg=>by
    funext t
    simp only [visG,hS]
    by_cases hd:d=t
    ·subst hd; rw [if_pos rfl,visG_out hout,hg]; rfl
    ·rw [if_neg hd]
   rw [e gA a1,e g1 a2]
   exact ih
theorem pure_step (hA:ancOk ops AT=true) {g0:Gst}{i j:Nat}{acc U0:Acc}(hs:Seg P N ops AT g0 i U0 j acc) (hP:PendOk P N ops AT g0 i U0) (hpd:(acc.filterMap pendPlace).Nodup) (hp0:∀ t z q n m new,g0 t≠some (.pend z q n m new)) {listed:Array Bool}(hsz:listed.size=ops.size) (hd:Down AT listed)
  {a:Act}{w:World}{I:BSet}{Fs:Nat->BSet}(hS:SR w I a.tmps (visG g0 (Lst listed) acc) Fs) (hN:a.tmps.size=N.size) {e:Nat × Nat × Option AV}(he:e∈acc) (hk:e.1∈Region.ready .any ops listed) {K:Act->World->Prop}{Q:Exit->Act->World->Prop}
  (hK:∀ a' w' I' Fs',a'.defers=a.defers->Hold N a.tmps a'.tmps->SR w' I' a'.tmps (visG g0 (Lst (listed.setIfInBounds e.1 true)) acc) Fs'->St w I (fun c=>∃ t,Fs t c) w' I' (fun c=>∃ t,Fs' t c)->K a' w'):wpOp P ops Q e.1 K a w:=by
 obtain ⟨hkl,oo,hoo,_⟩:=ready_spec hk
 have hks:=(Array.getElem?_eq_some_iff.1 hoo).1
 have hanc:=ready_anc hA hd hk
 obtain ⟨o,acc0,ho,hod,hdN,hst,hsub⟩:=hs.get hP e he
 obtain ⟨k,d,r⟩:=e
 simp only at *
 have hle:Le (visG g0 (fun m=>(AT.getD k []).contains m) acc0) (visG g0 (Lst listed) acc):=by
  intro t x hx
  rcases visG_some hx with ⟨e,he,rfl,hAe,hex⟩ | ⟨hout,hg⟩
  ·rw [hs.at_mem hP (hsub e he),hanc e.1 (by simpa using hAe)]
   exact hex
  ·rw [visG_out fun e he hed=>?_]
   ·exact hg
   ·have:=hs.fresh hP e he
    grind
 have hno:∀ z p n m new,r=some (.pend z p n m new)->∀ t z' n' m' new',visG g0 (Lst listed) acc t≠some (.pend z' p n' m' new'):=by
  intro z p n m new hr t z' n' m' new' ht
  rcases visG_some ht with ⟨e,he',_,hAe,hex⟩ | ⟨_,hg⟩
  ·obtain ⟨k',d',r'⟩:=e
   have:=pend_uniq hpd (p:=p) he he' (by rw [hr]; rfl) (by simp only at hex; rw [hex]; rfl)
   grind
  grind
 have hst':=hst.mono hle hno
 have hgd:visG g0 (Lst listed) acc d=none:=by
  have:=hs.at_mem hP (A:=Lst listed) he
  grind
 unfold wpOp
 simp only [ho]
 refine hst'.sound hS rfl hN hod hgd hdN fun a' w' hn=>?_
 obtain ⟨e1,e2,I',Fs',hS',hst2⟩:=hn
 have hL:∀ j,Lst (listed.setIfInBounds k true) j=if j=k then true else Lst listed j:=fun j=>Lst_set (by omega)
 have hG:visG g0 (Lst (listed.setIfInBounds k true)) acc=putR (visG g0 (Lst listed) acc) d r:=by
  funext t
  by_cases htd:t=d
  ·subst htd
   have h1:=hs.at_mem hP (A:=Lst (listed.setIfInBounds k true)) he
   simp only [hL k,if_true] at h1
   rw [h1]
   cases r with
   | none=>simp only [putR]; exact hgd.symm
   | some x=>simp [putR,upd]
  ·have h1:visG g0 (Lst (listed.setIfInBounds k true)) acc t=visG g0 (Lst listed) acc t:=visG_congr fun e he' het=>by
    rw [hL e.1,if_neg]
    intro hek
    have:=hs.uniq hP he' he (.inl hek)
    grind
   rw [h1]
   cases r with
   | none=>rfl
   | some x=>simp [putR,upd,htd]
 grind
theorem down_set (hA:ancOk ops AT=true) {listed:Array Bool}(hsz:listed.size=ops.size) (hd:Down AT listed) {k:Nat}(hk:k∈Region.ready .any ops listed):Down AT (listed.setIfInBounds k true):=by
 obtain ⟨hkl,oo,hoo,_⟩:=ready_spec hk
 have hks:=(Array.getElem?_eq_some_iff.1 hoo).1
 have hanc:=ready_anc hA hd hk
 have hL:∀ q,Lst (listed.setIfInBounds k true) q=if q=k then true else Lst listed q:=fun q=>Lst_set (by omega)
 intro m hm q hq
 rw [hL] at hm ⊢
 split
 ·rfl
 ·split at hm
  ·grind
  ·exact hd m hm q hq
theorem Seg.entry {g0:Gst}{i j:Nat}{acc U0:Acc}(hs:Seg P N ops AT g0 i U0 j acc) {listed:Array Bool}(hlt:∀ k,k<i->(∀ e∈U0,e.1≠k)->Lst listed k=true) {k:Nat}(hkj:k<j) (hkl:Lst listed k=false):∃ e∈acc,e.1=k:=by
 rcases Nat.lt_or_ge k i with h | h
 ·rcases Classical.em (∃ e∈U0,e.1=k) with ⟨e,he,h'⟩ | h'
  ·exact ⟨e,hs.sub0 e he,h'⟩
  grind
 ·exact hs.has k h hkj
theorem DRun.sound (hA:ancOk ops AT=true) {i:Nat}{U0:Acc}{g g':Gst}(h:DRun P N ops AT i U0 g g'):PendOk P N ops AT g i U0->∀ {Q:Exit->Act->World->Prop}(fuel:Nat) (listed:Array Bool) (a:Act) (w:World) (I:BSet) (Fs:Nat->BSet),cnt ops listed<=fuel->listed.size=ops.size->(∀ k,k<i->(∀ e∈U0,e.1≠k)->Lst listed k=true)->(∀ k,i<=k->Lst listed k=false)->Down AT listed ->
  SR w I a.tmps (visG g (Lst listed) U0) Fs->a.tmps.size=N.size->(∀ a' w',Next' N a w I Fs g' a' w'->Q .normal a' w')->wpAny P .any ops Q fuel listed a w:=by
 have start:∀ {g:Gst}{i j:Nat}{acc U0:Acc}{listed:Array Bool},Seg P N ops AT g i U0 j acc->PendOk P N ops AT g i U0->(∀ k,i<=k->Lst listed k=false)->visG g (Lst listed) acc=visG g (Lst listed) U0:=by
  intro g i j acc U0 listed hs hP hge
  funext t
  by_cases hex:∃ e∈acc,e.2.1=t
  ·obtain ⟨e,he,rfl⟩:=hex
   rw [hs.at_mem hP he]
   rcases hs.ge hP e he with h | h
   ·rw [vis_mem (fun x hx y hy h'=>hP.uq x hx y hy (.inr h')) h]
   ·rw [hge e.1 h]
    by_cases hex':∃ e'∈U0,e'.2.1=e.2.1
    ·obtain ⟨e',he',h'⟩:=hex'
     have:=hs.uniq hP (hs.sub0 e' he') he (.inr h')
     subst this
     have:=hP.lt e' he'
     omega
    ·rw [visG_out fun e' he' h'=>hex' ⟨e',he',h'⟩,hs.fresh hP e he]; rfl
  ·rw [visG_out fun e he h=>hex ⟨e,he,h⟩,visG_out fun e he h=>hex ⟨e,hs.sub0 e he,h⟩]
 induction h with
 | @fin i U0 g acc hs hpd hp0 =>
  intro hP Q fuel listed a w I Fs hc hsz hlt hge hd hS hN hQ
  rw [<- start hs hP hge] at hS
  clear hge
  revert listed a w I Fs
  induction fuel with
  | zero =>
   intro listed a w I Fs hc hsz hlt hd hS hN hQ
   have hall:∀ k,k<ops.size->Lst listed k=true:=fun k hk=>by
    cases hl:Lst listed k with
    | true=>rfl
    | false=>have:=cnt_set (ops:=ops) (listed:=listed) (k:=k) hk hl hsz; omega
   refine wpAny_done ?_ (hQ _ _ ⟨rfl,Hold.refl,I,Fs,?_,St.refl _ _ _⟩) 0
   ·cases hr:Region.ready .any ops listed with
    | nil=>rfl
    | cons k l =>
     have hk:k∈Region.ready .any ops listed:=by rw [hr]; simp
     obtain ⟨hkl,o,ho,_⟩:=ready_spec hk
     grind
   ·have:visG g (Lst listed) acc=visG g (fun _=>true) acc:=funext fun t=>visG_congr fun e he _=>hall e.1 ((hs.le hP).2 e he)
    grind
  | succ fuel ih =>
   intro listed a w I Fs hc hsz hlt hd hS hN hQ
   by_cases hall:∀ k,k<ops.size->Lst listed k=true
   ·refine wpAny_done ?_ (hQ _ _ ⟨rfl,Hold.refl,I,Fs,?_,St.refl _ _ _⟩) _
    ·cases hr:Region.ready .any ops listed with
     | nil=>rfl
     | cons k l =>
      have hk:k∈Region.ready .any ops listed:=by rw [hr]; simp
      obtain ⟨hkl,o,ho,_⟩:=ready_spec hk
      grind
    ·have:visG g (Lst listed) acc=visG g (fun _=>true) acc:=funext fun t=>visG_congr fun e he _=>hall e.1 ((hs.le hP).2 e he)
     grind
   ·obtain ⟨k0,hk0⟩:=Classical.not_forall.1 hall
    obtain ⟨hk0j,hk0l⟩:=Classical.not_imp.1 hk0
    refine ⟨fun hr=>absurd hr (ready_ex hA hsz k0 hk0j (by simpa using hk0l)),fun k hk=>?_⟩
    obtain ⟨hkl,oo,hoo,_⟩:=ready_spec hk
    have hks:=(Array.getElem?_eq_some_iff.1 hoo).1
    obtain ⟨e,he,rfl⟩:=hs.entry hlt hks hkl
    have hcnt:=cnt_set (ops:=ops) (listed:=listed) (k:=e.1) hks hkl hsz
    refine pure_step hA hs hP hpd hp0 hsz hd hS hN he hk fun a' w' I' Fs' e1 e2 hS' hst2=>?_
    refine ih _ a' w' I' Fs' (by omega) (by simpa using hsz) (fun m hm hne=>?_) (down_set hA hsz hd hk) hS' (e2.1.trans hN) fun a2 w2 h2=>hQ _ _ (Next'.trans e1 e2 hst2 h2)
    grind [Lst_set]
 | @bar i j g g1 g' U0 acc U o rs hs hpd hp0 ho hw he hrs hU hx h1 h2 hb _ ihr =>
  intro hP Q fuel listed a w I Fs hc hsz hlt hge hd hS hN hQ
  have hjs:j<ops.size:=(Array.getElem?_eq_some_iff.1 ho).1
  have hbj:∀ k,j<k->k<ops.size->j∈AT.getD k []:=fun k hk hks=>by
   grind
  have hmemU:∀ e∈U,e∈acc/\(AT.getD j []).contains e.1=false:=fun e he=>by
   grind
  have hnd:(U.map (·.2.1)).Nodup:=by
   rw [hU]
   exact (List.filter_sublist.map _).nodup (hs.nodup hP)
  have hgA:∀ e∈U,visG g (fun m=>(AT.getD j []).contains m) acc e.2.1=none:=fun e he=>by
   rw [hs.at_mem hP (hmemU e he).1,(hmemU e he).2]
   rfl
  have hP1:PendOk P N ops AT g1 (j+1) U:=⟨fun e he=>by have:=(hs.le hP).2 e (hmemU e he).1; omega,fun e he=>(h1 e he).1,hnd,fun e he e' he' h=>hs.uniq hP (hmemU e he).1 (hmemU e' he').1 h,h2⟩
  have hge':∀ k,j<=k->Lst listed k=false:=fun k hk=>hge k (Nat.le_trans (hs.le hP).1 hk)
  rw [<- start hs hP hge] at hS
  clear hge
  revert listed a w I Fs
  induction fuel with
  | zero =>
   intro listed a w I Fs hc hsz hlt hd hS hN hQ hge
   have:=cnt_set (ops:=ops) (listed:=listed) (k:=j) hjs (hge j (Nat.le_refl _)) hsz
   omega
  | succ fuel ihf =>
   intro listed a w I Fs hc hsz hlt hd hS hN hQ hge
   have hjl:=hge j (Nat.le_refl _)
   refine ⟨fun hr=>absurd hr (ready_ex hA hsz j hjs hjl),fun k hk=>?_⟩
   obtain ⟨hkl,oo,hoo,_⟩:=ready_spec hk
   have hks:=(Array.getElem?_eq_some_iff.1 hoo).1
   have hanc:=ready_anc hA hd hk
   have hL:∀ q,Lst (listed.setIfInBounds k true) q=if q=k then true else Lst listed q:=fun q=>Lst_set (by omega)
   have hcnt:=cnt_set (ops:=ops) (listed:=listed) (k:=k) (by omega) hkl hsz
   rcases Nat.lt_trichotomy k j with hkj | rfl | hkj
   ·obtain ⟨e,hee,rfl⟩:=hs.entry hlt hkj hkl
    refine pure_step hA hs hP hpd hp0 hsz hd hS hN hee hk fun a' w' I' Fs' e1 e2 hS' hst2=>?_
    refine ihf _ a' w' I' Fs' (by omega) (by simpa using hsz) (fun m hm hne=>?_) (down_set hA hsz hd hk) hS' (e2.1.trans hN) (fun a2 w2 h2=>hQ _ _ (Next'.trans e1 e2 hst2 h2)) fun m hm=>?_
    ·grind
    grind
   ·have esp:=vis_split (A:=fun m=>(AT.getD k []).contains m) (S:=Lst listed) hs hP hU fun e he hA=>hanc e.1 (by simpa using hA)
    have hrsA:∀ r:Place,rs r->visG g (fun m=>(AT.getD k []).contains m) acc r.root≠none:=fun r hr=>by
     rw [visG_out]
     ·grind
     ·intro e he h'
      have:=hs.fresh hP e he
      grind
    have heff:=eff_vis (S:=Lst listed) he hrsA U hx (fun e he=>⟨hgA e he,h1 e he⟩) hnd
    have hle:Le (visG g (fun m=>(AT.getD k []).contains m) acc) (visG g (Lst listed) acc):=by
     intro t x hx
     rcases visG_some hx with ⟨e,he,rfl,hAe,hex⟩ | ⟨hout,hg⟩
     ·rw [hs.at_mem hP he,hanc e.1 (by simpa using hAe)]; exact hex
     grind [visG_out]
    unfold wpOp
    simp only [ho,(Wanted.mono hle hw).sound hS,if_true]
    refine .inl (heff w I a.tmps Fs (by rw [<- esp]; exact hS) a rfl hN _ _ fun a' w' hn _ _=>?_)
    obtain ⟨e1,e2,I',Fs',hS',hst2⟩:=hn
    refine ihr hP1 fuel (listed.setIfInBounds k true) a' w' I' Fs' (by omega) (by simpa using hsz) (fun m hm hne=>?_) (fun m hm=>?_) (down_set hA hsz hd hk) ?_ (e2.1.trans hN) fun a2 w2 h2=>hQ _ _ (Next'.trans e1 e2 hst2 h2)
    ·rw [hL]
     split
     ·rfl
     ·rename_i hmk
      cases hml:Lst listed m with
      | true=>rfl
      | false =>
       exfalso
       obtain ⟨e,hee,rfl⟩:=hs.entry hlt (show m<k by omega) hml
       grind
    ·grind
    ·have:visG g1 (Lst (listed.setIfInBounds k true)) U=visG g1 (Lst listed) U:=funext fun t=>visG_congr fun e he _=>by
      grind
     grind
   grind
end
end Go.Own
namespace Go.Own
open Go
set_option linter.unusedSectionVars false
variable [TB]
section
variable {P:Program}{N:Rm}
def Ev (P:Program) (N:Rm) (c:Code) (g:Gst) (e:Exit) (g':Gst):Prop :=
 ∀ ⦃Q:Exit->Act->World->Prop⦄ ⦃a:Act⦄ ⦃w:World⦄ ⦃I:BSet⦄ ⦃Fs:Nat->BSet⦄,SR w I a.tmps g Fs->a.tmps.size=N.size->(∀ a' w',Next' N a w I Fs g' a' w'->Q e a' w')->c.wp P Q a w
theorem Ev.skip {g:Gst}:Ev P N .skip g .normal g:=fun _ _ _ _ _ hS _ hQ=>wp_skip (hQ _ _ ⟨rfl,Hold.refl,_,_,hS,St.refl _ _ _⟩)
theorem Ev.ret {g:Gst}:Ev P N .ret g .ret g:=fun _ _ _ _ _ hS _ hQ=>wp_ret (hQ _ _ ⟨rfl,Hold.refl,_,_,hS,St.refl _ _ _⟩)
theorem Ev.exit {g:Gst}{id:Nat}:Ev P N (.exit id) g (.exit id) g:=fun _ _ _ _ _ hS _ hQ=>wp_exit (hQ _ _ ⟨rfl,Hold.refl,_,_,hS,St.refl _ _ _⟩)
theorem Ev.seq {x y:Code}{g g1 g':Gst}{e:Exit}(h1:Ev P N x g .normal g1) (h2:Ev P N y g1 e g'):Ev P N (.seq x y) g e g':=by
 intro Q a w I Fs hS hN hQ
 refine wp_seq (h1 hS hN fun a1 w1 hn=>?_)
 obtain ⟨e1,e2,I',Fs',hS',hst⟩:=hn
 exact h2 hS' (e2.1.trans hN) fun a2 w2 hn2=>hQ _ _ (Next'.trans e1 e2 hst hn2)
theorem Ev.cond {c:Operand}{x y:Code}{g g':Gst}{e:Exit}{b:Bool}(hc:opd g c=some (.lit (.bool b))) (h:Ev P N (if b then x else y) g e g'):Ev P N (.cond c x y) g e g':=by
 intro Q a w I Fs hS hN hQ
 exact wp_cond (t:=b) (opd_sound hS hc rfl).inv_lit.1 (h hS hN hQ)
theorem Ev.condT {c:Operand}{x y:Code}{g g':Gst}{e:Exit}(hc:opd g c=some (.lit (.bool true))) (h:Ev P N x g e g'):Ev P N (.cond c x y) g e g':=Ev.cond hc h
theorem Ev.condF {c:Operand}{x y:Code}{g g':Gst}{e:Exit}(hc:opd g c=some (.lit (.bool false))) (h:Ev P N y g e g'):Ev P N (.cond c x y) g e g':=Ev.cond hc h
theorem Ev.block {id:Nat}{c:Code}{g g':Gst}(h:Ev P N c g .normal g'):Ev P N (.block id c) g .normal g' :=
 fun _ _ _ _ _ hS hN hQ=>wp_block (h hS hN fun a1 w1 hn=>hQ a1 w1 hn)
def LoopWp (P:Program) (c:Code) (Q:Exit->Act->World->Prop) (a:Act) (w:World):Prop :=
 ∀ (b:Frame) (k:List Item) (cs:List Frame),∃ e a' w',Q e a' w'/\Arrives P (lone (b.at a (.code c::.inLoop c::k)) cs w) b k cs e a' w'
def EvL (P:Program) (N:Rm) (c:Code) (g:Gst) (e:Exit) (g':Gst):Prop :=
 ∀ ⦃Q:Exit->Act->World->Prop⦄ ⦃a:Act⦄ ⦃w:World⦄ ⦃I:BSet⦄ ⦃Fs:Nat->BSet⦄,SR w I a.tmps g Fs->a.tmps.size=N.size->(∀ a' w',Next' N a w I Fs g' a' w'->Q e a' w')->LoopWp P c Q a w
theorem loopWp_of {c:Code}{Q:Exit->Act->World->Prop}{a:Act}{w:World}(h:c.wp P (Exit.then (LoopWp P c Q) Q) a w):LoopWp P c Q a w:=by
 intro b k cs
 obtain ⟨e,a₁,w₁,hq,harr⟩:=h b (.inLoop c::k) cs
 cases e with
 | normal =>
  obtain ⟨e₂,a₂,w₂,hq₂,harr₂⟩:=hq b k cs
  exact ⟨e₂,a₂,w₂,hq₂,.of_steps (Steps.trans harr (.one step_inLoop)) harr₂⟩
 | exit id=>exact ⟨_,a₁,w₁,hq,.pass (x:=.inLoop c) rfl (fun _ _=>.inl (by simp)) harr⟩
 | goto l=>exact ⟨_,a₁,w₁,hq,.pass (x:=.inLoop c) rfl (fun _ _=>.inl (by simp)) harr⟩
 | ret=>exact ⟨_,a₁,w₁,hq,.pass (x:=.inLoop c) rfl (fun _ _=>.inl (by simp)) harr⟩
 | panic ch=>exact ⟨_,a₁,w₁,hq,.pass (x:=.inLoop c) rfl (fun _ _=>.inl (by simp)) harr⟩
 | outgrown=>exact ⟨_,a₁,w₁,hq,.pass (x:=.inLoop c) rfl (fun _ _=>.inl (by simp)) harr⟩
theorem Ev.loop {c:Code}{g g':Gst}{e:Exit}(h:EvL P N c g e g'):Ev P N (.loop c) g e g':=by
 intro Q a w I Fs hS hN hQ b k cs
 obtain ⟨e,a',w',hq,harr⟩:=h hS hN hQ b k cs
 exact ⟨e,a',w',hq,.of_steps (.one step_loop) harr⟩
theorem EvL.step {c:Code}{g g1 g':Gst}{e:Exit}(h1:Ev P N c g .normal g1) (h2:EvL P N c g1 e g'):EvL P N c g e g':=by
 intro Q a w I Fs hS hN hQ
 refine loopWp_of (h1 hS hN fun a1 w1 hn=>?_)
 obtain ⟨e1,e2,I',Fs',hS',hst⟩:=hn
 exact h2 hS' (e2.1.trans hN) fun a2 w2 hn2=>hQ _ _ (Next'.trans e1 e2 hst hn2)
theorem EvL.out {c:Code}{g g':Gst}{e:Exit}(h:Ev P N c g e g') (he:e≠.normal):EvL P N c g e g':=by
 intro Q a w I Fs hS hN hQ
 refine loopWp_of (h hS hN fun a1 w1 hn=>?_)
 cases e with
 | normal=>exact absurd rfl he
 | _=>exact hQ _ _ hn
theorem Ev.region {id:Nat}{ops:Array Oper}{g g':Gst}(h:Run P N ops (List.range ops.size) g g'):Ev P N (.region id ops false) g .normal g' :=
 fun _ _ _ _ _ hS hN hQ=>wp_region (h.sound hS hN hQ)
theorem Ev.draw {id:Nat}{ops:Array Oper}{AT:List (List Nat)}{g g':Gst}(hm:P.follows .mixedOrders=true) (hA:ancOk ops AT=true) (h:DRun P N ops AT 0 [] g g'):Ev P N (.region id ops true) g .normal g':=by
 intro Q a w I Fs hS hN hQ
 refine wp_region_any hm ?_
 have hS':SR w.drew I a.tmps g Fs:=hS.world (fun _ _ _=>rfl) (fun _ _=>rfl) (Nat.le_refl _)
 have hall:∀ k,Lst (Array.replicate ops.size false) k=false:=by
  intro k
  unfold Lst
  rcases Nat.lt_or_ge k ops.size with h | h
  ·simp [h]
  grind
 refine h.sound hA .nil ops.size (Array.replicate ops.size false) a w.drew I Fs ?_ (by simp) (fun k hk=>by omega) (fun k _=>hall k) (fun k hk=>by rw [hall] at hk; cases hk) hS' hN fun a' w' hn=>hQ _ _ ?_
 ·grind [cnt]
 ·obtain ⟨e1,e2,I',Fs',hS2,hst⟩:=hn
  exact ⟨e1,e2,I',Fs',hS2,⟨⟨hst.fr.os,hst.fr.tape,hst.fr.output,hst.fr.size,hst.fr.block,hst.fr.fz,Nat.le_trans (Nat.le_succ _) hst.fr.dr⟩,hst.more,hst.new,hst.own⟩⟩
inductive WkV:AV->AV->Prop
 | refl {x:AV}:WkV x x
 | dead {x:AV}(h:OO x\/NR x):WkV x .dead
 | nilOwn {z:Nat}:WkV .nils (.own z 0 [])
 | nilImm {z:Nat}:WkV .nils (.imm z 0 [])
 | obj {cs cs':List AV}(hl:cs'.length=cs.length) (h:∀ (k:Nat) (x y:AV),cs[k]?=some x->cs'[k]?=some y->WkV x y):WkV (.obj cs) (.obj cs')
 | own {z n:Nat}{cs cs':List AV}(hl:cs'.length=cs.length) (h:∀ (k:Nat) (x y:AV),cs[k]?=some x->cs'[k]?=some y->WkV x y):WkV (.own z n cs) (.own z n cs')
theorem WkV.ns {x y:AV}{j:Nat × Nat}(h:WkV x y) (e:y=.self j):x=.self j:=by
 cases h <;> first | exact e | cases e
theorem R.wk {w:World}{I:BSet}{ρ:AV->Value->Prop}{x x':AV}(h:WkV x x'):∀ {v:Value}{F:BSet},R w I ρ x v F->∃ F',R w I ρ x' v F'/\∀ c,F' c->F c:=by
 induction h with
 | refl=>exact fun hR=>⟨_,hR,fun _ h=>h⟩
 | dead=>exact fun hR=>⟨E0,.dead fun _ h=>h,fun _ h=>h.elim⟩
 | nilOwn =>
  intro v F hR
  rw [hR.inv_nils]
  exact ⟨E0,.own (e:=0) (us:=[]) (Fs:=fun _=>E0) ⟨by simp,.inl ⟨rfl,rfl⟩⟩ rfl (by simp) (by simp) (fun _ _ _ _ _ h=>h.elim) (fun _ _ _ h=>h.elim) fun c=>⟨fun h=>h.elim,fun h=>h.elim (fun h=>by simp [Value.ownBlock] at h) fun ⟨_,_,h⟩=>h⟩,fun _ h=>h.elim⟩
 | nilImm=>intro v F hR; rw [hR.inv_nils]; exact ⟨E0,.imm0 fun _ h=>h,fun _ h=>h.elim⟩
 | @obj cs cs' hl hwk ih =>
  intro v F hR
  cases hR with
  | ref hx=>simp [AV.isRef] at hx
  | @obj _ b e arr Fk _ ho hl' h1 hr hd hb hF hs =>
   have:∀ k,∃ Fk':BSet,k<cs.length->(∀ (x:AV) (u:Value),cs'[k]?=some x->arr[k]?=some u->R w I ρ x u Fk')/\∀ c,Fk' c->Fk k c:=by
    intro k
    by_cases hk:k<cs.length
    ·have hx:=List.getElem?_eq_getElem hk
     have hy:cs'[k]?=some (cs'[k]'(by omega)):=List.getElem?_eq_getElem (by omega)
     have hu:arr[k]?=some (arr[k]'(by omega)):=Array.getElem?_eq_getElem (by omega)
     obtain ⟨F',h1,h2⟩:=ih k _ _ hx hy (hr k _ _ hx hu)
     refine ⟨F',fun _=>⟨fun x u hx' hu'=>?_,h2⟩⟩
     rw [hy] at hx'; rw [hu] at hu'
     cases hx'; cases hu'
     exact h1
    ·exact ⟨E0,fun h=>absurd h hk⟩
   obtain ⟨Fk',hFk'⟩:=Classical.axiomOfChoice this
   refine ⟨_,.obj (Fs:=Fk') ho (by omega) h1 (fun k x u hx hu=>(hFk' k (by rw [<- hl]; exact (List.getElem?_eq_some_iff.1 hx).1)).1 x u hx hu) (fun j k c hj hk h h'=>hd j k c (by omega) (by omega) ((hFk' j (by omega)).2 c h) ((hFk' k (by omega)).2 c h')) (fun k hk h=>hb k (by omega) ((hFk' k (by omega)).2 b h)) (fun c=>Iff.rfl) (fun k j u hk=>hs k j u (ns_each hl hwk (fun _ _ _=>WkV.ns) k j hk)),fun c hc=>?_⟩
   rcases hc with rfl | ⟨k,hk,h⟩
   ·exact (hF _).2 (.inl rfl)
   ·exact (hF c).2 (.inr ⟨k,by omega,(hFk' k (by omega)).2 c h⟩)
 | @own z n cs cs' hl _ ih =>
  intro v F hR
  cases hR with
  | ref hx=>simp [AV.isRef] at hx
  | @own _ _ _ _ e us Fk _ ho hl' h1 hr hd hb hF =>
   have:∀ k,∃ Fk':BSet,k<cs.length->(∀ (x:AV) (u:Value),cs'[k]?=some x->us[k]?=some u->R w I ρ x u Fk')/\∀ c,Fk' c->Fk k c:=by
    intro k
    by_cases hk:k<cs.length
    ·have hx:=List.getElem?_eq_getElem hk
     have hy:cs'[k]?=some (cs'[k]'(by omega)):=List.getElem?_eq_getElem (by omega)
     have hu:us[k]?=some (us[k]'(by omega)):=List.getElem?_eq_getElem (by omega)
     obtain ⟨F',h1,h2⟩:=ih k _ _ hx hy (hr k _ _ hx hu)
     refine ⟨F',fun _=>⟨fun x u hx' hu'=>?_,h2⟩⟩
     rw [hy] at hx'; rw [hu] at hu'
     cases hx'; cases hu'
     exact h1
    ·exact ⟨E0,fun h=>absurd h hk⟩
   obtain ⟨Fk',hFk'⟩:=Classical.axiomOfChoice this
   refine ⟨_,.own (Fs:=Fk') ho (by omega) h1 (fun k x u hx hu=>(hFk' k (by rw [<- hl]; exact (List.getElem?_eq_some_iff.1 hx).1)).1 x u hx hu) (fun j k c hj hk h h'=>hd j k c (by omega) (by omega) ((hFk' j (by omega)).2 c h) ((hFk' k (by omega)).2 c h')) (fun k c hk h=>hb k c (by omega) ((hFk' k (by omega)).2 c h)) (fun c=>Iff.rfl),fun c hc=>?_⟩
   rcases hc with hc | ⟨k,hk,h⟩
   ·exact (hF _).2 (.inl hc)
   ·exact (hF c).2 (.inr ⟨k,by omega,(hFk' k (by omega)).2 c h⟩)
structure Wk (g1 g2:Gst):Prop where
 sub:∀ t x,g2 t=some x->∃ y,g1 t=some y/\WkV y x
 rk:∀ t x,g2 t=some x->RK g2 x
 np:∀ t z q n m new,g2 t≠some (.pend z q n m new)
theorem SR.wk {w:World}{I:BSet}{T:Array Value}{g1 g2:Gst}{Fs:Nat->BSet}(h:SR w I T g1 Fs) (hk:Wk g1 g2):∃ Fs',SR w I T g2 Fs'/\∀ t c,Fs' t c->Fs t c:=by
 have:∀ t,∃ F':BSet,(∀ x,g2 t=some x->∃ v,T[t]?=some v/\R w I (RG w T g2) x v F')/\(∀ c,F' c->Fs t c)/\(g2 t=none->∀ c,¬ F' c):=by
  intro t
  cases hx:g2 t with
  | none=>exact ⟨E0,by simp,fun _ h=>h.elim,fun _ _ h=>h⟩
  | some x =>
   obtain ⟨y,hy,hw⟩:=hk.sub t x hx
   obtain ⟨v,hv,hR⟩:=h.toC.rel t y hy
   have hnp:∀ z q n m new,y≠.pend z q n m new:=by
    rintro z q n m new rfl
    cases hw with
    | refl=>exact hk.np _ _ _ _ _ _ hx
    | dead hh=>rcases hh with hh | hh <;> cases hh
   obtain ⟨F',hR',hF'⟩:=R.wk hw (hR.isTree hnp)
   exact ⟨F',fun x' hx'=>by cases hx'; exact ⟨v,hv,hR'.rk (hk.rk t x hx)⟩,hF',by simp⟩
 obtain ⟨Fs',hFs'⟩:=Classical.axiomOfChoice this
 refine ⟨Fs',⟨fun t x hx=>?_,fun t ht=>(hFs' t).2.2 ht,fun t t' c h1 h2=>h.dis _ _ _ ((hFs' t).2.1 c h1) ((hFs' t').2.1 c h2),fun t c hc=>h.imm _ _ ((hFs' t).2.1 c hc),h.lt,fun t t' z p n m new _ _ _ _ h1=>absurd h1 (hk.np _ _ _ _ _ _),h.tb⟩,fun t=>(hFs' t).2.1⟩
 obtain ⟨v,hv,hR⟩:=(hFs' t).1 x hx
 exact ⟨v,hv,.tree hR⟩
theorem Ev.weaken {c:Code}{g g1 g':Gst}{e:Exit}(hk:Wk g g1) (h:Ev P N c g1 e g'):Ev P N c g e g':=by
 intro Q a w I Fs hS hN hQ
 obtain ⟨Fs',hS',hsub⟩:=hS.wk hk
 exact h hS' hN fun a' w' hn=>hQ _ _ (Next'.trans rfl Hold.refl ⟨Fr.refl _ _,fun _ h=>h,fun _ h=>.inl h,fun c ⟨t,hc⟩=>.inl ⟨t,hsub t c hc⟩⟩ hn)
theorem EvL.weaken {c:Code}{g g1 g':Gst}{e:Exit}(hk:Wk g g1) (h:EvL P N c g1 e g'):EvL P N c g e g':=by
 intro Q a w I Fs hS hN hQ
 obtain ⟨Fs',hS',hsub⟩:=hS.wk hk
 exact h hS' hN fun a' w' hn=>hQ _ _ (Next'.trans rfl Hold.refl ⟨Fr.refl _ _,fun _ h=>h,fun _ h=>.inl h,fun c ⟨t,hc⟩=>.inl ⟨t,hsub t c hc⟩⟩ hn)
end
end Go.Own
namespace Go.Own
open Go
set_option linter.unusedSectionVars false
variable [TB]
inductive ResV (P:Program) (g:Gst):ResultVar->AV->Prop
 | tmp {t:Nat}{y:AV}(h:opd g (.tmp t)=some y):ResV P g (.tmp t) y
 | cell {a:Nat}{t ty:TypeId}{y:AV}(h:PS1 P g (.load t (.tmp a)) ty y):ResV P g (.cell a t) y
inductive ResVs (P:Program) (g:Gst):List ResultVar->List AV->Prop
 | nil:ResVs P g [] []
 | cons {r:ResultVar}{rs:List ResultVar}{y:AV}{ys:List AV}(h:ResV P g r y) (ht:ResVs P g rs ys):ResVs P g (r::rs) (y::ys)
def resAV:List AV->AV
 | [x]=>x
 | l=>.tup l
def resV:List Value->Value
 | [x]=>x
 | l=>.tuple l.toArray
def resSem (tmps:Array Value):ResultVar->Sem Value
 | .tmp t=>pure (tmps.getD t undef)
 | .cell a t=>do loadVar t (<- asAddr (tmps.getD a undef))
section
variable {P:Program}{w:World}{I:BSet}{g:Gst}{Fs:Nat->BSet}
theorem ResV.run {a:Act}(h:SR w I a.tmps g Fs) {r:ResultVar}{y:AV}(hr:ResV P g r y):∃ v,(resSem a.tmps r).run P w=.ok v w/\R w I (RG w a.tmps g) y v E0:=by
 cases hr with
 | @tmp t y h1=>exact ⟨_,rfl,opd_sound h h1 rfl⟩
 | @cell a0 t ty y h1 =>
  obtain ⟨v, hv, hR⟩ := PS1.sound h rfl (o := { dst := none, op := .load t (.tmp a0), type := ty, pos := "", after := #[], guard := none }) h1
  refine ⟨v,?_,hR⟩
  have he:a.eval (.tmp a0)=a.tmps.getD a0 undef:=rfl
  simp only [execOp,he] at hv
  cases hc:a.tmps.getD a0 undef with
  | pointer ad =>
   cases ad with
   | some ad =>
    rw [hc] at hv
    simp only [Instr.loadAt,Instr.sureAddr] at hv
    simp only [resSem,hc,asAddr]
    have hp:(pure ad >>= fun x=>loadVar t x:Sem Value)=loadVar t ad:=by simp
    rw [hp]
    revert hv
    generalize hq:loadVar t ad=q
    intro hv
    simp [hq] at hv
    cases hqr:q.run P w with
    | ok x w2=>rw [hqr] at hv; simp at hv; rw [hv.1,hv.2]
    | halt e w2=>rw [hqr] at hv; simp at hv
   | none=>rw [hc] at hv; simp [Instr.loadAt,Instr.sureAddr] at hv
  | _=>rw [hc] at hv; simp [Instr.loadAt,Instr.sureAddr] at hv
theorem run_mapM {f:ResultVar->Sem Value}:∀ (l:List ResultVar) (vs:List Value),l.length=vs.length->(∀ (k:Nat) (r:ResultVar) (v:Value),l[k]?=some r->vs[k]?=some v->(f r).run P w=.ok v w)->(l.mapM f).run P w=.ok vs w
 | [],[],_,_=>rfl
 | r::l,v::vs,hl,h=>by
  have h0:=h 0 r v rfl rfl
  have h1:=run_mapM l vs (by simpa using hl) fun k r v hr hv=>h (k+1) r v (by simpa using hr) (by simpa using hv)
  simp [List.mapM_cons,h0,h1]
 | [],_::_,hl,_=>by simp at hl
 | _::_,[],hl,_=>by simp at hl
theorem run_results {fn:Func}{tmps:Array Value}{vs:List Value}(hl:fn.results.toList.length=vs.length) (h:∀ (k:Nat) (r:ResultVar) (v:Value),fn.results.toList[k]?=some r->vs[k]?=some v->(resSem tmps r).run P w=.ok v w):(results fn tmps).run P w=.ok (resV vs) w:=by
 have h1:=run_mapM fn.results.toList vs hl h
 have h2:fn.results.mapM (resSem tmps)=List.toArray <$> fn.results.toList.mapM (resSem tmps):=Array.mapM_eq_mapM_toList
 have h3:(fn.results.mapM (resSem tmps)).run P w=.ok vs.toArray w:=by rw [h2]; simp [h1]
 have h4:results fn tmps=(do let vs <- fn.results.mapM (resSem tmps); pure (if h:vs.size=1 then vs[0] else .tuple vs)):=by
  unfold results
  congr 1
 rw [h4]
 simp only [Sem.run_bind,h3]
 match vs with
 | []=>rfl
 | [x]=>rfl
 | x::y::l=>simp [resV]
theorem ResVs.length {g:Gst}{rs:List ResultVar}{ys:List AV}(h:ResVs P g rs ys):rs.length=ys.length:=by
 induction h with
 | nil=>rfl
 | cons _ _ ih=>simp [ih]
theorem ResVs.run {a:Act}(h:SR w I a.tmps g Fs) {rs:List ResultVar}{ys:List AV}(hr:ResVs P g rs ys):∃ vs:List Value,rs.length=vs.length/\(∀ (k:Nat) (r:ResultVar) (v:Value),rs[k]?=some r->vs[k]?=some v->(resSem a.tmps r).run P w=.ok v w) /\
  ∀ (k:Nat) (y:AV) (v:Value),ys[k]?=some y->vs[k]?=some v->R w I (RG w a.tmps g) y v E0:=by
 induction hr with
 | nil=>exact ⟨[],rfl,by simp,by simp⟩
 | cons h1 _ ih =>
  obtain ⟨v,hv,hR⟩:=h1.run h
  obtain ⟨vs,hl,h2,h3⟩:=ih
  refine ⟨v::vs,by simp [hl],fun k r u hr hu=>?_,fun k y u hy hu=>?_⟩
  ·cases k with
   | zero=>simp at hr hu; subst hr hu; exact hv
   | succ k=>exact h2 k r u (by simpa using hr) (by simpa using hu)
  ·cases k with
   | zero=>simp at hy hu; subst hy hu; exact hR
   | succ k=>exact h3 k y u (by simpa using hy) (by simpa using hu)
theorem Hand.resAV {ρ:AV->Value->Prop}{Fs:Nat->BSet}{xs:List AV}{vs:List Value}{Hs:Nat->BSet}(h:Hand w I ρ Fs xs vs Hs) (hn:∀ x∈xs,NR x) (ρ':AV->Value->Prop):R w I ρ' (resAV xs) (resV vs) (fun c=>∃ k,k<xs.length/\Hs k c)/\NR (resAV xs):=by
 have tup:R w I ρ' (.tup xs) (.tuple vs.toArray) (fun c=>∃ k,k<xs.length/\Hs k c) :=
  .tup (by simpa using h.len) (fun k x u hx hu=>(h.rel k x u hx (by simpa using hu)).nr (hn x (List.mem_of_getElem? hx))) h.dis fun c=>Iff.rfl
 match xs,vs,h,hn,tup with
 | [],[],_,_,tup=>exact ⟨tup,.tup (by simp)⟩
 | [x],[v],h,hn,_ =>
  refine ⟨((h.rel 0 x v rfl rfl).nr (hn x (by simp))).congrF fun c=>⟨fun hc=>⟨0,by simp,hc⟩,fun ⟨k,hk,hc⟩=>?_⟩,hn x (by simp)⟩
  have:k=0:=by simpa using hk
  subst this; exact hc
 | x::y::l,v::u::m,_,hn,tup=>exact ⟨tup,.tup hn⟩
 | [],_::_,h,_,_=>have:=h.len; simp at this
 | _::_,[],h,_,_=>have:=h.len; simp at this
 | [_],_::_::_,h,_,_=>have:=h.len; simp at this
 | _::_::_,[_],h,_,_=>have:=h.len; simp at this
structure Leaves (P:Program) (N:Rm) (rs:List ResultVar) (g':Gst) (n:Nat) (outs:List (Option AV)) (res:AV):Prop where
 ex:∃ ys xs g1,ResVs P g' rs ys/\Take g' ys xs g1/\res=resAV xs/\∀ (k:Nat) (x:AV),outs[k]?=some (some x)->g1 k=some x/\NR x/\k∈N.pins
 len:outs.length=n
theorem SR.more {T:Array Value}(h:SR w I T g Fs) {T':Array Value}(hT:∀ t,g t≠none->T'[t]?=T[t]?):SR w I T' g Fs:=by
 refine ⟨fun t x hx=>?_,h.non,h.dis,h.imm,h.lt,h.pok,h.tb⟩
 obtain ⟨u,hu,hR⟩:=h.rel t x hx
 exact ⟨u,by rw [hT t (by rw [hx]; simp)]; exact hu,h.frameT hT (fun _ _ _=>rfl) (fun _ _=>rfl) (fun _ h=>h) (fun _ _ h=>h) hR fun _ _=>rfl⟩
end
end Go.Own
namespace Go.Own
open Go
set_option linter.unusedSectionVars false
variable [TB]
section
variable {P:Program}{N:Rm}
def W (P:Program) (N:Rm) (c:Code) (g:Gst) (Φ:Exit->Gst->Prop):Prop :=
 ∀ ⦃Q:Exit->Act->World->Prop⦄ ⦃a:Act⦄ ⦃w:World⦄ ⦃I:BSet⦄ ⦃Fs:Nat->BSet⦄,SR w I a.tmps g Fs->a.tmps.size=N.size->(∀ e g' a' w',Φ e g'->Next' N a w I Fs g' a' w'->Q e a' w')->c.wp P Q a w
def thenP (Ψ:Gst->Prop) (Φ:Exit->Gst->Prop):Exit->Gst->Prop
 | .normal,g=>Ψ g
 | e,g=>Φ e g
def inB (id:Nat) (Φ:Exit->Gst->Prop):Exit->Gst->Prop
 | .exit k,g=>if k=id then Φ .normal g else Φ (.exit k) g
 | e,g=>Φ e g
theorem Next'.refl {a:Act}{w:World}{I:BSet}{g:Gst}{Fs:Nat->BSet}(h:SR w I a.tmps g Fs):Next' N a w I Fs g a w:=⟨rfl,Hold.refl,_,_,h,St.refl _ _ _⟩
theorem Ev.w {c:Code}{g g':Gst}{e:Exit}{Φ:Exit->Gst->Prop}(h:Ev P N c g e g') (hΦ:Φ e g'):W P N c g Φ :=
 fun _ _ _ _ _ hS hN hQ=>h hS hN fun a' w' hn=>hQ _ _ a' w' hΦ hn
theorem W.mono {c:Code}{g:Gst}{Φ Φ':Exit->Gst->Prop}(h:W P N c g Φ) (hΦ:∀ e g',Φ e g'->Φ' e g'):W P N c g Φ' :=
 fun _ _ _ _ _ hS hN hQ=>h hS hN fun _ _ a' w' h1 hn=>hQ _ _ a' w' (hΦ _ _ h1) hn
theorem W.skip {g:Gst}{Φ:Exit->Gst->Prop}(h:Φ .normal g):W P N .skip g Φ:=Ev.skip.w h
theorem W.ret {g:Gst}{Φ:Exit->Gst->Prop}(h:Φ .ret g):W P N .ret g Φ:=Ev.ret.w h
theorem W.exit {g:Gst}{id:Nat}{Φ:Exit->Gst->Prop}(h:Φ (.exit id) g):W P N (.exit id) g Φ:=Ev.exit.w h
theorem W.seq {x y:Code}{g:Gst}{Φ:Exit->Gst->Prop}(h:W P N x g (thenP (fun g1=>W P N y g1 Φ) Φ)):W P N (.seq x y) g Φ:=by
 intro Q a w I Fs hS hN hQ
 refine wp_seq (h hS hN fun e g1 a1 w1 h1 hn=>?_)
 cases e with
 | normal =>
  obtain ⟨e1,e2,I',Fs',hS',hst⟩:=hn
  exact h1 hS' (e2.1.trans hN) fun e2' g2 a2 w2 h2 hn2=>hQ _ _ _ _ h2 (Next'.trans e1 e2 hst hn2)
 | _=>exact hQ _ _ _ _ h1 hn
theorem W.cond {c:Operand}{x y:Code}{g:Gst}{Φ:Exit->Gst->Prop}{b:Bool}(hc:opd g c=some (.lit (.bool b))) (h:W P N (if b then x else y) g Φ):W P N (.cond c x y) g Φ :=
 fun _ _ _ _ _ hS hN hQ=>wp_cond (t:=b) (opd_sound hS hc rfl).inv_lit.1 (h hS hN hQ)
theorem W.condT {c:Operand}{x y:Code}{g:Gst}{Φ:Exit->Gst->Prop}(hc:opd g c=some (.lit (.bool true))) (h:W P N x g Φ):W P N (.cond c x y) g Φ:=W.cond hc h
theorem W.condF {c:Operand}{x y:Code}{g:Gst}{Φ:Exit->Gst->Prop}(hc:opd g c=some (.lit (.bool false))) (h:W P N y g Φ):W P N (.cond c x y) g Φ:=W.cond hc h
theorem W.block {id:Nat}{c:Code}{g:Gst}{Φ:Exit->Gst->Prop}(h:W P N c g (inB id Φ)):W P N (.block id c) g Φ:=by
 intro Q a w I Fs hS hN hQ
 refine wp_block (h hS hN fun e g1 a1 w1 h1 hn=>?_)
 cases e with
 | exit k =>
  have h2:if k=id then Φ .normal g1 else Φ (.exit k) g1:=h1
  grind [Exit.inBlock]
 | _=>exact hQ _ _ _ _ h1 hn
def WL (P:Program) (N:Rm) (c:Code) (g:Gst) (Φ:Exit->Gst->Prop):Prop :=
 ∀ ⦃Q:Exit->Act->World->Prop⦄ ⦃a:Act⦄ ⦃w:World⦄ ⦃I:BSet⦄ ⦃Fs:Nat->BSet⦄,SR w I a.tmps g Fs->a.tmps.size=N.size->(∀ e g' a' w',Φ e g'->Next' N a w I Fs g' a' w'->Q e a' w')->LoopWp P c Q a w
theorem W.loop {c:Code}{g:Gst}{Φ:Exit->Gst->Prop}(h:WL P N c g Φ):W P N (.loop c) g Φ:=by
 intro Q a w I Fs hS hN hQ b k cs
 obtain ⟨e,a',w',hq,harr⟩:=h hS hN hQ b k cs
 exact ⟨e,a',w',hq,.of_steps (.one step_loop) harr⟩
theorem WL.step {c:Code}{g:Gst}{Φ:Exit->Gst->Prop}(h:W P N c g (thenP (fun g1=>WL P N c g1 Φ) Φ)):WL P N c g Φ:=by
 intro Q a w I Fs hS hN hQ
 refine loopWp_of (h hS hN fun e g1 a1 w1 h1 hn=>?_)
 cases e with
 | normal =>
  obtain ⟨e1,e2,I',Fs',hS',hst⟩:=hn
  exact h1 hS' (e2.1.trans hN) fun e2' g2 a2 w2 h2 hn2=>hQ _ _ _ _ h2 (Next'.trans e1 e2 hst hn2)
 | _=>exact hQ _ _ _ _ h1 hn
theorem W.weaken {c:Code}{g g1:Gst}{Φ:Exit->Gst->Prop}(hk:Wk g g1) (h:W P N c g1 Φ):W P N c g Φ:=by
 intro Q a w I Fs hS hN hQ
 obtain ⟨Fs',hS',hsub⟩:=hS.wk hk
 exact h hS' hN fun e g' a' w' h1 hn=>hQ _ _ _ _ h1 (Next'.trans rfl Hold.refl ⟨Fr.refl _ _,fun _ h=>h,fun _ h=>.inl h,fun c ⟨t,hc⟩=>.inl ⟨t,hsub t c hc⟩⟩ hn)
theorem WL.weaken {c:Code}{g g1:Gst}{Φ:Exit->Gst->Prop}(hk:Wk g g1) (h:WL P N c g1 Φ):WL P N c g Φ:=by
 intro Q a w I Fs hS hN hQ
 obtain ⟨Fs',hS',hsub⟩:=hS.wk hk
 exact h hS' hN fun e g' a' w' h1 hn=>hQ _ _ _ _ h1 (Next'.trans rfl Hold.refl ⟨Fr.refl _ _,fun _ h=>h,fun _ h=>.inl h,fun c ⟨t,hc⟩=>.inl ⟨t,hsub t c hc⟩⟩ hn)
theorem W.out {c:Code}{g:Gst}{Φ Φ':Exit->Gst->Prop}(h:W P N c g Φ) (hΦ:∀ e g',Φ e g'->∃ g2,Wk g' g2/\Φ' e g2):W P N c g Φ':=by
 intro Q a w I Fs hS hN hQ
 refine h hS hN fun e g' a' w' h1 hn=>?_
 obtain ⟨g2,hk,h2⟩:=hΦ e g' h1
 obtain ⟨e1,e2,I',Fs',hS',hst⟩:=hn
 obtain ⟨Fs2,hS2,hsub⟩:=hS'.wk hk
 exact hQ _ _ _ _ h2 ⟨e1,e2,I',Fs2,hS2,hst.trans ⟨Fr.refl _ _,fun _ h=>h,fun _ h=>.inl h,fun c ⟨t,hc⟩=>.inl ⟨t,hsub t c hc⟩⟩⟩
def RunK (P:Program) (N:Rm) (ops:Array Oper) (is:List Nat) (g:Gst) (K:Gst->Prop):Prop:=∃ g',Run P N ops is g g'/\K g'
theorem W.region {id:Nat}{ops:Array Oper}{g:Gst}{Φ:Exit->Gst->Prop}(h:RunK P N ops (List.range ops.size) g (Φ .normal)):W P N (.region id ops false) g Φ:=by
 obtain ⟨g',hr,hΦ⟩:=h
 exact (Ev.region hr).w hΦ
theorem Con.of_w {f:FuncId}{fn:Func}{c:Code}{args:List AV}{outs:List (Option AV)}{res:AV}{N:Rm}(hf:P.funcs[f]?=some fn) (hb:fn.body=some c) (hN:fn.ntmps=N.size) (ha:args.length<=N.size)
  (hlen:outs.length=args.length) (hw:W P N c (argG args) fun e g'=>(e=.normal\/e=.ret)/\Leaves P N fn.results.toList g' args.length outs res):Con P f args outs res:=by
 refine ⟨hlen,fun w I vs Fs hvl hS=>calls_of_wp hf hb ?_⟩
 have hsz:({ tmps:=vs.toArray++Array.replicate (fn.ntmps - vs.toArray.size) undef,defers:=[] }:Act).tmps.size=N.size:=by
  simp; omega
 have hget:∀ t,t<vs.length->(vs.toArray++Array.replicate (fn.ntmps - vs.toArray.size) undef)[t]?=vs.toArray[t]?:=by
  intro t ht
  rw [Array.getElem?_append_left (by simpa using ht)]
 refine hw (hS.more (T':=vs.toArray++Array.replicate (fn.ntmps - vs.toArray.size) undef) fun t ht=>hget t ?_) hsz fun e g' a' w' ⟨he,ho⟩ hn=>?_
 ·unfold argG at ht
  rw [hvl]
  rcases Nat.lt_or_ge t args.length with h | h
  ·exact h
  ·exact absurd (List.getElem?_eq_none h) ht
 obtain ⟨hd,hold,I',Fs',hS',hst⟩:=hn
 obtain ⟨ys,xs,g1,hrv,ht,rfl,hout⟩:=ho.ex
 obtain ⟨us,hul,hrun,hRu⟩:=hrv.run hS'
 have hyl:ys.length=us.length:=by rw [<- hrv.length,hul]
 obtain ⟨Fs1,Hs,hS1,hH1,hall⟩:=ht.sound hS'.toC (⟨hyl,fun k x u hx hu=>(hRu k x u hx hu).frame (fun _ _=>rfl) (fun _ h=>h) (fun _ _ h=>h.1) fun _ _=>rfl,fun _ _ _ _ _ h=>h.elim,fun _ _ _ _ h=>h.elim,fun _ _ _ h=>h.elim⟩:Hand w' I' (RefAt w' a'.tmps) Fs' ys us fun _=>E0)
 have hsub:∀ c,AllB Fs1 xs.length Hs c->∃ t,Fs' t c:=by
  intro c hc
  rcases hall c hc with h | ⟨_,_,h⟩
  ·exact h
  ·exact h.elim
 have hfin:∃ Fs2,SR w' I' (vs++[resV us]).toArray (outG outs (resAV xs)) Fs2/\∀ t c,Fs2 t c->∃ t,Fs' t c:=by
  classical
  refine ⟨fun t=>if t=outs.length then (fun c=>∃ k,k<xs.length/\Hs k c) else if ∃ x,outs[t]?=some (some x) then Fs1 t else E0,⟨fun t x hx=>?_,fun t ht' c hc=>?_,fun t t' c h1 h2=>?_,fun t c hc=>?_,hS'.lt,fun t t' z p n m new z' n' m' new' h1 h2=>?_,hS'.tb⟩,fun t c hc=>?_⟩
  ·unfold outG at hx
   by_cases h0:t=outs.length
   ·rw [if_pos h0] at hx
    cases hx
    subst h0
    refine ⟨resV us,?_,.tree ?_⟩
    ·rw [ho.len,<- hvl]; simp
    ·simpa using (hH1.resAV ht.nrOut _).1
   ·rw [if_neg h0] at hx
    have hx':outs[t]?=some (some x):=by
     cases hh:outs[t]? with
     | none=>rw [hh] at hx; cases hx
     | some y=>rw [hh] at hx; simpa using hx
    obtain ⟨h1,h2,h3⟩:=hout t x hx'
    have htl:t<vs.length:=by
     have:=(List.getElem?_eq_some_iff.1 hx').1
     rw [hvl,<- ho.len]; exact this
    obtain ⟨v,hv,hR⟩:=hS1.rel t x h1
    refine ⟨v,?_,?_⟩
    ·rw [hold.2 t h3] at hv
     simp only at hv
     rw [hget t htl] at hv
     simp only [List.getElem?_toArray] at hv ⊢
     rw [List.getElem?_append_left htl]; exact hv
    ·simp only [h0,if_false]
     rw [if_pos ⟨x,hx'⟩]
     exact .tree ((hR.isTree (by rintro z p n m new rfl; cases h2)).nr h2)
  ·unfold outG at ht'
   by_cases h0:t=outs.length
   ·rw [if_pos h0] at ht'; cases ht'
   ·rw [if_neg h0] at ht'
    simp only [h0,if_false] at hc
    rw [if_neg] at hc
    ·exact hc
    ·rintro ⟨x,hx⟩
     rw [hx] at ht'; cases ht'
  ·by_cases h0:t=outs.length <;> by_cases h0':t'=outs.length <;> simp only [h0,h0',if_true,if_false] at h1 h2
   ·rw [h0,h0']
   ·split at h2
    ·obtain ⟨k,hk,hc⟩:=h1
     exact absurd h2 (hH1.off k t' c hk hc)
    ·exact h2.elim
   ·split at h1
    ·obtain ⟨k,hk,hc⟩:=h2
     exact absurd h1 (hH1.off k t c hk hc)
    ·exact h1.elim
   ·split at h1
    ·split at h2
     ·exact hS1.dis _ _ _ h1 h2
     ·exact h2.elim
    ·exact h1.elim
  ·by_cases h0:t=outs.length <;> simp only [h0,if_true,if_false] at hc
   ·obtain ⟨k,hk,hc⟩:=hc
    exact hH1.imm k c hk hc
   ·split at hc
    ·exact hS1.imm _ _ hc
    ·exact hc.elim
  ·have key:∀ t x,outG outs (resAV xs) t=some x->NR x:=by
    intro t x hx
    unfold outG at hx
    split at hx
    ·cases hx; exact (hH1.resAV ht.nrOut (fun _ _=>False)).2
    ·cases hh:outs[t]? with
     | none=>rw [hh] at hx; cases hx
     | some y=>rw [hh] at hx; exact (hout t x (by rw [hh]; simpa using hx)).2.1
   have:=key t _ h1
   cases this
  ·by_cases h0:t=outs.length <;> simp only [h0,if_true,if_false] at hc
   ·obtain ⟨k,hk,hc⟩:=hc
    exact hsub c (.inr ⟨k,hk,hc⟩)
   ·split at hc
    ·exact hsub c (.inl ⟨t,hc⟩)
    ·exact hc.elim
 obtain ⟨Fs2,hS2,hsub2⟩:=hfin
 have hpost:a'.defers=[]/\∃ v,(results fn a'.tmps).run P w'=.ok v w'/\∃ v' I' Fs',Ending.returned v=.returned v'/\SR w' I' (vs++[v']).toArray (outG outs (resAV xs)) Fs'/\St w I (fun c=>∃ t,Fs t c) w' I' (fun c=>∃ t,Fs' t c) :=
  ⟨hd,resV us,run_results hul hrun,resV us,I',Fs2,rfl,hS2,hst.trans ⟨Fr.refl _ _,fun _ h=>h,fun _ h=>.inl h,fun c ⟨t,hc⟩=>.inl (hsub2 t c hc)⟩⟩
 rcases he with rfl | rfl <;> exact hpost
end
end Go.Own
namespace Go.Own
open Go
set_option linter.unusedSectionVars false
variable [TB]
def get:List (Nat × AV)->Gst
 | [],_=>none
 | (s,x)::l,t=>if t=s then some x else get l t
inductive Rd (g:Gst):Operand->AV->Prop
 | lit {t:Nat}{v:Value}(h:g t=some (.lit v)):Rd g (.tmp t) (.lit v)
 | k {v:Value}(h:ofConst v=.lit v):Rd g (.const v) (.lit v)
 | knil:Rd g (.const (.slice none 0 0)) .nils
 | kagg {v:Value}{cs:List AV}(h:ofConst v=.agg cs):Rd g (.const v) (.agg cs)
 | nils {t:Nat}(h:g t=some .nils):Rd g (.tmp t) .nils
 | imm {t z n:Nat}{cs:List AV}(h:g t=some (.imm z n cs)):Rd g (.tmp t) (.imm z n cs)
 | own {t z n:Nat}{cs:List AV}(h:g t=some (.own z n cs)):Rd g (.tmp t) (.brw z ⟨t,[]⟩ n)
 | obj {t:Nat}{c:AV}{cs:List AV}(h:g t=some (.obj (c::cs))):Rd g (.tmp t) (.ptr ⟨t,[]⟩ 0)
 | iptr {t:Nat}{cs:List AV}(h:g t=some (.iptr cs)):Rd g (.tmp t) (.iptr cs)
 | ptr {t k:Nat}{p:Place}(h:g t=some (.ptr p k)):Rd g (.tmp t) (.ptr p k)
 | brw {t z n:Nat}{p:Place}(h:g t=some (.brw z p n)):Rd g (.tmp t) (.brw z p n)
 | sub {t z lo n:Nat}{p:Place}(h:g t=some (.sub z p lo n)):Rd g (.tmp t) (.sub z p lo n)
 | pend {t z n m:Nat}{p:Place}{new:List AV}(h:g t=some (.pend z p n m new)):Rd g (.tmp t) (.brw z ⟨t,[]⟩ (n+m))
 | agg {t:Nat}{cs cs':List AV}(h:g t=some (.agg cs)) (hc:(cs.mapIdx fun i x=>refIn 1 (Place.push ⟨t,[]⟩ i) x)=cs'):Rd g (.tmp t) (.agg cs')
 | tup {t:Nat}{cs cs':List AV}(h:g t=some (.tup cs)) (hc:(cs.mapIdx fun i x=>refIn 1 (Place.push ⟨t,[]⟩ i) x)=cs'):Rd g (.tmp t) (.tup cs')
 | func {f:FuncId}:Rd g (.func f) (.clo (.func f) [] [])
 | clo {t:Nat}{fn:Fn}{cs:List AV}(h:g t=some (.clo fn [] cs)):Rd g (.tmp t) (.clo fn [] cs)
 | mp {t:Nat}{q:Array MapEntry->Nat->Prop}(h:g t=some (.mp q)):Rd g (.tmp t) (.mref ⟨t,[]⟩)
 | mref {t:Nat}{p:Place}(h:g t=some (.mref p)):Rd g (.tmp t) (.mref p)
 | imp {t:Nat}{q:Array MapEntry->Nat->Prop}(h:g t=some (.imp q)):Rd g (.tmp t) (.imp q)
theorem Rd.opd {g:Gst}{x:Operand}{y:AV}(h:Rd g x y):opd g x=some y:=by
 cases h with
 | agg h hc=>subst hc; simp [Own.opd,h,refTop,refIn]
 | tup h hc=>subst hc; simp [Own.opd,h,refTop,refIn]
 | k h=>simp [Own.opd,h]
 | knil=>rfl
 | kagg h=>simp [Own.opd,h]
 | func=>rfl
 | _ h=>simp [Own.opd,h,refTop,refIn]
section
variable {P:Program}{N:Rm}{ops:Array Oper}{g:Gst}{K:Gst->Prop}{l:List Oper}
def RunL (P:Program) (N:Rm) (ops:Array Oper) (l:List Oper) (g:Gst) (K:Gst->Prop):Prop:=∀ i,ops.toList.drop i=l->RunK P N ops (List.range' i l.length) g K
theorem W.reg {id:Nat}{l:List Oper}{g:Gst}{Φ:Exit->Gst->Prop}(h:RunL P N l.toArray l g (Φ .normal)):W P N (.region id l.toArray false) g Φ:=by
 refine W.region ?_
 have:=h 0 (by simp)
 grind [List.range_eq_range']
theorem RunL.nil (h:K g):RunL P N ops [] g K:=fun _ _=>⟨g,.nil,h⟩
theorem drop_cons {i:Nat}{o:Oper}(h:ops.toList.drop i=o::l):ops[i]?=some o/\ops.toList.drop (i+1)=l:=by
 have h1:(ops.toList.drop i)[0]?=some o:=by rw [h]; rfl
 rw [List.getElem?_drop] at h1
 refine ⟨by simpa using h1,?_⟩
 rw [<- List.drop_drop,h]
 rfl
variable {d:Nat}{op:Op}{ty:TypeId}{pos:String}{after:Array Edge}{x:AV}
theorem RunL.stepS {r:Option AV}{o:Oper}(hd:o.dst=some d) (hN:N.ok d=true) (hf:g d=none) (hs:StepOk P g ops o r) (hk:RunL P N ops l (putR g d r) K):RunL P N ops (o::l) g K:=by
 intro i hi
 obtain ⟨h1,h2⟩:=drop_cons hi
 obtain ⟨g',hr,hK⟩:=hk (i+1) h2
 exact ⟨g',.step h1 hd hf hN hs hr,hK⟩
inductive Free (g:Gst) (d:Nat):Gst->Prop
 | new (h:g d=none):Free g d g
 | old {y:AV}(h:g d=some y) (hl:leaf y=true):Free g d (del g d)
inductive Gd (g:Gst) (ops:Array Oper):Option (Nat × Bool)->Prop
 | none:Gd g ops none
 | yes {j t:Nat}{b:Bool}(h:(ops[j]?).bind (·.dst)=some t) (hg:g t=some (.lit (.bool b))):Gd g ops (some (j,b))
variable {gd:Option (Nat × Bool)}{g1:Gst}
theorem Gd.del {y:AV}(h:Gd g ops gd) (hd:g d=some y) (hb:∀ b,y≠.lit (.bool b)):Wanted (del g d) ops ⟨some d,op,ty,pos,after,gd⟩ true:=by
 cases h with
 | none=>rfl
 | @yes j t b h hg =>
  have:t≠d:=by
   grind
  exact ⟨t,h,.inl ⟨b,by simp only [Own.del,if_neg this,hg],by simp⟩⟩
theorem Gd.wanted (h:Gd g ops gd):Wanted g ops ⟨some d,op,ty,pos,after,gd⟩ true:=by
 cases h with
 | none=>rfl
 | @yes j t b h hg=>exact ⟨t,h,.inl ⟨b,hg,by simp⟩⟩
theorem RunL.valQ (hp:PS P g op ty x) (hN:N.ok d=true) (hf:g d=none) (hw:Wanted g ops ⟨some d,op,ty,pos,after,gd⟩ true) (hk:RunL P N ops l (upd g d x) K):RunL P N ops (⟨some d,op,ty,pos,after,gd⟩::l) g K :=
 .stepS rfl hN hf (r:=some x) (.inl ⟨hw,.inl hp⟩) hk
theorem upd_del:upd (del g d) d x=upd g d x:=by
 grind [upd,del]
theorem RunL.val (hp:PS1 P g op ty x) (hN:N.ok d=true) (hf:g d=none) (hg:Gd g ops gd) (hk:RunL P N ops l (upd g d x) K):RunL P N ops (⟨some d,op,ty,pos,after,gd⟩::l) g K :=
 .valQ (.p1 hp) hN hf hg.wanted hk
theorem RunL.over {y:AV}(hp:PS1 P (del g d) op ty x) (hN:N.ok d=true) (hf:g d=some y) (hl:leaf y=true) (hk:RunL P N ops l (upd g d x) K):RunL P N ops (⟨some d,op,ty,pos,after,none⟩::l) g K:=by
 intro i hi
 obtain ⟨g',hr,hK⟩:=RunL.valQ (pos:=pos) (after:=after) (gd:=Option.none) (.p1 hp) hN (by simp [del]) (Gd.wanted .none) (by rw [upd_del]; exact hk) i hi
 exact ⟨g',.drop hf hl hr,hK⟩
theorem RunL.valP (hp:PS P g op ty x) (hN:N.ok d=true) (hf:g d=none) (hg:Gd g ops gd) (hk:RunL P N ops l (upd g d x) K):RunL P N ops (⟨some d,op,ty,pos,after,gd⟩::l) g K :=
 .valQ hp hN hf hg.wanted hk
theorem RunL.call (hp:PC P g op x) (hN:N.ok d=true) (hf:g d=none) (hg:Gd g ops gd) (hk:RunL P N ops l (upd g d x) K):RunL P N ops (⟨some d,op,ty,pos,after,gd⟩::l) g K :=
 .stepS rfl hN hf (r:=some x) (.inl ⟨hg.wanted,.inr hp⟩) hk
theorem RunL.pass {j t':Nat}{b:Bool}(h:(ops[j]?).bind (·.dst)=some t') (hg:g t'=some (.lit (.bool (!b)))) (hN:N.ok d=true) (hf:g d=none) (hk:RunL P N ops l g K):RunL P N ops (⟨some d,op,ty,pos,after,some (j,b)⟩::l) g K :=
 .stepS rfl hN hf (r:=Option.none) ⟨t',h,.inl ⟨!b,hg,by cases b <;> rfl⟩⟩ hk
variable {ds:Option Nat}
theorem RunL.forget {g1:Gst}(hk:Keep g g1) (h:RunL P N ops l g1 K):RunL P N ops l g K:=by
 intro i hi
 obtain ⟨g',hr,hK⟩:=h i hi
 exact ⟨g',.forget hk hr,hK⟩
variable {a b:Operand}{t t2:TypeId}{k:IntKind}{m n:Int}
theorem PS1.add (hx:Rd g a (.lit (.int k m))) (hy:Rd g b (.lit (.int k n))):PS1 P g (.binOp .add t a b t2) ty (.lit (.int k (k.wrap (m+n)))) :=
 .bin hx.opd hy.opd rfl fun w=>by simp [eqGuard,binOp,Op.intArith]
theorem PS1.subt (hx:Rd g a (.lit (.int k m))) (hy:Rd g b (.lit (.int k n))):PS1 P g (.binOp .sub t a b t2) ty (.lit (.int k (k.wrap (m - n)))) :=
 .bin hx.opd hy.opd rfl fun w=>by simp [eqGuard,binOp,Op.intArith]
theorem PS1.mul (hx:Rd g a (.lit (.int k m))) (hy:Rd g b (.lit (.int k n))):PS1 P g (.binOp .mul t a b t2) ty (.lit (.int k (k.wrap (m * n)))) :=
 .bin hx.opd hy.opd rfl fun w=>by simp [eqGuard,binOp,Op.intArith]
theorem PS1.quo (hx:Rd g a (.lit (.int k m))) (hy:Rd g b (.lit (.int k n))) (h:n≠0):PS1 P g (.binOp .quo t a b t2) ty (.lit (.int k (k.wrap (m.tdiv n)))) :=
 .bin hx.opd hy.opd rfl fun w=>by simp [eqGuard,binOp,Op.intDiv,h]
theorem PS1.rem (hx:Rd g a (.lit (.int k m))) (hy:Rd g b (.lit (.int k n))) (h:n≠0):PS1 P g (.binOp .rem t a b t2) ty (.lit (.int k (m.tmod n))) :=
 .bin hx.opd hy.opd rfl fun w=>by simp [eqGuard,binOp,Op.intDiv,h]
theorem PS1.cat {s u:ByteArray}(hx:Rd g a (.lit (.string s))) (hy:Rd g b (.lit (.string u))) (h:s.size+u.size<=9223372036854775807):PS1 P g (.binOp .add t a b t2) ty (.lit (.string (s++u))) :=
 .bin hx.opd hy.opd rfl fun w=>by
  have:¬ ((s.size+u.size:Nat):Int) > IntKind.i64.max:=by
   have:IntKind.i64.max=9223372036854775807:=by decide
   omega
  simp only [eqGuard,binOp,Op.stringOp,if_neg this]
  simp
theorem bytes_ext {s u:ByteArray}(h:s.toList=u.toList):s=u:=by
 have h1:s.data.toList=u.data.toList:=by
  grind [ByteArray.toList_eq]
 cases s
 simp_all
theorem PS1.eqS {s u:ByteArray}(hx:Rd g a (.lit (.string s))) (hy:Rd g b (.lit (.string u))) {c:Bool}(hc:c=true↔s=u):PS1 P g (.binOp .eql t a b t2) ty (.lit (.bool c)) :=
 .bin hx.opd hy.opd rfl fun w=>by
  have:(s.toList == u.toList)=c:=by
   rw [Bool.eq_iff_iff,hc]
   simp only [beq_iff_eq]
   exact ⟨bytes_ext,fun h=>by rw [h]⟩
  simp [eqGuard,binOp,Op.stringOp,this]
theorem PS1.neS {s u:ByteArray}(hx:Rd g a (.lit (.string s))) (hy:Rd g b (.lit (.string u))) {c:Bool}(hc:c=true↔s≠u):PS1 P g (.binOp .neq t a b t2) ty (.lit (.bool c)) :=
 .bin hx.opd hy.opd rfl fun w=>by
  have:(s.toList == u.toList)=!c:=by
   rw [Bool.eq_iff_iff]
   simp only [beq_iff_eq,Bool.not_eq_true']
   cases c with
   | true=>simp only [true_iff] at hc; simp only [Bool.true_eq_false,iff_false]; exact fun h=>hc (bytes_ext h)
   | false =>
    simp only [Bool.false_eq_true,false_iff,Decidable.not_not] at hc
    simp [hc]
  simp [eqGuard,binOp,Op.stringOp,this]
theorem PS1.lss (hx:Rd g a (.lit (.int k m))) (hy:Rd g b (.lit (.int k n))) {c:Bool}(hc:c=true↔m<n):PS1 P g (.binOp .lss t a b t2) ty (.lit (.bool c)) :=
 .bin hx.opd hy.opd rfl fun w=>by
  have:decide (m<n)=c:=by rw [Bool.eq_iff_iff,hc]; simp
  simp [eqGuard,binOp,Op.intCmp,this]
theorem PS1.leq (hx:Rd g a (.lit (.int k m))) (hy:Rd g b (.lit (.int k n))) {c:Bool}(hc:c=true↔m<=n):PS1 P g (.binOp .leq t a b t2) ty (.lit (.bool c)) :=
 .bin hx.opd hy.opd rfl fun w=>by
  have:decide (m<=n)=c:=by rw [Bool.eq_iff_iff,hc]; simp
  simp [eqGuard,binOp,Op.intCmp,this]
theorem PS1.gtr (hx:Rd g a (.lit (.int k m))) (hy:Rd g b (.lit (.int k n))) {c:Bool}(hc:c=true↔n<m):PS1 P g (.binOp .gtr t a b t2) ty (.lit (.bool c)) :=
 .bin hx.opd hy.opd rfl fun w=>by
  have:decide (n<m)=c:=by rw [Bool.eq_iff_iff,hc]; simp
  simp [eqGuard,binOp,Op.intCmp,this]
theorem PS1.geq (hx:Rd g a (.lit (.int k m))) (hy:Rd g b (.lit (.int k n))) {c:Bool}(hc:c=true↔n<=m):PS1 P g (.binOp .geq t a b t2) ty (.lit (.bool c)) :=
 .bin hx.opd hy.opd rfl fun w=>by
  have:decide (n<=m)=c:=by rw [Bool.eq_iff_iff,hc]; simp
  simp [eqGuard,binOp,Op.intCmp,this]
theorem PS1.eql (hx:Rd g a (.lit (.int k m))) (hy:Rd g b (.lit (.int k n))) {c:Bool}(hc:c=true↔m=n):PS1 P g (.binOp .eql t a b t2) ty (.lit (.bool c)) :=
 .bin hx.opd hy.opd rfl fun w=>by
  have:(m == n)=c:=by rw [Bool.eq_iff_iff,hc]; simp
  simp [eqGuard,binOp,Op.intCmp,this]
theorem PS1.neq (hx:Rd g a (.lit (.int k m))) (hy:Rd g b (.lit (.int k n))) {c:Bool}(hc:c=true↔m≠n):PS1 P g (.binOp .neq t a b t2) ty (.lit (.bool c)) :=
 .bin hx.opd hy.opd rfl fun w=>by
  have:(m != n)=c:=by rw [Bool.eq_iff_iff,hc]; simp
  simp [eqGuard,binOp,Op.intCmp,this]
theorem PS1.not {c:Bool}(hx:Rd g a (.lit (.bool c))):PS1 P g (.unOp .not t a) ty (.lit (.bool (!c))) :=
 .un hx.opd rfl fun w=>by simp [Op.unary]
theorem PS1.pickT {c a b:Operand}{y:AV}(hc:Rd g c (.lit (.bool true))) (hr:Rd g a y):PS1 P g (.pick c a b) ty y:=.pick hc.opd hr.opd
theorem PS1.pickF {c a b:Operand}{y:AV}(hc:Rd g c (.lit (.bool false))) (hr:Rd g b y):PS1 P g (.pick c a b) ty y:=.pick hc.opd hr.opd
theorem PS1.lenS {s:ByteArray}(hx:Rd g a (.lit (.string s))) (ht:strT P t=true):PS1 P g (.call { callee:=.builtin .len,args:=#[a],argTypes:=#[t] }) ty (.lit (.int .i64 s.size)) :=
 .lits (vs:=[.string s]) (by simp [hx.opd]) rfl fun w cs=>by
  simp [builtin,Builtin.len_,run_underlying (strT_spec ht),goInt]
section
variable {Ψ:Gst->Prop}{Φ:Exit->Gst->Prop}{id k:Nat}
theorem thenN (h:Ψ g):thenP Ψ Φ .normal g:=h
theorem thenR (h:Φ .ret g):thenP Ψ Φ .ret g:=h
theorem thenE (h:Φ (.exit k) g):thenP Ψ Φ (.exit k) g:=h
theorem inBN (h:Φ .normal g):inB id Φ .normal g:=h
theorem inBR (h:Φ .ret g):inB id Φ .ret g:=h
theorem inBH (h:Φ .normal g):inB id Φ (.exit id) g:=by
 show if id=id then Φ .normal g else Φ (.exit id) g
 grind
theorem inBM (hk:Nat.beq k id=false) (h:Φ (.exit k) g):inB id Φ (.exit k) g:=by
 show if k=id then Φ .normal g else Φ (.exit k) g
 grind [Nat.ne_of_beq_eq_false]
end
def Fin (P:Program) (N:Rm) (rs:List ResultVar) (n:Nat) (outs:List (Option AV)) (res:AV) (e:Exit) (g':Gst):Prop:=(e=.normal\/e=.ret)/\Leaves P N rs g' n outs res
theorem Con.fin {f:FuncId}{fn:Func}{c:Code}{args:List AV}{outs:List (Option AV)}{res:AV}{N:Rm}(hf:P.funcs[f]?=some fn) (hb:fn.body=some c) (hN:fn.ntmps=N.size) (ha:Nat.ble args.length N.size=true) (hlen:outs.length=args.length)
  (hw:W P N c (argG args) (Fin P N fn.results.toList args.length outs res)):Con P f args outs res:=.of_w hf hb hN (Nat.le_of_ble_eq_true ha) hlen hw
def noneB (outs:List (Option AV)):Bool:=outs.all fun x=>x.isNone
theorem noneB_spec {outs:List (Option AV)}(h:noneB outs=true) (k:Nat) (x:AV):outs[k]?≠some (some x):=by
 intro e
 have:=List.all_eq_true.1 h _ (List.mem_of_getElem? e)
 grind
theorem Fin.one {t:Nat}{y res:AV}{outs:List (Option AV)}{n:Nat}(hy:Rd g (.tmp t) y) (hn:NR y) (ho:noneB outs=true) (hl:outs.length=n) (he:y=res):Fin P N [.tmp t] n outs res .ret g :=
 ⟨.inr rfl,⟨[y],[y],g,.cons (.tmp hy.opd) .nil,.nr (by simpa using hn),he.symm,fun k x hk=>absurd hk (noneB_spec ho k x)⟩,hl⟩
inductive Rds (g:Gst):List ResultVar->List AV->Prop
 | nil:Rds g [] []
 | cons {t:Nat}{y:AV}{rs:List ResultVar}{ys:List AV}(h:Rd g (.tmp t) y) (hn:NR y) (ht:Rds g rs ys):Rds g (.tmp t::rs) (y::ys)
theorem Rds.spec {rs:List ResultVar}{ys:List AV}(h:Rds g rs ys):ResVs P g rs ys/\∀ y∈ys,NR y:=by
 induction h with
 | nil=>exact ⟨.nil,by simp⟩
 | cons h hn _ ih=>exact ⟨.cons (.tmp h.opd) ih.1,nr_cons hn ih.2⟩
inductive Opds (g:Gst):List Operand->List AV->Prop
 | nil:Opds g [] []
 | cons {x:Operand}{y:AV}{xs:List Operand}{ys:List AV}(h:Rd g x y) (hn:NR y) (ht:Opds g xs ys):Opds g (x::xs) (y::ys)
theorem Opds.spec {xs:List Operand}{ys:List AV}(h:Opds g xs ys):opds g xs=some ys/\∀ y∈ys,NR y:=by
 induction h with
 | nil=>exact ⟨rfl,by simp⟩
 | cons h hn _ ih=>exact ⟨by simp only [opds,h.opd,ih.1],nr_cons hn ih.2⟩
theorem PC.easy {xs:List Operand}{tys:Array TypeId}{f:FuncId}{ys:List AV}{outs:List (Option AV)}{res:AV}(hcon:Con P f ys outs res) (hf:callT P f=true) (hx:Opds g xs ys) (ho:noneB outs=true) (hr:NR res) :
  PC P g (.call { callee:=.value (.func f),args:=xs.toArray,argTypes:=tys }) res:=by
 have hout:outs=ys.map fun _=>Option.none:=by
  apply List.ext_getElem?
  intro k
  rw [List.getElem?_map]
  cases hy:ys[k]? with
  | none=>rw [List.getElem?_eq_none (by rw [hcon.1]; exact List.getElem?_eq_none_iff.1 hy)]; rfl
  | some y =>
   have hk:k<outs.length:=by rw [hcon.1]; exact (List.getElem?_eq_some_iff.1 hy).1
   have h1:=List.getElem?_eq_getElem hk
   rw [h1]
   cases h2:outs[k] with
   | none=>rfl
   | some x=>rw [h2] at h1; exact absurd h1 (noneB_spec ho k x)
 exact .plain (first:=[]) (caps:=[]) (ys:=ys) rfl (by simpa using hx.spec.1) hf (by simpa using hx.spec.2) (by simpa [<- hout] using hcon) hr
end
end Go.Own
namespace Go.Own
open Go
set_option linter.unusedSectionVars false
variable [TB]
def byteAt (s:ByteArray) (m:Int):Int:=((s[m.toNat]?.getD 0).toNat:Nat)
def cutS (s:ByteArray) (m n:Int):ByteArray:=s.extract m.toNat n.toNat
section
variable {P:Program}{N:Rm}{ops:Array Oper}{g:Gst}{K:Gst->Prop}{l:List Oper}
variable {d:Nat}{op:Op}{ty:TypeId}{pos:String}{after:Array Edge}{x:AV}{a b:Operand}{t t2:TypeId}{k:IntKind}{m n:Int}{gd:Option (Nat × Bool)}
theorem PS1.atI {s:ByteArray}{i:Operand}(hx:Rd g a (.lit (.string s))) (hi:Rd g i (.lit (.int k m))) (ht:strT P t=true) (h:0<=m/\m<s.size):PS1 P g (.index t a i) ty (.lit (.int .u8 (byteAt s m))):=by
 obtain ⟨j,rfl⟩:=Int.eq_ofNat_of_zero_le h.1
 have hj:j<s.size:=by omega
 have hb:s[j]?=some s[j]:=getElem?_pos s j hj
 have:byteAt s (j:Int)=(s[j].toNat:Nat):=by simp [byteAt,hb]
 rw [this]
 exact .idxStr hx.opd hi.opd ht hb
theorem PS1.slS {s:ByteArray}{lo hi:Operand}{k2:IntKind}(hx:Rd g a (.lit (.string s))) (hl:Rd g lo (.lit (.int k m))) (hh:Rd g hi (.lit (.int k2 n))) (ht:strT P t=true) (h:0<=m/\m<=n/\n<=s.size) :
  PS1 P g (.slice t a (some lo) (some hi) none) ty (.lit (.string (cutS s m n))):=by
 obtain ⟨i,rfl⟩:=Int.eq_ofNat_of_zero_le h.1
 obtain ⟨j,rfl⟩:=Int.eq_ofNat_of_zero_le (show 0<=n by omega)
 exact .sliceStr hx.opd ⟨_,hl.opd⟩ ⟨_,hh.opd⟩ ht (by omega) (by omega)
theorem PS1.slS0 {s:ByteArray}{hi:Operand}{k2:IntKind}(hx:Rd g a (.lit (.string s))) (hh:Rd g hi (.lit (.int k2 n))) (ht:strT P t=true) (h:0<=n/\n<=s.size) :
  PS1 P g (.slice t a none (some hi) none) ty (.lit (.string (cutS s 0 n))):=by
 obtain ⟨j,rfl⟩:=Int.eq_ofNat_of_zero_le h.1
 exact .sliceStr (l:=0) hx.opd rfl ⟨_,hh.opd⟩ ht (by omega) (by omega)
theorem PS1.slS1 {s:ByteArray}{lo:Operand}(hx:Rd g a (.lit (.string s))) (hl:Rd g lo (.lit (.int k m))) (ht:strT P t=true) (h:0<=m/\m<=s.size) :
  PS1 P g (.slice t a (some lo) none none) ty (.lit (.string (cutS s m s.size))):=by
 obtain ⟨j,rfl⟩:=Int.eq_ofNat_of_zero_le h.1
 exact .sliceStr (h:=s.size) hx.opd ⟨_,hl.opd⟩ rfl ht (by omega) (by omega)
theorem PS1.bytes {z p N':Nat}{cs:List AV}{xs:List Int}(hx:g p=some (.own 1 N' cs)) (hcs:cs=xs.map fun b=>.lit (.int .u8 b)) (hl:cs.length=N') (ht:bytT P t t2=true) (_hz:z=0):PS1 P g (.convert t t2 (.tmp p)) ty (.lit (.string (strOfNums xs))) :=
 .convB (p:=⟨p,[]⟩) (n:=N') (N:=N') (cs:=cs) (by simp [opd,hx,refTop,refIn]) (by simp [atP,hx,AV.at]) (Nat.le_refl _) (by rw [List.take_of_length_le (by omega)]; exact hcs) ht
def zeroT (P:Program) (e:TypeId) (z:Nat):Bool :=
 match (P.info? e).bind (·.zero) with
 | some v=>v.cells.size == z
 | none=>false
theorem zeroT_spec {e:TypeId}{z:Nat}(h:zeroT P e z=true):∃ v,(P.info? e).bind (·.zero)=some v/\v.cells.size=z:=by
 grind [zeroT]
inductive Lits (g:Gst):List Operand->List Value->Prop
 | nil:Lits g [] []
 | cons {x:Operand}{v:Value}{xs:List Operand}{vs:List Value}(h:Rd g x (.lit v)) (ht:Lits g xs vs):Lits g (x::xs) (v::vs)
theorem Lits.opds {xs:List Operand}{vs:List Value}(h:Lits g xs vs):opds g xs=some (vs.map .lit):=by
 induction h with
 | nil=>rfl
 | cons h _ ih=>simp only [Own.opds,h.opd,ih]; rfl
theorem Lits.map {xs:List Operand}{vs:List Value}(h:Lits g xs vs):xs.map (opd g)=vs.map fun v=>some (.lit v):=by
 induction h with
 | nil=>rfl
 | cons h _ ih=>simp only [List.map_cons,h.opd,ih]
theorem PS.row {e:TypeId}{xs:List Operand}{vs:List Value}{parts:Array (Nat × Operand)}{nn:Nat}(hx:Lits g xs vs) (hp:parts.toList=xs.mapIdx (fun i x=>(i,x))) (hn:xs.length=nn) (ht:slT P t e 1=true) (hz:zeroT P e 1=true) (hb:Nat.ble nn 1000=true) :
  PS P g (.buildSlice t nn parts) ty (.own 1 nn (vs.map .lit)):=by
 subst hn
 have hb':=Nat.le_of_ble_eq_true hb
 refine .p2 (.buildSlice ht hp hx.opds (fun y hy=>?_) ?_ (by omega) (by omega) (.inr (zeroT_spec hz)))
 ·obtain ⟨v,_,rfl⟩:=List.mem_map.1 hy
  exact ⟨[.lit v],rfl,rfl⟩
 ·generalize vs=l
  induction l with
  | nil=>rfl
  | cons v l ih=>simp only [List.map_cons,boxAll,boxCells,ih]; rfl
inductive Pick (g:Gst):List Nat->List (Nat × AV)->Prop
 | nil:Pick g [] []
 | some {s:Nat}{x:AV}{ss:List Nat}{l:List (Nat × AV)}(h:g s=some x) (hn:NR x) (ht:Pick g ss l):Pick g (s::ss) ((s,x)::l)
 | none {s:Nat}{ss:List Nat}{l:List (Nat × AV)}(ht:Pick g ss l):Pick g (s::ss) l
theorem Pick.spec {g:Gst}{ss:List Nat}{l:List (Nat × AV)}(h:Pick g ss l):∀ t x,get l t=Option.some x->g t=Option.some x/\NR x:=by
 induction h with
 | nil=>intro t x hx; cases hx
 | @some s y ss l h hn _ ih =>
  grind [get]
 | none _ ih=>exact ih
theorem Pick.wk {g:Gst}{ss:List Nat}{l:List (Nat × AV)}(h:Pick g ss l):Wk g (get l) :=
 ⟨fun t x hx=>⟨x,(h.spec t x hx).1,.refl⟩,fun t x hx=>.nr (h.spec t x hx).2,fun t z q n m new hx=>by have:=(h.spec t _ hx).2; cases this⟩
end
end Go.Own
namespace Go.Own
open Go
set_option linter.unusedSectionVars false
variable [TB]
def Sz (s:ByteArray) (n:Nat):Prop:=s.size<=n
theorem Sz.app {s u:ByteArray}{a b:Nat}(h:Sz s a) (h':Sz u b):Sz (s++u) (a+b):=by
 unfold Sz at *
 rw [ByteArray.size_append]; omega
theorem Sz.const {xs:Array UInt8}:Sz ⟨xs⟩ xs.size:=Nat.le_refl _
theorem Sz.self {s:ByteArray}:Sz s s.size:=Nat.le_refl _
section
variable {P:Program}{g:Gst}{ty:TypeId}{a b:Operand}{t t2:TypeId}{N:Rm}{ops:Array Oper}{K:Gst->Prop}{l:List Oper}{d:Nat}{pos:String}{after:Array Edge}{gd:Option (Nat × Bool)}
theorem W.condS {c:Operand}{x y:Code}{Φ:Exit->Gst->Prop}{b:Bool}(hc:Rd g c (.lit (.bool b))) (hT:b=true->W P N x g Φ) (hF:b=false->W P N y g Φ):W P N (.cond c x y) g Φ:=by
 cases b with
 | true=>exact .condT hc.opd (hT rfl)
 | false=>exact .condF hc.opd (hF rfl)
theorem run_eqB {c e:Bool}(ht:P.underlying t=some .bool) (w:World):(do eqGuard .eql t a b (.bool c) (.bool e); binOp .eql t (.bool c) (.bool e):Sem Value).run P w=.ok (.bool (c == e)) w:=by
 have h:=run_equal_bool w t c e ht
 simp [eqGuard,binOp,h]
def boolT (P:Program) (t:TypeId):Bool :=
 match P.underlying t with
 | some .bool=>true
 | _=>false
theorem boolT_spec (h:boolT P t=true):P.underlying t=some .bool:=by
 unfold boolT at h
 split at h
 ·assumption
 ·cases h
def intT (P:Program) (t:TypeId) (k:IntKind):Bool :=
 match P.underlying t with
 | some (.int k')=>k' == k
 | _=>false
theorem intT_spec {k:IntKind}(h:intT P t k=true):P.underlying t=some (.int k):=by
 unfold intT at h
 split at h
 ·rename_i k' hk; rw [hk]; have:k'=k:=by simpa using h
  rw [this]
 ·cases h
theorem PS1.convII {k k':IntKind}{m:Int}(hx:Rd g a (.lit (.int k m))) (hs:intT P t k=true) (hd:intT P t2 k'=true):PS1 P g (.convert t t2 a) ty (.lit (.int k' (k'.wrap m))) :=
 .conv hx.opd rfl fun w=>by simp [convert,run_underlying (intT_spec hs),run_underlying (intT_spec hd),Conv.intToInt]
inductive Bytes (g:Gst):List Operand->List Int->Prop
 | nil:Bytes g [] []
 | cons {x:Operand}{v:Int}{xs:List Operand}{vs:List Int}(h:Rd g x (.lit (.int .u8 v))) (ht:Bytes g xs vs):Bytes g (x::xs) (v::vs)
theorem Bytes.lits {xs:List Operand}{vs:List Int}(h:Bytes g xs vs):Lits g xs (vs.map fun b=>.int .u8 b):=by
 induction h with
 | nil=>exact .nil
 | cons h _ ih=>exact .cons h ih
end
end Go.Own
namespace Go.Own
open Go Go.RowKit
set_option linter.unusedSectionVars false
variable [TB]
theorem SR.lits {w:World}(vs:List Value) (h:∀ v∈vs,v.oneCell'=true) (htb:TB.q w fun _=>False):SR w (fun _=>False) vs.toArray (argG (vs.map .lit)) (fun _=>E0):=by
 refine ⟨fun t x hx=>?_,fun _ _ _ h=>h,fun _ _ _ h=>h.elim,fun _ _ h=>h.elim,fun _ h=>h.elim,fun t t' z p n m new z' n' m' new' h1 _=>?_,htb⟩
 ·simp only [argG,List.getElem?_map] at hx
  cases hv:vs[t]? with
  | none=>rw [hv] at hx; cases hx
  | some v =>
   rw [hv] at hx
   simp only [Option.map_some,Option.some.injEq] at hx
   subst hx
   exact ⟨v,by simpa using hv,.tree (.lit (h v (List.mem_of_getElem? hv)) fun _ h=>h)⟩
 ·simp only [argG,List.getElem?_map] at h1
  cases hv:vs[t]? with
  | none=>rw [hv] at h1; cases h1
  | some v=>rw [hv] at h1; cases h1
end Go.Own
namespace Go.Own
open Go
set_option linter.unusedSectionVars false
variable [TB]
section
variable {P:Program}{g:Gst}{ty:TypeId}{a b:Operand}{t t2:TypeId}{N:Rm}{ops:Array Oper}{K:Gst->Prop}{l:List Oper}{d:Nat}{pos:String}{after:Array Edge}{gd:Option (Nat × Bool)}
theorem PS1.lenO {z n z':Nat}{p:Place}{e:TypeId}(hx:Rd g a (.brw z p n)) (ht:slT P t e z'=true):PS1 P g (.call { callee:=.builtin .len,args:=#[a],argTypes:=#[t] }) ty (.lit (.int .i64 n)):=.lenBrw hx.opd ht
theorem PS1.lenI {z n z':Nat}{cs:List AV}{e:TypeId}(hx:Rd g a (.imm z n cs)) (ht:slT P t e z'=true):PS1 P g (.call { callee:=.builtin .len,args:=#[a],argTypes:=#[t] }) ty (.lit (.int .i64 n)):=.lenImm hx.opd ht
end
end Go.Own
namespace Go.Own
open Go
set_option linter.unusedSectionVars false
variable [TB]
end Go.Own
