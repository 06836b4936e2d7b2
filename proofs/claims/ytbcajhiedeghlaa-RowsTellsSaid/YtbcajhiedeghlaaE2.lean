/-
  What is proved here: parts of the proof that the last text states: rules for walks through code, and of this program's functions what they answer. No condition of their own.
-/
import Derived.RowKit3
import Derived.Test.YtbcajhiedeghlaaE1
namespace Go.Own
open Go
structure hS (g1 g2:aZ):Prop where
 sub:∀ t x,g2 t=some x->g1 t=some x
 bk:∀ t x,g2 t=some x->e7 g2 x
 fR:∀ t z q n m new,g2 t≠some (.bR z q n m new)
structure dW where
 size:Nat
 pins:List Nat
def dW.ok (N:dW) (d:Nat):Bool:=Nat.blt d N.size&&!N.pins.elem d
def hR (N:dW) (T T':Array Value):Prop:=T'.size=T.size/\∀ t∈N.pins,T'[t]?=T[t]?
theorem hR.refl {N:dW}{T:Array Value}:hR N T T:=⟨rfl,λ_ _=>rfl⟩
theorem hR.trans {N:dW}{T IA IB:Array Value}(h:hR N T IA) (h1:hR N IA IB):hR N T IB:=⟨h1.1.trans h.1,λt aE=>(h1.2 t aE).trans (h.2 t aE)⟩
theorem dW.lt {N:dW}{d:Nat}(h:N.ok d=true):d<N.size:=by
 simp [dW.ok] at h; exact h.1
theorem hR.put {N:dW}{d:Nat}(h:N.ok d=true) (T:Array Value) (v:Value):hR N T (T.setIfInBounds d v):=by
 refine ⟨by simp,λt aE=>?_⟩
 rw [Array.getElem?_setIfInBounds_ne]
 rintro rfl
 simp [dW.ok,aE] at h
def ij (N:dW) (a:Act) (w:World) (I:br) (Fs:Nat->br) (g':aZ) (cI:Act) (w':World):Prop :=
 cI.defers=a.defers/\hR N a.tmps cI.tmps/\∃ I' cp,c_ w' I' cI.tmps g' cp/\kX w I (λc=>∃ t,Fs t c) w' I' (λc=>∃ t,cp t c)
theorem uI {cp:Nat->br}{d:Nat}{F:br}{c:Nat}(h:∃ t,td cp d F t c):(∃ t,cp t c)\/F c:=by
 obtain ⟨t,h⟩:=h
 unfold td at h
 split at h
 ·exact .inr h
 ·exact .inl ⟨t,h⟩
structure wS (P:Program) (g:aZ) (f:FuncId) (all xs0 xs1 args:List aj) (tk:Nat->Bool) (vw:Bool) (g1 g2:aZ) (outs:List (Option aj)) (res:aj) (l:List (Place × aj)) (ks:Nat->Nat) (g4:aZ):Prop where
 bn:dI P f=true
 Av:xs0.length=all.length
 vO:args.length=all.length
 bd:∀ (k:Nat) (x:aj),all[k]?=some x->xs0[k]?=some x\/xs0[k]?=some .dead
 aE:Take g xs0 xs1 g1
 hk:hS g1 g2
 bm:∀ (k:Nat) (x y:aj),all[k]?=some x->args[k]?=some y->if tk k then xs1[k]?=some y else vw=true/\View g2 x y
 ji:b_ P f args outs res
 ay:if vw then kC res else dp res
 vy:∀ (k:Nat) (x:aj),outs[k]?=some (some x)->if vw then kC x else dp x
 ao:∀ (af:Nat) (p:Place) (x:aj),l[af]?=some (p,x)->Nq g g2 all outs (ks af) p x
 nd:(l.map (·.1)).Nodup
 inj:∀ i af,i<l.length->af<l.length->ks i=ks af->i=af
 G6:hS (pD g2 l) g4
section
variable {P:Program}{w:World}{I:br}{T:Array Value}{g:aZ}{Fs:Nat->br}
theorem jI.keep (h:jI w I T g Fs) {g2:aZ}(hk:hS g g2):c_ w I T g2 (λt c=>g2 t≠none/\Fs t c) :=
 h.U1 hk.sub hk.bk λ_ _ _ _ _ _ _ _ _ _ _ h1=>absurd h1 (hk.fR _ _ _ _ _ _)
structure uM (g:aZ) (d:Nat) (g4 g5:aZ):Prop where
 sub:∀ t x,g4 t=some x->g5 t=some x
 new:∀ t x,g5 t=some x->g4 t=some x\/(g4 t=none/\t≠d/\g t=some x/\∃ r k cs,x=.ptr ⟨r,[]⟩ k/\r≠d/\g4 r=some (.obj cs)/\k<cs.length)
theorem uM.refl {d:Nat}{g4:aZ}:uM g d g4 g4:=⟨λ_ _ h=>h,λ_ _ h=>.inl h⟩
theorem c_.back (h:c_ w I T g Fs) {w':World}{I':br}{d:Nat}{v:Value}{g4 g5:aZ}{Iq:Nat->br}(b3:c_ w' I' (T.setIfInBounds d v) g4 Iq) (aJ:uM g d g4 g5):c_ w' I' (T.setIfInBounds d v) g5 Iq:=by
 refine ⟨λt x J=>?_,λt aE c ab=>?_,b3.e8,b3.aF,b3.lt,λt ds z p n m new cN cY m' dq h1 al=>?_⟩
 ·rcases aJ.new t x J with aS | ⟨h1,al,aP,r,k,cs,rfl,dF,e0,lK⟩
  ·obtain ⟨u,hu,bj⟩:=b3.rel t x aS
   exact ⟨u,hu,b3.vc (λ_ _=>rfl) (λ_ _ _=>rfl) (λ_ _=>rfl) (λ_ h=>h) aJ.sub bj λ_ _=>rfl⟩
  ·obtain ⟨u,hu,bj⟩:=h.rel t _ aP
   obtain ⟨⟨BA,ad,aw,a2,rfl⟩,_⟩:=(bj.hM (by simp)).ni
   have fP:∀ s,s≠d->(T.setIfInBounds d v)[s]?=T[s]?:=λs aM=>by rw [Array.getElem?_setIfInBounds_ne (Ne.symm aM)]
   refine ⟨_,by rw [fP t al]; exact hu,.tree (.ref rfl ⟨⟨BA,ad,?_,a2,rfl⟩,?_⟩ (b3.kO t h1))⟩
   ·have:eo w T ⟨r,[]⟩=T[r]?:=by
     unfold eo; simp only; cases T[r]? <;> rfl
    rw [this] at aw
    unfold eo
    simp only [fP r dF,aw,walk]
   ·exact ⟨.obj cs,by simp [b7,aJ.sub r _ e0,aj.at],0,0,cs,.inr rfl,lK⟩
 ·cases aS:g4 t with
  | none=>exact b3.kO t aS c ab
  | some y=>rw [aJ.sub t y aS] at aE; cases aE
 ·have:∀ {t z p n m new},g5 t=some (.bR z p n m new)->g4 t=some (.bR z p n m new):=by
   intro t z p n m new J
   rcases aJ.new t _ J with aS | ⟨_,_,_,r,k,cs,e,_⟩
   ·exact aS
   ·cases e
  exact b3.qk t ds z p n m new cN cY m' dq (this h1) (this al)
def h2 (P:Program) (N:dW) (g:aZ) (o:Oper) (d:Nat) (g5:aZ):Prop :=
 ∀ (w:World) (I:br) (T:Array Value) (Fs:Nat->br),c_ w I T g Fs->∀ (a:Act),a.tmps=T->a.tmps.size=N.size->∀ (K:Act->World->Prop) (Q:Exit->Act->World->Prop),
  (∀ (cI:Act) (w':World) (v:Value) (I':br) (cp:Nat->br),cI.defers=a.defers->cI.tmps=T.setIfInBounds d v->c_ w' I' (T.setIfInBounds d v) g5 cp->kX w I (λc=>∃ t,Fs t c) w' I' (λc=>∃ t,cp t c)->K cI w')->o.wp P a w K Q
theorem h2.sound {N:dW}{o:Oper}{d:Nat}{g5:aZ}(ab:h2 P N g o d g5) (jw:N.ok d=true) (h:c_ w I T g Fs) {a:Act}(bm:a.tmps=T) (bY:a.tmps.size=N.size) {K:Act->World->Prop}{Q:Exit->Act->World->Prop}
  (eA:∀ cI w',ij N a w I Fs g5 cI w'->K cI w'):o.wp P a w K Q :=
 ab w I T Fs h a bm bY K Q λcI w' v I' cp h1 al aP b3=>eA cI w' ⟨h1,by rw [al,<- bm]; exact hR.put jw _ _,I',cp,by rw [al]; exact aP,b3⟩
theorem wS.ok {N:dW}{o:Oper}{c:Operand}{xs:Array Operand}{iJ:Array TypeId}{d:Nat}{f:FuncId}{first caps ys xs0 xs1 args:List aj}{tk:Nat->Bool}{vw:Bool}{g1 g2 g4 g5:aZ}{outs:List (Option aj)}{res:aj}{l:List (Place × aj)}{ks:Nat->Nat}
  (bh:o.op=.call { callee:=.value c,args:=xs,argTypes:=iJ }) (aY:o.dst=some d) (ab:bO g c=some (.ey (.func f) first caps)) (J:iP g xs.toList=some ys)
  (he:wS P g f (first++ys++caps) xs0 xs1 args tk vw g1 g2 outs res l ks g4) (a':g4 d=none) (jw:N.ok d=true) (RA:uM g d (e' g4 d res) g5):h2 P N g o d g5:=by
 intro w I T Fs h a bm bY K Q eA
 obtain ⟨v1,v2,tS,ao,oH⟩:=EA h bm ab J
 have h4:(execOp a.eval o).run P w=.ok (.enter f (v1++xs.map a.eval++v2)) w:=by
  simp [execOp,bh,resolve,Deferred.ofValue,tS,invoke,EB he.bn]
 generalize C8:(v1++xs.map a.eval++v2).toList=vs at *
 generalize Fx:first++ys++caps=all at *
 -- what is taken
 have tK:Hand w I (fV w T) Fs xs0 vs (λ_=>cW):=by
  refine ⟨by rw [he.Av,ao],λk x u J hu=>?_,λ_ _ _ _ _ h=>h.elim,λ_ _ _ _ h=>h.elim,λ_ _ _ h=>h.elim⟩
  have hk:k<all.length:=by rw [<- he.Av]; exact (List.getElem?_eq_some_iff.1 J).1
  have zO:=List.getElem?_eq_getElem hk
  rcases he.bd k _ zO with bd | bd
  ·rw [bd] at J; cases J
   exact (oH k _ u zO hu).frame (λ_ _=>rfl) (λ_ h=>h) (λ_ _ h=>h.1) λ_ _=>rfl
  ·rw [bd] at J; cases J
   exact .dead λ_ h=>h
 obtain ⟨gi,H1,jh,iM,hl⟩:=he.aE.sound h.mi tK
 have KD:∀ c,lk gi xs1.length H1 c->∃ t,Fs t c:=by
  intro c ab
  rcases hl c ab with aS | ⟨_,_,aS⟩
  ·exact aS
  ·exact aS.elim
 have il:=jh.keep he.hk
 generalize QK:(λt c=>g2 t≠none/\gi t c)=je at il
 have Ko:∀ t c,je t c->gi t c:=by intro t c ab; rw [<- QK] at ab; exact ab.2
 have F1:xs1.length=all.length:=by rw [he.aE.length,he.Av]
 -- what the callee sees
 let BT:br:=λc=>I c\/(vw=true/\∃ t,je t c)
 let wT:Nat->br:=λt c=>t<all.length/\tk t=true/\H1 t c
 have sI:∀ t c,wT t c->(∀ s,¬ je s c)/\¬ I c/\∃ t,Fs t c:=by
  rintro t c ⟨h1,al,aP⟩
  exact ⟨λs aM=>iM.off t s c (by omega) aP (Ko s c aM),iM.aF t c (by omega) aP,KD c (.inr ⟨t,by omega,aP⟩)⟩
 have Ld:∀ (ρ':aj->Value->Prop) (k:Nat) (y:aj) (u:Value),args[k]?=some y->vs[k]?=some u->R w BT ρ' y u (wT k):=by
  intro ρ' k y u az hu
  have hk:k<all.length:=by rw [<- he.vO]; exact (List.getElem?_eq_some_iff.1 az).1
  have zO:=List.getElem?_eq_getElem hk
  have:=he.bm k _ y zO az
  split at this
  ·rename_i aE
   have mz:dp y:=he.aE.AH y (List.mem_of_getElem? this)
   exact (((iM.rel k y u this hu).bI mz).nn λc ab=>.inl ab).xi λc=>⟨λab=>⟨hk,aE,ab⟩,λab=>ab.2.2⟩
  ·rename_i aE
   obtain ⟨hv,SD⟩:=this
   have gM:R w I (fV w T) all[k] u cW:=(oH k _ u zO hu).frame (λ_ _=>rfl) (λ_ h=>h) (λ_ _ h=>h.1) λ_ _=>rfl
   have:=View.MH il.mi SD gM (λ_ h=>h.elim) ρ'
   refine (this.nn (I':=BT) λc ab=>?_).xi λc=>⟨λh=>h.elim,λab=>absurd ab.2.1 aE⟩
   rcases ab with aS | aS
   ·exact .inl aS
   ·exact .inr ⟨hv,aS⟩
 have Q7:c_ w BT vs.toArray (o9 args) wT:=by
  refine ⟨λt x J=>?_,λt aE c ab=>?_,λt ds c ab fu=>iM.e8 t ds c (by have:=ab.1; omega) (by have:=fu.1; omega) ab.2.2 fu.2.2,λt c ab hi=>?_,λc ab=>?_,λt ds z p n m new cN cY m' dq h1 al=>?_⟩
  ·have aE:t<args.length:=(List.getElem?_eq_some_iff.1 J).1
   have hu:vs[t]?=some (vs[t]'(by rw [<- ao,<- he.vO]; exact aE)):=List.getElem?_eq_getElem _
   exact ⟨_,by rw [List.getElem?_toArray]; exact hu,.tree (Ld _ t x _ J hu)⟩
  ·have hle:args.length<=t:=by simpa [o9] using aE
   have:=ab.1; have:=he.vO; omega
  ·obtain ⟨h1,al,_⟩:=sI t c ab
   rcases hi with aS | ⟨_,s,aS⟩
   ·exact al aS
   ·exact h1 s aS
  ·rcases ab with aS | ⟨_,s,aS⟩
   ·exact h.lt c aS
   ·exact il.j0 s c aS
  ·have aE:t<args.length:=(List.getElem?_eq_some_iff.1 h1).1
   have hu:vs[t]?=some (vs[t]'(by rw [<- ao,<- he.vO]; exact aE)):=List.getElem?_eq_getElem _
   exact (Ld (λ_ _=>False) t _ _ h1 hu).lf.elim
 have tQ:=he.ji.2 w BT vs wT (by rw [<- ao,he.vO]) Q7
 unfold Oper.wp Oper.upon
 simp only [h4]
 rw [<- C8,Array.toArray_toList] at tQ
 refine Calls.mono tQ ?_
 rintro e w' ⟨v,I',cp,rfl,eG,cm⟩
 rw [C8] at eG
 have mx:outs.length=all.length:=by rw [he.ji.1,he.vO]
 have qZ:vs.length=all.length:=ao.symm
 -- the blocks behind the call
 have Mv:∀ t c,je t c->w'.heap[c]?=w.heap[c]?:=λt c ab=>cm.fJ.block c (il.j0 t c ab) λ⟨s,aM⟩=>(sI s c aM).1 t ab
 have rk:∀ c,I c->w'.heap[c]?=w.heap[c]?:=λc ab=>cm.fJ.block c (h.lt c ab) λ⟨s,aM⟩=>(sI s c aM).2.1 ab
 let If:br:=λc=>if vw then I c else I' c
 have Ho:∀ t c,cp t c->(∃ s,wT s c)\/w.heap.size<=c:=λt c ab=>cm.own c ⟨t,ab⟩
 have LY:∀ t c,cp t c->∀ s,¬ je s c:=by
  intro t c ab s aM
  rcases Ho t c ab with ⟨eR,aS⟩ | aS
  ·exact (sI eR c aS).1 s aM
  ·have:=il.j0 s c aM; omega
 have LZ:∀ t c,cp t c->¬ If c:=by
  intro t c ab hi
  cases vw with
  | true =>
   simp only [If,if_true] at hi
   rcases Ho t c ab with ⟨eR,aS⟩ | aS
   ·exact (sI eR c aS).2.1 hi
   ·have:=h.lt c hi; omega
  | false =>
   simp only [If,Bool.false_eq_true,if_false] at hi
   exact eG.aF t c ab hi
 have Kt:∀ c,If c->I c\/(∃ s,wT s c)\/w.heap.size<=c:=by
  intro c ab
  cases vw with
  | true=>simp only [If,if_true] at ab; exact .inl ab
  | false =>
   simp only [If,Bool.false_eq_true,if_false] at ab
   rcases cm.new c ab with aS | aS | aS
   ·rcases aS with aS | ⟨aS,_⟩
    ·exact .inl aS
    ·cases aS
   ·exact .inr (.inl aS)
   ·exact .inr (.inr aS)
 have Ks:∀ c,I c->If c:=by
  intro c ab
  cases vw with
  | true=>simp only [If,if_true]; exact ab
  | false=>simp only [If,Bool.false_eq_true,if_false]; exact cm.more c (.inl ab)
 have Q3:c_ w' If T g2 je:=by
  have:=il.world (w':=w') Mv rk cm.fJ.size
  refine ⟨λt x J=>?_,this.kO,this.e8,λt c ab hi=>?_,λc ab=>?_,this.qk⟩
  ·obtain ⟨v,hv,bj⟩:=this.rel t x J
   exact ⟨v,hv,bj.frame (λ_ _=>rfl) Ks (λ_ _ h=>h) (λ_ _ _ _ _ _ _=>rfl) λ_ _=>rfl⟩
  ·rcases Kt c hi with aS | ⟨s,aS⟩ | aS
   ·exact il.aF t c ab aS
   ·exact (sI s c aS).1 t ab
   ·have:=il.j0 t c ab; omega
  ·cases vw with
   | true=>simp only [If,if_true] at ab; exact Nat.lt_of_lt_of_le (h.lt c ab) cm.fJ.size
   | false=>simp only [If,Bool.false_eq_true,if_false] at ab; exact eG.lt c ab
 -- what comes back in the arguments, and the result
 have I2:∀ {x:aj}{u:Value}{F:br}{ρ ρ':aj->Value->Prop},R w' I' ρ x u F->(if vw then kC x else dp x)->R w' If ρ' x u F:=by
  intro x u F ρ ρ' bj J
  cases vw with
  | true=>simp only [if_true] at J; exact bj.lg J
  | false =>
   simp only [Bool.false_eq_true,if_false] at J
   refine (bj.bI J).nn λc ab=>?_
   simpa [If] using ab
 have AG:∀ {x:aj},(if vw then kC x else dp x)->∀ z p n m new,x≠.bR z p n m new:=by
  rintro x J z p n m new rfl
  cases vw with
  | true=>simp only [if_true] at J; cases J
  | false=>simp only [Bool.false_eq_true,if_false] at J; cases J
 have TP:∀ (k:Nat) (x:aj) (u:Value),outs[k]?=some (some x)->vs[k]?=some u->R w' If (fV w' T) x u (cp k):=by
  intro k x u J hu
  have hk:k<outs.length:=(List.getElem?_eq_some_iff.1 J).1
  obtain ⟨tc,fQ,bj⟩:=eG.rel k x (by simp only [oR,if_neg (Nat.ne_of_lt hk),J]; rfl)
  have:tc=u:=by
   rw [List.getElem?_toArray,List.getElem?_append_left (by rw [qZ,<- mx]; exact hk),hu] at fQ
   exact (Option.some.inj fQ).symm
  subst this
  exact I2 (bj.hM (AG (he.vy k x J))) (he.vy k x J)
 obtain ⟨H4,C6,oG⟩:=eG.rel outs.length res (by simp [oR])
 have Sy:H4=v:=by
  have e:outs.length=vs.length:=by omega
  rw [e] at C6
  simpa using C6.symm
 subst Sy
 -- back into the places
 obtain ⟨wU,Fq,CO⟩:=jI.pD (w:=w') (I:=If) (T:=T) l (λaf=>cp (ks af)) (λaf=>vs.getD (ks af) undef) Q3.mi he.nd (λaf p x aa=>by
   have L:=he.ao af p x aa
   have hk:ks af<outs.length:=(List.getElem?_eq_some_iff.1 L.out).1
   have hu:vs[ks af]?=some (vs[ks af]'(by rw [qZ,<- mx]; exact hk)):=List.getElem?_eq_getElem _
   have tV:vs.getD (ks af) undef=vs[ks af]'(by rw [qZ,<- mx]; exact hk):=by simp [List.getD,hu]
   refine ⟨L.IY,?_,?_⟩
   ·rw [tV,il.wC (w':=w') (λ_ _=>rfl) Mv L.IY]
    rcases L.arg with ⟨z,n,cs,h1,al⟩ | ⟨cs,h1,al⟩
    ·exact N3 h (oH _ _ _ h1 hu) al
    ·exact N2 h (oH _ _ _ h1 hu) al
   ·rw [tV]; exact TP _ x _ L.out hu)
  (λaf t c aa ab=>LY _ c ab t) (λaf c aa ab=>LZ _ c ab) (λi af c hi aa h1 al=>he.inj i af hi aa (eG.e8 _ _ c h1 al))
 have Q4:=Fq.keep he.G6
 have TM:∀ t c,cp outs.length c->¬ (g4 t≠none/\wU t c):=by
  rintro t c ab ⟨_,b3⟩
  rcases CO t c b3 with aS | ⟨af,aa,aS⟩
  ·exact LY _ c ab t aS
  ·have hk:ks af<outs.length:=by
    have tY:=List.getElem?_eq_getElem aa
    exact (List.getElem?_eq_some_iff.1 (he.ao af _ _ tY).out).1
   have:=eG.e8 _ _ c ab aS
   omega
 have na:=Q4.s6 (d:=d) (x:=res) (v:=H4) (F:=cp outs.length) a' (by rw [<- bm,bY]; exact dW.lt jw) (.tree (I2 (oG.hM (AG he.ay)) he.ay)) TM (λc ab=>LZ _ c ab) (λz p n m new e=>absurd e (AG he.ay z p n m new))
 refine eA _ _ H4 If _ (by rw [aY]; rfl) (by rw [aY]; simp [Act.put,bm]) (h.back na RA) ⟨?_,Ks,λc ab=>?_,λc ab=>?_⟩
 ·exact cm.fJ.mono λb _ ⟨s,aM⟩=>(sI s b aM).2.2
 ·rcases Kt c ab with aS | ⟨s,aS⟩ | aS
  ·exact .inl aS
  ·exact .inr (.inl (sI s c aS).2.2)
  ·exact .inr (.inr aS)
 ·have fin:∀ t,cp t c->(∃ s,Fs s c)\/w.heap.size<=c:=by
   intro t aE
   rcases Ho t c aE with ⟨s,aS⟩ | aS
   ·exact .inl (sI s c aS).2.2
   ·exact .inr aS
  rcases uI ab with ⟨t,_,aS⟩ | aS
  ·rcases CO t c aS with gL | ⟨af,_,gL⟩
   ·exact .inl (KD c (.inl ⟨t,Ko t c gL⟩))
   ·exact fin _ gL
  ·exact fin _ aS
structure Nj (g:aZ) (d r k0:Nat) (g4 g5:aZ):Prop where
 sub:∀ t x,g4 t=some x->g5 t=some x
 new:∀ t x,g5 t=some x->g4 t=some x\/(g4 t=none/\t≠d/\g t=some x/\∃ m z n cs,x=.ptr ⟨r,[k0]⟩ m/\b7 g4 ⟨r,[k0]⟩=some (.own z n cs)/\m<cs.length)
theorem hS.b7 {g1 g2:aZ}(h:hS g1 g2) {p:Place}{y:aj}(aH:b7 g2 p=some y):b7 g1 p=some y:=by
 unfold Own.b7 at *
 cases J:g2 p.root with
 | none=>rw [J] at aH; cases aH
 | some x=>rw [J] at aH; rw [h.sub _ _ J]; exact aH
theorem h2.P9 {N:dW}{o:Oper}{r k0 d:Nat}{y:aj}{cs:List aj}{g5:aZ}(ay:g r=some (.obj cs)) (az:cs[k0]?=some y) (vB:dp y)
  (t':∀ v:Value,v.oneCell'=true->∃ g1 g4 tF,hS (df g ⟨r,[k0]⟩ (.lit v)) g1/\h2 P N g1 o d g4/\b7 g4 ⟨r,[k0]⟩=some (.lit v)/\hS (df g4 ⟨r,[k0]⟩ y) tF/\b7 tF ⟨r,[k0]⟩=some y/\Nj g d r k0 tF g5):h2 P N g o d g5:=by
 intro w I T Fs h a bm bY K Q eA
 have k8:∀ z q n m new,y≠.bR z q n m new:=by rintro z q n m new rfl; cases vB
 have gu:b7 g ⟨r,[k0]⟩=some y:=by simp [b7,ay,aj.at,aj.kids,az]
 obtain ⟨v,cO,hv,d',dG,put⟩:=h.mi.part gu k8
 have sV:v.oneCell'=true:=by
  obtain ⟨u,hu,mu⟩:=h.rel r _ ay
  obtain ⟨b,tc,h1,al,aP,b3,_⟩:=R.node (z:=0) (n:=0) (mu.hM (by simp)) (.inr rfl) az
  have:eo w T ⟨r,[k0]⟩=child w u k0:=by
   unfold eo
   simp only [hu,walk]
   cases child w u k0 <;> rfl
  rw [this,aP] at hv
  cases hv
  exact b3
 obtain ⟨gi,jh,zD,zE⟩:=put (.lit v) cW (.lit sV λ_ h=>h) (λ_ h=>h.elim) (λ_ h=>h.elim) (λ_ _ _ h=>h.elim)
 obtain ⟨g1,g4,tF,hx,fo,Fy,FV,V',aJ⟩:=t' v sV
 have rp:∀ t c,gi t c->Fs t c/\¬ cO c:=by
  intro t c ab
  by_cases aE:t=r
  ·subst aE
   rcases (zD c).1 ab with aS | aS
   ·exact aS
   ·exact aS.elim
  ·rw [zE t aE] at ab
   exact ⟨ab,λbn=>aE (h.e8 t r c ab (dG c bn))⟩
 have Fp:=jh.keep hx
 refine fo w I T _ Fp a bm bY K Q λcI w' hQ I' cp EU zh eG cm=>?_
 obtain ⟨v2,sb,xN,l1,QJ,Hw⟩:=eG.mi.part Fy (by simp)
 have Gm:v2=v:=l1.im.1
 subst Gm
 have Ff:∀ c,cO c->¬ I c:=λc ab=>h.aF r c (dG c ab)
 have vf:∀ c,cO c->c<w.heap.size:=λc ab=>h.j0 r c (dG c ab)
 have vW:∀ c,cO c->¬ ∃ t,(g1 t≠none/\gi t c):=λc ab ⟨t,_,aS⟩=>(rp t c aS).2 ab
 have AJ:∀ t c,cp t c->¬ cO c:=by
  intro t c ab bn
  rcases cm.own c ⟨t,ab⟩ with aS | aS
  ·exact vW c bn aS
  ·have:=vf c bn; omega
 have Hj:∀ c,cO c->¬ I' c:=by
  intro c ab hi
  rcases cm.new c hi with aS | aS | aS
  ·exact Ff c ab aS
  ·exact vW c ab aS
  ·have:=vf c ab; omega
 have HE:∀ c,cO c->w'.heap[c]?=w.heap[c]?:=λc ab=>cm.fJ.block c (vf c ab) (vW c ab)
 have rk:∀ c,I c->w'.heap[c]?=w.heap[c]?:=λc ab=>cm.fJ.block c (h.lt c ab) λ⟨t,_,aS⟩=>h.aF t c (rp t c aS).1 ab
 have zL:R w' I' (fV w' (T.setIfInBounds d hQ)) y v2 cO :=
  ((d'.bI vB).frame rk cm.more (λ_ _ h=>h) HE)
 obtain ⟨Ir,Ft,Fa,Fb⟩:=Hw y cO zL (λc ab bn=>(AJ _ c bn ab).elim) (λc ab=>Hj c ab) (λt c _ ab bn=>AJ t c bn ab)
 have sK:=Ft.keep FV
 have SA:eo w' (T.setIfInBounds d hQ) ⟨r,[k0]⟩=some v2:=xN
 have Q5:c_ w' I' (T.setIfInBounds d hQ) g5 (λt c=>tF t≠none/\Ir t c):=by
  refine ⟨λt x J=>?_,λt aE c ab=>?_,sK.e8,sK.aF,sK.lt,λt ds z p n m new cN cY m' dq h1 al=>?_⟩
  ·rcases aJ.new t x J with aS | ⟨h1,al,aP,m,z,n,cs2,rfl,dF,e0⟩
   ·obtain ⟨u,hu,bj⟩:=sK.rel t x aS
    exact ⟨u,hu,sK.vc (λ_ _=>rfl) (λ_ _ _=>rfl) (λ_ _=>rfl) (λ_ h=>h) aJ.sub bj λ_ _=>rfl⟩
   ·obtain ⟨u,hu,bj⟩:=h.rel t _ aP
    obtain ⟨⟨BA,ad,aw,a2,rfl⟩,_⟩:=(bj.hM (by simp)).ni
    rw [hv] at aw
    cases aw
    refine ⟨_,by rw [Array.getElem?_setIfInBounds_ne (Ne.symm al)]; exact hu,.tree (.ref rfl ⟨⟨v2,ad,SA,a2,rfl⟩,?_⟩ (sK.kO t h1))⟩
    refine ⟨.own z n cs2,?_,z,n,cs2,.inl rfl,e0⟩
    unfold Own.b7 at dF ⊢
    cases f':tF r with
    | none=>simp only [f'] at dF; cases dF
    | some x'=>simp only [f'] at dF; simp only [aJ.sub r x' f']; exact dF
  ·cases aS:tF t with
   | none=>exact ab.1 aS
   | some y=>rw [aJ.sub t y aS] at aE; cases aE
  ·have:∀ {t z p n m new},g5 t=some (.bR z p n m new)->tF t=some (.bR z p n m new):=by
    intro t z p n m new J
    rcases aJ.new t _ J with aS | ⟨_,_,_,m,z,n,cs2,e,_⟩
    ·exact aS
    ·cases e
   exact sK.qk t ds z p n m new cN cY m' dq (this h1) (this al)
 refine eA cI w' hQ I' _ EU zh Q5 ⟨?_,cm.more,λc ab=>?_,λc ab=>?_⟩
 ·exact cm.fJ.mono λb _ ⟨t,_,aS⟩=>⟨t,(rp t b aS).1⟩
 ·rcases cm.new c ab with aS | ⟨t,_,aS⟩ | aS
  ·exact .inl aS
  ·exact .inr (.inl ⟨t,(rp t c aS).1⟩)
  ·exact .inr (.inr aS)
 ·obtain ⟨t,_,ab⟩:=ab
  have:(∃ t,cp t c)\/cO c:=by
   by_cases aE:t=r
   ·subst aE
    rcases (Fa c).1 ab with ⟨aS,_⟩ | aS
    ·exact .inl ⟨_,aS⟩
    ·exact .inr aS
   ·rw [Fb t aE] at ab; exact .inl ⟨t,ab⟩
  rcases this with aS | aS
  ·rcases cm.own c aS with ⟨t,_,gL⟩ | gL
   ·exact .inl ⟨t,(rp t c gL).1⟩
   ·exact .inr gL
  ·exact .inl ⟨r,dG c aS⟩
end
end Go.Own
namespace Go.Own
open Go
def su:aj->Option (List aj)
 | .agg cs=>some cs
 | .lit v=>some [.lit v]
 | .aI=>some [.aI]
 | .aF z n cs=>some [.aF z n cs]
 | .own z n cs=>some [.own z n cs]
 | .obj cs=>some [.obj cs]
 | .bo cs=>some [.bo cs]
 | .ey f a b=>some [.ey f a b]
 | _=>none
def gG (P:Program) (t:TypeId) (m:Nat):Bool :=
 match P.info? t with
 | some i=>i.size == m
 | none=>false
def kV (P:Program) (N:dW) (g:aZ) (o:Oper) (g':aZ):Prop :=
 ∀ (w:World) (I:br) (T:Array Value) (Fs:Nat->br),c_ w I T g Fs->∀ (a:Act),a.tmps=T->a.tmps.size=N.size->∀ (K:Act->World->Prop) (Q:Exit->Act->World->Prop),
  (∀ (cI:Act) (w':World),ij N a w I Fs g' cI w'->(∀ t,o.dst≠some t->cI.tmps[t]?=a.tmps[t]?)->K cI w')->o.wp P a w K Q
inductive b9 (P:Program) (N:dW) (g:aZ):Oper->aZ->Prop
 | assign {o:Oper}{d:Nat}{x:Operand}{y kl y':aj}{g1 g2:aZ}(bh:o.op=.assign x) (aY:o.dst=some d) (J:bO g x=some y) (aE:Take g [y] [kl] g1) (bJ:jF kl y') (hk:hS g1 g2) (a':g2 d=none) (bY:N.ok d=true):b9 P N g o (e' g2 d y')
 | N7 {o:Oper}{d:Nat}{x:Operand}{y:aj}{g2:aZ}(bh:o.op=.assign x) (aY:o.dst=some d) (J:bO g x=some y) (hk:hS g g2) (az:e7 g2 y) (a':g2 d=none) (bY:N.ok d=true):b9 P N g o (e' g2 d y)
 | store {o:Oper}{t:TypeId}{ad val:Operand}{p:Place}{k z n:Nat}{y kl y' nd:aj}{cs cs':List aj}{g1 g2:aZ}(bh:o.op=.store t ad val) (aY:o.dst=none) (fZ:bO g ad=some (.ptr p k)) (sW:bO g val=some y) (aE:Take g [y] [kl] g1) (p7:jF kl y')
   (ab:su y'=some cs') (aM:gG P t cs'.length=true) (aH:b7 g1 p=some nd) (gD:nd=.own z n cs\/nd=.obj cs) (hk:k+cs'.length<=cs.length) (bd:0<cs'.length)
   (xA:∀ t x,g2 t=some x->df g1 p (nd.fY k cs') t=some x) (uc:∀ t x,g2 t=some x->∀ y,g1 t=some y->jq (λr=>gK g1 r/\Clear p k cs'.length r/\gK g2 r) y) (k8:∀ t z q n m new,g2 t≠some (.bR z q n m new)) (jW:g2 p.root≠none):b9 P N g o g2
 | call {o:Oper}{d:Nat}{g5:aZ}(aY:o.dst=some d) (bY:N.ok d=true) (h:h2 P N g o d g5):b9 P N g o g5
 | HL {o:Oper}{g2:aZ}(h:kV P N g o g2):b9 P N g o g2
section
variable {P:Program}{w:World}{I:br}{T:Array Value}{g:aZ}{Fs:Nat->br}
theorem Hand.one {y:aj}{v:Value}(bj:R w I (er w T g) y v cW):Hand w I (fV w T) Fs [y] [v] (λ_=>cW) :=
 ⟨rfl,λk x u J hu=>by
  cases k with
  | zero=>simp at J hu; subst J hu; exact bj.frame (λ_ _=>rfl) (λ_ h=>h) (λ_ _ h=>h.1) λ_ _=>rfl
  | succ k=>simp at J,λ_ _ _ _ _ h=>h.elim,λ_ _ _ _ h=>h.elim,λ_ _ _ h=>h.elim⟩
theorem Hand.Hz {ρ:aj->Value->Prop}{y:aj}{v:Value}{dZ:Nat->br}(h:Hand w I ρ Fs [y] [v] dZ):R w I ρ y v (dZ 0):=h.rel 0 y v rfl rfl
theorem Hand.cells {y:aj}{v:Value}{dZ:Nat->br}(h:Hand w I (fV w T) Fs [y] [v] dZ) (aL:dp y) {cs:List aj}(ab:su y=some cs) :
  ∃ wV,Hand w I (fV w T) Fs cs v.cells.toList wV/\(∀ x∈cs,dp x)/\(∀ (af:Nat) (u:Value),v.cells.toList[af]?=some u->u.oneCell'=true)/\∀ af c,af<cs.length->wV af c->dZ 0 c:=by
 have bj:=h.Hz
 have single:∀ {x:aj},y=x->v.oneCell'=true->∃ wV,Hand w I (fV w T) Fs [x] v.cells.toList wV/\(∀ z∈[x],dp z)/\(∀ (af:Nat) (u:Value),v.cells.toList[af]?=some u->u.oneCell'=true)/\∀ af c,af<[x].length->wV af c->dZ 0 c:=by
  rintro x rfl h1
  have xz:v.cells=#[v]:=by cases v <;> first | rfl | (simp [Value.oneCell'] at h1)
  refine ⟨dZ,by rw [xz]; exact h,by simpa using aL,λaf u hu=>?_,λaf c aa ab=>?_⟩
  ·rw [xz] at hu
   cases af with
   | zero=>simp at hu; subst hu; exact h1
   | succ af=>simp at hu
  ·have:af=0:=by simpa using aa
   subst this; exact ab
 cases y <;> simp only [su,Option.some.injEq,reduceCtorEq] at ab
 case agg l =>
  subst ab
  cases bj with
  | ref J=>simp [aj.isRef] at J
  | @agg _ vs bK _ ao h1 ay aY aQ =>
   have fh:∀ k c,k<l.length->bK k c->dZ 0 c:=λk c hk ab=>(aQ c).2 ⟨k,hk,ab⟩
   refine ⟨bK,⟨by simp [Value.cells,ao],λk x u J hu=>ay k x u J (by simpa [Value.cells] using hu),aY,λk t c hk ab=>h.off 0 t c (by simp) (fh k c hk ab),λk c hk ab=>h.aF 0 c (by simp) (fh k c hk ab)⟩,?_,λaf u hu=>h1 af u (by simpa [Value.cells] using hu),fh⟩
   cases aL with | agg h=>exact h
 case lit a=>subst ab; exact single rfl (by obtain ⟨rfl,h1⟩:=bj.im; exact h1)
 case aI=>subst ab; exact single rfl (by rw [bj.q8]; rfl)
 case aF z n l=>subst ab; exact single rfl (by obtain ⟨a,cap,rfl,_⟩:=bj.xQ; rfl)
 case own z n l=>subst ab; exact single rfl (by obtain ⟨a,cap,rfl,_⟩:=bj.mJ; rfl)
 case bo l=>subst ab; exact single rfl (by obtain ⟨ad,us,rfl,_⟩:=bj.vC; rfl)
 case obj l =>
  subst ab
  refine single rfl ?_
  cases bj with
  | ref J=>simp [aj.isRef] at J
  | obj=>rfl
 case ey f a b =>
  subst ab
  refine single rfl ?_
  cases bj with
  | ref J=>simp [aj.isRef] at J
  | ey=>rfl
theorem jH.nn {I':br}{ρ:aj->Value->Prop}{x:aj}{v:Value}{F:br}(h:jH w I ρ x v F) (bt:∀ c,I c->I' c):jH w I' ρ x v F:=by
 cases h with
 | tree h=>exact .tree (h.nn bt)
 | bR h=>exact .bR ⟨h.jU,h.k9,h.mB,h.ao,h.h1,λk x u J hu=>(h.ay k x u J hu).nn bt,h.aQ⟩
theorem Kc {g1:aZ}{gi:Nat->br}{H1:Nat->br}{kl y':aj}{v:Value}(bU:jI w I T g1 gi) (hH:Hand w I (fV w T) gi [kl] [v] H1) (aL:dp kl) (bJ:jF kl y') :
  ∃ (I':br) (sd:br),(∀ c,I c->I' c)/\(∀ c,I' c->I c\/H1 0 c)/\jI w I' T g1 gi/\Hand w I' (fV w T) gi [y'] [v] (λ_=>sd)/\∀ c,sd c->H1 0 c:=by
 have bj:=hH.Hz
 obtain ⟨sd,gE,jv⟩:=R.eF bJ bj aL (λc ab=>hH.aF 0 c (by simp) ab) bU.lt
 refine ⟨λc=>I c\/(H1 0 c/\¬ sd c),sd,λc ab=>.inl ab,λc ab=>ab.elim .inl λh=>.inr h.1,⟨λt x J=>?_,bU.kO,bU.e8,λt c ab hi=>?_,λc ab=>?_⟩,⟨rfl,λk x u J hu=>?_,λaf k c aa hk _ _=>by simp at aa hk; omega,λk t c hk ab bn=>hH.off 0 t c (by simp) (gE c ab) bn,λk c hk ab hi=>?_⟩,gE⟩
 ·obtain ⟨u,hu,mu⟩:=bU.rel t x J
  exact ⟨u,hu,mu.nn λc ab=>.inl ab⟩
 ·rcases hi with h | ⟨h,_⟩
  ·exact bU.aF t c ab h
  ·exact hH.off 0 t c (by simp) h ab
 ·rcases ab with h | ⟨h,_⟩
  ·exact bU.lt c h
  ·exact bj.lt c h
 ·cases k with
  | zero=>simp at J hu; subst J hu; exact jv
  | succ k=>simp at J
 ·rcases hi with h | ⟨_,h⟩
  ·exact hH.aF 0 c (by simp) (gE c ab) h
  ·exact h ab
theorem b9.mY {N:dW}{o:Oper}{g':aZ}(he:b9 P N g o g'):kV P N g o g':=by
 intro w I T Fs h a bm bY K Q eA
 cases he with
 | HL he=>exact he w I T Fs h a bm bY K Q eA
 | @call d _ aY jw ab =>
  refine ab w I T Fs h a bm bY K Q λcI w' v I' cp h1 al aP b3=>eA cI w' ⟨h1,by rw [al,<- bm]; exact hR.put jw _ _,I',cp,by rw [al]; exact aP,b3⟩ λt aE=>?_
  rw [al,bm,Array.getElem?_setIfInBounds_ne]
  rintro rfl
  exact aE aY
 | @assign d x y kl y' g1 g2 bh aY J aE bJ hk a' jw =>
  have bj:=ke h J bm
  obtain ⟨gi,H1,rP,tK,hl⟩:=aE.sound h.mi (Hand.one bj)
  have z1:dp kl:=aE.AH kl (by simp)
  obtain ⟨I',sd,oF,Fh,jh,iM,gE⟩:=Kc rP tK z1 bJ
  have mz:dp y':=bJ.bI z1
  have il:=jh.keep hk
  have na:=il.s6 (d:=d) (x:=y') (v:=a.eval x) (F:=sd) a' (by rw [<- bm,bY]; exact dW.lt jw) (.tree (iM.Hz.bI mz)) (λt c ab bn=>iM.off 0 t c (by simp) ab bn.2) (λc ab=>iM.aF 0 c (by simp) ab) (by rintro z p n m new rfl; cases mz)
  have h4:(execOp a.eval o).run P w=.ok (.value (a.eval x)) w:=by simp [execOp,bh]
  unfold Oper.wp Oper.upon
  simp only [h4]
  have gN:∀ c,H1 0 c->∃ t,Fs t c:=λc ab=>by
   rcases hl c (.inr ⟨0,by simp,ab⟩) with gL | ⟨_,_,gL⟩
   ·exact gL
   ·exact gL.elim
  refine eA _ _ ⟨by rw [aY]; rfl,by rw [aY]; exact hR.put jw _ _,I',_,by rw [aY]; simpa [Act.put,bm] using na,⟨Fr.refl _ _,oF,λc ab=>(Fh c ab).elim .inl λh=>.inr (.inl (gN c h)),λc ab=>?_⟩⟩ λt aE=>by rw [aY]; simp only [Act.put]; rw [Array.getElem?_setIfInBounds_ne]; rintro rfl; exact aE aY
  rcases uI ab with ⟨t,_,aS⟩ | aS
  ·rcases hl c (.inl ⟨t,aS⟩) with gL | ⟨_,_,gL⟩
   ·exact .inl gL
   ·exact gL.elim
  ·exact .inl (gN c (gE c aS))
 | @N7 d x y g2 bh aY J hk az a' jw =>
  have bj:=ke h J bm
  have il:=h.mi.keep hk
  have jv:R w I (er w T g2) y (a.eval x) cW:=(bj.frame (ρ':=fV w T) (λ_ _=>rfl) (λ_ h=>h) (λ_ _ h=>h.1) λ_ _=>rfl).bk az
  have na:=il.s6 (d:=d) (x:=y) (v:=a.eval x) (F:=cW) a' (by rw [<- bm,bY]; exact dW.lt jw) (.tree jv) (λ_ _ h=>h.elim) (λ_ h=>h.elim) (by rintro z p n m new rfl; exact jv.lf.elim)
  have h4:(execOp a.eval o).run P w=.ok (.value (a.eval x)) w:=by simp [execOp,bh]
  unfold Oper.wp Oper.upon
  simp only [h4]
  refine eA _ _ ⟨by rw [aY]; rfl,by rw [aY]; exact hR.put jw _ _,I,_,by rw [aY]; simpa [Act.put,bm] using na,⟨Fr.refl _ _,λ_ h=>h,λ_ h=>.inl h,λc ab=>?_⟩⟩ λt aE=>by rw [aY]; simp only [Act.put]; rw [Array.getElem?_setIfInBounds_ne]; rintro rfl; exact aE aY
  rcases uI ab with ⟨t,_,aS⟩ | aS
  ·exact .inl ⟨t,aS⟩
  ·exact aS.elim
 | @store t ad val p k z n y kl y' nd cs cs' g1 _ bh aY fZ sW aE p7 ab aM aH gD hk bd xA uc k8 jW =>
  have oG:=ke h sW bm
  obtain ⟨⟨u,VD,hu,tM,p6⟩,_⟩:=(ke h fZ bm).ni
  obtain ⟨gi,H0,rP,tK,Fx⟩:=aE.sound h.mi (Hand.one oG)
  have z1:dp kl:=aE.AH kl (by simp)
  obtain ⟨I',sd,oF,Fh,jh,iM,Sw⟩:=Kc rP tK z1 p7
  have mz:dp y':=p7.bI z1
  have gN:∀ c,H0 0 c->∃ t,Fs t c:=λc ab=>by
   rcases Fx c (.inr ⟨0,by simp,ab⟩) with gL | ⟨_,_,gL⟩
   ·exact gL
   ·exact gL.elim
  have hl:∀ c,lk gi 1 (λ_=>sd) c->lk Fs [y].length (λ_=>cW) c:=by
   rintro c (⟨t,ab⟩ | ⟨_,_,ab⟩)
   ·exact Fx c (.inl ⟨t,ab⟩)
   ·exact .inl (gN c (Sw c ab))
  obtain ⟨wV,Kr,FG,gW,QP⟩:=iM.cells mz ab
  have lf:∀ z q n m new,nd≠.bR z q n m new:=by rcases gD with rfl | rfl <;> simp
  obtain ⟨v,cO,hv,d',dG,_⟩:=jh.part aH lf
  rw [hu] at hv
  cases hv
  obtain ⟨b,gH,aJ,_⟩:=d'.node gD (List.getElem?_eq_getElem (show k<cs.length by omega))
  rw [tM] at aJ
  cases aJ
  have lx:∃ e arr,w.heap[b]?=some (.cells arr e (0,0))/\cs.length<=arr.size:=by
   rcases gD with rfl | rfl
   ·cases d' with
    | ref J=>simp [aj.isRef] at J
    | own oJ ao =>
     obtain ⟨mD,b6⟩:=oJ
     rcases b6 with ⟨rfl,_⟩ | ⟨hT,cap,cur,rfl,_,gx,s8,rh,uz,s9⟩
     ·simp [addrOf] at tM
     ·simp only [addrOf,Option.some.injEq,Addr.mk.injEq,and_true] at tM
      subst tM
      refine ⟨_,cur,gx,?_⟩
      rw [ao,<- s9,List.length_take]; simp; omega
   ·cases d' with
    | ref J=>simp [aj.isRef] at J
    | obj oJ ao =>
     simp only [addrOf,Option.some.injEq,Addr.mk.injEq,and_true] at tM
     subst tM
     exact ⟨_,_,oJ,by omega⟩
  obtain ⟨e,arr,lx,hle⟩:=lx
  obtain ⟨je,il,gE⟩:=jh.store aH gD hk Kr FG gW xA uc k8 jW hu tM lx
  have h3:(a.eval val).cells.toList.length=cs'.length:=Kr.len.symm
  have cm:=run_storeCells_at P b k e (a.eval val).cells.toList 0 arr w lx (by omega) (λu hu=>by
   obtain ⟨af,aa,rfl⟩:=List.mem_iff_getElem.1 hu
   exact gW af _ (List.getElem?_eq_getElem aa))
  simp only [Nat.add_zero] at cm
  have gv:(sizeOf t).run P w=.ok cs'.length w:=by
   unfold gG at aM
   cases hi:P.info? t with
   | none=>simp [hi] at aM
   | some i=>simp [hi] at aM; simp [sizeOf,typeInfo,hi,aM]
  have h4:(execOp a.eval o).run P w=.ok .skip (w.setRow b (fY arr.toList k (a.eval val).cells.toList).toArray):=by
   have hF:(a.eval val).cells.size=cs'.length:=by rw [<- Array.length_toList]; exact h3
   simp only [Nat.zero_add] at p6
   simp [execOp,bh,p6,Instr.storeAt,Instr.sureAddr,storeVar,gv,hF,cm,fY]
  unfold Oper.wp Oper.upon
  simp only [h4]
  have FC:∃ t,Fs t b:=by
   rcases hl b (.inl ⟨_,dG b (d'.Dt gD (ad:=⟨b,0,none⟩) tM)⟩) with aS | ⟨_,_,aS⟩
   ·exact aS
   ·exact aS.elim
  refine eA _ _ ⟨by rw [aY]; rfl,by rw [aY]; exact hR.refl,I',je,by rw [aY]; simpa [Act.put,bm] using il,⟨⟨rfl,rfl,rfl,by simp,λc _ ab=>setRow_other w b c _ (λe=>ab (e ▸ FC)),λa _=>E8 w b _ a,Nat.le_refl _⟩,oF,λc ab=>(Fh c ab).elim .inl λh=>.inr (.inl (gN c h)),λc ⟨t,ab⟩=>?_⟩⟩ λt _=>by rw [aY]; rfl
  rcases gE t c ab with aS | ⟨af,aa,aS⟩
  ·rcases hl c (.inl ⟨t,aS⟩) with gL | ⟨_,_,gL⟩
   ·exact .inl gL
   ·exact gL.elim
  ·rcases hl c (.inr ⟨0,by simp,QP af c aa aS⟩) with gL | ⟨_,_,gL⟩
   ·exact .inl gL
   ·exact gL.elim
theorem b9.sound (h:c_ w I T g Fs) {a:Act}(bm:a.tmps=T) {N:dW}(bY:a.tmps.size=N.size) {o:Oper}{g':aZ}(he:b9 P N g o g') {K:Act->World->Prop}{Q:Exit->Act->World->Prop}
  (eA:∀ cI w',ij N a w I Fs g' cI w'->K cI w'):o.wp P a w K Q:=he.mY w I T Fs h a bm bY K Q λcI w' h _=>eA cI w' h
end
end Go.Own
namespace Go.Own
open Go
def nU (g g':aZ):Prop:=∀ t x,g t=some x->g' t=some x
section
variable {P:Program}{g g':aZ}
theorem ft (h:nU g g') {x:Operand}{y:aj}(az:bO g x=some y):bO g' x=some y:=by
 cases x <;> simp only [bO] at az ⊢
 case tmp t =>
  cases J:g t with
  | none=>rw [J] at az; cases az
  | some z=>rw [J] at az; rw [h t z J]; exact az
 case const v=>exact az
 case global n=>exact az
 case func f=>exact az
theorem x0 (h:nU g g'):∀ {xs:List Operand}{ys:List aj},iP g xs=some ys->iP g' xs=some ys
 | [],_,az=>az
 | x::xs,ys,az=>by
  simp only [iP] at az ⊢
  cases J:bO g x with
  | none=>simp [J] at az
  | some y =>
   cases q6:iP g xs with
   | none=>simp [J,q6] at az
   | some BL=>simp only [J,q6] at az; simp only [ft h J,x0 h q6]; exact az
theorem L5 (h:nU g g'):∀ {l:List (Nat × Operand)}{ps:List (Nat × List aj)},re g l=some ps->re g' l=some ps
 | [],_,az=>az
 | (i,x)::l,ps,az=>by
  simp only [re] at az ⊢
  cases J:bO g x with
  | none=>simp [J] at az
  | some y =>
   cases q6:re g l with
   | none=>simp [J,q6] at az
   | some BL=>simp only [J,q6] at az; simp only [ft h J,L5 h q6]; exact az
theorem o0.mono (h:nU g g') {d:Nat}{x:Option Operand}{af:Nat}(aJ:o0 g d x af):o0 g' d x af:=by
 cases x with
 | none=>exact aJ
 | some o=>obtain ⟨k,hk⟩:=aJ; exact ⟨k,ft h hk⟩
theorem dA.mono (h:nU g g') {op:Op}{ty:TypeId}{x:aj}(aH:dA P g op ty x):dA P g' op ty x:=by
 cases aH with
 | move J=>exact .move (ft h J)
 | assign J=>exact .assign (ft h J)
 | pick ab ay=>exact .pick (ft h ab) (ft h ay)
 | Ds J=>exact .Ds (ft h J)
 | py J=>exact .py (ft h J)
 | zx J bn fo=>exact .zx (ft h J) bn (fo.mono h)
 | CG J bn=>exact .CG (ft h J) bn
 | CF J bn aE az=>exact .CF (ft h J) bn aE az
 | E4 J bn aE hk=>exact .E4 (ft h J) bn aE hk
 | Db J hi aE aa=>exact .Db (ft h J) (ft h hi) aE aa
 | Da J hi aE aa fo=>exact .Da (ft h J) (ft h hi) aE aa (fo.mono h)
 | GL J hi aE aa fo=>exact .GL (ft h J) (ft h hi) aE aa (fo.mono h)
 | GK J hi aE aa fo=>exact .GK (ft h J) (ft h hi) aE aa (fo.mono h)
 | GJ J hi aE aa=>exact .GJ (ft h J) (ft h hi) aE aa
 | Dm J aE=>exact .Dm (ft h J) aE
 | Dn J aE hk=>exact .Dn (ft h J) aE hk
 | Az J aE az=>exact .Az (ft h J) aE (kE h az)
 | vP J aE az ab hm=>exact .vP (ft h J) aE (kE h az) ab hm
 | Dc J hi aE aJ=>exact .Dc (ft h J) (ft h hi) aE aJ
 | bin J az hv ay=>exact .bin (ft h J) (ft h az) hv ay
 | yZ J az hv ay=>exact .yZ (ft h J) (ft h az) hv ay
 | un J hv ay=>exact .un (ft h J) hv ay
 | conv J hv ay=>exact .conv (ft h J) hv ay
 | Cr J aH aL hF aE=>exact .Cr (ft h J) (kE h aH) aL hF aE
 | Cs J aE=>exact .Cs (ft h J) aE
 | @EX xs iJ _ f vs v J hv ay =>
  refine .EX (vs:=vs) ?_ hv ay
  apply List.ext_getElem?
  intro k
  have:=congrArg (·[k]?) J
  simp only [List.getElem?_map] at this ⊢
  rw [<- this]
  cases hk:xs.toList[k]? with
  | none=>rfl
  | some o =>
   rw [hk] at this
   cases hv:vs[k]? with
   | none=>rw [hv] at this; cases this
   | some v =>
    rw [hv] at this
    simp only [Option.map_some,Option.some.injEq] at this ⊢
    rw [this,ft h this]
 | Cw J az=>exact .Cw (ft h J) az
 | Bx J ao b6 aE h1 al=>exact .Bx (ft h J) (ao.mono h) (b6.mono h) aE h1 al
 | HT J ao b6 aE aL fo=>exact .HT (ft h J) (ao.mono h) (b6.mono h) aE aL (fo.mono h)
 | DP J ao b6 aE h1 al fo=>exact .DP (ft h J) (ao.mono h) (b6.mono h) aE h1 al (fo.mono h)
 | By J ao b6 aE h1 al=>exact .By (ft h J) (ao.mono h) (b6.mono h) aE h1 al
 | Ax J aE=>exact .Ax (ft h J) aE
 | Aw J aE=>exact .Aw (ft h J) aE
 | G' J aE=>exact .G' (ft h J) aE
 | G_ J aE=>exact .G_ (ft h J) aE
 | Dl J aH az eA bj ay=>exact .Dl (ft h J) (kE h aH) (ft h az) eA bj ay
 | Ay J az eA bj ay=>exact .Ay (ft h J) (ft h az) eA bj ay
 | @lits b xs iJ _ vs v J hv ay =>
  refine .lits (vs:=vs) ?_ hv ay
  clear ay
  generalize xs.toList=l at J
  induction l generalizing vs with
  | nil=>exact J
  | cons x l aR =>
   cases vs with
   | nil=>simp at J
   | cons v vs =>
    simp only [List.map_cons,List.cons.injEq] at J ⊢
    exact ⟨ft h J.1,aR J.2⟩
theorem o2.mono (h:nU g g') {op:Op}{ty:TypeId}{x:aj}(aH:o2 P g op ty x):o2 P g' op ty x:=by
 cases aH with
 | box J ab=>exact .box (ft h J) ab
 | alloc bJ h1=>exact .alloc bJ h1
 | makeMap bN=>exact .makeMap bN
 | buildSlice aE aH J bJ ab aJ aL hzero=>exact .buildSlice aE aH (x0 h J) bJ ab aJ aL hzero
 | makeSlice aE J az hzero h1 n9 aJ aL nD s3 C'=>exact .makeSlice aE (ft h J) (ft h az) hzero h1 n9 aJ aL nD s3 C'
theorem tp.mono (h:nU g g') {op:Op}{ty:TypeId}{x:aj}(aH:tp P g op ty x):tp P g' op ty x:=by
 cases aH with
 | build aE bJ h1 aH ab=>exact .build aE bJ h1 (L5 h aH) ab
 | makeFunc bm aJ=>exact .makeFunc (x0 h bm) (x0 h aJ)
theorem Src.mono (h:nU g g') {y:aj}{z m:Nat}{cells:List aj}(aM:Src g y z m cells):Src g' y z m cells:=by
 cases aM with
 | aF=>exact .aF
 | aI=>exact .aI
 | bl bN hm=>exact .bl (kE h bN) hm
 | sub bN hm=>exact .sub (kE h bN) hm
theorem dJ.mono (h:nU g g') {op:Op}{ty:TypeId}{x:aj}(aH:dJ P g op ty x) (gP:∀ z p n m new,x=.bR z p n m new->∀ t cN cY m' dq,g' t≠some (.bR cN p cY m' dq)):dJ P g' op ty x:=by
 cases aH with
 | fA aH=>exact .fA (aH.mono h)
 | qi aH=>exact .qi (aH.mono h)
 | Dz aH=>exact .Dz (aH.mono h)
 | lA aH =>
  cases aH with
  | grow aM fo _ J q2 aE p3 aJ=>exact .lA (.grow (ft h aM) (fo.mono h) (gP _ _ _ _ _ rfl) (ft h J) (q2.mono h) aE p3 aJ)
  | nil aM J q2 aE p3 aJ=>exact .lA (.nil (ft h aM) (ft h J) (q2.mono h) aE p3 aJ)
theorem View.mono (h:nU g g') {x y:aj}(hv:View g x y):View g' x y:=by
 induction hv with
 | py=>exact .py
 | self h1 al aP b3 dF e0=>exact .self h1 al aP b3 dF e0
 | mp=>exact .mp
 | hN aH=>exact .hN (kE h aH)
 | agg ao _ aR=>exact .agg ao aR
 | own ao _ aR=>exact .own ao aR
 | obj ao _ aR=>exact .obj ao aR
 | ey ao _ aR=>exact .ey ao aR
 | bl aH aL ao _ aR=>exact .bl (kE h aH) aL ao aR
 | sub aH aL ao _ aR=>exact .sub (kE h aH) aL ao aR
 | ptr aH az hk ao _ aR=>exact .ptr (kE h aH) az hk ao aR
 | rows aH ao _ aR=>exact .rows (aH.mono (λaH=>kE h aH) h) ao aR
theorem cr.mono (h:nU g g') {op:Op}{x:aj}(aH:cr P g op x):cr P g' op x:=by
 cases aH with
 | plain ab J bn aL ji ay=>exact .plain (ft h ab) (x0 h J) bn aL ji ay
 | Dk ab J bn ao hv ji ay=>exact .Dk (ft h ab) (x0 h J) bn ao (λk x y J az=>(hv k x y J az).mono h) ji ay
def iX (g:aZ) (ops:Array Oper) (o:Oper) (b:Bool):Prop :=
 match o.guard with
 | none=>b=true
 | some (af,want)=>∃ t,(ops[af]?).bind (·.dst)=some t/\((∃ c,g t=some (.lit (.bool c))/\b=(c == want))\/(g t=some (.cG [])/\b=false))
theorem iX.mono (h:nU g g') {ops:Array Oper}{o:Oper}{b:Bool}(hw:iX g ops o b):iX g' ops o b:=by
 unfold iX at *
 split
 ·rename_i a'; rw [a'] at hw; exact hw
 ·rename_i af want a'
  rw [a'] at hw
  obtain ⟨t,h1,⟨c,al,aP⟩ | ⟨al,aP⟩⟩:=hw
  ·exact ⟨t,h1,.inl ⟨c,h t _ al,aP⟩⟩
  ·exact ⟨t,h1,.inr ⟨h t _ al,aP⟩⟩
theorem iX.sound {w:World}{I:br}{T:Array Value}{Fs:Nat->br}(bU:c_ w I T g Fs) {ops:Array Oper}{o:Oper}{b:Bool}(hw:iX g ops o b):Region.wanted o (yielded ops T)=b:=by
 unfold iX at hw
 unfold Region.wanted
 split at hw
 ·rename_i a'; rw [a']; exact hw.symm
 ·rename_i af want a'
  rw [a']
  obtain ⟨t,h1,⟨c,al,aP⟩ | ⟨al,aP⟩⟩:=hw
  ·obtain ⟨v,hv,bj⟩:=bU.rel _ _ al
   have:=(bj.hM (by simp)).im.1
   subst this
   subst aP
   simp only [yielded,h1,Option.bind_some,hv]
   cases c <;> cases want <;> rfl
  ·obtain ⟨v,hv,bj⟩:=bU.rel _ _ al
   have:∃ vs,v=.tuple vs:=by
    cases bj.hM (by simp) with
    | cG=>exact ⟨_,rfl⟩
    | ref J=>simp [aj.isRef] at J
   obtain ⟨vs,rfl⟩:=this
   subst aP
   simp only [yielded,h1,Option.bind_some,hv]
   cases want <;> rfl
def o6 (P:Program) (g:aZ) (ops:Array Oper) (o:Oper):Option aj->Prop
 | none=>iX g ops o false
 | some x=>(iX g ops o true/\(dJ P g o.op o.type x\/cr P g o.op x))\/(iX g ops o false/\x=.cG [])\/(iX g ops o true/\∃ y,(dJ P g o.op o.type y\/cr P g o.op y)/\dp y/\View (λ_=>none) y x)
theorem o6.mono (h:nU g g') {ops:Array Oper}{o:Oper}{r:Option aj}(aM:o6 P g ops o r) (gP:∀ z p n m new,r=some (.bR z p n m new)->∀ t cN cY m' dq,g' t≠some (.bR cN p cY m' dq)):o6 P g' ops o r:=by
 cases r with
 | none=>exact iX.mono h aM
 | some x =>
  rcases aM with aM | ⟨aM,J⟩ | ⟨aM,y,aH,aL,hv⟩
  ·refine .inl ⟨aM.1.mono h,?_⟩
   rcases aM.2 with aH | aH
   ·exact .inl (aH.mono h λz p n m new e=>gP z p n m new (by rw [e]))
   ·exact .inr (aH.mono h)
  ·exact .inr (.inl ⟨aM.mono h,J⟩)
  ·refine .inr (.inr ⟨aM.mono h,y,?_,aL,hv⟩)
   rcases aH with aH | aH
   ·exact .inl (aH.mono h λz p n m new e=>by subst e; cases aL)
   ·exact .inr (aH.mono h)
def leaf:aj->Bool
 | .own .. | .obj .. | .agg .. | .cG .. | .bR .. | .mp ..=>false
 | _=>true
def del (g:aZ) (d:Nat):aZ:=λt=>if t=d then none else g t
theorem Tw {x y:aj}(h:leaf x=true):∀ {q:List Nat},x.at q=some y->y=x
 | [],az=>by simpa [aj.at] using az.symm
 | k::q,az=>by
  have:x.kids=[]:=by cases x <;> first | rfl | simp [leaf] at h
  simp [aj.at,this] at az
theorem w9 {d:Nat}{x:aj}(aY:g d=some x) (ao:leaf x=true) {p:Place}{y:aj}(aH:b7 g p=some y) (az:leaf y=false):b7 (del g d) p=some y:=by
 have ay:p.root≠d:=by
  intro e
  unfold b7 at aH
  rw [e,aY] at aH
  rw [Tw ao aH,ao] at az
  cases az
 simp only [b7,del,if_neg ay] at aH ⊢
 exact aH
theorem gK.del {d:Nat}{x:aj}(aY:g d=some x) (ao:leaf x=true) {r:aj}(h:gK g r):gK (del g d) r:=by
 have root:∀ {t:Nat}{y:aj},g t=some y->leaf y=false->Own.del g d t=some y:=by
  intro t y aE az
  have:t≠d:=by
   rintro rfl
   rw [aY] at aE
   cases aE
   rw [ao] at az; cases az
  simp only [Own.del,if_neg this,aE]
 cases r <;> simp only [gK] at h ⊢
 case ptr p k =>
  obtain ⟨y,az,z,n,cs,eH,hk⟩:=h
  exact ⟨y,w9 aY ao az (by rcases eH with rfl | rfl <;> rfl),z,n,cs,eH,hk⟩
 case bl z p n =>
  rcases h with ⟨N,cs,az,aL⟩ | ⟨h1,q,hd,m,new,al,aP⟩
  ·exact .inl ⟨N,cs,w9 aY ao az rfl,aL⟩
  ·exact .inr ⟨h1,q,hd,m,new,root al rfl,aP⟩
 case sub z p lo n =>
  obtain ⟨N,cs,az,aL⟩:=h
  exact ⟨N,cs,w9 aY ao az rfl,aL⟩
 case hN p=>obtain ⟨q,h⟩:=h; exact ⟨q,w9 aY ao h rfl⟩
 case bR z p n m new =>
  rcases h with ⟨cs,az⟩ | ⟨h1,q,hd,m,new,cs,al,aP,b3⟩
  ·exact .inl ⟨cs,w9 aY ao az rfl⟩
  ·exact .inr ⟨h1,q,hd,m,new,cs,root al rfl,aP,w9 aY ao b3 rfl⟩
theorem R.Tv {w:World}{I:br}{ρ:aj->Value->Prop}{x:aj}{v:Value}{F:br}(h:R w I ρ x v F) (ao:leaf x=true):∀ c,¬ F c:=by
 cases h with
 | own | obj | agg | cG | mp=>simp [leaf] at ao
 | lit _ aQ | aI aQ | dead aQ | ref _ _ aQ | hY aQ | aF aQ | bo aQ | ey aQ | imp aQ=>exact aQ
theorem c_.drop {w:World}{I:br}{T:Array Value}{Fs:Nat->br}(h:c_ w I T g Fs) {d:Nat}{x:aj}(aY:g d=some x) (ao:leaf x=true):c_ w I T (del g d) Fs:=by
 refine ⟨λt y az=>?_,λt aE c ab=>?_,h.e8,h.aF,h.lt,λt ds z p n m new cN cY m' dq h1 al=>?_⟩
 ·have mF:g t=some y:=by
   unfold del at az
   split at az
   ·cases az
   ·exact az
  obtain ⟨v,hv,bj⟩:=h.rel t y mF
  exact ⟨v,hv,bj.frame (λ_ _=>rfl) (λ_ h=>h) (λ_ _ ay=>⟨ay.1,ay.2.del aY ao⟩) (λ_ _ _ _ _ _ _=>rfl) λ_ _=>rfl⟩
 ·unfold del at aE
  split at aE
  ·rename_i e
   subst e
   obtain ⟨v,hv,bj⟩:=h.rel t x aY
   exact (bj.hM (by rintro z p n m new rfl; simp [leaf] at ao)).Tv ao c ab
  ·exact h.kO t aE c ab
 ·have key:∀ {t:Nat}{y:aj},del g d t=some y->g t=some y:=by
   intro t y az
   unfold del at az
   split at az
   ·cases az
   ·exact az
  exact h.qk _ _ _ _ _ _ _ _ _ _ _ (key h1) (key al)
end
end Go.Own
namespace Go.Own
open Go
def wi (g:aZ) (d:Nat):Option aj->aZ
 | some x=>e' g d x
 | none=>g
section
variable {P:Program}{w:World}{I:br}{T:Array Value}{g:aZ}{Fs:Nat->br}{N:dW}{ops:Array Oper}
theorem kX.refl (w:World) (I U:br):kX w I U w I U:=⟨Fr.refl _ _,λ_ h=>h,λ_ h=>.inl h,λ_ h=>.inl h⟩
theorem kX.trans {w jC iv:World}{I yM BS U w4 IC:br}(h:kX w I U jC yM w4) (h1:kX jC yM w4 iv BS IC):kX w I U iv BS IC:=by
 have lQ:∀ c,c<w.heap.size->w4 c->U c:=λc ab hu=>by
  rcases h.own c hu with aS | aS
  ·exact aS
  ·omega
 refine ⟨h.fJ.trans h1.fJ lQ,λc ab=>h1.more c (h.more c ab),λc ab=>?_,λc ab=>?_⟩
 ·rcases h1.new c ab with aS | aS | aS
  ·exact h.new c aS
  ·rcases h.own c aS with gL | gL
   ·exact .inr (.inl gL)
   ·exact .inr (.inr gL)
  ·exact .inr (.inr (Nat.le_trans h.fJ.size aS))
 ·rcases h1.own c ab with aS | aS
  ·exact h.own c aS
  ·exact .inr (Nat.le_trans h.fJ.size aS)
theorem ij.trans {N:dW}{a aw a2:Act}{jC iv:World}{yM:br}{gi:Nat->br}{g2:aZ}(h1:aw.defers=a.defers) (al:hR N a.tmps aw.tmps) (cm:kX w I (λc=>∃ t,Fs t c) jC yM (λc=>∃ t,gi t c)) (h:ij N aw jC yM gi g2 a2 iv):ij N a w I Fs g2 a2 iv:=by
 obtain ⟨dy,de,BS,je,bU,nE⟩:=h
 exact ⟨dy.trans h1,al.trans de,BS,je,bU,cm.trans nE⟩
theorem c_.T6 (h:c_ w I T g Fs) {d:Nat}(aY:g d=none) (v:Value):c_ w I (T.setIfInBounds d v) g Fs:=by
 have fP:∀ t,g t≠none->(T.setIfInBounds d v)[t]?=T[t]?:=by
  intro t aE
  rw [Array.getElem?_setIfInBounds_ne]
  rintro rfl; exact aE aY
 refine ⟨λt x J=>?_,h.kO,h.e8,h.aF,h.lt,h.qk⟩
 obtain ⟨u,hu,bj⟩:=h.rel t x J
 exact ⟨u,by rw [fP t (by rw [J]; simp)]; exact hu,h.vc fP (λ_ _ _=>rfl) (λ_ _=>rfl) (λ_ h=>h) (λ_ _ h=>h) bj λ_ _=>rfl⟩
structure Ea (eF:Nat->Bool) (g g2:aZ):Prop where
 lQ:∀ t x,g2 t=some x->eF t=false->g t=some x/\e7 g2 x
 q7:∀ t x,g2 t=some x->eF t=true->∃ y,g t=some y/\dp y/\jF y x
 fR:∀ t z q n m new,g2 t≠some (.bR z q n m new)
theorem c_.tE (h:c_ w I T g Fs) {eF:Nat->Bool}{g2:aZ}(bJ:Ea eF g g2):∃ I' cp,c_ w I' T g2 cp/\kX w I (λc=>∃ t,Fs t c) w I' (λc=>∃ t,cp t c):=by
 have CM:=h.mi
 have AG:∀ t x,g2 t=some x->∀ z p n m new,x≠.bR z p n m new:=by
  rintro t x J z p n m new rfl
  exact bJ.fR _ _ _ _ _ _ J
 -- of each slot what it owns from now on
 have:∀ t,∃ fO:br,(∀ c,fO c->Fs t c/\g2 t≠none)/\∀ x,g2 t=some x->(eF t=false->∀ c,Fs t c->fO c)/\∃ v,T[t]?=some v/\R w (λc=>I c\/(Fs t c/\¬ fO c)) (er w T g2) x v fO:=by
  intro t
  cases J:g2 t with
  | none=>exact ⟨cW,λ_ h=>h.elim,λx h=>by cases h⟩
  | some x =>
   cases aE:eF t with
   | false =>
    obtain ⟨h1,al⟩:=bJ.lQ t x J aE
    obtain ⟨v,hv,bj⟩:=CM.rel t x h1
    refine ⟨Fs t,λc ab=>⟨ab,by simp⟩,λy az=>?_⟩
    cases az
    exact ⟨λ_ _ h=>h,v,hv,((bj.hM (AG t x J)).bk al).nn λc ab=>.inl ab⟩
   | true =>
    obtain ⟨y,h1,al,aP⟩:=bJ.q7 t x J aE
    obtain ⟨v,hv,bj⟩:=CM.rel t y h1
    have jv:=bj.hM (by rintro z p n m new rfl; cases al)
    obtain ⟨fO,aM,Q2⟩:=R.eF aP jv al (λc ab=>CM.aF t c ab) CM.lt
    refine ⟨fO,λc ab=>⟨aM c ab,by simp⟩,λz bJ=>?_⟩
    cases bJ
    exact ⟨λh=>absurd h (by simp),v,hv,Q2.bI (aP.bI al)⟩
 obtain ⟨cp,ju⟩:=Classical.axiomOfChoice this
 refine ⟨λc=>I c\/∃ t,Fs t c/\g2 t≠none/\¬ cp t c,cp,⟨λt x J=>?_,λt aE c ab=>((ju t).1 c ab).2 aE,λt ds c ab fu=>h.e8 t ds c ((ju t).1 c ab).1 ((ju ds).1 c fu).1,λt c ab hi=>?_,λc ab=>?_,λt ds z p n m new cN cY m' dq h1 _=>absurd h1 (bJ.fR _ _ _ _ _ _)⟩,Fr.refl _ _,λ_ h=>.inl h,λc ab=>?_,λc ⟨t,ab⟩=>.inl ⟨t,((ju t).1 c ab).1⟩⟩
 ·obtain ⟨_,v,hv,bj⟩:=(ju t).2 x J
  exact ⟨v,hv,.tree (bj.nn λc ab=>ab.elim .inl λab=>.inr ⟨t,ab.1,by rw [J]; simp,ab.2⟩)⟩
 ·rcases hi with aS | ⟨s,h1,_,al⟩
  ·exact h.aF t c ((ju t).1 c ab).1 aS
  ·have:=h.e8 t s c ((ju t).1 c ab).1 h1
   subst this
   exact al ab
 ·rcases ab with aS | ⟨s,aS,_⟩
  ·exact h.lt c aS
  ·exact h.j0 s c aS
 ·rcases ab with aS | ⟨s,aS,_⟩
  ·exact .inl aS
  ·exact .inr (.inl ⟨s,aS⟩)
theorem o6.sound (h:c_ w I T g Fs) {a:Act}(bm:a.tmps=T) (bY:a.tmps.size=N.size) {o:Oper}{r:Option aj}{d:Nat}(aM:o6 P g ops o r) (aY:o.dst=some d) (a':g d=none) (jw:N.ok d=true) {K:Act->World->Prop}{Q:Exit->Act->World->Prop}
  (eA:∀ cI w',ij N a w I Fs (wi g d r) cI w'->K cI w') :
  if Region.wanted o (yielded ops a.tmps) then o.wp P a w K Q\/(o.asks P a w/\LetsOut Q) else K (a.put o.dst undef) w:=by
 subst bm
 cases r with
 | none =>
  rw [iX.sound h aM]
  simp only [Bool.false_eq_true,if_false]
  refine eA _ _ ⟨by rw [aY]; rfl,by rw [aY]; exact hR.put jw _ _,I,Fs,by rw [aY]; exact h.T6 a' _,kX.refl _ _ _⟩
 | some x =>
  have fin:∀ x v w',tl w I a.tmps g Fs x v w'->(∀ cI w',ij N a w I Fs (e' g d x) cI w'->K cI w')->K (a.put o.dst v) w':=by
   rintro x v w' ⟨F,I',bU,bj,h1,al,aP,b3,dF,e0⟩ eA
   refine eA _ _ ⟨by rw [aY]; rfl,by rw [aY]; exact hR.put jw _ _,I',_,by rw [aY]; exact bU.s6 a' (by rw [bY]; exact dW.lt jw) bj (λt c ab bn=>h1 t c ab bn) (λc ab=>(al c ab).2) e0,⟨dF,aP,λc ab=>?_,λc ab=>?_⟩⟩
   ·rcases b3 c ab with aS | aS
    ·exact .inl aS
    ·exact .inr (.inr aS)
   ·rcases uI ab with aS | aS
    ·exact .inl aS
    ·exact .inr (al c aS).1
  have q7:∀ y v w',dp y->View (λ_=>none) y x->tl w I a.tmps g Fs y v w'->tl w I a.tmps g Fs x v w':=by
   rintro y v w' aL hv ⟨F,I',bU,bj,h1,al,aP,b3,dF,e0⟩
   have d':=bj.hM (by rintro z p n m new rfl; cases aL)
   refine ⟨cW,λc=>I' c\/F c,⟨λt z bJ=>?_,bU.kO,bU.e8,λt c ab hi=>?_,λc ab=>?_,bU.qk⟩,.tree (d'.q7 aL hv (λc ab=>(al c ab).2) bU.lt),λ_ _ h=>h.elim,λ_ h=>h.elim,λc ab=>.inl (aP c ab),λc ab=>?_,dF,?_⟩
   ·obtain ⟨u,hu,mu⟩:=bU.rel t z bJ
    exact ⟨u,hu,mu.nn λc ab=>.inl ab⟩
   ·rcases hi with h | h
    ·exact bU.aF t c ab h
    ·exact h1 t c h ab
   ·rcases ab with h | h
    ·exact bU.lt c h
    ·exact d'.lt c h
   ·rcases ab with h | h
    ·exact b3 c h
    ·exact .inr (al c h).1
   ·rintro z p n m new rfl
    cases hv with
    | self h=>cases h
  rcases aM with aM | ⟨aM,rfl⟩ | ⟨aM,y,aH,aL,hv⟩
  rotate_left
  rotate_left
  ·rw [iX.sound h aM]
   simp only [if_true]
   refine .inl ?_
   have Ka:∀ v w',tl w I a.tmps g Fs y v w'->K (a.put o.dst v) w':=λv w' ek=>fin x v w' (q7 y v w' aL hv ek) eA
   rcases aH with aH | aH
   ·obtain ⟨v,w',h4,ek⟩:=aH.sound h rfl
    unfold Oper.wp Oper.upon
    simp only [h4]
    exact Ka v w' ek
   ·exact aH.sound h rfl Ka
  rotate_left
  ·rw [iX.sound h aM]
   simp only [Bool.false_eq_true,if_false]
   refine eA _ _ ⟨by rw [aY]; rfl,by rw [aY]; exact hR.put jw _ _,I,_,by rw [aY]; exact h.s6 a' (by rw [bY]; exact dW.lt jw) (.tree (.cG (Fs:=λ_=>cW) (F:=cW) rfl (λk x u J _=>by simp at J) (λ_ _ _ _ _ h=>h.elim) (λc=>⟨λh=>h.elim,λ⟨_,_,h⟩=>h⟩))) (λ_ _ h=>h.elim) (λ_ h=>h.elim) (λ_ _ _ _ _ e=>by cases e),⟨Fr.refl _ _,λ_ h=>h,λ_ h=>.inl h,λc ab=>?_⟩⟩
   rcases uI ab with aS | aS
   ·exact .inl aS
   ·exact aS.elim
  rw [iX.sound h aM.1]
  simp only [if_true]
  refine .inl ?_
  have fin:∀ v w',tl w I a.tmps g Fs x v w'->K (a.put o.dst v) w':=by
   rintro v w' ⟨F,I',bU,bj,h1,al,aP,b3,dF,e0⟩
   refine eA _ _ ⟨by rw [aY]; rfl,by rw [aY]; exact hR.put jw _ _,I',_,by rw [aY]; exact bU.s6 a' (by rw [bY]; exact dW.lt jw) bj (λt c ab bn=>h1 t c ab bn) (λc ab=>(al c ab).2) e0,⟨dF,aP,λc ab=>?_,λc ab=>?_⟩⟩
   ·rcases b3 c ab with aS | aS
    ·exact .inl aS
    ·exact .inr (.inr aS)
   ·rcases uI ab with aS | aS
    ·exact .inl aS
    ·exact .inr (al c aS).1
  rcases aM.2 with aH | aH
  ·obtain ⟨v,w',h4,ek⟩:=aH.sound h rfl
   unfold Oper.wp Oper.upon
   simp only [h4]
   exact fin v w' ek
  ·exact aH.sound h rfl fin
inductive nV (P:Program) (N:dW) (ops:Array Oper):List Nat->aZ->aZ->Prop
 | nil {g:aZ}:nV P N ops [] g g
 | step {i:Nat}{rest:List Nat}{g g':aZ}{o:Oper}{d:Nat}{r:Option aj}(bh:ops[i]?=some o) (aY:o.dst=some d) (a':g d=none) (jw:N.ok d=true) (aM:o6 P g ops o r)
   (ay:nV P N ops rest (wi g d r) g'):nV P N ops (i::rest) g g'
 | mY {i:Nat}{rest:List Nat}{g g1 g':aZ}{o:Oper}(bh:ops[i]?=some o) (hw:iX g ops o true) (he:b9 P N g o g1) (ay:nV P N ops rest g1 g'):nV P N ops (i::rest) g g'
 | drop {is:List Nat}{g g':aZ}{d:Nat}{x:aj}(aY:g d=some x) (ao:leaf x=true) (ay:nV P N ops is (del g d) g'):nV P N ops is g g'
 | forget {is:List Nat}{g g1 g':aZ}(hk:hS g g1) (ay:nV P N ops is g1 g'):nV P N ops is g g'
 | tE {is:List Nat}{g g1 g':aZ}{eF:Nat->Bool}(hk:Ea eF g g1) (ay:nV P N ops is g1 g'):nV P N ops is g g'
theorem nV.sound {is:List Nat}{g':aZ}(ay:nV P N ops is g g'):∀ {a:Act}{w:World}{I:br}{Fs:Nat->br}{Q:Exit->Act->World->Prop},c_ w I a.tmps g Fs->a.tmps.size=N.size ->
  (∀ cI w',ij N a w I Fs g' cI w'->Q .normal cI w')->wpOps P ops Q is a w:=by
 induction ay with
 | nil=>exact λbU bY ef=>ef _ _ ⟨rfl,hR.refl,_,_,bU,kX.refl _ _ _⟩
 | @step i rest g g' o d r bh aY a' jw aM _ aR =>
  intro a w I Fs Q bU bY ef
  simp only [wpOps,bh]
  refine aM.sound bU rfl bY aY a' jw λcI w' aL=>?_
  obtain ⟨dy,de,I',cp,eG,cm⟩:=aL
  exact aR eG (de.1.trans bY) λa2 iv al=>ef _ _ (ij.trans dy de cm al)
 | @mY i rest g g1 g' o bh hw he _ aR =>
  intro a w I Fs Q bU bY ef
  simp only [wpOps,bh,hw.sound bU,if_true]
  refine .inl (he.sound bU rfl bY λcI w' aL=>?_)
  obtain ⟨dy,de,I',cp,eG,cm⟩:=aL
  exact aR eG (de.1.trans bY) λa2 iv al=>ef _ _ (ij.trans dy de cm al)
 | @drop is g g' d x aY ao _ aR=>exact λbU bY ef=>aR (bU.drop aY ao) bY ef
 | @tE is g g1 g' eF hk _ aR =>
  intro a w I Fs Q bU bY ef
  obtain ⟨I',cp,eG,cm⟩:=bU.tE hk
  exact aR eG bY λa2 iv al=>ef _ _ (ij.trans rfl hR.refl cm al)
 | @forget is g g1 g' hk _ aR =>
  intro a w I Fs Q bU bY ef
  have eG:=bU.mi.keep hk
  refine aR eG bY λa2 iv al=>ef _ _ (ij.trans rfl hR.refl ⟨Fr.refl _ _,λ_ h=>h,λ_ h=>.inl h,λc ab=>?_⟩ al)
  obtain ⟨t,_,ab⟩:=ab
  exact .inl ⟨t,ab⟩
end
end Go.Own
namespace Go.Own
open Go
def rj (rs:List Nat):Place->Prop:=λp=>p.root∈rs
def o1 (P:Program) (N:dW) (rs:Place->Prop) (g:aZ) (o:Oper) (g':aZ):Prop :=
 ∀ (w:World) (I:br) (T:Array Value) (Fs:Nat->br),c_ w I T g Fs->∀ (a:Act),a.tmps=T->a.tmps.size=N.size->∀ (K:Act->World->Prop) (Q:Exit->Act->World->Prop),
  (∀ (cI:Act) (w':World),ij N a w I Fs g' cI w'->(∀ t,o.dst≠some t->cI.tmps[t]?=a.tmps[t]?)->(∀ r path,rs ⟨r,path⟩->∀ y,b7 g ⟨r,path⟩=some y->(∀ z q n m new,y≠.bR z q n m new)->eo w' cI.tmps ⟨r,path⟩=eo w T ⟨r,path⟩)->K cI w')->o.wp P a w K Q
theorem kV.v {P:Program}{N:dW}{g g':aZ}{o:Oper}(h:kV P N g o g'):o1 P N (rj []) g o g' :=
 λw I T Fs bU a bm bY K Q eA=>h w I T Fs bU a bm bY K Q λcI w' h1 al=>eA cI w' h1 al λ_ _ h=>by simp [rj] at h
inductive o3:aj->Prop
 | lit {v:Value}:o3 (.lit v)
 | aI:o3 .aI
 | aF {z n:Nat}{cs:List aj}(h:∀ x∈cs,dp x):o3 (.aF z n cs)
 | agg {cs:List aj}(h:∀ x∈cs,o3 x):o3 (.agg cs)
theorem o3.bI {x:aj}(h:o3 x):dp x:=by
 induction h with
 | lit=>exact .lit
 | aI=>exact .aI
 | aF h=>exact .aF h
 | agg _ aR=>exact .agg aR
theorem o3.kO {w:World}{I:br}{ρ:aj->Value->Prop}{x:aj}(h:o3 x):∀ {v:Value}{F:br},R w I ρ x v F->∀ c,¬ F c:=by
 induction h with
 | lit =>
  intro v F bj
  cases bj with
  | lit _ aQ=>exact aQ
  | ref J=>simp [aj.isRef] at J
 | aI =>
  intro v F bj
  cases bj with
  | aI aQ=>exact aQ
  | ref J=>simp [aj.isRef] at J
 | aF =>
  intro v F bj
  cases bj with
  | ref J=>simp [aj.isRef] at J
  | hY aQ=>exact aQ
  | aF aQ=>exact aQ
 | @agg cs _ aR =>
  intro v F bj c ab
  cases bj with
  | ref J=>simp [aj.isRef] at J
  | @agg _ vs bK _ ao h1 ay aY k6 =>
   obtain ⟨k,hk,al⟩:=(k6 c).1 ab
   have hu:vs[k]?=some (vs[k]'(by omega)):=Array.getElem?_eq_getElem (by omega)
   exact aR _ (List.getElem_mem hk) (ay k _ _ (List.getElem?_eq_getElem hk) hu) c al
structure D8 (g:aZ):Prop where
 bk:∀ t x,g t=some x->e7 g x
 fR:∀ t z q n m new,g t≠some (.bR z q n m new)
def yV (rs:Place->Prop) (g g1:aZ) (o:Oper) (x:aj):Prop:=(∃ r path z n N cs,x=.bl z ⟨r,path⟩ n/\rs ⟨r,path⟩/\b7 g ⟨r,path⟩=some (.own z N cs)/\b7 g1 ⟨r,path⟩=some (.own z N cs)/\n<=N)\/(∃ v,x=.lit v)\/(∃ s p k,x=.ptr p k/\g s=some x/\g1 s=some x/\o.dst≠some s)\/(∃ r k cs,x=.ptr ⟨r,[]⟩ k/\g1 r=some (.obj cs)/\k<cs.length/\o.dst≠some r/\∃ cs',g r=some (.obj cs')/\k<cs'.length)\/(∃ z n cs,x=.aF z n cs/\dp x)\/(∃ cs,x=.agg cs/\o3 x/\D8 g)
section
variable {P:Program}{N:dW}{g g1:aZ}{o:Oper}
theorem MD {T:Array Value}{t:Nat}{v:Value}(h:T[t]?=some v):T.setIfInBounds t v=T:=by
 apply Array.ext (by simp)
 intro i h1 al
 rw [Array.getElem_setIfInBounds]
 split
 ·rename_i e
  subst e
  have:=(Array.getElem?_eq_some_iff.1 h)
  exact this.2.symm
 ·rfl
theorem c_.PH {w:World}{I:br}{T:Array Value}{Fs:Nat->br}{t:Nat}{x:aj}(h:c_ w I T (e' g t x) Fs) (a':g t=none) (ab:D8 g) (k5:∀ c,¬ Fs t c):c_ w I T g Fs:=by
 have gE:∀ s y,g s=some y->e' g t x s=some y:=λs y aM=>by
  unfold e'
  rw [if_neg (λe=>by rw [e,a'] at aM; cases aM)]; exact aM
 have al:=h.mi.keep (g2:=g) ⟨gE,ab.bk,ab.fR⟩
 have e:(λs c=>g s≠none/\Fs s c)=Fs:=by
  funext s c
  apply propext
  refine ⟨λh=>h.2,λbn=>⟨λaL=>?_,bn⟩⟩
  by_cases aM:s=t
  ·subst aM; exact k5 c bn
  ·exact h.kO s (by unfold e'; rw [if_neg aM]; exact aL) c bn
 rw [e] at al
 exact al
theorem o1.extra {rs:Place->Prop}(h:o1 P N rs g o g1) {t:Nat}{x:aj}(lN:∀ p,rs p->g p.root≠none) (a':g t=none) (RP:g1 t=none) (aE:o.dst≠some t) (J:yV rs g g1 o x):o1 P N rs (e' g t x) o (e' g1 t x):=by
 intro w I T Fs bU a bm bY K Q eA
 have Gl:e' g t x t=some x:=by simp [e']
 have k8:∀ z q n m new,x≠.bR z q n m new:=by
  rcases J with ⟨r,path,z,n,N,cs,rfl,_⟩ | ⟨v,rfl⟩ | ⟨s,p,k,rfl,_⟩ | ⟨r,k,cs,rfl,_⟩ | ⟨z,n,cs,rfl,_⟩ | ⟨cs,rfl,_⟩ <;> simp
 have rP:c_ w I T g Fs:=by
  have y1:leaf x=true->c_ w I T g Fs:=λxE=>by
   have:=bU.drop Gl xE
   have e:del (e' g t x) t=g:=by
    funext s
    unfold del e'
    by_cases aM:s=t
    ·subst aM; simp [a']
    ·simp [aM]
   rwa [e] at this
  rcases J with ⟨r,path,z,n,N,cs,rfl,_⟩ | ⟨v,rfl⟩ | ⟨s,p,k,rfl,_⟩ | ⟨r,k,cs,rfl,_⟩ | ⟨z,n,cs,rfl,_⟩ | ⟨cs,rfl,vx,h3⟩
  ·exact y1 rfl
  ·exact y1 rfl
  ·exact y1 rfl
  ·exact y1 rfl
  ·exact y1 rfl
  ·obtain ⟨v,_,oG⟩:=bU.rel t _ Gl
   exact bU.PH a' h3 (vx.kO (oG.hM (by simp)))
 obtain ⟨v,hv,oG⟩:=bU.rel t x Gl
 refine h w I T Fs rP a bm bY K Q λcI w' aL rV Ls=>eA cI w' ?_ rV λr path ay y az k8=>?_
 rotate_left
 ·by_cases Lf:r=t
  ·subst Lf
   exact absurd a' (lN _ ay)
  ·exact Ls r path ay y (by simpa [b7,e',Lf] using az) k8
 obtain ⟨dy,de,I',cp,eG,cm⟩:=aL
 have iE:cI.tmps[t]?=some v:=by rw [rV t aE,bm]; exact hv
 have jv:jH w' I' (er w' cI.tmps g1) x v cW:=by
  rcases J with ⟨r,path,z,n,tn,cs,rfl,ay,xI,jV,R_⟩ | ⟨u,rfl⟩ | ⟨s,p,k,rfl,aM,Gf,Sq⟩ | ⟨r,k,cs,rfl,jV,hk,Ac,_⟩ | ⟨z,n,cs,rfl,mz⟩ | ⟨cs,rfl,vx,h3⟩
  ·obtain ⟨⟨aw,jf,cap,hU,rfl,lq⟩,_⟩:=(oG.hM (by simp)).mG
   exact .tree (.ref rfl ⟨⟨aw,jf,cap,by rw [Ls r path ay _ xI (by simp)]; exact hU,rfl,lq⟩,.inl ⟨tn,cs,jV,R_⟩⟩ λ_ h=>h)
  ·obtain ⟨rfl,ab⟩:=(oG.hM (by simp)).im
   exact .tree (.lit ab λ_ h=>h)
  ·obtain ⟨⟨BA,ad,aw,a2,rfl⟩,_⟩:=(oG.hM (by simp)).ni
   have cm:s≠t:=by rintro rfl; rw [a'] at aM; cases aM
   obtain ⟨u,hu,mu⟩:=rP.rel s _ aM
   obtain ⟨⟨WU,VC,hU,iy,rfl⟩,_⟩:=(mu.hM (by simp)).ni
   rw [aw] at hU
   cases hU
   rw [a2] at iy
   cases iy
   obtain ⟨tc,fQ,Fo⟩:=eG.rel s _ Gf
   have:cI.tmps[s]?=T[s]?:=by rw [rV s Sq,bm]
   rw [this,hu] at fQ
   cases fQ
   exact .tree (.ref rfl (Fo.hM (by simp)).ni λ_ h=>h)
  ·obtain ⟨⟨BA,ad,aw,a2,rfl⟩,_⟩:=(oG.hM (by simp)).ni
   have fP:cI.tmps[r]?=T[r]?:=by rw [rV r Ac,bm]
   have sW:∀ (w:World) (T:Array Value),eo w T ⟨r,[]⟩=T[r]?:=λw T=>by
    unfold eo; simp only; cases T[r]? <;> rfl
   exact .tree (.ref rfl ⟨⟨BA,ad,by rw [sW,fP,<- sW w T]; exact aw,a2,rfl⟩,⟨.obj cs,by simp [b7,jV,aj.at],0,0,cs,.inr rfl,hk⟩⟩ λ_ h=>h)
  ·have rk:∀ c,I c->w'.heap[c]?=w.heap[c]?:=λc ab=>cm.fJ.block c (bU.lt c ab) λ⟨ds,aS⟩=>rP.aF ds c aS ab
   have Fk:=(oG.hM (by simp)).bI mz (ρ':=er w' cI.tmps g1)
   have k5:∀ c,¬ Fs t c:=by
    cases oG.hM (by simp) with
    | ref J=>simp [aj.isRef] at J
    | hY aQ=>exact aQ
    | aF aQ=>exact aQ
   exact .tree ((Fk.frame rk cm.more (λ_ _ h=>h) λc ab=>absurd ab (k5 c)).empty k5)
  ·have rk:∀ c,I c->w'.heap[c]?=w.heap[c]?:=λc ab=>cm.fJ.block c (bU.lt c ab) λ⟨ds,aS⟩=>rP.aF ds c aS ab
   have k5:=vx.kO (oG.hM (by simp))
   have Fk:=(oG.hM (by simp)).bI vx.bI (ρ':=er w' cI.tmps g1)
   exact .tree ((Fk.frame rk cm.more (λ_ _ h=>h) λc ab=>absurd ab (k5 c)).empty k5)
 have na:=eG.s6 (d:=t) (x:=x) (v:=v) (F:=cW) RP (Array.getElem?_eq_some_iff.1 iE).1 jv (λ_ _ h=>h.elim) (λ_ h=>h.elim) (λz p n m new e=>absurd e (k8 _ _ _ _ _))
 rw [MD iE] at na
 refine ⟨dy,de,I',_,na,⟨cm.fJ,cm.more,cm.new,λc ab=>?_⟩⟩
 rcases uI ab with aS | aS
 ·exact cm.own c aS
 ·exact aS.elim
theorem kV.frame {g0 E9:aZ}{r:Nat}{x:aj}(h:kV P N g0 o E9) (ay:g r=some x) (J:dp x) (hk:hS g g0) (bd:g0 r=none) (h1:E9 r=none) (aY:o.dst≠some r):o1 P N (rj [r]) g o (e' E9 r x):=by
 intro w I T Fs bU a bm bY K Q eA
 have rP:=bU.mi.keep hk
 refine h w I T _ rP a bm bY K Q λcI w' aL rV=>?_
 obtain ⟨dy,de,I',cp,eG,cm⟩:=aL
 obtain ⟨u,hu,bj⟩:=bU.rel r x ay
 have fQ:cI.tmps[r]?=some u:=by rw [rV r aY,bm]; exact hu
 have k8:∀ z q n m new,x≠.bR z q n m new:=by rintro z q n m new rfl; cases J
 have off:∀ c,Fs r c->¬ ∃ t,(g0 t≠none/\Fs t c):=by
  rintro c ab ⟨t,j3,al⟩
  have:=bU.e8 t r c al ab
  subst this
  exact j3 bd
 have same:∀ c,Fs r c->w'.heap[c]?=w.heap[c]?:=λc ab=>cm.fJ.block c (bU.j0 r c ab) (off c ab)
 have rk:∀ c,I c->w'.heap[c]?=w.heap[c]?:=λc ab=>cm.fJ.block c (bU.lt c ab) λ⟨t,_,aS⟩=>bU.aF t c aS ab
 have na:=eG.s6 (d:=r) (x:=x) (v:=u) (F:=Fs r) h1 (Array.getElem?_eq_some_iff.1 fQ).1 (.tree (((bj.hM k8).bI J).frame rk cm.more (λ_ _ h=>h) same)) (λt c ab bn=>by
   rcases cm.own c ⟨t,bn⟩ with aS | aS
   ·exact off c ab aS
   ·have:=bU.j0 r c ab; omega) (λc ab hi=>by
   rcases cm.new c hi with aS | aS | aS
   ·exact bU.aF r c ab aS
   ·exact off c ab aS
   ·have:=bU.j0 r c ab; omega) (λz p n m new e=>absurd e (k8 _ _ _ _ _))
 rw [MD fQ] at na
 refine eA cI w' ⟨dy,de,I',_,na,⟨cm.fJ.mono λb _ ⟨t,_,aS⟩=>⟨t,aS⟩,cm.more,λc ab=>?_,λc ab=>?_⟩⟩ rV λff path eX y az hyp=>?_
 ·rcases cm.new c ab with aS | ⟨t,_,aS⟩ | aS
  ·exact .inl aS
  ·exact .inr (.inl ⟨t,aS⟩)
  ·exact .inr (.inr aS)
 ·rcases uI ab with aS | aS
  ·rcases cm.own c aS with ⟨t,_,gL⟩ | gL
   ·exact .inl ⟨t,gL⟩
   ·exact .inr gL
  ·exact .inl ⟨r,aS⟩
 ·have eX:ff∈[r]:=eX
  simp only [List.mem_singleton] at eX
  subst eX
  have hx:hS g (λt=>if t=ff then some x else none):=by
   refine ⟨λt y kG=>?_,λt y kG=>?_,λt z q n m new kG=>?_⟩
   all_goals
    by_cases e:t=ff
    case neg=>simp [e] at kG
   ·subst e; simp at kG; subst kG; exact ay
   ·subst e; simp at kG; subst kG; exact .bI J
   ·subst e; simp at kG; exact k8 _ _ _ _ _ kG
  refine (bU.mi.keep hx).wC (T':=cI.tmps) (λt aE=>?_) (λt c ab=>?_) (p:=⟨ff,path⟩) (y:=y) ?_
  ·by_cases e:t=ff
   ·subst e; rw [rV t aY,bm]
   ·simp [e] at aE
  ·by_cases e:t=ff
   ·subst e; exact same c ab.2
   ·simp [e] at ab
  ·simp only [b7,if_true]
   simpa [b7,ay] using az
end
end Go.Own
namespace Go.Own
open Go
abbrev Acc:=List (Nat × Nat × Option aj)
def et (g0:aZ) (A:Nat->Bool):Acc->aZ
 | [],t=>g0 t
 | (k,d,r)::acc,t=>if d=t then (if A k then r else none) else et g0 A acc t
def mb:Nat × Nat × Option aj->Option Place
 | (_,_,some (.bR _ p _ _ _))=>some p
 | _=>none
def rF (ops:Array Oper) (cc:List (List Nat)):Bool :=
 (List.range ops.size).all λk =>
  match ops[k]? with
  | none=>true
  | some o=>(o.after.all λe=>!Region.binds .any e||decide (e.on<k))&&(cc.getD k []).all λm=>decide (m<k)&&o.after.any λe=>Region.binds .any e&&(e.on == m||(cc.getD e.on []).contains m)
inductive iW (P:Program) (N:dW) (ops:Array Oper) (cc:List (List Nat)) (g0:aZ) (i:Nat) (ew:Acc):Nat->Acc->Prop
 | nil:iW P N ops cc g0 i ew i ew
 | step {af:Nat}{acc:Acc}{o:Oper}{d:Nat}{r:Option aj}(h:iW P N ops cc g0 i ew af acc) (bh:ops[af]?=some o) (aY:o.dst=some d) (a':g0 d=none) (aL:∀ e∈acc,e.2.1≠d) (jw:N.ok d=true)
   (aM:o6 P (et g0 (λm=>(cc.getD af []).contains m) acc) ops o r):iW P N ops cc g0 i ew (af+1) ((af,d,r)::acc)
structure mS (P:Program) (N:dW) (ops:Array Oper) (cc:List (List Nat)) (g0:aZ) (i:Nat) (ew:Acc):Prop where
 lt:∀ e∈ew,e.1<i
 free:∀ e∈ew,g0 e.2.1=none
 nd:(ew.map (·.2.1)).Nodup
 MY:∀ e∈ew,∀ cX∈ew,(e.1=cX.1\/e.2.1=cX.2.1)->e=cX
 st:∀ e∈ew,∃ ir,ops[e.1]?=some ir/\ir.dst=some e.2.1/\N.ok e.2.1=true/\o6 P (et g0 (λm=>(cc.getD e.1 []).contains m) ew) ops ir e.2.2
theorem mS.nil {P:Program}{N:dW}{ops:Array Oper}{cc:List (List Nat)}{g0:aZ}{i:Nat}:mS P N ops cc g0 i []:=⟨by simp,by simp,by simp,by simp,by simp⟩
inductive rz (P:Program) (N:dW) (ops:Array Oper) (cc:List (List Nat)):Nat->Acc->aZ->aZ->Prop
 | fin {i:Nat}{ew:Acc}{g:aZ}{acc:Acc}(aM:iW P N ops cc g i ew ops.size acc) (hG:(acc.filterMap mb).Nodup) (jb:∀ t z q n m new,g t≠some (.bR z q n m new)):rz P N ops cc i ew g (et g (λ_=>true) acc)
 | w_ {i af:Nat}{g g1 g':aZ}{ew acc U:Acc}{o:Oper}{rs:Place->Prop}(aM:iW P N ops cc g i ew af acc) (hG:(acc.filterMap mb).Nodup) (jb:∀ t z q n m new,g t≠some (.bR z q n m new)) (bh:ops[af]?=some o) (hw:iX (et g (λm=>(cc.getD af []).contains m) acc) ops o true)
   (he:o1 P N rs (et g (λm=>(cc.getD af []).contains m) acc) o g1) (lN:∀ p,rs p->g p.root≠none) (gN:U=acc.filter λe=>!(cc.getD af []).contains e.1) (J:∀ e∈U,∃ x,e.2.2=some x/\yV rs (et g (λm=>(cc.getD af []).contains m) acc) g1 o x) (h1:∀ e∈U,g1 e.2.1=none/\o.dst≠some e.2.1)
   (al:∀ e∈U,∃ ir,ops[e.1]?=some ir/\ir.dst=some e.2.1/\N.ok e.2.1=true/\o6 P (et g1 (λm=>(cc.getD e.1 []).contains m) U) ops ir e.2.2)
   (aJ:(List.range ops.size).all (λk=>decide (k<=af)||(cc.getD k []).contains af)=true) (ay:rz P N ops cc (af+1) U g1 g'):rz P N ops cc i ew g g'
theorem lD {g0:aZ}{A:Nat->Bool}{acc:Acc}{t:Nat}(h:∀ e∈acc,e.2.1≠t):et g0 A acc t=g0 t:=by
 induction acc with
 | nil=>rfl
 | cons e acc aR =>
  obtain ⟨k,d,r⟩:=e
  simp only [et]
  rw [if_neg (h (k,d,r) (by simp)),aR λe he=>h e (by simp [he])]
theorem te {g0:aZ}{A:Nat->Bool}{acc:Acc}{t:Nat}{x:aj}(h:et g0 A acc t=some x):(∃ e∈acc,e.2.1=t/\A e.1=true/\e.2.2=some x)\/((∀ e∈acc,e.2.1≠t)/\g0 t=some x):=by
 induction acc with
 | nil=>exact .inr ⟨by simp,h⟩
 | cons e acc aR =>
  obtain ⟨k,d,r⟩:=e
  simp only [et] at h
  by_cases aY:d=t
  ·rw [if_pos aY] at h
   by_cases e9:A k=true
   ·rw [if_pos e9] at h; exact .inl ⟨(k,d,r),by simp,aY,e9,h⟩
   ·rw [if_neg e9] at h; cases h
  ·rw [if_neg aY] at h
   rcases aR h with ⟨e,he,r⟩ | ⟨h1,al⟩
   ·exact .inl ⟨e,by simp [he],r⟩
   ·refine .inr ⟨λe he=>?_,al⟩
    rcases List.mem_cons.1 he with rfl | he
    ·exact aY
    ·exact h1 e he
theorem H5 {g:aZ}{A:Nat->Bool}{acc:Acc}(hu:∀ e∈acc,∀ cX∈acc,e.2.1=cX.2.1->e=cX) {e:Nat × Nat × Option aj}(he:e∈acc):et g A acc e.2.1=if A e.1 then e.2.2 else none:=by
 induction acc with
 | nil=>cases he
 | cons a acc aR =>
  obtain ⟨k,d,r⟩:=a
  simp only [et]
  by_cases aY:d=e.2.1
  ·have:=hu (k,d,r) (by simp) e he aY
   subst this
   simp
  ·rw [if_neg aY]
   rcases List.mem_cons.1 he with rfl | he
   ·exact absurd rfl aY
   ·exact aR (λx J y az=>hu x (by simp [J]) y (by simp [az])) he
section
variable {P:Program}{N:dW}{ops:Array Oper}{cc:List (List Nat)}{g0:aZ}{i:Nat}
variable {ew:Acc}
theorem iW.le {af:Nat}{acc:Acc}(h:iW P N ops cc g0 i ew af acc) (gN:mS P N ops cc g0 i ew):i<=af/\∀ e∈acc,e.1<af:=by
 induction h with
 | nil=>exact ⟨Nat.le_refl _,gN.lt⟩
 | step _ _ _ _ _ _ _ aR =>
  refine ⟨by omega,λe he=>?_⟩
  rcases List.mem_cons.1 he with rfl | he
  ·simp
  ·have:=aR.2 e he; omega
theorem iW.ge {af:Nat}{acc:Acc}(h:iW P N ops cc g0 i ew af acc) (gN:mS P N ops cc g0 i ew):∀ e∈acc,e∈ew\/i<=e.1:=by
 induction h with
 | nil=>exact λe he=>.inl he
 | step aM _ _ _ _ _ _ aR =>
  intro e he
  rcases List.mem_cons.1 he with rfl | he
  ·exact .inr (aM.le gN).1
  ·exact aR e he
theorem iW.HW {af:Nat}{acc:Acc}(h:iW P N ops cc g0 i ew af acc):∀ e∈ew,e∈acc:=by
 induction h with
 | nil=>exact λe he=>he
 | step _ _ _ _ _ _ _ aR=>exact λe he=>by simp [aR e he]
theorem iW.fresh {af:Nat}{acc:Acc}(h:iW P N ops cc g0 i ew af acc) (gN:mS P N ops cc g0 i ew):∀ e∈acc,g0 e.2.1=none:=by
 induction h with
 | nil=>exact gN.free
 | step _ _ _ a' _ _ _ aR =>
  intro e he
  rcases List.mem_cons.1 he with rfl | he
  ·exact a'
  ·exact aR e he
theorem iW.nodup {af:Nat}{acc:Acc}(h:iW P N ops cc g0 i ew af acc) (gN:mS P N ops cc g0 i ew):(acc.map (·.2.1)).Nodup:=by
 induction h with
 | nil=>exact gN.nd
 | step _ _ _ _ aL _ _ aR =>
  refine List.nodup_cons.2 ⟨λhm=>?_,aR⟩
  obtain ⟨e,he,h⟩:=List.mem_map.1 hm
  exact aL e he h
theorem iW.uniq {af:Nat}{acc:Acc}(h:iW P N ops cc g0 i ew af acc) (gN:mS P N ops cc g0 i ew):∀ {e cX:Nat × Nat × Option aj},e∈acc->cX∈acc->(e.1=cX.1\/e.2.1=cX.2.1)->e=cX:=by
 induction h with
 | nil=>exact λ{e cX} he h' b6=>gN.MY e he cX h' b6
 | @step af acc o d r aM _ _ _ aL _ _ aR =>
  intro e cX he h' b6
  rcases List.mem_cons.1 he with rfl | he <;> rcases List.mem_cons.1 h' with rfl | h'
  ·rfl
  ·rcases b6 with b6 | b6
   ·have:=(aM.le gN).2 cX h'; simp at b6; omega
   ·exact absurd b6.symm (aL cX h')
  ·rcases b6 with b6 | b6
   ·have:=(aM.le gN).2 e he; simp at b6; omega
   ·exact absurd b6 (aL e he)
  ·exact aR he h' b6
theorem iW.at_mem {af:Nat}{acc:Acc}(h:iW P N ops cc g0 i ew af acc) (gN:mS P N ops cc g0 i ew) {A:Nat->Bool}{e:Nat × Nat × Option aj}(he:e∈acc):et g0 A acc e.2.1=if A e.1 then e.2.2 else none :=
 H5 (λ_ J _ az aS=>h.uniq gN J az (.inr aS)) he
theorem iW.get {af:Nat}{acc:Acc}(h:iW P N ops cc g0 i ew af acc) (gN:mS P N ops cc g0 i ew):∀ e∈acc,∃ o w7,ops[e.1]?=some o/\o.dst=some e.2.1/\N.ok e.2.1=true/\o6 P (et g0 (λm=>(cc.getD e.1 []).contains m) w7) ops o e.2.2/\∀ e∈w7,e∈acc:=by
 induction h with
 | nil =>
  intro e he
  obtain ⟨ir,h1,al,aP,b3⟩:=gN.st e he
  exact ⟨ir,ew,h1,al,aP,b3,λ_ h=>h⟩
 | @step af acc o d r aM bh aY a' aL jw cm aR =>
  intro e he
  rcases List.mem_cons.1 he with rfl | he
  ·exact ⟨o,acc,bh,aY,jw,cm,λe he=>by simp [he]⟩
  ·obtain ⟨ir,w7,aw,a2,a3,a4,a5⟩:=aR e he
   exact ⟨ir,w7,aw,a2,a3,a4,λe he=>by simp [a5 e he]⟩
theorem iW.has {af:Nat}{acc:Acc}(h:iW P N ops cc g0 i ew af acc):∀ k,i<=k->k<af->∃ e∈acc,e.1=k:=by
 induction h with
 | nil=>intro k h1 al; omega
 | @step af acc o d r aM bh aY a' aL jw cm aR =>
  intro k h1 al
  by_cases hk:k=af
  ·exact ⟨_,List.mem_cons_self,hk.symm⟩
  ·obtain ⟨e,he,h⟩:=aR k h1 (by omega)
   exact ⟨e,by simp [he],h⟩
theorem TX {acc:Acc}(hG:(acc.filterMap mb).Nodup) {e cX:Nat × Nat × Option aj}{p:Place}(he:e∈acc) (h':cX∈acc) (h:mb e=some p) (aS:mb cX=some p):e=cX:=by
 induction acc with
 | nil=>simp at he
 | cons a acc aR =>
  have mem:∀ {x:Nat × Nat × Option aj},x∈acc->mb x=some p->p∈acc.filterMap mb:=λJ aH=>List.mem_filterMap.2 ⟨_,J,aH⟩
  rcases List.mem_cons.1 he with rfl | KP <;> rcases List.mem_cons.1 h' with rfl | KQ
  ·rfl
  ·rw [List.filterMap_cons,h] at hG
   exact absurd (mem KQ aS) (List.nodup_cons.1 hG).1
  ·rw [List.filterMap_cons,aS] at hG
   exact absurd (mem KP h) (List.nodup_cons.1 hG).1
  ·refine aR ?_ KP KQ
   rw [List.filterMap_cons] at hG
   cases aH:mb a with
   | none=>rw [aH] at hG; exact hG
   | some q=>rw [aH] at hG; exact (List.nodup_cons.1 hG).2
def fa (listed:Array Bool) (k:Nat):Bool:=listed.getD k false
def hV (ops:Array Oper) (listed:Array Bool):Nat:=((List.range ops.size).filter λk=>!fa listed k).length
theorem u3 {listed:Array Bool}{k:Nat}(hk:k<ops.size) (ao:fa listed k=false) (gv:listed.size=ops.size):hV ops (listed.setIfInBounds k true)+1<=hV ops listed:=by
 unfold hV
 have key:∀ l:List Nat,l.Nodup->((l.filter λaf=>!fa (listed.setIfInBounds k true) af).length+if k∈l then 1 else 0)=(l.filter λaf=>!fa listed af).length:=by
  intro l
  induction l with
  | nil=>intro _; simp
  | cons af l aR =>
   intro gD
   have K8:=List.nodup_cons.1 gD
   have Lz:=aR K8.2
   by_cases eP:af=k
   ·subst eP
    have h1:fa (listed.setIfInBounds af true) af=true:=by simp [fa,gv,hk]
    rw [List.filter_cons,List.filter_cons]
    simp only [h1,ao,Bool.not_true,Bool.not_false,if_true,if_false,Bool.false_eq_true,List.length_cons,List.mem_cons,true_or]
    rw [if_neg K8.1] at Lz
    omega
   ·have h1:fa (listed.setIfInBounds k true) af=fa listed af:=by simp [fa,Array.getElem?_setIfInBounds_ne (Ne.symm eP)]
    rw [List.filter_cons,List.filter_cons,h1]
    have my:(k∈af::l)↔k∈l:=by simp [Ne.symm eP]
    by_cases aJ:(!fa listed af)=true
    ·simp only [aJ,if_true,List.length_cons,my]; omega
    ·simp only [aJ,my]; simpa using Lz
 have:=key (List.range ops.size) List.nodup_range
 rw [if_pos (List.mem_range.2 hk)] at this
 omega
end
end Go.Own
namespace Go.Own
open Go
section
variable {P:Program}{N:dW}{ops:Array Oper}{cc:List (List Nat)}
def Down (cc:List (List Nat)) (listed:Array Bool):Prop:=∀ k,fa listed k=true->∀ m∈cc.getD k [],fa listed m=true
theorem IK (h:rF ops cc=true) {k:Nat}{o:Oper}(bh:ops[k]?=some o) :
  (∀ e∈o.after,Region.binds .any e=true->e.on<k)/\∀ m∈cc.getD k [],m<k/\∃ e∈o.after,Region.binds .any e=true/\(e.on=m\/m∈cc.getD e.on []):=by
 have hk:k<ops.size:=(Array.getElem?_eq_some_iff.1 bh).1
 unfold rF at h
 have:=List.all_eq_true.1 h k (List.mem_range.2 hk)
 simp only [bh,Bool.and_eq_true] at this
 obtain ⟨h1,al⟩:=this
 constructor
 ·intro e he aJ
  have:=Array.all_eq_true_iff_forall_mem.1 h1 e he
  simpa [aJ] using this
 ·intro m hm
  have:=List.all_eq_true.1 al m hm
  simp only [Bool.and_eq_true,decide_eq_true_eq] at this
  refine ⟨this.1,?_⟩
  obtain ⟨af,aa,aJ⟩:=Array.any_eq_true.1 this.2
  have he:=Array.getElem_mem aa
  generalize o.after[af]=e at aJ he
  simp only [Bool.and_eq_true,Bool.or_eq_true,beq_iff_eq,List.contains_iff_mem] at aJ
  exact ⟨e,he,aJ.1,aJ.2⟩
theorem wk {listed:Array Bool}{k:Nat}(h:k∈Region.ready .any ops listed):fa listed k=false/\∃ o,ops[k]?=some o/\∀ e∈o.after,Region.binds .any e=true->fa listed e.on=true:=by
 obtain ⟨h1,o,bh,al⟩:=mem_ready.1 h
 refine ⟨?_,o,bh,al⟩
 unfold fa
 rcases Nat.lt_or_ge k listed.size with hk | hk
 ·simp [hk] at h1 ⊢; exact h1
 ·simp [Array.getElem?_eq_none hk] at h1
theorem Hx (e9:rF ops cc=true) {listed:Array Bool}(aY:Down cc listed) {k:Nat}(h:k∈Region.ready .any ops listed):∀ m∈cc.getD k [],fa listed m=true:=by
 obtain ⟨_,o,bh,al⟩:=wk h
 intro m hm
 obtain ⟨_,e,he,aJ,aP⟩:=(IK e9 bh).2 m hm
 rcases aP with rfl | aP
 ·exact al e he aJ
 ·exact aY e.on (al e he aJ) m aP
theorem Md (e9:rF ops cc=true) {listed:Array Bool}(gv:listed.size=ops.size):∀ k,k<ops.size->fa listed k=false->Region.ready .any ops listed≠[]:=by
 intro k
 induction k using Nat.strongRecOn with
 | _ k aR =>
  intro hk ao
  by_cases hex:∃ af,af<k/\fa listed af=false
  ·obtain ⟨af,aa,R6⟩:=hex
   exact aR af aa (by omega) R6
  ·have my:k∈Region.ready .any ops listed:=by
    refine mem_ready.2 ⟨?_,ops[k],Array.getElem?_eq_getElem hk,λe he aJ=>?_⟩
    ·unfold fa at ao
     simp [gv,hk] at ao ⊢; exact ao
    ·have bg:=(IK e9 (Array.getElem?_eq_getElem hk)).1 e he aJ
     cases hle:fa listed e.on with
     | true=>exact hle
     | false=>exact absurd ⟨e.on,bg,hle⟩ hex
   intro e
   rw [e] at my
   cases my
theorem BB {g0:aZ}{A B:Nat->Bool}{acc:Acc}{t:Nat}(h:∀ e∈acc,e.2.1=t->A e.1=B e.1):et g0 A acc t=et g0 B acc t:=by
 induction acc with
 | nil=>rfl
 | cons e acc aR =>
  obtain ⟨k,d,r⟩:=e
  simp only [et]
  by_cases aY:d=t
  ·rw [if_pos aY,if_pos aY,h (k,d,r) (by simp) aY]
  ·rw [if_neg aY,if_neg aY,aR λe he=>h e (by simp [he])]
theorem BW {listed:Array Bool}{k af:Nat}(hk:k<listed.size):fa (listed.setIfInBounds k true) af=if af=k then true else fa listed af:=by
 by_cases eP:af=k
 ·subst eP; simp [fa,hk]
 ·rw [if_neg eP]; simp [fa,Array.getElem?_setIfInBounds_ne (Ne.symm eP)]
theorem Vc {g0:aZ}{i af:Nat}{acc U ew:Acc}(aM:iW P N ops cc g0 i ew af acc) (du:mS P N ops cc g0 i ew) {A S:Nat->Bool}(gN:U=acc.filter λe=>!A e.1) (QB:∀ e∈acc,A e.1=true->S e.1=true):et g0 S acc=et (et g0 A acc) S U:=by
 subst gN
 funext t
 by_cases hex:∃ e∈acc,e.2.1=t
 ·obtain ⟨e,he,rfl⟩:=hex
  rw [aM.at_mem du he]
  by_cases e9:A e.1=true
  ·rw [lD,aM.at_mem du he,if_pos e9,if_pos (QB e he e9)]
   intro cX h' h
   obtain ⟨h1,al⟩:=List.mem_filter.1 h'
   have:=aM.uniq du h1 he (.inr h)
   subst this
   simp [e9] at al
  ·rw [H5 (λx J y az h=>aM.uniq du (List.mem_filter.1 J).1 (List.mem_filter.1 az).1 (.inr h)) (List.mem_filter.2 ⟨he,by simpa using e9⟩)]
 ·rw [lD λe he h=>hex ⟨e,he,h⟩,lD λe he h=>hex ⟨e,(List.mem_filter.1 he).1,h⟩,lD λe he h=>hex ⟨e,he,h⟩]
theorem e7.mono {g g':aZ}(a':∀ t x,g t=some x->g' t=some x) {x:aj}(h:e7 g x):e7 g' x:=by
 induction h with
 | bI h=>exact .bI h
 | ref J h=>exact .ref J (h.mono a')
 | own _ aR=>exact .own aR
 | obj _ aR=>exact .obj aR
 | agg _ aR=>exact .agg aR
 | cG _ aR=>exact .cG aR
 | ey _ _ gB gq=>exact .ey gB gq
 | bR aH _ aR=>exact .bR (aH.mono a') aR
theorem JP {mr g1:aZ}{o:Oper}{S:Nat->Bool}{rs:Place->Prop}(h:o1 P N rs mr o g1) (lN:∀ p,rs p->mr p.root≠none):∀ (U:Acc),(∀ e∈U,∃ x,e.2.2=some x/\yV rs mr g1 o x)->(∀ e∈U,mr e.2.1=none/\g1 e.2.1=none/\o.dst≠some e.2.1)->(U.map (·.2.1)).Nodup->o1 P N rs (et mr S U) o (et g1 S U)
 | [],_,_,_=>h
 | (k,d,r)::U,J,h1,gD=>by
  simp only [List.map_cons,List.nodup_cons] at gD
  have aR:=JP (S:=S) h lN U (λe he=>J e (by simp [he])) (λe he=>h1 e (by simp [he])) gD.2
  obtain ⟨x,e,cm⟩:=J (k,d,r) (by simp)
  simp only at e
  subst e
  obtain ⟨aw,a2,a3⟩:=h1 (k,d,some x) (by simp)
  simp only at aw a2 a3
  have pn:∀ e∈U,e.2.1≠d:=λe he aS=>gD.1 (List.mem_map.2 ⟨e,he,aS⟩)
  cases bU:S k with
  | true =>
   have e:∀ g:aZ,et g S ((k,d,some x)::U)=e' (et g S U) d x:=λg=>by
    funext t
    simp only [et,e',bU,if_true]
    by_cases aY:d=t
    ·rw [if_pos aY,if_pos aY.symm]
    ·rw [if_neg aY,if_neg (Ne.symm aY)]
   rw [e,e]
   have Dy:∀ r,mr r≠none->∀ e∈U,e.2.1≠r:=λr ay e he aS=>by
    have:=(h1 e (by simp [he])).1
    rw [aS] at this
    exact ay this
   have TQ:∀ r,g1 r≠none->∀ e∈U,e.2.1≠r:=λr ay e he aS=>by
    have:=(h1 e (by simp [he])).2.1
    rw [aS] at this
    exact ay this
   refine aR.extra (λr ay=>by rw [lD (Dy r.root (lN r ay))]; exact lN r ay) (by rw [lD pn]; exact aw) (by rw [lD pn]; exact a2) a3 ?_
   rcases cm with ⟨r,path,z,n,tn,cs,rfl,hU,iy,lq,Cc⟩ | ⟨v,rfl⟩ | ⟨s,p,m,rfl,hU,iy,lq⟩ | ⟨s,m,cs,rfl,hU,iy,lq,cs',Cc,Oc⟩ | ⟨z,n,cs,rfl,hU⟩ | ⟨cs,rfl,hU,iy⟩
   ·refine .inl ⟨r,path,z,n,tn,cs,rfl,hU,?_,?_,Cc⟩
    ·have:mr r≠none:=lN _ hU
     simpa [b7,lD (Dy r this)] using iy
    ·have:g1 r≠none:=λe=>by simp [b7,e] at lq
     simpa [b7,lD (TQ r this)] using lq
   ·exact .inr (.inl ⟨v,rfl⟩)
   ·refine .inr (.inr (.inl ⟨s,p,m,rfl,?_,?_,lq⟩))
    ·rw [lD]; exact hU
     intro e he aS
     have:=(h1 e (by simp [he])).1
     rw [aS,hU] at this; cases this
    ·rw [lD]; exact iy
     intro e he aS
     have:=(h1 e (by simp [he])).2.1
     rw [aS,iy] at this; cases this
   ·refine .inr (.inr (.inr (.inl ⟨s,m,cs,rfl,?_,iy,lq,cs',?_,Oc⟩)))
    ·rw [lD]; exact hU
     intro e he aS
     have:=(h1 e (by simp [he])).2.1
     rw [aS,hU] at this; cases this
    ·rw [lD (Dy s (by rw [Cc]; simp))]; exact Cc
   ·exact .inr (.inr (.inr (.inr (.inl ⟨z,n,cs,rfl,hU⟩))))
   ·refine .inr (.inr (.inr (.inr (.inr ⟨cs,rfl,hU,?_⟩))))
    have hle:∀ t y,mr t=some y->et mr S U t=some y:=λt y az=>by rw [lD (Dy t (by rw [az]; simp))]; exact az
    refine ⟨λt y az=>?_,λt z q n m new az=>?_⟩
    ·rcases te az with ⟨cX,h',_,_,FL⟩ | ⟨_,az⟩
     ·obtain ⟨y',zi,Ag⟩:=J cX (by simp [h'])
      rw [FL] at zi; cases zi
      rcases Ag with ⟨r,path,z,n,tn,cs,rfl,c1,c2,kn,c4⟩ | ⟨v,rfl⟩ | ⟨s,p,m,rfl,c1,_⟩ | ⟨s,m,cs,rfl,_,_,_,cs',c4,kF⟩ | ⟨z,n,cs,rfl,c1⟩ | ⟨cs,rfl,c1,_⟩
      ·exact .ref rfl (.inl ⟨tn,cs,kE hle c2,c4⟩)
      ·exact .bI .lit
      ·exact e7.mono hle (iy.bk s _ c1)
      ·exact .ref rfl ⟨.obj cs',by simp [b7,hle s _ c4,aj.at],0,0,cs',.inr rfl,kF⟩
      ·exact .bI c1
      ·exact .bI c1.bI
     ·exact e7.mono hle (iy.bk t y az)
    ·rcases te az with ⟨cX,h',_,_,FL⟩ | ⟨_,az⟩
     ·obtain ⟨y',zi,Ag⟩:=J cX (by simp [h'])
      rw [FL] at zi; cases zi
      rcases Ag with ⟨r,path,z,n,tn,cs,h,_⟩ | ⟨v,h⟩ | ⟨s,p,m,h,_⟩ | ⟨s,m,cs,h,_⟩ | ⟨z,n,cs,h,_⟩ | ⟨cs,h,_⟩ <;> cases h
     ·exact iy.fR _ _ _ _ _ _ az
  | false =>
   have e:∀ g:aZ,g d=none->et g S ((k,d,some x)::U)=et g S U:=λg a'=>by
    funext t
    simp only [et,bU]
    by_cases aY:d=t
    ·subst aY; rw [if_pos rfl,lD pn,a']; rfl
    ·rw [if_neg aY]
   rw [e mr aw,e g1 a2]
   exact aR
theorem Mc (e9:rF ops cc=true) {g0:aZ}{i af:Nat}{acc ew:Acc}(aM:iW P N ops cc g0 i ew af acc) (du:mS P N ops cc g0 i ew) (hG:(acc.filterMap mb).Nodup) (jb:∀ t z q n m new,g0 t≠some (.bR z q n m new)) {listed:Array Bool}(gv:listed.size=ops.size) (aY:Down cc listed)
  {a:Act}{w:World}{I:br}{Fs:Nat->br}(bU:c_ w I a.tmps (et g0 (fa listed) acc) Fs) (bY:a.tmps.size=N.size) {e:Nat × Nat × Option aj}(he:e∈acc) (hk:e.1∈Region.ready .any ops listed) {K:Act->World->Prop}{Q:Exit->Act->World->Prop}
  (eA:∀ cI w' I' cp,cI.defers=a.defers->hR N a.tmps cI.tmps->c_ w' I' cI.tmps (et g0 (fa (listed.setIfInBounds e.1 true)) acc) cp->kX w I (λc=>∃ t,Fs t c) w' I' (λc=>∃ t,cp t c)->K cI w'):wpOp P ops Q e.1 K a w:=by
 obtain ⟨eh,lg,vv,_⟩:=wk hk
 have t_:=(Array.getElem?_eq_some_iff.1 vv).1
 have tN:=Hx e9 aY hk
 obtain ⟨o,w7,bh,CY,jw,cm,gE⟩:=aM.get du e he
 obtain ⟨k,d,r⟩:=e
 simp only at *
 have hle:nU (et g0 (λm=>(cc.getD k []).contains m) w7) (et g0 (fa listed) acc):=by
  intro t x J
  rcases te J with ⟨e,he,rfl,xw,hex⟩ | ⟨pn,a'⟩
  ·rw [aM.at_mem du (gE e he),tN e.1 (by simpa using xw)]
   exact hex
  ·rw [lD λe he RL=>?_]
   ·exact a'
   ·have:=aM.fresh du e he
    rw [RL,a'] at this; cases this
 have gP:∀ z p n m new,r=some (.bR z p n m new)->∀ t cN cY m' dq,et g0 (fa listed) acc t≠some (.bR cN p cY m' dq):=by
  intro z p n m new ay t cN cY m' dq aE
  rcases te aE with ⟨e,h',_,xw,hex⟩ | ⟨_,a'⟩
  ·obtain ⟨l_,Cu,ff⟩:=e
   have:=TX hG (p:=p) he h' (by rw [ay]; rfl) (by simp only at hex; rw [hex]; rfl)
   cases this
   rw [eh] at xw; cases xw
  ·exact jb _ _ _ _ _ _ a'
 have Ag:=cm.mono hle gP
 have tV:et g0 (fa listed) acc d=none:=by
  have:=aM.at_mem du (A:=fa listed) he
  simpa [eh] using this
 unfold wpOp
 simp only [bh]
 refine Ag.sound bU rfl bY CY tV jw λcI w' aL=>?_
 obtain ⟨dy,de,I',cp,eG,nE⟩:=aL
 have lv:∀ af,fa (listed.setIfInBounds k true) af=if af=k then true else fa listed af:=λaf=>BW (by omega)
 have ek:et g0 (fa (listed.setIfInBounds k true)) acc=wi (et g0 (fa listed) acc) d r:=by
  funext t
  by_cases sU:t=d
  ·subst sU
   have h1:=aM.at_mem du (A:=fa (listed.setIfInBounds k true)) he
   simp only [lv k,if_true] at h1
   rw [h1]
   cases r with
   | none=>simp only [wi]; exact tV.symm
   | some x=>simp [wi,e']
  ·have h1:et g0 (fa (listed.setIfInBounds k true)) acc t=et g0 (fa listed) acc t:=BB λe h' het=>by
    rw [lv e.1,if_neg]
    intro FK
    have:=aM.uniq du h' he (.inl FK)
    rw [this] at het
    exact sU het.symm
   rw [h1]
   cases r with
   | none=>rfl
   | some x=>simp [wi,e',sU]
 exact eA cI w' I' cp dy de (by rw [ek]; exact eG) nE
theorem ES (e9:rF ops cc=true) {listed:Array Bool}(gv:listed.size=ops.size) (aY:Down cc listed) {k:Nat}(hk:k∈Region.ready .any ops listed):Down cc (listed.setIfInBounds k true):=by
 obtain ⟨eh,lg,vv,_⟩:=wk hk
 have t_:=(Array.getElem?_eq_some_iff.1 vv).1
 have tN:=Hx e9 aY hk
 have lv:∀ q,fa (listed.setIfInBounds k true) q=if q=k then true else fa listed q:=λq=>BW (by omega)
 intro m hm q bN
 rw [lv] at hm ⊢
 split
 ·rfl
 ·split at hm
  ·rename_i K6; subst K6; exact tN q bN
  ·exact aY m hm q bN
theorem iW.entry {g0:aZ}{i af:Nat}{acc ew:Acc}(aM:iW P N ops cc g0 i ew af acc) {listed:Array Bool}(bg:∀ k,k<i->(∀ e∈ew,e.1≠k)->fa listed k=true) {k:Nat}(zX:k<af) (eh:fa listed k=false):∃ e∈acc,e.1=k:=by
 rcases Nat.lt_or_ge k i with h | h
 ·rcases Classical.em (∃ e∈ew,e.1=k) with ⟨e,he,aS⟩ | aS
  ·exact ⟨e,aM.HW e he,aS⟩
  ·have:=bg k h λe he FK=>aS ⟨e,he,FK⟩
   rw [eh] at this; cases this
 ·exact aM.has k h zX
theorem rz.sound (e9:rF ops cc=true) {i:Nat}{ew:Acc}{g g':aZ}(h:rz P N ops cc i ew g g'):mS P N ops cc g i ew->∀ {Q:Exit->Act->World->Prop}(fuel:Nat) (listed:Array Bool) (a:Act) (w:World) (I:br) (Fs:Nat->br),hV ops listed<=fuel->listed.size=ops.size->(∀ k,k<i->(∀ e∈ew,e.1≠k)->fa listed k=true)->(∀ k,i<=k->fa listed k=false)->Down cc listed ->
  c_ w I a.tmps (et g (fa listed) ew) Fs->a.tmps.size=N.size->(∀ cI w',ij N a w I Fs g' cI w'->Q .normal cI w')->wpAny P .any ops Q fuel listed a w:=by
 have start:∀ {g:aZ}{i af:Nat}{acc ew:Acc}{listed:Array Bool},iW P N ops cc g i ew af acc->mS P N ops cc g i ew->(∀ k,i<=k->fa listed k=false)->et g (fa listed) acc=et g (fa listed) ew:=by
  intro g i af acc ew listed aM du eN
  funext t
  by_cases hex:∃ e∈acc,e.2.1=t
  ·obtain ⟨e,he,rfl⟩:=hex
   rw [aM.at_mem du he]
   rcases aM.ge du e he with h | h
   ·rw [H5 (λx J y az aS=>du.MY x J y az (.inr aS)) h]
   ·rw [eN e.1 h]
    by_cases KR:∃ cX∈ew,cX.2.1=e.2.1
    ·obtain ⟨cX,h',aS⟩:=KR
     have:=aM.uniq du (aM.HW cX h') he (.inr aS)
     subst this
     have:=du.lt cX h'; omega
    ·rw [lD λcX h' aS=>KR ⟨cX,h',aS⟩,aM.fresh du e he]; rfl
  ·rw [lD λe he h=>hex ⟨e,he,h⟩,lD λe he h=>hex ⟨e,aM.HW e he,h⟩]
 induction h with
 | @fin i ew g acc aM hG jb =>
  intro du Q fuel listed a w I Fs ab gv bg eN aY bU bY ef
  rw [<- start aM du eN] at bU
  clear eN
  revert listed a w I Fs
  induction fuel with
  | zero =>
   intro listed a w I Fs ab gv bg aY bU bY ef
   have hl:∀ k,k<ops.size->fa listed k=true:=λk hk=>by
    cases ao:fa listed k with
    | true=>rfl
    | false=>have:=u3 (ops:=ops) (listed:=listed) (k:=k) hk ao gv; omega
   refine wpAny_done ?_ (ef _ _ ⟨rfl,hR.refl,I,Fs,?_,kX.refl _ _ _⟩) 0
   ·cases ay:Region.ready .any ops listed with
    | nil=>rfl
    | cons k l =>
     have hk:k∈Region.ready .any ops listed:=by rw [ay]; simp
     obtain ⟨eh,o,bh,_⟩:=wk hk
     rw [hl k (Array.getElem?_eq_some_iff.1 bh).1] at eh; cases eh
   ·have:et g (fa listed) acc=et g (λ_=>true) acc:=funext λt=>BB λe he _=>hl e.1 ((aM.le du).2 e he)
    rw [<- this]; exact bU
  | succ fuel aR =>
   intro listed a w I Fs ab gv bg aY bU bY ef
   by_cases hl:∀ k,k<ops.size->fa listed k=true
   ·refine wpAny_done ?_ (ef _ _ ⟨rfl,hR.refl,I,Fs,?_,kX.refl _ _ _⟩) _
    ·cases ay:Region.ready .any ops listed with
     | nil=>rfl
     | cons k l =>
      have hk:k∈Region.ready .any ops listed:=by rw [ay]; simp
      obtain ⟨eh,o,bh,_⟩:=wk hk
      rw [hl k (Array.getElem?_eq_some_iff.1 bh).1] at eh; cases eh
    ·have:et g (fa listed) acc=et g (λ_=>true) acc:=funext λt=>BB λe he _=>hl e.1 ((aM.le du).2 e he)
     rw [<- this]; exact bU
   ·obtain ⟨k0,tZ⟩:=Classical.not_forall.1 hl
    obtain ⟨RX,RY⟩:=Classical.not_imp.1 tZ
    refine ⟨λay=>absurd ay (Md e9 gv k0 RX (by simpa using RY)),λk hk=>?_⟩
    obtain ⟨eh,lg,vv,_⟩:=wk hk
    have t_:=(Array.getElem?_eq_some_iff.1 vv).1
    obtain ⟨e,he,rfl⟩:=aM.entry bg t_ eh
    have RF:=u3 (ops:=ops) (listed:=listed) (k:=e.1) t_ eh gv
    refine Mc e9 aM du hG jb gv aY bU bY he hk λcI w' I' cp dy de eG nE=>?_
    refine aR _ cI w' I' cp (by omega) (by simpa using gv) (λm hm eK=>?_) (ES e9 gv aY hk) eG (de.1.trans bY) λa2 iv al=>ef _ _ (ij.trans dy de nE al)
    rw [BW (by omega)]; split
    ·rfl
    ·exact bg m hm eK
 | @w_ i af g g1 g' ew acc U o rs aM hG jb bh hw he lN gN J h1 al aJ _ Tj =>
  intro du Q fuel listed a w I Fs ab gv bg eN aY bU bY ef
  have xD:af<ops.size:=(Array.getElem?_eq_some_iff.1 bh).1
  have CR:∀ k,af<k->k<ops.size->af∈cc.getD k []:=λk hk t_=>by
   have:=List.all_eq_true.1 aJ k (List.mem_range.2 t_)
   simp only [Bool.or_eq_true,decide_eq_true_eq,List.contains_iff_mem] at this
   exact this.resolve_left (by omega)
  have xG:∀ e∈U,e∈acc/\(cc.getD af []).contains e.1=false:=λe he=>by
   rw [gN] at he
   obtain ⟨j3,DE⟩:=List.mem_filter.1 he
   exact ⟨j3,by simpa using DE⟩
  have gD:(U.map (·.2.1)).Nodup:=by
   rw [gN]; exact (List.filter_sublist.map _).nodup (aM.nodup du)
  have RQ:∀ e∈U,et g (λm=>(cc.getD af []).contains m) acc e.2.1=none:=λe he=>by
   rw [aM.at_mem du (xG e he).1,(xG e he).2]; rfl
  have Fi:mS P N ops cc g1 (af+1) U:=⟨λe he=>by have:=(aM.le du).2 e (xG e he).1; omega,λe he=>(h1 e he).1,gD,λe he cX h' h=>aM.uniq du (xG e he).1 (xG cX h').1 h,al⟩
  have Wg:∀ k,af<=k->fa listed k=false:=λk hk=>eN k (Nat.le_trans (aM.le du).1 hk)
  rw [<- start aM du eN] at bU
  clear eN
  revert listed a w I Fs
  induction fuel with
  | zero =>
   intro listed a w I Fs ab gv bg aY bU bY ef eN
   have:=u3 (ops:=ops) (listed:=listed) (k:=af) xD (eN af (Nat.le_refl _)) gv
   omega
  | succ fuel Ti =>
   intro listed a w I Fs ab gv bg aY bU bY ef eN
   have fr:=eN af (Nat.le_refl _)
   refine ⟨λay=>absurd ay (Md e9 gv af xD fr),λk hk=>?_⟩
   obtain ⟨eh,lg,vv,_⟩:=wk hk
   have t_:=(Array.getElem?_eq_some_iff.1 vv).1
   have tN:=Hx e9 aY hk
   have lv:∀ q,fa (listed.setIfInBounds k true) q=if q=k then true else fa listed q:=λq=>BW (by omega)
   have RF:=u3 (ops:=ops) (listed:=listed) (k:=k) (by omega) eh gv
   rcases Nat.lt_trichotomy k af with zX | rfl | zX
   ·obtain ⟨e,FJ,rfl⟩:=aM.entry bg zX eh
    refine Mc e9 aM du hG jb gv aY bU bY FJ hk λcI w' I' cp dy de eG nE=>?_
    refine Ti _ cI w' I' cp (by omega) (by simpa using gv) (λm hm eK=>?_) (ES e9 gv aY hk) eG (de.1.trans bY) (λa2 iv al=>ef _ _ (ij.trans dy de nE al)) λm hm=>?_
    ·rw [lv]; split
     ·rfl
     ·exact bg m hm eK
    ·rw [lv,if_neg (by omega)]; exact eN m hm
   ·have PW:=Vc (A:=λm=>(cc.getD k []).contains m) (S:=fa listed) aM du gN λe he e9=>tN e.1 (by simpa using e9)
    have Sl:∀ r:Place,rs r->et g (λm=>(cc.getD k []).contains m) acc r.root≠none:=λr ay=>by
     rw [lD]
     ·exact lN r ay
     ·intro e he aS
      have:=aM.fresh du e he
      rw [aS] at this
      exact lN r ay this
    have RM:=JP (S:=fa listed) he Sl U J (λe he=>⟨RQ e he,h1 e he⟩) gD
    have hle:nU (et g (λm=>(cc.getD k []).contains m) acc) (et g (fa listed) acc):=by
     intro t x J
     rcases te J with ⟨e,he,rfl,xw,hex⟩ | ⟨pn,a'⟩
     ·rw [aM.at_mem du he,tN e.1 (by simpa using xw)]; exact hex
     ·rw [lD pn]; exact a'
    unfold wpOp
    simp only [bh,(iX.mono hle hw).sound bU,if_true]
    refine .inl (RM w I a.tmps Fs (by rw [<- PW]; exact bU) a rfl bY _ _ λcI w' aL _ _=>?_)
    obtain ⟨dy,de,I',cp,eG,nE⟩:=aL
    refine Tj Fi fuel (listed.setIfInBounds k true) cI w' I' cp (by omega) (by simpa using gv) (λm hm eK=>?_) (λm hm=>?_) (ES e9 gv aY hk) ?_ (de.1.trans bY) λa2 iv al=>ef _ _ (ij.trans dy de nE al)
    ·rw [lv]
     split
     ·rfl
     ·rename_i K6
      cases vu:fa listed m with
      | true=>rfl
      | false =>
       exfalso
       obtain ⟨e,FJ,rfl⟩:=aM.entry bg (show m<k by omega) vu
       by_cases K5:e.1∈cc.getD k []
       ·rw [tN e.1 K5] at vu; cases vu
       ·exact eK e (by rw [gN]; exact List.mem_filter.2 ⟨FJ,by simpa using K5⟩) rfl
    ·rw [lv,if_neg (by omega)]; exact eN m (by omega)
    ·have:et g1 (fa (listed.setIfInBounds k true)) U=et g1 (fa listed) U:=funext λt=>BB λe he _=>by
      rw [lv e.1,if_neg]
      have:=(aM.le du).2 e (xG e he).1
      omega
     rw [this]; exact eG
   ·have:=tN af (CR k zX t_); rw [fr] at this; cases this
end
end Go.Own
namespace Go.Own
open Go
section
variable {P:Program}{N:dW}
def gJ (P:Program) (N:dW) (c:Code) (g:aZ) (e:Exit) (g':aZ):Prop :=
 ∀ ⦃Q:Exit->Act->World->Prop⦄ ⦃a:Act⦄ ⦃w:World⦄ ⦃I:br⦄ ⦃Fs:Nat->br⦄,c_ w I a.tmps g Fs->a.tmps.size=N.size->(∀ cI w',ij N a w I Fs g' cI w'->Q e cI w')->c.wp P Q a w
theorem gJ.skip {g:aZ}:gJ P N .skip g .normal g:=λ_ _ _ _ _ bU _ ef=>wp_skip (ef _ _ ⟨rfl,hR.refl,_,_,bU,kX.refl _ _ _⟩)
theorem gJ.ret {g:aZ}:gJ P N .ret g .ret g:=λ_ _ _ _ _ bU _ ef=>wp_ret (ef _ _ ⟨rfl,hR.refl,_,_,bU,kX.refl _ _ _⟩)
theorem gJ.exit {g:aZ}{id:Nat}:gJ P N (.exit id) g (.exit id) g:=λ_ _ _ _ _ bU _ ef=>wp_exit (ef _ _ ⟨rfl,hR.refl,_,_,bU,kX.refl _ _ _⟩)
theorem gJ.seq {x y:Code}{g g1 g':aZ}{e:Exit}(h1:gJ P N x g .normal g1) (al:gJ P N y g1 e g'):gJ P N (.seq x y) g e g':=by
 intro Q a w I Fs bU bY ef
 refine wp_seq (h1 bU bY λaw jC aL=>?_)
 obtain ⟨dy,de,I',cp,eG,cm⟩:=aL
 exact al eG (de.1.trans bY) λa2 iv nD=>ef _ _ (ij.trans dy de cm nD)
theorem gJ.cond {c:Operand}{x y:Code}{g g':aZ}{e:Exit}{b:Bool}(ab:bO g c=some (.lit (.bool b))) (h:gJ P N (if b then x else y) g e g'):gJ P N (.cond c x y) g e g':=by
 intro Q a w I Fs bU bY ef
 exact wp_cond (t:=b) (ke bU ab rfl).im.1 (h bU bY ef)
theorem gJ.JH {c:Operand}{x y:Code}{g g':aZ}{e:Exit}(ab:bO g c=some (.lit (.bool true))) (h:gJ P N x g e g'):gJ P N (.cond c x y) g e g':=gJ.cond ab h
theorem gJ.JF {c:Operand}{x y:Code}{g g':aZ}{e:Exit}(ab:bO g c=some (.lit (.bool false))) (h:gJ P N y g e g'):gJ P N (.cond c x y) g e g':=gJ.cond ab h
theorem gJ.block {id:Nat}{c:Code}{g g':aZ}(h:gJ P N c g .normal g'):gJ P N (.block id c) g .normal g' :=
 λ_ _ _ _ _ bU bY ef=>wp_block (h bU bY λaw jC aL=>ef aw jC aL)
def BV (P:Program) (c:Code) (Q:Exit->Act->World->Prop) (a:Act) (w:World):Prop :=
 ∀ (b:Frame) (k:List Item) (cs:List Frame),∃ e cI w',Q e cI w'/\Arrives P (lone (b.at a (.code c::.inLoop c::k)) cs w) b k cs e cI w'
def sa (P:Program) (N:dW) (c:Code) (g:aZ) (e:Exit) (g':aZ):Prop :=
 ∀ ⦃Q:Exit->Act->World->Prop⦄ ⦃a:Act⦄ ⦃w:World⦄ ⦃I:br⦄ ⦃Fs:Nat->br⦄,c_ w I a.tmps g Fs->a.tmps.size=N.size->(∀ cI w',ij N a w I Fs g' cI w'->Q e cI w')->BV P c Q a w
theorem Ha {c:Code}{Q:Exit->Act->World->Prop}{a:Act}{w:World}(h:c.wp P (Exit.then (BV P c Q) Q) a w):BV P c Q a w:=by
 intro b k cs
 obtain ⟨e,yX,BG,bN,lx⟩:=h b (.inLoop c::k) cs
 cases e with
 | normal =>
  obtain ⟨PX,Ob,Vk,Sg,Ra⟩:=bN b k cs
  exact ⟨PX,Ob,Vk,Sg,.of_steps (Steps.trans lx (.one step_inLoop)) Ra⟩
 | exit id=>exact ⟨_,yX,BG,bN,.pass (x:=.inLoop c) rfl (λ_ _=>.inl (by simp)) lx⟩
 | goto l=>exact ⟨_,yX,BG,bN,.pass (x:=.inLoop c) rfl (λ_ _=>.inl (by simp)) lx⟩
 | ret=>exact ⟨_,yX,BG,bN,.pass (x:=.inLoop c) rfl (λ_ _=>.inl (by simp)) lx⟩
 | panic bu=>exact ⟨_,yX,BG,bN,.pass (x:=.inLoop c) rfl (λ_ _=>.inl (by simp)) lx⟩
 | outgrown=>exact ⟨_,yX,BG,bN,.pass (x:=.inLoop c) rfl (λ_ _=>.inl (by simp)) lx⟩
theorem gJ.loop {c:Code}{g g':aZ}{e:Exit}(h:sa P N c g e g'):gJ P N (.loop c) g e g':=by
 intro Q a w I Fs bU bY ef b k cs
 obtain ⟨e,cI,w',bN,lx⟩:=h bU bY ef b k cs
 exact ⟨e,cI,w',bN,.of_steps (.one step_loop) lx⟩
theorem sa.step {c:Code}{g g1 g':aZ}{e:Exit}(h1:gJ P N c g .normal g1) (al:sa P N c g1 e g'):sa P N c g e g':=by
 intro Q a w I Fs bU bY ef
 refine Ha (h1 bU bY λaw jC aL=>?_)
 obtain ⟨dy,de,I',cp,eG,cm⟩:=aL
 exact al eG (de.1.trans bY) λa2 iv nD=>ef _ _ (ij.trans dy de cm nD)
theorem sa.out {c:Code}{g g':aZ}{e:Exit}(h:gJ P N c g e g') (he:e≠.normal):sa P N c g e g':=by
 intro Q a w I Fs bU bY ef
 refine Ha (h bU bY λaw jC aL=>?_)
 cases e with
 | normal=>exact absurd rfl he
 | _=>exact ef _ _ aL
theorem gJ.region {id:Nat}{ops:Array Oper}{g g':aZ}(h:nV P N ops (List.range ops.size) g g'):gJ P N (.region id ops false) g .normal g' :=
 λ_ _ _ _ _ bU bY ef=>wp_region (h.sound bU bY ef)
theorem gJ.draw {id:Nat}{ops:Array Oper}{cc:List (List Nat)}{g g':aZ}(hm:P.follows .mixedOrders=true) (e9:rF ops cc=true) (h:rz P N ops cc 0 [] g g'):gJ P N (.region id ops true) g .normal g':=by
 intro Q a w I Fs bU bY ef
 refine wp_region_any hm ?_
 have eG:c_ w.drew I a.tmps g Fs:=bU.world (λ_ _ _=>rfl) (λ_ _=>rfl) (Nat.le_refl _)
 have hl:∀ k,fa (Array.replicate ops.size false) k=false:=by
  intro k
  unfold fa
  rcases Nat.lt_or_ge k ops.size with h | h
  ·simp [h]
  ·simp [Array.getElem?_eq_none (show (Array.replicate ops.size false).size<=k by simpa using h)]
 refine h.sound e9 .nil ops.size (Array.replicate ops.size false) a w.drew I Fs ?_ (by simp) (λk hk=>by omega) (λk _=>hl k) (λk hk=>by rw [hl] at hk; cases hk) eG bY λcI w' aL=>ef _ _ ?_
 ·unfold hV
  exact Nat.le_trans (List.length_filter_le _ _) (by simp)
 ·obtain ⟨dy,de,I',cp,il,cm⟩:=aL
  exact ⟨dy,de,I',cp,il,⟨⟨cm.fJ.os,cm.fJ.tape,cm.fJ.output,cm.fJ.size,cm.fJ.block,cm.fJ.eF,Nat.le_trans (Nat.le_succ _) cm.fJ.xj⟩,cm.more,cm.new,cm.own⟩⟩
inductive oz:aj->aj->Prop
 | refl {x:aj}:oz x x
 | dead {x:aj}(h:kC x\/dp x):oz x .dead
 | lb {z:Nat}:oz .aI (.own z 0 [])
 | vS {z:Nat}:oz .aI (.aF z 0 [])
 | obj {cs cs':List aj}(ao:cs'.length=cs.length) (h:∀ (k:Nat) (x y:aj),cs[k]?=some x->cs'[k]?=some y->oz x y):oz (.obj cs) (.obj cs')
 | own {z n:Nat}{cs cs':List aj}(ao:cs'.length=cs.length) (h:∀ (k:Nat) (x y:aj),cs[k]?=some x->cs'[k]?=some y->oz x y):oz (.own z n cs) (.own z n cs')
theorem R.gd {w:World}{I:br}{ρ:aj->Value->Prop}{x x':aj}(h:oz x x'):∀ {v:Value}{F:br},R w I ρ x v F->∃ fO,R w I ρ x' v fO/\∀ c,fO c->F c:=by
 induction h with
 | refl=>exact λbj=>⟨_,bj,λ_ h=>h⟩
 | dead=>exact λbj=>⟨cW,.dead λ_ h=>h,λ_ h=>h.elim⟩
 | lb =>
  intro v F bj
  rw [bj.q8]
  exact ⟨cW,.own (e:=0) (us:=[]) (Fs:=λ_=>cW) ⟨by simp,.inl ⟨rfl,rfl⟩⟩ rfl (by simp) (by simp) (λ_ _ _ _ _ h=>h.elim) (λ_ _ _ h=>h.elim) λc=>⟨λh=>h.elim,λh=>h.elim (λh=>by simp [Value.ownBlock] at h) λ⟨_,_,h⟩=>h⟩,λ_ h=>h.elim⟩
 | vS=>intro v F bj; rw [bj.q8]; exact ⟨cW,.hY λ_ h=>h,λ_ h=>h.elim⟩
 | @obj cs cs' ao _ aR =>
  intro v F bj
  cases bj with
  | ref J=>simp [aj.isRef] at J
  | @obj _ b e arr bK _ bh ia h1 ay aY aJ aQ =>
   have:∀ k,∃ sc:br,k<cs.length->(∀ (x:aj) (u:Value),cs'[k]?=some x->arr[k]?=some u->R w I ρ x u sc)/\∀ c,sc c->bK k c:=by
    intro k
    by_cases hk:k<cs.length
    ·have J:=List.getElem?_eq_getElem hk
     have az:cs'[k]?=some (cs'[k]'(by omega)):=List.getElem?_eq_getElem (by omega)
     have hu:arr[k]?=some (arr[k]'(by omega)):=Array.getElem?_eq_getElem (by omega)
     obtain ⟨fO,h1,al⟩:=aR k _ _ J az (ay k _ _ J hu)
     refine ⟨fO,λ_=>⟨λx u f' fQ=>?_,al⟩⟩
     rw [az] at f'; rw [hu] at fQ
     cases f'; cases fQ
     exact h1
    ·exact ⟨cW,λh=>absurd h hk⟩
   obtain ⟨sc,qU⟩:=Classical.axiomOfChoice this
   refine ⟨_,.obj (Fs:=sc) bh (by omega) h1 (λk x u J hu=>(qU k (by rw [<- ao]; exact (List.getElem?_eq_some_iff.1 J).1)).1 x u J hu) (λaf k c aa hk h aS=>aY af k c (by omega) (by omega) ((qU af (by omega)).2 c h) ((qU k (by omega)).2 c aS)) (λk hk h=>aJ k (by omega) ((qU k (by omega)).2 b h)) (λc=>Iff.rfl),λc ab=>?_⟩
   rcases ab with rfl | ⟨k,hk,h⟩
   ·exact (aQ _).2 (.inl rfl)
   ·exact (aQ c).2 (.inr ⟨k,by omega,(qU k (by omega)).2 c h⟩)
 | @own z n cs cs' ao _ aR =>
  intro v F bj
  cases bj with
  | ref J=>simp [aj.isRef] at J
  | @own _ _ _ _ e us bK _ bh ia h1 ay aY aJ aQ =>
   have:∀ k,∃ sc:br,k<cs.length->(∀ (x:aj) (u:Value),cs'[k]?=some x->us[k]?=some u->R w I ρ x u sc)/\∀ c,sc c->bK k c:=by
    intro k
    by_cases hk:k<cs.length
    ·have J:=List.getElem?_eq_getElem hk
     have az:cs'[k]?=some (cs'[k]'(by omega)):=List.getElem?_eq_getElem (by omega)
     have hu:us[k]?=some (us[k]'(by omega)):=List.getElem?_eq_getElem (by omega)
     obtain ⟨fO,h1,al⟩:=aR k _ _ J az (ay k _ _ J hu)
     refine ⟨fO,λ_=>⟨λx u f' fQ=>?_,al⟩⟩
     rw [az] at f'; rw [hu] at fQ
     cases f'; cases fQ
     exact h1
    ·exact ⟨cW,λh=>absurd h hk⟩
   obtain ⟨sc,qU⟩:=Classical.axiomOfChoice this
   refine ⟨_,.own (Fs:=sc) bh (by omega) h1 (λk x u J hu=>(qU k (by rw [<- ao]; exact (List.getElem?_eq_some_iff.1 J).1)).1 x u J hu) (λaf k c aa hk h aS=>aY af k c (by omega) (by omega) ((qU af (by omega)).2 c h) ((qU k (by omega)).2 c aS)) (λk c hk h=>aJ k c (by omega) ((qU k (by omega)).2 c h)) (λc=>Iff.rfl),λc ab=>?_⟩
   rcases ab with ab | ⟨k,hk,h⟩
   ·exact (aQ _).2 (.inl ab)
   ·exact (aQ c).2 (.inr ⟨k,by omega,(qU k (by omega)).2 c h⟩)
structure kZ (g1 g2:aZ):Prop where
 sub:∀ t x,g2 t=some x->∃ y,g1 t=some y/\oz y x
 bk:∀ t x,g2 t=some x->e7 g2 x
 fR:∀ t z q n m new,g2 t≠some (.bR z q n m new)
theorem c_.gd {w:World}{I:br}{T:Array Value}{g1 g2:aZ}{Fs:Nat->br}(h:c_ w I T g1 Fs) (hk:kZ g1 g2):∃ cp,c_ w I T g2 cp/\∀ t c,cp t c->Fs t c:=by
 have:∀ t,∃ fO:br,(∀ x,g2 t=some x->∃ v,T[t]?=some v/\R w I (er w T g2) x v fO)/\(∀ c,fO c->Fs t c)/\(g2 t=none->∀ c,¬ fO c):=by
  intro t
  cases J:g2 t with
  | none=>exact ⟨cW,by simp,λ_ h=>h.elim,λ_ _ h=>h⟩
  | some x =>
   obtain ⟨y,az,hw⟩:=hk.sub t x J
   obtain ⟨v,hv,bj⟩:=h.mi.rel t y az
   have k8:∀ z q n m new,y≠.bR z q n m new:=by
    rintro z q n m new rfl
    cases hw with
    | refl=>exact hk.fR _ _ _ _ _ _ J
    | dead b6=>rcases b6 with b6 | b6 <;> cases b6
   obtain ⟨fO,jv,nC⟩:=R.gd hw (bj.hM k8)
   exact ⟨fO,λx' f'=>by cases f'; exact ⟨v,hv,jv.bk (hk.bk t x J)⟩,nC,by simp⟩
 obtain ⟨cp,oE⟩:=Classical.axiomOfChoice this
 refine ⟨cp,⟨λt x J=>?_,λt aE=>(oE t).2.2 aE,λt ds c h1 al=>h.e8 _ _ _ ((oE t).2.1 c h1) ((oE ds).2.1 c al),λt c ab=>h.aF _ _ ((oE t).2.1 c ab),h.lt,λt ds z p n m new _ _ _ _ h1=>absurd h1 (hk.fR _ _ _ _ _ _)⟩,λt=>(oE t).2.1⟩
 obtain ⟨v,hv,bj⟩:=(oE t).1 x J
 exact ⟨v,hv,.tree bj⟩
theorem gJ.weaken {c:Code}{g g1 g':aZ}{e:Exit}(hk:kZ g g1) (h:gJ P N c g1 e g'):gJ P N c g e g':=by
 intro Q a w I Fs bU bY ef
 obtain ⟨cp,eG,gE⟩:=bU.gd hk
 exact h eG bY λcI w' aL=>ef _ _ (ij.trans rfl hR.refl ⟨Fr.refl _ _,λ_ h=>h,λ_ h=>.inl h,λc ⟨t,ab⟩=>.inl ⟨t,gE t c ab⟩⟩ aL)
theorem sa.weaken {c:Code}{g g1 g':aZ}{e:Exit}(hk:kZ g g1) (h:sa P N c g1 e g'):sa P N c g e g':=by
 intro Q a w I Fs bU bY ef
 obtain ⟨cp,eG,gE⟩:=bU.gd hk
 exact h eG bY λcI w' aL=>ef _ _ (ij.trans rfl hR.refl ⟨Fr.refl _ _,λ_ h=>h,λ_ h=>.inl h,λc ⟨t,ab⟩=>.inl ⟨t,gE t c ab⟩⟩ aL)
end
end Go.Own
namespace Go.Own
open Go
inductive yT (P:Program) (g:aZ):ResultVar->aj->Prop
 | tmp {t:Nat}{y:aj}(h:bO g (.tmp t)=some y):yT P g (.tmp t) y
 | cell {a:Nat}{t ty:TypeId}{y:aj}(h:dA P g (.load t (.tmp a)) ty y):yT P g (.cell a t) y
inductive qB (P:Program) (g:aZ):List ResultVar->List aj->Prop
 | nil:qB P g [] []
 | cons {r:ResultVar}{rs:List ResultVar}{y:aj}{ys:List aj}(h:yT P g r y) (aE:qB P g rs ys):qB P g (r::rs) (y::ys)
def qn:List aj->aj
 | [x]=>x
 | l=>.cG l
def wm:List Value->Value
 | [x]=>x
 | l=>.tuple l.toArray
def uA (tmps:Array Value):ResultVar->Sem Value
 | .tmp t=>pure (tmps.getD t undef)
 | .cell a t=>do loadVar t (<- asAddr (tmps.getD a undef))
section
variable {P:Program}{w:World}{I:br}{g:aZ}{Fs:Nat->br}
theorem yT.run {a:Act}(h:c_ w I a.tmps g Fs) {r:ResultVar}{y:aj}(ay:yT P g r y):∃ v,(uA a.tmps r).run P w=.ok v w/\R w I (er w a.tmps g) y v cW:=by
 cases ay with
 | @tmp t y h1=>exact ⟨_,rfl,ke h h1 rfl⟩
 | @cell a0 t ty y h1 =>
  obtain ⟨v, hv, bj⟩ := dA.sound h rfl (o := { dst := none, op := .load t (.tmp a0), type := ty, pos := "", after := #[], guard := none }) h1
  refine ⟨v,?_,bj⟩
  have he:a.eval (.tmp a0)=a.tmps.getD a0 undef:=rfl
  simp only [execOp,he] at hv
  cases ab:a.tmps.getD a0 undef with
  | pointer ad =>
   cases ad with
   | some ad =>
    rw [ab] at hv
    simp only [Instr.loadAt,Instr.sureAddr] at hv
    simp only [uA,ab,asAddr]
    have aH:(pure ad >>= λx=>loadVar t x:Sem Value)=loadVar t ad:=by simp
    rw [aH]
    revert hv
    generalize bN:loadVar t ad=q
    intro hv
    simp [bN] at hv
    cases C2:q.run P w with
    | ok x iv=>rw [C2] at hv; simp at hv; rw [hv.1,hv.2]
    | halt e iv=>rw [C2] at hv; simp at hv
   | none=>rw [ab] at hv; simp [Instr.loadAt,Instr.sureAddr] at hv
  | _=>rw [ab] at hv; simp [Instr.loadAt,Instr.sureAddr] at hv
theorem Mq {f:ResultVar->Sem Value}:∀ (l:List ResultVar) (vs:List Value),l.length=vs.length->(∀ (k:Nat) (r:ResultVar) (v:Value),l[k]?=some r->vs[k]?=some v->(f r).run P w=.ok v w)->(l.mapM f).run P w=.ok vs w
 | [],[],_,_=>rfl
 | r::l,v::vs,ao,h=>by
  have bd:=h 0 r v rfl rfl
  have h1:=Mq l vs (by simpa using ao) λk r v ay hv=>h (k+1) r v (by simpa using ay) (by simpa using hv)
  simp [List.mapM_cons,bd,h1]
 | [],_::_,ao,_=>by simp at ao
 | _::_,[],ao,_=>by simp at ao
theorem Uo {fn:Func}{tmps:Array Value}{vs:List Value}(ao:fn.results.toList.length=vs.length) (h:∀ (k:Nat) (r:ResultVar) (v:Value),fn.results.toList[k]?=some r->vs[k]?=some v->(uA tmps r).run P w=.ok v w):(results fn tmps).run P w=.ok (wm vs) w:=by
 have h1:=Mq fn.results.toList vs ao h
 have al:fn.results.mapM (uA tmps)=List.toArray <$> fn.results.toList.mapM (uA tmps):=Array.mapM_eq_mapM_toList
 have aP:(fn.results.mapM (uA tmps)).run P w=.ok vs.toArray w:=by rw [al]; simp [h1]
 have b3:results fn tmps=(do let vs <- fn.results.mapM (uA tmps); pure (if h:vs.size=1 then vs[0] else .tuple vs)):=by
  unfold results
  congr 1
 rw [b3]
 simp only [Sem.run_bind,aP]
 match vs with
 | []=>rfl
 | [x]=>rfl
 | x::y::l=>simp [wm]
theorem qB.length {g:aZ}{rs:List ResultVar}{ys:List aj}(h:qB P g rs ys):rs.length=ys.length:=by
 induction h with
 | nil=>rfl
 | cons _ _ aR=>simp [aR]
theorem qB.run {a:Act}(h:c_ w I a.tmps g Fs) {rs:List ResultVar}{ys:List aj}(ay:qB P g rs ys):∃ vs:List Value,rs.length=vs.length/\(∀ (k:Nat) (r:ResultVar) (v:Value),rs[k]?=some r->vs[k]?=some v->(uA a.tmps r).run P w=.ok v w) /\
  ∀ (k:Nat) (y:aj) (v:Value),ys[k]?=some y->vs[k]?=some v->R w I (er w a.tmps g) y v cW:=by
 induction ay with
 | nil=>exact ⟨[],rfl,by simp,by simp⟩
 | cons h1 _ aR =>
  obtain ⟨v,hv,bj⟩:=h1.run h
  obtain ⟨vs,ao,al,aP⟩:=aR
  refine ⟨v::vs,by simp [ao],λk r u ay hu=>?_,λk y u az hu=>?_⟩
  ·cases k with
   | zero=>simp at ay hu; subst ay hu; exact hv
   | succ k=>exact al k r u (by simpa using ay) (by simpa using hu)
  ·cases k with
   | zero=>simp at az hu; subst az hu; exact bj
   | succ k=>exact aP k y u (by simpa using az) (by simpa using hu)
theorem Hand.qn {ρ:aj->Value->Prop}{Fs:Nat->br}{xs:List aj}{vs:List Value}{dZ:Nat->br}(h:Hand w I ρ Fs xs vs dZ) (aL:∀ x∈xs,dp x) (ρ':aj->Value->Prop):R w I ρ' (qn xs) (wm vs) (λc=>∃ k,k<xs.length/\dZ k c)/\dp (qn xs):=by
 have cG:R w I ρ' (.cG xs) (.tuple vs.toArray) (λc=>∃ k,k<xs.length/\dZ k c) :=
  .cG (by simpa using h.len) (λk x u J hu=>(h.rel k x u J (by simpa using hu)).bI (aL x (List.mem_of_getElem? J))) h.e8 λc=>Iff.rfl
 match xs,vs,h,aL,cG with
 | [],[],_,_,cG=>exact ⟨cG,.cG (by simp)⟩
 | [x],[v],h,aL,_ =>
  refine ⟨((h.rel 0 x v rfl rfl).bI (aL x (by simp))).xi λc=>⟨λab=>⟨0,by simp,ab⟩,λ⟨k,hk,ab⟩=>?_⟩,aL x (by simp)⟩
  have:k=0:=by simpa using hk
  subst this; exact ab
 | x::y::l,v::u::m,_,aL,cG=>exact ⟨cG,.cG aL⟩
 | [],_::_,h,_,_=>have:=h.len; simp at this
 | _::_,[],h,_,_=>have:=h.len; simp at this
 | [_],_::_::_,h,_,_=>have:=h.len; simp at this
 | _::_::_,[_],h,_,_=>have:=h.len; simp at this
structure Leaves (P:Program) (N:dW) (rs:List ResultVar) (g':aZ) (n:Nat) (outs:List (Option aj)) (res:aj):Prop where
 ex:∃ ys xs g1,qB P g' rs ys/\Take g' ys xs g1/\res=qn xs/\∀ (k:Nat) (x:aj),outs[k]?=some (some x)->g1 k=some x/\dp x/\k∈N.pins
 len:outs.length=n
theorem c_.more {T:Array Value}(h:c_ w I T g Fs) {T':Array Value}(fP:∀ t,g t≠none->T'[t]?=T[t]?):c_ w I T' g Fs:=by
 refine ⟨λt x J=>?_,h.kO,h.e8,h.aF,h.lt,h.qk⟩
 obtain ⟨u,hu,bj⟩:=h.rel t x J
 exact ⟨u,by rw [fP t (by rw [J]; simp)]; exact hu,h.vc fP (λ_ _ _=>rfl) (λ_ _=>rfl) (λ_ h=>h) (λ_ _ h=>h) bj λ_ _=>rfl⟩
end
end Go.Own
namespace Go.Own
open Go
section
variable {P:Program}{N:dW}
def W (P:Program) (N:dW) (c:Code) (g:aZ) (Φ:Exit->aZ->Prop):Prop :=
 ∀ ⦃Q:Exit->Act->World->Prop⦄ ⦃a:Act⦄ ⦃w:World⦄ ⦃I:br⦄ ⦃Fs:Nat->br⦄,c_ w I a.tmps g Fs->a.tmps.size=N.size->(∀ e g' cI w',Φ e g'->ij N a w I Fs g' cI w'->Q e cI w')->c.wp P Q a w
def tb (fU:aZ->Prop) (Φ:Exit->aZ->Prop):Exit->aZ->Prop
 | .normal,g=>fU g
 | e,g=>Φ e g
def rX (id:Nat) (Φ:Exit->aZ->Prop):Exit->aZ->Prop
 | .exit k,g=>if k=id then Φ .normal g else Φ (.exit k) g
 | e,g=>Φ e g
theorem ij.refl {a:Act}{w:World}{I:br}{g:aZ}{Fs:Nat->br}(h:c_ w I a.tmps g Fs):ij N a w I Fs g a w:=⟨rfl,hR.refl,_,_,h,kX.refl _ _ _⟩
theorem gJ.w {c:Code}{g g':aZ}{e:Exit}{Φ:Exit->aZ->Prop}(h:gJ P N c g e g') (nH:Φ e g'):W P N c g Φ :=
 λ_ _ _ _ _ bU bY ef=>h bU bY λcI w' aL=>ef _ _ cI w' nH aL
theorem W.mono {c:Code}{g:aZ}{Φ pL:Exit->aZ->Prop}(h:W P N c g Φ) (nH:∀ e g',Φ e g'->pL e g'):W P N c g pL :=
 λ_ _ _ _ _ bU bY ef=>h bU bY λ_ _ cI w' h1 aL=>ef _ _ cI w' (nH _ _ h1) aL
theorem W.skip {g:aZ}{Φ:Exit->aZ->Prop}(h:Φ .normal g):W P N .skip g Φ:=gJ.skip.w h
theorem W.ret {g:aZ}{Φ:Exit->aZ->Prop}(h:Φ .ret g):W P N .ret g Φ:=gJ.ret.w h
theorem W.exit {g:aZ}{id:Nat}{Φ:Exit->aZ->Prop}(h:Φ (.exit id) g):W P N (.exit id) g Φ:=gJ.exit.w h
theorem W.seq {x y:Code}{g:aZ}{Φ:Exit->aZ->Prop}(h:W P N x g (tb (λg1=>W P N y g1 Φ) Φ)):W P N (.seq x y) g Φ:=by
 intro Q a w I Fs bU bY ef
 refine wp_seq (h bU bY λe g1 aw jC h1 aL=>?_)
 cases e with
 | normal =>
  obtain ⟨dy,de,I',cp,eG,cm⟩:=aL
  exact h1 eG (de.1.trans bY) λsy g2 a2 iv al nD=>ef _ _ _ _ al (ij.trans dy de cm nD)
 | _=>exact ef _ _ _ _ h1 aL
theorem W.cond {c:Operand}{x y:Code}{g:aZ}{Φ:Exit->aZ->Prop}{b:Bool}(ab:bO g c=some (.lit (.bool b))) (h:W P N (if b then x else y) g Φ):W P N (.cond c x y) g Φ :=
 λ_ _ _ _ _ bU bY ef=>wp_cond (t:=b) (ke bU ab rfl).im.1 (h bU bY ef)
theorem W.JH {c:Operand}{x y:Code}{g:aZ}{Φ:Exit->aZ->Prop}(ab:bO g c=some (.lit (.bool true))) (h:W P N x g Φ):W P N (.cond c x y) g Φ:=W.cond ab h
theorem W.JF {c:Operand}{x y:Code}{g:aZ}{Φ:Exit->aZ->Prop}(ab:bO g c=some (.lit (.bool false))) (h:W P N y g Φ):W P N (.cond c x y) g Φ:=W.cond ab h
theorem W.block {id:Nat}{c:Code}{g:aZ}{Φ:Exit->aZ->Prop}(h:W P N c g (rX id Φ)):W P N (.block id c) g Φ:=by
 intro Q a w I Fs bU bY ef
 refine wp_block (h bU bY λe g1 aw jC h1 aL=>?_)
 cases e with
 | exit k =>
  have al:if k=id then Φ .normal g1 else Φ (.exit k) g1:=h1
  simp only [Exit.inBlock]
  by_cases hk:k=id
  ·rw [if_pos hk] at al ⊢
   exact ef _ _ _ _ al aL
  ·rw [if_neg hk] at al ⊢
   exact ef _ _ _ _ al aL
 | _=>exact ef _ _ _ _ h1 aL
def oy (P:Program) (N:dW) (c:Code) (g:aZ) (Φ:Exit->aZ->Prop):Prop :=
 ∀ ⦃Q:Exit->Act->World->Prop⦄ ⦃a:Act⦄ ⦃w:World⦄ ⦃I:br⦄ ⦃Fs:Nat->br⦄,c_ w I a.tmps g Fs->a.tmps.size=N.size->(∀ e g' cI w',Φ e g'->ij N a w I Fs g' cI w'->Q e cI w')->BV P c Q a w
theorem W.loop {c:Code}{g:aZ}{Φ:Exit->aZ->Prop}(h:oy P N c g Φ):W P N (.loop c) g Φ:=by
 intro Q a w I Fs bU bY ef b k cs
 obtain ⟨e,cI,w',bN,lx⟩:=h bU bY ef b k cs
 exact ⟨e,cI,w',bN,.of_steps (.one step_loop) lx⟩
theorem oy.step {c:Code}{g:aZ}{Φ:Exit->aZ->Prop}(h:W P N c g (tb (λg1=>oy P N c g1 Φ) Φ)):oy P N c g Φ:=by
 intro Q a w I Fs bU bY ef
 refine Ha (h bU bY λe g1 aw jC h1 aL=>?_)
 cases e with
 | normal =>
  obtain ⟨dy,de,I',cp,eG,cm⟩:=aL
  exact h1 eG (de.1.trans bY) λsy g2 a2 iv al nD=>ef _ _ _ _ al (ij.trans dy de cm nD)
 | _=>exact ef _ _ _ _ h1 aL
theorem W.weaken {c:Code}{g g1:aZ}{Φ:Exit->aZ->Prop}(hk:kZ g g1) (h:W P N c g1 Φ):W P N c g Φ:=by
 intro Q a w I Fs bU bY ef
 obtain ⟨cp,eG,gE⟩:=bU.gd hk
 exact h eG bY λe g' cI w' h1 aL=>ef _ _ _ _ h1 (ij.trans rfl hR.refl ⟨Fr.refl _ _,λ_ h=>h,λ_ h=>.inl h,λc ⟨t,ab⟩=>.inl ⟨t,gE t c ab⟩⟩ aL)
theorem oy.weaken {c:Code}{g g1:aZ}{Φ:Exit->aZ->Prop}(hk:kZ g g1) (h:oy P N c g1 Φ):oy P N c g Φ:=by
 intro Q a w I Fs bU bY ef
 obtain ⟨cp,eG,gE⟩:=bU.gd hk
 exact h eG bY λe g' cI w' h1 aL=>ef _ _ _ _ h1 (ij.trans rfl hR.refl ⟨Fr.refl _ _,λ_ h=>h,λ_ h=>.inl h,λc ⟨t,ab⟩=>.inl ⟨t,gE t c ab⟩⟩ aL)
theorem W.out {c:Code}{g:aZ}{Φ pL:Exit->aZ->Prop}(h:W P N c g Φ) (nH:∀ e g',Φ e g'->∃ g2,kZ g' g2/\pL e g2):W P N c g pL:=by
 intro Q a w I Fs bU bY ef
 refine h bU bY λe g' cI w' h1 aL=>?_
 obtain ⟨g2,hk,al⟩:=nH e g' h1
 obtain ⟨dy,de,I',cp,eG,cm⟩:=aL
 obtain ⟨je,il,gE⟩:=eG.gd hk
 exact ef _ _ _ _ al ⟨dy,de,I',je,il,cm.trans ⟨Fr.refl _ _,λ_ h=>h,λ_ h=>.inl h,λc ⟨t,ab⟩=>.inl ⟨t,gE t c ab⟩⟩⟩
def Iy (P:Program) (N:dW) (ops:Array Oper) (is:List Nat) (g:aZ) (K:aZ->Prop):Prop:=∃ g',nV P N ops is g g'/\K g'
theorem W.region {id:Nat}{ops:Array Oper}{g:aZ}{Φ:Exit->aZ->Prop}(h:Iy P N ops (List.range ops.size) g (Φ .normal)):W P N (.region id ops false) g Φ:=by
 obtain ⟨g',ay,nH⟩:=h
 exact (gJ.region ay).w nH
theorem b_.TK {f:FuncId}{fn:Func}{c:Code}{args:List aj}{outs:List (Option aj)}{res:aj}{N:dW}(bn:P.funcs[f]?=some fn) (aJ:fn.body=some c) (bY:fn.ntmps=N.size) (bm:args.length<=N.size)
  (hlen:outs.length=args.length) (hw:W P N c (o9 args) λe g'=>(e=.normal\/e=.ret)/\Leaves P N fn.results.toList g' args.length outs res):b_ P f args outs res:=by
 refine ⟨hlen,λw I vs Fs Gp bU=>calls_of_wp bn aJ ?_⟩
 have gv:({ tmps:=vs.toArray++Array.replicate (fn.ntmps - vs.toArray.size) undef,defers:=[] }:Act).tmps.size=N.size:=by
  simp; omega
 have ph:∀ t,t<vs.length->(vs.toArray++Array.replicate (fn.ntmps - vs.toArray.size) undef)[t]?=vs.toArray[t]?:=by
  intro t aE
  rw [Array.getElem?_append_left (by simpa using aE)]
 refine hw (bU.more (T':=vs.toArray++Array.replicate (fn.ntmps - vs.toArray.size) undef) λt aE=>ph t ?_) gv λe g' cI w' ⟨he,bh⟩ aL=>?_
 ·unfold o9 at aE
  rw [Gp]
  rcases Nat.lt_or_ge t args.length with h | h
  ·exact h
  ·exact absurd (List.getElem?_eq_none h) aE
 obtain ⟨aY,hold,I',cp,eG,cm⟩:=aL
 obtain ⟨ys,xs,g1,Lg,aE,rfl,pn⟩:=bh.ex
 obtain ⟨us,q3,h4,mu⟩:=Lg.run eG
 have C_:ys.length=us.length:=by rw [<- Lg.length,q3]
 obtain ⟨gi,dZ,jh,iM,hl⟩:=aE.sound eG.mi (⟨C_,λk x u J hu=>(mu k x u J hu).frame (λ_ _=>rfl) (λ_ h=>h) (λ_ _ h=>h.1) λ_ _=>rfl,λ_ _ _ _ _ h=>h.elim,λ_ _ _ _ h=>h.elim,λ_ _ _ h=>h.elim⟩:Hand w' I' (fV w' cI.tmps) cp ys us λ_=>cW)
 have gE:∀ c,lk gi xs.length dZ c->∃ t,cp t c:=by
  intro c ab
  rcases hl c ab with h | ⟨_,_,h⟩
  ·exact h
  ·exact h.elim
 have RN:∃ je,c_ w' I' (vs++[wm us]).toArray (oR outs (qn xs)) je/\∀ t c,je t c->∃ t,cp t c:=by
  classical
  refine ⟨λt=>if t=outs.length then (λc=>∃ k,k<xs.length/\dZ k c) else if ∃ x,outs[t]?=some (some x) then gi t else cW,⟨λt x J=>?_,λt p_ c ab=>?_,λt ds c h1 al=>?_,λt c ab=>?_,eG.lt,λt ds z p n m new cN cY m' dq h1 al=>?_⟩,λt c ab=>?_⟩
  ·unfold oR at J
   by_cases bd:t=outs.length
   ·rw [if_pos bd] at J
    cases J
    subst bd
    refine ⟨wm us,?_,.tree ?_⟩
    ·rw [bh.len,<- Gp]; simp
    ·simpa using (iM.qn aE.AH _).1
   ·rw [if_neg bd] at J
    have f':outs[t]?=some (some x):=by
     cases b6:outs[t]? with
     | none=>rw [b6] at J; cases J
     | some y=>rw [b6] at J; simpa using J
    obtain ⟨h1,al,aP⟩:=pn t x f'
    have Gj:t<vs.length:=by
     have:=(List.getElem?_eq_some_iff.1 f').1
     rw [Gp,<- bh.len]; exact this
    obtain ⟨v,hv,bj⟩:=jh.rel t x h1
    refine ⟨v,?_,?_⟩
    ·rw [hold.2 t aP] at hv
     simp only at hv
     rw [ph t Gj] at hv
     simp only [List.getElem?_toArray] at hv ⊢
     rw [List.getElem?_append_left Gj]; exact hv
    ·simp only [bd,if_false]
     rw [if_pos ⟨x,f'⟩]
     exact .tree ((bj.hM (by rintro z p n m new rfl; cases al)).bI al)
  ·unfold oR at p_
   by_cases bd:t=outs.length
   ·rw [if_pos bd] at p_; cases p_
   ·rw [if_neg bd] at p_
    simp only [bd,if_false] at ab
    rw [if_neg] at ab
    ·exact ab
    ·rintro ⟨x,J⟩
     rw [J] at p_; cases p_
  ·by_cases bd:t=outs.length <;> by_cases CJ:ds=outs.length <;> simp only [bd,CJ,if_true,if_false] at h1 al
   ·rw [bd,CJ]
   ·split at al
    ·obtain ⟨k,hk,ab⟩:=h1
     exact absurd al (iM.off k ds c hk ab)
    ·exact al.elim
   ·split at h1
    ·obtain ⟨k,hk,ab⟩:=al
     exact absurd h1 (iM.off k t c hk ab)
    ·exact h1.elim
   ·split at h1
    ·split at al
     ·exact jh.e8 _ _ _ h1 al
     ·exact al.elim
    ·exact h1.elim
  ·by_cases bd:t=outs.length <;> simp only [bd,if_true,if_false] at ab
   ·obtain ⟨k,hk,ab⟩:=ab
    exact iM.aF k c hk ab
   ·split at ab
    ·exact jh.aF _ _ ab
    ·exact ab.elim
  ·have key:∀ t x,oR outs (qn xs) t=some x->dp x:=by
    intro t x J
    unfold oR at J
    split at J
    ·cases J; exact (iM.qn aE.AH (λ_ _=>False)).2
    ·cases b6:outs[t]? with
     | none=>rw [b6] at J; cases J
     | some y=>rw [b6] at J; exact (pn t x (by rw [b6]; simpa using J)).2.1
   have:=key t _ h1
   cases this
  ·by_cases bd:t=outs.length <;> simp only [bd,if_true,if_false] at ab
   ·obtain ⟨k,hk,ab⟩:=ab
    exact gE c (.inr ⟨k,hk,ab⟩)
   ·split at ab
    ·exact gE c (.inl ⟨t,ab⟩)
    ·exact ab.elim
 obtain ⟨je,il,Sv⟩:=RN
 have Sf:cI.defers=[]/\∃ v,(results fn cI.tmps).run P w'=.ok v w'/\∃ hQ I' cp,Ending.returned v=.returned hQ/\c_ w' I' (vs++[hQ]).toArray (oR outs (qn xs)) cp/\kX w I (λc=>∃ t,Fs t c) w' I' (λc=>∃ t,cp t c) :=
  ⟨aY,wm us,Uo q3 h4,wm us,I',je,rfl,il,cm.trans ⟨Fr.refl _ _,λ_ h=>h,λ_ h=>.inl h,λc ⟨t,ab⟩=>.inl (Sv t c ab)⟩⟩
 rcases he with rfl | rfl <;> exact Sf
end
end Go.Own
namespace Go.Own
open Go
def get:List (Nat × aj)->aZ
 | [],_=>none
 | (s,x)::l,t=>if t=s then some x else get l t
inductive Rd (g:aZ):Operand->aj->Prop
 | lit {t:Nat}{v:Value}(h:g t=some (.lit v)):Rd g (.tmp t) (.lit v)
 | k {v:Value}(h:ofConst v=.lit v):Rd g (.const v) (.lit v)
 | G9:Rd g (.const (.slice none 0 0)) .aI
 | Ts {v:Value}{cs:List aj}(h:ofConst v=.agg cs):Rd g (.const v) (.agg cs)
 | aI {t:Nat}(h:g t=some .aI):Rd g (.tmp t) .aI
 | aF {t z n:Nat}{cs:List aj}(h:g t=some (.aF z n cs)):Rd g (.tmp t) (.aF z n cs)
 | own {t z n:Nat}{cs:List aj}(h:g t=some (.own z n cs)):Rd g (.tmp t) (.bl z ⟨t,[]⟩ n)
 | obj {t:Nat}{c:aj}{cs:List aj}(h:g t=some (.obj (c::cs))):Rd g (.tmp t) (.ptr ⟨t,[]⟩ 0)
 | bo {t:Nat}{cs:List aj}(h:g t=some (.bo cs)):Rd g (.tmp t) (.bo cs)
 | ptr {t k:Nat}{p:Place}(h:g t=some (.ptr p k)):Rd g (.tmp t) (.ptr p k)
 | bl {t z n:Nat}{p:Place}(h:g t=some (.bl z p n)):Rd g (.tmp t) (.bl z p n)
 | sub {t z lo n:Nat}{p:Place}(h:g t=some (.sub z p lo n)):Rd g (.tmp t) (.sub z p lo n)
 | bR {t z n m:Nat}{p:Place}{new:List aj}(h:g t=some (.bR z p n m new)):Rd g (.tmp t) (.bl z ⟨t,[]⟩ (n+m))
 | agg {t:Nat}{cs cs':List aj}(h:g t=some (.agg cs)) (ab:(cs.mapIdx λi x=>ib 1 (Place.push ⟨t,[]⟩ i) x)=cs'):Rd g (.tmp t) (.agg cs')
 | cG {t:Nat}{cs cs':List aj}(h:g t=some (.cG cs)) (ab:(cs.mapIdx λi x=>ib 1 (Place.push ⟨t,[]⟩ i) x)=cs'):Rd g (.tmp t) (.cG cs')
 | func {f:FuncId}:Rd g (.func f) (.ey (.func f) [] [])
 | ey {t:Nat}{fn:Fn}{cs:List aj}(h:g t=some (.ey fn [] cs)):Rd g (.tmp t) (.ey fn [] cs)
 | mp {t:Nat}{q:Array MapEntry->Nat->Prop}(h:g t=some (.mp q)):Rd g (.tmp t) (.hN ⟨t,[]⟩)
 | hN {t:Nat}{p:Place}(h:g t=some (.hN p)):Rd g (.tmp t) (.hN p)
 | imp {t:Nat}{q:Array MapEntry->Nat->Prop}(h:g t=some (.imp q)):Rd g (.tmp t) (.imp q)
theorem Rd.bO {g:aZ}{x:Operand}{y:aj}(h:Rd g x y):bO g x=some y:=by
 cases h with
 | agg h ab=>subst ab; simp [Own.bO,h,ri,ib]
 | cG h ab=>subst ab; simp [Own.bO,h,ri,ib]
 | k h=>simp [Own.bO,h]
 | G9=>rfl
 | Ts h=>simp [Own.bO,h]
 | func=>rfl
 | _ h=>simp [Own.bO,h,ri,ib]
section
variable {P:Program}{N:dW}{ops:Array Oper}{g:aZ}{K:aZ->Prop}{l:List Oper}
def aq (P:Program) (N:dW) (ops:Array Oper) (l:List Oper) (g:aZ) (K:aZ->Prop):Prop:=∀ i,ops.toList.drop i=l->Iy P N ops (List.range' i l.length) g K
theorem W.Ua {id:Nat}{l:List Oper}{g:aZ}{Φ:Exit->aZ->Prop}(h:aq P N l.toArray l g (Φ .normal)):W P N (.region id l.toArray false) g Φ:=by
 refine W.region ?_
 have:=h 0 (by simp)
 rw [List.range_eq_range']
 simpa using this
theorem aq.nil (h:K g):aq P N ops [] g K:=λ_ _=>⟨g,.nil,h⟩
theorem drop_cons {i:Nat}{o:Oper}(h:ops.toList.drop i=o::l):ops[i]?=some o/\ops.toList.drop (i+1)=l:=by
 have h1:(ops.toList.drop i)[0]?=some o:=by rw [h]; rfl
 rw [List.getElem?_drop] at h1
 refine ⟨by simpa using h1,?_⟩
 rw [<- List.drop_drop,h]
 rfl
variable {d:Nat}{op:Op}{ty:TypeId}{pos:String}{after:Array Edge}{x:aj}
theorem aq.yw {r:Option aj}{o:Oper}(aY:o.dst=some d) (bY:N.ok d=true) (bn:g d=none) (aM:o6 P g ops o r) (hk:aq P N ops l (wi g d r) K):aq P N ops (o::l) g K:=by
 intro i hi
 obtain ⟨h1,al⟩:=drop_cons hi
 obtain ⟨g',ay,eA⟩:=hk (i+1) al
 exact ⟨g',.step h1 aY bn bY aM ay,eA⟩
inductive Ip (g:aZ) (d:Nat):aZ->Prop
 | new (h:g d=none):Ip g d g
 | lQ {y:aj}(h:g d=some y) (ao:leaf y=true):Ip g d (del g d)
inductive gz (g:aZ) (ops:Array Oper):Option (Nat × Bool)->Prop
 | none:gz g ops none
 | yes {af t:Nat}{b:Bool}(h:(ops[af]?).bind (·.dst)=some t) (a':g t=some (.lit (.bool b))):gz g ops (some (af,b))
variable {iA:Option (Nat × Bool)}{g1:aZ}
theorem gz.del {y:aj}(h:gz g ops iA) (aY:g d=some y) (aJ:∀ b,y≠.lit (.bool b)):iX (del g d) ops ⟨some d,op,ty,pos,after,iA⟩ true:=by
 cases h with
 | none=>rfl
 | @yes af t b h a' =>
  have:t≠d:=by
   rintro rfl
   rw [aY] at a'; cases a'; exact aJ _ rfl
  exact ⟨t,h,.inl ⟨b,by simp only [Own.del,if_neg this,a'],by simp⟩⟩
theorem gz.wanted (h:gz g ops iA):iX g ops ⟨some d,op,ty,pos,after,iA⟩ true:=by
 cases h with
 | none=>rfl
 | @yes af t b h a'=>exact ⟨t,h,.inl ⟨b,a',by simp⟩⟩
theorem aq.MZ (aH:dJ P g op ty x) (bY:N.ok d=true) (bn:g d=none) (hw:iX g ops ⟨some d,op,ty,pos,after,iA⟩ true) (hk:aq P N ops l (e' g d x) K):aq P N ops (⟨some d,op,ty,pos,after,iA⟩::l) g K :=
 .yw rfl bY bn (r:=some x) (.inl ⟨hw,.inl aH⟩) hk
theorem aq.val (aH:dA P g op ty x) (bY:N.ok d=true) (bn:g d=none) (a':gz g ops iA) (hk:aq P N ops l (e' g d x) K):aq P N ops (⟨some d,op,ty,pos,after,iA⟩::l) g K :=
 .MZ (.fA aH) bY bn a'.wanted hk
theorem aq.Va (aH:dJ P g op ty x) (bY:N.ok d=true) (bn:g d=none) (a':gz g ops iA) (hk:aq P N ops l (e' g d x) K):aq P N ops (⟨some d,op,ty,pos,after,iA⟩::l) g K :=
 .MZ aH bY bn a'.wanted hk
theorem aq.call (aH:cr P g op x) (bY:N.ok d=true) (bn:g d=none) (a':gz g ops iA) (hk:aq P N ops l (e' g d x) K):aq P N ops (⟨some d,op,ty,pos,after,iA⟩::l) g K :=
 .yw rfl bY bn (r:=some x) (.inl ⟨a'.wanted,.inr aH⟩) hk
theorem aq.pass {af ds:Nat}{b:Bool}(h:(ops[af]?).bind (·.dst)=some ds) (a':g ds=some (.lit (.bool (!b)))) (bY:N.ok d=true) (bn:g d=none) (hk:aq P N ops l g K):aq P N ops (⟨some d,op,ty,pos,after,some (af,b)⟩::l) g K :=
 .yw rfl bY bn (r:=Option.none) ⟨ds,h,.inl ⟨!b,a',by cases b <;> rfl⟩⟩ hk
variable {jL:Option Nat}
theorem aq.forget {g1:aZ}(hk:hS g g1) (h:aq P N ops l g1 K):aq P N ops l g K:=by
 intro i hi
 obtain ⟨g',ay,eA⟩:=h i hi
 exact ⟨g',.forget hk ay,eA⟩
variable {a b:Operand}{t t2:TypeId}{k:IntKind}{m n:Int}
theorem dA.add (J:Rd g a (.lit (.int k m))) (az:Rd g b (.lit (.int k n))):dA P g (.binOp .add t a b t2) ty (.lit (.int k (k.wrap (m+n)))) :=
 .bin J.bO az.bO rfl λw=>by simp [eqGuard,binOp,Op.intArith]
theorem dA.UF (J:Rd g a (.lit (.int k m))) (az:Rd g b (.lit (.int k n))):dA P g (.binOp .sub t a b t2) ty (.lit (.int k (k.wrap (m - n)))) :=
 .bin J.bO az.bO rfl λw=>by simp [eqGuard,binOp,Op.intArith]
theorem dA.quo (J:Rd g a (.lit (.int k m))) (az:Rd g b (.lit (.int k n))) (h:n≠0):dA P g (.binOp .quo t a b t2) ty (.lit (.int k (k.wrap (m.tdiv n)))) :=
 .bin J.bO az.bO rfl λw=>by simp [eqGuard,binOp,Op.intDiv,h]
theorem dA.rem (J:Rd g a (.lit (.int k m))) (az:Rd g b (.lit (.int k n))) (h:n≠0):dA P g (.binOp .rem t a b t2) ty (.lit (.int k (m.tmod n))) :=
 .bin J.bO az.bO rfl λw=>by simp [eqGuard,binOp,Op.intDiv,h]
theorem dA.cat {s u:ByteArray}(J:Rd g a (.lit (.string s))) (az:Rd g b (.lit (.string u))) (h:s.size+u.size<=9223372036854775807):dA P g (.binOp .add t a b t2) ty (.lit (.string (s++u))) :=
 .bin J.bO az.bO rfl λw=>by
  have:¬ ((s.size+u.size:Nat):Int) > IntKind.i64.max:=by
   have:IntKind.i64.max=9223372036854775807:=by decide
   omega
  simp only [eqGuard,binOp,Op.stringOp,if_neg this]
  simp
theorem I9 {s u:ByteArray}(h:s.toList=u.toList):s=u:=by
 have h1:s.data.toList=u.data.toList:=by
  rw [<- ByteArray.toList_eq,<- ByteArray.toList_eq,h]
 cases s; cases u
 congr 1
 exact Array.toList_inj.1 h1
theorem dA.oA {s u:ByteArray}(J:Rd g a (.lit (.string s))) (az:Rd g b (.lit (.string u))) {c:Bool}(ab:c=true↔s=u):dA P g (.binOp .eql t a b t2) ty (.lit (.bool c)) :=
 .bin J.bO az.bO rfl λw=>by
  have:(s.toList == u.toList)=c:=by
   rw [Bool.eq_iff_iff,ab]
   simp only [beq_iff_eq]
   exact ⟨I9,λh=>by rw [h]⟩
  simp [eqGuard,binOp,Op.stringOp,this]
theorem dA.l' {s u:ByteArray}(J:Rd g a (.lit (.string s))) (az:Rd g b (.lit (.string u))) {c:Bool}(ab:c=true↔s≠u):dA P g (.binOp .neq t a b t2) ty (.lit (.bool c)) :=
 .bin J.bO az.bO rfl λw=>by
  have:(s.toList == u.toList)=!c:=by
   rw [Bool.eq_iff_iff]
   simp only [beq_iff_eq,Bool.not_eq_true']
   cases c with
   | true=>simp only [true_iff] at ab; simp only [Bool.true_eq_false,iff_false]; exact λh=>ab (I9 h)
   | false =>
    simp only [Bool.false_eq_true,false_iff,Decidable.not_not] at ab
    simp [ab]
  simp [eqGuard,binOp,Op.stringOp,this]
theorem dA.lss (J:Rd g a (.lit (.int k m))) (az:Rd g b (.lit (.int k n))) {c:Bool}(ab:c=true↔m<n):dA P g (.binOp .lss t a b t2) ty (.lit (.bool c)) :=
 .bin J.bO az.bO rfl λw=>by
  have:decide (m<n)=c:=by rw [Bool.eq_iff_iff,ab]; simp
  simp [eqGuard,binOp,Op.intCmp,this]
theorem dA.leq (J:Rd g a (.lit (.int k m))) (az:Rd g b (.lit (.int k n))) {c:Bool}(ab:c=true↔m<=n):dA P g (.binOp .leq t a b t2) ty (.lit (.bool c)) :=
 .bin J.bO az.bO rfl λw=>by
  have:decide (m<=n)=c:=by rw [Bool.eq_iff_iff,ab]; simp
  simp [eqGuard,binOp,Op.intCmp,this]
theorem dA.gtr (J:Rd g a (.lit (.int k m))) (az:Rd g b (.lit (.int k n))) {c:Bool}(ab:c=true↔n<m):dA P g (.binOp .gtr t a b t2) ty (.lit (.bool c)) :=
 .bin J.bO az.bO rfl λw=>by
  have:decide (n<m)=c:=by rw [Bool.eq_iff_iff,ab]; simp
  simp [eqGuard,binOp,Op.intCmp,this]
theorem dA.geq (J:Rd g a (.lit (.int k m))) (az:Rd g b (.lit (.int k n))) {c:Bool}(ab:c=true↔n<=m):dA P g (.binOp .geq t a b t2) ty (.lit (.bool c)) :=
 .bin J.bO az.bO rfl λw=>by
  have:decide (n<=m)=c:=by rw [Bool.eq_iff_iff,ab]; simp
  simp [eqGuard,binOp,Op.intCmp,this]
theorem dA.eql (J:Rd g a (.lit (.int k m))) (az:Rd g b (.lit (.int k n))) {c:Bool}(ab:c=true↔m=n):dA P g (.binOp .eql t a b t2) ty (.lit (.bool c)) :=
 .bin J.bO az.bO rfl λw=>by
  have:(m == n)=c:=by rw [Bool.eq_iff_iff,ab]; simp
  simp [eqGuard,binOp,Op.intCmp,this]
theorem dA.neq (J:Rd g a (.lit (.int k m))) (az:Rd g b (.lit (.int k n))) {c:Bool}(ab:c=true↔m≠n):dA P g (.binOp .neq t a b t2) ty (.lit (.bool c)) :=
 .bin J.bO az.bO rfl λw=>by
  have:(m != n)=c:=by rw [Bool.eq_iff_iff,ab]; simp
  simp [eqGuard,binOp,Op.intCmp,this]
theorem dA.not {c:Bool}(J:Rd g a (.lit (.bool c))):dA P g (.unOp .not t a) ty (.lit (.bool (!c))) :=
 .un J.bO rfl λw=>by simp [Op.unary]
theorem dA.T2 {c a b:Operand}{y:aj}(ab:Rd g c (.lit (.bool true))) (ay:Rd g a y):dA P g (.pick c a b) ty y:=.pick ab.bO ay.bO
theorem dA.T1 {c a b:Operand}{y:aj}(ab:Rd g c (.lit (.bool false))) (ay:Rd g b y):dA P g (.pick c a b) ty y:=.pick ab.bO ay.bO
theorem dA.mI {s:ByteArray}(J:Rd g a (.lit (.string s))) (aE:oU P t=true):dA P g (.call { callee:=.builtin .len,args:=#[a],argTypes:=#[t] }) ty (.lit (.int .i64 s.size)) :=
 .lits (vs:=[.string s]) (by simp [J.bO]) rfl λw cs=>by
  simp [builtin,Builtin.len_,run_underlying (HV aE),goInt]
section
variable {fU:aZ->Prop}{Φ:Exit->aZ->Prop}{id k:Nat}
theorem UY (h:fU g):tb fU Φ .normal g:=h
theorem UZ (h:Φ .ret g):tb fU Φ .ret g:=h
theorem UX (h:Φ (.exit k) g):tb fU Φ (.exit k) g:=h
theorem Tm (h:Φ .normal g):rX id Φ .normal g:=h
theorem Tn (h:Φ .ret g):rX id Φ .ret g:=h
theorem Tk (h:Φ .normal g):rX id Φ (.exit id) g:=by
 show if id=id then Φ .normal g else Φ (.exit id) g
 rw [if_pos rfl]; exact h
theorem Tl (hk:Nat.beq k id=false) (h:Φ (.exit k) g):rX id Φ (.exit k) g:=by
 show if k=id then Φ .normal g else Φ (.exit k) g
 rw [if_neg (Nat.ne_of_beq_eq_false hk)]; exact h
end
def Fin (P:Program) (N:dW) (rs:List ResultVar) (n:Nat) (outs:List (Option aj)) (res:aj) (e:Exit) (g':aZ):Prop:=(e=.normal\/e=.ret)/\Leaves P N rs g' n outs res
theorem b_.fin {f:FuncId}{fn:Func}{c:Code}{args:List aj}{outs:List (Option aj)}{res:aj}{N:dW}(bn:P.funcs[f]?=some fn) (aJ:fn.body=some c) (bY:fn.ntmps=N.size) (bm:Nat.ble args.length N.size=true) (hlen:outs.length=args.length)
  (hw:W P N c (o9 args) (Fin P N fn.results.toList args.length outs res)):b_ P f args outs res:=.TK bn aJ bY (Nat.le_of_ble_eq_true bm) hlen hw
def vT (outs:List (Option aj)):Bool:=outs.all λx=>x.isNone
theorem Du {outs:List (Option aj)}(h:vT outs=true) (k:Nat) (x:aj):outs[k]?≠some (some x):=by
 intro e
 have:=List.all_eq_true.1 h _ (List.mem_of_getElem? e)
 simp at this
theorem Fin.one {t:Nat}{y res:aj}{outs:List (Option aj)}{n:Nat}(az:Rd g (.tmp t) y) (aL:dp y) (bh:vT outs=true) (ao:outs.length=n) (he:y=res):Fin P N [.tmp t] n outs res .ret g :=
 ⟨.inr rfl,⟨[y],[y],g,.cons (.tmp az.bO) .nil,.bI (by simpa using aL),he.symm,λk x hk=>absurd hk (Du bh k x)⟩,ao⟩
inductive yS (g:aZ):List ResultVar->List aj->Prop
 | nil:yS g [] []
 | cons {t:Nat}{y:aj}{rs:List ResultVar}{ys:List aj}(h:Rd g (.tmp t) y) (aL:dp y) (aE:yS g rs ys):yS g (.tmp t::rs) (y::ys)
theorem yS.spec {rs:List ResultVar}{ys:List aj}(h:yS g rs ys):qB P g rs ys/\∀ y∈ys,dp y:=by
 induction h with
 | nil=>exact ⟨.nil,by simp⟩
 | cons h aL _ aR=>exact ⟨.cons (.tmp h.bO) aR.1,oP aL aR.2⟩
inductive rB (g:aZ):List Operand->List aj->Prop
 | nil:rB g [] []
 | cons {x:Operand}{y:aj}{xs:List Operand}{ys:List aj}(h:Rd g x y) (aL:dp y) (aE:rB g xs ys):rB g (x::xs) (y::ys)
theorem rB.spec {xs:List Operand}{ys:List aj}(h:rB g xs ys):iP g xs=some ys/\∀ y∈ys,dp y:=by
 induction h with
 | nil=>exact ⟨rfl,by simp⟩
 | cons h aL _ aR=>exact ⟨by simp only [iP,h.bO,aR.1],oP aL aR.2⟩
theorem cr.PQ {xs:List Operand}{iJ:Array TypeId}{f:FuncId}{ys:List aj}{outs:List (Option aj)}{res:aj}(ji:b_ P f ys outs res) (bn:dI P f=true) (J:rB g xs ys) (bh:vT outs=true) (ay:dp res) :
  cr P g (.call { callee:=.value (.func f),args:=xs.toArray,argTypes:=iJ }) res:=by
 have pn:outs=ys.map λ_=>Option.none:=by
  apply List.ext_getElem?
  intro k
  rw [List.getElem?_map]
  cases az:ys[k]? with
  | none=>rw [List.getElem?_eq_none (by rw [ji.1]; exact List.getElem?_eq_none_iff.1 az)]; rfl
  | some y =>
   have hk:k<outs.length:=by rw [ji.1]; exact (List.getElem?_eq_some_iff.1 az).1
   have h1:=List.getElem?_eq_getElem hk
   rw [h1]
   cases al:outs[k] with
   | none=>rfl
   | some x=>rw [al] at h1; exact absurd h1 (Du bh k x)
 exact .plain (first:=[]) (caps:=[]) (ys:=ys) rfl (by simpa using J.spec.1) bn (by simpa using J.spec.2) (by simpa [<- pn] using ji) ay
end
end Go.Own
namespace Go.Own
open Go
def y3 (s:ByteArray) (m:Int):Int:=((s[m.toNat]?.getD 0).toNat:Nat)
def rL (s:ByteArray) (m n:Int):ByteArray:=s.extract m.toNat n.toNat
section
variable {P:Program}{N:dW}{ops:Array Oper}{g:aZ}{K:aZ->Prop}{l:List Oper}
variable {d:Nat}{op:Op}{ty:TypeId}{pos:String}{after:Array Edge}{x:aj}{a b:Operand}{t t2:TypeId}{k:IntKind}{m n:Int}{iA:Option (Nat × Bool)}
theorem dA.Oa {s:ByteArray}{i:Operand}(J:Rd g a (.lit (.string s))) (hi:Rd g i (.lit (.int k m))) (aE:oU P t=true) (h:0<=m/\m<s.size):dA P g (.index t a i) ty (.lit (.int .u8 (y3 s m))):=by
 obtain ⟨af,rfl⟩:=Int.eq_ofNat_of_zero_le h.1
 have aa:af<s.size:=by omega
 have aJ:s[af]?=some s[af]:=getElem?_pos s af aa
 have:y3 s (af:Int)=(s[af].toNat:Nat):=by simp [y3,aJ]
 rw [this]
 exact .Dc J.bO hi.bO aE aJ
theorem dA.MF {s:ByteArray}{lo hi:Operand}{q_:IntKind}(J:Rd g a (.lit (.string s))) (ao:Rd g lo (.lit (.int k m))) (b6:Rd g hi (.lit (.int q_ n))) (aE:oU P t=true) (h:0<=m/\m<=n/\n<=s.size) :
  dA P g (.slice t a (some lo) (some hi) none) ty (.lit (.string (rL s m n))):=by
 obtain ⟨i,rfl⟩:=Int.eq_ofNat_of_zero_le h.1
 obtain ⟨af,rfl⟩:=Int.eq_ofNat_of_zero_le (show 0<=n by omega)
 exact .By J.bO ⟨_,ao.bO⟩ ⟨_,b6.bO⟩ aE (by omega) (by omega)
theorem dA.Uz {s:ByteArray}{hi:Operand}{q_:IntKind}(J:Rd g a (.lit (.string s))) (b6:Rd g hi (.lit (.int q_ n))) (aE:oU P t=true) (h:0<=n/\n<=s.size) :
  dA P g (.slice t a none (some hi) none) ty (.lit (.string (rL s 0 n))):=by
 obtain ⟨af,rfl⟩:=Int.eq_ofNat_of_zero_le h.1
 exact .By (l:=0) J.bO rfl ⟨_,b6.bO⟩ aE (by omega) (by omega)
theorem PC {s:ByteArray}{m n:Int}(h:0<=m/\m<=n/\n<=s.size):((rL s m n).size:Int)=n - m:=by
 unfold rL
 rw [ByteArray.size_extract]
 omega
theorem dA.bytes {z p jf:Nat}{cs:List aj}{xs:List Int}(J:g p=some (.own 1 jf cs)) (hF:cs=xs.map λb=>.lit (.int .u8 b)) (ao:cs.length=jf) (aE:uY P t t2=true) (_hz:z=0):dA P g (.convert t t2 (.tmp p)) ty (.lit (.string (strOfNums xs))) :=
 .Cr (p:=⟨p,[]⟩) (n:=jf) (N:=jf) (cs:=cs) (by simp [bO,J,ri,ib]) (by simp [b7,J,aj.at]) (Nat.le_refl _) (by rw [List.take_of_length_le (by omega)]; exact hF) aE
def jm (P:Program) (e:TypeId) (z:Nat):Bool :=
 match (P.info? e).bind (·.zero) with
 | some v=>v.cells.size == z
 | none=>false
theorem Ig {e:TypeId}{z:Nat}(h:jm P e z=true):∃ v,(P.info? e).bind (·.zero)=some v/\v.cells.size=z:=by
 unfold jm at h
 split at h
 ·rename_i v hv; exact ⟨v,hv,by simpa using h⟩
 ·cases h
inductive se (g:aZ):List Operand->List Value->Prop
 | nil:se g [] []
 | cons {x:Operand}{v:Value}{xs:List Operand}{vs:List Value}(h:Rd g x (.lit v)) (aE:se g xs vs):se g (x::xs) (v::vs)
theorem se.iP {xs:List Operand}{vs:List Value}(h:se g xs vs):iP g xs=some (vs.map .lit):=by
 induction h with
 | nil=>rfl
 | cons h _ aR=>simp only [Own.iP,h.bO,aR]; rfl
theorem se.map {xs:List Operand}{vs:List Value}(h:se g xs vs):xs.map (bO g)=vs.map λv=>some (.lit v):=by
 induction h with
 | nil=>rfl
 | cons h _ aR=>simp only [List.map_cons,h.bO,aR]
theorem dJ.row {e:TypeId}{xs:List Operand}{vs:List Value}{parts:Array (Nat × Operand)}{h6:Nat}(J:se g xs vs) (aH:parts.toList=xs.mapIdx (λi x=>(i,x))) (aL:xs.length=h6) (aE:fB P t e 1=true) (bJ:jm P e 1=true) (aJ:Nat.ble h6 1000=true) :
  dJ P g (.buildSlice t h6 parts) ty (.own 1 h6 (vs.map .lit)):=by
 subst aL
 have kI:=Nat.le_of_ble_eq_true aJ
 refine .qi (.buildSlice aE aH J.iP (λy az=>?_) ?_ (by omega) (by omega) (.inr (Ig bJ)))
 ·obtain ⟨v,_,rfl⟩:=List.mem_map.1 az
  exact ⟨[.lit v],rfl,rfl⟩
 ·generalize vs=l
  induction l with
  | nil=>rfl
  | cons v l aR=>simp only [List.map_cons,o_,lW,aR]; rfl
inductive sg (g:aZ):List Nat->List (Nat × aj)->Prop
 | nil:sg g [] []
 | some {s:Nat}{x:aj}{r8:List Nat}{l:List (Nat × aj)}(h:g s=some x) (aL:dp x) (aE:sg g r8 l):sg g (s::r8) ((s,x)::l)
 | none {s:Nat}{r8:List Nat}{l:List (Nat × aj)}(aE:sg g r8 l):sg g (s::r8) l
theorem sg.spec {g:aZ}{r8:List Nat}{l:List (Nat × aj)}(h:sg g r8 l):∀ t x,get l t=Option.some x->g t=Option.some x/\dp x:=by
 induction h with
 | nil=>intro t x J; cases J
 | @some s y r8 l h aL _ aR =>
  intro t x J
  simp only [get] at J
  split at J
  ·rename_i e; subst e; cases J; exact ⟨h,aL⟩
  ·exact aR t x J
 | none _ aR=>exact aR
theorem sg.gd {g:aZ}{r8:List Nat}{l:List (Nat × aj)}(h:sg g r8 l):kZ g (get l) :=
 ⟨λt x J=>⟨x,(h.spec t x J).1,.refl⟩,λt x J=>.bI (h.spec t x J).2,λt z q n m new J=>by have:=(h.spec t _ J).2; cases this⟩
end
end Go.Own
namespace Go.Own
open Go
def o7 (s:ByteArray) (n:Nat):Prop:=s.size<=n
theorem o7.app {s u:ByteArray}{a b:Nat}(h:o7 s a) (aS:o7 u b):o7 (s++u) (a+b):=by
 unfold o7 at *
 rw [ByteArray.size_append]; omega
theorem o7.cut {s:ByteArray}{a:Nat}{m n:Int}(h:o7 s a):o7 (rL s m n) a:=by
 unfold o7 rL at *
 rw [ByteArray.size_extract]; omega
theorem o7.const {xs:Array UInt8}:o7 ⟨xs⟩ xs.size:=Nat.le_refl _
theorem o7.self {s:ByteArray}:o7 s s.size:=Nat.le_refl _
section
variable {P:Program}{g:aZ}{ty:TypeId}{a b:Operand}{t t2:TypeId}{N:dW}{ops:Array Oper}{K:aZ->Prop}{l:List Oper}{d:Nat}{pos:String}{after:Array Edge}{iA:Option (Nat × Bool)}
theorem W.JG {c:Operand}{x y:Code}{Φ:Exit->aZ->Prop}{b:Bool}(ab:Rd g c (.lit (.bool b))) (fP:b=true->W P N x g Φ) (aQ:b=false->W P N y g Φ):W P N (.cond c x y) g Φ:=by
 cases b with
 | true=>exact .JH ab.bO (fP rfl)
 | false=>exact .JF ab.bO (aQ rfl)
theorem Um {c e:Bool}(aE:P.underlying t=some .bool) (w:World):(do eqGuard .eql t a b (.bool c) (.bool e); binOp .eql t (.bool c) (.bool e):Sem Value).run P w=.ok (.bool (c == e)) w:=by
 have h:=run_equal_bool w t c e aE
 simp [eqGuard,binOp,h]
def Cf (P:Program) (t:TypeId):Bool :=
 match P.underlying t with
 | some .bool=>true
 | _=>false
theorem Oj (h:Cf P t=true):P.underlying t=some .bool:=by
 unfold Cf at h
 split at h
 ·assumption
 ·cases h
def s4 (P:Program) (t:TypeId) (k:IntKind):Bool :=
 match P.underlying t with
 | some (.int l_)=>l_ == k
 | _=>false
theorem LB {k:IntKind}(h:s4 P t k=true):P.underlying t=some (.int k):=by
 unfold s4 at h
 split at h
 ·rename_i l_ hk; rw [hk]; have:l_=k:=by simpa using h
  rw [this]
 ·cases h
theorem dA.Py {k l_:IntKind}{m:Int}(J:Rd g a (.lit (.int k m))) (aM:s4 P t k=true) (aY:s4 P t2 l_=true):dA P g (.convert t t2 a) ty (.lit (.int l_ (l_.wrap m))) :=
 .conv J.bO rfl λw=>by simp [convert,run_underlying (LB aM),run_underlying (LB aY),Conv.intToInt]
inductive Bytes (g:aZ):List Operand->List Int->Prop
 | nil:Bytes g [] []
 | cons {x:Operand}{v:Int}{xs:List Operand}{vs:List Int}(h:Rd g x (.lit (.int .u8 v))) (aE:Bytes g xs vs):Bytes g (x::xs) (v::vs)
theorem Bytes.lits {xs:List Operand}{vs:List Int}(h:Bytes g xs vs):se g xs (vs.map λb=>.int .u8 b):=by
 induction h with
 | nil=>exact .nil
 | cons h _ aR=>exact .cons h aR
end
end Go.Own
namespace Go.Own
open Go Go.RowKit
theorem c_.lits {w:World}(vs:List Value) (h:∀ v∈vs,v.oneCell'=true):c_ w (λ_=>False) vs.toArray (o9 (vs.map .lit)) (λ_=>cW):=by
 refine ⟨λt x J=>?_,λ_ _ _ h=>h,λ_ _ _ h=>h.elim,λ_ _ h=>h.elim,λ_ h=>h.elim,λt ds z p n m new cN cY m' dq h1 _=>?_⟩
 ·simp only [o9,List.getElem?_map] at J
  cases hv:vs[t]? with
  | none=>rw [hv] at J; cases J
  | some v =>
   rw [hv] at J
   simp only [Option.map_some,Option.some.injEq] at J
   subst J
   exact ⟨v,by simpa using hv,.tree (.lit (h v (List.mem_of_getElem? hv)) λ_ h=>h)⟩
 ·simp only [o9,List.getElem?_map] at h1
  cases hv:vs[t]? with
  | none=>rw [hv] at h1; cases h1
  | some v=>rw [hv] at h1; cases h1
end Go.Own
namespace Go.Own
open Go
section
variable {P:Program}{g:aZ}{ty:TypeId}{a b:Operand}{t t2:TypeId}{N:dW}{ops:Array Oper}{K:aZ->Prop}{l:List Oper}{d:Nat}{pos:String}{after:Array Edge}{iA:Option (Nat × Bool)}
theorem dA.px {z n cN:Nat}{p:Place}{e:TypeId}(J:Rd g a (.bl z p n)) (aE:fB P t e cN=true):dA P g (.call { callee:=.builtin .len,args:=#[a],argTypes:=#[t] }) ty (.lit (.int .i64 n)):=.Aw J.bO aE
theorem dA.hc {z n cN:Nat}{cs:List aj}{e:TypeId}(J:Rd g a (.aF z n cs)) (aE:fB P t e cN=true):dA P g (.call { callee:=.builtin .len,args:=#[a],argTypes:=#[t] }) ty (.lit (.int .i64 n)):=.Ax J.bO aE
end
end Go.Own
namespace Go.Own
open Go
end Go.Own
namespace Go.Own
open Go
structure cD (α:Type) where
 z:Nat
 cells:α->List aj
 len:∀ a,(cells a).length=z
 bI:∀ a,∀ x∈cells a,dp x
variable {α β S R:Type}
def ch (e:cD α) (l:List α):List aj:=l.flatMap e.cells
abbrev ak (e:cD α) (l:List α):aj:=.own e.z l.length (ch e l)
abbrev ag (e:cD α) (l:List α):aj:=.aF e.z l.length (ch e l)
abbrev j (n:Int):aj:=.lit (.int .i64 n)
abbrev mo (n:Int):aj:=.lit (.int .u8 n)
abbrev a1 (b:Bool):aj:=.lit (.bool b)
abbrev ae (s:ByteArray):aj:=.lit (.string s)
abbrev aO (n:Int):Int:=IntKind.i64.wrap n
abbrev uJ (n:Int):Int:=IntKind.u8.wrap n
theorem ob (e:cD α) (l:List α):(ch e l).length=l.length * e.z:=by
 induction l with
 | nil=>simp [ch]
 | cons a l aR =>
  have:ch e (a::l)=e.cells a++ch e l:=by simp [ch]
  rw [this,List.length_append,e.len,aR,List.length_cons,Nat.add_mul]; omega
theorem oc (e:cD α) (l:List α):∀ x∈ch e l,dp x:=by
 intro x J
 obtain ⟨a,_,h⟩:=List.mem_flatMap.1 J
 exact e.bI a x h
theorem wq (e:cD α) (l m:List α):ch e (l++m)=ch e l++ch e m:=by simp [ch]
theorem Bq (e:cD α):∀ (l:List α) (i:Nat),(ch e l).drop (i * e.z)=ch e (l.drop i)
 | l,0=>by simp
 | [],i+1=>by simp [ch]
 | a::l,i+1=>by
  have h:ch e (a::l)=e.cells a++ch e l:=by simp [ch]
  rw [h,List.drop_append,e.len,List.drop_eq_nil_of_le (by rw [e.len,Nat.add_mul]; omega)]
  have:(i+1) * e.z - e.z=i * e.z:=by rw [Nat.add_mul]; omega
  rw [this,List.nil_append,Bq e l i]; rfl
theorem yr (e:cD α):∀ (l:List α) (i:Nat),(ch e l).take (i * e.z)=ch e (l.take i)
 | l,0=>by simp [ch]
 | [],i+1=>by simp [ch]
 | a::l,i+1=>by
  have h:ch e (a::l)=e.cells a++ch e l:=by simp [ch]
  rw [h,List.take_append,e.len,List.take_of_length_le (by rw [e.len,Nat.add_mul]; omega)]
  have:(i+1) * e.z - e.z=i * e.z:=by rw [Nat.add_mul]; omega
  rw [this,yr e l i]; simp [ch]
def idx (l:List α) (i:Int):Option α:=if 0<=i then l[i.toNat]? else none
theorem qb {l:List α}{i:Int}{y:α}(h:idx l i=some y):0<=i/\i<l.length/\l[i.toNat]?=some y:=by
 unfold idx at h
 split at h
 ·have:=(List.getElem?_eq_some_iff.1 h).1
  exact ⟨by assumption,by omega,h⟩
 ·cases h
theorem HB (e:cD α) {l:List α}{i:Int}{y:α}(h:idx l i=some y):(ch e l).drop (i.toNat * e.z)=e.cells y++ch e (l.drop (i.toNat+1)):=by
 obtain ⟨bd,h1,al⟩:=qb h
 rw [Bq]
 obtain ⟨bg,he⟩:=List.getElem?_eq_some_iff.1 al
 rw [List.drop_eq_getElem_cons bg,he]; simp [ch]
theorem Mj (e:cD α) {l:List α}{i:Int}{y:α}(h:idx l i=some y) {k:Nat}{x:aj}(hk:(e.cells y)[k]?=some x):(ch e l)[i.toNat * e.z+k]?=some x:=by
 have bg:=(List.getElem?_eq_some_iff.1 hk).1
 rw [<- List.getElem?_drop,HB e h,List.getElem?_append_left bg]; exact hk
abbrev lim:Nat:=1099511627776
def fuel:Nat:=1000000000000000000
def iter (f:S->Option (S ⊕ R)):Nat->S->Option R
 | 0,_=>none
 | n+1,s=>match f s with
  | none=>none
  | some (.inl eR)=>iter f n eR
  | some (.inr r)=>some r
def cS (f:S->Option (S ⊕ R)) (s:S):Option R:=iter f fuel s
theorem ax {o:Option α}{f:α->Option β}{r:β}(h:o.bind f=some r):∃ y,o=some y/\f y=some r:=Option.bind_eq_some_iff.1 h
theorem OM {b:Bool}{x y o:α}(aJ:b=true) (h:cond b x y=o):x=o:=by subst aJ; exact h
theorem OL {b:Bool}{x y o:α}(aJ:b=false) (h:cond b x y=o):y=o:=by subst aJ; exact h
theorem cB {b:Bool}{x y o:α}(h:cond b x y=o):(b=true/\x=o)\/(b=false/\y=o):=by cases b <;> simp_all
theorem au {a b:α}(h:some a=some b):a=b:=Option.some.inj h
class cV (x:aj):Prop where bI:dp x
class eU (cs:List aj):Prop where bI:∀ x∈cs,dp x
instance {v:Value}:cV (.lit v):=⟨.lit⟩
instance:cV .aI:=⟨.aI⟩
instance:cV .dead:=⟨.dead⟩
instance {z n:Nat}{cs:List aj} [h:eU cs]:cV (.aF z n cs):=⟨.aF h.bI⟩
instance {z n:Nat}{cs:List aj} [h:eU cs]:cV (.own z n cs):=⟨.own h.bI⟩
instance {cs:List aj} [h:eU cs]:cV (.obj cs):=⟨.obj h.bI⟩
instance {cs:List aj} [h:eU cs]:cV (.agg cs):=⟨.agg h.bI⟩
instance {cs:List aj} [h:eU cs]:cV (.cG cs):=⟨.cG h.bI⟩
instance {cs:List aj} [h:eU cs]:cV (.bo cs):=⟨.bo h.bI⟩
instance {f:Fn}{a b:List aj} [h:eU a] [aS:eU b]:cV (.ey f a b):=⟨.ey h.bI aS.bI⟩
instance:eU []:=⟨by simp⟩
instance {x:aj}{cs:List aj} [h:cV x] [aS:eU cs]:eU (x::cs):=⟨oP h.bI aS.bI⟩
instance {e:cD α}{l:List α}:eU (ch e l):=⟨oc e l⟩
instance {e:cD α}{a:α}:eU (e.cells a):=⟨e.bI a⟩
instance {a b:List aj} [h:eU a] [aS:eU b]:eU (a++b):=⟨λx J=>(List.mem_append.1 J).elim (h.bI x) (aS.bI x)⟩
instance {a:List aj}{n:Nat} [h:eU a]:eU (a.drop n):=⟨λx J=>h.bI x (List.mem_of_mem_drop J)⟩
instance {a:List aj}{n:Nat} [h:eU a]:eU (a.take n):=⟨λx J=>h.bI x (List.mem_of_mem_take J)⟩
instance {v:Value}{n:Nat}:eU (List.replicate n (.lit v)):=⟨λx J=>by rw [(List.mem_replicate.1 J).2]; exact .lit⟩
abbrev cD.one (f:α->aj) (h:∀ a,dp (f a)):cD α:=⟨1,λa=>[f a],λ_=>rfl,λa x J=>by rw [List.mem_singleton.1 J]; exact h a⟩
def aG:cD Int:=.one (λn=>j n) λ_=>.lit
def o':cD Int:=.one (λn=>mo n) λ_=>.lit
def bH:cD Bool:=.one (λb=>a1 b) λ_=>.lit
def cy:cD ByteArray:=.one (λs=>ae s) λ_=>.lit
def JN (e:cD α):cD (List α):=.one (λl=>ak e l) λl=>.own (oc e l)
def bb (e:cD α):cD (List α):=.one (λl=>ag e l) λl=>.aF (oc e l)
inductive Trim (b:Bool) (g g2:aZ):List (Nat × aj)->Prop
 | nil:Trim b g g2 []
 | n {s:Nat}{x:aj}{l:List (Nat × aj)}(h:g s=some x) [aL:cV x] (t:Trim b g g2 l):Trim b g g2 ((s,x)::l)
 | r {s:Nat}{x:aj}{l:List (Nat × aj)}(h:g s=some x) (aL:e7 g2 x) (aH:∀ z p n m new,x≠.bR z p n m new) (t:Trim b g g2 l):Trim b g g2 ((s,x)::l)
 | e {s:Nat}{x y:aj}{l:List (Nat × aj)}(h:g s=some y) (he:y=x) [aL:cV x] (t:Trim b g g2 l):Trim b g g2 ((s,x)::l)
 | w {s:Nat}{x y:aj}{l:List (Nat × aj)}(aJ:b=true) (h:g s=some y) (hw:oz y x) [aL:cV x] (t:Trim b g g2 l):Trim b g g2 ((s,x)::l)
theorem Trim.spec {b:Bool}{g g2:aZ}{l:List (Nat × aj)}(h:Trim b g g2 l):∀ t x,get l t=some x->(∃ y,g t=some y/\oz y x/\(b=false->y=x))/\e7 g2 x/\∀ z p n m new,x≠.bR z p n m new:=by
 have fR:∀ {x:aj},dp x->∀ z p n m new,x≠.bR z p n m new:=by rintro x h z p n m new rfl; cases h
 induction h with
 | nil=>intro t x J; cases J
 | @n _ _ _ h aL _ aR =>
  intro t x J; simp only [get] at J
  split at J
  ·rename_i e; subst e; cases J; exact ⟨⟨_,h,.refl,λ_=>rfl⟩,.bI aL.bI,fR aL.bI⟩
  ·exact aR t x J
 | r h aL aH _ aR =>
  intro t x J; simp only [get] at J
  split at J
  ·rename_i e; subst e; cases J; exact ⟨⟨_,h,.refl,λ_=>rfl⟩,aL,aH⟩
  ·exact aR t x J
 | @e _ _ _ _ h he aL _ aR =>
  intro t x J; simp only [get] at J
  split at J
  ·rename_i e; subst e he; cases J; exact ⟨⟨_,h,.refl,λ_=>rfl⟩,.bI aL.bI,fR aL.bI⟩
  ·exact aR t x J
 | @w _ _ _ _ aJ h hw aL _ aR =>
  intro t x J; simp only [get] at J
  split at J
  ·rename_i e; subst e; cases J; exact ⟨⟨_,h,hw,λh=>by rw [aJ] at h; cases h⟩,.bI aL.bI,fR aL.bI⟩
  ·exact aR t x J
theorem Trim.gd {b:Bool}{g:aZ}{l:List (Nat × aj)}(h:Trim b g (get l) l):kZ g (get l) :=
 ⟨λt x J=>by obtain ⟨⟨y,h1,al,_⟩,_⟩:=h.spec t x J; exact ⟨y,h1,al⟩,λt x J=>(h.spec t x J).2.1,λt z q n m new J=>(h.spec t _ J).2.2 _ _ _ _ _ rfl⟩
theorem Trim.keep {g:aZ}{l:List (Nat × aj)}(h:Trim false g (get l) l):hS g (get l) :=
 ⟨λt x J=>by obtain ⟨⟨y,h1,_,aP⟩,_⟩:=h.spec t x J; rw [<- aP rfl]; exact h1,λt x J=>(h.spec t x J).2.1,λt z q n m new J=>(h.spec t _ J).2.2 _ _ _ _ _ rfl⟩
section
variable {P:Program}{N:dW}{ops:Array Oper}{g:aZ}{K:aZ->Prop}{l:List Oper}{d:Nat}{op:Op}{ty:TypeId}{pos:String}{after:Array Edge}{x:aj}{iA:Option (Nat × Bool)}
def j9 (P:Program) (N:dW) (c:Code) (G G1:List (Nat × aj)):Prop:=W P N c (get G) λe g'=>e=.normal/\kZ g' (get G1)
theorem W.aU {A B:Code}{G G1:List (Nat × aj)}{Φ:Exit->aZ->Prop}(h1:j9 P N A G G1) (al:W P N B (get G1) Φ):W P N (.seq A B) (get G) Φ:=by
 refine W.seq (W.out h1 λe g' h=>⟨get G1,h.2,?_⟩)
 obtain ⟨rfl,_⟩:=h
 exact al
theorem W.aX {A B:Code}{G:List (Nat × aj)}{Φ:Exit->aZ->Prop}(h:W P N A (get G) (tb (λg1=>W P N B g1 Φ) Φ)):W P N (.seq A B) (get G) Φ:=W.seq h
theorem aq.fin {G1:List (Nat × aj)}(h:Trim true g (get G1) G1):aq P N ops [] g λg'=>kZ g' (get G1):=.nil h.gd
theorem aq.T9 {G1:List (Nat × aj)}(h:Trim false g (get G1) G1) (hk:aq P N ops l (get G1) K):aq P N ops l g K:=.forget h.keep hk
theorem aq.v (aH:dJ P g op ty x) (bY:N.ok d=true) (bn:g d=none) (a':gz g ops iA) (hk:aq P N ops l (e' g d x) K):aq P N ops (⟨some d,op,ty,pos,after,iA⟩::l) g K:=.Va aH bY bn a' hk
theorem aq.c (aH:cr P g op x) (bY:N.ok d=true) (bn:g d=none) (a':gz g ops iA) (hk:aq P N ops l (e' g d x) K):aq P N ops (⟨some d,op,ty,pos,after,iA⟩::l) g K:=.call aH bY bn a' hk
theorem gz.hf {af t:Nat}{b c:Bool}(h:(ops[af]?).bind (·.dst)=some t) (a':g t=some (.lit (.bool c))) (aJ:c=b):gz g ops (some (af,b)):=by subst aJ; exact .yes h a'
theorem aq.ps {af ds:Nat}{b c:Bool}(h:(ops[af]?).bind (·.dst)=some ds) (a':g ds=some (.lit (.bool c))) (aJ:c=!b) (bY:N.ok d=true) (bn:g d=none) (hk:aq P N ops l (e' g d (.cG [])) K):aq P N ops (⟨some d,op,ty,pos,after,some (af,b)⟩::l) g K:=by
 subst aJ; exact .yw rfl bY bn (r:=some (.cG [])) (.inr (.inl ⟨⟨ds,h,.inl ⟨_,a',by cases b <;> rfl⟩⟩,rfl⟩)) hk
theorem aq.pu {af ds:Nat}{b:Bool}(h:(ops[af]?).bind (·.dst)=some ds) (a':g ds=some (.cG [])) (bY:N.ok d=true) (bn:g d=none) (hk:aq P N ops l (e' g d (.cG [])) K):aq P N ops (⟨some d,op,ty,pos,after,some (af,b)⟩::l) g K :=
 .yw rfl bY bn (r:=some (.cG [])) (.inr (.inl ⟨⟨ds,h,.inr ⟨a',rfl⟩⟩,rfl⟩)) hk
theorem j9.skip {G G1:List (Nat × aj)}(h:Trim true (get G) (get G1) G1):j9 P N .skip G G1:=W.skip ⟨rfl,h.gd⟩
theorem j9.cB {t:Nat}{A B:Code}{b:Bool}{G G1:List (Nat × aj)}(ab:get G t=some (a1 b)) (fP:b=true->j9 P N A G G1) (aQ:b=false->j9 P N B G G1):j9 P N (.cond (.tmp t) A B) G G1:=W.JG (.lit ab) fP aQ
theorem W.cB {t:Nat}{A B:Code}{b:Bool}{G:List (Nat × aj)}{Φ:Exit->aZ->Prop}(ab:get G t=some (a1 b)) (fP:b=true->W P N A (get G) Φ) (aQ:b=false->W P N B (get G) Φ):W P N (.cond (.tmp t) A B) (get G) Φ:=W.JG (.lit ab) fP aQ
theorem j9.aU {A B:Code}{G G1 G2:List (Nat × aj)}(h1:j9 P N A G G1) (al:j9 P N B G1 G2):j9 P N (.seq A B) G G2:=W.aU h1 al
theorem j9.Ce {id:Nat}{c:Code}{G G1:List (Nat × aj)}(h:W P N c (get G) λe g'=>(e=.normal\/e=.exit id)/\kZ g' (get G1)):j9 P N (.block id c) G G1:=by
 refine W.block (h.mono ?_)
 rintro e g' ⟨rfl | rfl,h⟩
 ·exact ⟨rfl,h⟩
 ·show if id=id then _ else _
  rw [if_pos rfl]; exact ⟨rfl,h⟩
end
end Go.Own
namespace Go.Own
open Go
variable {α β:Type}
def k2 (s:ByteArray) (m:Int):Option Int:=if 0<=m/\m<s.size then some (y3 s m) else none
def rK (s:ByteArray) (m n:Int):Option ByteArray:=if 0<=m/\m<=n/\n<=s.size then some (rL s m n) else none
def ss (s u:ByteArray):Option ByteArray:=if s.size+u.size<=4611686018427387904 then some (s++u) else none
def DF (m n:Int):Option Int:=if n=0 then none else some (aO (m.tdiv n))
def qm (m n:Int):Option Int:=if n=0 then none else some (m.tmod n)
def qw (l:List α) (m n:Int):Option (List α):=if 0<=m/\m<=n/\n<=l.length then some ((l.drop m.toNat).take (n - m).toNat) else none
def lJ:aj->Bool
 | .lit _ | .aI | .aF .. | .bo _ | .ey .. | .ptr .. | .bl .. | .sub .. | .hN .. | .imp ..=>true
 | _=>false
theorem P7 {d:Nat}{p:Place}{x:aj}(h:lJ x=true):ib d p x=x:=by
 cases x <;> simp [lJ] at h <;> cases d <;> rfl
theorem P8 {t:Nat}{x:aj}(h:lJ x=true):ri t x=x:=by
 cases x <;> simp [lJ] at h <;> rfl
theorem zz {d:Nat}{q:Nat->Place}{cs:List aj}(h:cs.all lJ=true):(cs.mapIdx λi x=>ib d (q i) x)=cs:=by
 apply List.ext_getElem?
 intro k
 rw [List.getElem?_mapIdx]
 cases hk:cs[k]? with
 | none=>rfl
 | some x=>simp only [Option.map_some,P7 (List.all_eq_true.1 h x (List.mem_of_getElem? hk))]
section
variable {P:Program}{N:dW}{ops:Array Oper}{g:aZ}{K:aZ->Prop}{l:List Oper}{d:Nat}{ty t t2:TypeId}{a b c:Operand}{k l_:IntKind}{m n:Int}{s u:ByteArray}{p q e:Bool}
theorem Rd.f {t:Nat}{x:aj}(h:g t=some x) (bn:lJ x=true):Own.bO g (.tmp t)=some x:=by simp only [Own.bO,h,Option.map_some,P8 bn]
theorem Rd.b2 {t:Nat}{cs:List aj}(h:g t=some (.agg cs)) (bn:cs.all lJ=true):Rd g (.tmp t) (.agg cs):=.agg h (zz bn)
theorem Rd.H3 {t:Nat}{cs:List aj}(h:g t=some (.cG cs)) (bn:cs.all lJ=true):Rd g (.tmp t) (.cG cs):=.cG h (zz bn)
namespace O
theorem aC {y:aj}(h:Rd g a y):dJ P g (.move a) ty y:=.fA (.move h.bO)
theorem ec {y:aj}(h:Rd g a y):dJ P g (.assign a) ty y:=.fA (.assign h.bO)
theorem eB {y:aj}(ab:Rd g c (a1 p)) (aJ:p=true) (h:Rd g a y):dJ P g (.pick c a b) ty y:=by subst aJ; exact .fA (.T2 ab h)
theorem dL {y:aj}(ab:Rd g c (a1 p)) (aJ:p=false) (h:Rd g b y):dJ P g (.pick c a b) ty y:=by subst aJ; exact .fA (.T1 ab h)
theorem add (J:Rd g a (.lit (.int k m))) (az:Rd g b (.lit (.int k n))):dJ P g (.binOp .add t a b t2) ty (.lit (.int k (k.wrap (m+n)))):=.fA (.add J az)
theorem sub (J:Rd g a (.lit (.int k m))) (az:Rd g b (.lit (.int k n))):dJ P g (.binOp .sub t a b t2) ty (.lit (.int k (k.wrap (m - n)))):=.fA (.UF J az)
theorem quo {r:Int}(J:Rd g a (j m)) (az:Rd g b (j n)) (h:DF m n=some r):dJ P g (.binOp .quo t a b t2) ty (j r):=by
 unfold DF at h
 split at h
 ·cases h
 ·cases h; exact .fA (.quo J az (by assumption))
theorem rem {r:Int}(J:Rd g a (j m)) (az:Rd g b (j n)) (h:qm m n=some r):dJ P g (.binOp .rem t a b t2) ty (j r):=by
 unfold qm at h
 split at h
 ·cases h
 ·cases h; exact .fA (.rem J az (by assumption))
theorem lss (J:Rd g a (.lit (.int k m))) (az:Rd g b (.lit (.int k n))):dJ P g (.binOp .lss t a b t2) ty (a1 (decide (m<n))):=.fA (.lss J az (by simp))
theorem leq (J:Rd g a (.lit (.int k m))) (az:Rd g b (.lit (.int k n))):dJ P g (.binOp .leq t a b t2) ty (a1 (decide (m<=n))):=.fA (.leq J az (by simp))
theorem gtr (J:Rd g a (.lit (.int k m))) (az:Rd g b (.lit (.int k n))):dJ P g (.binOp .gtr t a b t2) ty (a1 (decide (n<m))):=.fA (.gtr J az (by simp))
theorem geq (J:Rd g a (.lit (.int k m))) (az:Rd g b (.lit (.int k n))):dJ P g (.binOp .geq t a b t2) ty (a1 (decide (n<=m))):=.fA (.geq J az (by simp))
theorem eql (J:Rd g a (.lit (.int k m))) (az:Rd g b (.lit (.int k n))):dJ P g (.binOp .eql t a b t2) ty (a1 (decide (m=n))):=.fA (.eql J az (by simp))
theorem neq (J:Rd g a (.lit (.int k m))) (az:Rd g b (.lit (.int k n))):dJ P g (.binOp .neq t a b t2) ty (a1 (!decide (m=n))):=.fA (.neq J az (by simp))
theorem oA (J:Rd g a (ae s)) (az:Rd g b (ae u)):dJ P g (.binOp .eql t a b t2) ty (a1 (decide (s=u))):=.fA (.oA J az (by simp))
theorem l' (J:Rd g a (ae s)) (az:Rd g b (ae u)):dJ P g (.binOp .neq t a b t2) ty (a1 (!decide (s=u))):=.fA (.l' J az (by simp))
theorem PU (J:Rd g a (a1 p)) (az:Rd g b (a1 q)) (aE:Cf P t=true):dJ P g (.binOp .eql t a b t2) ty (a1 (p == q)):=.fA (.bin J.bO az.bO rfl λw=>Um (Oj aE) w)
theorem neg (J:Rd g a (.lit (.int k m))):dJ P g (.unOp .neg t a) ty (.lit (.int k (k.wrap (-m)))):=.fA (.un J.bO rfl λw=>by simp [Op.unary,Op.intArith])
theorem not (J:Rd g a (a1 p)):dJ P g (.unOp .not t a) ty (a1 (!p)):=.fA (.not J)
theorem Ct (J:Rd g a (.lit (.int k m))) (aM:s4 P t k=true) (aY:s4 P t2 l_=true):dJ P g (.convert t t2 a) ty (.lit (.int l_ (l_.wrap m))):=.fA (.Py J aM aY)
theorem cat {r:ByteArray}(J:Rd g a (ae s)) (az:Rd g b (ae u)) (h:ss s u=some r):dJ P g (.binOp .add t a b t2) ty (ae r):=by
 unfold ss at h
 split at h
 ·cases h; exact .fA (.cat J az (by omega))
 ·cases h
theorem mI (J:Rd g a (ae s)) (aE:oU P t=true):dJ P g (.call { callee:=.builtin .len,args:=#[a],argTypes:=#[t] }) ty (j s.size):=.fA (.mI J aE)
theorem qD {r:Int}(J:Rd g a (ae s)) (az:Rd g b (.lit (.int k m))) (aE:oU P t=true) (h:k2 s m=some r):dJ P g (.index t a b) ty (mo r):=by
 unfold k2 at h
 split at h
 ·cases h; exact .fA (.Oa J az aE (by assumption))
 ·cases h
theorem yu {r:ByteArray}{q_:IntKind}(J:Rd g a (ae s)) (ao:Rd g b (.lit (.int k m))) (b6:Rd g c (.lit (.int q_ n))) (aE:oU P t=true) (h:rK s m n=some r):dJ P g (.slice t a (some b) (some c) none) ty (ae r):=by
 unfold rK at h
 split at h
 ·cases h; exact .fA (.MF J ao b6 aE (by assumption))
 ·cases h
theorem Uy {r:ByteArray}(J:Rd g a (ae s)) (b6:Rd g c (.lit (.int k n))) (aE:oU P t=true) (h:rK s 0 n=some r):dJ P g (.slice t a none (some c) none) ty (ae r):=by
 unfold rK at h
 split at h
 ·rename_i ab; cases h; exact .fA (.Uz J b6 aE ⟨ab.2.1,ab.2.2⟩)
 ·cases h
theorem hc {z cN n:Nat}{cs:List aj}{e:TypeId}(J:Rd g a (.aF z n cs)) (aE:fB P t e cN=true):dJ P g (.call { callee:=.builtin .len,args:=#[a],argTypes:=#[t] }) ty (j n):=.fA (.Ax J.bO aE)
theorem cC {en:cD α}{L:List α}{y:α}{e:TypeId}(J:Rd g a (.aF en.z L.length (ch en L))) (az:Rd g b (.lit (.int k m))) (aE:fB P t e en.z=true) (h:idx L m=some y):dJ P g (.indexAddr t a b) ty (.bo (en.cells y++ch en (L.drop (m.toNat+1)))):=by
 rw [<- HB en h]
 obtain ⟨bd,h1,_⟩:=qb h
 obtain ⟨af,rfl⟩:=Int.eq_ofNat_of_zero_le bd
 exact .fA (.Db J.bO az.bO aE (by omega))
theorem HR {en:cD α}{L r:List α}{e:TypeId}(J:Rd g a (.aF en.z L.length (ch en L))) (b6:Rd g c (.lit (.int k n))) (aE:fB P t e en.z=true) (h:qw L 0 n=some r):dJ P g (.slice t a none (some c) none) ty (ag en r):=by
 unfold qw at h
 split at h
 ·rename_i ab
  obtain ⟨_,h1,al⟩:=ab
  cases h
  obtain ⟨af,rfl⟩:=Int.eq_ofNat_of_zero_le h1
  have:=dA.Bx (P:=P) (ty:=ty) (t:=t) (l:=0) (h:=af) (lo:=none) (hi:=some c) J.bO rfl ⟨_,b6.bO⟩ aE (by omega) (by omega)
  rw [Bq,yr] at this
  have dy:(((L.drop 0).take (af - 0)).length)=af - 0:=by rw [List.length_take,List.length_drop]; omega
  have de:((af:Int) - 0).toNat=af - 0:=by omega
  rw [de]
  unfold ag
  have jM:(0:Int).toNat=0:=rfl
  rw [jM,dy]
  exact .fA this
 ·cases h
theorem HS {en:cD α}{L r:List α}{e:TypeId}(J:Rd g a (.aF en.z L.length (ch en L))) (ao:Rd g b (.lit (.int k m))) (aE:fB P t e en.z=true) (h:qw L m L.length=some r):dJ P g (.slice t a (some b) none none) ty (ag en r):=by
 unfold qw at h
 split at h
 ·rename_i ab
  obtain ⟨bd,h1,al⟩:=ab
  cases h
  obtain ⟨i,rfl⟩:=Int.eq_ofNat_of_zero_le bd
  have:=dA.Bx (P:=P) (ty:=ty) (t:=t) (l:=i) (h:=L.length) (lo:=some b) (hi:=none) J.bO ⟨_,ao.bO⟩ rfl aE (by omega) (by omega)
  rw [Bq,yr] at this
  have dy:(((L.drop i).take (L.length - i)).length)=L.length - i:=by rw [List.length_take,List.length_drop]; omega
  have de:((L.length:Int) - (i:Int)).toNat=L.length - i:=by omega
  rw [Int.toNat_natCast,de]
  unfold ag
  rw [dy]
  exact .fA this
 ·cases h
theorem ez {eR f off:Nat}{cs:List aj}(J:Rd g a (.bo cs)) (bn:dP P eR f off t=true):dJ P g (.fieldAddr eR a f) ty (.bo (cs.drop off)):=.fA (.CG J.bO bn)
theorem dd {x:aj}{cs:List aj}(J:Rd g a (.bo cs)) (aE:hB P t=true) (ab:cs.head?=some x):dJ P g (.load t a) ty x:=by
 cases cs with
 | nil=>cases ab
 | cons y cs=>cases ab; exact .fA (.Dm J.bO aE)
theorem iq {z:Nat}{cs cs':List aj}(J:Rd g a (.bo cs)) (aE:iY P t z=true) (ab:cs.take z=cs') (bJ:cs'.length=z):dJ P g (.load t a) ty (.agg cs'):=by
 subst ab
 exact .fA (.Dn J.bO aE (by rw [List.length_take] at bJ; omega))
theorem AE {cs:List aj}(J:Rd g a (.bo cs)):dJ P g (.nilCheck a) ty (.bo cs):=.fA (.py J.bO)
theorem e5 {p:Place}{k:Nat}(J:Rd g a (.ptr p k)):dJ P g (.nilCheck a) ty (.ptr p k):=.fA (.Ds J.bO)
theorem fd {eR f off:Nat}{cs:List aj}{x:aj}(J:Rd g a (.agg cs)) (bn:dP P eR f off t=true) (aE:hB P t=true) (az:cs[off]?=some x):dJ P g (.field eR a f) ty x:=.fA (.CF J.bO bn aE az)
theorem ex {p i:Nat}{cs:List aj}{x y:aj}(J:g p=some (.cG cs)) (az:cs[i]?=some x) (ay:ib 1 (Place.push ⟨p,[]⟩ i) x=y):dJ P g (.extract (.tmp p) i) ty y :=
 .fA (.Cw (cs:=cs.mapIdx λi x=>ib 1 (Place.push ⟨p,[]⟩ i) x) (by simp [bO,J,ri,ib]) (by simp [az,ay]))
theorem box {e:TypeId}{y:aj}{cs:List aj}(J:Rd g a y) (ab:lW y=some cs):dJ P g (.box e a) ty (.obj cs):=.qi (.box J.bO ab)
theorem a_ {eR f off k r:Nat}{cs:List aj}(aM:g r=some (.obj cs)) (J:Rd g a (.ptr ⟨r,[]⟩ k)) (bn:dP P eR f off t=true) (bg:Nat.blt (k+off) cs.length=true):dJ P g (.fieldAddr eR a f) ty (.ptr ⟨r,[]⟩ (k+off)) :=
 .fA (.zx J.bO bn ⟨.obj cs,by simp [b7,aM,aj.at],0,0,cs,.inr rfl,by simpa using bg⟩)
theorem cU {k r:Nat}{cs:List aj}{x y:aj}(aM:g r=some (.obj cs)) (J:Rd g a (.ptr ⟨r,[]⟩ k)) (aE:hB P t=true) (ab:cs[k]?=some x) (az:ib 0 ⟨r,[k]⟩ x=y):dJ P g (.load t a) ty y:=by
 subst az
 exact .fA (.Az (p:=⟨r,[]⟩) J.bO aE (by simp [b7,aM,aj.at,Place.push,aj.kids,ab]))
theorem dR {k r z:Nat}{cs cs':List aj}(aM:g r=some (.obj cs)) (J:Rd g a (.ptr ⟨r,[]⟩ k)) (aE:iY P t z=true) (hk:Nat.ble (k+z) cs.length=true) (ab:(((cs.drop k).take z).mapIdx λi x=>ib 0 ⟨r,[k+i]⟩ x)=cs'):dJ P g (.load t a) ty (.agg cs'):=by
 subst ab
 exact .fA (.vP (p:=⟨r,[]⟩) (n:=0) (z:=0) J.bO aE (by simp [b7,aM,aj.at]) (.inr rfl) (Nat.le_of_ble_eq_true hk))
end O
theorem rB.bT {x:Operand}{y:aj}{xs:List Operand}{ys:List aj}(h:Rd g x y) [aL:cV y] (aE:rB g xs ys):rB g (x::xs) (y::ys):=.cons h aL.bI aE
theorem cr.go {xs:List Operand}{iJ:Array TypeId}{f:FuncId}{ys:List aj}{outs:List (Option aj)}{res:aj}(J:rB g xs ys) (ji:b_ P f ys outs res) (bn:dI P f=true) (bh:vT outs=true) [ay:cV res] :
  cr P g (.call { callee:=.value (.func f),args:=xs.toArray,argTypes:=iJ }) res:=.PQ ji bn J bh ay.bI
inductive tt (P:Program) (g:aZ):List ResultVar->List aj->Prop
 | nil:tt P g [] []
 | f {t:Nat}{x:aj}{rs:List ResultVar}{xs:List aj}(h:g t=some x) (bn:lJ x=true) [aL:cV x] (aE:tt P g rs xs):tt P g (.tmp t::rs) (x::xs)
 | c {a:Nat}{t:TypeId}{z:Nat}{cs:List aj}{rs:List ResultVar}{xs:List aj}(h:g a=some (.obj cs)) (aE:iY P t z=true) (bJ:cs.length=z) (bn:(0<z&&cs.all lJ)=true) [aL:eU cs] (ay:tt P g rs xs):tt P g (.cell a t::rs) (.agg cs::xs)
theorem tt.spec {rs:List ResultVar}{xs:List aj}(h:tt P g rs xs):qB P g rs xs/\∀ x∈xs,dp x:=by
 induction h with
 | nil=>exact ⟨.nil,by simp⟩
 | @f t x rs xs h bn aL _ aR=>exact ⟨.cons (.tmp (Rd.f h bn)) aR.1,oP aL.bI aR.2⟩
 | @c a t z cs rs xs h aE bJ bn aL _ aR =>
  simp only [Bool.and_eq_true,decide_eq_true_eq] at bn
  refine ⟨.cons ?_ aR.1,oP (.agg aL.bI) aR.2⟩
  have J:Own.bO g (.tmp a)=some (.ptr ⟨a,[]⟩ 0):=by
   cases cs with
   | nil=>simp at bJ; omega
   | cons c cs=>simp [Own.bO,h,ri,ib]
  have:=dA.vP (P:=P) (ty:=t) (p:=⟨a,[]⟩) (n:=0) (z:=0) J aE (by simp only [b7,h,aj.at]) (.inr rfl) (show 0+z<=cs.length by omega)
  have hl:((cs.drop 0).take z).mapIdx (λi x=>ib 0 (Place.push ⟨a,[]⟩ (0+i)) x)=cs:=by
   rw [List.drop_zero,List.take_of_length_le (by omega)]
   exact zz bn.2
  rw [hl] at this
  exact .cell this
theorem Fin.rt {rs:List ResultVar}{xs:List aj}{res:aj}{outs:List (Option aj)}{n:Nat}(h:tt P g rs xs) (he:qn xs=res) (bh:vT outs=true) (ao:outs.length=n):Fin P N rs n outs res .ret g :=
 ⟨.inr rfl,⟨xs,xs,g,h.spec.1,.bI h.spec.2,he.symm,λk x hk=>absurd hk (Du bh k x)⟩,ao⟩
end
def xZ:Nat->List aj->List (Nat × aj)
 | _,[]=>[]
 | i,x::l=>(i,x)::xZ (i+1) l
theorem Ke:∀ (l:List aj) (i t:Nat),get (xZ i l) t=if i<=t then l[t - i]? else none
 | [],i,t=>by simp [xZ,get]
 | x::l,i,t=>by
  simp only [xZ,get]
  by_cases h:t=i
  ·subst h; simp
  ·rw [if_neg h,Ke l (i+1) t]
   by_cases h1:i+1<=t
   ·rw [if_pos h1,if_pos (by omega)]
    have:t - i=(t - (i+1))+1:=by omega
    rw [this,List.getElem?_cons_succ]
   ·rw [if_neg h1,if_neg (by omega)]
theorem N4 (args:List aj):o9 args=get (xZ 0 args):=funext λt=>by rw [Ke]; simp [o9]
theorem b_.go {P:Program}{f:FuncId}{fn:Func}{c:Code}{args:List aj}{outs:List (Option aj)}{res:aj}{N:dW}(bn:P.funcs[f]?=some fn) (aJ:fn.body=some c) (bY:fn.ntmps=N.size) (bm:Nat.ble args.length N.size=true) (hlen:outs.length=args.length)
  (hw:W P N c (get (xZ 0 args)) (Fin P N fn.results.toList args.length outs res)):b_ P f args outs res :=
 .fin bn aJ bY bm hlen (by rw [N4]; exact hw)
end Go.Own
namespace Go.Own
open Go
section
variable {P:Program}{N:dW}{Φ pL:Exit->aZ->Prop}{fU:aZ->Prop}{G G1:List (Nat × aj)}{A B c:Code}{id k:Nat}{e:Exit}{S R:Type}
theorem j9.bF (h:Trim true (get G) (get G1) G1):j9 P N .skip G G1:=.skip h
inductive kU:aZ->List (Nat × aj)->Prop
 | gk {G:List (Nat × aj)}:kU (get G) G
 | gd {g g1:aZ}{G:List (Nat × aj)}(h:kZ g g1) (aJ:kU g1 G):kU g G
theorem kU.trans {g:aZ}{G G1:List (Nat × aj)}(h:kU g G) (h1:kU (get G) G1):kU g G1:=by
 induction h with
 | gk=>exact h1
 | gd h _ aR=>exact .gd h (aR h1)
inductive yK (P:Program) (N:dW):aZ->Exit->(Exit->aZ->Prop)->Prop
 | gk {g:aZ}{e:Exit}{Φ:Exit->aZ->Prop}(h:Φ e g):yK P N g e Φ
 | gd {g g1:aZ}{e:Exit}{Φ:Exit->aZ->Prop}(hw:kZ g g1) (h:yK P N g1 e Φ):yK P N g e Φ
theorem W.outs {g:aZ}(h:W P N c g Φ) (nH:∀ e g',Φ e g'->yK P N g' e pL):W P N c g pL:=by
 intro a w I Fs Q bU bY ef
 refine h bU bY λe g' cI w' aH aL=>?_
 have p6:=nH e g' aH
 clear aH nH
 revert aL
 induction p6 with
 | gk h=>exact λaL=>ef _ _ _ _ h aL
 | gd hw _ aR =>
  intro aL
  refine aR ef ?_
  obtain ⟨h1,al,I',cp,eG,cm⟩:=aL
  obtain ⟨je,il,gE⟩:=eG.gd hw
  exact ⟨h1,al,I',je,il,cm.fJ,cm.more,cm.new,λc ⟨t,ab⟩=>cm.own c ⟨t,gE t c ab⟩⟩
def ah (e:Exit) (Φ:Exit->aZ->Prop) (G:List (Nat × aj)):Prop:=∀ g,kU g G->Φ e g
theorem W.be {g:aZ}(h:W P N c (get G) Φ) (aJ:kU g G):W P N c g Φ:=by
 induction aJ with
 | gk=>exact h
 | gd hw _ aR=>exact (aR h).weaken hw
theorem oy.be {g:aZ}(h:oy P N c (get G) Φ) (aJ:kU g G):oy P N c g Φ:=by
 induction aJ with
 | gk=>exact h
 | gd hw _ aR=>exact (aR h).weaken hw
theorem ah.aU (h:W P N B (get G) Φ):ah .normal (tb (λg1=>W P N B g1 Φ) pL) G:=λ_ aJ=>UY (h.be aJ)
theorem ah.c7 (h:ah (.exit k) pL G):ah (.exit k) (tb fU pL) G:=λg aJ=>UX (h g aJ)
theorem ah.c5 (h:ah .ret pL G):ah .ret (tb fU pL) G:=λg aJ=>UZ (h g aJ)
theorem ah.bf (h:ah .normal Φ G):ah .normal (rX id Φ) G:=λg aJ=>Tm (h g aJ)
theorem ah.c' (h:ah .normal Φ G):ah (.exit id) (rX id Φ) G:=λg aJ=>Tk (h g aJ)
theorem ah.Oi (hk:Nat.beq k id=false) (h:ah (.exit k) Φ G):ah (.exit k) (rX id Φ) G:=λg aJ=>Tl hk (h g aJ)
theorem ah.d_ (h:ah .ret Φ G):ah .ret (rX id Φ) G:=λg aJ=>Tn (h g aJ)
theorem W.c9 (h:ah (.exit k) Φ G):W P N (.exit k) (get G) Φ:=W.exit (h _ .gk)
theorem W.bF (h:ah .normal Φ G):W P N .skip (get G) Φ:=W.skip (h _ .gk)
theorem W.rt (h:ah .ret Φ G):W P N .ret (get G) Φ:=W.ret (h _ .gk)
theorem W.rx {id:Nat}{l:List Oper}(G1:List (Nat × aj)) (h:aq P N l.toArray l (get G) λg'=>kZ g' (get G1)) (hk:ah .normal Φ G1):W P N (.region id l.toArray false) (get G) Φ :=
 W.Ua (λi hi=>by obtain ⟨g',h1,al⟩:=h i hi; exact ⟨g',h1,hk g' (.gd al .gk)⟩)
theorem W.ca {G1:List (Nat × aj)}(h:Trim true (get G) (get G1) G1) (hw:W P N c (get G1) Φ):W P N c (get G) Φ:=hw.weaken h.gd
theorem W.st {G:List (Nat × aj)}(G1:List (Nat × aj)) (h:W P N c (get G1) Φ) (e:G1=G:=by rfl):W P N c (get G) Φ:=by subst e; exact h
theorem W.bf (h:W P N c (get G) (rX id Φ)):W P N (.block id c) (get G) Φ:=W.block h
theorem W.bs (G1:List (Nat × aj)) (h:W P N c (get G) λe g=>e=.normal/\kU g G1) (hk:ah .normal Φ G1):W P N c (get G) Φ :=
 h.mono λe g ⟨he,aJ⟩=>by subst he; exact hk g aJ
theorem ah.bs (h:Trim true (get G) (get G1) G1):ah .normal (λe g=>e=.normal/\kU g G1) G:=λ_ aJ=>⟨rfl,aJ.trans (.gd h.gd .gk)⟩
def tr (G:S->List (Nat × aj)) (fU:R->Exit->aZ->Prop):S ⊕ R->Exit->aZ->Prop
 | .inl s,e,g=>e=.normal/\kU g (G s)
 | .inr r,e,g=>e≠.normal/\fU r e g
theorem oy.it {f:S->Option (S ⊕ R)}{G:S->List (Nat × aj)}{fU:R->Exit->aZ->Prop}(aJ:∀ s o,f s=some o->W P N c (get (G s)) (tr G fU o)) :
  ∀ (n:Nat) (s:S) (r:R),Own.iter f n s=some r->oy P N c (get (G s)) (fU r)
 | 0,_,_,h=>by simp [Own.iter] at h
 | n+1,s,r,h=>by
  simp only [Own.iter] at h
  cases bn:f s with
  | none=>rw [bn] at h; cases h
  | some o =>
   rw [bn] at h
   refine .step ((aJ s o bn).mono λe g' ay=>?_)
   cases o with
   | inl eR =>
    obtain ⟨rfl,hw⟩:=ay
    exact (oy.it aJ n eR r h).be hw
   | inr ff =>
    cases h
    obtain ⟨aL,hw⟩:=ay
    cases e with
    | normal=>exact absurd rfl aL
    | _=>exact hw
theorem W.LM {f:S->Option (S ⊕ R)}{s:S}{r:R}(G:S->List (Nat × aj)) (fU:R->Exit->aZ->Prop) (h:cS f s=some r) (aJ:∀ s o,f s=some o->W P N c (get (G s)) (tr G fU o)) (hk:∀ e g,fU r e g->Φ e g):W P N (.loop c) (get (G s)) Φ :=
 (W.loop (oy.it aJ fuel s r h)).mono hk
theorem W.eg {f:S->Option (S ⊕ R)}{s:S}{r:R}(G:S->List (Nat × aj)) (id:Nat) (nT:R->List (Nat × aj)) (h:cS f s=some r) (aJ:∀ s o,f s=some o->W P N c (get (G s)) (tr G (λr e g=>e=.exit id/\kU g (nT r)) o)) (hk:ah (.exit id) Φ (nT r)):W P N (.loop c) (get (G s)) Φ :=
 .LM G _ h aJ λe g ⟨he,a'⟩=>by subst he; exact hk g a'
theorem W.jZ {qA:Type}{f:S->Option (S ⊕ (R ⊕ qA))}{s:S}{r:R ⊕ qA}(G:S->List (Nat × aj)) (id:Nat) (nT:R->List (Nat × aj)) (tm:qA->List (Nat × aj)) (h:cS f s=some r)
  (aJ:∀ s o,f s=some o->W P N c (get (G s)) (tr G (λ(r:R ⊕ qA) e g=>match r with | .inl r=>e=.exit id/\kU g (nT r) | .inr r=>e=.ret/\kU g (tm r)) o))
  (J:∀ x,r=.inl x->ah (.exit id) Φ (nT x)) (ay:∀ x,r=.inr x->ah .ret Φ (tm x)):W P N (.loop c) (get (G s)) Φ:=by
 refine .LM G _ h aJ λe g h=>?_
 cases r with
 | inl r=>obtain ⟨rfl,a'⟩:=h; exact J r rfl g a'
 | inr r=>obtain ⟨rfl,a'⟩:=h; exact ay r rfl g a'
theorem ah.go {s:S}{F:S->List (Nat × aj)}{fU:R->Exit->aZ->Prop}(h:Trim true (get G) (get (F s)) (F s)):ah .normal (tr F fU (.inl s)) G:=λ_ aJ=>⟨rfl,aJ.trans (.gd h.gd .gk)⟩
theorem ah.aD {r:R}{F:S->List (Nat × aj)}{nT:R->List (Nat × aj)}(h:Trim true (get G) (get (nT r)) (nT r)):ah (.exit id) (tr F (λr e g=>e=.exit id/\kU g (nT r)) (.inr r)) G:=λ_ aJ=>⟨by simp,rfl,aJ.trans (.gd h.gd .gk)⟩
theorem ah.x2 {qA:Type}{r:R}{F:S->List (Nat × aj)}{nT:R->List (Nat × aj)}{tm:qA->List (Nat × aj)}(h:Trim true (get G) (get (nT r)) (nT r)) :
  ah (.exit id) (tr F (λ(r:R ⊕ qA) e g=>match r with | .inl r=>e=.exit id/\kU g (nT r) | .inr r=>e=.ret/\kU g (tm r)) (.inr (.inl r))) G:=λ_ aJ=>⟨by simp,rfl,aJ.trans (.gd h.gd .gk)⟩
theorem ah.gx {qA:Type}{r:qA}{F:S->List (Nat × aj)}{nT:R->List (Nat × aj)}{tm:qA->List (Nat × aj)}(h:Trim true (get G) (get (tm r)) (tm r)) :
  ah .ret (tr F (λ(r:R ⊕ qA) e g=>match r with | .inl r=>e=.exit id/\kU g (nT r) | .inr r=>e=.ret/\kU g (tm r)) (.inr (.inr r))) G:=λ_ aJ=>⟨by simp,rfl,aJ.trans (.gd h.gd .gk)⟩
def BR (P:Program) (N:dW) (rs:List ResultVar) (n:Nat) (outs:List (Option aj)) (res:aj) (e:Exit) (g:aZ):Prop:=∃ G,kU g G/\Fin P N rs n outs res e (get G)
theorem W.fin {rs:List ResultVar}{n:Nat}{outs:List (Option aj)}{res:aj}{g:aZ}(h:W P N c g (BR P N rs n outs res)):W P N c g (Fin P N rs n outs res):=by
 have key:∀ e g,BR P N rs n outs res e g->yK P N g e (Fin P N rs n outs res):=by
  rintro e g ⟨G,aJ,bn⟩
  induction aJ with
  | gk=>exact .gk bn
  | gd hw _ aR=>exact .gd hw (aR bn)
 exact W.outs h key
theorem ah.fin {rs:List ResultVar}{n:Nat}{outs:List (Option aj)}{res:aj}(h:Fin P N rs n outs res e (get G)):ah e (BR P N rs n outs res) G:=λ_ aJ=>⟨G,aJ,h⟩
end
end Go.Own
namespace Go.Own
open Go
section
variable {P:Program}{N:dW}{ops:Array Oper}{cc:List (List Nat)}{g0:aZ}{K:aZ->Prop}{l:List Oper}{acc:Acc}{d i:Nat}{op:Op}{ty:TypeId}{pos:String}{after:Array Edge}{x:aj}{iA:Option (Nat × Bool)}
abbrev oh (cc:List (List Nat)) (g0:aZ) (af:Nat) (acc:Acc):aZ:=et g0 (λm=>(cc.getD af []).contains m) acc
def bC (P:Program) (N:dW) (ops:Array Oper) (cc:List (List Nat)) (g0:aZ) (i:Nat) (acc:Acc) (l:List Oper) (K:aZ->Prop):Prop:=∀ ew af,mS P N ops cc g0 i ew->iW P N ops cc g0 i ew af acc->ops.toList.drop af=l->∃ g',rz P N ops cc i ew g0 g'/\K g'
theorem zd {af dr:Nat}{o:Oper}(h:ops.toList.drop af=o::l) (aa:Nat.beq ops.size (dr+l.length+1)=true):af=dr:=by
 have h1:=congrArg List.length h
 rw [List.length_drop,List.length_cons,Array.length_toList] at h1
 have:=Nat.eq_of_beq_eq_true aa
 omega
theorem NK (aL:acc.all (λe=>!Nat.beq e.2.1 d)=true):∀ e∈acc,e.2.1≠d:=by
 intro e he h
 have:=List.all_eq_true.1 aL e he
 rw [h] at this
 simp at this
theorem bC.st (dr:Nat) {r:Option aj}{o:Oper}(aY:o.dst=some d) (aM:o6 P (oh cc g0 dr acc) ops o r) (aa:Nat.beq ops.size (dr+l.length+1)=true) (bn:g0 d=none) (aL:acc.all (λe=>!Nat.beq e.2.1 d)=true) (bY:N.ok d=true)
  (hk:bC P N ops cc g0 i ((dr,d,r)::acc) l K):bC P N ops cc g0 i acc (o::l) K:=by
 intro ew af du n1 mw
 have:=zd mw aa
 subst this
 obtain ⟨h1,al⟩:=drop_cons mw
 exact hk ew (af+1) du (.step n1 h1 aY bn (NK aL) bY aM) al
theorem bC.v (dr:Nat) (aH:dJ P (oh cc g0 dr acc) op ty x) (aa:Nat.beq ops.size (dr+l.length+1)=true) (bn:g0 d=none) (aL:acc.all (λe=>!Nat.beq e.2.1 d)=true) (bY:N.ok d=true) (a':gz (oh cc g0 dr acc) ops iA)
  (hk:bC P N ops cc g0 i ((dr,d,some x)::acc) l K):bC P N ops cc g0 i acc (⟨some d,op,ty,pos,after,iA⟩::l) K :=
 .st dr (r:=some x) rfl (.inl ⟨a'.wanted,.inl aH⟩) aa bn aL bY hk
theorem bC.c (dr:Nat) (aH:cr P (oh cc g0 dr acc) op x) (aa:Nat.beq ops.size (dr+l.length+1)=true) (bn:g0 d=none) (aL:acc.all (λe=>!Nat.beq e.2.1 d)=true) (bY:N.ok d=true) (a':gz (oh cc g0 dr acc) ops iA)
  (hk:bC P N ops cc g0 i ((dr,d,some x)::acc) l K):bC P N ops cc g0 i acc (⟨some d,op,ty,pos,after,iA⟩::l) K :=
 .st dr (r:=some x) rfl (.inl ⟨a'.wanted,.inr aH⟩) aa bn aL bY hk
theorem bC.ps (dr:Nat) {um ds:Nat}{b c:Bool}(h:(ops[um]?).bind (·.dst)=some ds) (a':oh cc g0 dr acc ds=some (a1 c)) (aJ:c=!b) (aa:Nat.beq ops.size (dr+l.length+1)=true) (bn:g0 d=none) (aL:acc.all (λe=>!Nat.beq e.2.1 d)=true) (bY:N.ok d=true)
  (hk:bC P N ops cc g0 i ((dr,d,some (.cG []))::acc) l K):bC P N ops cc g0 i acc (⟨some d,op,ty,pos,after,some (um,b)⟩::l) K :=
 .st dr (r:=some (.cG [])) rfl (.inr (.inl ⟨⟨ds,h,.inl ⟨c,a',by subst aJ; cases b <;> rfl⟩⟩,rfl⟩)) aa bn aL bY hk
theorem bC.pu (dr:Nat) {um ds:Nat}{b:Bool}(h:(ops[um]?).bind (·.dst)=some ds) (a':oh cc g0 dr acc ds=some (.cG [])) (aa:Nat.beq ops.size (dr+l.length+1)=true) (bn:g0 d=none) (aL:acc.all (λe=>!Nat.beq e.2.1 d)=true) (bY:N.ok d=true)
  (hk:bC P N ops cc g0 i ((dr,d,some (.cG []))::acc) l K):bC P N ops cc g0 i acc (⟨some d,op,ty,pos,after,some (um,b)⟩::l) K :=
 .st dr (r:=some (.cG [])) rfl (.inr (.inl ⟨⟨ds,h,.inr ⟨a',rfl⟩⟩,rfl⟩)) aa bn aL bY hk
def rY (G:List (Nat × aj)):Bool:=G.all λp=>match p.2 with | .bR ..=>false | _=>true
theorem xY {G:List (Nat × aj)}(h:rY G=true):∀ t z q n m new,get G t≠some (.bR z q n m new):=by
 induction G with
 | nil=>intro t z q n m new J; cases J
 | cons p G aR =>
  obtain ⟨s,x⟩:=p
  simp only [rY,List.all_cons,Bool.and_eq_true] at h
  intro t z q n m new J
  simp only [get] at J
  split at J
  ·cases J; exact absurd h.1 (by simp)
  ·exact aR h.2 t z q n m new J
theorem bC.fin {G G1:List (Nat × aj)}(bJ:acc.filterMap mb=[]) (jb:rY G=true) (hi:Nat.ble i ops.size=true) (h:Trim true (et (get G) (λ_=>true) acc) (get G1) G1):bC P N ops cc (get G) i acc [] λg'=>kZ g' (get G1):=by
 intro ew af du n1 mw
 have aa:af=ops.size:=by
  have h1:ops.size<=af:=by
   have:=congrArg List.length mw
   rw [List.length_drop,List.length_nil,Array.length_toList] at this
   omega
  have aP:af<=ops.size:=by
   cases n1 with
   | nil=>exact Nat.le_of_ble_eq_true hi
   | step _ bh=>have:=(Array.getElem?_eq_some_iff.1 bh).1; omega
  omega
 subst aa
 exact ⟨_,.fin n1 (by rw [bJ]; exact List.nodup_nil) (xY jb),h.gd⟩
theorem rz.I3 {g g1 g':aZ}{i af:Nat}{ew:Acc}{o:Oper}(du:mS P N ops cc g i ew) (aM:iW P N ops cc g i ew af acc) (hG:(acc.filterMap mb).Nodup) (jb:∀ t z q n m new,g t≠some (.bR z q n m new)) (bh:ops[af]?=some o) (hw:iX (et g (λ_=>true) acc) ops o true)
  (he:b9 P N (et g (λ_=>true) acc) o g1) (bm:(List.range af).all (λk=>(cc.getD af []).contains k)=true) (aJ:(List.range ops.size).all (λk=>decide (k<=af)||(cc.getD k []).contains af)=true) (ay:rz P N ops cc (af+1) [] g1 g'):rz P N ops cc i ew g g':=by
 have e9:∀ e∈acc,(cc.getD af []).contains e.1=true:=λe h=>List.all_eq_true.1 bm e.1 (List.mem_range.2 ((aM.le du).2 e h))
 have e:et g (λm=>(cc.getD af []).contains m) acc=et g (λ_=>true) acc:=funext λt=>BB λe h _=>e9 e h
 have gN:[]=acc.filter λe=>!(cc.getD af []).contains e.1:=by
  symm
  rw [List.filter_eq_nil_iff]
  intro a h
  rw [e9 a h]
  decide
 exact .w_ (rs:=rj []) aM hG jb bh (by rw [e]; exact hw) (by rw [e]; exact he.mY.v) (λp aH=>by simp [rj] at aH) gN (by simp) (by simp) (by simp) aJ ay
theorem W.rd {id:Nat}{l:List Oper}{G:List (Nat × aj)}{Φ:Exit->aZ->Prop}(cc:List (List Nat)) (G1:List (Nat × aj)) (hm:P.follows .mixedOrders=true) (e9:rF l.toArray cc=true)
  (h:bC P N l.toArray cc (get G) 0 [] l λg'=>kZ g' (get G1)) (hk:ah .normal Φ G1):W P N (.region id l.toArray true) (get G) Φ:=by
 obtain ⟨g',h1,al⟩:=h [] 0 .nil .nil (by simp)
 exact (gJ.draw hm e9 h1).w (hk g' (.gd al .gk))
end
end Go.Own
namespace Go.Own
open Go
variable {α:Type}
section
variable {P:Program}{N:dW}{ops:Array Oper}{g g2:aZ}{K:aZ->Prop}{l:List Oper}{d r:Nat}{ty t t2:TypeId}{pos:String}{after:Array Edge}{a b c:Operand}{k l_:IntKind}{m n:Int}{s u:ByteArray}
namespace O
theorem fq {e:TypeId}{z:Value}{cs:List aj}(bJ:(P.info? e).bind (·.zero)=some z) (h1:z.cells.toList.all Value.oneCell'=true) (ab:z.cells.toList.map n'=cs):dJ P g (.alloc e) ty (.obj cs):=by
 subst ab; exact .qi (.alloc bJ (by rw [<- Array.all_toList]; exact h1))
theorem dE {t:TypeId}{parts:Array (Nat × Operand)}{pl:List (Nat × Nat)}{ep:Value}{ps:List (Nat × List aj)}{cs:List aj}(aE:j5 P t pl=true) (bJ:(P.info? t).bind (·.zero)=some ep) (h1:ep.cells.toList.all Value.oneCell'=true)
  (aH:re g parts.toList=some ps) (ab:xr (λi=>pl[i]?) (ep.cells.toList.map n') ps=some cs):dJ P g (.build t parts) ty (.agg cs):=.Dz (.build aE bJ (by rw [<- Array.all_toList]; exact h1) aH ab)
end O
inductive o5 (g g2:aZ):aj->Prop
 | n {x:aj}(h:dp x):o5 g g2 x
 | p {r k:Nat}{cs cs2:List aj}(h:g r=some (.obj cs)) (hk:k<cs.length) (al:g2 r=some (.obj cs2)) (gO:k<cs2.length):o5 g g2 (.ptr ⟨r,[]⟩ k)
 | r {z n N Iv q:Nat}{cs cs2:List aj}(h:g q=some (.own z N cs)) (aL:n<=N) (al:g2 q=some (.own z Iv cs2)) (nD:n<=Iv):o5 g g2 (.bl z ⟨q,[]⟩ n)
theorem s_ {r k:Nat}{cs:List aj}(h:g r=some (.obj cs)) (hk:k<cs.length):gK g (.ptr ⟨r,[]⟩ k):=⟨.obj cs,by simp [b7,h,aj.at],0,0,cs,.inr rfl,hk⟩
theorem yp {z n N q:Nat}{cs:List aj}(h:g q=some (.own z N cs)) (aL:n<=N):gK g (.bl z ⟨q,[]⟩ n):=.inl ⟨N,cs,by simp [b7,h,aj.at],aL⟩
theorem o5.bk {x:aj}(h:o5 g g2 x):e7 g2 x:=by
 cases h with
 | n h=>exact .bI h
 | p _ _ al gO=>exact .ref rfl (s_ al gO)
 | r _ _ al nD=>exact .ref rfl (yp al nD)
theorem o5.wo {x:aj}{yo k0 m0:Nat}(h:o5 g g2 x):jq (λr=>gK g r/\Clear ⟨yo,[]⟩ k0 m0 r/\gK g2 r) x:=by
 cases h with
 | n h=>exact .bI h
 | p h hk al gO =>
  refine .ref rfl ⟨s_ h hk,?_,s_ al gO⟩
  intro q bN _ af ff e
  simp only [yq,Option.some.injEq] at bN
  subst bN
  simp at e
 | r h hk al gO =>
  refine .ref rfl ⟨yp h hk,?_,yp al gO⟩
  intro q bN _ af ff e
  simp only [yq,Option.some.injEq] at bN
  subst bN
  simp at e
theorem o5.fR {x:aj}(h:o5 g g2 x):∀ z p n m new,x≠.bR z p n m new:=by
 rintro z p n m new rfl
 cases h with
 | n h=>cases h
inductive mT (g g2:aZ) (r:Nat) (cs2:List aj):List (Nat × aj)->Prop
 | nil:mT g g2 r cs2 []
 | n {s:Nat}{x:aj}{l:List (Nat × aj)}(eK:Nat.beq s r=false) (h:g s=some x) [aL:cV x] (t:mT g g2 r cs2 l):mT g g2 r cs2 ((s,x)::l)
 | p {s q k:Nat}{l:List (Nat × aj)}{cs nX:List aj}(eK:Nat.beq s r=false) (h:g s=some (.ptr ⟨q,[]⟩ k)) (h1:g q=some (.obj cs)) (hk:Nat.blt k cs.length=true) (al:g2 q=some (.obj nX)) (gO:Nat.blt k nX.length=true) (t:mT g g2 r cs2 l):mT g g2 r cs2 ((s,.ptr ⟨q,[]⟩ k)::l)
 | w {α:Type}{s q:Nat}{en:cD α}{L:List α}{l:List (Nat × aj)}(eK:Nat.beq s r=false) (h:g s=some (.bl en.z ⟨q,[]⟩ L.length)) (h1:g q=some (ak en L)) (al:g2 q=some (ak en L)) (t:mT g g2 r cs2 l):mT g g2 r cs2 ((s,.bl en.z ⟨q,[]⟩ L.length)::l)
 | b {l:List (Nat × aj)}{x:aj}(e:x=.obj cs2) [aL:eU cs2] (t:mT g g2 r cs2 l):mT g g2 r cs2 ((r,x)::l)
theorem mT.spec {cs2:List aj}{l:List (Nat × aj)}(h:mT g g2 r cs2 l):∀ t x,get l t=some x->(t≠r/\g t=some x/\o5 g g2 x)\/(t=r/\x=.obj cs2/\dp x):=by
 induction h with
 | nil=>intro t x J; cases J
 | @n s x l eK h aL _ aR =>
  intro t y az; simp only [get] at az
  split at az
  ·rename_i e; subst e; cases az; exact .inl ⟨Nat.ne_of_beq_eq_false eK,h,.n aL.bI⟩
  ·exact aR t y az
 | @p s q k l cs nX eK h h1 hk al gO _ aR =>
  intro t y az; simp only [get] at az
  split at az
  ·rename_i e; subst e; cases az; exact .inl ⟨Nat.ne_of_beq_eq_false eK,h,.p h1 (by simpa using hk) al (by simpa using gO)⟩
  ·exact aR t y az
 | @w α s q en L l eK h h1 al _ aR =>
  intro t y az; simp only [get] at az
  split at az
  ·rename_i e; subst e; cases az; exact .inl ⟨Nat.ne_of_beq_eq_false eK,h,.r h1 (Nat.le_refl _) al (Nat.le_refl _)⟩
  ·exact aR t y az
 | @b l x e aL _ aR =>
  intro t y az; simp only [get] at az
  split at az
  ·rename_i cX; subst cX; cases az; subst e; exact .inr ⟨rfl,rfl,.obj aL.bI⟩
  ·exact aR t y az
theorem b9.box {o:Oper}{k0:Nat}{cs cs' cs2:List aj}{y:aj}{G2:List (Nat × aj)}(bh:o.op=.store t a b) (aY:o.dst=none) (aM:g r=some (.obj cs)) (bm:Rd g a (.ptr ⟨r,[]⟩ k0)) (aJ:Rd g b y) (aL:dp y) (ab:su y=some cs') (bJ:gG P t cs'.length=true)
  (hk:k0+cs'.length<=cs.length) (bd:0<cs'.length) (he:fY cs k0 cs'=cs2) [gP:eU cs] (ay:get G2 r≠none) (ek:mT g (get G2) r cs2 G2):b9 P N g o (get G2):=by
 subst he
 have jW:g r≠none:=by rw [aM]; simp
 refine .store bh aY bm.bO aJ.bO (.bI (by simpa using aL)) .refl ab bJ (p:=⟨r,[]⟩) (nd:=.obj cs) (z:=0) (n:=0) (by simp [b7,aM,aj.at]) (.inr rfl) hk bd (λt x J=>?_) (λt x J y az=>?_) (λt z q n m new J=>?_) ay
 ·rcases ek.spec t x J with ⟨h1,al,_⟩ | ⟨h1,al,_⟩
  ·rw [rm h1]; exact al
  ·subst h1 al; simp [df,aM,aj.setAt,aj.fY]
 ·rcases ek.spec t x J with ⟨h1,al,aP⟩ | ⟨h1,al,aP⟩
  ·rw [al] at az; cases az; exact aP.wo
  ·subst h1
   rw [aM] at az
   cases az
   exact .bI (.obj gP.bI)
 ·rcases ek.spec t _ J with ⟨_,_,aP⟩ | ⟨_,al,_⟩
  ·exact aP.fR _ _ _ _ _ rfl
  ·cases al
theorem Trim.q {Es:Bool}{yu q k0:Nat}{cs:List aj}{LK:List (Nat × aj)}(h:g yu=some (.ptr ⟨q,[]⟩ k0)) (al:g2 q=some (.obj cs)) (hk:Nat.blt k0 cs.length=true) (U2:Trim Es g g2 LK):Trim Es g g2 ((yu,.ptr ⟨q,[]⟩ k0)::LK) :=
 .r h (.ref rfl (s_ al (by simpa using hk))) (by simp) U2
theorem aq.h_ {o:Oper}{G2:List (Nat × aj)}(a':o.guard=none) (he:b9 P N g o (get G2)) (hk:aq P N ops l (get G2) K):aq P N ops (o::l) g K:=by
 intro i hi
 obtain ⟨h1,al⟩:=drop_cons hi
 obtain ⟨g',ay,eA⟩:=hk (i+1) al
 refine ⟨g',.mY h1 ?_ he ay,eA⟩
 unfold iX; rw [a']
theorem aq.dx {k0:Nat}{cs cs' cs2:List aj}{y:aj}{G2:List (Nat × aj)}(aM:g r=some (.obj cs)) (bm:Rd g a (.ptr ⟨r,[]⟩ k0)) (aJ:Rd g b y) [aL:cV y] (ab:su y=some cs') (bJ:gG P t cs'.length=true)
  (hk:Nat.ble (k0+cs'.length) cs.length=true) (bd:Nat.blt 0 cs'.length=true) (he:fY cs k0 cs'=cs2) [gP:eU cs] (ay:(get G2 r).isSome=true) (ek:mT g (get G2) r cs2 G2) (CV:aq P N ops l (get G2) K):aq P N ops (⟨none,.store t a b,ty,pos,after,none⟩::l) g K :=
 .h_ rfl (.box rfl rfl aM bm aJ aL.bI ab bJ (Nat.le_of_ble_eq_true hk) (by simpa using bd) he (by intro e; rw [e] at ay; cases ay) ek) CV
variable {cc:List (List Nat)}{acc:Acc}{i:Nat}
theorem bC.w_ (dr:Nat) {G G2:List (Nat × aj)}{o:Oper}(he:b9 P N (et (get G) (λ_=>true) acc) o (get G2)) (a':o.guard=none) (bJ:acc.filterMap mb=[]) (jb:rY G=true) (aa:Nat.beq ops.size (dr+l.length+1)=true)
  (bm:(List.range dr).all (λk=>(cc.getD dr []).contains k)=true) (aJ:(List.range ops.size).all (λk=>Nat.ble k dr||(cc.getD k []).contains dr)=true) (hk:bC P N ops cc (get G2) (dr+1) [] l K):bC P N ops cc (get G) i acc (o::l) K:=by
 intro ew af du n1 mw
 have:=zd mw aa
 subst this
 obtain ⟨h1,al⟩:=drop_cons mw
 obtain ⟨g',ay,eA⟩:=hk [] (af+1) .nil .nil al
 refine ⟨g',.I3 du n1 (by rw [bJ]; exact List.nodup_nil) (xY jb) h1 ?_ he bm ?_ ay,eA⟩
 ·unfold iX; rw [a']
 ·refine List.all_eq_true.2 λk hk=>?_
  have:=List.all_eq_true.1 aJ k hk
  simp only [Bool.or_eq_true,decide_eq_true_eq,Nat.ble_eq] at this ⊢
  exact this
theorem bC.dx (dr:Nat) {G:List (Nat × aj)}{k0:Nat}{cs cs' cs2:List aj}{y:aj}{G2:List (Nat × aj)}(aa:Nat.beq ops.size (dr+l.length+1)=true) (Fw:(List.range dr).all (λk=>(cc.getD dr []).contains k)=true) (KF:(List.range ops.size).all (λk=>Nat.ble k dr||(cc.getD k []).contains dr)=true) (GG:acc.filterMap mb=[]) (jb:rY G=true)
  (aM:et (get G) (λ_=>true) acc r=some (.obj cs)) (bm:Rd (et (get G) (λ_=>true) acc) a (.ptr ⟨r,[]⟩ k0)) (aJ:Rd (et (get G) (λ_=>true) acc) b y) [aL:cV y] (ab:su y=some cs') (bJ:gG P t cs'.length=true)
  (hk:Nat.ble (k0+cs'.length) cs.length=true) (bd:Nat.blt 0 cs'.length=true) (he:fY cs k0 cs'=cs2) [gP:eU cs] (ay:(get G2 r).isSome=true) (ek:mT (et (get G) (λ_=>true) acc) (get G2) r cs2 G2) (CV:bC P N ops cc (get G2) (dr+1) [] l K):bC P N ops cc (get G) i acc (⟨none,.store t a b,ty,pos,after,none⟩::l) K :=
 .w_ dr (.box rfl rfl aM bm aJ aL.bI ab bJ (Nat.le_of_ble_eq_true hk) (by simpa using bd) he (by intro e; rw [e] at ay; cases ay) ek) rfl GG jb aa Fw KF CV
end
end Go.Own
namespace Go.Own
open Go
variable {α β:Type}
def qf (m:Int) (z:α):Option (List α):=if 0<=m/\m<=lim then some (List.replicate m.toNat z) else none
def eC (l m:List α):Option (List α):=if l.length+m.length<=lim then some (l++m) else none
class Flat (e:cD α):Prop where P6:∀ a,(e.cells a).all lJ=true
instance:Flat aG:=⟨λ_=>rfl⟩
instance:Flat o':=⟨λ_=>rfl⟩
instance:Flat bH:=⟨λ_=>rfl⟩
instance:Flat cy:=⟨λ_=>rfl⟩
instance {e:cD α}:Flat (bb e):=⟨λ_=>rfl⟩
theorem Uh (e:cD α) [h:Flat e] (l:List α):(ch e l).all lJ=true:=by
 refine List.all_eq_true.2 λx J=>?_
 obtain ⟨a,_,bm⟩:=List.mem_flatMap.1 J
 exact List.all_eq_true.1 (h.P6 a) x bm
theorem vV (e:cD α) (l m:List α):(.own e.z (l.length+m.length) (ch e l++ch e m):aj)=ak e (l++m):=by
 unfold ak
 rw [List.length_append,wq]
theorem wu (e:cD α) (l:List α):(ch e l).take (l.length * e.z)=ch e l:=List.take_of_length_le (by rw [ob]; omega)
theorem Mk:∀ L:List Int,ch o' L=L.map λb=>.lit (.int .u8 b)
 | []=>rfl
 | x::L=>by
  have:ch o' (x::L)=mo x::ch o' L:=rfl
  rw [this,List.map_cons,Mk L]
section
variable {P:Program}{N:dW}{ops:Array Oper}{g g1 g2:aZ}{K:aZ->Prop}{l:List Oper}{d r:Nat}{ty t t2:TypeId}{pos:String}{after:Array Edge}{iA:Option (Nat × Bool)}{a b c:Operand}{k l_:IntKind}{m n:Int}{s u:ByteArray}{p q:Place}
namespace O
theorem dg {e h6:Nat}{parts:Array (Nat × Operand)}{ys:List aj}(en:cD α) (L:List α) (aE:fB P t e en.z=true) (J:iP g (parts.toList.map (·.2))=some ys) (ab:o_ ys=some (ch en L)) (bJ:ys.all (λy=>match lW y with | some c=>Nat.beq c.length en.z | none=>false)=true)
  (aH:parts.toList=(parts.toList.map (·.2)).mapIdx (λi x=>(i,x))) (aL:(parts.toList.map (·.2)).length=h6) (ao:L.length=h6) (hzero:jm P e en.z=true) (aJ:Nat.ble (h6 * en.z) 16777216=true) (cP:Nat.ble h6 16777216=true):dJ P g (.buildSlice t h6 parts) ty (ak en L):=by
 subst aL
 have:=o2.buildSlice (P:=P) (ty:=ty) aE aH J (λy az=>by
  have:=List.all_eq_true.1 bJ y az
  cases fu:lW y with
  | none=>rw [fu] at this; cases this
  | some c=>rw [fu] at this; exact ⟨c,rfl,Nat.eq_of_beq_eq_true this⟩) ab (Nat.le_of_ble_eq_true aJ) (Nat.le_of_ble_eq_true cP) (.inr (Ig hzero))
 unfold ak
 rw [ao]
 exact .qi this
theorem px {z cN n:Nat}{e:TypeId}(J:Rd g a (.bl z p n)) (aE:fB P t e cN=true):dJ P g (.call { callee:=.builtin .len,args:=#[a],argTypes:=#[t] }) ty (j n):=.fA (.Aw J.bO aE)
theorem gY {en:cD α}{L:List α}{y:α}{e:TypeId}(aH:b7 g p=some (ak en L)) (J:Rd g a (.bl en.z p L.length)) (hi:Rd g b (.lit (.int k m))) (aE:fB P t e en.z=true) (h:idx L m=some y) (bJ:Nat.blt 0 en.z=true):dJ P g (.indexAddr t a b) ty (.ptr p (m.toNat * en.z+0)):=by
 obtain ⟨bd,h1,_⟩:=qb h
 obtain ⟨af,rfl⟩:=Int.eq_ofNat_of_zero_le bd
 have GF:0<en.z:=by simpa using bJ
 have aa:af<L.length:=by omega
 refine .fA (.Da J.bO hi.bO aE aa ⟨_,aH,_,_,_,.inl rfl,?_⟩)
 rw [ob]; exact Nat.mul_lt_mul_of_pos_right aa GF
theorem Uc {en:cD α}{L:List α}{y:α}{o:Nat}(h:idx L m=some y) (bh:o<en.z):m.toNat * en.z+o<(ch en L).length:=by
 obtain ⟨bd,h1,_⟩:=qb h
 rw [ob]
 have al:m.toNat+1<=L.length:=by omega
 calc m.toNat * en.z+o<m.toNat * en.z+en.z:=by omega
  _=(m.toNat+1) * en.z:=by rw [Nat.add_mul]; omega
  _<=L.length * en.z:=Nat.mul_le_mul_right _ al
theorem ko {en:cD α}{L:List α}{y:α}{eR f off o ir:Nat}(aH:b7 g p=some (ak en L)) (J:Rd g a (.ptr p (m.toNat * en.z+o))) (bn:dP P eR f off t=true) (h:idx L m=some y) (bh:o+off=ir) (bg:Nat.blt ir en.z=true):dJ P g (.fieldAddr eR a f) ty (.ptr p (m.toNat * en.z+ir)):=by
 subst bh
 rw [<- Nat.add_assoc]
 refine .fA (.zx J.bO bn ⟨_,aH,_,_,_,.inl rfl,?_⟩)
 rw [Nat.add_assoc]; exact Uc h (by simpa using bg)
theorem tw {en:cD α}{L:List α}{y:α}{o:Nat}{x:aj}(aH:b7 g p=some (ak en L)) (h:idx L m=some y) (ab:(en.cells y)[o]?=some x):b7 g (p.push (m.toNat * en.z+o))=some x:=by
 rw [sm,aH]
 exact Mj en h ab
theorem jz {en:cD α}{L:List α}{y:α}{o:Nat}{x x':aj}(aH:b7 g p=some (ak en L)) (J:Rd g a (.ptr p (m.toNat * en.z+o))) (aE:hB P t=true) (h:idx L m=some y) (ab:(en.cells y)[o]?=some x) (ay:ib 0 (p.push (m.toNat * en.z+o)) x=x'):dJ P g (.load t a) ty x':=by
 subst ay
 exact .fA (.Az J.bO aE (tw aH h ab))
theorem Tu {en:cD α}{L:List α}{y:α}{o z:Nat}{cs':List aj}(aH:b7 g p=some (ak en L)) (J:Rd g a (.ptr p (m.toNat * en.z+o))) (aE:iY P t z=true) (h:idx L m=some y) (bJ:Nat.ble (o+z) en.z=true)
  (ab:(((en.cells y).drop o).take z).mapIdx (λi x=>ib 0 (p.push (m.toNat * en.z+o+i)) x)=cs'):dJ P g (.load t a) ty (.agg cs'):=by
 have GF:=Nat.le_of_ble_eq_true bJ
 have mw:((ch en L).drop (m.toNat * en.z+o)).take z=((en.cells y).drop o).take z:=by
  rw [<- List.drop_drop,HB en h,List.drop_append_of_le_length (by rw [en.len]; omega),List.take_append_of_le_length (by rw [List.length_drop,en.len]; omega)]
 subst ab
 rw [<- mw]
 refine .fA (.vP J.bO aE aH (.inl rfl) ?_)
 obtain ⟨bd,h1,_⟩:=qb h
 rw [ob]
 have al:m.toNat+1<=L.length:=by omega
 calc m.toNat * en.z+o+z<=m.toNat * en.z+en.z:=by omega
  _=(m.toNat+1) * en.z:=by rw [Nat.add_mul]; omega
  _<=L.length * en.z:=Nat.mul_le_mul_right _ al
end O
class qy (g:aZ):Prop where fR:∀ t z q n m new,g t≠some (.bR z q n m new)
class ov (x:aj):Prop where fR:∀ z q n m new,x≠.bR z q n m new
instance {x:aj} [h:cV x]:ov x:=⟨by rintro z q n m new rfl; cases h.bI⟩
instance {p:Place}{k:Nat}:ov (.ptr p k):=⟨by simp⟩
instance {p:Place}{z n:Nat}:ov (.bl z p n):=⟨by simp⟩
instance {p:Place}{z lo n:Nat}:ov (.sub z p lo n):=⟨by simp⟩
instance {cs:List aj}:ov (.agg cs):=⟨by simp⟩
instance {cs:List aj}:ov (.cG cs):=⟨by simp⟩
instance {cs:List aj}:ov (.obj cs):=⟨by simp⟩
instance {g:aZ}{d:Nat}{x:aj} [h:qy g] [J:ov x]:qy (e' g d x):=⟨λt z q n m new e=>by
 unfold e' at e
 split at e
 ·cases e; exact J.fR _ _ _ _ _ rfl
 ·exact h.fR _ _ _ _ _ _ e⟩
instance:qy (get []):=⟨λ_ _ _ _ _ _ e=>by cases e⟩
instance {t:Nat}{x:aj}{G:List (Nat × aj)} [J:ov x] [h:qy (get G)]:qy (get ((t,x)::G)):=⟨λs z q n m new e=>by
 simp only [get] at e
 split at e
 ·cases e; exact J.fR _ _ _ _ _ rfl
 ·exact h.fR _ _ _ _ _ _ e⟩
class BX (acc:Acc):Prop where fR:∀ e∈acc,∀ z q n m new,e.2.2≠some (.bR z q n m new)
instance:BX []:=⟨by simp⟩
instance {af d:Nat}{x:aj}{acc:Acc} [J:ov x] [h:BX acc]:BX ((af,d,some x)::acc):=⟨λe he z q n m new b6=>by
 rcases List.mem_cons.1 he with rfl | he
 ·exact J.fR z q n m new (Option.some.inj b6)
 ·exact h.fR e he z q n m new b6⟩
instance {G:List (Nat × aj)}{A:Nat->Bool}{acc:Acc} [a':qy (get G)] [h:BX acc]:qy (et (get G) A acc):=⟨λt z q n m new e=>by
 rcases te e with ⟨cX,he,_,_,al⟩ | ⟨_,al⟩
 ·exact h.fR cX he _ _ _ _ _ al
 ·exact a'.fR _ _ _ _ _ _ al⟩
theorem w8 {L M:List α}{r:List α}{b:Nat}(h:eC L M=some r) (aJ:Nat.ble b 128=true):L.length+M.length<=4611686018427387904/\(L.length+M.length) * b<=140737488355328/\r=L++M:=by
 unfold eC at h
 split at h
 ·rename_i ao
  have kI:=Nat.le_of_ble_eq_true aJ
  have R3:lim=1099511627776:=rfl
  refine ⟨by omega,?_,(Option.some.inj h).symm⟩
  calc (L.length+M.length) * b<=1099511627776 * 128:=Nat.mul_le_mul ao kI
   _=140737488355328:=by decide
 ·cases h
inductive qC (g:aZ) (en:cD α):aj->List α->Prop
 | i {M:List α}:qC g en (.aF en.z M.length (ch en M)) M
 | n:qC g en .aI []
 | o {q:Place}{M:List α}(bN:b7 g q=some (ak en M)) (bn:(ch en M).all lJ=true):qC g en (.bl en.z q M.length) M
theorem qC.src {en:cD α}{y:aj}{M:List α}(h:qC g en y M):Src g y en.z M.length (ch en M):=by
 cases h with
 | i=>exact .aF
 | n=>exact .aI
 | o bN bn =>
  have:=Src.bl (g:=g) (m:=M.length) bN (Nat.le_refl _)
  rw [wu,zz (q:=λi=>_) bn] at this
  exact this
theorem qC.flat (en:cD α) [Flat en] {q:Place}{M:List α}(bN:b7 g q=some (ak en M)):qC g en (.bl en.z q M.length) M:=.o bN (Uh en M)
namespace O
theorem ap {en:cD α}{L M r:List α}{y:aj}{e jJ:Nat}(aM:Rd g a (.bl en.z p L.length)) (aH:b7 g p=some (ak en L)) (J:Rd g b y) (hm:qC g en y M) (aE:ix P t e en.z jJ=true) (aJ:Nat.ble jJ 128=true) (h:eC L M=some r) [gP:qy g] :
  dJ P g (.call { callee:=.builtin .append,args:=#[a,b],argTypes:=#[t,t] }) ty (.bR en.z p L.length M.length (ch en M)):=by
 obtain ⟨h1,al,_⟩:=w8 h aJ
 exact .lA (.grow aM.bO (.inl ⟨_,aH⟩) (λt cN cY m' dq e=>gP.fR _ _ _ _ _ _ e) J.bO hm.src aE h1 al)
theorem N1 {en:cD α}{M r:List α}{y:aj}{e jJ:Nat}(aM:Rd g a .aI) (J:Rd g b y) (hm:qC g en y M) (aE:ix P t e en.z jJ=true) (aJ:Nat.ble jJ 128=true) (h:eC [] M=some r) :
  dJ P g (.call { callee:=.builtin .append,args:=#[a,b],argTypes:=#[t,t] }) ty (ak en M):=by
 obtain ⟨h1,al,_⟩:=w8 h aJ
 simp only [List.length_nil,Nat.zero_add] at h1 al
 exact .lA (.nil aM.bO J.bO hm.src aE h1 al)
end O
inductive pS (ex:List Nat) (g g2:aZ):List (Nat × aj)->Prop
 | nil:pS ex g g2 []
 | n {s:Nat}{x:aj}{l:List (Nat × aj)}(eK:ex.elem s=false) (h:g s=some x) [aL:cV x] (t:pS ex g g2 l):pS ex g g2 ((s,x)::l)
 | p {s q k:Nat}{l:List (Nat × aj)}{nX:List aj}(eK:ex.elem s=false) (h:g s=some (.ptr ⟨q,[]⟩ k)) (al:g2 q=some (.obj nX)) (gO:Nat.blt k nX.length=true) (t:pS ex g g2 l):pS ex g g2 ((s,.ptr ⟨q,[]⟩ k)::l)
theorem pS.spec {ex:List Nat}{l:List (Nat × aj)}(h:pS ex g g2 l):∀ t x,get l t=some x->ex.elem t=false/\g t=some x/\e7 g2 x/\∀ z p n m new,x≠.bR z p n m new:=by
 induction h with
 | nil=>intro t x J; cases J
 | @n s x l eK h aL _ aR =>
  intro t y az; simp only [get] at az
  split at az
  ·rename_i e; subst e; cases az; exact ⟨eK,h,.bI aL.bI,by rintro z p n m new rfl; cases aL.bI⟩
  ·exact aR t y az
 | @p s q k l nX eK h al gO _ aR =>
  intro t y az; simp only [get] at az
  split at az
  ·rename_i e; subst e; cases az; exact ⟨eK,h,.ref rfl (s_ al (by simpa using gO)),by simp⟩
  ·exact aR t y az
theorem pS.keep {ex:List Nat}{G2:List (Nat × aj)}(h:pS ex g (get G2) G2) (a':∀ t,ex.elem t=false->g1 t=g t):hS g1 (get G2) :=
 ⟨λt x J=>by obtain ⟨h1,al,_⟩:=h.spec t x J; rw [a' t h1]; exact al,λt x J=>(h.spec t x J).2.2.1,λt z q n m new J=>(h.spec t _ J).2.2.2 _ _ _ _ _ rfl⟩
theorem Take.row {en:cD α}{L:List α}(aH:b7 g p=some (ak en L)):Take g [.bl en.z p L.length] [ak en L] (df g p .dead):=by
 have h1:Take (df g p .dead) ((ch en L).take (L.length * en.z)) (ch en L) (df g p .dead):=by
  rw [wu]; exact .bI (oc en L)
 exact .bl aH (Nat.le_refl _) h1 (.bI (by simp))
theorem Take.Ue {en:cD α}{L M:List α}{s:Nat}(aM:g s=some (.bR en.z q L.length M.length (ch en M))) (aH:b7 g q=some (ak en L)) (bN:q.root≠s):Take g [.bl en.z ⟨s,[]⟩ (L.length+M.length)] [ak en (L++M)] (df (df g ⟨s,[]⟩ .dead) q .dead):=by
 rw [<- vV]
 exact .bR aM aH bN (.bI λx J=>(List.mem_append.1 J).elim (oc en L x) (oc en M x)) (.bI (by simp))
theorem Take.Uf {en:cD α}{L M M2:List α}{s s2:Nat}(aM:g s=some (.bR en.z ⟨s2,[]⟩ (L.length+M2.length) M.length (ch en M))) (xL:g s2=some (.bR en.z q L.length M2.length (ch en M2))) (aH:b7 g q=some (ak en L)) (bN:q.root≠s) (rS:q.root≠s2) (Gi:s≠s2) :
  Take g [.bl en.z ⟨s,[]⟩ (L.length+M2.length+M.length)] [ak en (L++M2++M)] (df (df (df g ⟨s,[]⟩ .dead) ⟨s2,[]⟩ .dead) q .dead):=by
 have:=Take.DA (g:=g) (xs:=[]) (xs':=[]) aM xL rfl aH bN rS Gi (.bI (xs:=ch en L++ch en M2++ch en M) λx J=>by
  rcases List.mem_append.1 J with h | h
  ·exact (List.mem_append.1 h).elim (oc en L x) (oc en M2 x)
  ·exact oc en M x h) (.bI (by simp))
 have e:(ak en (L++M2++M):aj)=.own en.z (L.length+M2.length+M.length) (ch en L++ch en M2++ch en M):=by
  unfold ak; rw [List.length_append,List.length_append,wq,wq]
 rw [e]; exact this
theorem uG {t:Nat}{y:aj}(h:t≠p.root):df g p y t=g t:=by unfold df; rw [if_neg h]
theorem xk {ex:List Nat}{t s:Nat}(h:ex.elem t=false) (aM:ex.elem s=true):t≠s:=by rintro rfl; rw [h] at aM; cases aM
theorem b9.ik {o:Oper}{en:cD α}{L:List α}{x:Operand}{G2:List (Nat × aj)}(bh:o.op=.assign x) (aY:o.dst=some d) (J:Rd g x (.bl en.z p L.length)) (aH:b7 g p=some (ak en L)) (ek:pS [p.root] g (get G2) G2) (a':get G2 d=none) (bY:N.ok d=true):b9 P N g o (e' (get G2) d (ak en L)) :=
 .assign bh aY J.bO (.row aH) .refl (ek.keep λt aE=>uG (xk aE (by simp))) a' bY
theorem b9.lp {o:Oper}{en:cD α}{L M:List α}{s:Nat}{x:Operand}{G2:List (Nat × aj)}(bh:o.op=.assign x) (aY:o.dst=some d) (J:Rd g x (.bl en.z ⟨s,[]⟩ (L.length+M.length))) (aM:g s=some (.bR en.z q L.length M.length (ch en M))) (aH:b7 g q=some (ak en L)) (bN:Nat.beq q.root s=false)
  (ek:pS [s,q.root] g (get G2) G2) (a':get G2 d=none) (bY:N.ok d=true):b9 P N g o (e' (get G2) d (ak en (L++M))) :=
 .assign bh aY J.bO (.Ue aM aH (Nat.ne_of_beq_eq_false bN)) .refl (ek.keep λt aE=>by rw [uG (xk aE (by simp)),uG (xk aE (by simp))]) a' bY
theorem b9.IF {o:Oper}{en:cD α}{L M M2:List α}{s s2:Nat}{x:Operand}{G2:List (Nat × aj)}(bh:o.op=.assign x) (aY:o.dst=some d) (J:Rd g x (.bl en.z ⟨s,[]⟩ (L.length+M2.length+M.length))) (aM:g s=some (.bR en.z ⟨s2,[]⟩ (L.length+M2.length) M.length (ch en M)))
  (xL:g s2=some (.bR en.z q L.length M2.length (ch en M2))) (aH:b7 g q=some (ak en L)) (bN:Nat.beq q.root s=false) (rS:Nat.beq q.root s2=false) (Gi:Nat.beq s s2=false)
  (ek:pS [s,s2,q.root] g (get G2) G2) (a':get G2 d=none) (bY:N.ok d=true):b9 P N g o (e' (get G2) d (ak en (L++M2++M))) :=
 .assign bh aY J.bO (.Uf aM xL aH (Nat.ne_of_beq_eq_false bN) (Nat.ne_of_beq_eq_false rS) (Nat.ne_of_beq_eq_false Gi)) .refl (ek.keep λt aE=>by rw [uG (xk aE (by simp)),uG (xk aE (by simp)),uG (xk aE (by simp))]) a' bY
theorem aq.fN {o:Oper}{x:aj}{G2:List (Nat × aj)}(a':o.guard=none) (he:b9 P N g o (e' (get G2) d x)) (hk:aq P N ops l (e' (get G2) d x) K):aq P N ops (o::l) g K:=by
 intro i hi
 obtain ⟨h1,al⟩:=drop_cons hi
 obtain ⟨g',ay,eA⟩:=hk (i+1) al
 refine ⟨g',.mY h1 ?_ he ay,eA⟩
 unfold iX; rw [a']
theorem tG {x:aj}{G:List (Nat × aj)}:e' (get G) d x=get ((d,x)::G):=by
 funext t; unfold e'; simp only [get]
variable {cc:List (List Nat)}{acc:Acc}{i:Nat}
inductive yU (P:Program):aZ->List ResultVar->List aj->List aj->aZ->Prop
 | nil {g:aZ}:yU P g [] [] [] g
 | f {g g':aZ}{t:Nat}{x:aj}{rs:List ResultVar}{ys xs:List aj}(h:g t=some x) (bn:lJ x=true) [aL:cV x] (aE:yU P g rs ys xs g'):yU P g (.tmp t::rs) (x::ys) (x::xs) g'
 | o {g g':aZ}{t:Nat}{en:cD α}{L:List α}{rs:List ResultVar}{ys xs:List aj}(h:g t=some (ak en L)) (aE:yU P (df g ⟨t,[]⟩ .dead) rs ys xs g'):yU P g (.tmp t::rs) (.bl en.z ⟨t,[]⟩ L.length::ys) (ak en L::xs) g'
end
end Go.Own
namespace Go.Own
open Go
variable {α β:Type}
section
variable {P:Program}{N:dW}{ops:Array Oper}{g g' g1 g2:aZ}{K:aZ->Prop}{l:List Oper}{d r:Nat}{ty t t2:TypeId}{pos:String}{after:Array Edge}{a b c:Operand}{p q:Place}{e:Exit}
inductive pR (s:Nat):aZ->Nat->List aj->List aj->aZ->Prop
 | nil {g:aZ}{i:Nat}:pR s g i [] [] g
 | f {g g':aZ}{i:Nat}{x:aj}{ys xs:List aj}(bn:lJ x=true) [aL:cV x] (aE:pR s g (i+1) ys xs g'):pR s g i (x::ys) (x::xs) g'
 | o {α:Type}{g g':aZ}{i:Nat}{en:cD α}{L:List α}{ys xs:List aj}(aH:b7 g ⟨s,[i]⟩=some (ak en L)) (aE:pR s (df g ⟨s,[i]⟩ .dead) (i+1) ys xs g'):pR s g i (.bl en.z ⟨s,[i]⟩ L.length::ys) (ak en L::xs) g'
theorem pR.take {s i:Nat}{ys xs:List aj}(h:pR s g i ys xs g'):Take g ys xs g':=by
 induction h with
 | nil=>exact .bI (by simp)
 | @f g g' i x ys xs bn aL _ aR=>exact .cons aL.bI aR
 | @o α g g' i en L ys xs aH _ aR =>
  refine .bl aH (Nat.le_refl _) ?_ aR
  rw [wu]; exact .bI (oc en L)
inductive o4 (P:Program):aZ->List ResultVar->List aj->List aj->aZ->Prop
 | nil {g:aZ}:o4 P g [] [] [] g
 | f {g g':aZ}{t:Nat}{x:aj}{rs:List ResultVar}{ys xs:List aj}(h:g t=some x) (bn:lJ x=true) [aL:cV x] (aE:o4 P g rs ys xs g'):o4 P g (.tmp t::rs) (x::ys) (x::xs) g'
 | o {α:Type}{g g':aZ}{t:Nat}{en:cD α}{L:List α}{rs:List ResultVar}{ys xs:List aj}(h:g t=some (ak en L)) (aE:o4 P (df g ⟨t,[]⟩ .dead) rs ys xs g'):o4 P g (.tmp t::rs) (.bl en.z ⟨t,[]⟩ L.length::ys) (ak en L::xs) g'
 | c {g g' CH:aZ}{t z:Nat}{ty:TypeId}{cs ys0:List aj}{rs:List ResultVar}{ys xs:List aj}(h:g t=some (.obj cs)) (aE:iY P ty z=true) (bJ:cs.length=z) (bd:Nat.blt 0 z=true) (az:(cs.mapIdx λi x=>ib 0 ⟨t,[i]⟩ x)=ys0) (hk:pR t g 0 ys0 cs CH) (ay:o4 P CH rs ys xs g'):o4 P g (.cell t ty::rs) (.agg ys0::ys) (.agg cs::xs) g'
def wR (g0 g:aZ):Prop:=∀ t x,g t=some x->(lJ x=true\/(∃ z n cs,x=.own z n cs))->g0 t=some x
theorem wR.set {g0:aZ}{t:Nat}{pp:List Nat}(h:wR g0 g) (bh:pp=[]\/∃ cs,g t=some (.obj cs)):wR g0 (df g ⟨t,pp⟩ .dead):=by
 intro s x J bn
 unfold df at J
 split at J
 ·rename_i aM
  simp only at aM J
  subst aM
  exfalso
  cases a':g s with
  | none=>rw [a'] at J; cases J
  | some y =>
   rw [a'] at J
   simp only [Option.map_some,Option.some.injEq] at J
   rcases bh with rfl | ⟨cs,ab⟩
   ·simp only [aj.setAt] at J
    subst J
    rcases bn with bn | ⟨_,_,_,bn⟩ <;> cases bn
   ·rw [a'] at ab
    cases ab
    have:∃ cs',x=.obj cs':=by
     subst J
     cases pp with
     | nil=>simp only [aj.setAt] at bn; rcases bn with bn | ⟨_,_,_,bn⟩ <;> cases bn
     | cons k pp =>
      simp only [aj.setAt,aj.kids]
      split
      ·exact ⟨_,rfl⟩
      ·exact ⟨_,rfl⟩
    obtain ⟨cs',rfl⟩:=this
    rcases bn with bn | ⟨_,_,_,bn⟩ <;> cases bn
 ·exact h s x J bn
theorem pR.PG {g0:aZ}{s i:Nat}{ys xs:List aj}(h:pR s g i ys xs g'):(∃ cs,g s=some (.obj cs))->wR g0 g->wR g0 g':=by
 induction h with
 | nil=>exact λ_ h=>h
 | f _ _ aR=>exact aR
 | @o α g g' i en L ys xs aH _ aR =>
  intro bh aY
  refine aR ?_ (aY.set (.inr bh))
  obtain ⟨cs,ab⟩:=bh
  unfold df
  simp only [if_pos,ab,Option.map_some,aj.setAt,aj.kids]
  split
  ·exact ⟨_,rfl⟩
  ·exact ⟨_,rfl⟩
theorem pR.out {s i:Nat}{ys xs:List aj}(h:pR s g i ys xs g'):∀ t,t≠s->g' t=g t:=by
 induction h with
 | nil=>exact λ_ _=>rfl
 | f _ _ aR=>exact aR
 | o _ _ aR=>exact λt aE=>by rw [aR t aE,uG aE]
theorem o4.take {rs:List ResultVar}{ys xs:List aj}(h:o4 P g rs ys xs g'):Take g ys xs g':=by
 induction h with
 | nil=>exact .bI (by simp)
 | @f g g' t x rs ys xs h bn aL _ aR=>exact .cons aL.bI aR
 | @o α g g' t en L rs ys xs h _ aR =>
  have aH:b7 g ⟨t,[]⟩=some (ak en L):=by simp [b7,h,aj.at]
  refine .bl aH (Nat.le_refl _) ?_ aR
  rw [wu]; exact .bI (oc en L)
 | @c g g' CH t z ty cs ys0 rs ys xs h aE bJ bd az hk _ aR=>exact .agg hk.take aR
theorem o4.vs {rs:List ResultVar}{ys xs:List aj}(h:o4 P g rs ys xs g'):∀ g0:aZ,wR g0 g->(∀ t ty,ResultVar.cell t ty∈rs->∀ cs,g t=some (.obj cs)->g0 t=some (.obj cs))->(rs.filterMap fun | .cell t _=>some t | _=>none).Nodup->qB P g0 rs ys:=by
 induction h with
 | nil=>exact λ_ _ _ _=>.nil
 | @f g g' t x rs ys xs h bn aL _ aR =>
  intro g0 aY aJ gD
  exact .cons (.tmp (Rd.f (aY t x h (.inl bn)) bn)) (aR g0 aY (λt ty hm=>aJ t ty (List.mem_cons_of_mem _ hm)) (by simpa using gD))
 | @o α g g' t en L rs ys xs h _ aR =>
  intro g0 aY aJ gD
  refine .cons (.tmp ?_) (aR g0 (aY.set (.inl rfl)) (λs ty hm cs ab=>?_) (by simpa using gD))
  ·have:=aY t _ h (.inr ⟨_,_,_,rfl⟩)
   simp [Own.bO,this,ri,ib]
  ·by_cases aM:s=t
   ·subst aM; simp [df,h,aj.setAt] at ab
   ·rw [uG aM] at ab; exact aJ s ty (List.mem_cons_of_mem _ hm) cs ab
 | @c g g' CH t z ty cs ys0 rs ys xs h aE bJ bd az hk _ aR =>
  intro g0 aY aJ gD
  have h1:=aJ t ty (by simp) cs h
  simp only [List.filterMap_cons,List.nodup_cons] at gD
  refine .cons ?_ (aR g0 (hk.PG ⟨cs,h⟩ aY) (λs MW hm cs' ab=>?_) gD.2)
  ·have GF:0<z:=by simpa using bd
   have J:Own.bO g0 (.tmp t)=some (.ptr ⟨t,[]⟩ 0):=by
    cases cs with
    | nil=>simp at bJ; omega
    | cons c cs=>simp [Own.bO,h1,ri,ib]
   have:=dA.vP (P:=P) (ty:=ty) (p:=⟨t,[]⟩) (n:=0) (z:=0) J aE (by simp only [b7,h1,aj.at]) (.inr rfl) (show 0+z<=cs.length by omega)
   have hl:((cs.drop 0).take z).mapIdx (λi x=>ib 0 (Place.push ⟨t,[]⟩ (0+i)) x)=ys0:=by
    rw [List.drop_zero,List.take_of_length_le (by omega),<- az]
    congr 1
    funext i x
    simp [Place.push]
   rw [hl] at this
   exact .cell this
  ·have cm:s≠t:=by
    rintro rfl
    exact gD.1 (List.mem_filterMap.2 ⟨.cell s MW,hm,rfl⟩)
   have:=hk.out s cm
   rw [this] at ab
   exact aJ s MW (List.mem_cons_of_mem _ hm) cs' ab
inductive sf (g:aZ) (pins:List Nat):Nat->List (Option aj)->Prop
 | nil {i:Nat}:sf g pins i []
 | no {i:Nat}{os:List (Option aj)}(t:sf g pins (i+1) os):sf g pins i (none::os)
 | aB {i:Nat}{x:aj}{os:List (Option aj)}(h:g i=some x) [aL:cV x] (aH:pins.elem i=true) (t:sf g pins (i+1) os):sf g pins i (some x::os)
theorem sf.spec {pins:List Nat}{i:Nat}{os:List (Option aj)}(h:sf g pins i os):∀ k x,os[k]?=some (some x)->g (i+k)=some x/\dp x/\i+k∈pins:=by
 induction h with
 | nil=>intro k x hk; simp at hk
 | no _ aR =>
  intro k x hk
  cases k with
  | zero=>simp at hk
  | succ k=>have:=aR k x (by simpa using hk); rw [Nat.add_assoc,Nat.add_comm 1 k] at this; exact this
 | @aB i y os h aL aH _ aR =>
  intro k x hk
  cases k with
  | zero=>simp at hk; subst hk; exact ⟨h,aL.bI,by simpa using aH⟩
  | succ k=>have:=aR k x (by simpa using hk); rw [Nat.add_assoc,Nat.add_comm 1 k] at this; exact this
theorem Fin.ro {rs:List ResultVar}{ys xs:List aj}{res:aj}{outs:List (Option aj)}{n:Nat}(h:o4 P g rs ys xs g') (he:qn xs=res) (gD:(rs.filterMap fun | .cell t _=>some t | _=>none).Nodup) (bh:sf g' N.pins 0 outs) (ao:outs.length=n) (J:e=.normal\/e=.ret):Fin P N rs n outs res e g :=
 ⟨J,⟨ys,xs,g',h.vs g (λ_ _ h _=>h) (λ_ _ _ _ h=>h) gD,h.take,he.symm,λk x hk=>by have:=bh.spec k x hk; rw [Nat.zero_add] at this; exact this⟩,ao⟩
class ln (x y:aj):Prop where v:∀ g,View g x y
class ea (xs ys:List aj):Prop where
 l:ys.length=xs.length
 v:∀ (g:aZ) (k:Nat) (x y:aj),xs[k]?=some x->ys[k]?=some y->View g x y
class hj (e cX:cD α):Prop where
 z:e.z=cX.z
 v:∀ a,ea (e.cells a) (cX.cells a)
instance {v:Value}:ln (.lit v) (.lit v):=⟨λ_=>.self .lit (by simp) (by simp) (by simp) (by simp) (by simp)⟩
instance:ln .aI .aI:=⟨λ_=>.self .aI (by simp) (by simp) (by simp) (by simp) (by simp)⟩
instance {z n:Nat}{cs:List aj} [h:eU cs]:ln (.aF z n cs) (.aF z n cs):=⟨λ_=>.self (.aF h.bI) (by simp) (by simp) (by simp) (by simp) (by simp)⟩
instance {cs:List aj} [h:eU cs]:ln (.bo cs) (.bo cs):=⟨λ_=>.self (.bo h.bI) (by simp) (by simp) (by simp) (by simp) (by simp)⟩
instance {e:cD α}:ln .aI (ag e []):=⟨λ_=>.py⟩
instance:ea [] []:=⟨rfl,by simp⟩
instance {x y:aj}{xs ys:List aj} [h:ln x y] [aS:ea xs ys]:ea (x::xs) (y::ys):=⟨by simp [aS.l],λg k a b bm aJ=>by
 cases k with
 | zero=>simp at bm aJ; subst bm aJ; exact h.v g
 | succ k=>exact aS.v g k a b (by simpa using bm) (by simpa using aJ)⟩
theorem BD (e cX:cD α) [h:hj e cX]:∀ L:List α,(ch cX L).length=(ch e L).length/\∀ (g:aZ) (k:Nat) (x y:aj),(ch e L)[k]?=some x->(ch cX L)[k]?=some y->View g x y
 | []=>⟨rfl,by simp [ch]⟩
 | a::L=>by
  obtain ⟨h1,al⟩:=BD e cX L
  have PR:∀ e:cD α,ch e (a::L)=e.cells a++ch e L:=λe=>by simp [ch]
  refine ⟨by rw [ob,ob,h.z],λg k x y J az=>?_⟩
  rw [PR] at J az
  by_cases hk:k<e.z
  ·rw [List.getElem?_append_left (by rw [e.len]; exact hk)] at J
   rw [List.getElem?_append_left (by rw [cX.len,<- h.z]; exact hk)] at az
   exact (h.v a).v g k x y J az
  ·rw [List.getElem?_append_right (by rw [e.len]; omega),e.len] at J
   rw [List.getElem?_append_right (by rw [cX.len,<- h.z]; omega),cX.len,<- h.z] at az
   exact al g _ x y J az
instance {e cX:cD α}{L:List α} [h:hj e cX]:ln (ak e L) (ag cX L):=⟨λg=>by
 have:=BD e cX L
 show View g (.own e.z L.length (ch e L)) (.aF cX.z L.length (ch cX L))
 rw [<- h.z]
 exact .own this.1 (this.2 g)⟩
instance:hj aG aG:=⟨rfl,λa=>(inferInstance:ea [j a] [j a])⟩
instance:hj o' o':=⟨rfl,λa=>(inferInstance:ea [mo a] [mo a])⟩
instance:hj bH bH:=⟨rfl,λa=>(inferInstance:ea [a1 a] [a1 a])⟩
instance:hj cy cy:=⟨rfl,λa=>(inferInstance:ea [ae a] [ae a])⟩
instance {e cX:cD α} [h:hj e cX]:hj (JN e) (bb cX):=⟨rfl,λa=>(inferInstance:ea [ak e a] [ag cX a])⟩
instance {e:cD α}:hj (bb e) (bb e):=⟨rfl,λa=>(inferInstance:ea [ag e a] [ag e a])⟩
theorem View.row {e cX:cD α}{L:List α} [h:hj e cX] (aH:b7 g p=some (ak e L)):View g (.bl e.z p L.length) (ag cX L):=by
 have:=BD e cX L
 show View g _ (.aF cX.z L.length (ch cX L))
 rw [<- h.z]
 refine .bl aH (Nat.le_refl _) (by rw [wu]; exact this.1) (λk x y J az=>?_)
 rw [wu] at J
 exact this.2 g k x y J az
inductive pU (g:aZ):List aj->List aj->Prop
 | nil:pU g [] []
 | s {x y:aj}{xs ys:List aj} [h:ln x y] (t:pU g xs ys):pU g (x::xs) (y::ys)
 | c {x y:aj}{xs ys:List aj}(h:View g x y) (t:pU g xs ys):pU g (x::xs) (y::ys)
theorem pU.len {xs ys:List aj}(h:pU g xs ys):ys.length=xs.length:=by
 induction h with
 | nil=>rfl
 | s _ aR=>simp [aR]
 | c _ _ aR=>simp [aR]
theorem pU.get {xs ys:List aj}(h:pU g xs ys):∀ (k:Nat) (x y:aj),xs[k]?=some x->ys[k]?=some y->View g x y:=by
 induction h with
 | nil=>intro k x y J; simp at J
 | @s x y xs ys h _ aR =>
  intro k a b bm aJ
  cases k with
  | zero=>simp at bm aJ; subst bm aJ; exact h.v g
  | succ k=>exact aR k a b (by simpa using bm) (by simpa using aJ)
 | @c x y xs ys h _ aR =>
  intro k a b bm aJ
  cases k with
  | zero=>simp at bm aJ; subst bm aJ; exact h
  | succ k=>exact aR k a b (by simpa using bm) (by simpa using aJ)
theorem View.yW {xs ys:List aj}(h:pU g xs ys):View g (.agg xs) (.agg ys):=.agg h.len h.get
class qz (x:aj):Prop where lg:kC x
class jT (cs:List aj):Prop where lg:∀ x∈cs,kC x
class lU (e:cD α):Prop where lg:∀ a,jT (e.cells a)
instance {v:Value}:qz (.lit v):=⟨.lit⟩
instance:qz .aI:=⟨.aI⟩
instance:jT []:=⟨by simp⟩
instance {x:aj}{xs:List aj} [h:qz x] [aS:jT xs]:jT (x::xs):=⟨λy az=>by
 rcases List.mem_cons.1 az with rfl | az
 ·exact h.lg
 ·exact aS.lg y az⟩
instance {e:cD α}{L:List α} [h:lU e]:jT (ch e L):=⟨λx J=>by
 obtain ⟨a,_,bm⟩:=List.mem_flatMap.1 J
 exact (h.lg a).lg x bm⟩
instance {z n:Nat}{cs:List aj} [h:jT cs]:qz (.own z n cs):=⟨.own h.lg⟩
instance {cs:List aj} [h:jT cs]:qz (.obj cs):=⟨.obj h.lg⟩
instance {cs:List aj} [h:jT cs]:qz (.agg cs):=⟨.agg h.lg⟩
instance {cs:List aj} [h:jT cs]:qz (.cG cs):=⟨.cG h.lg⟩
instance {e:cD α}{a:α} [h:lU e]:jT (e.cells a):=h.lg a
instance:lU aG:=⟨λa=>(inferInstance:jT [j a])⟩
instance:lU o':=⟨λa=>(inferInstance:jT [mo a])⟩
instance:lU bH:=⟨λa=>(inferInstance:jT [a1 a])⟩
instance:lU cy:=⟨λa=>(inferInstance:jT [ae a])⟩
instance {e:cD α} [h:lU e]:lU (JN e):=⟨λa=>(inferInstance:jT [ak e a])⟩
theorem TG {outs:List (Option aj)}{args:List aj}(bh:vT outs=true) (ao:outs.length=args.length):outs=args.map λ_=>none:=by
 apply List.ext_getElem?
 intro k
 rw [List.getElem?_map]
 cases az:args[k]? with
 | none=>rw [List.getElem?_eq_none (by rw [ao]; exact List.getElem?_eq_none_iff.1 az)]; rfl
 | some y =>
  have hk:k<outs.length:=by rw [ao]; exact (List.getElem?_eq_some_iff.1 az).1
  have h1:=List.getElem?_eq_getElem hk
  rw [h1]
  cases al:outs[k] with
  | none=>rfl
  | some x=>rw [al] at h1; exact absurd h1 (Du bh k x)
theorem cr.vw {xs:List Operand}{iJ:Array TypeId}{f:FuncId}{ys args:List aj}{outs:List (Option aj)}{res:aj}(J:iP g xs=some ys) (hv:pU g ys args) (ji:b_ P f args outs res) (bn:dI P f=true) (bh:vT outs=true) [ay:qz res] :
  cr P g (.call { callee:=.value (.func f),args:=xs.toArray,argTypes:=iJ }) res:=by
 have e:=TG bh ji.1
 refine .Dk (first:=[]) (caps:=[]) (ys:=ys) (args:=args) rfl (by simpa using J) bn (by simpa using hv.len) (λk x y J az=>hv.get k x y (by simpa using J) az) ?_ ay.lg
 rw [<- e]; exact ji
end
end Go.Own
namespace Go.Own
open Go
variable {α β:Type}
section
variable {P:Program}{N:dW}{ops:Array Oper}{g g' g1 g2:aZ}{K:aZ->Prop}{l:List Oper}{d r:Nat}{op:Op}{ty t t2:TypeId}{pos:String}{after:Array Edge}{iA:Option (Nat × Bool)}{a b c:Operand}{p q:Place}{x y:aj}
variable {cc:List (List Nat)}{g0:aZ}{acc:Acc}{i:Nat}
instance {cs cs':List aj} [h:ea cs cs']:ln (.obj cs) (.bo cs'):=⟨λg=>.obj h.l (h.v g)⟩
instance {cs cs':List aj} [h:ea cs cs']:ln (.agg cs) (.agg cs'):=⟨λg=>.agg h.l (h.v g)⟩
instance {z n:Nat}{cs cs':List aj} [h:ea cs cs']:ln (.own z n cs) (.aF z n cs'):=⟨λg=>.own h.l (h.v g)⟩
theorem aq.eY (aH:dJ P g op ty y) [aL:cV y] [hv:ln y x] (bY:N.ok d=true) (bn:g d=none) (a':gz g ops iA) (hk:aq P N ops l (e' g d x) K):aq P N ops (⟨some d,op,ty,pos,after,iA⟩::l) g K :=
 .yw rfl bY bn (r:=some x) (.inr (.inr ⟨a'.wanted,y,.inl aH,aL.bI,hv.v _⟩)) hk
theorem bC.eY (dr:Nat) (aH:dJ P (oh cc g0 dr acc) op ty y) [aL:cV y] [hv:ln y x] (aa:Nat.beq ops.size (dr+l.length+1)=true) (bn:g0 d=none) (pk:acc.all (λe=>!Nat.beq e.2.1 d)=true) (bY:N.ok d=true) (a':gz (oh cc g0 dr acc) ops iA)
  (hk:bC P N ops cc g0 i ((dr,d,some x)::acc) l K):bC P N ops cc g0 i acc (⟨some d,op,ty,pos,after,iA⟩::l) K :=
 .st dr (r:=some x) rfl (.inr (.inr ⟨a'.wanted,y,.inl aH,aL.bI,hv.v _⟩)) aa bn pk bY hk
inductive o8 (ex:List Nat) (g g2:aZ):List (Nat × aj)->Prop
 | nil:o8 ex g g2 []
 | n {s:Nat}{x:aj}{l:List (Nat × aj)}(eK:ex.elem s=false) (h:g s=some x) [aL:cV x] (t:o8 ex g g2 l):o8 ex g g2 ((s,x)::l)
 | p {s q k:Nat}{l:List (Nat × aj)}{nX:List aj}(eK:ex.elem s=false) (h:g s=some (.ptr ⟨q,[]⟩ k)) (al:g2 q=some (.obj nX)) (gO:Nat.blt k nX.length=true) (t:o8 ex g g2 l):o8 ex g g2 ((s,.ptr ⟨q,[]⟩ k)::l)
 | z {s:Nat}{x y:aj}{l:List (Nat × aj)}(he:ex.elem s=true) (h:g s=some y) [aL:cV y] (hv:jF y x) [J:ov x] (t:o8 ex g g2 l):o8 ex g g2 ((s,x)::l)
theorem o8.spec {ex:List Nat}{l:List (Nat × aj)}(h:o8 ex g g2 l):∀ t x,get l t=some x->((ex.elem t=false/\g t=some x/\e7 g2 x)\/(ex.elem t=true/\∃ y,g t=some y/\dp y/\jF y x))/\∀ z p n m new,x≠.bR z p n m new:=by
 induction h with
 | nil=>intro t x J; cases J
 | @n s x l eK h aL _ aR =>
  intro t y az; simp only [get] at az
  split at az
  ·rename_i e; subst e; cases az; exact ⟨.inl ⟨eK,h,.bI aL.bI⟩,by rintro z p n m new rfl; cases aL.bI⟩
  ·exact aR t y az
 | @p s q k l nX eK h al gO _ aR =>
  intro t y az; simp only [get] at az
  split at az
  ·rename_i e; subst e; cases az; exact ⟨.inl ⟨eK,h,.ref rfl (s_ al (by simpa using gO))⟩,by simp⟩
  ·exact aR t y az
 | @z s x y l he h aL hv J _ aR =>
  intro t y' az; simp only [get] at az
  split at az
  ·rename_i e; subst e; cases az; exact ⟨.inr ⟨he,y,h,aL.bI,hv⟩,J.fR⟩
  ·exact aR t y' az
theorem o8.tE {ex:List Nat}{G2:List (Nat × aj)}(h:o8 ex g (get G2) G2):Ea (λt=>ex.elem t) g (get G2):=by
 refine ⟨λt x J aE=>?_,λt x J aE=>?_,λt z q n m new J=>(h.spec t _ J).2 _ _ _ _ _ rfl⟩
 ·rcases (h.spec t x J).1 with ⟨_,h1,al⟩ | ⟨h1,_⟩
  ·exact ⟨h1,al⟩
  ·rw [h1] at aE; cases aE
 ·rcases (h.spec t x J).1 with ⟨h1,_⟩ | ⟨_,al⟩
  ·rw [h1] at aE; cases aE
  ·exact al
theorem W.eF {cz:Code}{G G1:List (Nat × aj)}{Φ:Exit->aZ->Prop}(ex:List Nat) (h:o8 ex (get G) (get G1) G1) (hw:W P N cz (get G1) Φ):W P N cz (get G) Φ:=by
 intro Q a w I Fs bU bY ef
 obtain ⟨I',cp,eG,cm⟩:=bU.tE h.tE
 exact hw eG bY λe g' cI w' he aL=>ef e g' cI w' he (ij.trans rfl hR.refl cm aL)
theorem aq.eF {G1:List (Nat × aj)}(ex:List Nat) (h:o8 ex g (get G1) G1) (hk:aq P N ops l (get G1) K):aq P N ops l g K:=by
 intro i hi
 obtain ⟨g',ay,eA⟩:=hk i hi
 exact ⟨g',.tE h.tE ay,eA⟩
theorem Take.pre {xs xs':List aj}:∀ {ps:List aj},(∀ x∈ps,dp x)->Take g xs xs' g'->Take g (ps++xs) (ps++xs') g'
 | [],_,h=>h
 | x::ps,aL,h=>.cons (aL x (by simp)) (Take.pre (ps:=ps) (λy az=>aL y (List.mem_cons_of_mem _ az)) h)
inductive iw:aZ->List aj->List aj->aZ->Prop
 | nil {g:aZ}:iw g [] [] g
 | iH {g:aZ}{xs:List aj} [aL:eU xs]:iw g xs xs g
 | f {g g':aZ}{x:aj}{xs xs':List aj} [aL:cV x] (t:iw g xs xs' g'):iw g (x::xs) (x::xs') g'
 | r {α:Type}{g g':aZ}{p:Place}{en:cD α}{L:List α}{xs xs':List aj}(aH:b7 g p=some (ak en L)) (t:iw (df g p .dead) xs xs' g'):iw g (.bl en.z p L.length::xs) (ak en L::xs') g'
 | l {g g1 g':aZ}{p:Place}{z n:Nat}{cs cs' xs xs':List aj}(aH:b7 g p=some (.own z n cs)) (ao:cs.length=n * z) (h1:iw (df g p .dead) cs cs' g1) (t:iw g1 xs xs' g'):iw g (.bl z p n::xs) (.own z n cs'::xs') g'
 | lR {α:Type}{g g1 g':aZ}{q:Place}{s m:Nat}{en:cD α}{L:List α}{new dq xs xs':List aj}(aM:g s=some (.bR en.z q L.length m new)) (aH:b7 g q=some (ak en L)) (bN:Nat.beq q.root s=false) (h1:iw (df (df g ⟨s,[]⟩ .dead) q .dead) new dq g1) (t:iw g1 xs xs' g') :
   iw g (.bl en.z ⟨s,[]⟩ (L.length+m)::xs) (.own en.z (L.length+m) (ch en L++dq)::xs') g'
 | yW {g g1 g':aZ}{cs cs' xs xs':List aj}(h1:iw g cs cs' g1) (t:iw g1 xs xs' g'):iw g (.agg cs::xs) (.agg cs'::xs') g'
 | m {g g':aZ}{p:Place}{q:Array MapEntry->Nat->Prop}{xs xs':List aj}(aH:b7 g p=some (.mp q)) (t:iw (df g p .dead) xs xs' g'):iw g (.hN p::xs) (.mp q::xs') g'
 | b {g g1 g':aZ}{p:Place}{cs cs' xs xs':List aj}(aH:b7 g p=some (.obj cs)) (h1:iw (df g p .dead) cs cs' g1) (t:iw g1 xs xs' g'):iw g (.ptr p 0::xs) (.obj cs'::xs') g'
theorem iw.take {xs xs':List aj}(h:iw g xs xs' g'):Take g xs xs' g':=by
 induction h with
 | m aH _ aR=>exact .mp aH (.bI (by simp)) aR
 | nil=>exact .bI (by simp)
 | @iH g xs aL=>exact .bI aL.bI
 | @f g g' x xs xs' aL _ aR=>exact .cons aL.bI aR
 | @r α g g' p en L xs xs' aH _ aR =>
  refine .bl aH (Nat.le_refl _) ?_ aR
  rw [wu]; exact .bI (oc en L)
 | @l g g1 g' p z n cs cs' xs xs' aH ao _ _ gB gq =>
  refine .bl aH (Nat.le_refl _) ?_ gq
  rw [List.take_of_length_le (by omega)]; exact gB
 | @lR α g g1 g' q s m en L new dq xs xs' aM aH bN _ _ gB gq=>exact .bR aM aH (Nat.ne_of_beq_eq_false bN) (.pre (oc en L) gB) gq
 | @yW g g1 g' cs cs' xs xs' _ _ gB gq=>exact .agg gB gq
 | @b g g1 g' p cs cs' xs xs' aH _ _ gB gq=>exact .obj aH gB gq
inductive gr:List aj->List aj->Prop
 | nil:gr [] []
 | gk {xs:List aj}:gr xs xs
 | f {x:aj}{xs ys:List aj}(t:gr xs ys):gr (x::xs) (x::ys)
 | o {z:Nat}{xs ys:List aj}(t:gr xs ys):gr (.aI::xs) (.own z 0 []::ys)
 | z {x y:aj}{xs ys:List aj} [aL:cV x] [hv:ln x y] (t:gr xs ys):gr (x::xs) (y::ys)
 | g {x y:aj}{xs ys:List aj}(h:jF x y) (t:gr xs ys):gr (x::xs) (y::ys)
theorem gr.len {xs ys:List aj}(h:gr xs ys):ys.length=xs.length:=by
 induction h with
 | nil=>rfl
 | gk=>rfl
 | f _ aR=>simp [aR]
 | o _ aR=>simp [aR]
 | z _ aR=>simp [aR]
 | g _ _ aR=>simp [aR]
theorem gr.get {xs ys:List aj}(h:gr xs ys):∀ (k:Nat) (x y:aj),xs[k]?=some x->ys[k]?=some y->jF x y:=by
 induction h with
 | nil=>intro k x y J; simp at J
 | gk=>intro k x y J az; rw [J] at az; cases az; exact .refl
 | @f x xs ys _ aR =>
  intro k a b bm aJ
  cases k with
  | zero=>simp at bm aJ; subst bm aJ; exact .refl
  | succ k=>exact aR k a b (by simpa using bm) (by simpa using aJ)
 | @o z xs ys _ aR =>
  intro k a b bm aJ
  cases k with
  | zero=>simp at bm aJ; subst bm aJ; exact .Hh
  | succ k=>exact aR k a b (by simpa using bm) (by simpa using aJ)
 | @z x y xs ys aL hv _ aR =>
  intro k a b bm aJ
  cases k with
  | zero=>simp at bm aJ; subst bm aJ; exact .q7 aL.bI (hv.v _)
  | succ k=>exact aR k a b (by simpa using bm) (by simpa using aJ)
 | @g x y xs ys h _ aR =>
  intro k a b bm aJ
  cases k with
  | zero=>simp at bm aJ; subst bm aJ; exact h
  | succ k=>exact aR k a b (by simpa using bm) (by simpa using aJ)
theorem gr.pre {xs ys:List aj}(h:gr xs ys):∀ ps:List aj,gr (ps++xs) (ps++ys)
 | []=>h
 | _::ps=>.f (gr.pre h ps)
theorem gr.own {z n:Nat}{xs ys:List aj}(h:gr xs ys):jF (.own z n xs) (.own z n ys):=.own h.len h.get
theorem gr.obj {xs ys:List aj}(h:gr xs ys):jF (.obj xs) (.obj ys):=.obj h.len h.get
theorem gr.agg {xs ys:List aj}(h:gr xs ys):jF (.agg xs) (.agg ys):=.agg h.len h.get
theorem jF.ha [aL:cV x] [hv:ln x y]:jF x y:=.q7 aL.bI (hv.v _)
theorem b9.B3 {o:Oper}{x:Operand}{y kl y':aj}{G2:List (Nat × aj)}(bh:o.op=.assign x) (aY:o.dst=some d) (J:Rd g x y) (aE:iw g [y] [kl] g1) (bJ:jF kl y') (ek:Trim false g1 (get G2) G2) (a':get G2 d=none) (bY:N.ok d=true):b9 P N g o (e' (get G2) d y') :=
 .assign bh aY J.bO aE.take bJ ek.keep a' bY
theorem b9.IT {o:Oper}{x:Operand}{en:cD α}{L M R:List α}{s m:Nat}{new dq:List aj}{G2:List (Nat × aj)}(bh:o.op=.assign x) (aY:o.dst=some d) (J:Rd g x (.bl en.z ⟨s,[]⟩ (L.length+m))) (aM:g s=some (.bR en.z q L.length m new)) (aH:b7 g q=some (ak en L)) (bN:Nat.beq q.root s=false)
  (h1:iw (df (df g ⟨s,[]⟩ .dead) q .dead) new dq g1) (bJ:gr dq (ch en M)) (hm:M.length=m) (ay:L++M=R) (ek:Trim false g1 (get G2) G2) (a':get G2 d=none) (bY:N.ok d=true):b9 P N g o (e' (get G2) d (ak en R)):=by
 subst hm ay
 have aE:=iw.lR (xs:=[]) (xs':=[]) aM aH bN h1 .nil
 rw [<- vV]
 exact .assign bh aY J.bO aE.take (bJ.pre _).own ek.keep a' bY
theorem b9.yv {o:Oper}{k0:Nat}{rJ cs' cs2:List aj}{y kl y':aj}{G2:List (Nat × aj)}(bh:o.op=.store t a b) (aY:o.dst=none) (bm:Rd g a (.ptr ⟨r,[]⟩ k0)) (aJ:Rd g b y) (aE:iw g [y] [kl] g1) (p7:jF kl y') (ab:su y'=some cs') (bJ:gG P t cs'.length=true)
  (aM:g1 r=some (.obj rJ)) (hk:Nat.ble (k0+cs'.length) rJ.length=true) (bd:Nat.blt 0 cs'.length=true) (he:fY rJ k0 cs'=cs2) [gP:eU rJ] (ay:(get G2 r).isSome=true) (ek:mT g1 (get G2) r cs2 G2):b9 P N g o (get G2):=by
 subst he
 refine .store bh aY bm.bO aJ.bO aE.take p7 ab bJ (p:=⟨r,[]⟩) (nd:=.obj rJ) (z:=0) (n:=0) (by simp [b7,aM,aj.at]) (.inr rfl) (Nat.le_of_ble_eq_true hk) (by simpa using bd) (λt x J=>?_) (λt x J y az=>?_) (λt z q n m new J=>?_) (by intro e; rw [e] at ay; cases ay)
 ·rcases ek.spec t x J with ⟨h1,al,_⟩ | ⟨h1,al,_⟩
  ·rw [rm h1]; exact al
  ·subst h1 al; simp [df,aM,aj.setAt,aj.fY]
 ·rcases ek.spec t x J with ⟨h1,al,aP⟩ | ⟨h1,al,aP⟩
  ·rw [al] at az; cases az; exact aP.wo
  ·subst h1
   rw [aM] at az
   cases az
   exact .bI (.obj gP.bI)
 ·rcases ek.spec t _ J with ⟨_,_,aP⟩ | ⟨_,al,_⟩
  ·exact aP.fR _ _ _ _ _ rfl
  ·cases al
theorem b9.kt {o:Oper}{k0 s m:Nat}{en:cD α}{L M R:List α}{new dq:List aj}{rJ cs2:List aj}{G2:List (Nat × aj)}(bh:o.op=.store t a b) (aY:o.dst=none) (bm:Rd g a (.ptr ⟨r,[]⟩ k0)) (aJ:Rd g b (.bl en.z ⟨s,[]⟩ (L.length+m))) (sS:g s=some (.bR en.z q L.length m new)) (aH:b7 g q=some (ak en L)) (bN:Nat.beq q.root s=false)
  (h1:iw (df (df g ⟨s,[]⟩ .dead) q .dead) new dq g1) (p7:gr dq (ch en M)) (hm:M.length=m) (bj:L++M=R) (bJ:gG P t 1=true)
  (aM:g1 r=some (.obj rJ)) (hk:Nat.ble (k0+1) rJ.length=true) (he:fY rJ k0 [ak en R]=cs2) [gP:eU rJ] (ay:(get G2 r).isSome=true) (ek:mT g1 (get G2) r cs2 G2):b9 P N g o (get G2):=by
 subst hm bj
 have aE:=iw.lR (xs:=[]) (xs':=[]) sS aH bN h1 .nil
 refine .yv (y':=ak en (L++M)) bh aY bm aJ aE ?_ rfl bJ aM hk rfl he ay ek
 rw [<- vV]; exact (p7.pre _).own
inductive ou (r:Nat) (cs:List aj) (k0:Nat):Nat->List aj->List aj->Prop
 | nil {i:Nat}:ou r cs k0 i [] []
 | b {i:Nat}{xs ys:List aj}(hi:Nat.beq i k0=true) (t:ou r cs k0 (i+1) xs ys):ou r cs k0 i (.ptr ⟨r,[]⟩ 0::xs) (.obj cs::ys)
 | n {i:Nat}{x:aj}{xs ys:List aj}(hi:Nat.beq i k0=false) [aL:cV x] (t:ou r cs k0 (i+1) xs ys):ou r cs k0 i (x::xs) (x::ys)
theorem ou.len {cs:List aj}{k0 i:Nat}{xs ys:List aj}(h:ou r cs k0 i xs ys):ys.length=xs.length:=by
 induction h with
 | nil=>rfl
 | b _ _ aR=>simp [aR]
 | n _ _ aR=>simp [aR]
theorem ou.TH {cs:List aj}{k0 i:Nat}{xs ys:List aj}(h:ou r cs k0 i xs ys) (hi:k0<i):xs=ys/\∀ x∈xs,dp x:=by
 induction h with
 | nil=>exact ⟨rfl,by simp⟩
 | @b i _ _ h _ _=>have:=Nat.eq_of_beq_eq_true h; omega
 | @n i x xs ys _ aL _ aR =>
  obtain ⟨h1,al⟩:=aR (by omega)
  exact ⟨by rw [h1],oP aL.bI al⟩
theorem ou.take {cs:List aj}{k0 i:Nat}{xs ys:List aj}(h:ou r cs k0 i xs ys) (aM:g r=some (.obj cs)) (aL:∀ x∈cs,dp x):i<=k0->k0<i+xs.length->Take g xs ys (df g ⟨r,[]⟩ .dead):=by
 induction h with
 | nil=>intro h1 al; simp at al; omega
 | @b i xs ys hi t _ =>
  intro h1 al
  have:=Nat.eq_of_beq_eq_true hi
  obtain ⟨e,mz⟩:=t.TH (by omega)
  subst e
  exact .obj (by simp [b7,aM,aj.at]) (.bI aL) (.bI mz)
 | @n i x xs ys hi J _ aR =>
  intro h1 al
  have:=Nat.ne_of_beq_eq_false hi
  simp only [List.length_cons] at al
  exact .cons J.bI (aR (by omega) (by omega))
theorem ou.N8 {cs:List aj}{k0 i:Nat}{xs ys:List aj}(h:ou r cs k0 i xs ys):i<=k0->k0<i+xs.length->xs[k0 - i]?=some (.ptr ⟨r,[]⟩ 0):=by
 induction h with
 | nil=>intro h1 al; simp at al; omega
 | @b i xs ys hi _ _=>intro _ _; have:=Nat.eq_of_beq_eq_true hi; subst this; simp
 | @n i x xs ys hi _ _ aR =>
  intro h1 al
  have:=Nat.ne_of_beq_eq_false hi
  simp only [List.length_cons] at al
  have aP:=aR (by omega) (by omega)
  have:k0 - i=(k0 - (i+1))+1:=by omega
  rw [this,List.getElem?_cons_succ]; exact aP
def x3 (n k0:Nat) (x:aj):List (Option aj):=(List.range n).map λi=>if i=k0 then some x else none
inductive wO (g:aZ) (d r:Nat) (n:Nat) (G4:List (Nat × aj)):List (Nat × aj)->Prop
 | nil:wO g d r n G4 []
 | c {s k:Nat}{l:List (Nat × aj)}(h:g s=some (.ptr ⟨r,[]⟩ k)) (hk:Nat.blt k n=true) (aY:Nat.beq s d=false) (b3:get G4 s=none) (t:wO g d r n G4 l):wO g d r n G4 ((s,.ptr ⟨r,[]⟩ k)::l)
theorem CI {A B:List (Nat × aj)}{t:Nat}:get (A++B) t=match get A t with | some x=>some x | none=>get B t:=by
 induction A with
 | nil=>rfl
 | cons p A aR =>
  obtain ⟨s,x⟩:=p
  show (if t=s then some x else get (A++B) t)=_
  by_cases h:t=s
  ·simp [get,h]
  ·simp only [get,if_neg h]; exact aR
theorem wO.spec {n:Nat}{G4 A:List (Nat × aj)}(h:wO g d r n G4 A):∀ t x,get A t=some x->get G4 t=none/\t≠d/\g t=some x/\∃ k,x=.ptr ⟨r,[]⟩ k/\k<n:=by
 induction h with
 | nil=>intro t x J; cases J
 | @c s k l h hk aY b3 _ aR =>
  intro t x J; simp only [get] at J
  split at J
  ·rename_i e; subst e; cases J; exact ⟨b3,Nat.ne_of_beq_eq_false aY,h,k,rfl,by simpa using hk⟩
  ·exact aR t x J
theorem h2.nM {o:Oper}{xs:List Operand}{iJ:Array TypeId}{f:FuncId}{ys args:List aj}{res:aj}{cs cs':List aj}{k0:Nat}{G2 A:List (Nat × aj)}(bh:o.op=.call { callee:=.value (.func f),args:=xs.toArray,argTypes:=iJ }) (aY:o.dst=some d) (J:Own.iP g xs=some ys)
  (aM:g r=some (.obj cs)) [gP:eU cs] (bm:ou r cs k0 0 ys args) (tZ:Nat.blt k0 ys.length=true) (ji:b_ P f args (x3 args.length k0 (.obj cs')) res) (bn:dI P f=true) [ay:cV res] [K9:eU cs']
  (ek:Trim false (df g ⟨r,[]⟩ .dead) (get ((r,.dead)::G2)) G2) (a':get G2 d=none) (Ac:Nat.beq r d=false) (zG:Trim false (get ((r,.obj cs')::G2)) (get ((r,.obj cs')::G2)) G2) (e9:wO g d r cs'.length ((r,.obj cs')::G2) A) (bY:N.ok d=true) :
  h2 P N g o d (get (A++(d,res)::(r,.obj cs')::G2)):=by
 have Wl:k0<ys.length:=by simpa using tZ
 have Ad:r≠d:=Nat.ne_of_beq_eq_false Ac
 have vg:args.length=ys.length:=bm.len
 have pn:(x3 args.length k0 (.obj cs'))[k0]?=some (some (.obj cs')):=by
  unfold x3
  rw [List.getElem?_map,List.getElem?_range (by omega)]
  simp
 have Sc:∀ (k:Nat) (x:aj),(x3 args.length k0 (.obj cs'))[k]?=some (some x)->x=.obj cs':=by
  intro k x h
  unfold x3 at h
  rw [List.getElem?_map] at h
  cases hk:(List.range args.length)[k]? with
  | none=>rw [hk] at h; cases h
  | some af =>
   rw [hk] at h
   simp only [Option.map_some,Option.some.injEq] at h
   split at h
   ·exact (Option.some.inj h).symm
   ·cases h
 have EP:get ((r,aj.dead)::G2) r=some .dead:=by simp [get]
 have vK:hS (df g ⟨r,[]⟩ .dead) (get ((r,.dead)::G2)):=by
  refine ⟨λt x h=>?_,λt x h=>?_,λt z q n m new h=>?_⟩
  all_goals
   simp only [get] at h
   split at h
  ·rename_i e; subst e; cases h; simp [df,aM,aj.setAt]
  ·obtain ⟨⟨y,h1,_,aP⟩,_⟩:=ek.spec t x h; rw [<- aP rfl]; exact h1
  ·cases h; exact .bI .dead
  ·exact (ek.spec t x h).2.1
  ·cases h
  ·exact (ek.spec t _ h).2.2 _ _ _ _ _ rfl
 have put:pD (get ((r,.dead)::G2)) [(⟨r,[]⟩,.obj cs')]=get ((r,.obj cs')::G2):=by
  funext t
  simp only [pD,df,get]
  by_cases h:t=r
  ·simp [h,aj.setAt]
  ·simp [h]
 have vL:hS (get ((r,.obj cs')::G2)) (get ((r,.obj cs')::G2)):=by
  refine ⟨λt x h=>h,λt x h=>?_,λt z q n m new h=>?_⟩
  all_goals
   simp only [get] at h
   split at h
  ·cases h; exact .bI (.obj K9.bI)
  ·exact (zG.spec t x h).2.1
  ·cases h
  ·exact (zG.spec t _ h).2.2 _ _ _ _ _ rfl
 refine wS.ok (first:=[]) (caps:=[]) (ys:=ys) (tk:=λ_=>true) (vw:=false) (outs:=x3 args.length k0 (.obj cs')) (g1:=df g ⟨r,[]⟩ .dead) (g2:=get ((r,.dead)::G2)) (g4:=get ((r,.obj cs')::G2)) (l:=[(⟨r,[]⟩,.obj cs')]) (ks:=λ_=>k0) (xs0:=ys) (xs1:=args) (args:=args) (res:=res) bh aY rfl (by simpa using J)
  ⟨bn,by simp,by simpa using vg,λk x h=>.inl (by simpa using h),bm.take aM gP.bI (Nat.zero_le _) (by omega),vK,λk x y _ az=>by simpa using az,ji,by simpa using ay.bI,λk x h=>by rw [Sc k x h]; simpa using dp.obj K9.bI,λaf p x aa=>?_,by simp,λi af hi aa _=>by simp at hi aa; omega,by rw [put]; exact vL⟩ ?_ bY ?_
 ·cases af with
  | succ af=>simp at aa
  | zero =>
   simp only [List.getElem?_cons_zero,Option.some.injEq,Prod.mk.injEq] at aa
   obtain ⟨rfl,rfl⟩:=aa
   refine ⟨pn,by simp [b7,EP,aj.at],.inr ⟨cs,?_,by simp [b7,aM,aj.at]⟩⟩
   have:=bm.N8 (Nat.zero_le _) (by omega)
   simpa using this
 ·simp only [get,if_neg (Ne.symm Ad)]; exact a'
 ·refine ⟨λt x h=>?_,λt x h=>?_⟩
  ·rw [tG] at h
   rw [CI]
   cases qR:get A t with
   | none=>exact h
   | some y =>
    obtain ⟨h1,al,_⟩:=e9.spec t y qR
    simp only [get,if_neg al] at h
    simp only [get] at h1
    rw [h1] at h; cases h
  ·rw [tG]
   rw [CI] at h
   cases qR:get A t with
   | none=>rw [qR] at h; exact .inl h
   | some y =>
    rw [qR] at h
    cases h
    obtain ⟨h1,al,aP,k,rfl,hk⟩:=e9.spec t x qR
    refine .inr ⟨?_,al,aP,r,k,cs',rfl,Ad,?_,hk⟩
    ·simp only [get,if_neg al]; exact h1
    ·simp only [get,if_neg Ad,if_true]
end
end Go.Own
namespace Go.Own
open Go
variable {α β:Type}
def Cv (k:IntKind):cD Int:=.one (λn=>.lit (.int k n)) λ_=>.lit
instance {k:IntKind}:Flat (Cv k):=⟨λ_=>rfl⟩
instance {k:IntKind}:hj (Cv k) (Cv k):=⟨rfl,λa=>(inferInstance:ea [.lit (.int k a)] [.lit (.int k a)])⟩
instance {k:IntKind}:lU (Cv k):=⟨λa=>(inferInstance:jT [.lit (.int k a)])⟩
instance {cs:List aj}{n:Nat}{x:aj} [h:eU cs] [J:cV x]:eU (cs.set n x):=⟨λy az=>by
 rcases List.mem_or_eq_of_mem_set az with aS | aS
 ·exact h.bI y aS
 ·rw [aS]; exact J.bI⟩
instance {x y:aj} [h:cV y]:cV (x.setAt [] y):=⟨by simpa [aj.setAt] using h.bI⟩
def s7 (m n:Int):Option Int:=if n=0 then none else some (IntKind.u64.wrap (m.tdiv n))
def s' (m n:Int):Option Int:=if n=0 then none else some (m.tmod n)
inductive jg:List aj->List aj->Prop
 | nil:jg [] []
 | f {x:aj}{xs ys:List aj}(t:jg xs ys):jg (x::xs) (x::ys)
 | o {z:Nat}{xs ys:List aj}(t:jg xs ys):jg (.aI::xs) (.own z 0 []::ys)
 | i {z:Nat}{xs ys:List aj}(t:jg xs ys):jg (.aI::xs) (.aF z 0 []::ys)
theorem jg.len {xs ys:List aj}(h:jg xs ys):ys.length=xs.length:=by
 induction h with
 | nil=>rfl
 | f _ aR=>simp [aR]
 | o _ aR=>simp [aR]
 | i _ aR=>simp [aR]
theorem jg.get {xs ys:List aj}(h:jg xs ys):∀ (k:Nat) (x y:aj),xs[k]?=some x->ys[k]?=some y->oz x y:=by
 induction h with
 | nil=>intro k x y J; simp at J
 | f _ aR =>
  intro k a b bm aJ
  cases k with
  | zero=>simp at bm aJ; subst bm aJ; exact .refl
  | succ k=>exact aR k a b (by simpa using bm) (by simpa using aJ)
 | o _ aR =>
  intro k a b bm aJ
  cases k with
  | zero=>simp at bm aJ; subst bm aJ; exact .lb
  | succ k=>exact aR k a b (by simpa using bm) (by simpa using aJ)
 | i _ aR =>
  intro k a b bm aJ
  cases k with
  | zero=>simp at bm aJ; subst bm aJ; exact .vS
  | succ k=>exact aR k a b (by simpa using bm) (by simpa using aJ)
theorem jg.obj {xs ys:List aj}(h:jg xs ys):oz (.obj xs) (.obj ys):=.obj h.len h.get
section
variable {P:Program}{N:dW}{ops:Array Oper}{g g' g1 g2:aZ}{K:aZ->Prop}{l:List Oper}{d r:Nat}{op:Op}{ty t t2:TypeId}{pos:String}{after:Array Edge}{iA:Option (Nat × Bool)}{a b c:Operand}{p q:Place}{x y:aj}{k:IntKind}{m n:Int}
variable {cc:List (List Nat)}{g0:aZ}{acc:Acc}{i:Nat}
def xW:List Nat->Bool
 | []=>true
 | x::l=>l.all (λy=>!Nat.beq x y)&&xW l
theorem Hf:∀ {l:List Place},xW (l.map Place.root)=true->l.Nodup
 | [],_=>List.nodup_nil
 | p::l,h=>by
  simp only [List.map_cons,xW,Bool.and_eq_true,List.all_eq_true] at h
  refine List.nodup_cons.2 ⟨λhm=>?_,Hf h.2⟩
  have:=h.1 p.root (List.mem_map.2 ⟨p,hm,rfl⟩)
  simp at this
theorem bC.iZ (dr:Nat) {G G2:List (Nat × aj)}{o:Oper}(he:b9 P N (et (get G) (λ_=>true) acc) o (get G2)) (a':o.guard=none) (hG:xW ((acc.filterMap mb).map Place.root)=true) (jb:rY G=true) (aa:Nat.beq ops.size (dr+l.length+1)=true)
  (bm:(List.range dr).all (λk=>(cc.getD dr []).contains k)=true) (aJ:(List.range ops.size).all (λk=>Nat.ble k dr||(cc.getD k []).contains dr)=true) (hk:bC P N ops cc (get G2) (dr+1) [] l K):bC P N ops cc (get G) i acc (o::l) K:=by
 intro ew af du n1 mw
 have:=zd mw aa
 subst this
 obtain ⟨h1,al⟩:=drop_cons mw
 obtain ⟨g',ay,eA⟩:=hk [] (af+1) .nil .nil al
 refine ⟨g',.I3 du n1 (Hf hG) (xY jb) h1 ?_ he bm ?_ ay,eA⟩
 ·unfold iX; rw [a']
 ·refine List.all_eq_true.2 λk hk=>?_
  have:=List.all_eq_true.1 aJ k hk
  simp only [Bool.or_eq_true,decide_eq_true_eq,Nat.ble_eq] at this ⊢
  exact this
theorem bC.bv (dr:Nat) {G G2:List (Nat × aj)}{o:Oper}{x:aj}(he:b9 P N (et (get G) (λ_=>true) acc) o (e' (get G2) d x)) (a':o.guard=none) (hG:xW ((acc.filterMap mb).map Place.root)=true) (jb:rY G=true) (aa:Nat.beq ops.size (dr+l.length+1)=true)
  (bm:(List.range dr).all (λk=>(cc.getD dr []).contains k)=true) (aJ:(List.range ops.size).all (λk=>Nat.ble k dr||(cc.getD k []).contains dr)=true) (hk:bC P N ops cc (get ((d,x)::G2)) (dr+1) [] l K):bC P N ops cc (get G) i acc (o::l) K :=
 .iZ dr (tG ▸ he) a' hG jb aa bm aJ hk
class uQ (s:Nat) (g:aZ):Prop where fR:∀ t,t≠s->∀ z q n m new,g t≠some (.bR z q n m new)
instance (priority:=low) {s:Nat}{g:aZ} [h:qy g]:uQ s g:=⟨λt _=>h.fR t⟩
instance {s:Nat}{g:aZ}{x:aj} [h:uQ s g]:uQ s (e' g s x):=⟨λt aE z q n m new e=>by
 unfold e' at e
 rw [if_neg aE] at e
 exact h.fR t aE _ _ _ _ _ e⟩
instance {s d:Nat}{g:aZ}{x:aj} [h:uQ s g] [J:ov x]:uQ s (e' g d x):=⟨λt aE z q n m new e=>by
 unfold e' at e
 split at e
 ·cases e; exact J.fR _ _ _ _ _ rfl
 ·exact h.fR t aE _ _ _ _ _ e⟩
class w1 (s:Nat) (acc:Acc):Prop where fR:∀ e∈acc,e.2.1≠s->∀ z q n m new,e.2.2≠some (.bR z q n m new)
instance {s:Nat}:w1 s []:=⟨by simp⟩
instance {s af d:Nat}{x:aj}{acc:Acc} [J:ov x] [h:w1 s acc]:w1 s ((af,d,some x)::acc):=⟨λe he aM z q n m new b6=>by
 rcases List.mem_cons.1 he with rfl | he
 ·exact J.fR z q n m new (Option.some.inj b6)
 ·exact h.fR e he aM z q n m new b6⟩
instance {s af:Nat}{x:Option aj}{acc:Acc} [h:w1 s acc]:w1 s ((af,s,x)::acc):=⟨λe he aM z q n m new b6=>by
 rcases List.mem_cons.1 he with rfl | he
 ·exact absurd rfl aM
 ·exact h.fR e he aM z q n m new b6⟩
instance {s:Nat}{G:List (Nat × aj)}{A:Nat->Bool}{acc:Acc} [a':qy (get G)] [h:w1 s acc]:uQ s (et (get G) A acc):=⟨λt aE z q n m new e=>by
 rcases te e with ⟨cX,he,h1,_,al⟩ | ⟨_,al⟩
 ·exact h.fR cX he (by rw [h1]; exact aE) _ _ _ _ _ al
 ·exact a'.fR _ _ _ _ _ _ al⟩
namespace O
theorem s7 {r:Int}(J:Rd g a (.lit (.int .u64 m))) (az:Rd g b (.lit (.int .u64 n))) (h:Own.s7 m n=some r):dJ P g (.binOp .quo t a b t2) ty (.lit (.int .u64 r)):=by
 unfold Own.s7 at h
 split at h
 ·cases h
 ·cases h; exact .fA (.quo J az (by assumption))
theorem s' {r:Int}(J:Rd g a (.lit (.int .u64 m))) (az:Rd g b (.lit (.int .u64 n))) (h:Own.s' m n=some r):dJ P g (.binOp .rem t a b t2) ty (.lit (.int .u64 r)):=by
 unfold Own.s' at h
 split at h
 ·cases h
 ·cases h; exact .fA (.rem J az (by assumption))
theorem JJ {L:List Int}(J:Rd g a (.aF o'.z L.length (ch o' L))) (aE:uY P t t2=true):dJ P g (.convert t t2 a) ty (ae (strOfNums L)):=by
 have h:=J.bO
 rw [Mk] at h
 exact .fA (.Cs h aE)
theorem uX {e h6:Nat}{parts:Array (Nat × Operand)}{ys cs:List aj}{z:Nat}(aE:fB P t e z=true) (J:iP g (parts.toList.map (·.2))=some ys) (ab:o_ ys=some cs) (bJ:ys.all (λy=>match lW y with | some c=>Nat.beq c.length z | none=>false)=true)
  (aH:parts.toList=(parts.toList.map (·.2)).mapIdx (λi x=>(i,x))) (aL:(parts.toList.map (·.2)).length=h6) (hzero:jm P e z=true) (aJ:Nat.ble (h6 * z) 16777216=true) (cP:Nat.ble h6 16777216=true):dJ P g (.buildSlice t h6 parts) ty (.own z h6 cs):=by
 subst aL
 exact .qi (.buildSlice aE aH J (λy az=>by
  have:=List.all_eq_true.1 bJ y az
  cases fu:lW y with
  | none=>rw [fu] at this; cases this
  | some c=>rw [fu] at this; exact ⟨c,rfl,Nat.eq_of_beq_eq_true this⟩) ab (Nat.le_of_ble_eq_true aJ) (Nat.le_of_ble_eq_true cP) (.inr (Ig hzero)))
theorem MI {z m:Nat}{cs:List aj}(bN:b7 g q=some (.own z m cs)) (ao:cs.length=m * z) (bn:cs.all lJ=true):Src g (.bl z q m) z m cs:=by
 have:=Src.bl (g:=g) (m:=m) bN (Nat.le_refl _)
 rw [List.take_of_length_le (by omega),zz (q:=λi=>_) bn] at this
 exact this
theorem Em {en:cD α}{L M r:List α}{e jJ m:Nat}{cs:List aj}(aM:Rd g a (.bl en.z p L.length)) (aH:b7 g p=some (ak en L)) (J:Rd g b (.bl en.z q m)) (bN:b7 g q=some (.own en.z m cs)) (ao:cs.length=m * en.z) (bn:cs.all lJ=true) (hm:M.length=m) (aE:ix P t e en.z jJ=true) (aJ:Nat.ble jJ 128=true) (h:eC L M=some r) [gP:qy g] :
  dJ P g (.call { callee:=.builtin .append,args:=#[a,b],argTypes:=#[t,t] }) ty (.bR en.z p L.length m cs):=by
 subst hm
 obtain ⟨h1,al,_⟩:=w8 h aJ
 exact .lA (.grow aM.bO (.inl ⟨_,aH⟩) (λt cN cY m' dq e=>gP.fR _ _ _ _ _ _ e) J.bO (MI bN ao bn) aE h1 al)
theorem IM {en:cD α}{L M M2 r:List α}{y:aj}{e jJ s:Nat}(aM:Rd g a (.bl en.z ⟨s,[]⟩ (L.length+M.length))) (sS:g s=some (.bR en.z q L.length M.length (ch en M))) (aH:b7 g q=some (ak en L)) (J:Rd g b y) (hm:qC g en y M2) (aE:ix P t e en.z jJ=true) (aJ:Nat.ble jJ 128=true) (h:eC (L++M) M2=some r) [gP:uQ s g] :
  dJ P g (.call { callee:=.builtin .append,args:=#[a,b],argTypes:=#[t,t] }) ty (.bR en.z ⟨s,[]⟩ (L.length+M.length) M2.length (ch en M2)):=by
 obtain ⟨h1,al,_⟩:=w8 h aJ
 rw [List.length_append] at h1 al
 refine .lA (.grow aM.bO (.inr ⟨rfl,q,L.length,M.length,ch en M,_,sS,rfl,aH⟩) (λt cN cY m' dq e=>?_) J.bO hm.src aE h1 al)
 by_cases Lk:t=s
 ·subst Lk
  rw [sS] at e
  simp only [Option.some.injEq,aj.bR.injEq] at e
  have bN:=e.2.1
  subst bN
  simp [b7,sS,aj.at] at aH
 ·exact gP.fR t Lk _ _ _ _ _ e
theorem LO {en:cD α}{z0:α}{r:List α}{e jJ:Nat}{ep:Value}(aE:fB P t e en.z=true) (J:Rd g a (.lit (.int k m))) (az:Rd g b (.lit (.int .i64 m))) (hzero:(P.info? e).bind (·.zero)=some ep) (h1:ep.cells.toList.all Value.oneCell'=true) (h3:(en.cells z0).length=ep.cells.size) (RG:∀ (k:Nat) (u:Value) (x:aj),ep.cells[k]?=some u->(en.cells z0)[k]?=some x->x=n' u\/(n' u=.aI/\∃ cN,x=.aF cN 0 [])) (h:qf m z0=some r) (kb:(P.info? e).map (·.bytes)=some jJ) (aJ:Nat.ble jJ 128=true) :
  dJ P g (.makeSlice t a b) ty (ak en r):=by
 unfold qf at h
 split at h
 ·rename_i hm
  have R3:lim=1099511627776:=rfl
  have kI:=Nat.le_of_ble_eq_true aJ
  obtain ⟨af,rfl⟩:=Int.eq_ofNat_of_zero_le hm.1
  cases h
  have aa:af<=1099511627776:=by omega
  have gv:ep.cells.size=en.z:=by rw [<- h3,en.len]
  have:=o2.makeSlice (P:=P) (ty:=ty) aE J.bO az.bO hzero (by rw [<- Array.all_toList]; exact h1) gv kb (by
   calc af * jJ<=1099511627776 * 128:=Nat.mul_le_mul aa kI
    _=140737488355328:=by decide) (by omega) h3 RG
  have dy:(List.replicate af (en.cells z0)).flatten=ch en (List.replicate af z0):=by simp [ch,List.flatMap_def]
  unfold ak
  rw [Int.toNat_natCast,List.length_replicate,<- dy]
  exact .qi this
 ·cases h
theorem mk {en:cD α}{z0:α}{r:List α}{e jJ:Nat}{ep:Value}(aE:fB P t e en.z=true) (J:Rd g a (.lit (.int k m))) (az:Rd g b (.lit (.int .i64 m))) (hzero:(P.info? e).bind (·.zero)=some ep) (h1:ep.cells.toList.all Value.oneCell'=true) (ab:ep.cells.toList.map n'=en.cells z0) (h:qf m z0=some r) (kb:(P.info? e).map (·.bytes)=some jJ) (aJ:Nat.ble jJ 128=true) :
  dJ P g (.makeSlice t a b) ty (ak en r):=by
 refine LO aE J az hzero h1 (by rw [<- ab,List.length_map]; simp) (λk u x hu J=>.inl ?_) h kb aJ
 rw [<- ab,List.getElem?_map] at J
 have:ep.cells.toList[k]?=some u:=by simpa using hu
 rw [this] at J
 exact (Option.some.inj J).symm
theorem TA {e:cD β}{r:List (List β)}{m:Int}{k:IntKind}{a b:Operand}{t ty:TypeId}{zh jJ:Nat}{ep:Value}(aE:fB P t zh (bb e).z=true) (J:Rd g a (.lit (.int k m))) (az:Rd g b (.lit (.int .i64 m))) (hzero:(P.info? zh).bind (·.zero)=some ep) (h1:ep.cells.toList.all Value.oneCell'=true) (ab:ep.cells.toList.map n'=[.aI]) (h:qf m ([]:List β)=some r) (kb:(P.info? zh).map (·.bytes)=some jJ) (aJ:Nat.ble jJ 128=true) :
  dJ P g (.makeSlice t a b) ty (ak (bb e) r):=by
 refine LO aE J az hzero h1 ?_ (λk u x hu J=>.inr ?_) h kb aJ
 ·have:=congrArg List.length ab
  rw [List.length_map] at this
  rw [(bb e).len]
  show 1=_
  simpa using this.symm
 ·have ao:=congrArg List.length ab
  rw [List.length_map] at ao
  have hk:k=0:=by
   have:=(Array.getElem?_eq_some_iff.1 hu).1
   simp at ao
   omega
  subst hk
  have fQ:ep.cells.toList[0]?=some u:=by simpa using hu
  have al:=congrArg (λl=>l[0]?) ab
  simp only [List.getElem?_map,fQ,Option.map_some] at al
  have al:=Option.some.inj al
  refine ⟨al,e.z,?_⟩
  have J:([ag e []]:List aj)[0]?=some x:=J
  have:x=ag e []:=(Option.some.inj J).symm
  rw [this]; rfl
end O
theorem Mi (en:cD α) {L:List α}{y y2:α}{o:Nat}{cs':List aj}(h:idx L m=some y) (he:fY (en.cells y) o cs'=en.cells y2) (hlen:o+cs'.length<=en.z):fY (ch en L) (m.toNat * en.z+o) cs'=ch en (L.set m.toNat y2):=by
 obtain ⟨bd,h1,al⟩:=qb h
 have bg:m.toNat<L.length:=(List.getElem?_eq_some_iff.1 al).1
 have az:L[m.toNat]=y:=(List.getElem?_eq_some_iff.1 al).2
 have dy:ch en L=ch en (L.take m.toNat)++(en.cells y++ch en (L.drop (m.toNat+1))):=by
  have:=congrArg (ch en) (List.take_append_drop m.toNat L).symm
  rw [wq,List.drop_eq_getElem_cons bg,az] at this
  rw [this]; simp [ch]
 have de:ch en (L.set m.toNat y2)=ch en (L.take m.toNat)++(en.cells y2++ch en (L.drop (m.toNat+1))):=by
  have:L.set m.toNat y2=L.take m.toNat++y2::L.drop (m.toNat+1):=by
   rw [List.set_eq_take_append_cons_drop,if_pos bg]
  rw [this,wq]; simp [ch]
 have ao:(ch en (L.take m.toNat)).length=m.toNat * en.z:=by rw [ob,List.length_take]; congr 1; omega
 rw [dy,de,<- he]
 unfold fY
 generalize ch en (L.take m.toNat)=A at *
 generalize ch en (L.drop (m.toNat+1))=B at *
 rw [<- ao]
 have C_:=en.len y
 rw [List.take_append,List.take_of_length_le (by omega),show A.length+o - A.length=o by omega,List.take_append_of_le_length (by omega)]
 rw [List.drop_append,List.drop_eq_nil_of_le (by omega),show A.length+o+cs'.length - A.length=o+cs'.length by omega,List.drop_append_of_le_length (by omega)]
 simp
theorem EW {en:cD α}{L:List α}{i:Int}{off:Nat}{y:α}(h:idx L i=some y) (bh:Nat.blt off en.z=true):i.toNat * en.z+off<(ch en L).length:=by
 obtain ⟨wj,j3,_⟩:=qb h
 have mA:off<en.z:=by simpa using bh
 rw [ob]
 have al:i.toNat+1<=L.length:=by omega
 calc i.toNat * en.z+off<i.toNat * en.z+en.z:=by omega
  _=(i.toNat+1) * en.z:=by rw [Nat.add_mul]; omega
  _<=L.length * en.z:=Nat.mul_le_mul_right _ al
theorem nJ {L:List α}{i:Int}{y y2:α}(h:idx L i=some y):idx (L.set i.toNat y2) i=some y2:=by
 obtain ⟨wj,j3,_⟩:=qb h
 have:i.toNat<L.length:=by omega
 simp [idx,wj,this]
inductive oq (g g2:aZ):aj->Prop
 | mk {α:Type}{en:cD α}{L It:List α}{r af off:Nat}{i:Int}{y y2:α}(h1:b7 g ⟨r,[af]⟩=some (ak en L)) (hi:idx L i=some y) (al:b7 g2 ⟨r,[af]⟩=some (ak en It)) (zU:idx It i=some y2) (bh:Nat.blt off en.z=true):oq g g2 (.ptr ⟨r,[af]⟩ (i.toNat * en.z+off))
theorem oq.L0 {x:aj}(h:oq g g2 x):gK g x:=by
 cases h with
 | mk h1 hi al zU bh=>exact ⟨_,h1,_,_,_,.inl rfl,EW hi bh⟩
theorem oq.Dw {x:aj}(h:oq g g2 x):gK g2 x:=by
 cases h with
 | mk h1 hi al zU bh=>exact ⟨_,al,_,_,_,.inl rfl,EW zU bh⟩
theorem oq.bk {x:aj}(h:oq g g2 x):e7 g2 x:=by
 have:=h.Dw
 cases h with
 | mk=>exact .ref rfl this
theorem oq.fR {x:aj}(h:oq g g2 x):∀ z p n m new,x≠.bR z p n m new:=by
 cases h with
 | mk=>simp
theorem oq.clear {x:aj}{k0 m0:Nat}(h:oq g g2 x) (aH:p.path≠[]):Clear p k0 m0 x:=by
 cases h with
 | mk =>
  intro q bN _ af ff e
  simp only [yq,Option.some.injEq] at bN
  subst bN
  cases C1:p.path with
  | nil=>exact absurd C1 aH
  | cons a b=>rw [C1] at e; simp at e
inductive kY (g g2:aZ) (r:Nat) (x2:aj):List (Nat × aj)->Prop
 | nil:kY g g2 r x2 []
 | n {s:Nat}{x:aj}{l:List (Nat × aj)}(eK:Nat.beq s r=false) (h:g s=some x) [aL:cV x] (t:kY g g2 r x2 l):kY g g2 r x2 ((s,x)::l)
 | p {s q k:Nat}{l:List (Nat × aj)}{cs nX:List aj}(eK:Nat.beq s r=false) (h:g s=some (.ptr ⟨q,[]⟩ k)) (h1:g q=some (.obj cs)) (hk:Nat.blt k cs.length=true) (al:g2 q=some (.obj nX)) (gO:Nat.blt k nX.length=true) (t:kY g g2 r x2 l):kY g g2 r x2 ((s,.ptr ⟨q,[]⟩ k)::l)
 | e {s:Nat}{x:aj}{c2:List aj}{l:List (Nat × aj)}(eK:Nat.beq s r=false) (h:g s=some x) (he:oq g g2 x) (ho:x2=.obj c2) (t:kY g g2 r x2 l):kY g g2 r x2 ((s,x)::l)
 | w {α:Type}{s q:Nat}{en:cD α}{L:List α}{l:List (Nat × aj)}(eK:Nat.beq s r=false) (h:g s=some (.bl en.z ⟨q,[]⟩ L.length)) (h1:g q=some (ak en L)) (al:g2 q=some (ak en L)) (t:kY g g2 r x2 l):kY g g2 r x2 ((s,.bl en.z ⟨q,[]⟩ L.length)::l)
 | b {l:List (Nat × aj)}{x:aj}(e:x=x2) [aL:cV x2] (t:kY g g2 r x2 l):kY g g2 r x2 ((r,x)::l)
theorem kY.spec {x2:aj}{l:List (Nat × aj)}(h:kY g g2 r x2 l):∀ t x,get l t=some x->(t≠r/\g t=some x/\(o5 g g2 x\/oq g g2 x/\∃ c2,x2=.obj c2))\/(t=r/\x=x2/\dp x):=by
 induction h with
 | nil=>intro t x J; cases J
 | @n s x l eK h aL _ aR =>
  intro t y az; simp only [get] at az
  split at az
  ·rename_i e; subst e; cases az; exact .inl ⟨Nat.ne_of_beq_eq_false eK,h,.inl (.n aL.bI)⟩
  ·exact aR t y az
 | @p s q k l cs nX eK h h1 hk al gO _ aR =>
  intro t y az; simp only [get] at az
  split at az
  ·rename_i e; subst e; cases az; exact .inl ⟨Nat.ne_of_beq_eq_false eK,h,.inl (.p h1 (by simpa using hk) al (by simpa using gO))⟩
  ·exact aR t y az
 | @e s x c2 l eK h he ho _ aR =>
  intro t y az; simp only [get] at az
  split at az
  ·rename_i e; subst e; cases az; exact .inl ⟨Nat.ne_of_beq_eq_false eK,h,.inr ⟨he,_,ho⟩⟩
  ·exact aR t y az
 | @w α s q en L l eK h h1 al _ aR =>
  intro t y az; simp only [get] at az
  split at az
  ·rename_i e; subst e; cases az; exact .inl ⟨Nat.ne_of_beq_eq_false eK,h,.inl (.r h1 (Nat.le_refl _) al (Nat.le_refl _))⟩
  ·exact aR t y az
 | @b l x e aL _ aR =>
  intro t y az; simp only [get] at az
  split at az
  ·rename_i cX; subst cX; cases az; subst e; exact .inr ⟨rfl,rfl,aL.bI⟩
  ·exact aR t y az
theorem o5.HA {x:aj}{k0 m0:Nat}(h:o5 g g2 x):jq (λr=>gK g r/\Clear p k0 m0 r/\gK g2 r) x:=by
 cases h with
 | n h=>exact .bI h
 | p h hk al gO =>
  refine .ref rfl ⟨s_ h hk,?_,s_ al gO⟩
  intro q bN _ af ff e
  simp only [yq,Option.some.injEq] at bN
  subst bN
  simp at e
 | r h hk al gO =>
  refine .ref rfl ⟨yp h hk,?_,yp al gO⟩
  intro q bN _ af ff e
  simp only [yq,Option.some.injEq] at bN
  subst bN
  simp at e
theorem b9.pI {ir:Oper}{en:cD α}{L:List α}{kA y2:α}{o:Nat}{cs':List aj}{x2:aj}{G2:List (Nat × aj)}(bh:ir.op=.store t a b) (aY:ir.dst=none) (bm:Rd g a (.ptr p (m.toNat * en.z+o))) (aJ:Rd g b y) (aH:b7 g p=some (ak en L)) (h:idx L m=some kA) (bJ:gG P t cs'.length=true)
  (ab:su y=some cs') (he:fY (en.cells kA) o cs'=en.cells y2) (hlen:Nat.ble (o+cs'.length) en.z=true) (bd:Nat.blt 0 cs'.length=true) (ho:df g p (ak en (L.set m.toNat y2)) p.root=some x2) (ay:(get G2 p.root).isSome=true) [aL:cV y] {y0:aj}(s0:g p.root=some y0) [gP:cV y0] (ek:kY g (get G2) p.root x2 G2):b9 P N g ir (get G2):=by
 have zY:=Nat.le_of_ble_eq_true hlen
 have k_:=Mi en h he zY
 have F2:(L.set m.toNat y2).length=L.length:=List.length_set
 refine .store bh aY bm.bO aJ.bO (.bI (by simpa using aL.bI)) .refl ab bJ (p:=p) (nd:=ak en L) (z:=en.z) (n:=L.length) (cs:=ch en L) aH (.inl rfl) ?_ (by simpa using bd) (λt x J=>?_) (λt x J y az=>?_) (λt z q n m new J=>?_) (by intro e; rw [e] at ay; cases ay)
 ·obtain ⟨wj,j3,_⟩:=qb h
  rw [ob]
  have al:m.toNat+1<=L.length:=by omega
  calc m.toNat * en.z+o+cs'.length<=m.toNat * en.z+en.z:=by omega
   _=(m.toNat+1) * en.z:=by rw [Nat.add_mul]; omega
   _<=L.length * en.z:=Nat.mul_le_mul_right _ al
 ·have gD:(ak en L).fY (m.toNat * en.z+o) cs'=ak en (L.set m.toNat y2):=by
   show aj.own en.z L.length (fY (ch en L) (m.toNat * en.z+o) cs')=_
   unfold ak
   rw [k_,F2]
  rw [gD]
  rcases ek.spec t x J with ⟨h1,al,_⟩ | ⟨h1,al,_⟩
  ·rw [rm h1]; exact al
  ·subst h1 al; exact ho
 ·rcases ek.spec t x J with ⟨h1,al,aP⟩ | ⟨h1,al,aP⟩
  ·rw [al] at az; cases az
   rcases aP with aP | ⟨aP,c2,rfl⟩
   ·exact aP.HA
   ·refine jq.ref (by cases aP; rfl) ⟨aP.L0,aP.clear ?_,aP.Dw⟩
    intro e
    obtain ⟨hz,pp⟩:=p
    simp only at e
    subst e
    simp only [df,if_true,s0,Option.map_some,aj.setAt,Option.some.injEq] at ho
    cases ho
  ·subst h1; rw [s0] at az; cases az; exact .bI gP.bI
 ·rcases ek.spec t _ J with ⟨_,_,aP | ⟨aP,_⟩⟩ | ⟨_,_,aP⟩
  ·exact aP.fR _ _ _ _ _ rfl
  ·exact aP.fR _ _ _ _ _ rfl
  ·cases aP
end
end Go.Own
namespace Go.Own
open Go
theorem Oh (a b:ByteArray):(a == b)=decide (a=b):=by
 obtain ⟨a⟩:=a
 obtain ⟨b⟩:=b
 have:(({ data:=a }:ByteArray) == { data:=b })=(a == b):=rfl
 rw [this,Bool.eq_iff_iff]
 simp
inductive pP where
 | b | s | i (k:IntKind)
 deriving DecidableEq
def mN:Value->Option pP
 | .bool _=>some .b
 | .string _=>some .s
 | .int k _=>some (.i k)
 | _=>none
def zg (P:Program) (rc:TypeId->List pP->Bool):List Field->Nat->List pP->Bool
 | [],_,fG=>fG.isEmpty
 | f :: fs, o, fG => f.name != "_" && f.offset == o && (match P.info? f.type with
   | some i=>i.size<=fG.length&&rc f.type (fG.take i.size)&&zg P rc fs (o+i.size) (fG.drop i.size)
   | none=>false)
def sB (P:Program):Nat->TypeId->List pP->Bool
 | 0,_,_=>false
 | d+1,t,fG=>match P.underlying t with
  | some .bool=>fG == [.b]&&hB P t
  | some (.int k)=>fG == [.i k]&&hB P t
  | some .string=>fG == [.s]&&hB P t
  | some (.struct fs)=>iY P t fG.length&&!P.stoodInHeld t&&zg P (sB P d) fs.toList 0 fG
  | _=>false
def JS:Value->Value->Bool
 | .bool a,.bool b=>a == b
 | .int _ a,.int _ b=>decide (a=b)
 | .string a,.string b=>decide (a=b)
 | _,_=>false
def lZ:List Value->List Value->Bool
 | a::ec,b::dg=>JS a b&&lZ ec dg
 | _,_=>true
theorem JT:∀ (ec dg cs jL:List Value),ec.length=dg.length->lZ (ec++cs) (dg++jL)=(lZ ec dg&&lZ cs jL)
 | [],[],cs,jL,_=>by simp [lZ]
 | [],_::_,_,_,h=>by simp at h
 | _::_,[],_,_,h=>by simp at h
 | a::ec,b::dg,cs,jL,h=>by
  simp only [List.cons_append,lZ,JT ec dg cs jL (by simpa using h),Bool.and_assoc]
def pack (P:Program) (t:TypeId) (vs:List Value):Value :=
 match P.underlying t,vs with
 | some (.struct _),_=>.agg vs.toArray
 | _,v::_=>v
 | _,[]=>.agg #[]
theorem Mr {P:Program}{w:World}{t:TypeId}{d:Nat}{fG:List pP}(h:sB P (d+1) t fG=true) {cs:List Value}{o:Nat}{vs:List Value}(hv:(cs.drop o).take fG.length=vs) (ao:vs.length=fG.length) :
  (part t cs.toArray o).run P w=.ok (pack P t vs) w:=by
 unfold sB at h
 split at h
 case h_4 fs hu =>
  simp only [Bool.and_eq_true] at h
  obtain ⟨h1,al⟩:=B4 (w:=w) h.1.1
  simp [part,h1,al,pack,hu,<- hv,List.take_drop]
 case h_5=>cases h
 all_goals
  rename_i hu
  simp only [Bool.and_eq_true,beq_iff_eq] at h
  obtain ⟨rfl,ab⟩:=h
  obtain ⟨h1,al⟩:=ED (w:=w) ab
  obtain ⟨v,rfl⟩:∃ v,vs=[v]:=by
   rcases vs with _ | ⟨v,_ | _⟩ <;> simp at ao
   exact ⟨v,rfl⟩
  have:cs[o]?=some v:=by
   have:=congrArg List.head? hv
   simpa [List.head?_take] using this
  simp [part,h1,pack,hu,this]
theorem HC {P:Program}(w:World):∀ (d:Nat) (t:TypeId) (fG:List pP),sB P d t fG=true->∀ (D:Nat),d<=D->∀ (ec dg:List Value),ec.map mN=fG.map some->dg.map mN=fG.map some ->
  (Op.equalIn D t (pack P t ec) (pack P t dg)).run P w=.ok (lZ ec dg) w
 | 0,_,_,h,_,_,_,_,_,_=>by simp [sB] at h
 | d+1,t,fG,h,D,sH,ec,dg,bm,aJ=>by
  obtain ⟨D,rfl⟩:∃ E,D=E+1:=⟨D - 1,by omega⟩
  have bd:=h
  unfold sB at h
  split at h
  case h_5=>cases h
  case h_4 fs hu =>
   simp only [Bool.and_eq_true,Bool.not_eq_true'] at h
   obtain ⟨⟨h1,al⟩,aP⟩:=h
   have key:∀ (fs:List Field) (o:Nat) (fG:List pP) (mU mV:List Value),zg P (sB P d) fs o fG=true->ec.drop o=mU->dg.drop o=mV->mU.map mN=fG.map some->mV.map mN=fG.map some ->
     (forIn (m:=Sem) (β:=Option Bool × Unit) fs (none,()) λf _ =>
      if f.name = "_" then pure (.yield (none, ()))
      else do
       let x <- part f.type ec.toArray f.offset
       let y <- part f.type dg.toArray f.offset
       let c <- Op.equalIn D f.type x y
       if c=false then pure (.done (some false,())) else pure (.yield (none,()))).run P w=.ok (if lZ mU mV then (none,()) else (some false,())) w:=by
    intro fs
    induction fs with
    | nil =>
     intro o fG mU mV a' _ _ bm aJ
     have aM:fG=[]:=by simpa [zg] using a'
     subst aM
     have h1:mU=[]:=by simpa using bm
     have al:mV=[]:=by simpa using aJ
     subst h1 al
     simp [lZ]
    | cons f fs aR =>
     intro o fG mU mV a' KK KL bm aJ
     unfold zg at a'
     cases hi:P.info? f.type with
     | none=>simp [hi] at a'
     | some i =>
      simp only [hi,Bool.and_eq_true,bne_iff_ne,beq_iff_eq,decide_eq_true_eq] at a'
      obtain ⟨⟨aL,rfl⟩,⟨hle,he⟩,RS⟩:=a'
      obtain ⟨e,rfl⟩:∃ e,d=e+1:=by
       cases d with
       | zero=>simp [sB] at he
       | succ e=>exact ⟨e,rfl⟩
      have vO:mU.length=fG.length:=by simpa using congrArg List.length bm
      have WH:mV.length=fG.length:=by simpa using congrArg List.length aJ
      have UT:(mU.take i.size).map mN=(fG.take i.size).map some:=by rw [List.map_take,List.map_take,bm]
      have UU:(mV.take i.size).map mN=(fG.take i.size).map some:=by rw [List.map_take,List.map_take,aJ]
      have PD:(mU.drop i.size).map mN=(fG.drop i.size).map some:=by rw [List.map_drop,List.map_drop,bm]
      have PE:(mV.drop i.size).map mN=(fG.drop i.size).map some:=by rw [List.map_drop,List.map_drop,aJ]
      have lt:(fG.take i.size).length=i.size:=by simp; omega
      have lA:=Mr (w:=w) he (cs:=ec) (o:=f.offset) (vs:=mU.take i.size) (by rw [KK,lt]) (by simp; omega)
      have L7:=Mr (w:=w) he (cs:=dg) (o:=f.offset) (vs:=mV.take i.size) (by rw [KL,lt]) (by simp; omega)
      have EV:=HC w (e+1) f.type _ he D (by omega) _ _ UT UU
      have aR:=aR (f.offset+i.size) (fG.drop i.size) (mU.drop i.size) (mV.drop i.size) RS (by rw [<- KK,List.drop_drop]) (by rw [<- KL,List.drop_drop]) PD PE
      have sp:lZ mU mV=(lZ (mU.take i.size) (mV.take i.size)&&lZ (mU.drop i.size) (mV.drop i.size)):=by
       have:=JT (mU.take i.size) (mV.take i.size) (mU.drop i.size) (mV.drop i.size) (by simp; omega)
       rwa [List.take_append_drop,List.take_append_drop] at this
      rw [List.forIn_cons]
      cases ab:lZ (mU.take i.size) (mV.take i.size) with
      | false=>simp [aL,lA,L7,EV,ab,sp]
      | true =>
       simp only [ab] at EV
       simp [aL,lA,L7,EV,ab,sp]
       simpa using aR
   have hk:=key fs.toList 0 fG ec dg aP rfl rfl bm aJ
   unfold Op.equalIn
   simp [pack,hu,run_underlying hu,al]
   rw [<- Array.forIn_toList,hk]
   cases lZ ec dg <;> simp
  all_goals
   rename_i hu
   simp only [Bool.and_eq_true,beq_iff_eq] at h
   obtain ⟨rfl,ab⟩:=h
   obtain ⟨a,rfl⟩:∃ v,ec=[v]:=by
    rcases ec with _ | ⟨v,_ | _⟩ <;> simp at bm
    exact ⟨v,rfl⟩
   obtain ⟨b,rfl⟩:∃ v,dg=[v]:=by
    rcases dg with _ | ⟨v,_ | _⟩ <;> simp at aJ
    exact ⟨v,rfl⟩
   cases a <;> simp [mN] at bm <;> cases b <;> simp [mN] at aJ
   simp [Op.equalIn,pack,hu,run_underlying hu,lZ,JS,bm,aJ,Oh] <;> rfl
end Go.Own
namespace Go.Own
open Go
def sA (P:Program) (t:TypeId) (fG:List pP):Bool :=
 sB P 100 t fG&&(match P.underlying t with | some (.struct _)=>true | _=>false)&&!P.eqGuardType P.depth t
section
variable {P:Program}{g:aZ}{t t2:TypeId}{ty:TypeId}{a b:Operand}
theorem Ul {ec dg:List Value}{fG:List pP}(bm:ec.map mN=fG.map some) (aJ:dg.map mN=fG.map some) (aE:sA P t fG=true) (w:World) :
  (do eqGuard .eql t a b (.agg ec.toArray) (.agg dg.toArray); binOp .eql t (.agg ec.toArray) (.agg dg.toArray):Sem Value).run P w=.ok (.bool (lZ ec dg)) w:=by
 simp only [sA,Bool.and_eq_true,Bool.not_eq_true'] at aE
 obtain ⟨⟨h1,al⟩,aP⟩:=aE
 have h:=HC w 100 t fG h1 Op.maxDepth (by decide) ec dg bm aJ
 split at al
 ·rename_i fs hu
  simp only [pack,hu] at h
  simp [eqGuard,binOp,aP,Op.equal,h]
 ·cases al
theorem Un {ec dg:List Value}{fG:List pP}(bm:ec.map mN=fG.map some) (aJ:dg.map mN=fG.map some) (aE:sA P t fG=true) (w:World) :
  (do eqGuard .neq t a b (.agg ec.toArray) (.agg dg.toArray); binOp .neq t (.agg ec.toArray) (.agg dg.toArray):Sem Value).run P w=.ok (.bool (!lZ ec dg)) w:=by
 simp only [sA,Bool.and_eq_true,Bool.not_eq_true'] at aE
 obtain ⟨⟨h1,al⟩,aP⟩:=aE
 have h:=HC w 100 t fG h1 Op.maxDepth (by decide) ec dg bm aJ
 split at al
 ·rename_i fs hu
  simp only [pack,hu] at h
  simp [eqGuard,binOp,aP,Op.equal,h]
 ·cases al
namespace O
theorem JU {va vb:List Value}{fG:List pP}(J:Rd g a (.agg (va.map .lit))) (az:Rd g b (.agg (vb.map .lit))) (bm:va.map mN=fG.map some) (aJ:vb.map mN=fG.map some) (aE:sA P t fG=true) :
  dJ P g (.binOp .eql t a b t2) ty (a1 (lZ va vb)):=.fA (.yZ J.bO az.bO rfl λw=>Ul bm aJ aE w)
theorem LR {va vb:List Value}{fG:List pP}(J:Rd g a (.agg (va.map .lit))) (az:Rd g b (.agg (vb.map .lit))) (bm:va.map mN=fG.map some) (aJ:vb.map mN=fG.map some) (aE:sA P t fG=true) :
  dJ P g (.binOp .neq t a b t2) ty (a1 (!lZ va vb)):=.fA (.yZ J.bO az.bO rfl λw=>Un bm aJ aE w)
end O
end
end Go.Own
namespace Go.Own
open Go
section
variable {P:Program}{N:dW}{g g2:aZ}{d r k0:Nat}{α:Type}
theorem View.oS {p:Place}{cs cs':List aj}(aH:b7 g p=some (.obj cs)) (hk:Nat.blt 0 cs.length=true) [h:ea cs cs']:View g (.ptr p 0) (.bo cs') :=
 .ptr aH (z:=0) (n:=0) (.inr rfl) (by simpa using hk) (by simpa using h.l) λk x y J az=>h.v g k x y (by simpa using J) az
theorem e7.el {en:cD α}{L:List α}{af off:Nat}{i:Int}{y:α}(al:b7 g2 ⟨r,[af]⟩=some (ak en L)) (hi:idx L i=some y) (bh:Nat.blt off en.z=true):e7 g2 (.ptr ⟨r,[af]⟩ (i.toNat * en.z+off)) :=
 (oq.mk (g:=g2) al hi al hi bh).bk
theorem j2 {p:Place}{k:Nat}:∀ z q n m new,aj.ptr p k≠.bR z q n m new:=by simp
inductive wN (g:aZ) (d r k0:Nat) (G4:List (Nat × aj)):List (Nat × aj)->Prop
 | nil:wN g d r k0 G4 []
 | c {α:Type}{en:cD α}{L:List α}{s off:Nat}{i:Int}{y:α}{l:List (Nat × aj)}(h:g s=some (.ptr ⟨r,[k0]⟩ (i.toNat * en.z+off))) (aH:b7 (get G4) ⟨r,[k0]⟩=some (ak en L)) (hi:idx L i=some y) (bh:Nat.blt off en.z=true) (aY:Nat.beq s d=false) (b3:get G4 s=none) (t:wN g d r k0 G4 l):wN g d r k0 G4 ((s,.ptr ⟨r,[k0]⟩ (i.toNat * en.z+off))::l)
theorem wN.spec {G4 l:List (Nat × aj)}(h:wN g d r k0 G4 l):∀ t x,get l t=some x->get G4 t=none/\t≠d/\g t=some x/\∃ m z n cs,x=.ptr ⟨r,[k0]⟩ m/\b7 (get G4) ⟨r,[k0]⟩=some (.own z n cs)/\m<cs.length:=by
 induction h with
 | nil=>intro t x J; cases J
 | @c α en L s off i y l h aH hi bh aY b3 _ aR =>
  intro t x J; simp only [get] at J
  split at J
  ·rename_i e; subst e; cases J; exact ⟨b3,Nat.ne_of_beq_eq_false aY,h,_,_,_,_,rfl,aH,EW hi bh⟩
  ·exact aR t x J
theorem kY.keep {g':aZ}{x2:aj}{G2:List (Nat × aj)}(ek:kY g (get G2) r x2 G2) (h1:∀ t,t≠r->g' t=g t) (al:g' r=some x2):hS g' (get G2):=by
 refine ⟨λt x J=>?_,λt x J=>?_,λt z q n m new J=>?_⟩
 ·rcases ek.spec t x J with ⟨a,b,_⟩ | ⟨rfl,rfl,_⟩
  ·rw [h1 t a]; exact b
  ·exact al
 ·rcases ek.spec t x J with ⟨_,_,aP | ⟨aP,_⟩⟩ | ⟨_,_,aP⟩
  ·exact aP.bk
  ·exact aP.bk
  ·exact .bI aP
 ·rcases ek.spec t _ J with ⟨_,_,aP | ⟨aP,_⟩⟩ | ⟨_,_,aP⟩
  ·exact aP.fR _ _ _ _ _ rfl
  ·exact aP.fR _ _ _ _ _ rfl
  ·cases aP
theorem MC {cs:List aj}{y x:aj}(h:g r=some (.obj cs)) (hk:cs[k0]?=some x):df g ⟨r,[k0]⟩ y r=some (.obj (cs.set k0 y)):=by
 simp [df,h,aj.setAt,aj.kids,hk,aj.uF]
theorem b9.fJ {o:Oper}{y:aj}{cs cs5:List aj}{G1 G4:Value->List (Nat × aj)}{c4:Value->List aj}{G5 A:List (Nat × aj)}(aY:o.dst=some d) (bY:N.ok d=true) (ay:g r=some (.obj cs)) (az:cs[k0]?=some y) [vB:cV y]
  (h1:∀ v,kY g (get (G1 v)) r (.obj (cs.set k0 (.lit v))) (G1 v)) (ab:∀ v,h2 P N (get (G1 v)) o d (get (G4 v))) (Kl:∀ v,get (G4 v) r=some (.obj (c4 v))) (Kk:∀ v,(c4 v)[k0]?=some (.lit v)) (Qp:∀ v,(c4 v).set k0 y=cs5)
  (dF:∀ v,kY (get (G4 v)) (get G5) r (.obj cs5) G5) (Qt:b7 (get G5) ⟨r,[k0]⟩=some y) (e9:wN g d r k0 G5 A):b9 P N g o (get (A++G5)):=by
 refine .call aY bY (h2.P9 ay az vB.bI λv hv=>⟨get (G1 v),get (G4 v),get G5,?_,ab v,?_,?_,Qt,?_⟩)
 ·exact (h1 v).keep (λt aE=>rm aE) (MC ay az)
 ·have:=Kl v
  simp only [b7,this,aj.at,aj.kids,Kk v]
 ·refine (dF v).keep (λt aE=>rm aE) ?_
  rw [MC (Kl v) (Kk v),Qp v]
 ·refine ⟨λt x h=>?_,λt x h=>?_⟩
  ·rw [CI]
   cases qR:get A t with
   | none=>exact h
   | some z =>
    obtain ⟨j3,_⟩:=e9.spec t z qR
    rw [j3] at h; cases h
  ·rw [CI] at h
   cases qR:get A t with
   | none=>rw [qR] at h; exact .inl h
   | some z =>
    rw [qR] at h
    cases h
    exact .inr (e9.spec t x qR)
end
end Go.Own
namespace Go.Own
open Go
section
variable {P:Program}{N:dW}{ops:Array Oper}{g g1 mr:aZ}{K:aZ->Prop}{l:List Oper}{d r:Nat}{t:TypeId}{a b:Operand}{x y:aj}
variable {cc:List (List Nat)}{acc:Acc}{i:Nat}
theorem jA {a b:Nat}(h:Nat.blt a b=true):a<b:=by simpa using h
def Dq:Option Nat->Nat->Bool
 | none,_=>true
 | some a,d=>!Nat.beq a d
theorem LQ {o:Option Nat}{d:Nat}(h:Dq o d=true):o≠some d:=by
 rintro rfl
 simp [Dq] at h
inductive w5 (P:Program) (N:dW) (ops:Array Oper) (cc:List (List Nat)) (rs:Place->Prop) (mr g1:aZ) (o:Oper) (U:Acc):Acc->Prop
 | nil:w5 P N ops cc rs mr g1 o U []
 | c {k d:Nat}{x:aj}{ir:Oper}{V:Acc}(cm:yV rs mr g1 o x) (h1:g1 d=none) (eK:Dq o.dst d=true) (bh:ops[k]?=some ir) (CY:ir.dst=some d) (bY:N.ok d=true) (hw:iX (et g1 (λm=>(cc.getD k []).contains m) U) ops ir true)
   (aM:dJ P (et g1 (λm=>(cc.getD k []).contains m) U) ir.op ir.type x) (t:w5 P N ops cc rs mr g1 o U V):w5 P N ops cc rs mr g1 o U ((k,d,some x)::V)
theorem w5.spec {o:Oper}{U V:Acc}{rs:Place->Prop}(h:w5 P N ops cc rs mr g1 o U V):∀ e∈V,(∃ x,e.2.2=some x/\yV rs mr g1 o x)/\(g1 e.2.1=none/\o.dst≠some e.2.1)/\∃ ir,ops[e.1]?=some ir/\ir.dst=some e.2.1/\N.ok e.2.1=true/\o6 P (et g1 (λm=>(cc.getD e.1 []).contains m) U) ops ir e.2.2:=by
 induction h with
 | nil=>intro e he; cases he
 | c cm h1 eK bh CY bY hw aM _ aR =>
  intro e he
  rcases List.mem_cons.1 he with rfl | he
  ·exact ⟨⟨_,rfl,cm⟩,⟨h1,LQ eK⟩,_,bh,CY,bY,.inl ⟨hw,.inl aM⟩⟩
  ·exact aR e he
theorem bC.dE (dr:Nat) {G G2:List (Nat × aj)}{U:Acc}{o:Oper}{rs:List Nat}(he:o1 P N (rj rs) (et (get G) (λm=>(cc.getD dr []).contains m) acc) o (get G2)) (lN:rs.all (λr=>(get G r).isSome)=true) (a':o.guard=none) (hG:xW ((acc.filterMap mb).map Place.root)=true) (jb:rY G=true) (aa:Nat.beq ops.size (dr+l.length+1)=true)
  (gN:acc.filter (λe=>!(cc.getD dr []).contains e.1)=U) (q3:w5 P N ops cc (rj rs) (et (get G) (λm=>(cc.getD dr []).contains m) acc) (get G2) o U U)
  (aJ:(List.range ops.size).all (λk=>Nat.ble k dr||(cc.getD k []).contains dr)=true) (hk:bC P N ops cc (get G2) (dr+1) U l K):bC P N ops cc (get G) i acc (o::l) K:=by
 intro ew af du n1 mw
 have:=zd mw aa
 subst this
 obtain ⟨h1,al⟩:=drop_cons mw
 have my:∀ e∈U,e∈acc:=λe he=>by rw [<- gN] at he; exact (List.mem_filter.1 he).1
 have Fi:mS P N ops cc (get G2) (af+1) U:=⟨λe he=>by have:=(n1.le du).2 e (my e he); omega,λe he=>(q3.spec e he).2.1.1,by rw [<- gN]; exact (List.filter_sublist.map _).nodup (n1.nodup du),λe he cX h' h=>n1.uniq du (my e he) (my cX h') h,λe he=>(q3.spec e he).2.2⟩
 obtain ⟨g',ay,eA⟩:=hk U (af+1) Fi .nil al
 refine ⟨g',.w_ n1 (Hf hG) (xY jb) h1 ?_ he (λr ay e=>by have:=List.all_eq_true.1 lN r.root ay; rw [e] at this; cases this) gN.symm (λe h=>(q3.spec e h).1) (λe h=>(q3.spec e h).2.1) (λe h=>(q3.spec e h).2.2) ?_ ay,eA⟩
 ·unfold iX; rw [a']
 ·refine List.all_eq_true.2 λk hk=>?_
  have:=List.all_eq_true.1 aJ k hk
  simp only [Bool.or_eq_true,decide_eq_true_eq,Nat.ble_eq] at this ⊢
  exact this
theorem o1.box {o:Oper}{r:Nat}{x:aj}{G1 G2:List (Nat × aj)}(he:b9 P N (get G1) o (get G2)) (ay:g r=some x) [J:cV x] (hk:Trim false g (get G1) G1) (bd:get G1 r=none) (h1:get G2 r=none) (aY:Dq o.dst r=true):o1 P N (rj [r]) g o (get ((r,x)::G2)):=by
 rw [<- tG]
 exact he.mY.frame ay J.bI hk.keep bd h1 (LQ aY)
theorem b9.dx {o:Oper}{k0:Nat}{cs cs' cs2:List aj}{G2:List (Nat × aj)}(bh:o.op=.store t a b) (aY:o.dst=none) (aM:g r=some (.obj cs)) (bm:Rd g a (.ptr ⟨r,[]⟩ k0)) (aJ:Rd g b y) [aL:cV y] (ab:su y=some cs') (bJ:gG P t cs'.length=true)
  (hk:Nat.ble (k0+cs'.length) cs.length=true) (bd:Nat.blt 0 cs'.length=true) (he:fY cs k0 cs'=cs2) [gP:eU cs] (ay:(get G2 r).isSome=true) (ek:mT g (get G2) r cs2 G2):b9 P N g o (get G2) :=
 .box bh aY aM bm aJ aL.bI ab bJ (Nat.le_of_ble_eq_true hk) (by simpa using bd) he (by intro e; rw [e] at ay; cases ay) ek
end
end Go.Own
namespace Go.Own
open Go
section
variable {α:Type}
theorem ea.app {xs ys xs' BL:List aj}(h:ea xs ys) (aS:ea xs' BL):ea (xs++xs') (ys++BL):=⟨by simp [h.l,aS.l],λg k a b bm aJ=>by
 by_cases hk:k<xs.length
 ·rw [List.getElem?_append_left hk] at bm
  rw [List.getElem?_append_left (by rw [h.l]; exact hk)] at aJ
  exact h.v g k a b bm aJ
 ·rw [List.getElem?_append_right (by omega)] at bm
  rw [List.getElem?_append_right (by rw [h.l]; omega),h.l] at aJ
  exact aS.v g _ a b bm aJ⟩
instance {e cX:cD α}{L:List α} [h:hj e cX]:ea (ch e L) (ch cX L):=⟨(BD e cX L).1,(BD e cX L).2⟩
theorem ln.Ub {en:cD α}{L:List α}{n:Nat}{cs cs':List aj}(h:ch en L=cs') (ao:L.length=n) [hv:ea cs cs']:ln (.own en.z n cs) (ag en L):=⟨λg=>by
 subst h ao
 exact .own hv.l (hv.v g)⟩
theorem ln.lR {en sz:cD α}{L M:List α}{m:Nat}{new dq:List aj} [h:hj en sz] (aL:ch sz M=dq) (hm:M.length=m) [aS:ea new dq]:ln (.own en.z (L.length+m) (ch en L++new)) (ag sz (L++M)):=⟨λg=>by
 subst aL hm
 have hv:=ea.app (inferInstance:ea (ch en L) (ch sz L)) aS
 show View g (.own en.z (L.length+M.length) (ch en L++new)) (.aF sz.z (L++M).length (ch sz (L++M)))
 have e:ch sz (L++M)=ch sz L++ch sz M:=by simp [ch]
 rw [e,List.length_append,<- h.z]
 exact .own hv.l (hv.v g)⟩
end
end Go.Own
namespace Go.Own
open Go
section
variable {α:Type}{g g2:aZ}{p q:Place}{P:Program}{a b:Operand}{t:TypeId}{ty:TypeId}
theorem e7.bl {en:cD α}{L:List α}(h:b7 g2 p=some (ak en L)):e7 g2 (.bl en.z p L.length):=.ref rfl (.inl ⟨_,_,h,Nat.le_refl _⟩)
namespace O
theorem N0 {en:cD α}{L M r:List α}{e jJ m:Nat}{cs:List aj}(aM:Rd g a (.bl en.z p L.length)) (aH:b7 g p=some (ak en L)) (J:Rd g b (.bl en.z q m)) (bN:b7 g q=some (.own en.z m cs)) (ao:cs.length=m * en.z) (bn:cs.all lJ=true) (hm:M.length=m) (aE:ix P t e en.z jJ=true) (aJ:Nat.ble jJ 128=true) (h:eC L M=some r)
  (gP:∀ t z n m new,g t≠some (.bR z p n m new)):dJ P g (.call { callee:=.builtin .append,args:=#[a,b],argTypes:=#[t,t] }) ty (.bR en.z p L.length m cs):=by
 subst hm
 obtain ⟨h1,al,_⟩:=w8 h aJ
 exact .lA (.grow aM.bO (.inl ⟨_,aH⟩) (λt cN cY m' dq e=>gP _ _ _ _ _ e) J.bO (MI bN ao bn) aE h1 al)
end O
end
end Go.Own
