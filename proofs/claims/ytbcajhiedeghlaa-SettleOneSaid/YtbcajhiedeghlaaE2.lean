/-
  What is proved here: parts of the proof that the last text states: rules for walks through code, and of this program's functions what they answer. No condition of their own.
-/
import Derived.RowKit3
import Derived.Test.YtbcajhiedeghlaaE1
namespace Go.Own
open Go
structure gd (g1 g2:aU):Prop where
 sub:∀ t x,g2 t=some x->g1 t=some x
 bp:∀ t x,g2 t=some x->eY g2 x
 fP:∀ t z q n m new,g2 t≠some (.b2 z q n m new)
structure dE where
 size:Nat
 pins:List Nat
def dE.ok (N:dE) (d:Nat):Bool:=Nat.blt d N.size&&!N.pins.elem d
def hR (N:dE) (T T':Array Value):Prop:=T'.size=T.size/\∀ t∈N.pins,T'[t]?=T[t]?
theorem hR.refl {N:dE}{T:Array Value}:hR N T T:=⟨rfl,λ_ _=>rfl⟩
theorem hR.trans {N:dE}{T H3 H4:Array Value}(h:hR N T H3) (h1:hR N H3 H4):hR N T H4:=⟨h1.1.trans h.1,λt aG=>(h1.2 t aG).trans (h.2 t aG)⟩
theorem dE.lt {N:dE}{d:Nat}(h:N.ok d=true):d<N.size:=by
 simp [dE.ok] at h; exact h.1
theorem hR.put {N:dE}{d:Nat}(h:N.ok d=true) (T:Array Value) (v:Value):hR N T (T.setIfInBounds d v):=by
 refine ⟨by simp,λt aG=>?_⟩
 rw [Array.getElem?_setIfInBounds_ne]
 rintro rfl
 simp [dE.ok,aG] at h
def h4 (N:dE) (a:Act) (w:World) (I:bt) (Fs:Nat->bt) (g':aU) (cy:Act) (w':World):Prop :=
 cy.defers=a.defers/\hR N a.tmps cy.tmps/\∃ I' cq,cW w' I' cy.tmps g' cq/\kE w I (λc=>∃ t,Fs t c) w' I' (λc=>∃ t,cq t c)
theorem ue {cq:Nat->bt}{d:Nat}{F:bt}{c:Nat}(h:∃ t,sN cq d F t c):(∃ t,cq t c)\/F c:=by
 obtain ⟨t,h⟩:=h
 unfold sN at h
 split at h
 ·exact .inr h
 ·exact .inl ⟨t,h⟩
structure wi (P:Program) (g:aU) (f:FuncId) (all xs0 xs1 args:List ag) (tk:Nat->Bool) (vw:Bool) (g1 g2:aU) (outs:List (Option ag)) (res:ag) (l:List (Place × ag)) (ks:Nat->Nat) (g4:aU):Prop where
 bj:dw P f=true
 zD:xs0.length=all.length
 vq:args.length=all.length
 bc:∀ (k:Nat) (x:ag),all[k]?=some x->xs0[k]?=some x\/xs0[k]?=some .dead
 aG:Take g xs0 xs1 g1
 hk:gd g1 g2
 bg:∀ (k:Nat) (x y:ag),all[k]?=some x->args[k]?=some y->if tk k then xs1[k]?=some y else vw=true/\View g2 x y
 iT:b_ P f args outs res
 aw:if vw then kg res else c' res
 u4:∀ (k:Nat) (x:ag),outs[k]?=some (some x)->if vw then kg x else c' x
 ao:∀ (ae:Nat) (p:Place) (x:ag),l[ae]?=some (p,x)->MT g g2 all outs (ks ae) p x
 nd:(l.map (·.1)).Nodup
 inj:∀ i ae,i<l.length->ae<l.length->ks i=ks ae->i=ae
 Gp:gd (o8 g2 l) g4
section
variable {P:Program}{w:World}{I:bt}{T:Array Value}{g:aU}{Fs:Nat->bt}
theorem jy.keep (h:jy w I T g Fs) {g2:aU}(hk:gd g g2):cW w I T g2 (λt c=>g2 t≠none/\Fs t c) :=
 h.Ur hk.sub hk.bp λ_ _ _ _ _ _ _ _ _ _ _ h1=>absurd h1 (hk.fP _ _ _ _ _ _)
structure ug (g:aU) (d:Nat) (g4 g5:aU):Prop where
 sub:∀ t x,g4 t=some x->g5 t=some x
 new:∀ t x,g5 t=some x->g4 t=some x\/(g4 t=none/\t≠d/\g t=some x/\∃ r k cs,x=.ptr ⟨r,[]⟩ k/\r≠d/\g4 r=some (.obj cs)/\k<cs.length)
theorem ug.refl {d:Nat}{g4:aU}:ug g d g4 g4:=⟨λ_ _ h=>h,λ_ _ h=>.inl h⟩
theorem cW.back (h:cW w I T g Fs) {w':World}{I':bt}{d:Nat}{v:Value}{g4 g5:aU}{HT:Nat->bt}(b3:cW w' I' (T.setIfInBounds d v) g4 HT) (aI:ug g d g4 g5):cW w' I' (T.setIfInBounds d v) g5 HT:=by
 refine ⟨λt x J=>?_,λt aG c ab=>?_,b3.e8,b3.aD,b3.lt,λt dh z p n m new cG cT b7 da h1 al=>?_⟩
 ·rcases aI.new t x J with aT | ⟨h1,al,aR,r,k,cs,rfl,c3,eg,kn⟩
  ·obtain ⟨u,hu,bh⟩:=b3.rel t x aT
   exact ⟨u,hu,b3.uV (λ_ _=>rfl) (λ_ _ _=>rfl) (λ_ _=>rfl) (λ_ h=>h) aI.sub bh λ_ _=>rfl⟩
  ·obtain ⟨u,hu,bh⟩:=h.rel t _ aR
   obtain ⟨⟨AP,ad,av,a2,rfl⟩,_⟩:=(bh.hT (by simp)).mN
   have fF:∀ s,s≠d->(T.setIfInBounds d v)[s]?=T[s]?:=λs aP=>by rw [Array.getElem?_setIfInBounds_ne (Ne.symm aP)]
   refine ⟨_,by rw [fF t al]; exact hu,.tree (.ref rfl ⟨⟨AP,ad,?_,a2,rfl⟩,?_⟩ (b3.kt t h1))⟩
   ·have:ep w T ⟨r,[]⟩=T[r]?:=by
     unfold ep; simp only; cases T[r]? <;> rfl
    rw [this] at av
    unfold ep
    simp only [fF r c3,av,walk]
   ·exact ⟨.obj cs,by simp [b8,aI.sub r _ eg,ag.at],0,0,cs,.inr rfl,kn⟩
 ·cases aT:g4 t with
  | none=>exact b3.kt t aT c ab
  | some y=>rw [aI.sub t y aT] at aG; cases aG
 ·have:∀ {t z p n m new},g5 t=some (.b2 z p n m new)->g4 t=some (.b2 z p n m new):=by
   intro t z p n m new J
   rcases aI.new t _ J with aT | ⟨_,_,_,r,k,cs,e,_⟩
   ·exact aT
   ·cases e
  exact b3.pQ t dh z p n m new cG cT b7 da (this h1) (this al)
def hQ (P:Program) (N:dE) (g:aU) (o:Oper) (d:Nat) (g5:aU):Prop :=
 ∀ (w:World) (I:bt) (T:Array Value) (Fs:Nat->bt),cW w I T g Fs->∀ (a:Act),a.tmps=T->a.tmps.size=N.size->∀ (K:Act->World->Prop) (Q:Exit->Act->World->Prop),
  (∀ (cy:Act) (w':World) (v:Value) (I':bt) (cq:Nat->bt),cy.defers=a.defers->cy.tmps=T.setIfInBounds d v->cW w' I' (T.setIfInBounds d v) g5 cq->kE w I (λc=>∃ t,Fs t c) w' I' (λc=>∃ t,cq t c)->K cy w')->o.wp P a w K Q
theorem hQ.sound {N:dE}{o:Oper}{d:Nat}{g5:aU}(ab:hQ P N g o d g5) (jh:N.ok d=true) (h:cW w I T g Fs) {a:Act}(bg:a.tmps=T) (bY:a.tmps.size=N.size) {K:Act->World->Prop}{Q:Exit->Act->World->Prop}
  (eC:∀ cy w',h4 N a w I Fs g5 cy w'->K cy w'):o.wp P a w K Q :=
 ab w I T Fs h a bg bY K Q λcy w' v I' cq h1 al aR b3=>eC cy w' ⟨h1,by rw [al,<- bg]; exact hR.put jh _ _,I',cq,by rw [al]; exact aR,b3⟩
theorem wi.ok {N:dE}{o:Oper}{c:Operand}{xs:Array Operand}{ir:Array TypeId}{d:Nat}{f:FuncId}{first caps ys xs0 xs1 args:List ag}{tk:Nat->Bool}{vw:Bool}{g1 g2 g4 g5:aU}{outs:List (Option ag)}{res:ag}{l:List (Place × ag)}{ks:Nat->Nat}
  (bf:o.op=.call { callee:=.value c,args:=xs,argTypes:=ir }) (aV:o.dst=some d) (ab:bL g c=some (.ef (.func f) first caps)) (J:iz g xs.toList=some ys)
  (he:wi P g f (first++ys++caps) xs0 xs1 args tk vw g1 g2 outs res l ks g4) (a7:g4 d=none) (jh:N.ok d=true) (Q9:ug g d (e2 g4 d res) g5):hQ P N g o d g5:=by
 intro w I T Fs h a bg bY K Q eC
 obtain ⟨v1,v2,tp,ao,n5⟩:=D2 h bg ab J
 have h7:(execOp a.eval o).run P w=.ok (.enter f (v1++xs.map a.eval++v2)) w:=by
  simp [execOp,bf,resolve,Deferred.ofValue,tp,invoke,D3 he.bj]
 generalize xf:(v1++xs.map a.eval++v2).toList=vs at *
 generalize E2:first++ys++caps=all at *
 -- what is taken
 have th:Hand w I (f_ w T) Fs xs0 vs (λ_=>cS):=by
  refine ⟨by rw [he.zD,ao],λk x u J hu=>?_,λ_ _ _ _ _ h=>h.elim,λ_ _ _ _ h=>h.elim,λ_ _ _ h=>h.elim⟩
  have hk:k<all.length:=by rw [<- he.zD]; exact (List.getElem?_eq_some_iff.1 J).1
  have yZ:=List.getElem?_eq_getElem hk
  rcases he.bc k _ yZ with bc | bc
  ·rw [bc] at J; cases J
   exact (n5 k _ u yZ hu).frame (λ_ _=>rfl) (λ_ h=>h) (λ_ _ h=>h.1) λ_ _=>rfl
  ·rw [bc] at J; cases J
   exact .dead λ_ h=>h
 obtain ⟨fY,H1,iR,iv,hf⟩:=he.aG.sound h.lY th
 have J7:∀ c,kW fY xs1.length H1 c->∃ t,Fs t c:=by
  intro c ab
  rcases hf c ab with aT | ⟨_,_,aT⟩
  ·exact aT
  ·exact aT.elim
 have h5:=iR.keep he.hk
 generalize Qi:(λt c=>g2 t≠none/\fY t c)=iN at h5
 have JS:∀ t c,iN t c->fY t c:=by intro t c ab; rw [<- Qi] at ab; exact ab.2
 have Fw:xs1.length=all.length:=by rw [he.aG.length,he.zD]
 -- what the callee sees
 let A9:bt:=λc=>I c\/(vw=true/\∃ t,iN t c)
 let wj:Nat->bt:=λt c=>t<all.length/\tk t=true/\H1 t c
 have r5:∀ t c,wj t c->(∀ s,¬ iN s c)/\¬ I c/\∃ t,Fs t c:=by
  rintro t c ⟨h1,al,aR⟩
  exact ⟨λs aP=>iv.off t s c (by omega) aR (JS s c aP),iv.aD t c (by omega) aR,J7 c (.inr ⟨t,by omega,aR⟩)⟩
 have KI:∀ (ρ':ag->Value->Prop) (k:Nat) (y:ag) (u:Value),args[k]?=some y->vs[k]?=some u->R w A9 ρ' y u (wj k):=by
  intro ρ' k y u ay hu
  have hk:k<all.length:=by rw [<- he.vq]; exact (List.getElem?_eq_some_iff.1 ay).1
  have yZ:=List.getElem?_eq_getElem hk
  have:=he.bg k _ y yZ ay
  split at this
  ·rename_i aG
   have l':c' y:=he.aG.zQ y (List.mem_of_getElem? this)
   exact (((iv.rel k y u this hu).bI l').mQ λc ab=>.inl ab).wP λc=>⟨λab=>⟨hk,aG,ab⟩,λab=>ab.2.2⟩
  ·rename_i aG
   obtain ⟨hv,R_⟩:=this
   have gE:R w I (f_ w T) all[k] u cS:=(n5 k _ u yZ hu).frame (λ_ _=>rfl) (λ_ h=>h) (λ_ _ h=>h.1) λ_ _=>rfl
   have:=View.Mg h5.lY R_ gE (λ_ h=>h.elim) ρ'
   refine (this.mQ (I':=A9) λc ab=>?_).wP λc=>⟨λh=>h.elim,λab=>absurd ab.2.1 aG⟩
   rcases ab with aT | aT
   ·exact .inl aT
   ·exact .inr ⟨hv,aT⟩
 have QE:cW w A9 vs.toArray (oH args) wj:=by
  refine ⟨λt x J=>?_,λt aG c ab=>?_,λt dh c ab fq=>iv.e8 t dh c (by have:=ab.1; omega) (by have:=fq.1; omega) ab.2.2 fq.2.2,λt c ab hi=>?_,λc ab=>?_,λt dh z p n m new cG cT b7 da h1 al=>?_⟩
  ·have aG:t<args.length:=(List.getElem?_eq_some_iff.1 J).1
   have hu:vs[t]?=some (vs[t]'(by rw [<- ao,<- he.vq]; exact aG)):=List.getElem?_eq_getElem _
   exact ⟨_,by rw [List.getElem?_toArray]; exact hu,.tree (KI _ t x _ J hu)⟩
  ·have hle:args.length<=t:=by simpa [oH] using aG
   have:=ab.1; have:=he.vq; omega
  ·obtain ⟨h1,al,_⟩:=r5 t c ab
   rcases hi with aT | ⟨_,s,aT⟩
   ·exact al aT
   ·exact h1 s aT
  ·rcases ab with aT | ⟨_,s,aT⟩
   ·exact h.lt c aT
   ·exact h5.jN s c aT
  ·have aG:t<args.length:=(List.getElem?_eq_some_iff.1 h1).1
   have hu:vs[t]?=some (vs[t]'(by rw [<- ao,<- he.vq]; exact aG)):=List.getElem?_eq_getElem _
   exact (KI (λ_ _=>False) t _ _ h1 hu).kR.elim
 have tn:=he.iT.2 w A9 vs wj (by rw [<- ao,he.vq]) QE
 unfold Oper.wp Oper.upon
 simp only [h7]
 rw [<- xf,Array.toArray_toList] at tn
 refine Calls.mono tn ?_
 rintro e w' ⟨v,I',cq,rfl,eD,cd⟩
 rw [xf] at eD
 have l9:outs.length=all.length:=by rw [he.iT.1,he.vq]
 have qh:vs.length=all.length:=ao.symm
 -- the blocks behind the call
 have L3:∀ t c,iN t c->w'.heap[c]?=w.heap[c]?:=λt c ab=>cd.fy.block c (h5.jN t c ab) λ⟨s,aP⟩=>(r5 s c aP).1 t ab
 have qB:∀ c,I c->w'.heap[c]?=w.heap[c]?:=λc ab=>cd.fy.block c (h.lt c ab) λ⟨s,aP⟩=>(r5 s c aP).2.1 ab
 let If:bt:=λc=>if vw then I c else I' c
 have GK:∀ t c,cq t c->(∃ s,wj s c)\/w.heap.size<=c:=λt c ab=>cd.own c ⟨t,ab⟩
 have Ll:∀ t c,cq t c->∀ s,¬ iN s c:=by
  intro t c ab s aP
  rcases GK t c ab with ⟨e6,aT⟩ | aT
  ·exact (r5 e6 c aT).1 s aP
  ·have:=h5.jN s c aP; omega
 have Lm:∀ t c,cq t c->¬ If c:=by
  intro t c ab hi
  cases vw with
  | true =>
   simp only [If,if_true] at hi
   rcases GK t c ab with ⟨e6,aT⟩ | aT
   ·exact (r5 e6 c aT).2.1 hi
   ·have:=h.lt c hi; omega
  | false =>
   simp only [If,Bool.false_eq_true,if_false] at hi
   exact eD.aD t c ab hi
 have JX:∀ c,If c->I c\/(∃ s,wj s c)\/w.heap.size<=c:=by
  intro c ab
  cases vw with
  | true=>simp only [If,if_true] at ab; exact .inl ab
  | false =>
   simp only [If,Bool.false_eq_true,if_false] at ab
   rcases cd.new c ab with aT | aT | aT
   ·rcases aT with aT | ⟨aT,_⟩
    ·exact .inl aT
    ·cases aT
   ·exact .inr (.inl aT)
   ·exact .inr (.inr aT)
 have JW:∀ c,I c->If c:=by
  intro c ab
  cases vw with
  | true=>simp only [If,if_true]; exact ab
  | false=>simp only [If,Bool.false_eq_true,if_false]; exact cd.more c (.inl ab)
 have QA:cW w' If T g2 iN:=by
  have:=h5.world (w':=w') L3 qB cd.fy.size
  refine ⟨λt x J=>?_,this.kt,this.e8,λt c ab hi=>?_,λc ab=>?_,this.pQ⟩
  ·obtain ⟨v,hv,bh⟩:=this.rel t x J
   exact ⟨v,hv,bh.frame (λ_ _=>rfl) JW (λ_ _ h=>h) (λ_ _ _ _ _ _ _=>rfl) λ_ _=>rfl⟩
  ·rcases JX c hi with aT | ⟨s,aT⟩ | aT
   ·exact h5.aD t c ab aT
   ·exact (r5 s c aT).1 t ab
   ·have:=h5.jN t c ab; omega
  ·cases vw with
   | true=>simp only [If,if_true] at ab; exact Nat.lt_of_lt_of_le (h.lt c ab) cd.fy.size
   | false=>simp only [If,Bool.false_eq_true,if_false] at ab; exact eD.lt c ab
 -- what comes back in the arguments, and the result
 have Iu:∀ {x:ag}{u:Value}{F:bt}{ρ ρ':ag->Value->Prop},R w' I' ρ x u F->(if vw then kg x else c' x)->R w' If ρ' x u F:=by
  intro x u F ρ ρ' bh J
  cases vw with
  | true=>simp only [if_true] at J; exact bh.kS J
  | false =>
   simp only [Bool.false_eq_true,if_false] at J
   refine (bh.bI J).mQ λc ab=>?_
   simpa [If] using ab
 have zO:∀ {x:ag},(if vw then kg x else c' x)->∀ z p n m new,x≠.b2 z p n m new:=by
  rintro x J z p n m new rfl
  cases vw with
  | true=>simp only [if_true] at J; cases J
  | false=>simp only [Bool.false_eq_true,if_false] at J; cases J
 have Tk:∀ (k:Nat) (x:ag) (u:Value),outs[k]?=some (some x)->vs[k]?=some u->R w' If (f_ w' T) x u (cq k):=by
  intro k x u J hu
  have hk:k<outs.length:=(List.getElem?_eq_some_iff.1 J).1
  obtain ⟨sM,fG,bh⟩:=eD.rel k x (by simp only [oj,if_neg (Nat.ne_of_lt hk),J]; rfl)
  have:sM=u:=by
   rw [List.getElem?_toArray,List.getElem?_append_left (by rw [qh,<- l9]; exact hk),hu] at fG
   exact (Option.some.inj fG).symm
  subst this
  exact Iu (bh.hT (zO (he.u4 k x J))) (he.u4 k x J)
 obtain ⟨Hw,Cq,n4⟩:=eD.rel outs.length res (by simp [oj])
 have R4:Hw=v:=by
  have e:outs.length=vs.length:=by omega
  rw [e] at Cq
  simpa using Cq.symm
 subst R4
 -- back into the places
 obtain ⟨wk,EX,B4⟩:=jy.o8 (w:=w') (I:=If) (T:=T) l (λae=>cq (ks ae)) (λae=>vs.getD (ks ae) undef) QA.lY he.nd (λae p x aa=>by
   have L:=he.ao ae p x aa
   have hk:ks ae<outs.length:=(List.getElem?_eq_some_iff.1 L.out).1
   have hu:vs[ks ae]?=some (vs[ks ae]'(by rw [qh,<- l9]; exact hk)):=List.getElem?_eq_getElem _
   have tt:vs.getD (ks ae) undef=vs[ks ae]'(by rw [qh,<- l9]; exact hk):=by simp [List.getD,hu]
   refine ⟨L.Ir,?_,?_⟩
   ·rw [tt,h5.vZ (w':=w') (λ_ _=>rfl) L3 L.Ir]
    rcases L.arg with ⟨z,n,cs,h1,al⟩ | ⟨cs,h1,al⟩
    ·exact Nn h (n5 _ _ _ h1 hu) al
    ·exact Nl h (n5 _ _ _ h1 hu) al
   ·rw [tt]; exact Tk _ x _ L.out hu)
  (λae t c aa ab=>Ll _ c ab t) (λae c aa ab=>Lm _ c ab) (λi ae c hi aa h1 al=>he.inj i ae hi aa (eD.e8 _ _ c h1 al))
 have QB:=EX.keep he.Gp
 have Th:∀ t c,cq outs.length c->¬ (g4 t≠none/\wk t c):=by
  rintro t c ab ⟨_,b3⟩
  rcases B4 t c b3 with aT | ⟨ae,aa,aT⟩
  ·exact Ll _ c ab t aT
  ·have hk:ks ae<outs.length:=by
    have rb:=List.getElem?_eq_getElem aa
    exact (List.getElem?_eq_some_iff.1 (he.ao ae _ _ rb).out).1
   have:=eD.e8 _ _ c ab aT
   omega
 have mG:=QB.sw (d:=d) (x:=res) (v:=Hw) (F:=cq outs.length) a7 (by rw [<- bg,bY]; exact dE.lt jh) (.tree (Iu (n4.hT (zO he.aw)) he.aw)) Th (λc ab=>Lm _ c ab) (λz p n m new e=>absurd e (zO he.aw z p n m new))
 refine eC _ _ Hw If _ (by rw [aV]; rfl) (by rw [aV]; simp [Act.put,bg]) (h.back mG Q9) ⟨?_,JW,λc ab=>?_,λc ab=>?_⟩
 ·exact cd.fy.mono λb _ ⟨s,aP⟩=>(r5 s b aP).2.2
 ·rcases JX c ab with aT | ⟨s,aT⟩ | aT
  ·exact .inl aT
  ·exact .inr (.inl (r5 s c aT).2.2)
  ·exact .inr (.inr aT)
 ·have fin:∀ t,cq t c->(∃ s,Fs s c)\/w.heap.size<=c:=by
   intro t aG
   rcases GK t c aG with ⟨s,aT⟩ | aT
   ·exact .inl (r5 s c aT).2.2
   ·exact .inr aT
  rcases ue ab with ⟨t,_,aT⟩ | aT
  ·rcases B4 t c aT with gD | ⟨ae,_,gD⟩
   ·exact .inl (J7 c (.inl ⟨t,JS t c gD⟩))
   ·exact fin _ gD
  ·exact fin _ aT
structure MO (g:aU) (d r k0:Nat) (g4 g5:aU):Prop where
 sub:∀ t x,g4 t=some x->g5 t=some x
 new:∀ t x,g5 t=some x->g4 t=some x\/(g4 t=none/\t≠d/\g t=some x/\∃ m z n cs,x=.ptr ⟨r,[k0]⟩ m/\b8 g4 ⟨r,[k0]⟩=some (.own z n cs)/\m<cs.length)
theorem gd.b8 {g1 g2:aU}(h:gd g1 g2) {p:Place}{y:ag}(aF:b8 g2 p=some y):b8 g1 p=some y:=by
 unfold Own.b8 at *
 cases J:g2 p.root with
 | none=>rw [J] at aF; cases aF
 | some x=>rw [J] at aF; rw [h.sub _ _ J]; exact aF
theorem hQ.PM {N:dE}{o:Oper}{r k0 d:Nat}{y:ag}{cs:List ag}{g5:aU}(aw:g r=some (.obj cs)) (ay:cs[k0]?=some y) (ve:c' y)
  (tz:∀ v:Value,v.oneCell'=true->∃ g1 g4 td,gd (c5 g ⟨r,[k0]⟩ (.lit v)) g1/\hQ P N g1 o d g4/\b8 g4 ⟨r,[k0]⟩=some (.lit v)/\gd (c5 g4 ⟨r,[k0]⟩ y) td/\b8 td ⟨r,[k0]⟩=some y/\MO g d r k0 td g5):hQ P N g o d g5:=by
 intro w I T Fs h a bg bY K Q eC
 have lN:∀ z q n m new,y≠.b2 z q n m new:=by rintro z q n m new rfl; cases ve
 have fS:b8 g ⟨r,[k0]⟩=some y:=by simp [b8,aw,ag.at,ag.kids,ay]
 obtain ⟨v,cJ,hv,dQ,dz,put⟩:=h.lY.part fS lN
 have oc:v.oneCell'=true:=by
  obtain ⟨u,hu,l7⟩:=h.rel r _ aw
  obtain ⟨b,sM,h1,al,aR,b3,_⟩:=R.node (z:=0) (n:=0) (l7.hT (by simp)) (.inr rfl) ay
  have:ep w T ⟨r,[k0]⟩=child w u k0:=by
   unfold ep
   simp only [hu,walk]
   cases child w u k0 <;> rfl
  rw [this,aR] at hv
  cases hv
  exact b3
 obtain ⟨fY,iR,yS,yT⟩:=put (.lit v) cS (.lit oc λ_ h=>h) (λ_ h=>h.elim) (λ_ h=>h.elim) (λ_ _ _ h=>h.elim)
 obtain ⟨g1,g4,td,hl,eA,E4,Fp,Vu,aI⟩:=tz v oc
 have qG:∀ t c,fY t c->Fs t c/\¬ cJ c:=by
  intro t c ab
  by_cases aG:t=r
  ·subst aG
   rcases (yS c).1 ab with aT | aT
   ·exact aT
   ·exact aT.elim
  ·rw [yT t aG] at ab
   exact ⟨ab,λbj=>aG (h.e8 t r c ab (dz c bj))⟩
 have EW:=iR.keep hl
 refine eA w I T _ EW a bg bY K Q λcy w' hP I' cq Em yw eD cd=>?_
 obtain ⟨v2,rF,pK,lJ,Qh,G3⟩:=eD.lY.part E4 (by simp)
 have FU:v2=v:=lJ.h9.1
 subst FU
 have EJ:∀ c,cJ c->¬ I c:=λc ab=>h.aD r c (dz c ab)
 have uW:∀ c,cJ c->c<w.heap.size:=λc ab=>h.jN r c (dz c ab)
 have vv:∀ c,cJ c->¬ ∃ t,(g1 t≠none/\fY t c):=λc ab ⟨t,_,aT⟩=>(qG t c aT).2 ab
 have zS:∀ t c,cq t c->¬ cJ c:=by
  intro t c ab bj
  rcases cd.own c ⟨t,ab⟩ with aT | aT
  ·exact vv c bj aT
  ·have:=uW c bj; omega
 have GI:∀ c,cJ c->¬ I' c:=by
  intro c ab hi
  rcases cd.new c hi with aT | aT | aT
  ·exact EJ c ab aT
  ·exact vv c ab aT
  ·have:=uW c ab; omega
 have Hc:∀ c,cJ c->w'.heap[c]?=w.heap[c]?:=λc ab=>cd.fy.block c (uW c ab) (vv c ab)
 have qB:∀ c,I c->w'.heap[c]?=w.heap[c]?:=λc ab=>cd.fy.block c (h.lt c ab) λ⟨t,_,aT⟩=>h.aD t c (qG t c aT).1 ab
 have yY:R w' I' (f_ w' (T.setIfInBounds d hP)) y v2 cJ :=
  ((dQ.bI ve).frame qB cd.more (λ_ _ h=>h) Hc)
 obtain ⟨HU,EY,EE,EF⟩:=G3 y cJ yY (λc ab bj=>(zS _ c bj ab).elim) (λc ab=>GI c ab) (λt c _ ab bj=>zS t c bj ab)
 have r8:=EY.keep Fp
 have R7:ep w' (T.setIfInBounds d hP) ⟨r,[k0]⟩=some v2:=pK
 have QC:cW w' I' (T.setIfInBounds d hP) g5 (λt c=>td t≠none/\HU t c):=by
  refine ⟨λt x J=>?_,λt aG c ab=>?_,r8.e8,r8.aD,r8.lt,λt dh z p n m new cG cT b7 da h1 al=>?_⟩
  ·rcases aI.new t x J with aT | ⟨h1,al,aR,m,z,n,cs2,rfl,c3,eg⟩
   ·obtain ⟨u,hu,bh⟩:=r8.rel t x aT
    exact ⟨u,hu,r8.uV (λ_ _=>rfl) (λ_ _ _=>rfl) (λ_ _=>rfl) (λ_ h=>h) aI.sub bh λ_ _=>rfl⟩
   ·obtain ⟨u,hu,bh⟩:=h.rel t _ aR
    obtain ⟨⟨AP,ad,av,a2,rfl⟩,_⟩:=(bh.hT (by simp)).mN
    rw [hv] at av
    cases av
    refine ⟨_,by rw [Array.getElem?_setIfInBounds_ne (Ne.symm al)]; exact hu,.tree (.ref rfl ⟨⟨v2,ad,R7,a2,rfl⟩,?_⟩ (r8.kt t h1))⟩
    refine ⟨.own z n cs2,?_,z,n,cs2,.inl rfl,eg⟩
    unfold Own.b8 at c3 ⊢
    cases gk:td r with
    | none=>simp only [gk] at c3; cases c3
    | some x'=>simp only [gk] at c3; simp only [aI.sub r x' gk]; exact c3
  ·cases aT:td t with
   | none=>exact ab.1 aT
   | some y=>rw [aI.sub t y aT] at aG; cases aG
  ·have:∀ {t z p n m new},g5 t=some (.b2 z p n m new)->td t=some (.b2 z p n m new):=by
    intro t z p n m new J
    rcases aI.new t _ J with aT | ⟨_,_,_,m,z,n,cs2,e,_⟩
    ·exact aT
    ·cases e
   exact r8.pQ t dh z p n m new cG cT b7 da (this h1) (this al)
 refine eC cy w' hP I' _ Em yw QC ⟨?_,cd.more,λc ab=>?_,λc ab=>?_⟩
 ·exact cd.fy.mono λb _ ⟨t,_,aT⟩=>⟨t,(qG t b aT).1⟩
 ·rcases cd.new c ab with aT | ⟨t,_,aT⟩ | aT
  ·exact .inl aT
  ·exact .inr (.inl ⟨t,(qG t c aT).1⟩)
  ·exact .inr (.inr aT)
 ·obtain ⟨t,_,ab⟩:=ab
  have:(∃ t,cq t c)\/cJ c:=by
   by_cases aG:t=r
   ·subst aG
    rcases (EE c).1 ab with ⟨aT,_⟩ | aT
    ·exact .inl ⟨_,aT⟩
    ·exact .inr aT
   ·rw [EF t aG] at ab; exact .inl ⟨t,ab⟩
  rcases this with aT | aT
  ·rcases cd.own c aT with ⟨t,_,gD⟩ | gD
   ·exact .inl ⟨t,(qG t c gD).1⟩
   ·exact .inr gD
  ·exact .inl ⟨r,dz c aT⟩
end
end Go.Own
namespace Go.Own
open Go
def qY:ag->Option (List ag)
 | .agg cs=>some cs
 | .lit v=>some [.lit v]
 | .aJ=>some [.aJ]
 | .aD z n cs=>some [.aD z n cs]
 | .own z n cs=>some [.own z n cs]
 | .obj cs=>some [.obj cs]
 | .bn cs=>some [.bn cs]
 | .ef f a b=>some [.ef f a b]
 | _=>none
def gp (P:Program) (t:TypeId) (m:Nat):Bool :=
 match P.info? t with
 | some i=>i.size == m
 | none=>false
def l1 (P:Program) (N:dE) (g:aU) (o:Oper) (g':aU):Prop :=
 ∀ (w:World) (I:bt) (T:Array Value) (Fs:Nat->bt),cW w I T g Fs->∀ (a:Act),a.tmps=T->a.tmps.size=N.size->∀ (K:Act->World->Prop) (Q:Exit->Act->World->Prop),
  (∀ (cy:Act) (w':World),h4 N a w I Fs g' cy w'->(∀ t,o.dst≠some t->cy.tmps[t]?=a.tmps[t]?)->K cy w')->o.wp P a w K Q
inductive cm (P:Program) (N:dE) (g:aU):Oper->aU->Prop
 | assign {o:Oper}{d:Nat}{x:Operand}{y j6 y':ag}{g1 g2:aU}(bf:o.op=.assign x) (aV:o.dst=some d) (J:bL g x=some y) (aG:Take g [y] [j6] g1) (bG:jt j6 y') (hk:gd g1 g2) (a7:g2 d=none) (bY:N.ok d=true):cm P N g o (e2 g2 d y')
 | Ns {o:Oper}{d:Nat}{x:Operand}{y:ag}{g2:aU}(bf:o.op=.assign x) (aV:o.dst=some d) (J:bL g x=some y) (hk:gd g g2) (ay:eY g2 y) (a7:g2 d=none) (bY:N.ok d=true):cm P N g o (e2 g2 d y)
 | store {o:Oper}{t:TypeId}{ad val:Operand}{p:Place}{k z n:Nat}{y j6 y' nd:ag}{cs cs':List ag}{g1 g2:aU}(bf:o.op=.store t ad val) (aV:o.dst=none) (fR:bL g ad=some (.ptr p k)) (tF:bL g val=some y) (aG:Take g [y] [j6] g1) (pG:jt j6 y')
   (ab:qY y'=some cs') (aP:gp P t cs'.length=true) (aF:b8 g1 p=some nd) (ga:nd=.own z n cs\/nd=.obj cs) (hk:k+cs'.length<=cs.length) (bc:0<cs'.length)
   (Cb:∀ t x,g2 t=some x->c5 g1 p (nd.fB k cs') t=some x) (zm:∀ t x,g2 t=some x->∀ y,g1 t=some y->j7 (λr=>hc g1 r/\Clear p k cs'.length r/\hc g2 r) y) (lN:∀ t z q n m new,g2 t≠some (.b2 z q n m new)) (me:g2 p.root≠none):cm P N g o g2
 | call {o:Oper}{d:Nat}{g5:aU}(aV:o.dst=some d) (bY:N.ok d=true) (h:hQ P N g o d g5):cm P N g o g5
 | L9 {o:Oper}{g2:aU}(h:l1 P N g o g2):cm P N g o g2
section
variable {P:Program}{w:World}{I:bt}{T:Array Value}{g:aU}{Fs:Nat->bt}
theorem Hand.one {y:ag}{v:Value}(bh:R w I (ej w T g) y v cS):Hand w I (f_ w T) Fs [y] [v] (λ_=>cS) :=
 ⟨rfl,λk x u J hu=>by
  cases k with
  | zero=>simp at J hu; subst J hu; exact bh.frame (λ_ _=>rfl) (λ_ h=>h) (λ_ _ h=>h.1) λ_ _=>rfl
  | succ k=>simp at J,λ_ _ _ _ _ h=>h.elim,λ_ _ _ _ h=>h.elim,λ_ _ _ h=>h.elim⟩
theorem Hand.G8 {ρ:ag->Value->Prop}{y:ag}{v:Value}{dD:Nat->bt}(h:Hand w I ρ Fs [y] [v] dD):R w I ρ y v (dD 0):=h.rel 0 y v rfl rfl
theorem Hand.cells {y:ag}{v:Value}{dD:Nat->bt}(h:Hand w I (f_ w T) Fs [y] [v] dD) (aN:c' y) {cs:List ag}(ab:qY y=some cs) :
  ∃ wm,Hand w I (f_ w T) Fs cs v.cells.toList wm/\(∀ x∈cs,c' x)/\(∀ (ae:Nat) (u:Value),v.cells.toList[ae]?=some u->u.oneCell'=true)/\∀ ae c,ae<cs.length->wm ae c->dD 0 c:=by
 have bh:=h.G8
 have single:∀ {x:ag},y=x->v.oneCell'=true->∃ wm,Hand w I (f_ w T) Fs [x] v.cells.toList wm/\(∀ z∈[x],c' z)/\(∀ (ae:Nat) (u:Value),v.cells.toList[ae]?=some u->u.oneCell'=true)/\∀ ae c,ae<[x].length->wm ae c->dD 0 c:=by
  rintro x rfl h1
  have w4:v.cells=#[v]:=by cases v <;> first | rfl | (simp [Value.oneCell'] at h1)
  refine ⟨dD,by rw [w4]; exact h,by simpa using aN,λae u hu=>?_,λae c aa ab=>?_⟩
  ·rw [w4] at hu
   cases ae with
   | zero=>simp at hu; subst hu; exact h1
   | succ ae=>simp at hu
  ·have:ae=0:=by simpa using aa
   subst this; exact ab
 cases y <;> simp only [qY,Option.some.injEq,reduceCtorEq] at ab
 case agg l =>
  subst ab
  cases bh with
  | ref J=>simp [ag.isRef] at J
  | @agg _ vs bR _ ao h1 aw aV aQ =>
   have e9:∀ k c,k<l.length->bR k c->dD 0 c:=λk c hk ab=>(aQ c).2 ⟨k,hk,ab⟩
   refine ⟨bR,⟨by simp [Value.cells,ao],λk x u J hu=>aw k x u J (by simpa [Value.cells] using hu),aV,λk t c hk ab=>h.off 0 t c (by simp) (e9 k c hk ab),λk c hk ab=>h.aD 0 c (by simp) (e9 k c hk ab)⟩,?_,λae u hu=>h1 ae u (by simpa [Value.cells] using hu),e9⟩
   cases aN with | agg h=>exact h
 case lit a=>subst ab; exact single rfl (by obtain ⟨rfl,h1⟩:=bh.h9; exact h1)
 case aJ=>subst ab; exact single rfl (by rw [bh.qv]; rfl)
 case aD z n l=>subst ab; exact single rfl (by obtain ⟨a,cap,rfl,_⟩:=bh.xj; rfl)
 case own z n l=>subst ab; exact single rfl (by obtain ⟨a,cap,rfl,_⟩:=bh.mq; rfl)
 case bn l=>subst ab; exact single rfl (by obtain ⟨ad,us,rfl,_⟩:=bh.vg; rfl)
 case obj l =>
  subst ab
  refine single rfl ?_
  cases bh with
  | ref J=>simp [ag.isRef] at J
  | obj=>rfl
 case ef f a b =>
  subst ab
  refine single rfl ?_
  cases bh with
  | ref J=>simp [ag.isRef] at J
  | ef=>rfl
theorem jx.mQ {I':bt}{ρ:ag->Value->Prop}{x:ag}{v:Value}{F:bt}(h:jx w I ρ x v F) (bs:∀ c,I c->I' c):jx w I' ρ x v F:=by
 cases h with
 | tree h=>exact .tree (h.mQ bs)
 | b2 h=>exact .b2 ⟨h.j',h.kN,h.mb,h.ao,h.h1,λk x u J hu=>(h.aw k x u J hu).mQ bs,h.aQ⟩
theorem JI {g1:aU}{fY:Nat->bt}{H1:Nat->bt}{j6 y':ag}{v:Value}(b1:jy w I T g1 fY) (hH:Hand w I (f_ w T) fY [j6] [v] H1) (aN:c' j6) (bG:jt j6 y') :
  ∃ (I':bt) (rH:bt),(∀ c,I c->I' c)/\(∀ c,I' c->I c\/H1 0 c)/\jy w I' T g1 fY/\Hand w I' (f_ w T) fY [y'] [v] (λ_=>rH)/\∀ c,rH c->H1 0 c:=by
 have bh:=hH.G8
 obtain ⟨rH,gJ,jg⟩:=R.fE bG bh aN (λc ab=>hH.aD 0 c (by simp) ab) b1.lt
 refine ⟨λc=>I c\/(H1 0 c/\¬ rH c),rH,λc ab=>.inl ab,λc ab=>ab.elim .inl λh=>.inr h.1,⟨λt x J=>?_,b1.kt,b1.e8,λt c ab hi=>?_,λc ab=>?_⟩,⟨rfl,λk x u J hu=>?_,λae k c aa hk _ _=>by simp at aa hk; omega,λk t c hk ab bj=>hH.off 0 t c (by simp) (gJ c ab) bj,λk c hk ab hi=>?_⟩,gJ⟩
 ·obtain ⟨u,hu,l7⟩:=b1.rel t x J
  exact ⟨u,hu,l7.mQ λc ab=>.inl ab⟩
 ·rcases hi with h | ⟨h,_⟩
  ·exact b1.aD t c ab h
  ·exact hH.off 0 t c (by simp) h ab
 ·rcases ab with h | ⟨h,_⟩
  ·exact b1.lt c h
  ·exact bh.lt c h
 ·cases k with
  | zero=>simp at J hu; subst J hu; exact jg
  | succ k=>simp at J
 ·rcases hi with h | ⟨_,h⟩
  ·exact hH.aD 0 c (by simp) (gJ c ab) h
  ·exact h ab
theorem cm.nZ {N:dE}{o:Oper}{g':aU}(he:cm P N g o g'):l1 P N g o g':=by
 intro w I T Fs h a bg bY K Q eC
 cases he with
 | L9 he=>exact he w I T Fs h a bg bY K Q eC
 | @call d _ aV jh ab =>
  refine ab w I T Fs h a bg bY K Q λcy w' v I' cq h1 al aR b3=>eC cy w' ⟨h1,by rw [al,<- bg]; exact hR.put jh _ _,I',cq,by rw [al]; exact aR,b3⟩ λt aG=>?_
  rw [al,bg,Array.getElem?_setIfInBounds_ne]
  rintro rfl
  exact aG aV
 | @assign d x y j6 y' g1 g2 bf aV J aG bG hk a7 jh =>
  have bh:=kT h J bg
  obtain ⟨fY,H1,q',th,hf⟩:=aG.sound h.lY (Hand.one bh)
  have zc:c' j6:=aG.zQ j6 (by simp)
  obtain ⟨I',rH,n3,EL,iR,iv,gJ⟩:=JI q' th zc bG
  have l':c' y':=bG.bI zc
  have h5:=iR.keep hk
  have mG:=h5.sw (d:=d) (x:=y') (v:=a.eval x) (F:=rH) a7 (by rw [<- bg,bY]; exact dE.lt jh) (.tree (iv.G8.bI l')) (λt c ab bj=>iv.off 0 t c (by simp) ab bj.2) (λc ab=>iv.aD 0 c (by simp) ab) (by rintro z p n m new rfl; cases l')
  have h7:(execOp a.eval o).run P w=.ok (.value (a.eval x)) w:=by simp [execOp,bf]
  unfold Oper.wp Oper.upon
  simp only [h7]
  have gO:∀ c,H1 0 c->∃ t,Fs t c:=λc ab=>by
   rcases hf c (.inr ⟨0,by simp,ab⟩) with gD | ⟨_,_,gD⟩
   ·exact gD
   ·exact gD.elim
  refine eC _ _ ⟨by rw [aV]; rfl,by rw [aV]; exact hR.put jh _ _,I',_,by rw [aV]; simpa [Act.put,bg] using mG,⟨Fr.refl _ _,n3,λc ab=>(EL c ab).elim .inl λh=>.inr (.inl (gO c h)),λc ab=>?_⟩⟩ λt aG=>by rw [aV]; simp only [Act.put]; rw [Array.getElem?_setIfInBounds_ne]; rintro rfl; exact aG aV
  rcases ue ab with ⟨t,_,aT⟩ | aT
  ·rcases hf c (.inl ⟨t,aT⟩) with gD | ⟨_,_,gD⟩
   ·exact .inl gD
   ·exact gD.elim
  ·exact .inl (gO c (gJ c aT))
 | @Ns d x y g2 bf aV J hk ay a7 jh =>
  have bh:=kT h J bg
  have h5:=h.lY.keep hk
  have jg:R w I (ej w T g2) y (a.eval x) cS:=(bh.frame (ρ':=f_ w T) (λ_ _=>rfl) (λ_ h=>h) (λ_ _ h=>h.1) λ_ _=>rfl).bp ay
  have mG:=h5.sw (d:=d) (x:=y) (v:=a.eval x) (F:=cS) a7 (by rw [<- bg,bY]; exact dE.lt jh) (.tree jg) (λ_ _ h=>h.elim) (λ_ h=>h.elim) (by rintro z p n m new rfl; exact jg.kR.elim)
  have h7:(execOp a.eval o).run P w=.ok (.value (a.eval x)) w:=by simp [execOp,bf]
  unfold Oper.wp Oper.upon
  simp only [h7]
  refine eC _ _ ⟨by rw [aV]; rfl,by rw [aV]; exact hR.put jh _ _,I,_,by rw [aV]; simpa [Act.put,bg] using mG,⟨Fr.refl _ _,λ_ h=>h,λ_ h=>.inl h,λc ab=>?_⟩⟩ λt aG=>by rw [aV]; simp only [Act.put]; rw [Array.getElem?_setIfInBounds_ne]; rintro rfl; exact aG aV
  rcases ue ab with ⟨t,_,aT⟩ | aT
  ·exact .inl ⟨t,aT⟩
  ·exact aT.elim
 | @store t ad val p k z n y j6 y' nd cs cs' g1 _ bf aV fR tF aG pG ab aP aF ga hk bc Cb zm lN me =>
  have n4:=kT h tF bg
  obtain ⟨⟨u,U2,hu,ti,pF⟩,_⟩:=(kT h fR bg).mN
  obtain ⟨fY,H0,q',th,E2⟩:=aG.sound h.lY (Hand.one n4)
  have zc:c' j6:=aG.zQ j6 (by simp)
  obtain ⟨I',rH,n3,EL,iR,iv,R2⟩:=JI q' th zc pG
  have l':c' y':=pG.bI zc
  have gO:∀ c,H0 0 c->∃ t,Fs t c:=λc ab=>by
   rcases E2 c (.inr ⟨0,by simp,ab⟩) with gD | ⟨_,_,gD⟩
   ·exact gD
   ·exact gD.elim
  have hf:∀ c,kW fY 1 (λ_=>rH) c->kW Fs [y].length (λ_=>cS) c:=by
   rintro c (⟨t,ab⟩ | ⟨_,_,ab⟩)
   ·exact E2 c (.inl ⟨t,ab⟩)
   ·exact .inl (gO c (R2 c ab))
  obtain ⟨wm,JV,y8,gx,Qn⟩:=iv.cells l' ab
  have kR:∀ z q n m new,nd≠.b2 z q n m new:=by rcases ga with rfl | rfl <;> simp
  obtain ⟨v,cJ,hv,dQ,dz,_⟩:=iR.part aF kR
  rw [hu] at hv
  cases hv
  obtain ⟨b,gA,aI,_⟩:=dQ.node ga (List.getElem?_eq_getElem (show k<cs.length by omega))
  rw [ti] at aI
  cases aI
  have k4:∃ e arr,w.heap[b]?=some (.cells arr e (0,0))/\cs.length<=arr.size:=by
   rcases ga with rfl | rfl
   ·cases dQ with
    | ref J=>simp [ag.isRef] at J
    | own n_ ao =>
     obtain ⟨mf,b9⟩:=n_
     rcases b9 with ⟨rfl,_⟩ | ⟨iI,cap,cur,rfl,_,gm,tU,rr,tV,sz⟩
     ·simp [addrOf] at ti
     ·simp only [addrOf,Option.some.injEq,Addr.mk.injEq,and_true] at ti
      subst ti
      refine ⟨_,cur,gm,?_⟩
      rw [ao,<- sz,List.length_take]; simp; omega
   ·cases dQ with
    | ref J=>simp [ag.isRef] at J
    | obj n_ ao =>
     simp only [addrOf,Option.some.injEq,Addr.mk.injEq,and_true] at ti
     subst ti
     exact ⟨_,_,n_,by omega⟩
  obtain ⟨e,arr,k4,hle⟩:=k4
  obtain ⟨iN,h5,gJ⟩:=iR.store aF ga hk JV y8 gx Cb zm lN me hu ti k4
  have hK:(a.eval val).cells.toList.length=cs'.length:=JV.len.symm
  have cd:=run_storeCells_at P b k e (a.eval val).cells.toList 0 arr w k4 (by omega) (λu hu=>by
   obtain ⟨ae,aa,rfl⟩:=List.mem_iff_getElem.1 hu
   exact gx ae _ (List.getElem?_eq_getElem aa))
  simp only [Nat.add_zero] at cd
  have gh:(sizeOf t).run P w=.ok cs'.length w:=by
   unfold gp at aP
   cases hi:P.info? t with
   | none=>simp [hi] at aP
   | some i=>simp [hi] at aP; simp [sizeOf,typeInfo,hi,aP]
  have h7:(execOp a.eval o).run P w=.ok .skip (w.setRow b (fB arr.toList k (a.eval val).cells.toList).toArray):=by
   have hx:(a.eval val).cells.size=cs'.length:=by rw [<- Array.length_toList]; exact hK
   simp only [Nat.zero_add] at pF
   simp [execOp,bf,pF,Instr.storeAt,Instr.sureAddr,storeVar,gh,hx,cd,fB]
  unfold Oper.wp Oper.upon
  simp only [h7]
  have E8:∃ t,Fs t b:=by
   rcases hf b (.inl ⟨_,dz b (dQ.CM ga (ad:=⟨b,0,none⟩) ti)⟩) with aT | ⟨_,_,aT⟩
   ·exact aT
   ·exact aT.elim
  refine eC _ _ ⟨by rw [aV]; rfl,by rw [aV]; exact hR.refl,I',iN,by rw [aV]; simpa [Act.put,bg] using h5,⟨⟨rfl,rfl,rfl,by simp,λc _ ab=>setRow_other w b c _ (λe=>ab (e ▸ E8)),λa _=>Ez w b _ a,Nat.le_refl _⟩,n3,λc ab=>(EL c ab).elim .inl λh=>.inr (.inl (gO c h)),λc ⟨t,ab⟩=>?_⟩⟩ λt _=>by rw [aV]; rfl
  rcases gJ t c ab with aT | ⟨ae,aa,aT⟩
  ·rcases hf c (.inl ⟨t,aT⟩) with gD | ⟨_,_,gD⟩
   ·exact .inl gD
   ·exact gD.elim
  ·rcases hf c (.inr ⟨0,by simp,Qn ae c aa aT⟩) with gD | ⟨_,_,gD⟩
   ·exact .inl gD
   ·exact gD.elim
theorem cm.sound (h:cW w I T g Fs) {a:Act}(bg:a.tmps=T) {N:dE}(bY:a.tmps.size=N.size) {o:Oper}{g':aU}(he:cm P N g o g') {K:Act->World->Prop}{Q:Exit->Act->World->Prop}
  (eC:∀ cy w',h4 N a w I Fs g' cy w'->K cy w'):o.wp P a w K Q:=he.nZ w I T Fs h a bg bY K Q λcy w' h _=>eC cy w' h
end
end Go.Own
namespace Go.Own
open Go
def nr (g g':aU):Prop:=∀ t x,g t=some x->g' t=some x
section
variable {P:Program}{g g':aU}
theorem fh (h:nr g g') {x:Operand}{y:ag}(ay:bL g x=some y):bL g' x=some y:=by
 cases x <;> simp only [bL] at ay ⊢
 case tmp t =>
  cases J:g t with
  | none=>rw [J] at ay; cases ay
  | some z=>rw [J] at ay; rw [h t z J]; exact ay
 case const v=>exact ay
 case global n=>exact ay
 case func f=>exact ay
theorem xt (h:nr g g'):∀ {xs:List Operand}{ys:List ag},iz g xs=some ys->iz g' xs=some ys
 | [],_,ay=>ay
 | x::xs,ys,ay=>by
  simp only [iz] at ay ⊢
  cases J:bL g x with
  | none=>simp [J] at ay
  | some y =>
   cases qt:iz g xs with
   | none=>simp [J,qt] at ay
   | some AZ=>simp only [J,qt] at ay; simp only [fh h J,xt h qt]; exact ay
theorem Ls (h:nr g g'):∀ {l:List (Nat × Operand)}{ps:List (Nat × List ag)},qz g l=some ps->qz g' l=some ps
 | [],_,ay=>ay
 | (i,x)::l,ps,ay=>by
  simp only [qz] at ay ⊢
  cases J:bL g x with
  | none=>simp [J] at ay
  | some y =>
   cases qt:qz g l with
   | none=>simp [J,qt] at ay
   | some AZ=>simp only [J,qt] at ay; simp only [fh h J,Ls h qt]; exact ay
theorem ox.mono (h:nr g g') {d:Nat}{x:Option Operand}{ae:Nat}(aI:ox g d x ae):ox g' d x ae:=by
 cases x with
 | none=>exact aI
 | some o=>obtain ⟨k,hk⟩:=aI; exact ⟨k,fh h hk⟩
theorem dj.mono (h:nr g g') {op:Op}{ty:TypeId}{x:ag}(aF:dj P g op ty x):dj P g' op ty x:=by
 cases aF with
 | move J=>exact .move (fh h J)
 | assign J=>exact .assign (fh h J)
 | pick ab aw=>exact .pick (fh h ab) (fh h aw)
 | CL J=>exact .CL (fh h J)
 | o3 J=>exact .o3 (fh h J)
 | yL J bj eA=>exact .yL (fh h J) bj (eA.mono h)
 | BX J bj=>exact .BX (fh h J) bj
 | BW J bj aG ay=>exact .BW (fh h J) bj aG ay
 | Ev J bj aG hk=>exact .Ev (fh h J) bj aG hk
 | Cw J hi aG aa=>exact .Cw (fh h J) (fh h hi) aG aa
 | Cv J hi aG aa eA=>exact .Cv (fh h J) (fh h hi) aG aa (eA.mono h)
 | Ga J hi aG aa eA=>exact .Ga (fh h J) (fh h hi) aG aa (eA.mono h)
 | F' J hi aG aa eA=>exact .F' (fh h J) (fh h hi) aG aa (eA.mono h)
 | F_ J hi aG aa=>exact .F_ (fh h J) (fh h hi) aG aa
 | CH J aG=>exact .CH (fh h J) aG
 | CI J aG hk=>exact .CI (fh h J) aG hk
 | zH J aG ay=>exact .zH (fh h J) aG (kj h ay)
 | xm J aG ay ab hm=>exact .xm (fh h J) aG (kj h ay) ab hm
 | Cx J hi aG aI=>exact .Cx (fh h J) (fh h hi) aG aI
 | bin J ay hv aw=>exact .bin (fh h J) (fh h ay) hv aw
 | yj J ay hv aw=>exact .yj (fh h J) (fh h ay) hv aw
 | un J hv aw=>exact .un (fh h J) hv aw
 | conv J hv aw=>exact .conv (fh h J) hv aw
 | BH J aF aN hx aG=>exact .BH (fh h J) (kj h aF) aN hx aG
 | BI J aG=>exact .BI (fh h J) aG
 | @Ep xs ir _ f vs v J hv aw =>
  refine .Ep (vs:=vs) ?_ hv aw
  apply List.ext_getElem?
  intro k
  have:=congrArg (·[k]?) J
  simp only [List.getElem?_map] at this ⊢
  rw [<- this]
  cases hk:xs.toList[k]? with
  | none=>rfl
  | some o =>
   rw [hk] at this
   cases hv:vs[k]? with
   | none=>rw [hv] at this; cases this
   | some v =>
    rw [hv] at this
    simp only [Option.map_some,Option.some.injEq] at this ⊢
    rw [this,fh h this]
 | BN J ay=>exact .BN (fh h J) ay
 | AM J ao b9 aG h1 al=>exact .AM (fh h J) (ao.mono h) (b9.mono h) aG h1 al
 | Dc J ao b9 aG aN eA=>exact .Dc (fh h J) (ao.mono h) (b9.mono h) aG aN (eA.mono h)
 | Db J ao b9 aG h1 al eA=>exact .Db (fh h J) (ao.mono h) (b9.mono h) aG h1 al (eA.mono h)
 | Dd J ao b9 aG h1 al=>exact .Dd (fh h J) (ao.mono h) (b9.mono h) aG h1 al
 | zF J aG=>exact .zF (fh h J) aG
 | zE J aG=>exact .zE (fh h J) aG
 | Gv J aG=>exact .Gv (fh h J) aG
 | Gu J aG=>exact .Gu (fh h J) aG
 | Gw J aF ay eC bh aw=>exact .Gw (fh h J) (kj h aF) (fh h ay) eC bh aw
 | zG J ay eC bh aw=>exact .zG (fh h J) (fh h ay) eC bh aw
 | @lits b xs ir _ vs v J hv aw =>
  refine .lits (vs:=vs) ?_ hv aw
  clear aw
  generalize xs.toList=l at J
  induction l generalizing vs with
  | nil=>exact J
  | cons x l aS =>
   cases vs with
   | nil=>simp at J
   | cons v vs =>
    simp only [List.map_cons,List.cons.injEq] at J ⊢
    exact ⟨fh h J.1,aS J.2⟩
theorem oz.mono (h:nr g g') {op:Op}{ty:TypeId}{x:ag}(aF:oz P g op ty x):oz P g' op ty x:=by
 cases aF with
 | box J ab=>exact .box (fh h J) ab
 | alloc bG h1=>exact .alloc bG h1
 | makeMap bP=>exact .makeMap bP
 | buildSlice aG aF J bG ab aI aN hzero=>exact .buildSlice aG aF (xt h J) bG ab aI aN hzero
 | makeSlice aG J ay hzero h1 nE aI aN n9 sm Cu=>exact .makeSlice aG (fh h J) (fh h ay) hzero h1 nE aI aN n9 sm Cu
theorem sX.mono (h:nr g g') {op:Op}{ty:TypeId}{x:ag}(aF:sX P g op ty x):sX P g' op ty x:=by
 cases aF with
 | build aG bG h1 aF ab=>exact .build aG bG h1 (Ls h aF) ab
 | makeFunc bg aI=>exact .makeFunc (xt h bg) (xt h aI)
theorem Src.mono (h:nr g g') {y:ag}{z m:Nat}{cells:List ag}(aP:Src g y z m cells):Src g' y z m cells:=by
 cases aP with
 | aD=>exact .aD
 | aJ=>exact .aJ
 | bm bP hm=>exact .bm (kj h bP) hm
 | sub bP hm=>exact .sub (kj h bP) hm
theorem dr.mono (h:nr g g') {op:Op}{ty:TypeId}{x:ag}(aF:dr P g op ty x) (gY:∀ z p n m new,x=.b2 z p n m new->∀ t cG cT b7 da,g' t≠some (.b2 cG p cT b7 da)):dr P g' op ty x:=by
 cases aF with
 | fk aF=>exact .fk (aF.mono h)
 | qy aF=>exact .qy (aF.mono h)
 | CS aF=>exact .CS (aF.mono h)
 | lx aF =>
  cases aF with
  | grow aP eA _ J qk aG pB aI=>exact .lx (.grow (fh h aP) (eA.mono h) (gY _ _ _ _ _ rfl) (fh h J) (qk.mono h) aG pB aI)
  | nil aP J qk aG pB aI=>exact .lx (.nil (fh h aP) (fh h J) (qk.mono h) aG pB aI)
theorem View.mono (h:nr g g') {x y:ag}(hv:View g x y):View g' x y:=by
 induction hv with
 | o3=>exact .o3
 | self h1 al aR b3 c3 eg=>exact .self h1 al aR b3 c3 eg
 | mp=>exact .mp
 | iK aF=>exact .iK (kj h aF)
 | agg ao _ aS=>exact .agg ao aS
 | own ao _ aS=>exact .own ao aS
 | obj ao _ aS=>exact .obj ao aS
 | ef ao _ aS=>exact .ef ao aS
 | bm aF aN ao _ aS=>exact .bm (kj h aF) aN ao aS
 | sub aF aN ao _ aS=>exact .sub (kj h aF) aN ao aS
 | ptr aF ay hk ao _ aS=>exact .ptr (kj h aF) ay hk ao aS
 | rows aF ao _ aS=>exact .rows (aF.mono (λaF=>kj h aF) h) ao aS
theorem cu.mono (h:nr g g') {op:Op}{x:ag}(aF:cu P g op x):cu P g' op x:=by
 cases aF with
 | plain ab J bj aN iT aw=>exact .plain (fh h ab) (xt h J) bj aN iT aw
 | CG ab J bj ao hv iT aw=>exact .CG (fh h ab) (xt h J) bj ao (λk x y J ay=>(hv k x y J ay).mono h) iT aw
def iP (g:aU) (ops:Array Oper) (o:Oper) (b:Bool):Prop :=
 match o.guard with
 | none=>b=true
 | some (ae,want)=>∃ t,(ops[ae]?).bind (·.dst)=some t/\((∃ c,g t=some (.lit (.bool c))/\b=(c == want))\/(g t=some (.cw [])/\b=false))
theorem iP.mono (h:nr g g') {ops:Array Oper}{o:Oper}{b:Bool}(hw:iP g ops o b):iP g' ops o b:=by
 unfold iP at *
 split
 ·rename_i a7; rw [a7] at hw; exact hw
 ·rename_i ae want a7
  rw [a7] at hw
  obtain ⟨t,h1,⟨c,al,aR⟩ | ⟨al,aR⟩⟩:=hw
  ·exact ⟨t,h1,.inl ⟨c,h t _ al,aR⟩⟩
  ·exact ⟨t,h1,.inr ⟨h t _ al,aR⟩⟩
theorem iP.sound {w:World}{I:bt}{T:Array Value}{Fs:Nat->bt}(b1:cW w I T g Fs) {ops:Array Oper}{o:Oper}{b:Bool}(hw:iP g ops o b):Region.wanted o (yielded ops T)=b:=by
 unfold iP at hw
 unfold Region.wanted
 split at hw
 ·rename_i a7; rw [a7]; exact hw.symm
 ·rename_i ae want a7
  rw [a7]
  obtain ⟨t,h1,⟨c,al,aR⟩ | ⟨al,aR⟩⟩:=hw
  ·obtain ⟨v,hv,bh⟩:=b1.rel _ _ al
   have:=(bh.hT (by simp)).h9.1
   subst this
   subst aR
   simp only [yielded,h1,Option.bind_some,hv]
   cases c <;> cases want <;> rfl
  ·obtain ⟨v,hv,bh⟩:=b1.rel _ _ al
   have:∃ vs,v=.tuple vs:=by
    cases bh.hT (by simp) with
    | cw=>exact ⟨_,rfl⟩
    | ref J=>simp [ag.isRef] at J
   obtain ⟨vs,rfl⟩:=this
   subst aR
   simp only [yielded,h1,Option.bind_some,hv]
   cases want <;> rfl
def oD (P:Program) (g:aU) (ops:Array Oper) (o:Oper):Option ag->Prop
 | none=>iP g ops o false
 | some x=>(iP g ops o true/\(dr P g o.op o.type x\/cu P g o.op x))\/(iP g ops o false/\x=.cw [])\/(iP g ops o true/\∃ y,(dr P g o.op o.type y\/cu P g o.op y)/\c' y/\View (λ_=>none) y x)
theorem oD.mono (h:nr g g') {ops:Array Oper}{o:Oper}{r:Option ag}(aP:oD P g ops o r) (gY:∀ z p n m new,r=some (.b2 z p n m new)->∀ t cG cT b7 da,g' t≠some (.b2 cG p cT b7 da)):oD P g' ops o r:=by
 cases r with
 | none=>exact iP.mono h aP
 | some x =>
  rcases aP with aP | ⟨aP,J⟩ | ⟨aP,y,aF,aN,hv⟩
  ·refine .inl ⟨aP.1.mono h,?_⟩
   rcases aP.2 with aF | aF
   ·exact .inl (aF.mono h λz p n m new e=>gY z p n m new (by rw [e]))
   ·exact .inr (aF.mono h)
  ·exact .inr (.inl ⟨aP.mono h,J⟩)
  ·refine .inr (.inr ⟨aP.mono h,y,?_,aN,hv⟩)
   rcases aF with aF | aF
   ·exact .inl (aF.mono h λz p n m new e=>by subst e; cases aN)
   ·exact .inr (aF.mono h)
def leaf:ag->Bool
 | .own .. | .obj .. | .agg .. | .cw .. | .b2 .. | .mp ..=>false
 | _=>true
def del (g:aU) (d:Nat):aU:=λt=>if t=d then none else g t
theorem S2 {x y:ag}(h:leaf x=true):∀ {q:List Nat},x.at q=some y->y=x
 | [],ay=>by simpa [ag.at] using ay.symm
 | k::q,ay=>by
  have:x.kids=[]:=by cases x <;> first | rfl | simp [leaf] at h
  simp [ag.at,this] at ay
theorem wH {d:Nat}{x:ag}(aV:g d=some x) (ao:leaf x=true) {p:Place}{y:ag}(aF:b8 g p=some y) (ay:leaf y=false):b8 (del g d) p=some y:=by
 have aw:p.root≠d:=by
  intro e
  unfold b8 at aF
  rw [e,aV] at aF
  rw [S2 ao aF,ao] at ay
  cases ay
 simp only [b8,del,if_neg aw] at aF ⊢
 exact aF
theorem hc.del {d:Nat}{x:ag}(aV:g d=some x) (ao:leaf x=true) {r:ag}(h:hc g r):hc (del g d) r:=by
 have root:∀ {t:Nat}{y:ag},g t=some y->leaf y=false->Own.del g d t=some y:=by
  intro t y aG ay
  have:t≠d:=by
   rintro rfl
   rw [aV] at aG
   cases aG
   rw [ao] at ay; cases ay
  simp only [Own.del,if_neg this,aG]
 cases r <;> simp only [hc] at h ⊢
 case ptr p k =>
  obtain ⟨y,ay,z,n,cs,eH,hk⟩:=h
  exact ⟨y,wH aV ao ay (by rcases eH with rfl | rfl <;> rfl),z,n,cs,eH,hk⟩
 case bm z p n =>
  rcases h with ⟨N,cs,ay,aN⟩ | ⟨h1,q,hp,m,new,al,aR⟩
  ·exact .inl ⟨N,cs,wH aV ao ay rfl,aN⟩
  ·exact .inr ⟨h1,q,hp,m,new,root al rfl,aR⟩
 case sub z p lo n =>
  obtain ⟨N,cs,ay,aN⟩:=h
  exact ⟨N,cs,wH aV ao ay rfl,aN⟩
 case iK p=>obtain ⟨q,h⟩:=h; exact ⟨q,wH aV ao h rfl⟩
 case b2 z p n m new =>
  rcases h with ⟨cs,ay⟩ | ⟨h1,q,hp,m,new,cs,al,aR,b3⟩
  ·exact .inl ⟨cs,wH aV ao ay rfl⟩
  ·exact .inr ⟨h1,q,hp,m,new,cs,root al rfl,aR,wH aV ao b3 rfl⟩
theorem R.S1 {w:World}{I:bt}{ρ:ag->Value->Prop}{x:ag}{v:Value}{F:bt}(h:R w I ρ x v F) (ao:leaf x=true):∀ c,¬ F c:=by
 cases h with
 | own | obj | agg | cw | mp=>simp [leaf] at ao
 | lit _ aQ | aJ aQ | dead aQ | ref _ _ aQ | hM aQ | aD aQ | bn aQ | ef aQ | imp aQ=>exact aQ
theorem cW.drop {w:World}{I:bt}{T:Array Value}{Fs:Nat->bt}(h:cW w I T g Fs) {d:Nat}{x:ag}(aV:g d=some x) (ao:leaf x=true):cW w I T (del g d) Fs:=by
 refine ⟨λt y ay=>?_,λt aG c ab=>?_,h.e8,h.aD,h.lt,λt dh z p n m new cG cT b7 da h1 al=>?_⟩
 ·have mi:g t=some y:=by
   unfold del at ay
   split at ay
   ·cases ay
   ·exact ay
  obtain ⟨v,hv,bh⟩:=h.rel t y mi
  exact ⟨v,hv,bh.frame (λ_ _=>rfl) (λ_ h=>h) (λ_ _ aw=>⟨aw.1,aw.2.del aV ao⟩) (λ_ _ _ _ _ _ _=>rfl) λ_ _=>rfl⟩
 ·unfold del at aG
  split at aG
  ·rename_i e
   subst e
   obtain ⟨v,hv,bh⟩:=h.rel t x aV
   exact (bh.hT (by rintro z p n m new rfl; simp [leaf] at ao)).S1 ao c ab
  ·exact h.kt t aG c ab
 ·have key:∀ {t:Nat}{y:ag},del g d t=some y->g t=some y:=by
   intro t y ay
   unfold del at ay
   split at ay
   ·cases ay
   ·exact ay
  exact h.pQ _ _ _ _ _ _ _ _ _ _ _ (key h1) (key al)
end
end Go.Own
namespace Go.Own
open Go
def vK (g:aU) (d:Nat):Option ag->aU
 | some x=>e2 g d x
 | none=>g
section
variable {P:Program}{w:World}{I:bt}{T:Array Value}{g:aU}{Fs:Nat->bt}{N:dE}{ops:Array Oper}
theorem kE.refl (w:World) (I U:bt):kE w I U w I U:=⟨Fr.refl _ _,λ_ h=>h,λ_ h=>.inl h,λ_ h=>.inl h⟩
theorem kE.trans {w jq ia:World}{I x8 A8 U wB H5:bt}(h:kE w I U jq x8 wB) (h1:kE jq x8 wB ia A8 H5):kE w I U ia A8 H5:=by
 have lv:∀ c,c<w.heap.size->wB c->U c:=λc ab hu=>by
  rcases h.own c hu with aT | aT
  ·exact aT
  ·omega
 refine ⟨h.fy.trans h1.fy lv,λc ab=>h1.more c (h.more c ab),λc ab=>?_,λc ab=>?_⟩
 ·rcases h1.new c ab with aT | aT | aT
  ·exact h.new c aT
  ·rcases h.own c aT with gD | gD
   ·exact .inr (.inl gD)
   ·exact .inr (.inr gD)
  ·exact .inr (.inr (Nat.le_trans h.fy.size aT))
 ·rcases h1.own c ab with aT | aT
  ·exact h.own c aT
  ·exact .inr (Nat.le_trans h.fy.size aT)
theorem h4.trans {N:dE}{a av a2:Act}{jq ia:World}{x8:bt}{fY:Nat->bt}{g2:aU}(h1:av.defers=a.defers) (al:hR N a.tmps av.tmps) (cd:kE w I (λc=>∃ t,Fs t c) jq x8 (λc=>∃ t,fY t c)) (h:h4 N av jq x8 fY g2 a2 ia):h4 N a w I Fs g2 a2 ia:=by
 obtain ⟨dn,cZ,A8,iN,b1,mZ⟩:=h
 exact ⟨dn.trans h1,al.trans cZ,A8,iN,b1,cd.trans mZ⟩
theorem cW.TB (h:cW w I T g Fs) {d:Nat}(aV:g d=none) (v:Value):cW w I (T.setIfInBounds d v) g Fs:=by
 have fF:∀ t,g t≠none->(T.setIfInBounds d v)[t]?=T[t]?:=by
  intro t aG
  rw [Array.getElem?_setIfInBounds_ne]
  rintro rfl; exact aG aV
 refine ⟨λt x J=>?_,h.kt,h.e8,h.aD,h.lt,h.pQ⟩
 obtain ⟨u,hu,bh⟩:=h.rel t x J
 exact ⟨u,by rw [fF t (by rw [J]; simp)]; exact hu,h.uV fF (λ_ _ _=>rfl) (λ_ _=>rfl) (λ_ h=>h) (λ_ _ h=>h) bh λ_ _=>rfl⟩
structure Dy (fE:Nat->Bool) (g g2:aU):Prop where
 lv:∀ t x,g2 t=some x->fE t=false->g t=some x/\eY g2 x
 qu:∀ t x,g2 t=some x->fE t=true->∃ y,g t=some y/\c' y/\jt y x
 fP:∀ t z q n m new,g2 t≠some (.b2 z q n m new)
theorem cW.tc (h:cW w I T g Fs) {fE:Nat->Bool}{g2:aU}(bG:Dy fE g g2):∃ I' cq,cW w I' T g2 cq/\kE w I (λc=>∃ t,Fs t c) w I' (λc=>∃ t,cq t c):=by
 have w1:=h.lY
 have zO:∀ t x,g2 t=some x->∀ z p n m new,x≠.b2 z p n m new:=by
  rintro t x J z p n m new rfl
  exact bG.fP _ _ _ _ _ _ J
 -- of each slot what it owns from now on
 have:∀ t,∃ fU:bt,(∀ c,fU c->Fs t c/\g2 t≠none)/\∀ x,g2 t=some x->(fE t=false->∀ c,Fs t c->fU c)/\∃ v,T[t]?=some v/\R w (λc=>I c\/(Fs t c/\¬ fU c)) (ej w T g2) x v fU:=by
  intro t
  cases J:g2 t with
  | none=>exact ⟨cS,λ_ h=>h.elim,λx h=>by cases h⟩
  | some x =>
   cases aG:fE t with
   | false =>
    obtain ⟨h1,al⟩:=bG.lv t x J aG
    obtain ⟨v,hv,bh⟩:=w1.rel t x h1
    refine ⟨Fs t,λc ab=>⟨ab,by simp⟩,λy ay=>?_⟩
    cases ay
    exact ⟨λ_ _ h=>h,v,hv,((bh.hT (zO t x J)).bp al).mQ λc ab=>.inl ab⟩
   | true =>
    obtain ⟨y,h1,al,aR⟩:=bG.qu t x J aG
    obtain ⟨v,hv,bh⟩:=w1.rel t y h1
    have jg:=bh.hT (by rintro z p n m new rfl; cases al)
    obtain ⟨fU,aP,Qz⟩:=R.fE aR jg al (λc ab=>w1.aD t c ab) w1.lt
    refine ⟨fU,λc ab=>⟨aP c ab,by simp⟩,λz bG=>?_⟩
    cases bG
    exact ⟨λh=>absurd h (by simp),v,hv,Qz.bI (aR.bI al)⟩
 obtain ⟨cq,jf⟩:=Classical.axiomOfChoice this
 refine ⟨λc=>I c\/∃ t,Fs t c/\g2 t≠none/\¬ cq t c,cq,⟨λt x J=>?_,λt aG c ab=>((jf t).1 c ab).2 aG,λt dh c ab fq=>h.e8 t dh c ((jf t).1 c ab).1 ((jf dh).1 c fq).1,λt c ab hi=>?_,λc ab=>?_,λt dh z p n m new cG cT b7 da h1 _=>absurd h1 (bG.fP _ _ _ _ _ _)⟩,Fr.refl _ _,λ_ h=>.inl h,λc ab=>?_,λc ⟨t,ab⟩=>.inl ⟨t,((jf t).1 c ab).1⟩⟩
 ·obtain ⟨_,v,hv,bh⟩:=(jf t).2 x J
  exact ⟨v,hv,.tree (bh.mQ λc ab=>ab.elim .inl λab=>.inr ⟨t,ab.1,by rw [J]; simp,ab.2⟩)⟩
 ·rcases hi with aT | ⟨s,h1,_,al⟩
  ·exact h.aD t c ((jf t).1 c ab).1 aT
  ·have:=h.e8 t s c ((jf t).1 c ab).1 h1
   subst this
   exact al ab
 ·rcases ab with aT | ⟨s,aT,_⟩
  ·exact h.lt c aT
  ·exact h.jN s c aT
 ·rcases ab with aT | ⟨s,aT,_⟩
  ·exact .inl aT
  ·exact .inr (.inl ⟨s,aT⟩)
theorem oD.sound (h:cW w I T g Fs) {a:Act}(bg:a.tmps=T) (bY:a.tmps.size=N.size) {o:Oper}{r:Option ag}{d:Nat}(aP:oD P g ops o r) (aV:o.dst=some d) (a7:g d=none) (jh:N.ok d=true) {K:Act->World->Prop}{Q:Exit->Act->World->Prop}
  (eC:∀ cy w',h4 N a w I Fs (vK g d r) cy w'->K cy w') :
  if Region.wanted o (yielded ops a.tmps) then o.wp P a w K Q\/(o.asks P a w/\LetsOut Q) else K (a.put o.dst undef) w:=by
 subst bg
 cases r with
 | none =>
  rw [iP.sound h aP]
  simp only [Bool.false_eq_true,if_false]
  refine eC _ _ ⟨by rw [aV]; rfl,by rw [aV]; exact hR.put jh _ _,I,Fs,by rw [aV]; exact h.TB a7 _,kE.refl _ _ _⟩
 | some x =>
  have fin:∀ x v w',sU w I a.tmps g Fs x v w'->(∀ cy w',h4 N a w I Fs (e2 g d x) cy w'->K cy w')->K (a.put o.dst v) w':=by
   rintro x v w' ⟨F,I',b1,bh,h1,al,aR,b3,c3,eg⟩ eC
   refine eC _ _ ⟨by rw [aV]; rfl,by rw [aV]; exact hR.put jh _ _,I',_,by rw [aV]; exact b1.sw a7 (by rw [bY]; exact dE.lt jh) bh (λt c ab bj=>h1 t c ab bj) (λc ab=>(al c ab).2) eg,⟨c3,aR,λc ab=>?_,λc ab=>?_⟩⟩
   ·rcases b3 c ab with aT | aT
    ·exact .inl aT
    ·exact .inr (.inr aT)
   ·rcases ue ab with aT | aT
    ·exact .inl aT
    ·exact .inr (al c aT).1
  have qu:∀ y v w',c' y->View (λ_=>none) y x->sU w I a.tmps g Fs y v w'->sU w I a.tmps g Fs x v w':=by
   rintro y v w' aN hv ⟨F,I',b1,bh,h1,al,aR,b3,c3,eg⟩
   have dQ:=bh.hT (by rintro z p n m new rfl; cases aN)
   refine ⟨cS,λc=>I' c\/F c,⟨λt z bG=>?_,b1.kt,b1.e8,λt c ab hi=>?_,λc ab=>?_,b1.pQ⟩,.tree (dQ.qu aN hv (λc ab=>(al c ab).2) b1.lt),λ_ _ h=>h.elim,λ_ h=>h.elim,λc ab=>.inl (aR c ab),λc ab=>?_,c3,?_⟩
   ·obtain ⟨u,hu,l7⟩:=b1.rel t z bG
    exact ⟨u,hu,l7.mQ λc ab=>.inl ab⟩
   ·rcases hi with h | h
    ·exact b1.aD t c ab h
    ·exact h1 t c h ab
   ·rcases ab with h | h
    ·exact b1.lt c h
    ·exact dQ.lt c h
   ·rcases ab with h | h
    ·exact b3 c h
    ·exact .inr (al c h).1
   ·rintro z p n m new rfl
    cases hv with
    | self h=>cases h
  rcases aP with aP | ⟨aP,rfl⟩ | ⟨aP,y,aF,aN,hv⟩
  rotate_left
  rotate_left
  ·rw [iP.sound h aP]
   simp only [if_true]
   refine .inl ?_
   have JE:∀ v w',sU w I a.tmps g Fs y v w'->K (a.put o.dst v) w':=λv w' eh=>fin x v w' (qu y v w' aN hv eh) eC
   rcases aF with aF | aF
   ·obtain ⟨v,w',h7,eh⟩:=aF.sound h rfl
    unfold Oper.wp Oper.upon
    simp only [h7]
    exact JE v w' eh
   ·exact aF.sound h rfl JE
  rotate_left
  ·rw [iP.sound h aP]
   simp only [Bool.false_eq_true,if_false]
   refine eC _ _ ⟨by rw [aV]; rfl,by rw [aV]; exact hR.put jh _ _,I,_,by rw [aV]; exact h.sw a7 (by rw [bY]; exact dE.lt jh) (.tree (.cw (Fs:=λ_=>cS) (F:=cS) rfl (λk x u J _=>by simp at J) (λ_ _ _ _ _ h=>h.elim) (λc=>⟨λh=>h.elim,λ⟨_,_,h⟩=>h⟩))) (λ_ _ h=>h.elim) (λ_ h=>h.elim) (λ_ _ _ _ _ e=>by cases e),⟨Fr.refl _ _,λ_ h=>h,λ_ h=>.inl h,λc ab=>?_⟩⟩
   rcases ue ab with aT | aT
   ·exact .inl aT
   ·exact aT.elim
  rw [iP.sound h aP.1]
  simp only [if_true]
  refine .inl ?_
  have fin:∀ v w',sU w I a.tmps g Fs x v w'->K (a.put o.dst v) w':=by
   rintro v w' ⟨F,I',b1,bh,h1,al,aR,b3,c3,eg⟩
   refine eC _ _ ⟨by rw [aV]; rfl,by rw [aV]; exact hR.put jh _ _,I',_,by rw [aV]; exact b1.sw a7 (by rw [bY]; exact dE.lt jh) bh (λt c ab bj=>h1 t c ab bj) (λc ab=>(al c ab).2) eg,⟨c3,aR,λc ab=>?_,λc ab=>?_⟩⟩
   ·rcases b3 c ab with aT | aT
    ·exact .inl aT
    ·exact .inr (.inr aT)
   ·rcases ue ab with aT | aT
    ·exact .inl aT
    ·exact .inr (al c aT).1
  rcases aP.2 with aF | aF
  ·obtain ⟨v,w',h7,eh⟩:=aF.sound h rfl
   unfold Oper.wp Oper.upon
   simp only [h7]
   exact fin v w' eh
  ·exact aF.sound h rfl fin
inductive ns (P:Program) (N:dE) (ops:Array Oper):List Nat->aU->aU->Prop
 | nil {g:aU}:ns P N ops [] g g
 | step {i:Nat}{rest:List Nat}{g g':aU}{o:Oper}{d:Nat}{r:Option ag}(bf:ops[i]?=some o) (aV:o.dst=some d) (a7:g d=none) (jh:N.ok d=true) (aP:oD P g ops o r)
   (aw:ns P N ops rest (vK g d r) g'):ns P N ops (i::rest) g g'
 | nZ {i:Nat}{rest:List Nat}{g g1 g':aU}{o:Oper}(bf:ops[i]?=some o) (hw:iP g ops o true) (he:cm P N g o g1) (aw:ns P N ops rest g1 g'):ns P N ops (i::rest) g g'
 | drop {is:List Nat}{g g':aU}{d:Nat}{x:ag}(aV:g d=some x) (ao:leaf x=true) (aw:ns P N ops is (del g d) g'):ns P N ops is g g'
 | forget {is:List Nat}{g g1 g':aU}(hk:gd g g1) (aw:ns P N ops is g1 g'):ns P N ops is g g'
 | tc {is:List Nat}{g g1 g':aU}{fE:Nat->Bool}(hk:Dy fE g g1) (aw:ns P N ops is g1 g'):ns P N ops is g g'
theorem ns.sound {is:List Nat}{g':aU}(aw:ns P N ops is g g'):∀ {a:Act}{w:World}{I:bt}{Fs:Nat->bt}{Q:Exit->Act->World->Prop},cW w I a.tmps g Fs->a.tmps.size=N.size ->
  (∀ cy w',h4 N a w I Fs g' cy w'->Q .normal cy w')->wpOps P ops Q is a w:=by
 induction aw with
 | nil=>exact λb1 bY dP=>dP _ _ ⟨rfl,hR.refl,_,_,b1,kE.refl _ _ _⟩
 | @step i rest g g' o d r bf aV a7 jh aP _ aS =>
  intro a w I Fs Q b1 bY dP
  simp only [wpOps,bf]
  refine aP.sound b1 rfl bY aV a7 jh λcy w' aN=>?_
  obtain ⟨dn,cZ,I',cq,eD,cd⟩:=aN
  exact aS eD (cZ.1.trans bY) λa2 ia al=>dP _ _ (h4.trans dn cZ cd al)
 | @nZ i rest g g1 g' o bf hw he _ aS =>
  intro a w I Fs Q b1 bY dP
  simp only [wpOps,bf,hw.sound b1,if_true]
  refine .inl (he.sound b1 rfl bY λcy w' aN=>?_)
  obtain ⟨dn,cZ,I',cq,eD,cd⟩:=aN
  exact aS eD (cZ.1.trans bY) λa2 ia al=>dP _ _ (h4.trans dn cZ cd al)
 | @drop is g g' d x aV ao _ aS=>exact λb1 bY dP=>aS (b1.drop aV ao) bY dP
 | @tc is g g1 g' fE hk _ aS =>
  intro a w I Fs Q b1 bY dP
  obtain ⟨I',cq,eD,cd⟩:=b1.tc hk
  exact aS eD bY λa2 ia al=>dP _ _ (h4.trans rfl hR.refl cd al)
 | @forget is g g1 g' hk _ aS =>
  intro a w I Fs Q b1 bY dP
  have eD:=b1.lY.keep hk
  refine aS eD bY λa2 ia al=>dP _ _ (h4.trans rfl hR.refl ⟨Fr.refl _ _,λ_ h=>h,λ_ h=>.inl h,λc ab=>?_⟩ al)
  obtain ⟨t,_,ab⟩:=ab
  exact .inl ⟨t,ab⟩
end
end Go.Own
namespace Go.Own
open Go
def sB (rs:List Nat):Place->Prop:=λp=>p.root∈rs
def oy (P:Program) (N:dE) (rs:Place->Prop) (g:aU) (o:Oper) (g':aU):Prop :=
 ∀ (w:World) (I:bt) (T:Array Value) (Fs:Nat->bt),cW w I T g Fs->∀ (a:Act),a.tmps=T->a.tmps.size=N.size->∀ (K:Act->World->Prop) (Q:Exit->Act->World->Prop),
  (∀ (cy:Act) (w':World),h4 N a w I Fs g' cy w'->(∀ t,o.dst≠some t->cy.tmps[t]?=a.tmps[t]?)->(∀ r path,rs ⟨r,path⟩->∀ y,b8 g ⟨r,path⟩=some y->(∀ z q n m new,y≠.b2 z q n m new)->ep w' cy.tmps ⟨r,path⟩=ep w T ⟨r,path⟩)->K cy w')->o.wp P a w K Q
theorem l1.v {P:Program}{N:dE}{g g':aU}{o:Oper}(h:l1 P N g o g'):oy P N (sB []) g o g' :=
 λw I T Fs b1 a bg bY K Q eC=>h w I T Fs b1 a bg bY K Q λcy w' h1 al=>eC cy w' h1 al λ_ _ h=>by simp [sB] at h
inductive oA:ag->Prop
 | lit {v:Value}:oA (.lit v)
 | aJ:oA .aJ
 | aD {z n:Nat}{cs:List ag}(h:∀ x∈cs,c' x):oA (.aD z n cs)
 | agg {cs:List ag}(h:∀ x∈cs,oA x):oA (.agg cs)
theorem oA.bI {x:ag}(h:oA x):c' x:=by
 induction h with
 | lit=>exact .lit
 | aJ=>exact .aJ
 | aD h=>exact .aD h
 | agg _ aS=>exact .agg aS
theorem oA.kt {w:World}{I:bt}{ρ:ag->Value->Prop}{x:ag}(h:oA x):∀ {v:Value}{F:bt},R w I ρ x v F->∀ c,¬ F c:=by
 induction h with
 | lit =>
  intro v F bh
  cases bh with
  | lit _ aQ=>exact aQ
  | ref J=>simp [ag.isRef] at J
 | aJ =>
  intro v F bh
  cases bh with
  | aJ aQ=>exact aQ
  | ref J=>simp [ag.isRef] at J
 | aD =>
  intro v F bh
  cases bh with
  | ref J=>simp [ag.isRef] at J
  | hM aQ=>exact aQ
  | aD aQ=>exact aQ
 | @agg cs _ aS =>
  intro v F bh c ab
  cases bh with
  | ref J=>simp [ag.isRef] at J
  | @agg _ vs bR _ ao h1 aw aV kL =>
   obtain ⟨k,hk,al⟩:=(kL c).1 ab
   have hu:vs[k]?=some (vs[k]'(by omega)):=Array.getElem?_eq_getElem (by omega)
   exact aS _ (List.getElem_mem hk) (aw k _ _ (List.getElem?_eq_getElem hk) hu) c al
structure Dw (g:aU):Prop where
 bp:∀ t x,g t=some x->eY g x
 fP:∀ t z q n m new,g t≠some (.b2 z q n m new)
def ye (rs:Place->Prop) (g g1:aU) (o:Oper) (x:ag):Prop:=(∃ r path z n N cs,x=.bm z ⟨r,path⟩ n/\rs ⟨r,path⟩/\b8 g ⟨r,path⟩=some (.own z N cs)/\b8 g1 ⟨r,path⟩=some (.own z N cs)/\n<=N)\/(∃ v,x=.lit v)\/(∃ s p k,x=.ptr p k/\g s=some x/\g1 s=some x/\o.dst≠some s)\/(∃ r k cs,x=.ptr ⟨r,[]⟩ k/\g1 r=some (.obj cs)/\k<cs.length/\o.dst≠some r/\∃ cs',g r=some (.obj cs')/\k<cs'.length)\/(∃ z n cs,x=.aD z n cs/\c' x)\/(∃ cs,x=.agg cs/\oA x/\Dw g)
section
variable {P:Program}{N:dE}{g g1:aU}{o:Oper}
theorem Md {T:Array Value}{t:Nat}{v:Value}(h:T[t]?=some v):T.setIfInBounds t v=T:=by
 apply Array.ext (by simp)
 intro i h1 al
 rw [Array.getElem_setIfInBounds]
 split
 ·rename_i e
  subst e
  have:=(Array.getElem?_eq_some_iff.1 h)
  exact this.2.symm
 ·rfl
theorem cW.Pe {w:World}{I:bt}{T:Array Value}{Fs:Nat->bt}{t:Nat}{x:ag}(h:cW w I T (e2 g t x) Fs) (a7:g t=none) (ab:Dw g) (kK:∀ c,¬ Fs t c):cW w I T g Fs:=by
 have gJ:∀ s y,g s=some y->e2 g t x s=some y:=λs y aP=>by
  unfold e2
  rw [if_neg (λe=>by rw [e,a7] at aP; cases aP)]; exact aP
 have al:=h.lY.keep (g2:=g) ⟨gJ,ab.bp,ab.fP⟩
 have e:(λs c=>g s≠none/\Fs s c)=Fs:=by
  funext s c
  apply propext
  refine ⟨λh=>h.2,λbj=>⟨λaN=>?_,bj⟩⟩
  by_cases aP:s=t
  ·subst aP; exact kK c bj
  ·exact h.kt s (by unfold e2; rw [if_neg aP]; exact aN) c bj
 rw [e] at al
 exact al
theorem oy.extra {rs:Place->Prop}(h:oy P N rs g o g1) {t:Nat}{x:ag}(lp:∀ p,rs p->g p.root≠none) (a7:g t=none) (Ro:g1 t=none) (aG:o.dst≠some t) (J:ye rs g g1 o x):oy P N rs (e2 g t x) o (e2 g1 t x):=by
 intro w I T Fs b1 a bg bY K Q eC
 have FT:e2 g t x t=some x:=by simp [e2]
 have lN:∀ z q n m new,x≠.b2 z q n m new:=by
  rcases J with ⟨r,path,z,n,N,cs,rfl,_⟩ | ⟨v,rfl⟩ | ⟨s,p,k,rfl,_⟩ | ⟨r,k,cs,rfl,_⟩ | ⟨z,n,cs,rfl,_⟩ | ⟨cs,rfl,_⟩ <;> simp
 have q':cW w I T g Fs:=by
  have yk:leaf x=true->cW w I T g Fs:=λw8=>by
   have:=b1.drop FT w8
   have e:del (e2 g t x) t=g:=by
    funext s
    unfold del e2
    by_cases aP:s=t
    ·subst aP; simp [a7]
    ·simp [aP]
   rwa [e] at this
  rcases J with ⟨r,path,z,n,N,cs,rfl,_⟩ | ⟨v,rfl⟩ | ⟨s,p,k,rfl,_⟩ | ⟨r,k,cs,rfl,_⟩ | ⟨z,n,cs,rfl,_⟩ | ⟨cs,rfl,u3,hK⟩
  ·exact yk rfl
  ·exact yk rfl
  ·exact yk rfl
  ·exact yk rfl
  ·exact yk rfl
  ·obtain ⟨v,_,n4⟩:=b1.rel t _ FT
   exact b1.Pe a7 hK (u3.kt (n4.hT (by simp)))
 obtain ⟨v,hv,n4⟩:=b1.rel t x FT
 refine h w I T Fs q' a bg bY K Q λcy w' aN rj KX=>eC cy w' ?_ rj λr path aw y ay lN=>?_
 rotate_left
 ·by_cases KK:r=t
  ·subst KK
   exact absurd a7 (lp _ aw)
  ·exact KX r path aw y (by simpa [b8,e2,KK] using ay) lN
 obtain ⟨dn,cZ,I',cq,eD,cd⟩:=aN
 have iU:cy.tmps[t]?=some v:=by rw [rj t aG,bg]; exact hv
 have jg:jx w' I' (ej w' cy.tmps g1) x v cS:=by
  rcases J with ⟨r,path,z,n,sW,cs,rfl,aw,xb,jK,RI⟩ | ⟨u,rfl⟩ | ⟨s,p,k,rfl,aP,FM,RW⟩ | ⟨r,k,cs,rfl,jK,hk,zk,_⟩ | ⟨z,n,cs,rfl,l'⟩ | ⟨cs,rfl,u3,hK⟩
  ·obtain ⟨⟨av,iO,cap,hE,rfl,k2⟩,_⟩:=(n4.hT (by simp)).mj
   exact .tree (.ref rfl ⟨⟨av,iO,cap,by rw [KX r path aw _ xb (by simp)]; exact hE,rfl,k2⟩,.inl ⟨sW,cs,jK,RI⟩⟩ λ_ h=>h)
  ·obtain ⟨rfl,ab⟩:=(n4.hT (by simp)).h9
   exact .tree (.lit ab λ_ h=>h)
  ·obtain ⟨⟨AP,ad,av,a2,rfl⟩,_⟩:=(n4.hT (by simp)).mN
   have cd:s≠t:=by rintro rfl; rw [a7] at aP; cases aP
   obtain ⟨u,hu,l7⟩:=q'.rel s _ aP
   obtain ⟨⟨Wb,U1,hE,ic,rfl⟩,_⟩:=(l7.hT (by simp)).mN
   rw [av] at hE
   cases hE
   rw [a2] at ic
   cases ic
   obtain ⟨sM,fG,EV⟩:=eD.rel s _ FM
   have:cy.tmps[s]?=T[s]?:=by rw [rj s RW,bg]
   rw [this,hu] at fG
   cases fG
   exact .tree (.ref rfl (EV.hT (by simp)).mN λ_ h=>h)
  ·obtain ⟨⟨AP,ad,av,a2,rfl⟩,_⟩:=(n4.hT (by simp)).mN
   have fF:cy.tmps[r]?=T[r]?:=by rw [rj r zk,bg]
   have tF:∀ (w:World) (T:Array Value),ep w T ⟨r,[]⟩=T[r]?:=λw T=>by
    unfold ep; simp only; cases T[r]? <;> rfl
   exact .tree (.ref rfl ⟨⟨AP,ad,by rw [tF,fF,<- tF w T]; exact av,a2,rfl⟩,⟨.obj cs,by simp [b8,jK,ag.at],0,0,cs,.inr rfl,hk⟩⟩ λ_ h=>h)
  ·have qB:∀ c,I c->w'.heap[c]?=w.heap[c]?:=λc ab=>cd.fy.block c (b1.lt c ab) λ⟨dh,aT⟩=>q'.aD dh c aT ab
   have ES:=(n4.hT (by simp)).bI l' (ρ':=ej w' cy.tmps g1)
   have kK:∀ c,¬ Fs t c:=by
    cases n4.hT (by simp) with
    | ref J=>simp [ag.isRef] at J
    | hM aQ=>exact aQ
    | aD aQ=>exact aQ
   exact .tree ((ES.frame qB cd.more (λ_ _ h=>h) λc ab=>absurd ab (kK c)).empty kK)
  ·have qB:∀ c,I c->w'.heap[c]?=w.heap[c]?:=λc ab=>cd.fy.block c (b1.lt c ab) λ⟨dh,aT⟩=>q'.aD dh c aT ab
   have kK:=u3.kt (n4.hT (by simp))
   have ES:=(n4.hT (by simp)).bI u3.bI (ρ':=ej w' cy.tmps g1)
   exact .tree ((ES.frame qB cd.more (λ_ _ h=>h) λc ab=>absurd ab (kK c)).empty kK)
 have mG:=eD.sw (d:=t) (x:=x) (v:=v) (F:=cS) Ro (Array.getElem?_eq_some_iff.1 iU).1 jg (λ_ _ h=>h.elim) (λ_ h=>h.elim) (λz p n m new e=>absurd e (lN _ _ _ _ _))
 rw [Md iU] at mG
 refine ⟨dn,cZ,I',_,mG,⟨cd.fy,cd.more,cd.new,λc ab=>?_⟩⟩
 rcases ue ab with aT | aT
 ·exact cd.own c aT
 ·exact aT.elim
theorem l1.frame {g0 EA:aU}{r:Nat}{x:ag}(h:l1 P N g0 o EA) (aw:g r=some x) (J:c' x) (hk:gd g g0) (bc:g0 r=none) (h1:EA r=none) (aV:o.dst≠some r):oy P N (sB [r]) g o (e2 EA r x):=by
 intro w I T Fs b1 a bg bY K Q eC
 have q':=b1.lY.keep hk
 refine h w I T _ q' a bg bY K Q λcy w' aN rj=>?_
 obtain ⟨dn,cZ,I',cq,eD,cd⟩:=aN
 obtain ⟨u,hu,bh⟩:=b1.rel r x aw
 have fG:cy.tmps[r]?=some u:=by rw [rj r aV,bg]; exact hu
 have lN:∀ z q n m new,x≠.b2 z q n m new:=by rintro z q n m new rfl; cases J
 have off:∀ c,Fs r c->¬ ∃ t,(g0 t≠none/\Fs t c):=by
  rintro c ab ⟨t,jQ,al⟩
  have:=b1.e8 t r c al ab
  subst this
  exact jQ bc
 have same:∀ c,Fs r c->w'.heap[c]?=w.heap[c]?:=λc ab=>cd.fy.block c (b1.jN r c ab) (off c ab)
 have qB:∀ c,I c->w'.heap[c]?=w.heap[c]?:=λc ab=>cd.fy.block c (b1.lt c ab) λ⟨t,_,aT⟩=>b1.aD t c aT ab
 have mG:=eD.sw (d:=r) (x:=x) (v:=u) (F:=Fs r) h1 (Array.getElem?_eq_some_iff.1 fG).1 (.tree (((bh.hT lN).bI J).frame qB cd.more (λ_ _ h=>h) same)) (λt c ab bj=>by
   rcases cd.own c ⟨t,bj⟩ with aT | aT
   ·exact off c ab aT
   ·have:=b1.jN r c ab; omega) (λc ab hi=>by
   rcases cd.new c hi with aT | aT | aT
   ·exact b1.aD r c ab aT
   ·exact off c ab aT
   ·have:=b1.jN r c ab; omega) (λz p n m new e=>absurd e (lN _ _ _ _ _))
 rw [Md fG] at mG
 refine eC cy w' ⟨dn,cZ,I',_,mG,⟨cd.fy.mono λb _ ⟨t,_,aT⟩=>⟨t,aT⟩,cd.more,λc ab=>?_,λc ab=>?_⟩⟩ rj λe5 path eQ y ay hyp=>?_
 ·rcases cd.new c ab with aT | ⟨t,_,aT⟩ | aT
  ·exact .inl aT
  ·exact .inr (.inl ⟨t,aT⟩)
  ·exact .inr (.inr aT)
 ·rcases ue ab with aT | aT
  ·rcases cd.own c aT with ⟨t,_,gD⟩ | gD
   ·exact .inl ⟨t,gD⟩
   ·exact .inr gD
  ·exact .inl ⟨r,aT⟩
 ·have eQ:e5∈[r]:=eQ
  simp only [List.mem_singleton] at eQ
  subst eQ
  have hl:gd g (λt=>if t=e5 then some x else none):=by
   refine ⟨λt y kl=>?_,λt y kl=>?_,λt z q n m new kl=>?_⟩
   all_goals
    by_cases e:t=e5
    case neg=>simp [e] at kl
   ·subst e; simp at kl; subst kl; exact aw
   ·subst e; simp at kl; subst kl; exact .bI J
   ·subst e; simp at kl; exact lN _ _ _ _ _ kl
  refine (b1.lY.keep hl).vZ (T':=cy.tmps) (λt aG=>?_) (λt c ab=>?_) (p:=⟨e5,path⟩) (y:=y) ?_
  ·by_cases e:t=e5
   ·subst e; rw [rj t aV,bg]
   ·simp [e] at aG
  ·by_cases e:t=e5
   ·subst e; exact same c ab.2
   ·simp [e] at ab
  ·simp only [b8,if_true]
   simpa [b8,aw] using ay
end
end Go.Own
namespace Go.Own
open Go
abbrev Acc:=List (Nat × Nat × Option ag)
def ed (g0:aU) (A:Nat->Bool):Acc->aU
 | [],t=>g0 t
 | (k,d,r)::acc,t=>if d=t then (if A k then r else none) else ed g0 A acc t
def mr:Nat × Nat × Option ag->Option Place
 | (_,_,some (.b2 _ p _ _ _))=>some p
 | _=>none
def qT (ops:Array Oper) (cc:List (List Nat)):Bool :=
 (List.range ops.size).all λk =>
  match ops[k]? with
  | none=>true
  | some o=>(o.after.all λe=>!Region.binds .any e||decide (e.on<k))&&(cc.getD k []).all λm=>decide (m<k)&&o.after.any λe=>Region.binds .any e&&(e.on == m||(cc.getD e.on []).contains m)
inductive iF (P:Program) (N:dE) (ops:Array Oper) (cc:List (List Nat)) (g0:aU) (i:Nat) (ek:Acc):Nat->Acc->Prop
 | nil:iF P N ops cc g0 i ek i ek
 | step {ae:Nat}{acc:Acc}{o:Oper}{d:Nat}{r:Option ag}(h:iF P N ops cc g0 i ek ae acc) (bf:ops[ae]?=some o) (aV:o.dst=some d) (a7:g0 d=none) (aN:∀ e∈acc,e.2.1≠d) (jh:N.ok d=true)
   (aP:oD P (ed g0 (λm=>(cc.getD ae []).contains m) acc) ops o r):iF P N ops cc g0 i ek (ae+1) ((ae,d,r)::acc)
structure my (P:Program) (N:dE) (ops:Array Oper) (cc:List (List Nat)) (g0:aU) (i:Nat) (ek:Acc):Prop where
 lt:∀ e∈ek,e.1<i
 free:∀ e∈ek,g0 e.2.1=none
 nd:(ek.map (·.2.1)).Nodup
 Mx:∀ e∈ek,∀ cQ∈ek,(e.1=cQ.1\/e.2.1=cQ.2.1)->e=cQ
 st:∀ e∈ek,∃ hA,ops[e.1]?=some hA/\hA.dst=some e.2.1/\N.ok e.2.1=true/\oD P (ed g0 (λm=>(cc.getD e.1 []).contains m) ek) ops hA e.2.2
theorem my.nil {P:Program}{N:dE}{ops:Array Oper}{cc:List (List Nat)}{g0:aU}{i:Nat}:my P N ops cc g0 i []:=⟨by simp,by simp,by simp,by simp,by simp⟩
inductive qN (P:Program) (N:dE) (ops:Array Oper) (cc:List (List Nat)):Nat->Acc->aU->aU->Prop
 | fin {i:Nat}{ek:Acc}{g:aU}{acc:Acc}(aP:iF P N ops cc g i ek ops.size acc) (hS:(acc.filterMap mr).Nodup) (ji:∀ t z q n m new,g t≠some (.b2 z q n m new)):qN P N ops cc i ek g (ed g (λ_=>true) acc)
 | yh {i ae:Nat}{g g1 g':aU}{ek acc U:Acc}{o:Oper}{rs:Place->Prop}(aP:iF P N ops cc g i ek ae acc) (hS:(acc.filterMap mr).Nodup) (ji:∀ t z q n m new,g t≠some (.b2 z q n m new)) (bf:ops[ae]?=some o) (hw:iP (ed g (λm=>(cc.getD ae []).contains m) acc) ops o true)
   (he:oy P N rs (ed g (λm=>(cc.getD ae []).contains m) acc) o g1) (lp:∀ p,rs p->g p.root≠none) (gO:U=acc.filter λe=>!(cc.getD ae []).contains e.1) (J:∀ e∈U,∃ x,e.2.2=some x/\ye rs (ed g (λm=>(cc.getD ae []).contains m) acc) g1 o x) (h1:∀ e∈U,g1 e.2.1=none/\o.dst≠some e.2.1)
   (al:∀ e∈U,∃ hA,ops[e.1]?=some hA/\hA.dst=some e.2.1/\N.ok e.2.1=true/\oD P (ed g1 (λm=>(cc.getD e.1 []).contains m) U) ops hA e.2.2)
   (aI:(List.range ops.size).all (λk=>decide (k<=ae)||(cc.getD k []).contains ae)=true) (aw:qN P N ops cc (ae+1) U g1 g'):qN P N ops cc i ek g g'
theorem lf {g0:aU}{A:Nat->Bool}{acc:Acc}{t:Nat}(h:∀ e∈acc,e.2.1≠t):ed g0 A acc t=g0 t:=by
 induction acc with
 | nil=>rfl
 | cons e acc aS =>
  obtain ⟨k,d,r⟩:=e
  simp only [ed]
  rw [if_neg (h (k,d,r) (by simp)),aS λe he=>h e (by simp [he])]
theorem sO {g0:aU}{A:Nat->Bool}{acc:Acc}{t:Nat}{x:ag}(h:ed g0 A acc t=some x):(∃ e∈acc,e.2.1=t/\A e.1=true/\e.2.2=some x)\/((∀ e∈acc,e.2.1≠t)/\g0 t=some x):=by
 induction acc with
 | nil=>exact .inr ⟨by simp,h⟩
 | cons e acc aS =>
  obtain ⟨k,d,r⟩:=e
  simp only [ed] at h
  by_cases aV:d=t
  ·rw [if_pos aV] at h
   by_cases dW:A k=true
   ·rw [if_pos dW] at h; exact .inl ⟨(k,d,r),by simp,aV,dW,h⟩
   ·rw [if_neg dW] at h; cases h
  ·rw [if_neg aV] at h
   rcases aS h with ⟨e,he,r⟩ | ⟨h1,al⟩
   ·exact .inl ⟨e,by simp [he],r⟩
   ·refine .inr ⟨λe he=>?_,al⟩
    rcases List.mem_cons.1 he with rfl | he
    ·exact aV
    ·exact h1 e he
theorem Hx {g:aU}{A:Nat->Bool}{acc:Acc}(hu:∀ e∈acc,∀ cQ∈acc,e.2.1=cQ.2.1->e=cQ) {e:Nat × Nat × Option ag}(he:e∈acc):ed g A acc e.2.1=if A e.1 then e.2.2 else none:=by
 induction acc with
 | nil=>cases he
 | cons a acc aS =>
  obtain ⟨k,d,r⟩:=a
  simp only [ed]
  by_cases aV:d=e.2.1
  ·have:=hu (k,d,r) (by simp) e he aV
   subst this
   simp
  ·rw [if_neg aV]
   rcases List.mem_cons.1 he with rfl | he
   ·exact absurd rfl aV
   ·exact aS (λx J y ay=>hu x (by simp [J]) y (by simp [ay])) he
section
variable {P:Program}{N:dE}{ops:Array Oper}{cc:List (List Nat)}{g0:aU}{i:Nat}
variable {ek:Acc}
theorem iF.le {ae:Nat}{acc:Acc}(h:iF P N ops cc g0 i ek ae acc) (gO:my P N ops cc g0 i ek):i<=ae/\∀ e∈acc,e.1<ae:=by
 induction h with
 | nil=>exact ⟨Nat.le_refl _,gO.lt⟩
 | step _ _ _ _ _ _ _ aS =>
  refine ⟨by omega,λe he=>?_⟩
  rcases List.mem_cons.1 he with rfl | he
  ·simp
  ·have:=aS.2 e he; omega
theorem iF.ge {ae:Nat}{acc:Acc}(h:iF P N ops cc g0 i ek ae acc) (gO:my P N ops cc g0 i ek):∀ e∈acc,e∈ek\/i<=e.1:=by
 induction h with
 | nil=>exact λe he=>.inl he
 | step aP _ _ _ _ _ _ aS =>
  intro e he
  rcases List.mem_cons.1 he with rfl | he
  ·exact .inr (aP.le gO).1
  ·exact aS e he
theorem iF.Ho {ae:Nat}{acc:Acc}(h:iF P N ops cc g0 i ek ae acc):∀ e∈ek,e∈acc:=by
 induction h with
 | nil=>exact λe he=>he
 | step _ _ _ _ _ _ _ aS=>exact λe he=>by simp [aS e he]
theorem iF.fresh {ae:Nat}{acc:Acc}(h:iF P N ops cc g0 i ek ae acc) (gO:my P N ops cc g0 i ek):∀ e∈acc,g0 e.2.1=none:=by
 induction h with
 | nil=>exact gO.free
 | step _ _ _ a7 _ _ _ aS =>
  intro e he
  rcases List.mem_cons.1 he with rfl | he
  ·exact a7
  ·exact aS e he
theorem iF.nodup {ae:Nat}{acc:Acc}(h:iF P N ops cc g0 i ek ae acc) (gO:my P N ops cc g0 i ek):(acc.map (·.2.1)).Nodup:=by
 induction h with
 | nil=>exact gO.nd
 | step _ _ _ _ aN _ _ aS =>
  refine List.nodup_cons.2 ⟨λhm=>?_,aS⟩
  obtain ⟨e,he,h⟩:=List.mem_map.1 hm
  exact aN e he h
theorem iF.uniq {ae:Nat}{acc:Acc}(h:iF P N ops cc g0 i ek ae acc) (gO:my P N ops cc g0 i ek):∀ {e cQ:Nat × Nat × Option ag},e∈acc->cQ∈acc->(e.1=cQ.1\/e.2.1=cQ.2.1)->e=cQ:=by
 induction h with
 | nil=>exact λ{e cQ} he hX b9=>gO.Mx e he cQ hX b9
 | @step ae acc o d r aP _ _ _ aN _ _ aS =>
  intro e cQ he hX b9
  rcases List.mem_cons.1 he with rfl | he <;> rcases List.mem_cons.1 hX with rfl | hX
  ·rfl
  ·rcases b9 with b9 | b9
   ·have:=(aP.le gO).2 cQ hX; simp at b9; omega
   ·exact absurd b9.symm (aN cQ hX)
  ·rcases b9 with b9 | b9
   ·have:=(aP.le gO).2 e he; simp at b9; omega
   ·exact absurd b9 (aN e he)
  ·exact aS he hX b9
theorem iF.at_mem {ae:Nat}{acc:Acc}(h:iF P N ops cc g0 i ek ae acc) (gO:my P N ops cc g0 i ek) {A:Nat->Bool}{e:Nat × Nat × Option ag}(he:e∈acc):ed g0 A acc e.2.1=if A e.1 then e.2.2 else none :=
 Hx (λ_ J _ ay aT=>h.uniq gO J ay (.inr aT)) he
theorem iF.get {ae:Nat}{acc:Acc}(h:iF P N ops cc g0 i ek ae acc) (gO:my P N ops cc g0 i ek):∀ e∈acc,∃ o wE,ops[e.1]?=some o/\o.dst=some e.2.1/\N.ok e.2.1=true/\oD P (ed g0 (λm=>(cc.getD e.1 []).contains m) wE) ops o e.2.2/\∀ e∈wE,e∈acc:=by
 induction h with
 | nil =>
  intro e he
  obtain ⟨hA,h1,al,aR,b3⟩:=gO.st e he
  exact ⟨hA,ek,h1,al,aR,b3,λ_ h=>h⟩
 | @step ae acc o d r aP bf aV a7 aN jh cd aS =>
  intro e he
  rcases List.mem_cons.1 he with rfl | he
  ·exact ⟨o,acc,bf,aV,jh,cd,λe he=>by simp [he]⟩
  ·obtain ⟨hA,wE,av,a2,a3,a4,a5⟩:=aS e he
   exact ⟨hA,wE,av,a2,a3,a4,λe he=>by simp [a5 e he]⟩
theorem iF.has {ae:Nat}{acc:Acc}(h:iF P N ops cc g0 i ek ae acc):∀ k,i<=k->k<ae->∃ e∈acc,e.1=k:=by
 induction h with
 | nil=>intro k h1 al; omega
 | @step ae acc o d r aP bf aV a7 aN jh cd aS =>
  intro k h1 al
  by_cases hk:k=ae
  ·exact ⟨_,List.mem_cons_self,hk.symm⟩
  ·obtain ⟨e,he,h⟩:=aS k h1 (by omega)
   exact ⟨e,by simp [he],h⟩
theorem Ts {acc:Acc}(hS:(acc.filterMap mr).Nodup) {e cQ:Nat × Nat × Option ag}{p:Place}(he:e∈acc) (hX:cQ∈acc) (h:mr e=some p) (aT:mr cQ=some p):e=cQ:=by
 induction acc with
 | nil=>simp at he
 | cons a acc aS =>
  have mem:∀ {x:Nat × Nat × Option ag},x∈acc->mr x=some p->p∈acc.filterMap mr:=λJ aF=>List.mem_filterMap.2 ⟨_,J,aF⟩
  rcases List.mem_cons.1 he with rfl | Kg <;> rcases List.mem_cons.1 hX with rfl | Kh
  ·rfl
  ·rw [List.filterMap_cons,h] at hS
   exact absurd (mem Kh aT) (List.nodup_cons.1 hS).1
  ·rw [List.filterMap_cons,aT] at hS
   exact absurd (mem Kg h) (List.nodup_cons.1 hS).1
  ·refine aS ?_ Kg Kh
   rw [List.filterMap_cons] at hS
   cases aF:mr a with
   | none=>rw [aF] at hS; exact hS
   | some q=>rw [aF] at hS; exact (List.nodup_cons.1 hS).2
def e4 (listed:Array Bool) (k:Nat):Bool:=listed.getD k false
def hF (ops:Array Oper) (listed:Array Bool):Nat:=((List.range ops.size).filter λk=>!e4 listed k).length
theorem uD {listed:Array Bool}{k:Nat}(hk:k<ops.size) (ao:e4 listed k=false) (gh:listed.size=ops.size):hF ops (listed.setIfInBounds k true)+1<=hF ops listed:=by
 unfold hF
 have key:∀ l:List Nat,l.Nodup->((l.filter λae=>!e4 (listed.setIfInBounds k true) ae).length+if k∈l then 1 else 0)=(l.filter λae=>!e4 listed ae).length:=by
  intro l
  induction l with
  | nil=>intro _; simp
  | cons ae l aS =>
   intro ga
   have KA:=List.nodup_cons.1 ga
   have K5:=aS KA.2
   by_cases eM:ae=k
   ·subst eM
    have h1:e4 (listed.setIfInBounds ae true) ae=true:=by simp [e4,gh,hk]
    rw [List.filter_cons,List.filter_cons]
    simp only [h1,ao,Bool.not_true,Bool.not_false,if_true,if_false,Bool.false_eq_true,List.length_cons,List.mem_cons,true_or]
    rw [if_neg KA.1] at K5
    omega
   ·have h1:e4 (listed.setIfInBounds k true) ae=e4 listed ae:=by simp [e4,Array.getElem?_setIfInBounds_ne (Ne.symm eM)]
    rw [List.filter_cons,List.filter_cons,h1]
    have l_:(k∈ae::l)↔k∈l:=by simp [Ne.symm eM]
    by_cases aI:(!e4 listed ae)=true
    ·simp only [aI,if_true,List.length_cons,l_]; omega
    ·simp only [aI,l_]; simpa using K5
 have:=key (List.range ops.size) List.nodup_range
 rw [if_pos (List.mem_range.2 hk)] at this
 omega
end
end Go.Own
namespace Go.Own
open Go
section
variable {P:Program}{N:dE}{ops:Array Oper}{cc:List (List Nat)}
def Down (cc:List (List Nat)) (listed:Array Bool):Prop:=∀ k,e4 listed k=true->∀ m∈cc.getD k [],e4 listed m=true
theorem Ia (h:qT ops cc=true) {k:Nat}{o:Oper}(bf:ops[k]?=some o) :
  (∀ e∈o.after,Region.binds .any e=true->e.on<k)/\∀ m∈cc.getD k [],m<k/\∃ e∈o.after,Region.binds .any e=true/\(e.on=m\/m∈cc.getD e.on []):=by
 have hk:k<ops.size:=(Array.getElem?_eq_some_iff.1 bf).1
 unfold qT at h
 have:=List.all_eq_true.1 h k (List.mem_range.2 hk)
 simp only [bf,Bool.and_eq_true] at this
 obtain ⟨h1,al⟩:=this
 constructor
 ·intro e he aI
  have:=Array.all_eq_true_iff_forall_mem.1 h1 e he
  simpa [aI] using this
 ·intro m hm
  have:=List.all_eq_true.1 al m hm
  simp only [Bool.and_eq_true,decide_eq_true_eq] at this
  refine ⟨this.1,?_⟩
  obtain ⟨ae,aa,aI⟩:=Array.any_eq_true.1 this.2
  have he:=Array.getElem_mem aa
  generalize o.after[ae]=e at aI he
  simp only [Bool.and_eq_true,Bool.or_eq_true,beq_iff_eq,List.contains_iff_mem] at aI
  exact ⟨e,he,aI.1,aI.2⟩
theorem vL {listed:Array Bool}{k:Nat}(h:k∈Region.ready .any ops listed):e4 listed k=false/\∃ o,ops[k]?=some o/\∀ e∈o.after,Region.binds .any e=true->e4 listed e.on=true:=by
 obtain ⟨h1,o,bf,al⟩:=mem_ready.1 h
 refine ⟨?_,o,bf,al⟩
 unfold e4
 rcases Nat.lt_or_ge k listed.size with hk | hk
 ·simp [hk] at h1 ⊢; exact h1
 ·simp [Array.getElem?_eq_none hk] at h1
theorem G6 (dW:qT ops cc=true) {listed:Array Bool}(aV:Down cc listed) {k:Nat}(h:k∈Region.ready .any ops listed):∀ m∈cc.getD k [],e4 listed m=true:=by
 obtain ⟨_,o,bf,al⟩:=vL h
 intro m hm
 obtain ⟨_,e,he,aI,aR⟩:=(Ia dW bf).2 m hm
 rcases aR with rfl | aR
 ·exact al e he aI
 ·exact aV e.on (al e he aI) m aR
theorem LK (dW:qT ops cc=true) {listed:Array Bool}(gh:listed.size=ops.size):∀ k,k<ops.size->e4 listed k=false->Region.ready .any ops listed≠[]:=by
 intro k
 induction k using Nat.strongRecOn with
 | _ k aS =>
  intro hk ao
  by_cases hex:∃ ae,ae<k/\e4 listed ae=false
  ·obtain ⟨ae,aa,RD⟩:=hex
   exact aS ae aa (by omega) RD
  ·have l_:k∈Region.ready .any ops listed:=by
    refine mem_ready.2 ⟨?_,ops[k],Array.getElem?_eq_getElem hk,λe he aI=>?_⟩
    ·unfold e4 at ao
     simp [gh,hk] at ao ⊢; exact ao
    ·have bd:=(Ia dW (Array.getElem?_eq_getElem hk)).1 e he aI
     cases hle:e4 listed e.on with
     | true=>exact hle
     | false=>exact absurd ⟨e.on,bd,hle⟩ hex
   intro e
   rw [e] at l_
   cases l_
theorem AQ {g0:aU}{A B:Nat->Bool}{acc:Acc}{t:Nat}(h:∀ e∈acc,e.2.1=t->A e.1=B e.1):ed g0 A acc t=ed g0 B acc t:=by
 induction acc with
 | nil=>rfl
 | cons e acc aS =>
  obtain ⟨k,d,r⟩:=e
  simp only [ed]
  by_cases aV:d=t
  ·rw [if_pos aV,if_pos aV,h (k,d,r) (by simp) aV]
  ·rw [if_neg aV,if_neg aV,aS λe he=>h e (by simp [he])]
theorem Ba {listed:Array Bool}{k ae:Nat}(hk:k<listed.size):e4 (listed.setIfInBounds k true) ae=if ae=k then true else e4 listed ae:=by
 by_cases eM:ae=k
 ·subst eM; simp [e4,hk]
 ·rw [if_neg eM]; simp [e4,Array.getElem?_setIfInBounds_ne (Ne.symm eM)]
theorem UB {g0:aU}{i ae:Nat}{acc U ek:Acc}(aP:iF P N ops cc g0 i ek ae acc) (c6:my P N ops cc g0 i ek) {A S:Nat->Bool}(gO:U=acc.filter λe=>!A e.1) (P':∀ e∈acc,A e.1=true->S e.1=true):ed g0 S acc=ed (ed g0 A acc) S U:=by
 subst gO
 funext t
 by_cases hex:∃ e∈acc,e.2.1=t
 ·obtain ⟨e,he,rfl⟩:=hex
  rw [aP.at_mem c6 he]
  by_cases dW:A e.1=true
  ·rw [lf,aP.at_mem c6 he,if_pos dW,if_pos (P' e he dW)]
   intro cQ hX h
   obtain ⟨h1,al⟩:=List.mem_filter.1 hX
   have:=aP.uniq c6 h1 he (.inr h)
   subst this
   simp [dW] at al
  ·rw [Hx (λx J y ay h=>aP.uniq c6 (List.mem_filter.1 J).1 (List.mem_filter.1 ay).1 (.inr h)) (List.mem_filter.2 ⟨he,by simpa using dW⟩)]
 ·rw [lf λe he h=>hex ⟨e,he,h⟩,lf λe he h=>hex ⟨e,(List.mem_filter.1 he).1,h⟩,lf λe he h=>hex ⟨e,he,h⟩]
theorem eY.mono {g g':aU}(a7:∀ t x,g t=some x->g' t=some x) {x:ag}(h:eY g x):eY g' x:=by
 induction h with
 | bI h=>exact .bI h
 | ref J h=>exact .ref J (h.mono a7)
 | own _ aS=>exact .own aS
 | obj _ aS=>exact .obj aS
 | agg _ aS=>exact .agg aS
 | cw _ aS=>exact .cw aS
 | ef _ _ gl gf=>exact .ef gl gf
 | b2 aF _ aS=>exact .b2 (aF.mono a7) aS
theorem Jc {l6 g1:aU}{o:Oper}{S:Nat->Bool}{rs:Place->Prop}(h:oy P N rs l6 o g1) (lp:∀ p,rs p->l6 p.root≠none):∀ (U:Acc),(∀ e∈U,∃ x,e.2.2=some x/\ye rs l6 g1 o x)->(∀ e∈U,l6 e.2.1=none/\g1 e.2.1=none/\o.dst≠some e.2.1)->(U.map (·.2.1)).Nodup->oy P N rs (ed l6 S U) o (ed g1 S U)
 | [],_,_,_=>h
 | (k,d,r)::U,J,h1,ga=>by
  simp only [List.map_cons,List.nodup_cons] at ga
  have aS:=Jc (S:=S) h lp U (λe he=>J e (by simp [he])) (λe he=>h1 e (by simp [he])) ga.2
  obtain ⟨x,e,cd⟩:=J (k,d,r) (by simp)
  simp only at e
  subst e
  obtain ⟨av,a2,a3⟩:=h1 (k,d,some x) (by simp)
  simp only at av a2 a3
  have oV:∀ e∈U,e.2.1≠d:=λe he aT=>ga.1 (List.mem_map.2 ⟨e,he,aT⟩)
  cases b1:S k with
  | true =>
   have e:∀ g:aU,ed g S ((k,d,some x)::U)=e2 (ed g S U) d x:=λg=>by
    funext t
    simp only [ed,e2,b1,if_true]
    by_cases aV:d=t
    ·rw [if_pos aV,if_pos aV.symm]
    ·rw [if_neg aV,if_neg (Ne.symm aV)]
   rw [e,e]
   have CR:∀ r,l6 r≠none->∀ e∈U,e.2.1≠r:=λr aw e he aT=>by
    have:=(h1 e (by simp [he])).1
    rw [aT] at this
    exact aw this
   have Tl:∀ r,g1 r≠none->∀ e∈U,e.2.1≠r:=λr aw e he aT=>by
    have:=(h1 e (by simp [he])).2.1
    rw [aT] at this
    exact aw this
   refine aS.extra (λr aw=>by rw [lf (CR r.root (lp r aw))]; exact lp r aw) (by rw [lf oV]; exact av) (by rw [lf oV]; exact a2) a3 ?_
   rcases cd with ⟨r,path,z,n,sW,cs,rfl,hE,ic,k2,Bq⟩ | ⟨v,rfl⟩ | ⟨s,p,m,rfl,hE,ic,k2⟩ | ⟨s,m,cs,rfl,hE,ic,k2,cs',Bq,NF⟩ | ⟨z,n,cs,rfl,hE⟩ | ⟨cs,rfl,hE,ic⟩
   ·refine .inl ⟨r,path,z,n,sW,cs,rfl,hE,?_,?_,Bq⟩
    ·have:l6 r≠none:=lp _ hE
     simpa [b8,lf (CR r this)] using ic
    ·have:g1 r≠none:=λe=>by simp [b8,e] at k2
     simpa [b8,lf (Tl r this)] using k2
   ·exact .inr (.inl ⟨v,rfl⟩)
   ·refine .inr (.inr (.inl ⟨s,p,m,rfl,?_,?_,k2⟩))
    ·rw [lf]; exact hE
     intro e he aT
     have:=(h1 e (by simp [he])).1
     rw [aT,hE] at this; cases this
    ·rw [lf]; exact ic
     intro e he aT
     have:=(h1 e (by simp [he])).2.1
     rw [aT,ic] at this; cases this
   ·refine .inr (.inr (.inr (.inl ⟨s,m,cs,rfl,?_,ic,k2,cs',?_,NF⟩)))
    ·rw [lf]; exact hE
     intro e he aT
     have:=(h1 e (by simp [he])).2.1
     rw [aT,hE] at this; cases this
    ·rw [lf (CR s (by rw [Bq]; simp))]; exact Bq
   ·exact .inr (.inr (.inr (.inr (.inl ⟨z,n,cs,rfl,hE⟩))))
   ·refine .inr (.inr (.inr (.inr (.inr ⟨cs,rfl,hE,?_⟩))))
    have hle:∀ t y,l6 t=some y->ed l6 S U t=some y:=λt y ay=>by rw [lf (CR t (by rw [ay]; simp))]; exact ay
    refine ⟨λt y ay=>?_,λt z q n m new ay=>?_⟩
    ·rcases sO ay with ⟨cQ,hX,_,_,Ff⟩ | ⟨_,ay⟩
     ·obtain ⟨y',yx,zp⟩:=J cQ (by simp [hX])
      rw [Ff] at yx; cases yx
      rcases zp with ⟨r,path,z,n,sW,cs,rfl,c1,c2,l4,c4⟩ | ⟨v,rfl⟩ | ⟨s,p,m,rfl,c1,_⟩ | ⟨s,m,cs,rfl,_,_,_,cs',c4,kk⟩ | ⟨z,n,cs,rfl,c1⟩ | ⟨cs,rfl,c1,_⟩
      ·exact .ref rfl (.inl ⟨sW,cs,kj hle c2,c4⟩)
      ·exact .bI .lit
      ·exact eY.mono hle (ic.bp s _ c1)
      ·exact .ref rfl ⟨.obj cs',by simp [b8,hle s _ c4,ag.at],0,0,cs',.inr rfl,kk⟩
      ·exact .bI c1
      ·exact .bI c1.bI
     ·exact eY.mono hle (ic.bp t y ay)
    ·rcases sO ay with ⟨cQ,hX,_,_,Ff⟩ | ⟨_,ay⟩
     ·obtain ⟨y',yx,zp⟩:=J cQ (by simp [hX])
      rw [Ff] at yx; cases yx
      rcases zp with ⟨r,path,z,n,sW,cs,h,_⟩ | ⟨v,h⟩ | ⟨s,p,m,h,_⟩ | ⟨s,m,cs,h,_⟩ | ⟨z,n,cs,h,_⟩ | ⟨cs,h,_⟩ <;> cases h
     ·exact ic.fP _ _ _ _ _ _ ay
  | false =>
   have e:∀ g:aU,g d=none->ed g S ((k,d,some x)::U)=ed g S U:=λg a7=>by
    funext t
    simp only [ed,b1]
    by_cases aV:d=t
    ·subst aV; rw [if_pos rfl,lf oV,a7]; rfl
    ·rw [if_neg aV]
   rw [e l6 av,e g1 a2]
   exact aS
theorem LI (dW:qT ops cc=true) {g0:aU}{i ae:Nat}{acc ek:Acc}(aP:iF P N ops cc g0 i ek ae acc) (c6:my P N ops cc g0 i ek) (hS:(acc.filterMap mr).Nodup) (ji:∀ t z q n m new,g0 t≠some (.b2 z q n m new)) {listed:Array Bool}(gh:listed.size=ops.size) (aV:Down cc listed)
  {a:Act}{w:World}{I:bt}{Fs:Nat->bt}(b1:cW w I a.tmps (ed g0 (e4 listed) acc) Fs) (bY:a.tmps.size=N.size) {e:Nat × Nat × Option ag}(he:e∈acc) (hk:e.1∈Region.ready .any ops listed) {K:Act->World->Prop}{Q:Exit->Act->World->Prop}
  (eC:∀ cy w' I' cq,cy.defers=a.defers->hR N a.tmps cy.tmps->cW w' I' cy.tmps (ed g0 (e4 (listed.setIfInBounds e.1 true)) acc) cq->kE w I (λc=>∃ t,Fs t c) w' I' (λc=>∃ t,cq t c)->K cy w'):wpOp P ops Q e.1 K a w:=by
 obtain ⟨dS,kS,u2,_⟩:=vL hk
 have tw:=(Array.getElem?_eq_some_iff.1 u2).1
 have tj:=G6 dW aV hk
 obtain ⟨o,wE,bf,Ci,jh,cd,gJ⟩:=aP.get c6 e he
 obtain ⟨k,d,r⟩:=e
 simp only at *
 have hle:nr (ed g0 (λm=>(cc.getD k []).contains m) wE) (ed g0 (e4 listed) acc):=by
  intro t x J
  rcases sO J with ⟨e,he,rfl,w0,hex⟩ | ⟨oV,a7⟩
  ·rw [aP.at_mem c6 (gJ e he),tj e.1 (by simpa using w0)]
   exact hex
  ·rw [lf λe he Rk=>?_]
   ·exact a7
   ·have:=aP.fresh c6 e he
    rw [Rk,a7] at this; cases this
 have gY:∀ z p n m new,r=some (.b2 z p n m new)->∀ t cG cT b7 da,ed g0 (e4 listed) acc t≠some (.b2 cG p cT b7 da):=by
  intro z p n m new aw t cG cT b7 da aG
  rcases sO aG with ⟨e,hX,_,w0,hex⟩ | ⟨_,a7⟩
  ·obtain ⟨k',BK,e5⟩:=e
   have:=Ts hS (p:=p) he hX (by rw [aw]; rfl) (by simp only at hex; rw [hex]; rfl)
   cases this
   rw [dS] at w0; cases w0
  ·exact ji _ _ _ _ _ _ a7
 have zp:=cd.mono hle gY
 have tt:ed g0 (e4 listed) acc d=none:=by
  have:=aP.at_mem c6 (A:=e4 listed) he
  simpa [dS] using this
 unfold wpOp
 simp only [bf]
 refine zp.sound b1 rfl bY Ci tt jh λcy w' aN=>?_
 obtain ⟨dn,cZ,I',cq,eD,mZ⟩:=aN
 have jA:∀ ae,e4 (listed.setIfInBounds k true) ae=if ae=k then true else e4 listed ae:=λae=>Ba (by omega)
 have eh:ed g0 (e4 (listed.setIfInBounds k true)) acc=vK (ed g0 (e4 listed) acc) d r:=by
  funext t
  by_cases si:t=d
  ·subst si
   have h1:=aP.at_mem c6 (A:=e4 (listed.setIfInBounds k true)) he
   simp only [jA k,if_true] at h1
   rw [h1]
   cases r with
   | none=>simp only [vK]; exact tt.symm
   | some x=>simp [vK,e2]
  ·have h1:ed g0 (e4 (listed.setIfInBounds k true)) acc t=ed g0 (e4 listed) acc t:=AQ λe hX het=>by
    rw [jA e.1,if_neg]
    intro Fe
    have:=aP.uniq c6 hX he (.inl Fe)
    rw [this] at het
    exact si het.symm
   rw [h1]
   cases r with
   | none=>rfl
   | some x=>simp [vK,e2,si]
 exact eC cy w' I' cq dn cZ (by rw [eh]; exact eD) mZ
theorem Ej (dW:qT ops cc=true) {listed:Array Bool}(gh:listed.size=ops.size) (aV:Down cc listed) {k:Nat}(hk:k∈Region.ready .any ops listed):Down cc (listed.setIfInBounds k true):=by
 obtain ⟨dS,kS,u2,_⟩:=vL hk
 have tw:=(Array.getElem?_eq_some_iff.1 u2).1
 have tj:=G6 dW aV hk
 have jA:∀ q,e4 (listed.setIfInBounds k true) q=if q=k then true else e4 listed q:=λq=>Ba (by omega)
 intro m hm q bP
 rw [jA] at hm ⊢
 split
 ·rfl
 ·split at hm
  ·rename_i Ky; subst Ky; exact tj q bP
  ·exact aV m hm q bP
theorem iF.entry {g0:aU}{i ae:Nat}{acc ek:Acc}(aP:iF P N ops cc g0 i ek ae acc) {listed:Array Bool}(bd:∀ k,k<i->(∀ e∈ek,e.1≠k)->e4 listed k=true) {k:Nat}(y_:k<ae) (dS:e4 listed k=false):∃ e∈acc,e.1=k:=by
 rcases Nat.lt_or_ge k i with h | h
 ·rcases Classical.em (∃ e∈ek,e.1=k) with ⟨e,he,aT⟩ | aT
  ·exact ⟨e,aP.Ho e he,aT⟩
  ·have:=bd k h λe he Fe=>aT ⟨e,he,Fe⟩
   rw [dS] at this; cases this
 ·exact aP.has k h y_
theorem qN.sound (dW:qT ops cc=true) {i:Nat}{ek:Acc}{g g':aU}(h:qN P N ops cc i ek g g'):my P N ops cc g i ek->∀ {Q:Exit->Act->World->Prop}(fuel:Nat) (listed:Array Bool) (a:Act) (w:World) (I:bt) (Fs:Nat->bt),hF ops listed<=fuel->listed.size=ops.size->(∀ k,k<i->(∀ e∈ek,e.1≠k)->e4 listed k=true)->(∀ k,i<=k->e4 listed k=false)->Down cc listed ->
  cW w I a.tmps (ed g (e4 listed) ek) Fs->a.tmps.size=N.size->(∀ cy w',h4 N a w I Fs g' cy w'->Q .normal cy w')->wpAny P .any ops Q fuel listed a w:=by
 have start:∀ {g:aU}{i ae:Nat}{acc ek:Acc}{listed:Array Bool},iF P N ops cc g i ek ae acc->my P N ops cc g i ek->(∀ k,i<=k->e4 listed k=false)->ed g (e4 listed) acc=ed g (e4 listed) ek:=by
  intro g i ae acc ek listed aP c6 eb
  funext t
  by_cases hex:∃ e∈acc,e.2.1=t
  ·obtain ⟨e,he,rfl⟩:=hex
   rw [aP.at_mem c6 he]
   rcases aP.ge c6 e he with h | h
   ·rw [Hx (λx J y ay aT=>c6.Mx x J y ay (.inr aT)) h]
   ·rw [eb e.1 h]
    by_cases Ki:∃ cQ∈ek,cQ.2.1=e.2.1
    ·obtain ⟨cQ,hX,aT⟩:=Ki
     have:=aP.uniq c6 (aP.Ho cQ hX) he (.inr aT)
     subst this
     have:=c6.lt cQ hX; omega
    ·rw [lf λcQ hX aT=>Ki ⟨cQ,hX,aT⟩,aP.fresh c6 e he]; rfl
  ·rw [lf λe he h=>hex ⟨e,he,h⟩,lf λe he h=>hex ⟨e,aP.Ho e he,h⟩]
 induction h with
 | @fin i ek g acc aP hS ji =>
  intro c6 Q fuel listed a w I Fs ab gh bd eb aV b1 bY dP
  rw [<- start aP c6 eb] at b1
  clear eb
  revert listed a w I Fs
  induction fuel with
  | zero =>
   intro listed a w I Fs ab gh bd aV b1 bY dP
   have hf:∀ k,k<ops.size->e4 listed k=true:=λk hk=>by
    cases ao:e4 listed k with
    | true=>rfl
    | false=>have:=uD (ops:=ops) (listed:=listed) (k:=k) hk ao gh; omega
   refine wpAny_done ?_ (dP _ _ ⟨rfl,hR.refl,I,Fs,?_,kE.refl _ _ _⟩) 0
   ·cases aw:Region.ready .any ops listed with
    | nil=>rfl
    | cons k l =>
     have hk:k∈Region.ready .any ops listed:=by rw [aw]; simp
     obtain ⟨dS,o,bf,_⟩:=vL hk
     rw [hf k (Array.getElem?_eq_some_iff.1 bf).1] at dS; cases dS
   ·have:ed g (e4 listed) acc=ed g (λ_=>true) acc:=funext λt=>AQ λe he _=>hf e.1 ((aP.le c6).2 e he)
    rw [<- this]; exact b1
  | succ fuel aS =>
   intro listed a w I Fs ab gh bd aV b1 bY dP
   by_cases hf:∀ k,k<ops.size->e4 listed k=true
   ·refine wpAny_done ?_ (dP _ _ ⟨rfl,hR.refl,I,Fs,?_,kE.refl _ _ _⟩) _
    ·cases aw:Region.ready .any ops listed with
     | nil=>rfl
     | cons k l =>
      have hk:k∈Region.ready .any ops listed:=by rw [aw]; simp
      obtain ⟨dS,o,bf,_⟩:=vL hk
      rw [hf k (Array.getElem?_eq_some_iff.1 bf).1] at dS; cases dS
    ·have:ed g (e4 listed) acc=ed g (λ_=>true) acc:=funext λt=>AQ λe he _=>hf e.1 ((aP.le c6).2 e he)
     rw [<- this]; exact b1
   ·obtain ⟨k0,w7⟩:=Classical.not_forall.1 hf
    obtain ⟨Rw,Rx⟩:=Classical.not_imp.1 w7
    refine ⟨λaw=>absurd aw (LK dW gh k0 Rw (by simpa using Rx)),λk hk=>?_⟩
    obtain ⟨dS,kS,u2,_⟩:=vL hk
    have tw:=(Array.getElem?_eq_some_iff.1 u2).1
    obtain ⟨e,he,rfl⟩:=aP.entry bd tw dS
    have Rc:=uD (ops:=ops) (listed:=listed) (k:=e.1) tw dS gh
    refine LI dW aP c6 hS ji gh aV b1 bY he hk λcy w' I' cq dn cZ eD mZ=>?_
    refine aS _ cy w' I' cq (by omega) (by simpa using gh) (λm hm ez=>?_) (Ej dW gh aV hk) eD (cZ.1.trans bY) λa2 ia al=>dP _ _ (h4.trans dn cZ mZ al)
    rw [Ba (by omega)]; split
    ·rfl
    ·exact bd m hm ez
 | @yh i ae g g1 g' ek acc U o rs aP hS ji bf hw he lp gO J h1 al aI _ SK =>
  intro c6 Q fuel listed a w I Fs ab gh bd eb aV b1 bY dP
  have w6:ae<ops.size:=(Array.getElem?_eq_some_iff.1 bf).1
  have B9:∀ k,ae<k->k<ops.size->ae∈cc.getD k []:=λk hk tw=>by
   have:=List.all_eq_true.1 aI k (List.mem_range.2 tw)
   simp only [Bool.or_eq_true,decide_eq_true_eq,List.contains_iff_mem] at this
   exact this.resolve_left (by omega)
  have w_:∀ e∈U,e∈acc/\(cc.getD ae []).contains e.1=false:=λe he=>by
   rw [gO] at he
   obtain ⟨jQ,C1⟩:=List.mem_filter.1 he
   exact ⟨jQ,by simpa using C1⟩
  have ga:(U.map (·.2.1)).Nodup:=by
   rw [gO]; exact (List.filter_sublist.map _).nodup (aP.nodup c6)
  have Rp:∀ e∈U,ed g (λm=>(cc.getD ae []).contains m) acc e.2.1=none:=λe he=>by
   rw [aP.at_mem c6 (w_ e he).1,(w_ e he).2]; rfl
  have EM:my P N ops cc g1 (ae+1) U:=⟨λe he=>by have:=(aP.le c6).2 e (w_ e he).1; omega,λe he=>(h1 e he).1,ga,λe he cQ hX h=>aP.uniq c6 (w_ e he).1 (w_ cQ hX).1 h,al⟩
  have VB:∀ k,ae<=k->e4 listed k=false:=λk hk=>eb k (Nat.le_trans (aP.le c6).1 hk)
  rw [<- start aP c6 eb] at b1
  clear eb
  revert listed a w I Fs
  induction fuel with
  | zero =>
   intro listed a w I Fs ab gh bd aV b1 bY dP eb
   have:=uD (ops:=ops) (listed:=listed) (k:=ae) w6 (eb ae (Nat.le_refl _)) gh
   omega
  | succ fuel SJ =>
   intro listed a w I Fs ab gh bd aV b1 bY dP eb
   have fg:=eb ae (Nat.le_refl _)
   refine ⟨λaw=>absurd aw (LK dW gh ae w6 fg),λk hk=>?_⟩
   obtain ⟨dS,kS,u2,_⟩:=vL hk
   have tw:=(Array.getElem?_eq_some_iff.1 u2).1
   have tj:=G6 dW aV hk
   have jA:∀ q,e4 (listed.setIfInBounds k true) q=if q=k then true else e4 listed q:=λq=>Ba (by omega)
   have Rc:=uD (ops:=ops) (listed:=listed) (k:=k) (by omega) dS gh
   rcases Nat.lt_trichotomy k ae with y_ | rfl | y_
   ·obtain ⟨e,Fc,rfl⟩:=aP.entry bd y_ dS
    refine LI dW aP c6 hS ji gh aV b1 bY Fc hk λcy w' I' cq dn cZ eD mZ=>?_
    refine SJ _ cy w' I' cq (by omega) (by simpa using gh) (λm hm ez=>?_) (Ej dW gh aV hk) eD (cZ.1.trans bY) (λa2 ia al=>dP _ _ (h4.trans dn cZ mZ al)) λm hm=>?_
    ·rw [jA]; split
     ·rfl
     ·exact bd m hm ez
    ·rw [jA,if_neg (by omega)]; exact eb m hm
   ·have Pz:=UB (A:=λm=>(cc.getD k []).contains m) (S:=e4 listed) aP c6 gO λe he dW=>tj e.1 (by simpa using dW)
    have RT:∀ r:Place,rs r->ed g (λm=>(cc.getD k []).contains m) acc r.root≠none:=λr aw=>by
     rw [lf]
     ·exact lp r aw
     ·intro e he aT
      have:=aP.fresh c6 e he
      rw [aT] at this
      exact lp r aw this
    have Rl:=Jc (S:=e4 listed) he RT U J (λe he=>⟨Rp e he,h1 e he⟩) ga
    have hle:nr (ed g (λm=>(cc.getD k []).contains m) acc) (ed g (e4 listed) acc):=by
     intro t x J
     rcases sO J with ⟨e,he,rfl,w0,hex⟩ | ⟨oV,a7⟩
     ·rw [aP.at_mem c6 he,tj e.1 (by simpa using w0)]; exact hex
     ·rw [lf oV]; exact a7
    unfold wpOp
    simp only [bf,(iP.mono hle hw).sound b1,if_true]
    refine .inl (Rl w I a.tmps Fs (by rw [<- Pz]; exact b1) a rfl bY _ _ λcy w' aN _ _=>?_)
    obtain ⟨dn,cZ,I',cq,eD,mZ⟩:=aN
    refine SK EM fuel (listed.setIfInBounds k true) cy w' I' cq (by omega) (by simpa using gh) (λm hm ez=>?_) (λm hm=>?_) (Ej dW gh aV hk) ?_ (cZ.1.trans bY) λa2 ia al=>dP _ _ (h4.trans dn cZ mZ al)
    ·rw [jA]
     split
     ·rfl
     ·rename_i Ky
      cases tx:e4 listed m with
      | true=>rfl
      | false =>
       exfalso
       obtain ⟨e,Fc,rfl⟩:=aP.entry bd (show m<k by omega) tx
       by_cases Kx:e.1∈cc.getD k []
       ·rw [tj e.1 Kx] at tx; cases tx
       ·exact ez e (by rw [gO]; exact List.mem_filter.2 ⟨Fc,by simpa using Kx⟩) rfl
    ·rw [jA,if_neg (by omega)]; exact eb m (by omega)
    ·have:ed g1 (e4 (listed.setIfInBounds k true)) U=ed g1 (e4 listed) U:=funext λt=>AQ λe he _=>by
      rw [jA e.1,if_neg]
      have:=(aP.le c6).2 e (w_ e he).1
      omega
     rw [this]; exact eD
   ·have:=tj ae (B9 k y_ tw); rw [fg] at this; cases this
end
end Go.Own
namespace Go.Own
open Go
section
variable {P:Program}{N:dE}
def gB (P:Program) (N:dE) (c:Code) (g:aU) (e:Exit) (g':aU):Prop :=
 ∀ ⦃Q:Exit->Act->World->Prop⦄ ⦃a:Act⦄ ⦃w:World⦄ ⦃I:bt⦄ ⦃Fs:Nat->bt⦄,cW w I a.tmps g Fs->a.tmps.size=N.size->(∀ cy w',h4 N a w I Fs g' cy w'->Q e cy w')->c.wp P Q a w
theorem gB.skip {g:aU}:gB P N .skip g .normal g:=λ_ _ _ _ _ b1 _ dP=>wp_skip (dP _ _ ⟨rfl,hR.refl,_,_,b1,kE.refl _ _ _⟩)
theorem gB.ret {g:aU}:gB P N .ret g .ret g:=λ_ _ _ _ _ b1 _ dP=>wp_ret (dP _ _ ⟨rfl,hR.refl,_,_,b1,kE.refl _ _ _⟩)
theorem gB.exit {g:aU}{id:Nat}:gB P N (.exit id) g (.exit id) g:=λ_ _ _ _ _ b1 _ dP=>wp_exit (dP _ _ ⟨rfl,hR.refl,_,_,b1,kE.refl _ _ _⟩)
theorem gB.seq {x y:Code}{g g1 g':aU}{e:Exit}(h1:gB P N x g .normal g1) (al:gB P N y g1 e g'):gB P N (.seq x y) g e g':=by
 intro Q a w I Fs b1 bY dP
 refine wp_seq (h1 b1 bY λav jq aN=>?_)
 obtain ⟨dn,cZ,I',cq,eD,cd⟩:=aN
 exact al eD (cZ.1.trans bY) λa2 ia n9=>dP _ _ (h4.trans dn cZ cd n9)
theorem gB.cond {c:Operand}{x y:Code}{g g':aU}{e:Exit}{b:Bool}(ab:bL g c=some (.lit (.bool b))) (h:gB P N (if b then x else y) g e g'):gB P N (.cond c x y) g e g':=by
 intro Q a w I Fs b1 bY dP
 exact wp_cond (t:=b) (kT b1 ab rfl).h9.1 (h b1 bY dP)
theorem gB.I6 {c:Operand}{x y:Code}{g g':aU}{e:Exit}(ab:bL g c=some (.lit (.bool true))) (h:gB P N x g e g'):gB P N (.cond c x y) g e g':=gB.cond ab h
theorem gB.Ee {c:Operand}{x y:Code}{g g':aU}{e:Exit}(ab:bL g c=some (.lit (.bool false))) (h:gB P N y g e g'):gB P N (.cond c x y) g e g':=gB.cond ab h
theorem gB.block {id:Nat}{c:Code}{g g':aU}(h:gB P N c g .normal g'):gB P N (.block id c) g .normal g' :=
 λ_ _ _ _ _ b1 bY dP=>wp_block (h b1 bY λav jq aN=>dP av jq aN)
def A' (P:Program) (c:Code) (Q:Exit->Act->World->Prop) (a:Act) (w:World):Prop :=
 ∀ (b:Frame) (k:List Item) (cs:List Frame),∃ e cy w',Q e cy w'/\Arrives P (lone (b.at a (.code c::.inLoop c::k)) cs w) b k cs e cy w'
def rE (P:Program) (N:dE) (c:Code) (g:aU) (e:Exit) (g':aU):Prop :=
 ∀ ⦃Q:Exit->Act->World->Prop⦄ ⦃a:Act⦄ ⦃w:World⦄ ⦃I:bt⦄ ⦃Fs:Nat->bt⦄,cW w I a.tmps g Fs->a.tmps.size=N.size->(∀ cy w',h4 N a w I Fs g' cy w'->Q e cy w')->A' P c Q a w
theorem Gx {c:Code}{Q:Exit->Act->World->Prop}{a:Act}{w:World}(h:c.wp P (Exit.then (A' P c Q) Q) a w):A' P c Q a w:=by
 intro b k cs
 obtain ⟨e,yg,AU,bP,k4⟩:=h b (.inLoop c::k) cs
 cases e with
 | normal =>
  obtain ⟨PA,ND,UJ,RP,QK⟩:=bP b k cs
  exact ⟨PA,ND,UJ,RP,.of_steps (Steps.trans k4 (.one step_inLoop)) QK⟩
 | exit id=>exact ⟨_,yg,AU,bP,.pass (x:=.inLoop c) rfl (λ_ _=>.inl (by simp)) k4⟩
 | goto l=>exact ⟨_,yg,AU,bP,.pass (x:=.inLoop c) rfl (λ_ _=>.inl (by simp)) k4⟩
 | ret=>exact ⟨_,yg,AU,bP,.pass (x:=.inLoop c) rfl (λ_ _=>.inl (by simp)) k4⟩
 | panic bH=>exact ⟨_,yg,AU,bP,.pass (x:=.inLoop c) rfl (λ_ _=>.inl (by simp)) k4⟩
 | outgrown=>exact ⟨_,yg,AU,bP,.pass (x:=.inLoop c) rfl (λ_ _=>.inl (by simp)) k4⟩
theorem gB.loop {c:Code}{g g':aU}{e:Exit}(h:rE P N c g e g'):gB P N (.loop c) g e g':=by
 intro Q a w I Fs b1 bY dP b k cs
 obtain ⟨e,cy,w',bP,k4⟩:=h b1 bY dP b k cs
 exact ⟨e,cy,w',bP,.of_steps (.one step_loop) k4⟩
theorem rE.step {c:Code}{g g1 g':aU}{e:Exit}(h1:gB P N c g .normal g1) (al:rE P N c g1 e g'):rE P N c g e g':=by
 intro Q a w I Fs b1 bY dP
 refine Gx (h1 b1 bY λav jq aN=>?_)
 obtain ⟨dn,cZ,I',cq,eD,cd⟩:=aN
 exact al eD (cZ.1.trans bY) λa2 ia n9=>dP _ _ (h4.trans dn cZ cd n9)
theorem rE.out {c:Code}{g g':aU}{e:Exit}(h:gB P N c g e g') (he:e≠.normal):rE P N c g e g':=by
 intro Q a w I Fs b1 bY dP
 refine Gx (h b1 bY λav jq aN=>?_)
 cases e with
 | normal=>exact absurd rfl he
 | _=>exact dP _ _ aN
theorem gB.region {id:Nat}{ops:Array Oper}{g g':aU}(h:ns P N ops (List.range ops.size) g g'):gB P N (.region id ops false) g .normal g' :=
 λ_ _ _ _ _ b1 bY dP=>wp_region (h.sound b1 bY dP)
theorem gB.draw {id:Nat}{ops:Array Oper}{cc:List (List Nat)}{g g':aU}(hm:P.follows .mixedOrders=true) (dW:qT ops cc=true) (h:qN P N ops cc 0 [] g g'):gB P N (.region id ops true) g .normal g':=by
 intro Q a w I Fs b1 bY dP
 refine wp_region_any hm ?_
 have eD:cW w.drew I a.tmps g Fs:=b1.world (λ_ _ _=>rfl) (λ_ _=>rfl) (Nat.le_refl _)
 have hf:∀ k,e4 (Array.replicate ops.size false) k=false:=by
  intro k
  unfold e4
  rcases Nat.lt_or_ge k ops.size with h | h
  ·simp [h]
  ·simp [Array.getElem?_eq_none (show (Array.replicate ops.size false).size<=k by simpa using h)]
 refine h.sound dW .nil ops.size (Array.replicate ops.size false) a w.drew I Fs ?_ (by simp) (λk hk=>by omega) (λk _=>hf k) (λk hk=>by rw [hf] at hk; cases hk) eD bY λcy w' aN=>dP _ _ ?_
 ·unfold hF
  exact Nat.le_trans (List.length_filter_le _ _) (by simp)
 ·obtain ⟨dn,cZ,I',cq,h5,cd⟩:=aN
  exact ⟨dn,cZ,I',cq,h5,⟨⟨cd.fy.os,cd.fy.tape,cd.fy.output,cd.fy.size,cd.fy.block,cd.fy.fE,Nat.le_trans (Nat.le_succ _) cd.fy.wS⟩,cd.more,cd.new,cd.own⟩⟩
inductive nY:ag->ag->Prop
 | refl {x:ag}:nY x x
 | dead {x:ag}(h:kg x\/c' x):nY x .dead
 | o4 {z:Nat}:nY .aJ (.own z 0 [])
 | xq {z:Nat}:nY .aJ (.aD z 0 [])
 | obj {cs cs':List ag}(ao:cs'.length=cs.length) (h:∀ (k:Nat) (x y:ag),cs[k]?=some x->cs'[k]?=some y->nY x y):nY (.obj cs) (.obj cs')
 | own {z n:Nat}{cs cs':List ag}(ao:cs'.length=cs.length) (h:∀ (k:Nat) (x y:ag),cs[k]?=some x->cs'[k]?=some y->nY x y):nY (.own z n cs) (.own z n cs')
theorem R.fW {w:World}{I:bt}{ρ:ag->Value->Prop}{x x':ag}(h:nY x x'):∀ {v:Value}{F:bt},R w I ρ x v F->∃ fU,R w I ρ x' v fU/\∀ c,fU c->F c:=by
 induction h with
 | refl=>exact λbh=>⟨_,bh,λ_ h=>h⟩
 | dead=>exact λbh=>⟨cS,.dead λ_ h=>h,λ_ h=>h.elim⟩
 | o4 =>
  intro v F bh
  rw [bh.qv]
  exact ⟨cS,.own (e:=0) (us:=[]) (Fs:=λ_=>cS) ⟨by simp,.inl ⟨rfl,rfl⟩⟩ rfl (by simp) (by simp) (λ_ _ _ _ _ h=>h.elim) (λ_ _ _ h=>h.elim) λc=>⟨λh=>h.elim,λh=>h.elim (λh=>by simp [Value.ownBlock] at h) λ⟨_,_,h⟩=>h⟩,λ_ h=>h.elim⟩
 | xq=>intro v F bh; rw [bh.qv]; exact ⟨cS,.hM λ_ h=>h,λ_ h=>h.elim⟩
 | @obj cs cs' ao _ aS =>
  intro v F bh
  cases bh with
  | ref J=>simp [ag.isRef] at J
  | @obj _ b e arr bR _ bf hY h1 aw aV aI aQ =>
   have:∀ k,∃ rG:bt,k<cs.length->(∀ (x:ag) (u:Value),cs'[k]?=some x->arr[k]?=some u->R w I ρ x u rG)/\∀ c,rG c->bR k c:=by
    intro k
    by_cases hk:k<cs.length
    ·have J:=List.getElem?_eq_getElem hk
     have ay:cs'[k]?=some (cs'[k]'(by omega)):=List.getElem?_eq_getElem (by omega)
     have hu:arr[k]?=some (arr[k]'(by omega)):=Array.getElem?_eq_getElem (by omega)
     obtain ⟨fU,h1,al⟩:=aS k _ _ J ay (aw k _ _ J hu)
     refine ⟨fU,λ_=>⟨λx u gk fG=>?_,al⟩⟩
     rw [ay] at gk; rw [hu] at fG
     cases gk; cases fG
     exact h1
    ·exact ⟨cS,λh=>absurd h hk⟩
   obtain ⟨rG,qc⟩:=Classical.axiomOfChoice this
   refine ⟨_,.obj (Fs:=rG) bf (by omega) h1 (λk x u J hu=>(qc k (by rw [<- ao]; exact (List.getElem?_eq_some_iff.1 J).1)).1 x u J hu) (λae k c aa hk h aT=>aV ae k c (by omega) (by omega) ((qc ae (by omega)).2 c h) ((qc k (by omega)).2 c aT)) (λk hk h=>aI k (by omega) ((qc k (by omega)).2 b h)) (λc=>Iff.rfl),λc ab=>?_⟩
   rcases ab with rfl | ⟨k,hk,h⟩
   ·exact (aQ _).2 (.inl rfl)
   ·exact (aQ c).2 (.inr ⟨k,by omega,(qc k (by omega)).2 c h⟩)
 | @own z n cs cs' ao _ aS =>
  intro v F bh
  cases bh with
  | ref J=>simp [ag.isRef] at J
  | @own _ _ _ _ e us bR _ bf hY h1 aw aV aI aQ =>
   have:∀ k,∃ rG:bt,k<cs.length->(∀ (x:ag) (u:Value),cs'[k]?=some x->us[k]?=some u->R w I ρ x u rG)/\∀ c,rG c->bR k c:=by
    intro k
    by_cases hk:k<cs.length
    ·have J:=List.getElem?_eq_getElem hk
     have ay:cs'[k]?=some (cs'[k]'(by omega)):=List.getElem?_eq_getElem (by omega)
     have hu:us[k]?=some (us[k]'(by omega)):=List.getElem?_eq_getElem (by omega)
     obtain ⟨fU,h1,al⟩:=aS k _ _ J ay (aw k _ _ J hu)
     refine ⟨fU,λ_=>⟨λx u gk fG=>?_,al⟩⟩
     rw [ay] at gk; rw [hu] at fG
     cases gk; cases fG
     exact h1
    ·exact ⟨cS,λh=>absurd h hk⟩
   obtain ⟨rG,qc⟩:=Classical.axiomOfChoice this
   refine ⟨_,.own (Fs:=rG) bf (by omega) h1 (λk x u J hu=>(qc k (by rw [<- ao]; exact (List.getElem?_eq_some_iff.1 J).1)).1 x u J hu) (λae k c aa hk h aT=>aV ae k c (by omega) (by omega) ((qc ae (by omega)).2 c h) ((qc k (by omega)).2 c aT)) (λk c hk h=>aI k c (by omega) ((qc k (by omega)).2 c h)) (λc=>Iff.rfl),λc ab=>?_⟩
   rcases ab with ab | ⟨k,hk,h⟩
   ·exact (aQ _).2 (.inl ab)
   ·exact (aQ c).2 (.inr ⟨k,by omega,(qc k (by omega)).2 c h⟩)
structure kF (g1 g2:aU):Prop where
 sub:∀ t x,g2 t=some x->∃ y,g1 t=some y/\nY y x
 bp:∀ t x,g2 t=some x->eY g2 x
 fP:∀ t z q n m new,g2 t≠some (.b2 z q n m new)
theorem cW.fW {w:World}{I:bt}{T:Array Value}{g1 g2:aU}{Fs:Nat->bt}(h:cW w I T g1 Fs) (hk:kF g1 g2):∃ cq,cW w I T g2 cq/\∀ t c,cq t c->Fs t c:=by
 have:∀ t,∃ fU:bt,(∀ x,g2 t=some x->∃ v,T[t]?=some v/\R w I (ej w T g2) x v fU)/\(∀ c,fU c->Fs t c)/\(g2 t=none->∀ c,¬ fU c):=by
  intro t
  cases J:g2 t with
  | none=>exact ⟨cS,by simp,λ_ h=>h.elim,λ_ _ h=>h⟩
  | some x =>
   obtain ⟨y,ay,hw⟩:=hk.sub t x J
   obtain ⟨v,hv,bh⟩:=h.lY.rel t y ay
   have lN:∀ z q n m new,y≠.b2 z q n m new:=by
    rintro z q n m new rfl
    cases hw with
    | refl=>exact hk.fP _ _ _ _ _ _ J
    | dead b9=>rcases b9 with b9 | b9 <;> cases b9
   obtain ⟨fU,jg,n2⟩:=R.fW hw (bh.hT lN)
   exact ⟨fU,λx' gk=>by cases gk; exact ⟨v,hv,jg.bp (hk.bp t x J)⟩,n2,by simp⟩
 obtain ⟨cq,r6⟩:=Classical.axiomOfChoice this
 refine ⟨cq,⟨λt x J=>?_,λt aG=>(r6 t).2.2 aG,λt dh c h1 al=>h.e8 _ _ _ ((r6 t).2.1 c h1) ((r6 dh).2.1 c al),λt c ab=>h.aD _ _ ((r6 t).2.1 c ab),h.lt,λt dh z p n m new _ _ _ _ h1=>absurd h1 (hk.fP _ _ _ _ _ _)⟩,λt=>(r6 t).2.1⟩
 obtain ⟨v,hv,bh⟩:=(r6 t).1 x J
 exact ⟨v,hv,.tree bh⟩
theorem gB.weaken {c:Code}{g g1 g':aU}{e:Exit}(hk:kF g g1) (h:gB P N c g1 e g'):gB P N c g e g':=by
 intro Q a w I Fs b1 bY dP
 obtain ⟨cq,eD,gJ⟩:=b1.fW hk
 exact h eD bY λcy w' aN=>dP _ _ (h4.trans rfl hR.refl ⟨Fr.refl _ _,λ_ h=>h,λ_ h=>.inl h,λc ⟨t,ab⟩=>.inl ⟨t,gJ t c ab⟩⟩ aN)
theorem rE.weaken {c:Code}{g g1 g':aU}{e:Exit}(hk:kF g g1) (h:rE P N c g1 e g'):rE P N c g e g':=by
 intro Q a w I Fs b1 bY dP
 obtain ⟨cq,eD,gJ⟩:=b1.fW hk
 exact h eD bY λcy w' aN=>dP _ _ (h4.trans rfl hR.refl ⟨Fr.refl _ _,λ_ h=>h,λ_ h=>.inl h,λc ⟨t,ab⟩=>.inl ⟨t,gJ t c ab⟩⟩ aN)
end
end Go.Own
namespace Go.Own
open Go
inductive yc (P:Program) (g:aU):ResultVar->ag->Prop
 | tmp {t:Nat}{y:ag}(h:bL g (.tmp t)=some y):yc P g (.tmp t) y
 | cell {a:Nat}{t ty:TypeId}{y:ag}(h:dj P g (.load t (.tmp a)) ty y):yc P g (.cell a t) y
inductive p3 (P:Program) (g:aU):List ResultVar->List ag->Prop
 | nil:p3 P g [] []
 | cons {r:ResultVar}{rs:List ResultVar}{y:ag}{ys:List ag}(h:yc P g r y) (aG:p3 P g rs ys):p3 P g (r::rs) (y::ys)
def pS:List ag->ag
 | [x]=>x
 | l=>.cw l
def vM:List Value->Value
 | [x]=>x
 | l=>.tuple l.toArray
def tX (tmps:Array Value):ResultVar->Sem Value
 | .tmp t=>pure (tmps.getD t undef)
 | .cell a t=>do loadVar t (<- asAddr (tmps.getD a undef))
section
variable {P:Program}{w:World}{I:bt}{g:aU}{Fs:Nat->bt}
theorem yc.run {a:Act}(h:cW w I a.tmps g Fs) {r:ResultVar}{y:ag}(aw:yc P g r y):∃ v,(tX a.tmps r).run P w=.ok v w/\R w I (ej w a.tmps g) y v cS:=by
 cases aw with
 | @tmp t y h1=>exact ⟨_,rfl,kT h h1 rfl⟩
 | @cell a0 t ty y h1 =>
  obtain ⟨v, hv, bh⟩ := dj.sound h rfl (o := { dst := none, op := .load t (.tmp a0), type := ty, pos := "", after := #[], guard := none }) h1
  refine ⟨v,?_,bh⟩
  have he:a.eval (.tmp a0)=a.tmps.getD a0 undef:=rfl
  simp only [execOp,he] at hv
  cases ab:a.tmps.getD a0 undef with
  | pointer ad =>
   cases ad with
   | some ad =>
    rw [ab] at hv
    simp only [Instr.loadAt,Instr.sureAddr] at hv
    simp only [tX,ab,asAddr]
    have aF:(pure ad >>= λx=>loadVar t x:Sem Value)=loadVar t ad:=by simp
    rw [aF]
    revert hv
    generalize bP:loadVar t ad=q
    intro hv
    simp [bP] at hv
    cases Cm:q.run P w with
    | ok x ia=>rw [Cm] at hv; simp at hv; rw [hv.1,hv.2]
    | halt e ia=>rw [Cm] at hv; simp at hv
   | none=>rw [ab] at hv; simp [Instr.loadAt,Instr.sureAddr] at hv
  | _=>rw [ab] at hv; simp [Instr.loadAt,Instr.sureAddr] at hv
theorem LZ {f:ResultVar->Sem Value}:∀ (l:List ResultVar) (vs:List Value),l.length=vs.length->(∀ (k:Nat) (r:ResultVar) (v:Value),l[k]?=some r->vs[k]?=some v->(f r).run P w=.ok v w)->(l.mapM f).run P w=.ok vs w
 | [],[],_,_=>rfl
 | r::l,v::vs,ao,h=>by
  have bc:=h 0 r v rfl rfl
  have h1:=LZ l vs (by simpa using ao) λk r v aw hv=>h (k+1) r v (by simpa using aw) (by simpa using hv)
  simp [List.mapM_cons,bc,h1]
 | [],_::_,ao,_=>by simp at ao
 | _::_,[],ao,_=>by simp at ao
theorem TO {fn:Func}{tmps:Array Value}{vs:List Value}(ao:fn.results.toList.length=vs.length) (h:∀ (k:Nat) (r:ResultVar) (v:Value),fn.results.toList[k]?=some r->vs[k]?=some v->(tX tmps r).run P w=.ok v w):(results fn tmps).run P w=.ok (vM vs) w:=by
 have h1:=LZ fn.results.toList vs ao h
 have al:fn.results.mapM (tX tmps)=List.toArray <$> fn.results.toList.mapM (tX tmps):=Array.mapM_eq_mapM_toList
 have aR:(fn.results.mapM (tX tmps)).run P w=.ok vs.toArray w:=by rw [al]; simp [h1]
 have b3:results fn tmps=(do let vs <- fn.results.mapM (tX tmps); pure (if h:vs.size=1 then vs[0] else .tuple vs)):=by
  unfold results
  congr 1
 rw [b3]
 simp only [Sem.run_bind,aR]
 match vs with
 | []=>rfl
 | [x]=>rfl
 | x::y::l=>simp [vM]
theorem p3.length {g:aU}{rs:List ResultVar}{ys:List ag}(h:p3 P g rs ys):rs.length=ys.length:=by
 induction h with
 | nil=>rfl
 | cons _ _ aS=>simp [aS]
theorem p3.run {a:Act}(h:cW w I a.tmps g Fs) {rs:List ResultVar}{ys:List ag}(aw:p3 P g rs ys):∃ vs:List Value,rs.length=vs.length/\(∀ (k:Nat) (r:ResultVar) (v:Value),rs[k]?=some r->vs[k]?=some v->(tX a.tmps r).run P w=.ok v w) /\
  ∀ (k:Nat) (y:ag) (v:Value),ys[k]?=some y->vs[k]?=some v->R w I (ej w a.tmps g) y v cS:=by
 induction aw with
 | nil=>exact ⟨[],rfl,by simp,by simp⟩
 | cons h1 _ aS =>
  obtain ⟨v,hv,bh⟩:=h1.run h
  obtain ⟨vs,ao,al,aR⟩:=aS
  refine ⟨v::vs,by simp [ao],λk r u aw hu=>?_,λk y u ay hu=>?_⟩
  ·cases k with
   | zero=>simp at aw hu; subst aw hu; exact hv
   | succ k=>exact al k r u (by simpa using aw) (by simpa using hu)
  ·cases k with
   | zero=>simp at ay hu; subst ay hu; exact bh
   | succ k=>exact aR k y u (by simpa using ay) (by simpa using hu)
theorem Hand.pS {ρ:ag->Value->Prop}{Fs:Nat->bt}{xs:List ag}{vs:List Value}{dD:Nat->bt}(h:Hand w I ρ Fs xs vs dD) (aN:∀ x∈xs,c' x) (ρ':ag->Value->Prop):R w I ρ' (pS xs) (vM vs) (λc=>∃ k,k<xs.length/\dD k c)/\c' (pS xs):=by
 have cw:R w I ρ' (.cw xs) (.tuple vs.toArray) (λc=>∃ k,k<xs.length/\dD k c) :=
  .cw (by simpa using h.len) (λk x u J hu=>(h.rel k x u J (by simpa using hu)).bI (aN x (List.mem_of_getElem? J))) h.e8 λc=>Iff.rfl
 match xs,vs,h,aN,cw with
 | [],[],_,_,cw=>exact ⟨cw,.cw (by simp)⟩
 | [x],[v],h,aN,_ =>
  refine ⟨((h.rel 0 x v rfl rfl).bI (aN x (by simp))).wP λc=>⟨λab=>⟨0,by simp,ab⟩,λ⟨k,hk,ab⟩=>?_⟩,aN x (by simp)⟩
  have:k=0:=by simpa using hk
  subst this; exact ab
 | x::y::l,v::u::m,_,aN,cw=>exact ⟨cw,.cw aN⟩
 | [],_::_,h,_,_=>have:=h.len; simp at this
 | _::_,[],h,_,_=>have:=h.len; simp at this
 | [_],_::_::_,h,_,_=>have:=h.len; simp at this
 | _::_::_,[_],h,_,_=>have:=h.len; simp at this
structure Leaves (P:Program) (N:dE) (rs:List ResultVar) (g':aU) (n:Nat) (outs:List (Option ag)) (res:ag):Prop where
 ex:∃ ys xs g1,p3 P g' rs ys/\Take g' ys xs g1/\res=pS xs/\∀ (k:Nat) (x:ag),outs[k]?=some (some x)->g1 k=some x/\c' x/\k∈N.pins
 len:outs.length=n
theorem cW.more {T:Array Value}(h:cW w I T g Fs) {T':Array Value}(fF:∀ t,g t≠none->T'[t]?=T[t]?):cW w I T' g Fs:=by
 refine ⟨λt x J=>?_,h.kt,h.e8,h.aD,h.lt,h.pQ⟩
 obtain ⟨u,hu,bh⟩:=h.rel t x J
 exact ⟨u,by rw [fF t (by rw [J]; simp)]; exact hu,h.uV fF (λ_ _ _=>rfl) (λ_ _=>rfl) (λ_ h=>h) (λ_ _ h=>h) bh λ_ _=>rfl⟩
end
end Go.Own
namespace Go.Own
open Go
section
variable {P:Program}{N:dE}
def W (P:Program) (N:dE) (c:Code) (g:aU) (Φ:Exit->aU->Prop):Prop :=
 ∀ ⦃Q:Exit->Act->World->Prop⦄ ⦃a:Act⦄ ⦃w:World⦄ ⦃I:bt⦄ ⦃Fs:Nat->bt⦄,cW w I a.tmps g Fs->a.tmps.size=N.size->(∀ e g' cy w',Φ e g'->h4 N a w I Fs g' cy w'->Q e cy w')->c.wp P Q a w
def sL (fJ:aU->Prop) (Φ:Exit->aU->Prop):Exit->aU->Prop
 | .normal,g=>fJ g
 | e,g=>Φ e g
def rm (id:Nat) (Φ:Exit->aU->Prop):Exit->aU->Prop
 | .exit k,g=>if k=id then Φ .normal g else Φ (.exit k) g
 | e,g=>Φ e g
theorem h4.refl {a:Act}{w:World}{I:bt}{g:aU}{Fs:Nat->bt}(h:cW w I a.tmps g Fs):h4 N a w I Fs g a w:=⟨rfl,hR.refl,_,_,h,kE.refl _ _ _⟩
theorem gB.w {c:Code}{g g':aU}{e:Exit}{Φ:Exit->aU->Prop}(h:gB P N c g e g') (m':Φ e g'):W P N c g Φ :=
 λ_ _ _ _ _ b1 bY dP=>h b1 bY λcy w' aN=>dP _ _ cy w' m' aN
theorem W.mono {c:Code}{g:aU}{Φ pf:Exit->aU->Prop}(h:W P N c g Φ) (m':∀ e g',Φ e g'->pf e g'):W P N c g pf :=
 λ_ _ _ _ _ b1 bY dP=>h b1 bY λ_ _ cy w' h1 aN=>dP _ _ cy w' (m' _ _ h1) aN
theorem W.skip {g:aU}{Φ:Exit->aU->Prop}(h:Φ .normal g):W P N .skip g Φ:=gB.skip.w h
theorem W.ret {g:aU}{Φ:Exit->aU->Prop}(h:Φ .ret g):W P N .ret g Φ:=gB.ret.w h
theorem W.exit {g:aU}{id:Nat}{Φ:Exit->aU->Prop}(h:Φ (.exit id) g):W P N (.exit id) g Φ:=gB.exit.w h
theorem W.seq {x y:Code}{g:aU}{Φ:Exit->aU->Prop}(h:W P N x g (sL (λg1=>W P N y g1 Φ) Φ)):W P N (.seq x y) g Φ:=by
 intro Q a w I Fs b1 bY dP
 refine wp_seq (h b1 bY λe g1 av jq h1 aN=>?_)
 cases e with
 | normal =>
  obtain ⟨dn,cZ,I',cq,eD,cd⟩:=aN
  exact h1 eD (cZ.1.trans bY) λrY g2 a2 ia al n9=>dP _ _ _ _ al (h4.trans dn cZ cd n9)
 | _=>exact dP _ _ _ _ h1 aN
theorem W.cond {c:Operand}{x y:Code}{g:aU}{Φ:Exit->aU->Prop}{b:Bool}(ab:bL g c=some (.lit (.bool b))) (h:W P N (if b then x else y) g Φ):W P N (.cond c x y) g Φ :=
 λ_ _ _ _ _ b1 bY dP=>wp_cond (t:=b) (kT b1 ab rfl).h9.1 (h b1 bY dP)
theorem W.I6 {c:Operand}{x y:Code}{g:aU}{Φ:Exit->aU->Prop}(ab:bL g c=some (.lit (.bool true))) (h:W P N x g Φ):W P N (.cond c x y) g Φ:=W.cond ab h
theorem W.Ee {c:Operand}{x y:Code}{g:aU}{Φ:Exit->aU->Prop}(ab:bL g c=some (.lit (.bool false))) (h:W P N y g Φ):W P N (.cond c x y) g Φ:=W.cond ab h
theorem W.block {id:Nat}{c:Code}{g:aU}{Φ:Exit->aU->Prop}(h:W P N c g (rm id Φ)):W P N (.block id c) g Φ:=by
 intro Q a w I Fs b1 bY dP
 refine wp_block (h b1 bY λe g1 av jq h1 aN=>?_)
 cases e with
 | exit k =>
  have al:if k=id then Φ .normal g1 else Φ (.exit k) g1:=h1
  simp only [Exit.inBlock]
  by_cases hk:k=id
  ·rw [if_pos hk] at al ⊢
   exact dP _ _ _ _ al aN
  ·rw [if_neg hk] at al ⊢
   exact dP _ _ _ _ al aN
 | _=>exact dP _ _ _ _ h1 aN
def nX (P:Program) (N:dE) (c:Code) (g:aU) (Φ:Exit->aU->Prop):Prop :=
 ∀ ⦃Q:Exit->Act->World->Prop⦄ ⦃a:Act⦄ ⦃w:World⦄ ⦃I:bt⦄ ⦃Fs:Nat->bt⦄,cW w I a.tmps g Fs->a.tmps.size=N.size->(∀ e g' cy w',Φ e g'->h4 N a w I Fs g' cy w'->Q e cy w')->A' P c Q a w
theorem W.loop {c:Code}{g:aU}{Φ:Exit->aU->Prop}(h:nX P N c g Φ):W P N (.loop c) g Φ:=by
 intro Q a w I Fs b1 bY dP b k cs
 obtain ⟨e,cy,w',bP,k4⟩:=h b1 bY dP b k cs
 exact ⟨e,cy,w',bP,.of_steps (.one step_loop) k4⟩
theorem nX.step {c:Code}{g:aU}{Φ:Exit->aU->Prop}(h:W P N c g (sL (λg1=>nX P N c g1 Φ) Φ)):nX P N c g Φ:=by
 intro Q a w I Fs b1 bY dP
 refine Gx (h b1 bY λe g1 av jq h1 aN=>?_)
 cases e with
 | normal =>
  obtain ⟨dn,cZ,I',cq,eD,cd⟩:=aN
  exact h1 eD (cZ.1.trans bY) λrY g2 a2 ia al n9=>dP _ _ _ _ al (h4.trans dn cZ cd n9)
 | _=>exact dP _ _ _ _ h1 aN
theorem W.weaken {c:Code}{g g1:aU}{Φ:Exit->aU->Prop}(hk:kF g g1) (h:W P N c g1 Φ):W P N c g Φ:=by
 intro Q a w I Fs b1 bY dP
 obtain ⟨cq,eD,gJ⟩:=b1.fW hk
 exact h eD bY λe g' cy w' h1 aN=>dP _ _ _ _ h1 (h4.trans rfl hR.refl ⟨Fr.refl _ _,λ_ h=>h,λ_ h=>.inl h,λc ⟨t,ab⟩=>.inl ⟨t,gJ t c ab⟩⟩ aN)
theorem nX.weaken {c:Code}{g g1:aU}{Φ:Exit->aU->Prop}(hk:kF g g1) (h:nX P N c g1 Φ):nX P N c g Φ:=by
 intro Q a w I Fs b1 bY dP
 obtain ⟨cq,eD,gJ⟩:=b1.fW hk
 exact h eD bY λe g' cy w' h1 aN=>dP _ _ _ _ h1 (h4.trans rfl hR.refl ⟨Fr.refl _ _,λ_ h=>h,λ_ h=>.inl h,λc ⟨t,ab⟩=>.inl ⟨t,gJ t c ab⟩⟩ aN)
theorem W.out {c:Code}{g:aU}{Φ pf:Exit->aU->Prop}(h:W P N c g Φ) (m':∀ e g',Φ e g'->∃ g2,kF g' g2/\pf e g2):W P N c g pf:=by
 intro Q a w I Fs b1 bY dP
 refine h b1 bY λe g' cy w' h1 aN=>?_
 obtain ⟨g2,hk,al⟩:=m' e g' h1
 obtain ⟨dn,cZ,I',cq,eD,cd⟩:=aN
 obtain ⟨iN,h5,gJ⟩:=eD.fW hk
 exact dP _ _ _ _ al ⟨dn,cZ,I',iN,h5,cd.trans ⟨Fr.refl _ _,λ_ h=>h,λ_ h=>.inl h,λc ⟨t,ab⟩=>.inl ⟨t,gJ t c ab⟩⟩⟩
def HZ (P:Program) (N:dE) (ops:Array Oper) (is:List Nat) (g:aU) (K:aU->Prop):Prop:=∃ g',ns P N ops is g g'/\K g'
theorem W.region {id:Nat}{ops:Array Oper}{g:aU}{Φ:Exit->aU->Prop}(h:HZ P N ops (List.range ops.size) g (Φ .normal)):W P N (.region id ops false) g Φ:=by
 obtain ⟨g',aw,m'⟩:=h
 exact (gB.region aw).w m'
theorem b_.Tf {f:FuncId}{fn:Func}{c:Code}{args:List ag}{outs:List (Option ag)}{res:ag}{N:dE}(bj:P.funcs[f]?=some fn) (aI:fn.body=some c) (bY:fn.ntmps=N.size) (bg:args.length<=N.size)
  (hlen:outs.length=args.length) (hw:W P N c (oH args) λe g'=>(e=.normal\/e=.ret)/\Leaves P N fn.results.toList g' args.length outs res):b_ P f args outs res:=by
 refine ⟨hlen,λw I vs Fs FW b1=>calls_of_wp bj aI ?_⟩
 have gh:({ tmps:=vs.toArray++Array.replicate (fn.ntmps - vs.toArray.size) undef,defers:=[] }:Act).tmps.size=N.size:=by
  simp; omega
 have oS:∀ t,t<vs.length->(vs.toArray++Array.replicate (fn.ntmps - vs.toArray.size) undef)[t]?=vs.toArray[t]?:=by
  intro t aG
  rw [Array.getElem?_append_left (by simpa using aG)]
 refine hw (b1.more (T':=vs.toArray++Array.replicate (fn.ntmps - vs.toArray.size) undef) λt aG=>oS t ?_) gh λe g' cy w' ⟨he,bf⟩ aN=>?_
 ·unfold oH at aG
  rw [FW]
  rcases Nat.lt_or_ge t args.length with h | h
  ·exact h
  ·exact absurd (List.getElem?_eq_none h) aG
 obtain ⟨aV,hold,I',cq,eD,cd⟩:=aN
 obtain ⟨ys,xs,g1,KL,aG,rfl,oV⟩:=bf.ex
 obtain ⟨us,ql,h7,l7⟩:=KL.run eD
 have Ct:ys.length=us.length:=by rw [<- KL.length,ql]
 obtain ⟨fY,dD,iR,iv,hf⟩:=aG.sound eD.lY (⟨Ct,λk x u J hu=>(l7 k x u J hu).frame (λ_ _=>rfl) (λ_ h=>h) (λ_ _ h=>h.1) λ_ _=>rfl,λ_ _ _ _ _ h=>h.elim,λ_ _ _ _ h=>h.elim,λ_ _ _ h=>h.elim⟩:Hand w' I' (f_ w' cy.tmps) cq ys us λ_=>cS)
 have gJ:∀ c,kW fY xs.length dD c->∃ t,cq t c:=by
  intro c ab
  rcases hf c ab with h | ⟨_,_,h⟩
  ·exact h
  ·exact h.elim
 have Rm:∃ iN,cW w' I' (vs++[vM us]).toArray (oj outs (pS xs)) iN/\∀ t c,iN t c->∃ t,cq t c:=by
  classical
  refine ⟨λt=>if t=outs.length then (λc=>∃ k,k<xs.length/\dD k c) else if ∃ x,outs[t]?=some (some x) then fY t else cS,⟨λt x J=>?_,λt pI c ab=>?_,λt dh c h1 al=>?_,λt c ab=>?_,eD.lt,λt dh z p n m new cG cT b7 da h1 al=>?_⟩,λt c ab=>?_⟩
  ·unfold oj at J
   by_cases bc:t=outs.length
   ·rw [if_pos bc] at J
    cases J
    subst bc
    refine ⟨vM us,?_,.tree ?_⟩
    ·rw [bf.len,<- FW]; simp
    ·simpa using (iv.pS aG.zQ _).1
   ·rw [if_neg bc] at J
    have gk:outs[t]?=some (some x):=by
     cases b9:outs[t]? with
     | none=>rw [b9] at J; cases J
     | some y=>rw [b9] at J; simpa using J
    obtain ⟨h1,al,aR⟩:=oV t x gk
    have FQ:t<vs.length:=by
     have:=(List.getElem?_eq_some_iff.1 gk).1
     rw [FW,<- bf.len]; exact this
    obtain ⟨v,hv,bh⟩:=iR.rel t x h1
    refine ⟨v,?_,?_⟩
    ·rw [hold.2 t aR] at hv
     simp only at hv
     rw [oS t FQ] at hv
     simp only [List.getElem?_toArray] at hv ⊢
     rw [List.getElem?_append_left FQ]; exact hv
    ·simp only [bc,if_false]
     rw [if_pos ⟨x,gk⟩]
     exact .tree ((bh.hT (by rintro z p n m new rfl; cases al)).bI al)
  ·unfold oj at pI
   by_cases bc:t=outs.length
   ·rw [if_pos bc] at pI; cases pI
   ·rw [if_neg bc] at pI
    simp only [bc,if_false] at ab
    rw [if_neg] at ab
    ·exact ab
    ·rintro ⟨x,J⟩
     rw [J] at pI; cases pI
  ·by_cases bc:t=outs.length <;> by_cases B0:dh=outs.length <;> simp only [bc,B0,if_true,if_false] at h1 al
   ·rw [bc,B0]
   ·split at al
    ·obtain ⟨k,hk,ab⟩:=h1
     exact absurd al (iv.off k dh c hk ab)
    ·exact al.elim
   ·split at h1
    ·obtain ⟨k,hk,ab⟩:=al
     exact absurd h1 (iv.off k t c hk ab)
    ·exact h1.elim
   ·split at h1
    ·split at al
     ·exact iR.e8 _ _ _ h1 al
     ·exact al.elim
    ·exact h1.elim
  ·by_cases bc:t=outs.length <;> simp only [bc,if_true,if_false] at ab
   ·obtain ⟨k,hk,ab⟩:=ab
    exact iv.aD k c hk ab
   ·split at ab
    ·exact iR.aD _ _ ab
    ·exact ab.elim
  ·have key:∀ t x,oj outs (pS xs) t=some x->c' x:=by
    intro t x J
    unfold oj at J
    split at J
    ·cases J; exact (iv.pS aG.zQ (λ_ _=>False)).2
    ·cases b9:outs[t]? with
     | none=>rw [b9] at J; cases J
     | some y=>rw [b9] at J; exact (oV t x (by rw [b9]; simpa using J)).2.1
   have:=key t _ h1
   cases this
  ·by_cases bc:t=outs.length <;> simp only [bc,if_true,if_false] at ab
   ·obtain ⟨k,hk,ab⟩:=ab
    exact gJ c (.inr ⟨k,hk,ab⟩)
   ·split at ab
    ·exact gJ c (.inl ⟨t,ab⟩)
    ·exact ab.elim
 obtain ⟨iN,h5,R1⟩:=Rm
 have RO:cy.defers=[]/\∃ v,(results fn cy.tmps).run P w'=.ok v w'/\∃ hP I' cq,Ending.returned v=.returned hP/\cW w' I' (vs++[hP]).toArray (oj outs (pS xs)) cq/\kE w I (λc=>∃ t,Fs t c) w' I' (λc=>∃ t,cq t c) :=
  ⟨aV,vM us,TO ql h7,vM us,I',iN,rfl,h5,cd.trans ⟨Fr.refl _ _,λ_ h=>h,λ_ h=>.inl h,λc ⟨t,ab⟩=>.inl (R1 t c ab)⟩⟩
 rcases he with rfl | rfl <;> exact RO
end
end Go.Own
namespace Go.Own
open Go
def get:List (Nat × ag)->aU
 | [],_=>none
 | (s,x)::l,t=>if t=s then some x else get l t
inductive Rd (g:aU):Operand->ag->Prop
 | lit {t:Nat}{v:Value}(h:g t=some (.lit v)):Rd g (.tmp t) (.lit v)
 | k {v:Value}(h:ofConst v=.lit v):Rd g (.const v) (.lit v)
 | CF:Rd g (.const (.slice none 0 0)) .aJ
 | SZ {v:Value}{cs:List ag}(h:ofConst v=.agg cs):Rd g (.const v) (.agg cs)
 | aJ {t:Nat}(h:g t=some .aJ):Rd g (.tmp t) .aJ
 | aD {t z n:Nat}{cs:List ag}(h:g t=some (.aD z n cs)):Rd g (.tmp t) (.aD z n cs)
 | own {t z n:Nat}{cs:List ag}(h:g t=some (.own z n cs)):Rd g (.tmp t) (.bm z ⟨t,[]⟩ n)
 | obj {t:Nat}{c:ag}{cs:List ag}(h:g t=some (.obj (c::cs))):Rd g (.tmp t) (.ptr ⟨t,[]⟩ 0)
 | bn {t:Nat}{cs:List ag}(h:g t=some (.bn cs)):Rd g (.tmp t) (.bn cs)
 | ptr {t k:Nat}{p:Place}(h:g t=some (.ptr p k)):Rd g (.tmp t) (.ptr p k)
 | bm {t z n:Nat}{p:Place}(h:g t=some (.bm z p n)):Rd g (.tmp t) (.bm z p n)
 | sub {t z lo n:Nat}{p:Place}(h:g t=some (.sub z p lo n)):Rd g (.tmp t) (.sub z p lo n)
 | b2 {t z n m:Nat}{p:Place}{new:List ag}(h:g t=some (.b2 z p n m new)):Rd g (.tmp t) (.bm z ⟨t,[]⟩ (n+m))
 | agg {t:Nat}{cs cs':List ag}(h:g t=some (.agg cs)) (ab:(cs.mapIdx λi x=>h_ 1 (Place.push ⟨t,[]⟩ i) x)=cs'):Rd g (.tmp t) (.agg cs')
 | cw {t:Nat}{cs cs':List ag}(h:g t=some (.cw cs)) (ab:(cs.mapIdx λi x=>h_ 1 (Place.push ⟨t,[]⟩ i) x)=cs'):Rd g (.tmp t) (.cw cs')
 | func {f:FuncId}:Rd g (.func f) (.ef (.func f) [] [])
 | ef {t:Nat}{fn:Fn}{cs:List ag}(h:g t=some (.ef fn [] cs)):Rd g (.tmp t) (.ef fn [] cs)
 | mp {t:Nat}{q:Array MapEntry->Nat->Prop}(h:g t=some (.mp q)):Rd g (.tmp t) (.iK ⟨t,[]⟩)
 | iK {t:Nat}{p:Place}(h:g t=some (.iK p)):Rd g (.tmp t) (.iK p)
 | imp {t:Nat}{q:Array MapEntry->Nat->Prop}(h:g t=some (.imp q)):Rd g (.tmp t) (.imp q)
theorem Rd.bL {g:aU}{x:Operand}{y:ag}(h:Rd g x y):bL g x=some y:=by
 cases h with
 | agg h ab=>subst ab; simp [Own.bL,h,qA,h_]
 | cw h ab=>subst ab; simp [Own.bL,h,qA,h_]
 | k h=>simp [Own.bL,h]
 | CF=>rfl
 | SZ h=>simp [Own.bL,h]
 | func=>rfl
 | _ h=>simp [Own.bL,h,qA,h_]
section
variable {P:Program}{N:dE}{ops:Array Oper}{g:aU}{K:aU->Prop}{l:List Oper}
def ar (P:Program) (N:dE) (ops:Array Oper) (l:List Oper) (g:aU) (K:aU->Prop):Prop:=∀ i,ops.toList.drop i=l->HZ P N ops (List.range' i l.length) g K
theorem W.TE {id:Nat}{l:List Oper}{g:aU}{Φ:Exit->aU->Prop}(h:ar P N l.toArray l g (Φ .normal)):W P N (.region id l.toArray false) g Φ:=by
 refine W.region ?_
 have:=h 0 (by simp)
 rw [List.range_eq_range']
 simpa using this
theorem ar.nil (h:K g):ar P N ops [] g K:=λ_ _=>⟨g,.nil,h⟩
theorem drop_cons {i:Nat}{o:Oper}(h:ops.toList.drop i=o::l):ops[i]?=some o/\ops.toList.drop (i+1)=l:=by
 have h1:(ops.toList.drop i)[0]?=some o:=by rw [h]; rfl
 rw [List.getElem?_drop] at h1
 refine ⟨by simpa using h1,?_⟩
 rw [<- List.drop_drop,h]
 rfl
variable {d:Nat}{op:Op}{ty:TypeId}{pos:String}{after:Array Edge}{x:ag}
theorem ar.xU {r:Option ag}{o:Oper}(aV:o.dst=some d) (bY:N.ok d=true) (bj:g d=none) (aP:oD P g ops o r) (hk:ar P N ops l (vK g d r) K):ar P N ops (o::l) g K:=by
 intro i hi
 obtain ⟨h1,al⟩:=drop_cons hi
 obtain ⟨g',aw,eC⟩:=hk (i+1) al
 exact ⟨g',.step h1 aV bj bY aP aw,eC⟩
inductive HS (g:aU) (d:Nat):aU->Prop
 | new (h:g d=none):HS g d g
 | lv {y:ag}(h:g d=some y) (ao:leaf y=true):HS g d (del g d)
inductive gv (g:aU) (ops:Array Oper):Option (Nat × Bool)->Prop
 | none:gv g ops none
 | yes {ae t:Nat}{b:Bool}(h:(ops[ae]?).bind (·.dst)=some t) (a7:g t=some (.lit (.bool b))):gv g ops (some (ae,b))
variable {ig:Option (Nat × Bool)}{g1:aU}
theorem gv.del {y:ag}(h:gv g ops ig) (aV:g d=some y) (aI:∀ b,y≠.lit (.bool b)):iP (del g d) ops ⟨some d,op,ty,pos,after,ig⟩ true:=by
 cases h with
 | none=>rfl
 | @yes ae t b h a7 =>
  have:t≠d:=by
   rintro rfl
   rw [aV] at a7; cases a7; exact aI _ rfl
  exact ⟨t,h,.inl ⟨b,by simp only [Own.del,if_neg this,a7],by simp⟩⟩
theorem gv.wanted (h:gv g ops ig):iP g ops ⟨some d,op,ty,pos,after,ig⟩ true:=by
 cases h with
 | none=>rfl
 | @yes ae t b h a7=>exact ⟨t,h,.inl ⟨b,a7,by simp⟩⟩
theorem ar.My (aF:dr P g op ty x) (bY:N.ok d=true) (bj:g d=none) (hw:iP g ops ⟨some d,op,ty,pos,after,ig⟩ true) (hk:ar P N ops l (e2 g d x) K):ar P N ops (⟨some d,op,ty,pos,after,ig⟩::l) g K :=
 .xU rfl bY bj (r:=some x) (.inl ⟨hw,.inl aF⟩) hk
theorem ar.val (aF:dj P g op ty x) (bY:N.ok d=true) (bj:g d=none) (a7:gv g ops ig) (hk:ar P N ops l (e2 g d x) K):ar P N ops (⟨some d,op,ty,pos,after,ig⟩::l) g K :=
 .My (.fk aF) bY bj a7.wanted hk
theorem ar.UA (aF:dr P g op ty x) (bY:N.ok d=true) (bj:g d=none) (a7:gv g ops ig) (hk:ar P N ops l (e2 g d x) K):ar P N ops (⟨some d,op,ty,pos,after,ig⟩::l) g K :=
 .My aF bY bj a7.wanted hk
theorem ar.call (aF:cu P g op x) (bY:N.ok d=true) (bj:g d=none) (a7:gv g ops ig) (hk:ar P N ops l (e2 g d x) K):ar P N ops (⟨some d,op,ty,pos,after,ig⟩::l) g K :=
 .xU rfl bY bj (r:=some x) (.inl ⟨a7.wanted,.inr aF⟩) hk
theorem ar.pass {ae dh:Nat}{b:Bool}(h:(ops[ae]?).bind (·.dst)=some dh) (a7:g dh=some (.lit (.bool (!b)))) (bY:N.ok d=true) (bj:g d=none) (hk:ar P N ops l g K):ar P N ops (⟨some d,op,ty,pos,after,some (ae,b)⟩::l) g K :=
 .xU rfl bY bj (r:=Option.none) ⟨dh,h,.inl ⟨!b,a7,by cases b <;> rfl⟩⟩ hk
variable {jz:Option Nat}
theorem ar.forget {g1:aU}(hk:gd g g1) (h:ar P N ops l g1 K):ar P N ops l g K:=by
 intro i hi
 obtain ⟨g',aw,eC⟩:=h i hi
 exact ⟨g',.forget hk aw,eC⟩
variable {a b:Operand}{t t2:TypeId}{k:IntKind}{m n:Int}
theorem dj.add (J:Rd g a (.lit (.int k m))) (ay:Rd g b (.lit (.int k n))):dj P g (.binOp .add t a b t2) ty (.lit (.int k (k.wrap (m+n)))) :=
 .bin J.bL ay.bL rfl λw=>by simp [eqGuard,binOp,Op.intArith]
theorem dj.T7 (J:Rd g a (.lit (.int k m))) (ay:Rd g b (.lit (.int k n))):dj P g (.binOp .sub t a b t2) ty (.lit (.int k (k.wrap (m - n)))) :=
 .bin J.bL ay.bL rfl λw=>by simp [eqGuard,binOp,Op.intArith]
theorem dj.mul (J:Rd g a (.lit (.int k m))) (ay:Rd g b (.lit (.int k n))):dj P g (.binOp .mul t a b t2) ty (.lit (.int k (k.wrap (m * n)))) :=
 .bin J.bL ay.bL rfl λw=>by simp [eqGuard,binOp,Op.intArith]
theorem dj.quo (J:Rd g a (.lit (.int k m))) (ay:Rd g b (.lit (.int k n))) (h:n≠0):dj P g (.binOp .quo t a b t2) ty (.lit (.int k (k.wrap (m.tdiv n)))) :=
 .bin J.bL ay.bL rfl λw=>by simp [eqGuard,binOp,Op.intDiv,h]
theorem dj.rem (J:Rd g a (.lit (.int k m))) (ay:Rd g b (.lit (.int k n))) (h:n≠0):dj P g (.binOp .rem t a b t2) ty (.lit (.int k (m.tmod n))) :=
 .bin J.bL ay.bL rfl λw=>by simp [eqGuard,binOp,Op.intDiv,h]
theorem dj.cat {s u:ByteArray}(J:Rd g a (.lit (.string s))) (ay:Rd g b (.lit (.string u))) (h:s.size+u.size<=9223372036854775807):dj P g (.binOp .add t a b t2) ty (.lit (.string (s++u))) :=
 .bin J.bL ay.bL rfl λw=>by
  have:¬ ((s.size+u.size:Nat):Int) > IntKind.i64.max:=by
   have:IntKind.i64.max=9223372036854775807:=by decide
   omega
  simp only [eqGuard,binOp,Op.stringOp,if_neg this]
  simp
theorem Iz {s u:ByteArray}(h:s.toList=u.toList):s=u:=by
 have h1:s.data.toList=u.data.toList:=by
  rw [<- ByteArray.toList_eq,<- ByteArray.toList_eq,h]
 cases s; cases u
 congr 1
 exact Array.toList_inj.1 h1
theorem dj.n0 {s u:ByteArray}(J:Rd g a (.lit (.string s))) (ay:Rd g b (.lit (.string u))) {c:Bool}(ab:c=true↔s=u):dj P g (.binOp .eql t a b t2) ty (.lit (.bool c)) :=
 .bin J.bL ay.bL rfl λw=>by
  have:(s.toList == u.toList)=c:=by
   rw [Bool.eq_iff_iff,ab]
   simp only [beq_iff_eq]
   exact ⟨Iz,λh=>by rw [h]⟩
  simp [eqGuard,binOp,Op.stringOp,this]
theorem dj.lS {s u:ByteArray}(J:Rd g a (.lit (.string s))) (ay:Rd g b (.lit (.string u))) {c:Bool}(ab:c=true↔s≠u):dj P g (.binOp .neq t a b t2) ty (.lit (.bool c)) :=
 .bin J.bL ay.bL rfl λw=>by
  have:(s.toList == u.toList)=!c:=by
   rw [Bool.eq_iff_iff]
   simp only [beq_iff_eq,Bool.not_eq_true']
   cases c with
   | true=>simp only [true_iff] at ab; simp only [Bool.true_eq_false,iff_false]; exact λh=>ab (Iz h)
   | false =>
    simp only [Bool.false_eq_true,false_iff,Decidable.not_not] at ab
    simp [ab]
  simp [eqGuard,binOp,Op.stringOp,this]
theorem dj.lss (J:Rd g a (.lit (.int k m))) (ay:Rd g b (.lit (.int k n))) {c:Bool}(ab:c=true↔m<n):dj P g (.binOp .lss t a b t2) ty (.lit (.bool c)) :=
 .bin J.bL ay.bL rfl λw=>by
  have:decide (m<n)=c:=by rw [Bool.eq_iff_iff,ab]; simp
  simp [eqGuard,binOp,Op.intCmp,this]
theorem dj.leq (J:Rd g a (.lit (.int k m))) (ay:Rd g b (.lit (.int k n))) {c:Bool}(ab:c=true↔m<=n):dj P g (.binOp .leq t a b t2) ty (.lit (.bool c)) :=
 .bin J.bL ay.bL rfl λw=>by
  have:decide (m<=n)=c:=by rw [Bool.eq_iff_iff,ab]; simp
  simp [eqGuard,binOp,Op.intCmp,this]
theorem dj.gtr (J:Rd g a (.lit (.int k m))) (ay:Rd g b (.lit (.int k n))) {c:Bool}(ab:c=true↔n<m):dj P g (.binOp .gtr t a b t2) ty (.lit (.bool c)) :=
 .bin J.bL ay.bL rfl λw=>by
  have:decide (n<m)=c:=by rw [Bool.eq_iff_iff,ab]; simp
  simp [eqGuard,binOp,Op.intCmp,this]
theorem dj.geq (J:Rd g a (.lit (.int k m))) (ay:Rd g b (.lit (.int k n))) {c:Bool}(ab:c=true↔n<=m):dj P g (.binOp .geq t a b t2) ty (.lit (.bool c)) :=
 .bin J.bL ay.bL rfl λw=>by
  have:decide (n<=m)=c:=by rw [Bool.eq_iff_iff,ab]; simp
  simp [eqGuard,binOp,Op.intCmp,this]
theorem dj.eql (J:Rd g a (.lit (.int k m))) (ay:Rd g b (.lit (.int k n))) {c:Bool}(ab:c=true↔m=n):dj P g (.binOp .eql t a b t2) ty (.lit (.bool c)) :=
 .bin J.bL ay.bL rfl λw=>by
  have:(m == n)=c:=by rw [Bool.eq_iff_iff,ab]; simp
  simp [eqGuard,binOp,Op.intCmp,this]
theorem dj.neq (J:Rd g a (.lit (.int k m))) (ay:Rd g b (.lit (.int k n))) {c:Bool}(ab:c=true↔m≠n):dj P g (.binOp .neq t a b t2) ty (.lit (.bool c)) :=
 .bin J.bL ay.bL rfl λw=>by
  have:(m != n)=c:=by rw [Bool.eq_iff_iff,ab]; simp
  simp [eqGuard,binOp,Op.intCmp,this]
theorem dj.not {c:Bool}(J:Rd g a (.lit (.bool c))):dj P g (.unOp .not t a) ty (.lit (.bool (!c))) :=
 .un J.bL rfl λw=>by simp [Op.unary]
theorem dj.Tx {c a b:Operand}{y:ag}(ab:Rd g c (.lit (.bool true))) (aw:Rd g a y):dj P g (.pick c a b) ty y:=.pick ab.bL aw.bL
theorem dj.Tw {c a b:Operand}{y:ag}(ab:Rd g c (.lit (.bool false))) (aw:Rd g b y):dj P g (.pick c a b) ty y:=.pick ab.bL aw.bL
theorem dj.mo {s:ByteArray}(J:Rd g a (.lit (.string s))) (aG:pW P t=true):dj P g (.call { callee:=.builtin .len,args:=#[a],argTypes:=#[t] }) ty (.lit (.int .i64 s.size)) :=
 .lits (vs:=[.string s]) (by simp [J.bL]) rfl λw cs=>by
  simp [builtin,Builtin.len_,run_underlying (Hn aG),goInt]
section
variable {fJ:aU->Prop}{Φ:Exit->aU->Prop}{id k:Nat}
theorem Up (h:fJ g):sL fJ Φ .normal g:=h
theorem Uq (h:Φ .ret g):sL fJ Φ .ret g:=h
theorem Uo (h:Φ (.exit k) g):sL fJ Φ (.exit k) g:=h
theorem SN (h:Φ .normal g):rm id Φ .normal g:=h
theorem SO (h:Φ .ret g):rm id Φ .ret g:=h
theorem SL (h:Φ .normal g):rm id Φ (.exit id) g:=by
 show if id=id then Φ .normal g else Φ (.exit id) g
 rw [if_pos rfl]; exact h
theorem SM (hk:Nat.beq k id=false) (h:Φ (.exit k) g):rm id Φ (.exit k) g:=by
 show if k=id then Φ .normal g else Φ (.exit k) g
 rw [if_neg (Nat.ne_of_beq_eq_false hk)]; exact h
end
def Fin (P:Program) (N:dE) (rs:List ResultVar) (n:Nat) (outs:List (Option ag)) (res:ag) (e:Exit) (g':aU):Prop:=(e=.normal\/e=.ret)/\Leaves P N rs g' n outs res
theorem b_.fin {f:FuncId}{fn:Func}{c:Code}{args:List ag}{outs:List (Option ag)}{res:ag}{N:dE}(bj:P.funcs[f]?=some fn) (aI:fn.body=some c) (bY:fn.ntmps=N.size) (bg:Nat.ble args.length N.size=true) (hlen:outs.length=args.length)
  (hw:W P N c (oH args) (Fin P N fn.results.toList args.length outs res)):b_ P f args outs res:=.Tf bj aI bY (Nat.le_of_ble_eq_true bg) hlen hw
def vt (outs:List (Option ag)):Bool:=outs.all λx=>x.isNone
theorem CN {outs:List (Option ag)}(h:vt outs=true) (k:Nat) (x:ag):outs[k]?≠some (some x):=by
 intro e
 have:=List.all_eq_true.1 h _ (List.mem_of_getElem? e)
 simp at this
theorem Fin.one {t:Nat}{y res:ag}{outs:List (Option ag)}{n:Nat}(ay:Rd g (.tmp t) y) (aN:c' y) (bf:vt outs=true) (ao:outs.length=n) (he:y=res):Fin P N [.tmp t] n outs res .ret g :=
 ⟨.inr rfl,⟨[y],[y],g,.cons (.tmp ay.bL) .nil,.bI (by simpa using aN),he.symm,λk x hk=>absurd hk (CN bf k x)⟩,ao⟩
inductive yb (g:aU):List ResultVar->List ag->Prop
 | nil:yb g [] []
 | cons {t:Nat}{y:ag}{rs:List ResultVar}{ys:List ag}(h:Rd g (.tmp t) y) (aN:c' y) (aG:yb g rs ys):yb g (.tmp t::rs) (y::ys)
theorem yb.spec {rs:List ResultVar}{ys:List ag}(h:yb g rs ys):p3 P g rs ys/\∀ y∈ys,c' y:=by
 induction h with
 | nil=>exact ⟨.nil,by simp⟩
 | cons h aN _ aS=>exact ⟨.cons (.tmp h.bL) aS.1,oh aN aS.2⟩
inductive qP (g:aU):List Operand->List ag->Prop
 | nil:qP g [] []
 | cons {x:Operand}{y:ag}{xs:List Operand}{ys:List ag}(h:Rd g x y) (aN:c' y) (aG:qP g xs ys):qP g (x::xs) (y::ys)
theorem qP.spec {xs:List Operand}{ys:List ag}(h:qP g xs ys):iz g xs=some ys/\∀ y∈ys,c' y:=by
 induction h with
 | nil=>exact ⟨rfl,by simp⟩
 | cons h aN _ aS=>exact ⟨by simp only [iz,h.bL,aS.1],oh aN aS.2⟩
theorem cu.Ps {xs:List Operand}{ir:Array TypeId}{f:FuncId}{ys:List ag}{outs:List (Option ag)}{res:ag}(iT:b_ P f ys outs res) (bj:dw P f=true) (J:qP g xs ys) (bf:vt outs=true) (aw:c' res) :
  cu P g (.call { callee:=.value (.func f),args:=xs.toArray,argTypes:=ir }) res:=by
 have oV:outs=ys.map λ_=>Option.none:=by
  apply List.ext_getElem?
  intro k
  rw [List.getElem?_map]
  cases ay:ys[k]? with
  | none=>rw [List.getElem?_eq_none (by rw [iT.1]; exact List.getElem?_eq_none_iff.1 ay)]; rfl
  | some y =>
   have hk:k<outs.length:=by rw [iT.1]; exact (List.getElem?_eq_some_iff.1 ay).1
   have h1:=List.getElem?_eq_getElem hk
   rw [h1]
   cases al:outs[k] with
   | none=>rfl
   | some x=>rw [al] at h1; exact absurd h1 (CN bf k x)
 exact .plain (first:=[]) (caps:=[]) (ys:=ys) rfl (by simpa using J.spec.1) bj (by simpa using J.spec.2) (by simpa [<- oV] using iT) aw
end
end Go.Own
namespace Go.Own
open Go
def yl (s:ByteArray) (m:Int):Int:=((s[m.toNat]?.getD 0).toNat:Nat)
def uK (s:ByteArray) (m n:Int):ByteArray:=s.extract m.toNat n.toNat
section
variable {P:Program}{N:dE}{ops:Array Oper}{g:aU}{K:aU->Prop}{l:List Oper}
variable {d:Nat}{op:Op}{ty:TypeId}{pos:String}{after:Array Edge}{x:ag}{a b:Operand}{t t2:TypeId}{k:IntKind}{m n:Int}{ig:Option (Nat × Bool)}
theorem dj.NA {s:ByteArray}{i:Operand}(J:Rd g a (.lit (.string s))) (hi:Rd g i (.lit (.int k m))) (aG:pW P t=true) (h:0<=m/\m<s.size):dj P g (.index t a i) ty (.lit (.int .u8 (yl s m))):=by
 obtain ⟨ae,rfl⟩:=Int.eq_ofNat_of_zero_le h.1
 have aa:ae<s.size:=by omega
 have aI:s[ae]?=some s[ae]:=getElem?_pos s ae aa
 have:yl s (ae:Int)=(s[ae].toNat:Nat):=by simp [yl,aI]
 rw [this]
 exact .Cx J.bL hi.bL aG aI
theorem dj.Hl {s:ByteArray}{lo hi:Operand}{sq:IntKind}(J:Rd g a (.lit (.string s))) (ao:Rd g lo (.lit (.int k m))) (b9:Rd g hi (.lit (.int sq n))) (aG:pW P t=true) (h:0<=m/\m<=n/\n<=s.size) :
  dj P g (.slice t a (some lo) (some hi) none) ty (.lit (.string (uK s m n))):=by
 obtain ⟨i,rfl⟩:=Int.eq_ofNat_of_zero_le h.1
 obtain ⟨ae,rfl⟩:=Int.eq_ofNat_of_zero_le (show 0<=n by omega)
 exact .Dd J.bL ⟨_,ao.bL⟩ ⟨_,b9.bL⟩ aG (by omega) (by omega)
theorem O_ {s:ByteArray}{m n:Int}(h:0<=m/\m<=n/\n<=s.size):((uK s m n).size:Int)=n - m:=by
 unfold uK
 rw [ByteArray.size_extract]
 omega
theorem dj.bytes {z p iO:Nat}{cs:List ag}{xs:List Int}(J:g p=some (.own 1 iO cs)) (hx:cs=xs.map λb=>.lit (.int .u8 b)) (ao:cs.length=iO) (aG:uy P t t2=true) (_hz:z=0):dj P g (.convert t t2 (.tmp p)) ty (.lit (.string (strOfNums xs))) :=
 .BH (p:=⟨p,[]⟩) (n:=iO) (N:=iO) (cs:=cs) (by simp [bL,J,qA,h_]) (by simp [b8,J,ag.at]) (Nat.le_refl _) (by rw [List.take_of_length_le (by omega)]; exact hx) aG
def jT (P:Program) (e:TypeId) (z:Nat):Bool :=
 match (P.info? e).bind (·.zero) with
 | some v=>v.cells.size == z
 | none=>false
theorem HJ {e:TypeId}{z:Nat}(h:jT P e z=true):∃ v,(P.info? e).bind (·.zero)=some v/\v.cells.size=z:=by
 unfold jT at h
 split at h
 ·rename_i v hv; exact ⟨v,hv,by simpa using h⟩
 ·cases h
inductive rI (g:aU):List Operand->List Value->Prop
 | nil:rI g [] []
 | cons {x:Operand}{v:Value}{xs:List Operand}{vs:List Value}(h:Rd g x (.lit v)) (aG:rI g xs vs):rI g (x::xs) (v::vs)
theorem rI.iz {xs:List Operand}{vs:List Value}(h:rI g xs vs):iz g xs=some (vs.map .lit):=by
 induction h with
 | nil=>rfl
 | cons h _ aS=>simp only [Own.iz,h.bL,aS]; rfl
theorem rI.map {xs:List Operand}{vs:List Value}(h:rI g xs vs):xs.map (bL g)=vs.map λv=>some (.lit v):=by
 induction h with
 | nil=>rfl
 | cons h _ aS=>simp only [List.map_cons,h.bL,aS]
theorem dr.row {e:TypeId}{xs:List Operand}{vs:List Value}{parts:Array (Nat × Operand)}{hU:Nat}(J:rI g xs vs) (aF:parts.toList=xs.mapIdx (λi x=>(i,x))) (aN:xs.length=hU) (aG:fm P t e 1=true) (bG:jT P e 1=true) (aI:Nat.ble hU 1000=true) :
  dr P g (.buildSlice t hU parts) ty (.own 1 hU (vs.map .lit)):=by
 subst aN
 have ko:=Nat.le_of_ble_eq_true aI
 refine .qy (.buildSlice aG aF J.iz (λy ay=>?_) ?_ (by omega) (by omega) (.inr (HJ bG)))
 ·obtain ⟨v,_,rfl⟩:=List.mem_map.1 ay
  exact ⟨[.lit v],rfl,rfl⟩
 ·generalize vs=l
  induction l with
  | nil=>rfl
  | cons v l aS=>simp only [List.map_cons,oJ,lF,aS]; rfl
inductive rL (g:aU):List Nat->List (Nat × ag)->Prop
 | nil:rL g [] []
 | some {s:Nat}{x:ag}{rA:List Nat}{l:List (Nat × ag)}(h:g s=some x) (aN:c' x) (aG:rL g rA l):rL g (s::rA) ((s,x)::l)
 | none {s:Nat}{rA:List Nat}{l:List (Nat × ag)}(aG:rL g rA l):rL g (s::rA) l
theorem rL.spec {g:aU}{rA:List Nat}{l:List (Nat × ag)}(h:rL g rA l):∀ t x,get l t=Option.some x->g t=Option.some x/\c' x:=by
 induction h with
 | nil=>intro t x J; cases J
 | @some s y rA l h aN _ aS =>
  intro t x J
  simp only [get] at J
  split at J
  ·rename_i e; subst e; cases J; exact ⟨h,aN⟩
  ·exact aS t x J
 | none _ aS=>exact aS
theorem rL.fW {g:aU}{rA:List Nat}{l:List (Nat × ag)}(h:rL g rA l):kF g (get l) :=
 ⟨λt x J=>⟨x,(h.spec t x J).1,.refl⟩,λt x J=>.bI (h.spec t x J).2,λt z q n m new J=>by have:=(h.spec t _ J).2; cases this⟩
end
end Go.Own
namespace Go.Own
open Go
def oE (s:ByteArray) (n:Nat):Prop:=s.size<=n
theorem oE.app {s u:ByteArray}{a b:Nat}(h:oE s a) (aT:oE u b):oE (s++u) (a+b):=by
 unfold oE at *
 rw [ByteArray.size_append]; omega
theorem oE.cut {s:ByteArray}{a:Nat}{m n:Int}(h:oE s a):oE (uK s m n) a:=by
 unfold oE uK at *
 rw [ByteArray.size_extract]; omega
theorem oE.const {xs:Array UInt8}:oE ⟨xs⟩ xs.size:=Nat.le_refl _
theorem oE.self {s:ByteArray}:oE s s.size:=Nat.le_refl _
section
variable {P:Program}{g:aU}{ty:TypeId}{a b:Operand}{t t2:TypeId}{N:dE}{ops:Array Oper}{K:aU->Prop}{l:List Oper}{d:Nat}{pos:String}{after:Array Edge}{ig:Option (Nat × Bool)}
theorem W.I5 {c:Operand}{x y:Code}{Φ:Exit->aU->Prop}{b:Bool}(ab:Rd g c (.lit (.bool b))) (fF:b=true->W P N x g Φ) (aQ:b=false->W P N y g Φ):W P N (.cond c x y) g Φ:=by
 cases b with
 | true=>exact .I6 ab.bL (fF rfl)
 | false=>exact .Ee ab.bL (aQ rfl)
theorem TM {c e:Bool}(aG:P.underlying t=some .bool) (w:World):(do eqGuard .eql t a b (.bool c) (.bool e); binOp .eql t (.bool c) (.bool e):Sem Value).run P w=.ok (.bool (c == e)) w:=by
 have h:=run_equal_bool w t c e aG
 simp [eqGuard,binOp,h]
def Bt (P:Program) (t:TypeId):Bool :=
 match P.underlying t with
 | some .bool=>true
 | _=>false
theorem NL (h:Bt P t=true):P.underlying t=some .bool:=by
 unfold Bt at h
 split at h
 ·assumption
 ·cases h
def rn (P:Program) (t:TypeId) (k:IntKind):Bool :=
 match P.underlying t with
 | some (.int k')=>k' == k
 | _=>false
theorem K6 {k:IntKind}(h:rn P t k=true):P.underlying t=some (.int k):=by
 unfold rn at h
 split at h
 ·rename_i k' hk; rw [hk]; have:k'=k:=by simpa using h
  rw [this]
 ·cases h
theorem dj.O6 {k k':IntKind}{m:Int}(J:Rd g a (.lit (.int k m))) (aP:rn P t k=true) (aV:rn P t2 k'=true):dj P g (.convert t t2 a) ty (.lit (.int k' (k'.wrap m))) :=
 .conv J.bL rfl λw=>by simp [convert,run_underlying (K6 aP),run_underlying (K6 aV),Conv.intToInt]
inductive Bytes (g:aU):List Operand->List Int->Prop
 | nil:Bytes g [] []
 | cons {x:Operand}{v:Int}{xs:List Operand}{vs:List Int}(h:Rd g x (.lit (.int .u8 v))) (aG:Bytes g xs vs):Bytes g (x::xs) (v::vs)
theorem Bytes.lits {xs:List Operand}{vs:List Int}(h:Bytes g xs vs):rI g xs (vs.map λb=>.int .u8 b):=by
 induction h with
 | nil=>exact .nil
 | cons h _ aS=>exact .cons h aS
end
end Go.Own
namespace Go.Own
open Go Go.RowKit
theorem cW.lits {w:World}(vs:List Value) (h:∀ v∈vs,v.oneCell'=true):cW w (λ_=>False) vs.toArray (oH (vs.map .lit)) (λ_=>cS):=by
 refine ⟨λt x J=>?_,λ_ _ _ h=>h,λ_ _ _ h=>h.elim,λ_ _ h=>h.elim,λ_ h=>h.elim,λt dh z p n m new cG cT b7 da h1 _=>?_⟩
 ·simp only [oH,List.getElem?_map] at J
  cases hv:vs[t]? with
  | none=>rw [hv] at J; cases J
  | some v =>
   rw [hv] at J
   simp only [Option.map_some,Option.some.injEq] at J
   subst J
   exact ⟨v,by simpa using hv,.tree (.lit (h v (List.mem_of_getElem? hv)) λ_ h=>h)⟩
 ·simp only [oH,List.getElem?_map] at h1
  cases hv:vs[t]? with
  | none=>rw [hv] at h1; cases h1
  | some v=>rw [hv] at h1; cases h1
end Go.Own
namespace Go.Own
open Go
section
variable {P:Program}{g:aU}{ty:TypeId}{a b:Operand}{t t2:TypeId}{N:dE}{ops:Array Oper}{K:aU->Prop}{l:List Oper}{d:Nat}{pos:String}{after:Array Edge}{ig:Option (Nat × Bool)}
theorem dj.o2 {z n cG:Nat}{p:Place}{e:TypeId}(J:Rd g a (.bm z p n)) (aG:fm P t e cG=true):dj P g (.call { callee:=.builtin .len,args:=#[a],argTypes:=#[t] }) ty (.lit (.int .i64 n)):=.zE J.bL aG
theorem dj.gz {z n cG:Nat}{cs:List ag}{e:TypeId}(J:Rd g a (.aD z n cs)) (aG:fm P t e cG=true):dj P g (.call { callee:=.builtin .len,args:=#[a],argTypes:=#[t] }) ty (.lit (.int .i64 n)):=.zF J.bL aG
end
end Go.Own
namespace Go.Own
open Go
end Go.Own
namespace Go.Own
open Go
structure cx (α:Type) where
 z:Nat
 cells:α->List ag
 len:∀ a,(cells a).length=z
 bI:∀ a,∀ x∈cells a,c' x
variable {α β S R:Type}
def cf (e:cx α) (l:List α):List ag:=l.flatMap e.cells
abbrev ak (e:cx α) (l:List α):ag:=.own e.z l.length (cf e l)
abbrev aj (e:cx α) (l:List α):ag:=.aD e.z l.length (cf e l)
abbrev j (n:Int):ag:=.lit (.int .i64 n)
abbrev lE (n:Int):ag:=.lit (.int .u8 n)
abbrev ba (b:Bool):ag:=.lit (.bool b)
abbrev af (s:ByteArray):ag:=.lit (.string s)
abbrev aM (n:Int):Int:=IntKind.i64.wrap n
abbrev g_ (n:Int):Int:=IntKind.u8.wrap n
theorem nI (e:cx α) (l:List α):(cf e l).length=l.length * e.z:=by
 induction l with
 | nil=>simp [cf]
 | cons a l aS =>
  have:cf e (a::l)=e.cells a++cf e l:=by simp [cf]
  rw [this,List.length_append,e.len,aS,List.length_cons,Nat.add_mul]; omega
theorem nJ (e:cx α) (l:List α):∀ x∈cf e l,c' x:=by
 intro x J
 obtain ⟨a,_,h⟩:=List.mem_flatMap.1 J
 exact e.bI a x h
theorem vN (e:cx α) (l m:List α):cf e (l++m)=cf e l++cf e m:=by simp [cf]
theorem AH (e:cx α):∀ (l:List α) (i:Nat),(cf e l).drop (i * e.z)=cf e (l.drop i)
 | l,0=>by simp
 | [],i+1=>by simp [cf]
 | a::l,i+1=>by
  have h:cf e (a::l)=e.cells a++cf e l:=by simp [cf]
  rw [h,List.drop_append,e.len,List.drop_eq_nil_of_le (by rw [e.len,Nat.add_mul]; omega)]
  have:(i+1) * e.z - e.z=i * e.z:=by rw [Nat.add_mul]; omega
  rw [this,List.nil_append,AH e l i]; rfl
theorem xQ (e:cx α):∀ (l:List α) (i:Nat),(cf e l).take (i * e.z)=cf e (l.take i)
 | l,0=>by simp [cf]
 | [],i+1=>by simp [cf]
 | a::l,i+1=>by
  have h:cf e (a::l)=e.cells a++cf e l:=by simp [cf]
  rw [h,List.take_append,e.len,List.take_of_length_le (by rw [e.len,Nat.add_mul]; omega)]
  have:(i+1) * e.z - e.z=i * e.z:=by rw [Nat.add_mul]; omega
  rw [this,xQ e l i]; simp [cf]
def idx (l:List α) (i:Int):Option α:=if 0<=i then l[i.toNat]? else none
theorem pM {l:List α}{i:Int}{y:α}(h:idx l i=some y):0<=i/\i<l.length/\l[i.toNat]?=some y:=by
 unfold idx at h
 split at h
 ·have:=(List.getElem?_eq_some_iff.1 h).1
  exact ⟨by assumption,by omega,h⟩
 ·cases h
theorem LR (e:cx α) {l:List α}{i:Int}{y:α}(h:idx l i=some y):(cf e l).drop (i.toNat * e.z)=e.cells y++cf e (l.drop (i.toNat+1)):=by
 obtain ⟨bc,h1,al⟩:=pM h
 rw [AH]
 obtain ⟨bd,he⟩:=List.getElem?_eq_some_iff.1 al
 rw [List.drop_eq_getElem_cons bd,he]; simp [cf]
theorem LQ (e:cx α) {l:List α}{i:Int}{y:α}(h:idx l i=some y) {k:Nat}{x:ag}(hk:(e.cells y)[k]?=some x):(cf e l)[i.toNat * e.z+k]?=some x:=by
 have bd:=(List.getElem?_eq_some_iff.1 hk).1
 rw [<- List.getElem?_drop,LR e h,List.getElem?_append_left bd]; exact hk
abbrev lim:Nat:=1099511627776
def fuel:Nat:=1000000000000000000
def iter (f:S->Option (S ⊕ R)):Nat->S->Option R
 | 0,_=>none
 | n+1,s=>match f s with
  | none=>none
  | some (.inl e6)=>iter f n e6
  | some (.inr r)=>some r
def cK (f:S->Option (S ⊕ R)) (s:S):Option R:=iter f fuel s
theorem aB {o:Option α}{f:α->Option β}{r:β}(h:o.bind f=some r):∃ y,o=some y/\f y=some r:=Option.bind_eq_some_iff.1 h
theorem Oc {b:Bool}{x y o:α}(aI:b=true) (h:cond b x y=o):x=o:=by subst aI; exact h
theorem Ob {b:Bool}{x y o:α}(aI:b=false) (h:cond b x y=o):y=o:=by subst aI; exact h
theorem cI {b:Bool}{x y o:α}(h:cond b x y=o):(b=true/\x=o)\/(b=false/\y=o):=by cases b <;> simp_all
theorem ax {a b:α}(h:some a=some b):a=b:=Option.some.inj h
class cP (x:ag):Prop where bI:c' x
class eR (cs:List ag):Prop where bI:∀ x∈cs,c' x
instance {v:Value}:cP (.lit v):=⟨.lit⟩
instance:cP .aJ:=⟨.aJ⟩
instance:cP .dead:=⟨.dead⟩
instance {z n:Nat}{cs:List ag} [h:eR cs]:cP (.aD z n cs):=⟨.aD h.bI⟩
instance {z n:Nat}{cs:List ag} [h:eR cs]:cP (.own z n cs):=⟨.own h.bI⟩
instance {cs:List ag} [h:eR cs]:cP (.obj cs):=⟨.obj h.bI⟩
instance {cs:List ag} [h:eR cs]:cP (.agg cs):=⟨.agg h.bI⟩
instance {cs:List ag} [h:eR cs]:cP (.cw cs):=⟨.cw h.bI⟩
instance {cs:List ag} [h:eR cs]:cP (.bn cs):=⟨.bn h.bI⟩
instance {f:Fn}{a b:List ag} [h:eR a] [aT:eR b]:cP (.ef f a b):=⟨.ef h.bI aT.bI⟩
instance:eR []:=⟨by simp⟩
instance {x:ag}{cs:List ag} [h:cP x] [aT:eR cs]:eR (x::cs):=⟨oh h.bI aT.bI⟩
instance {e:cx α}{l:List α}:eR (cf e l):=⟨nJ e l⟩
instance {e:cx α}{a:α}:eR (e.cells a):=⟨e.bI a⟩
instance {a b:List ag} [h:eR a] [aT:eR b]:eR (a++b):=⟨λx J=>(List.mem_append.1 J).elim (h.bI x) (aT.bI x)⟩
instance {a:List ag}{n:Nat} [h:eR a]:eR (a.drop n):=⟨λx J=>h.bI x (List.mem_of_mem_drop J)⟩
instance {a:List ag}{n:Nat} [h:eR a]:eR (a.take n):=⟨λx J=>h.bI x (List.mem_of_mem_take J)⟩
instance {v:Value}{n:Nat}:eR (List.replicate n (.lit v)):=⟨λx J=>by rw [(List.mem_replicate.1 J).2]; exact .lit⟩
abbrev cx.one (f:α->ag) (h:∀ a,c' (f a)):cx α:=⟨1,λa=>[f a],λ_=>rfl,λa x J=>by rw [List.mem_singleton.1 J]; exact h a⟩
def aL:cx Int:=.one (λn=>j n) λ_=>.lit
def nw:cx Int:=.one (λn=>lE n) λ_=>.lit
def bF:cx Bool:=.one (λb=>ba b) λ_=>.lit
def cr:cx ByteArray:=.one (λs=>af s) λ_=>.lit
def fa (e:cx α):cx (List α):=.one (λl=>ak e l) λl=>.own (nJ e l)
def b5 (e:cx α):cx (List α):=.one (λl=>aj e l) λl=>.aD (nJ e l)
inductive Trim (b:Bool) (g g2:aU):List (Nat × ag)->Prop
 | nil:Trim b g g2 []
 | n {s:Nat}{x:ag}{l:List (Nat × ag)}(h:g s=some x) [aN:cP x] (t:Trim b g g2 l):Trim b g g2 ((s,x)::l)
 | r {s:Nat}{x:ag}{l:List (Nat × ag)}(h:g s=some x) (aN:eY g2 x) (aF:∀ z p n m new,x≠.b2 z p n m new) (t:Trim b g g2 l):Trim b g g2 ((s,x)::l)
 | e {s:Nat}{x y:ag}{l:List (Nat × ag)}(h:g s=some y) (he:y=x) [aN:cP x] (t:Trim b g g2 l):Trim b g g2 ((s,x)::l)
 | w {s:Nat}{x y:ag}{l:List (Nat × ag)}(aI:b=true) (h:g s=some y) (hw:nY y x) [aN:cP x] (t:Trim b g g2 l):Trim b g g2 ((s,x)::l)
theorem Trim.spec {b:Bool}{g g2:aU}{l:List (Nat × ag)}(h:Trim b g g2 l):∀ t x,get l t=some x->(∃ y,g t=some y/\nY y x/\(b=false->y=x))/\eY g2 x/\∀ z p n m new,x≠.b2 z p n m new:=by
 have fP:∀ {x:ag},c' x->∀ z p n m new,x≠.b2 z p n m new:=by rintro x h z p n m new rfl; cases h
 induction h with
 | nil=>intro t x J; cases J
 | @n _ _ _ h aN _ aS =>
  intro t x J; simp only [get] at J
  split at J
  ·rename_i e; subst e; cases J; exact ⟨⟨_,h,.refl,λ_=>rfl⟩,.bI aN.bI,fP aN.bI⟩
  ·exact aS t x J
 | r h aN aF _ aS =>
  intro t x J; simp only [get] at J
  split at J
  ·rename_i e; subst e; cases J; exact ⟨⟨_,h,.refl,λ_=>rfl⟩,aN,aF⟩
  ·exact aS t x J
 | @e _ _ _ _ h he aN _ aS =>
  intro t x J; simp only [get] at J
  split at J
  ·rename_i e; subst e he; cases J; exact ⟨⟨_,h,.refl,λ_=>rfl⟩,.bI aN.bI,fP aN.bI⟩
  ·exact aS t x J
 | @w _ _ _ _ aI h hw aN _ aS =>
  intro t x J; simp only [get] at J
  split at J
  ·rename_i e; subst e; cases J; exact ⟨⟨_,h,hw,λh=>by rw [aI] at h; cases h⟩,.bI aN.bI,fP aN.bI⟩
  ·exact aS t x J
theorem Trim.fW {b:Bool}{g:aU}{l:List (Nat × ag)}(h:Trim b g (get l) l):kF g (get l) :=
 ⟨λt x J=>by obtain ⟨⟨y,h1,al,_⟩,_⟩:=h.spec t x J; exact ⟨y,h1,al⟩,λt x J=>(h.spec t x J).2.1,λt z q n m new J=>(h.spec t _ J).2.2 _ _ _ _ _ rfl⟩
theorem Trim.keep {g:aU}{l:List (Nat × ag)}(h:Trim false g (get l) l):gd g (get l) :=
 ⟨λt x J=>by obtain ⟨⟨y,h1,_,aR⟩,_⟩:=h.spec t x J; rw [<- aR rfl]; exact h1,λt x J=>(h.spec t x J).2.1,λt z q n m new J=>(h.spec t _ J).2.2 _ _ _ _ _ rfl⟩
section
variable {P:Program}{N:dE}{ops:Array Oper}{g:aU}{K:aU->Prop}{l:List Oper}{d:Nat}{op:Op}{ty:TypeId}{pos:String}{after:Array Edge}{x:ag}{ig:Option (Nat × Bool)}
def hh (P:Program) (N:dE) (c:Code) (G G1:List (Nat × ag)):Prop:=W P N c (get G) λe g'=>e=.normal/\kF g' (get G1)
theorem W.a_ {A B:Code}{G G1:List (Nat × ag)}{Φ:Exit->aU->Prop}(h1:hh P N A G G1) (al:W P N B (get G1) Φ):W P N (.seq A B) (get G) Φ:=by
 refine W.seq (W.out h1 λe g' h=>⟨get G1,h.2,?_⟩)
 obtain ⟨rfl,_⟩:=h
 exact al
theorem W.bb {A B:Code}{G:List (Nat × ag)}{Φ:Exit->aU->Prop}(h:W P N A (get G) (sL (λg1=>W P N B g1 Φ) Φ)):W P N (.seq A B) (get G) Φ:=W.seq h
theorem ar.fin {G1:List (Nat × ag)}(h:Trim true g (get G1) G1):ar P N ops [] g λg'=>kF g' (get G1):=.nil h.fW
theorem ar.TD {G1:List (Nat × ag)}(h:Trim false g (get G1) G1) (hk:ar P N ops l (get G1) K):ar P N ops l g K:=.forget h.keep hk
theorem ar.v (aF:dr P g op ty x) (bY:N.ok d=true) (bj:g d=none) (a7:gv g ops ig) (hk:ar P N ops l (e2 g d x) K):ar P N ops (⟨some d,op,ty,pos,after,ig⟩::l) g K:=.UA aF bY bj a7 hk
theorem ar.c (aF:cu P g op x) (bY:N.ok d=true) (bj:g d=none) (a7:gv g ops ig) (hk:ar P N ops l (e2 g d x) K):ar P N ops (⟨some d,op,ty,pos,after,ig⟩::l) g K:=.call aF bY bj a7 hk
theorem gv.jS {ae t:Nat}{b c:Bool}(h:(ops[ae]?).bind (·.dst)=some t) (a7:g t=some (.lit (.bool c))) (aI:c=b):gv g ops (some (ae,b)):=by subst aI; exact .yes h a7
theorem ar.ps {ae dh:Nat}{b c:Bool}(h:(ops[ae]?).bind (·.dst)=some dh) (a7:g dh=some (.lit (.bool c))) (aI:c=!b) (bY:N.ok d=true) (bj:g d=none) (hk:ar P N ops l (e2 g d (.cw [])) K):ar P N ops (⟨some d,op,ty,pos,after,some (ae,b)⟩::l) g K:=by
 subst aI; exact .xU rfl bY bj (r:=some (.cw [])) (.inr (.inl ⟨⟨dh,h,.inl ⟨_,a7,by cases b <;> rfl⟩⟩,rfl⟩)) hk
theorem ar.pu {ae dh:Nat}{b:Bool}(h:(ops[ae]?).bind (·.dst)=some dh) (a7:g dh=some (.cw [])) (bY:N.ok d=true) (bj:g d=none) (hk:ar P N ops l (e2 g d (.cw [])) K):ar P N ops (⟨some d,op,ty,pos,after,some (ae,b)⟩::l) g K :=
 .xU rfl bY bj (r:=some (.cw [])) (.inr (.inl ⟨⟨dh,h,.inr ⟨a7,rfl⟩⟩,rfl⟩)) hk
theorem hh.skip {G G1:List (Nat × ag)}(h:Trim true (get G) (get G1) G1):hh P N .skip G G1:=W.skip ⟨rfl,h.fW⟩
theorem hh.cI {t:Nat}{A B:Code}{b:Bool}{G G1:List (Nat × ag)}(ab:get G t=some (ba b)) (fF:b=true->hh P N A G G1) (aQ:b=false->hh P N B G G1):hh P N (.cond (.tmp t) A B) G G1:=W.I5 (.lit ab) fF aQ
theorem W.cI {t:Nat}{A B:Code}{b:Bool}{G:List (Nat × ag)}{Φ:Exit->aU->Prop}(ab:get G t=some (ba b)) (fF:b=true->W P N A (get G) Φ) (aQ:b=false->W P N B (get G) Φ):W P N (.cond (.tmp t) A B) (get G) Φ:=W.I5 (.lit ab) fF aQ
theorem hh.a_ {A B:Code}{G G1 G2:List (Nat × ag)}(h1:hh P N A G G1) (al:hh P N B G1 G2):hh P N (.seq A B) G G2:=W.a_ h1 al
theorem hh.Bs {id:Nat}{c:Code}{G G1:List (Nat × ag)}(h:W P N c (get G) λe g'=>(e=.normal\/e=.exit id)/\kF g' (get G1)):hh P N (.block id c) G G1:=by
 refine W.block (h.mono ?_)
 rintro e g' ⟨rfl | rfl,h⟩
 ·exact ⟨rfl,h⟩
 ·show if id=id then _ else _
  rw [if_pos rfl]; exact ⟨rfl,h⟩
end
end Go.Own
namespace Go.Own
open Go
variable {α β:Type}
def kI (s:ByteArray) (m:Int):Option Int:=if 0<=m/\m<s.size then some (yl s m) else none
def uJ (s:ByteArray) (m n:Int):Option ByteArray:=if 0<=m/\m<=n/\n<=s.size then some (uK s m n) else none
def rU (s u:ByteArray):Option ByteArray:=if s.size+u.size<=4611686018427387904 then some (s++u) else none
def C2 (m n:Int):Option Int:=if n=0 then none else some (aM (m.tdiv n))
def pR (m n:Int):Option Int:=if n=0 then none else some (m.tmod n)
def pX (l:List α) (m n:Int):Option (List α):=if 0<=m/\m<=n/\n<=l.length then some ((l.drop m.toNat).take (n - m).toNat) else none
def lj:ag->Bool
 | .lit _ | .aJ | .aD .. | .bn _ | .ef .. | .ptr .. | .bm .. | .sub .. | .iK .. | .imp ..=>true
 | _=>false
theorem PK {d:Nat}{p:Place}{x:ag}(h:lj x=true):h_ d p x=x:=by
 cases x <;> simp [lj] at h <;> cases d <;> rfl
theorem PL {t:Nat}{x:ag}(h:lj x=true):qA t x=x:=by
 cases x <;> simp [lj] at h <;> rfl
theorem yN {d:Nat}{q:Nat->Place}{cs:List ag}(h:cs.all lj=true):(cs.mapIdx λi x=>h_ d (q i) x)=cs:=by
 apply List.ext_getElem?
 intro k
 rw [List.getElem?_mapIdx]
 cases hk:cs[k]? with
 | none=>rfl
 | some x=>simp only [Option.map_some,PK (List.all_eq_true.1 h x (List.mem_of_getElem? hk))]
section
variable {P:Program}{N:dE}{ops:Array Oper}{g:aU}{K:aU->Prop}{l:List Oper}{d:Nat}{ty t t2:TypeId}{a b c:Operand}{k k':IntKind}{m n:Int}{s u:ByteArray}{p q e:Bool}
theorem Rd.f {t:Nat}{x:ag}(h:g t=some x) (bj:lj x=true):Own.bL g (.tmp t)=some x:=by simp only [Own.bL,h,Option.map_some,PL bj]
theorem Rd.cg {t:Nat}{cs:List ag}(h:g t=some (.agg cs)) (bj:cs.all lj=true):Rd g (.tmp t) (.agg cs):=.agg h (yN bj)
theorem Rd.vX {t:Nat}{cs:List ag}(h:g t=some (.cw cs)) (bj:cs.all lj=true):Rd g (.tmp t) (.cw cs):=.cw h (yN bj)
namespace O
theorem aA {y:ag}(h:Rd g a y):dr P g (.move a) ty y:=.fk (.move h.bL)
theorem dv {y:ag}(h:Rd g a y):dr P g (.assign a) ty y:=.fk (.assign h.bL)
theorem eu {y:ag}(ab:Rd g c (ba p)) (aI:p=true) (h:Rd g a y):dr P g (.pick c a b) ty y:=by subst aI; exact .fk (.Tx ab h)
theorem cC {y:ag}(ab:Rd g c (ba p)) (aI:p=false) (h:Rd g b y):dr P g (.pick c a b) ty y:=by subst aI; exact .fk (.Tw ab h)
theorem add (J:Rd g a (.lit (.int k m))) (ay:Rd g b (.lit (.int k n))):dr P g (.binOp .add t a b t2) ty (.lit (.int k (k.wrap (m+n)))):=.fk (.add J ay)
theorem sub (J:Rd g a (.lit (.int k m))) (ay:Rd g b (.lit (.int k n))):dr P g (.binOp .sub t a b t2) ty (.lit (.int k (k.wrap (m - n)))):=.fk (.T7 J ay)
theorem mul (J:Rd g a (.lit (.int k m))) (ay:Rd g b (.lit (.int k n))):dr P g (.binOp .mul t a b t2) ty (.lit (.int k (k.wrap (m * n)))):=.fk (.mul J ay)
theorem quo {r:Int}(J:Rd g a (j m)) (ay:Rd g b (j n)) (h:C2 m n=some r):dr P g (.binOp .quo t a b t2) ty (j r):=by
 unfold C2 at h
 split at h
 ·cases h
 ·cases h; exact .fk (.quo J ay (by assumption))
theorem rem {r:Int}(J:Rd g a (j m)) (ay:Rd g b (j n)) (h:pR m n=some r):dr P g (.binOp .rem t a b t2) ty (j r):=by
 unfold pR at h
 split at h
 ·cases h
 ·cases h; exact .fk (.rem J ay (by assumption))
theorem lss (J:Rd g a (.lit (.int k m))) (ay:Rd g b (.lit (.int k n))):dr P g (.binOp .lss t a b t2) ty (ba (decide (m<n))):=.fk (.lss J ay (by simp))
theorem leq (J:Rd g a (.lit (.int k m))) (ay:Rd g b (.lit (.int k n))):dr P g (.binOp .leq t a b t2) ty (ba (decide (m<=n))):=.fk (.leq J ay (by simp))
theorem gtr (J:Rd g a (.lit (.int k m))) (ay:Rd g b (.lit (.int k n))):dr P g (.binOp .gtr t a b t2) ty (ba (decide (n<m))):=.fk (.gtr J ay (by simp))
theorem geq (J:Rd g a (.lit (.int k m))) (ay:Rd g b (.lit (.int k n))):dr P g (.binOp .geq t a b t2) ty (ba (decide (n<=m))):=.fk (.geq J ay (by simp))
theorem eql (J:Rd g a (.lit (.int k m))) (ay:Rd g b (.lit (.int k n))):dr P g (.binOp .eql t a b t2) ty (ba (decide (m=n))):=.fk (.eql J ay (by simp))
theorem neq (J:Rd g a (.lit (.int k m))) (ay:Rd g b (.lit (.int k n))):dr P g (.binOp .neq t a b t2) ty (ba (!decide (m=n))):=.fk (.neq J ay (by simp))
theorem n0 (J:Rd g a (af s)) (ay:Rd g b (af u)):dr P g (.binOp .eql t a b t2) ty (ba (decide (s=u))):=.fk (.n0 J ay (by simp))
theorem lS (J:Rd g a (af s)) (ay:Rd g b (af u)):dr P g (.binOp .neq t a b t2) ty (ba (!decide (s=u))):=.fk (.lS J ay (by simp))
theorem Pv (J:Rd g a (ba p)) (ay:Rd g b (ba q)) (aG:Bt P t=true):dr P g (.binOp .eql t a b t2) ty (ba (p == q)):=.fk (.bin J.bL ay.bL rfl λw=>TM (NL aG) w)
theorem neg (J:Rd g a (.lit (.int k m))):dr P g (.unOp .neg t a) ty (.lit (.int k (k.wrap (-m)))):=.fk (.un J.bL rfl λw=>by simp [Op.unary,Op.intArith])
theorem not (J:Rd g a (ba p)):dr P g (.unOp .not t a) ty (ba (!p)):=.fk (.not J)
theorem s9 (J:Rd g a (.lit (.int k m))) (aP:rn P t k=true) (aV:rn P t2 k'=true):dr P g (.convert t t2 a) ty (.lit (.int k' (k'.wrap m))):=.fk (.O6 J aP aV)
theorem cat {r:ByteArray}(J:Rd g a (af s)) (ay:Rd g b (af u)) (h:rU s u=some r):dr P g (.binOp .add t a b t2) ty (af r):=by
 unfold rU at h
 split at h
 ·cases h; exact .fk (.cat J ay (by omega))
 ·cases h
theorem mo (J:Rd g a (af s)) (aG:pW P t=true):dr P g (.call { callee:=.builtin .len,args:=#[a],argTypes:=#[t] }) ty (j s.size):=.fk (.mo J aG)
theorem p4 {r:Int}(J:Rd g a (af s)) (ay:Rd g b (.lit (.int k m))) (aG:pW P t=true) (h:kI s m=some r):dr P g (.index t a b) ty (lE r):=by
 unfold kI at h
 split at h
 ·cases h; exact .fk (.NA J ay aG (by assumption))
 ·cases h
theorem xT {r:ByteArray}{sq:IntKind}(J:Rd g a (af s)) (ao:Rd g b (.lit (.int k m))) (b9:Rd g c (.lit (.int sq n))) (aG:pW P t=true) (h:uJ s m n=some r):dr P g (.slice t a (some b) (some c) none) ty (af r):=by
 unfold uJ at h
 split at h
 ·cases h; exact .fk (.Hl J ao b9 aG (by assumption))
 ·cases h
theorem gz {z cG n:Nat}{cs:List ag}{e:TypeId}(J:Rd g a (.aD z n cs)) (aG:fm P t e cG=true):dr P g (.call { callee:=.builtin .len,args:=#[a],argTypes:=#[t] }) ty (j n):=.fk (.zF J.bL aG)
theorem cE {en:cx α}{L:List α}{y:α}{e:TypeId}(J:Rd g a (.aD en.z L.length (cf en L))) (ay:Rd g b (.lit (.int k m))) (aG:fm P t e en.z=true) (h:idx L m=some y):dr P g (.indexAddr t a b) ty (.bn (en.cells y++cf en (L.drop (m.toNat+1)))):=by
 rw [<- LR en h]
 obtain ⟨bc,h1,_⟩:=pM h
 obtain ⟨ae,rfl⟩:=Int.eq_ofNat_of_zero_le bc
 exact .fk (.Cw J.bL ay.bL aG (by omega))
theorem Hj {en:cx α}{L r:List α}{e:TypeId}(J:Rd g a (.aD en.z L.length (cf en L))) (b9:Rd g c (.lit (.int k n))) (aG:fm P t e en.z=true) (h:pX L 0 n=some r):dr P g (.slice t a none (some c) none) ty (aj en r):=by
 unfold pX at h
 split at h
 ·rename_i ab
  obtain ⟨_,h1,al⟩:=ab
  cases h
  obtain ⟨ae,rfl⟩:=Int.eq_ofNat_of_zero_le h1
  have:=dj.AM (P:=P) (ty:=ty) (t:=t) (l:=0) (h:=ae) (lo:=none) (hi:=some c) J.bL rfl ⟨_,b9.bL⟩ aG (by omega) (by omega)
  rw [AH,xQ] at this
  have dn:(((L.drop 0).take (ae - 0)).length)=ae - 0:=by rw [List.length_take,List.length_drop]; omega
  have cZ:((ae:Int) - 0).toNat=ae - 0:=by omega
  rw [cZ]
  unfold aj
  have jV:(0:Int).toNat=0:=rfl
  rw [jV,dn]
  exact .fk this
 ·cases h
theorem Hk {en:cx α}{L r:List α}{e:TypeId}(J:Rd g a (.aD en.z L.length (cf en L))) (ao:Rd g b (.lit (.int k m))) (aG:fm P t e en.z=true) (h:pX L m L.length=some r):dr P g (.slice t a (some b) none none) ty (aj en r):=by
 unfold pX at h
 split at h
 ·rename_i ab
  obtain ⟨bc,h1,al⟩:=ab
  cases h
  obtain ⟨i,rfl⟩:=Int.eq_ofNat_of_zero_le bc
  have:=dj.AM (P:=P) (ty:=ty) (t:=t) (l:=i) (h:=L.length) (lo:=some b) (hi:=none) J.bL ⟨_,ao.bL⟩ rfl aG (by omega) (by omega)
  rw [AH,xQ] at this
  have dn:(((L.drop i).take (L.length - i)).length)=L.length - i:=by rw [List.length_take,List.length_drop]; omega
  have cZ:((L.length:Int) - (i:Int)).toNat=L.length - i:=by omega
  rw [Int.toNat_natCast,cZ]
  unfold aj
  rw [dn]
  exact .fk this
 ·cases h
theorem eP {e6 f off:Nat}{cs:List ag}(J:Rd g a (.bn cs)) (bj:du P e6 f off t=true):dr P g (.fieldAddr e6 a f) ty (.bn (cs.drop off)):=.fk (.BX J.bL bj)
theorem c8 {x:ag}{cs:List ag}(J:Rd g a (.bn cs)) (aG:hr P t=true) (ab:cs.head?=some x):dr P g (.load t a) ty x:=by
 cases cs with
 | nil=>cases ab
 | cons y cs=>cases ab; exact .fk (.CH J.bL aG)
theorem jn {z:Nat}{cs cs':List ag}(J:Rd g a (.bn cs)) (aG:iH P t z=true) (ab:cs.take z=cs') (bG:cs'.length=z):dr P g (.load t a) ty (.agg cs'):=by
 subst ab
 exact .fk (.CI J.bL aG (by rw [List.length_take] at bG; omega))
theorem zM {cs:List ag}(J:Rd g a (.bn cs)):dr P g (.nilCheck a) ty (.bn cs):=.fk (.o3 J.bL)
theorem eX {p:Place}{k:Nat}(J:Rd g a (.ptr p k)):dr P g (.nilCheck a) ty (.ptr p k):=.fk (.CL J.bL)
theorem fd {e6 f off:Nat}{cs:List ag}{x:ag}(J:Rd g a (.agg cs)) (bj:du P e6 f off t=true) (aG:hr P t=true) (ay:cs[off]?=some x):dr P g (.field e6 a f) ty x:=.fk (.BW J.bL bj aG ay)
theorem ex {p i:Nat}{cs:List ag}{x y:ag}(J:g p=some (.cw cs)) (ay:cs[i]?=some x) (aw:h_ 1 (Place.push ⟨p,[]⟩ i) x=y):dr P g (.extract (.tmp p) i) ty y :=
 .fk (.BN (cs:=cs.mapIdx λi x=>h_ 1 (Place.push ⟨p,[]⟩ i) x) (by simp [bL,J,qA,h_]) (by simp [ay,aw]))
theorem box {e:TypeId}{y:ag}{cs:List ag}(J:Rd g a y) (ab:lF y=some cs):dr P g (.box e a) ty (.obj cs):=.qy (.box J.bL ab)
theorem bk {e6 f off k r:Nat}{cs:List ag}(aP:g r=some (.obj cs)) (J:Rd g a (.ptr ⟨r,[]⟩ k)) (bj:du P e6 f off t=true) (bd:Nat.blt (k+off) cs.length=true):dr P g (.fieldAddr e6 a f) ty (.ptr ⟨r,[]⟩ (k+off)) :=
 .fk (.yL J.bL bj ⟨.obj cs,by simp [b8,aP,ag.at],0,0,cs,.inr rfl,by simpa using bd⟩)
theorem c9 {k r:Nat}{cs:List ag}{x y:ag}(aP:g r=some (.obj cs)) (J:Rd g a (.ptr ⟨r,[]⟩ k)) (aG:hr P t=true) (ab:cs[k]?=some x) (ay:h_ 0 ⟨r,[k]⟩ x=y):dr P g (.load t a) ty y:=by
 subst ay
 exact .fk (.zH (p:=⟨r,[]⟩) J.bL aG (by simp [b8,aP,ag.at,Place.push,ag.kids,ab]))
theorem dT {k r z:Nat}{cs cs':List ag}(aP:g r=some (.obj cs)) (J:Rd g a (.ptr ⟨r,[]⟩ k)) (aG:iH P t z=true) (hk:Nat.ble (k+z) cs.length=true) (ab:(((cs.drop k).take z).mapIdx λi x=>h_ 0 ⟨r,[k+i]⟩ x)=cs'):dr P g (.load t a) ty (.agg cs'):=by
 subst ab
 exact .fk (.xm (p:=⟨r,[]⟩) (n:=0) (z:=0) J.bL aG (by simp [b8,aP,ag.at]) (.inr rfl) (Nat.le_of_ble_eq_true hk))
end O
theorem qP.bX {x:Operand}{y:ag}{xs:List Operand}{ys:List ag}(h:Rd g x y) [aN:cP y] (aG:qP g xs ys):qP g (x::xs) (y::ys):=.cons h aN.bI aG
theorem cu.go {xs:List Operand}{ir:Array TypeId}{f:FuncId}{ys:List ag}{outs:List (Option ag)}{res:ag}(J:qP g xs ys) (iT:b_ P f ys outs res) (bj:dw P f=true) (bf:vt outs=true) [aw:cP res] :
  cu P g (.call { callee:=.value (.func f),args:=xs.toArray,argTypes:=ir }) res:=.Ps iT bj J bf aw.bI
inductive sZ (P:Program) (g:aU):List ResultVar->List ag->Prop
 | nil:sZ P g [] []
 | f {t:Nat}{x:ag}{rs:List ResultVar}{xs:List ag}(h:g t=some x) (bj:lj x=true) [aN:cP x] (aG:sZ P g rs xs):sZ P g (.tmp t::rs) (x::xs)
 | c {a:Nat}{t:TypeId}{z:Nat}{cs:List ag}{rs:List ResultVar}{xs:List ag}(h:g a=some (.obj cs)) (aG:iH P t z=true) (bG:cs.length=z) (bj:(0<z&&cs.all lj)=true) [aN:eR cs] (aw:sZ P g rs xs):sZ P g (.cell a t::rs) (.agg cs::xs)
theorem sZ.spec {rs:List ResultVar}{xs:List ag}(h:sZ P g rs xs):p3 P g rs xs/\∀ x∈xs,c' x:=by
 induction h with
 | nil=>exact ⟨.nil,by simp⟩
 | @f t x rs xs h bj aN _ aS=>exact ⟨.cons (.tmp (Rd.f h bj)) aS.1,oh aN.bI aS.2⟩
 | @c a t z cs rs xs h aG bG bj aN _ aS =>
  simp only [Bool.and_eq_true,decide_eq_true_eq] at bj
  refine ⟨.cons ?_ aS.1,oh (.agg aN.bI) aS.2⟩
  have J:Own.bL g (.tmp a)=some (.ptr ⟨a,[]⟩ 0):=by
   cases cs with
   | nil=>simp at bG; omega
   | cons c cs=>simp [Own.bL,h,qA,h_]
  have:=dj.xm (P:=P) (ty:=t) (p:=⟨a,[]⟩) (n:=0) (z:=0) J aG (by simp only [b8,h,ag.at]) (.inr rfl) (show 0+z<=cs.length by omega)
  have hf:((cs.drop 0).take z).mapIdx (λi x=>h_ 0 (Place.push ⟨a,[]⟩ (0+i)) x)=cs:=by
   rw [List.drop_zero,List.take_of_length_le (by omega)]
   exact yN bj.2
  rw [hf] at this
  exact .cell this
theorem Fin.rt {rs:List ResultVar}{xs:List ag}{res:ag}{outs:List (Option ag)}{n:Nat}(h:sZ P g rs xs) (he:pS xs=res) (bf:vt outs=true) (ao:outs.length=n):Fin P N rs n outs res .ret g :=
 ⟨.inr rfl,⟨xs,xs,g,h.spec.1,.bI h.spec.2,he.symm,λk x hk=>absurd hk (CN bf k x)⟩,ao⟩
end
def xr:Nat->List ag->List (Nat × ag)
 | _,[]=>[]
 | i,x::l=>(i,x)::xr (i+1) l
theorem JK:∀ (l:List ag) (i t:Nat),get (xr i l) t=if i<=t then l[t - i]? else none
 | [],i,t=>by simp [xr,get]
 | x::l,i,t=>by
  simp only [xr,get]
  by_cases h:t=i
  ·subst h; simp
  ·rw [if_neg h,JK l (i+1) t]
   by_cases h1:i+1<=t
   ·rw [if_pos h1,if_pos (by omega)]
    have:t - i=(t - (i+1))+1:=by omega
    rw [this,List.getElem?_cons_succ]
   ·rw [if_neg h1,if_neg (by omega)]
theorem Np (args:List ag):oH args=get (xr 0 args):=funext λt=>by rw [JK]; simp [oH]
theorem b_.go {P:Program}{f:FuncId}{fn:Func}{c:Code}{args:List ag}{outs:List (Option ag)}{res:ag}{N:dE}(bj:P.funcs[f]?=some fn) (aI:fn.body=some c) (bY:fn.ntmps=N.size) (bg:Nat.ble args.length N.size=true) (hlen:outs.length=args.length)
  (hw:W P N c (get (xr 0 args)) (Fin P N fn.results.toList args.length outs res)):b_ P f args outs res :=
 .fin bj aI bY bg hlen (by rw [Np]; exact hw)
end Go.Own
namespace Go.Own
open Go
section
variable {P:Program}{N:dE}{Φ pf:Exit->aU->Prop}{fJ:aU->Prop}{G G1:List (Nat × ag)}{A B c:Code}{id k:Nat}{e:Exit}{S R:Type}
theorem hh.bO (h:Trim true (get G) (get G1) G1):hh P N .skip G G1:=.skip h
inductive kC:aU->List (Nat × ag)->Prop
 | gZ {G:List (Nat × ag)}:kC (get G) G
 | fW {g g1:aU}{G:List (Nat × ag)}(h:kF g g1) (aI:kC g1 G):kC g G
theorem kC.trans {g:aU}{G G1:List (Nat × ag)}(h:kC g G) (h1:kC (get G) G1):kC g G1:=by
 induction h with
 | gZ=>exact h1
 | fW h _ aS=>exact .fW h (aS h1)
inductive x6 (P:Program) (N:dE):aU->Exit->(Exit->aU->Prop)->Prop
 | gZ {g:aU}{e:Exit}{Φ:Exit->aU->Prop}(h:Φ e g):x6 P N g e Φ
 | fW {g g1:aU}{e:Exit}{Φ:Exit->aU->Prop}(hw:kF g g1) (h:x6 P N g1 e Φ):x6 P N g e Φ
theorem W.outs {g:aU}(h:W P N c g Φ) (m':∀ e g',Φ e g'->x6 P N g' e pf):W P N c g pf:=by
 intro a w I Fs Q b1 bY dP
 refine h b1 bY λe g' cy w' aF aN=>?_
 have pF:=m' e g' aF
 clear aF m'
 revert aN
 induction pF with
 | gZ h=>exact λaN=>dP _ _ _ _ h aN
 | fW hw _ aS =>
  intro aN
  refine aS dP ?_
  obtain ⟨h1,al,I',cq,eD,cd⟩:=aN
  obtain ⟨iN,h5,gJ⟩:=eD.fW hw
  exact ⟨h1,al,I',iN,h5,cd.fy,cd.more,cd.new,λc ⟨t,ab⟩=>cd.own c ⟨t,gJ t c ab⟩⟩
def ai (e:Exit) (Φ:Exit->aU->Prop) (G:List (Nat × ag)):Prop:=∀ g,kC g G->Φ e g
theorem W.be {g:aU}(h:W P N c (get G) Φ) (aI:kC g G):W P N c g Φ:=by
 induction aI with
 | gZ=>exact h
 | fW hw _ aS=>exact (aS h).weaken hw
theorem nX.be {g:aU}(h:nX P N c (get G) Φ) (aI:kC g G):nX P N c g Φ:=by
 induction aI with
 | gZ=>exact h
 | fW hw _ aS=>exact (aS h).weaken hw
theorem ai.a_ (h:W P N B (get G) Φ):ai .normal (sL (λg1=>W P N B g1 Φ) pf) G:=λ_ aI=>Up (h.be aI)
theorem ai.dc (h:ai (.exit k) pf G):ai (.exit k) (sL fJ pf) G:=λg aI=>Uo (h g aI)
theorem ai.c_ (h:ai .ret pf G):ai .ret (sL fJ pf) G:=λg aI=>Uq (h g aI)
theorem ai.bq (h:ai .normal Φ G):ai .normal (rm id Φ) G:=λg aI=>SN (h g aI)
theorem ai.de (h:ai .normal Φ G):ai (.exit id) (rm id Φ) G:=λg aI=>SL (h g aI)
theorem ai.NK (hk:Nat.beq k id=false) (h:ai (.exit k) Φ G):ai (.exit k) (rm id Φ) G:=λg aI=>SM hk (h g aI)
theorem ai.ee (h:ai .ret Φ G):ai .ret (rm id Φ) G:=λg aI=>SO (h g aI)
theorem W.dd (h:ai (.exit k) Φ G):W P N (.exit k) (get G) Φ:=W.exit (h _ .gZ)
theorem W.bO (h:ai .normal Φ G):W P N .skip (get G) Φ:=W.skip (h _ .gZ)
theorem W.rt (h:ai .ret Φ G):W P N .ret (get G) Φ:=W.ret (h _ .gZ)
theorem W.rx {id:Nat}{l:List Oper}(G1:List (Nat × ag)) (h:ar P N l.toArray l (get G) λg'=>kF g' (get G1)) (hk:ai .normal Φ G1):W P N (.region id l.toArray false) (get G) Φ :=
 W.TE (λi hi=>by obtain ⟨g',h1,al⟩:=h i hi; exact ⟨g',h1,hk g' (.fW al .gZ)⟩)
theorem W.cj {G1:List (Nat × ag)}(h:Trim true (get G) (get G1) G1) (hw:W P N c (get G1) Φ):W P N c (get G) Φ:=hw.weaken h.fW
theorem W.st {G:List (Nat × ag)}(G1:List (Nat × ag)) (h:W P N c (get G1) Φ) (e:G1=G:=by rfl):W P N c (get G) Φ:=by subst e; exact h
theorem W.bq (h:W P N c (get G) (rm id Φ)):W P N (.block id c) (get G) Φ:=W.block h
theorem W.bC (G1:List (Nat × ag)) (h:W P N c (get G) λe g=>e=.normal/\kC g G1) (hk:ai .normal Φ G1):W P N c (get G) Φ :=
 h.mono λe g ⟨he,aI⟩=>by subst he; exact hk g aI
theorem ai.bC (h:Trim true (get G) (get G1) G1):ai .normal (λe g=>e=.normal/\kC g G1) G:=λ_ aI=>⟨rfl,aI.trans (.fW h.fW .gZ)⟩
def sY (G:S->List (Nat × ag)) (fJ:R->Exit->aU->Prop):S ⊕ R->Exit->aU->Prop
 | .inl s,e,g=>e=.normal/\kC g (G s)
 | .inr r,e,g=>e≠.normal/\fJ r e g
theorem nX.it {f:S->Option (S ⊕ R)}{G:S->List (Nat × ag)}{fJ:R->Exit->aU->Prop}(aI:∀ s o,f s=some o->W P N c (get (G s)) (sY G fJ o)) :
  ∀ (n:Nat) (s:S) (r:R),Own.iter f n s=some r->nX P N c (get (G s)) (fJ r)
 | 0,_,_,h=>by simp [Own.iter] at h
 | n+1,s,r,h=>by
  simp only [Own.iter] at h
  cases bj:f s with
  | none=>rw [bj] at h; cases h
  | some o =>
   rw [bj] at h
   refine .step ((aI s o bj).mono λe g' aw=>?_)
   cases o with
   | inl e6 =>
    obtain ⟨rfl,hw⟩:=aw
    exact (nX.it aI n e6 r h).be hw
   | inr e5 =>
    cases h
    obtain ⟨aN,hw⟩:=aw
    cases e with
    | normal=>exact absurd rfl aN
    | _=>exact hw
theorem W.Ld {f:S->Option (S ⊕ R)}{s:S}{r:R}(G:S->List (Nat × ag)) (fJ:R->Exit->aU->Prop) (h:cK f s=some r) (aI:∀ s o,f s=some o->W P N c (get (G s)) (sY G fJ o)) (hk:∀ e g,fJ r e g->Φ e g):W P N (.loop c) (get (G s)) Φ :=
 (W.loop (nX.it aI fuel s r h)).mono hk
theorem W.e0 {f:S->Option (S ⊕ R)}{s:S}{r:R}(G:S->List (Nat × ag)) (id:Nat) (nq:R->List (Nat × ag)) (h:cK f s=some r) (aI:∀ s o,f s=some o->W P N c (get (G s)) (sY G (λr e g=>e=.exit id/\kC g (nq r)) o)) (hk:ai (.exit id) Φ (nq r)):W P N (.loop c) (get (G s)) Φ :=
 .Ld G _ h aI λe g ⟨he,a7⟩=>by subst he; exact hk g a7
theorem W.jM {p2:Type}{f:S->Option (S ⊕ (R ⊕ p2))}{s:S}{r:R ⊕ p2}(G:S->List (Nat × ag)) (id:Nat) (nq:R->List (Nat × ag)) (sV:p2->List (Nat × ag)) (h:cK f s=some r)
  (aI:∀ s o,f s=some o->W P N c (get (G s)) (sY G (λ(r:R ⊕ p2) e g=>match r with | .inl r=>e=.exit id/\kC g (nq r) | .inr r=>e=.ret/\kC g (sV r)) o))
  (J:∀ x,r=.inl x->ai (.exit id) Φ (nq x)) (aw:∀ x,r=.inr x->ai .ret Φ (sV x)):W P N (.loop c) (get (G s)) Φ:=by
 refine .Ld G _ h aI λe g h=>?_
 cases r with
 | inl r=>obtain ⟨rfl,a7⟩:=h; exact J r rfl g a7
 | inr r=>obtain ⟨rfl,a7⟩:=h; exact aw r rfl g a7
theorem ai.go {s:S}{F:S->List (Nat × ag)}{fJ:R->Exit->aU->Prop}(h:Trim true (get G) (get (F s)) (F s)):ai .normal (sY F fJ (.inl s)) G:=λ_ aI=>⟨rfl,aI.trans (.fW h.fW .gZ)⟩
theorem ai.aE {r:R}{F:S->List (Nat × ag)}{nq:R->List (Nat × ag)}(h:Trim true (get G) (get (nq r)) (nq r)):ai (.exit id) (sY F (λr e g=>e=.exit id/\kC g (nq r)) (.inr r)) G:=λ_ aI=>⟨by simp,rfl,aI.trans (.fW h.fW .gZ)⟩
theorem ai.x2 {p2:Type}{r:R}{F:S->List (Nat × ag)}{nq:R->List (Nat × ag)}{sV:p2->List (Nat × ag)}(h:Trim true (get G) (get (nq r)) (nq r)) :
  ai (.exit id) (sY F (λ(r:R ⊕ p2) e g=>match r with | .inl r=>e=.exit id/\kC g (nq r) | .inr r=>e=.ret/\kC g (sV r)) (.inr (.inl r))) G:=λ_ aI=>⟨by simp,rfl,aI.trans (.fW h.fW .gZ)⟩
theorem ai.gm {p2:Type}{r:p2}{F:S->List (Nat × ag)}{nq:R->List (Nat × ag)}{sV:p2->List (Nat × ag)}(h:Trim true (get G) (get (sV r)) (sV r)) :
  ai .ret (sY F (λ(r:R ⊕ p2) e g=>match r with | .inl r=>e=.exit id/\kC g (nq r) | .inr r=>e=.ret/\kC g (sV r)) (.inr (.inr r))) G:=λ_ aI=>⟨by simp,rfl,aI.trans (.fW h.fW .gZ)⟩
def A7 (P:Program) (N:dE) (rs:List ResultVar) (n:Nat) (outs:List (Option ag)) (res:ag) (e:Exit) (g:aU):Prop:=∃ G,kC g G/\Fin P N rs n outs res e (get G)
theorem W.fin {rs:List ResultVar}{n:Nat}{outs:List (Option ag)}{res:ag}{g:aU}(h:W P N c g (A7 P N rs n outs res)):W P N c g (Fin P N rs n outs res):=by
 have key:∀ e g,A7 P N rs n outs res e g->x6 P N g e (Fin P N rs n outs res):=by
  rintro e g ⟨G,aI,bj⟩
  induction aI with
  | gZ=>exact .gZ bj
  | fW hw _ aS=>exact .fW hw (aS bj)
 exact W.outs h key
theorem ai.fin {rs:List ResultVar}{n:Nat}{outs:List (Option ag)}{res:ag}(h:Fin P N rs n outs res e (get G)):ai e (A7 P N rs n outs res) G:=λ_ aI=>⟨G,aI,h⟩
end
end Go.Own
namespace Go.Own
open Go
section
variable {P:Program}{N:dE}{ops:Array Oper}{cc:List (List Nat)}{g0:aU}{K:aU->Prop}{l:List Oper}{acc:Acc}{d i:Nat}{op:Op}{ty:TypeId}{pos:String}{after:Array Edge}{x:ag}{ig:Option (Nat × Bool)}
abbrev nN (cc:List (List Nat)) (g0:aU) (ae:Nat) (acc:Acc):aU:=ed g0 (λm=>(cc.getD ae []).contains m) acc
def bV (P:Program) (N:dE) (ops:Array Oper) (cc:List (List Nat)) (g0:aU) (i:Nat) (acc:Acc) (l:List Oper) (K:aU->Prop):Prop:=∀ ek ae,my P N ops cc g0 i ek->iF P N ops cc g0 i ek ae acc->ops.toList.drop ae=l->∃ g',qN P N ops cc i ek g0 g'/\K g'
theorem BL {ae dp:Nat}{o:Oper}(h:ops.toList.drop ae=o::l) (aa:Nat.beq ops.size (dp+l.length+1)=true):ae=dp:=by
 have h1:=congrArg List.length h
 rw [List.length_drop,List.length_cons,Array.length_toList] at h1
 have:=Nat.eq_of_beq_eq_true aa
 omega
theorem M4 (aN:acc.all (λe=>!Nat.beq e.2.1 d)=true):∀ e∈acc,e.2.1≠d:=by
 intro e he h
 have:=List.all_eq_true.1 aN e he
 rw [h] at this
 simp at this
theorem bV.st (dp:Nat) {r:Option ag}{o:Oper}(aV:o.dst=some d) (aP:oD P (nN cc g0 dp acc) ops o r) (aa:Nat.beq ops.size (dp+l.length+1)=true) (bj:g0 d=none) (aN:acc.all (λe=>!Nat.beq e.2.1 d)=true) (bY:N.ok d=true)
  (hk:bV P N ops cc g0 i ((dp,d,r)::acc) l K):bV P N ops cc g0 i acc (o::l) K:=by
 intro ek ae c6 oW oR
 have:=BL oR aa
 subst this
 obtain ⟨h1,al⟩:=drop_cons oR
 exact hk ek (ae+1) c6 (.step oW h1 aV bj (M4 aN) bY aP) al
theorem bV.v (dp:Nat) (aF:dr P (nN cc g0 dp acc) op ty x) (aa:Nat.beq ops.size (dp+l.length+1)=true) (bj:g0 d=none) (aN:acc.all (λe=>!Nat.beq e.2.1 d)=true) (bY:N.ok d=true) (a7:gv (nN cc g0 dp acc) ops ig)
  (hk:bV P N ops cc g0 i ((dp,d,some x)::acc) l K):bV P N ops cc g0 i acc (⟨some d,op,ty,pos,after,ig⟩::l) K :=
 .st dp (r:=some x) rfl (.inl ⟨a7.wanted,.inl aF⟩) aa bj aN bY hk
theorem bV.c (dp:Nat) (aF:cu P (nN cc g0 dp acc) op x) (aa:Nat.beq ops.size (dp+l.length+1)=true) (bj:g0 d=none) (aN:acc.all (λe=>!Nat.beq e.2.1 d)=true) (bY:N.ok d=true) (a7:gv (nN cc g0 dp acc) ops ig)
  (hk:bV P N ops cc g0 i ((dp,d,some x)::acc) l K):bV P N ops cc g0 i acc (⟨some d,op,ty,pos,after,ig⟩::l) K :=
 .st dp (r:=some x) rfl (.inl ⟨a7.wanted,.inr aF⟩) aa bj aN bY hk
theorem bV.ps (dp:Nat) {sn dh:Nat}{b c:Bool}(h:(ops[sn]?).bind (·.dst)=some dh) (a7:nN cc g0 dp acc dh=some (ba c)) (aI:c=!b) (aa:Nat.beq ops.size (dp+l.length+1)=true) (bj:g0 d=none) (aN:acc.all (λe=>!Nat.beq e.2.1 d)=true) (bY:N.ok d=true)
  (hk:bV P N ops cc g0 i ((dp,d,some (.cw []))::acc) l K):bV P N ops cc g0 i acc (⟨some d,op,ty,pos,after,some (sn,b)⟩::l) K :=
 .st dp (r:=some (.cw [])) rfl (.inr (.inl ⟨⟨dh,h,.inl ⟨c,a7,by subst aI; cases b <;> rfl⟩⟩,rfl⟩)) aa bj aN bY hk
theorem bV.pu (dp:Nat) {sn dh:Nat}{b:Bool}(h:(ops[sn]?).bind (·.dst)=some dh) (a7:nN cc g0 dp acc dh=some (.cw [])) (aa:Nat.beq ops.size (dp+l.length+1)=true) (bj:g0 d=none) (aN:acc.all (λe=>!Nat.beq e.2.1 d)=true) (bY:N.ok d=true)
  (hk:bV P N ops cc g0 i ((dp,d,some (.cw []))::acc) l K):bV P N ops cc g0 i acc (⟨some d,op,ty,pos,after,some (sn,b)⟩::l) K :=
 .st dp (r:=some (.cw [])) rfl (.inr (.inl ⟨⟨dh,h,.inr ⟨a7,rfl⟩⟩,rfl⟩)) aa bj aN bY hk
def su (G:List (Nat × ag)):Bool:=G.all λp=>match p.2 with | .b2 ..=>false | _=>true
theorem zP {G:List (Nat × ag)}(h:su G=true):∀ t z q n m new,get G t≠some (.b2 z q n m new):=by
 induction G with
 | nil=>intro t z q n m new J; cases J
 | cons p G aS =>
  obtain ⟨s,x⟩:=p
  simp only [su,List.all_cons,Bool.and_eq_true] at h
  intro t z q n m new J
  simp only [get] at J
  split at J
  ·cases J; exact absurd h.1 (by simp)
  ·exact aS h.2 t z q n m new J
theorem bV.fin {G G1:List (Nat × ag)}(bG:acc.filterMap mr=[]) (ji:su G=true) (hi:Nat.ble i ops.size=true) (h:Trim true (ed (get G) (λ_=>true) acc) (get G1) G1):bV P N ops cc (get G) i acc [] λg'=>kF g' (get G1):=by
 intro ek ae c6 oW oR
 have aa:ae=ops.size:=by
  have h1:ops.size<=ae:=by
   have:=congrArg List.length oR
   rw [List.length_drop,List.length_nil,Array.length_toList] at this
   omega
  have aR:ae<=ops.size:=by
   cases oW with
   | nil=>exact Nat.le_of_ble_eq_true hi
   | step _ bf=>have:=(Array.getElem?_eq_some_iff.1 bf).1; omega
  omega
 subst aa
 exact ⟨_,.fin oW (by rw [bG]; exact List.nodup_nil) (zP ji),h.fW⟩
theorem qN.Iv {g g1 g':aU}{i ae:Nat}{ek:Acc}{o:Oper}(c6:my P N ops cc g i ek) (aP:iF P N ops cc g i ek ae acc) (hS:(acc.filterMap mr).Nodup) (ji:∀ t z q n m new,g t≠some (.b2 z q n m new)) (bf:ops[ae]?=some o) (hw:iP (ed g (λ_=>true) acc) ops o true)
  (he:cm P N (ed g (λ_=>true) acc) o g1) (bg:(List.range ae).all (λk=>(cc.getD ae []).contains k)=true) (aI:(List.range ops.size).all (λk=>decide (k<=ae)||(cc.getD k []).contains ae)=true) (aw:qN P N ops cc (ae+1) [] g1 g'):qN P N ops cc i ek g g':=by
 have dW:∀ e∈acc,(cc.getD ae []).contains e.1=true:=λe h=>List.all_eq_true.1 bg e.1 (List.mem_range.2 ((aP.le c6).2 e h))
 have e:ed g (λm=>(cc.getD ae []).contains m) acc=ed g (λ_=>true) acc:=funext λt=>AQ λe h _=>dW e h
 have gO:[]=acc.filter λe=>!(cc.getD ae []).contains e.1:=by
  symm
  rw [List.filter_eq_nil_iff]
  intro a h
  rw [dW a h]
  decide
 exact .yh (rs:=sB []) aP hS ji bf (by rw [e]; exact hw) (by rw [e]; exact he.nZ.v) (λp aF=>by simp [sB] at aF) gO (by simp) (by simp) (by simp) aI aw
theorem W.rd {id:Nat}{l:List Oper}{G:List (Nat × ag)}{Φ:Exit->aU->Prop}(cc:List (List Nat)) (G1:List (Nat × ag)) (hm:P.follows .mixedOrders=true) (dW:qT l.toArray cc=true)
  (h:bV P N l.toArray cc (get G) 0 [] l λg'=>kF g' (get G1)) (hk:ai .normal Φ G1):W P N (.region id l.toArray true) (get G) Φ:=by
 obtain ⟨g',h1,al⟩:=h [] 0 .nil .nil (by simp)
 exact (gB.draw hm dW h1).w (hk g' (.fW al .gZ))
end
end Go.Own
namespace Go.Own
open Go
variable {α:Type}
section
variable {P:Program}{N:dE}{ops:Array Oper}{g g2:aU}{K:aU->Prop}{l:List Oper}{d r:Nat}{ty t t2:TypeId}{pos:String}{after:Array Edge}{a b c:Operand}{k k':IntKind}{m n:Int}{s u:ByteArray}
namespace O
theorem fD {e:TypeId}{z:Value}{cs:List ag}(bG:(P.info? e).bind (·.zero)=some z) (h1:z.cells.toList.all Value.oneCell'=true) (ab:z.cells.toList.map nG=cs):dr P g (.alloc e) ty (.obj cs):=by
 subst ab; exact .qy (.alloc bG (by rw [<- Array.all_toList]; exact h1))
theorem eS {t:TypeId}{parts:Array (Nat × Operand)}{pl:List (Nat × Nat)}{ei:Value}{ps:List (Nat × List ag)}{cs:List ag}(aG:ky P t pl=true) (bG:(P.info? t).bind (·.zero)=some ei) (h1:ei.cells.toList.all Value.oneCell'=true)
  (aF:qz g parts.toList=some ps) (ab:wY (λi=>pl[i]?) (ei.cells.toList.map nG) ps=some cs):dr P g (.build t parts) ty (.agg cs):=.CS (.build aG bG (by rw [<- Array.all_toList]; exact h1) aF ab)
end O
inductive oC (g g2:aU):ag->Prop
 | n {x:ag}(h:c' x):oC g g2 x
 | p {r k:Nat}{cs cs2:List ag}(h:g r=some (.obj cs)) (hk:k<cs.length) (al:g2 r=some (.obj cs2)) (gQ:k<cs2.length):oC g g2 (.ptr ⟨r,[]⟩ k)
 | r {z n N HX q:Nat}{cs cs2:List ag}(h:g q=some (.own z N cs)) (aN:n<=N) (al:g2 q=some (.own z HX cs2)) (n9:n<=HX):oC g g2 (.bm z ⟨q,[]⟩ n)
theorem tW {r k:Nat}{cs:List ag}(h:g r=some (.obj cs)) (hk:k<cs.length):hc g (.ptr ⟨r,[]⟩ k):=⟨.obj cs,by simp [b8,h,ag.at],0,0,cs,.inr rfl,hk⟩
theorem AF {z n N q:Nat}{cs:List ag}(h:g q=some (.own z N cs)) (aN:n<=N):hc g (.bm z ⟨q,[]⟩ n):=.inl ⟨N,cs,by simp [b8,h,ag.at],aN⟩
theorem oC.bp {x:ag}(h:oC g g2 x):eY g2 x:=by
 cases h with
 | n h=>exact .bI h
 | p _ _ al gQ=>exact .ref rfl (tW al gQ)
 | r _ _ al n9=>exact .ref rfl (AF al n9)
theorem oC.AG {x:ag}{xO k0 m0:Nat}(h:oC g g2 x):j7 (λr=>hc g r/\Clear ⟨xO,[]⟩ k0 m0 r/\hc g2 r) x:=by
 cases h with
 | n h=>exact .bI h
 | p h hk al gQ =>
  refine .ref rfl ⟨tW h hk,?_,tW al gQ⟩
  intro q bP _ ae e5 e
  simp only [xP,Option.some.injEq] at bP
  subst bP
  simp at e
 | r h hk al gQ =>
  refine .ref rfl ⟨AF h hk,?_,AF al gQ⟩
  intro q bP _ ae e5 e
  simp only [xP,Option.some.injEq] at bP
  subst bP
  simp at e
theorem oC.fP {x:ag}(h:oC g g2 x):∀ z p n m new,x≠.b2 z p n m new:=by
 rintro z p n m new rfl
 cases h with
 | n h=>cases h
inductive mz (g g2:aU) (r:Nat) (cs2:List ag):List (Nat × ag)->Prop
 | nil:mz g g2 r cs2 []
 | n {s:Nat}{x:ag}{l:List (Nat × ag)}(ez:Nat.beq s r=false) (h:g s=some x) [aN:cP x] (t:mz g g2 r cs2 l):mz g g2 r cs2 ((s,x)::l)
 | p {s q k:Nat}{l:List (Nat × ag)}{cs nt:List ag}(ez:Nat.beq s r=false) (h:g s=some (.ptr ⟨q,[]⟩ k)) (h1:g q=some (.obj cs)) (hk:Nat.blt k cs.length=true) (al:g2 q=some (.obj nt)) (gQ:Nat.blt k nt.length=true) (t:mz g g2 r cs2 l):mz g g2 r cs2 ((s,.ptr ⟨q,[]⟩ k)::l)
 | w {α:Type}{s q:Nat}{en:cx α}{L:List α}{l:List (Nat × ag)}(ez:Nat.beq s r=false) (h:g s=some (.bm en.z ⟨q,[]⟩ L.length)) (h1:g q=some (ak en L)) (al:g2 q=some (ak en L)) (t:mz g g2 r cs2 l):mz g g2 r cs2 ((s,.bm en.z ⟨q,[]⟩ L.length)::l)
 | b {l:List (Nat × ag)}{x:ag}(e:x=.obj cs2) [aN:eR cs2] (t:mz g g2 r cs2 l):mz g g2 r cs2 ((r,x)::l)
theorem mz.spec {cs2:List ag}{l:List (Nat × ag)}(h:mz g g2 r cs2 l):∀ t x,get l t=some x->(t≠r/\g t=some x/\oC g g2 x)\/(t=r/\x=.obj cs2/\c' x):=by
 induction h with
 | nil=>intro t x J; cases J
 | @n s x l ez h aN _ aS =>
  intro t y ay; simp only [get] at ay
  split at ay
  ·rename_i e; subst e; cases ay; exact .inl ⟨Nat.ne_of_beq_eq_false ez,h,.n aN.bI⟩
  ·exact aS t y ay
 | @p s q k l cs nt ez h h1 hk al gQ _ aS =>
  intro t y ay; simp only [get] at ay
  split at ay
  ·rename_i e; subst e; cases ay; exact .inl ⟨Nat.ne_of_beq_eq_false ez,h,.p h1 (by simpa using hk) al (by simpa using gQ)⟩
  ·exact aS t y ay
 | @w α s q en L l ez h h1 al _ aS =>
  intro t y ay; simp only [get] at ay
  split at ay
  ·rename_i e; subst e; cases ay; exact .inl ⟨Nat.ne_of_beq_eq_false ez,h,.r h1 (Nat.le_refl _) al (Nat.le_refl _)⟩
  ·exact aS t y ay
 | @b l x e aN _ aS =>
  intro t y ay; simp only [get] at ay
  split at ay
  ·rename_i cQ; subst cQ; cases ay; subst e; exact .inr ⟨rfl,rfl,.obj aN.bI⟩
  ·exact aS t y ay
theorem cm.box {o:Oper}{k0:Nat}{cs cs' cs2:List ag}{y:ag}{G2:List (Nat × ag)}(bf:o.op=.store t a b) (aV:o.dst=none) (aP:g r=some (.obj cs)) (bg:Rd g a (.ptr ⟨r,[]⟩ k0)) (aI:Rd g b y) (aN:c' y) (ab:qY y=some cs') (bG:gp P t cs'.length=true)
  (hk:k0+cs'.length<=cs.length) (bc:0<cs'.length) (he:fB cs k0 cs'=cs2) [gY:eR cs] (aw:get G2 r≠none) (eh:mz g (get G2) r cs2 G2):cm P N g o (get G2):=by
 subst he
 have me:g r≠none:=by rw [aP]; simp
 refine .store bf aV bg.bL aI.bL (.bI (by simpa using aN)) .refl ab bG (p:=⟨r,[]⟩) (nd:=.obj cs) (z:=0) (n:=0) (by simp [b8,aP,ag.at]) (.inr rfl) hk bc (λt x J=>?_) (λt x J y ay=>?_) (λt z q n m new J=>?_) aw
 ·rcases eh.spec t x J with ⟨h1,al,_⟩ | ⟨h1,al,_⟩
  ·rw [sE h1]; exact al
  ·subst h1 al; simp [c5,aP,ag.setAt,ag.fB]
 ·rcases eh.spec t x J with ⟨h1,al,aR⟩ | ⟨h1,al,aR⟩
  ·rw [al] at ay; cases ay; exact aR.AG
  ·subst h1
   rw [aP] at ay
   cases ay
   exact .bI (.obj gY.bI)
 ·rcases eh.spec t _ J with ⟨_,_,aR⟩ | ⟨_,al,_⟩
  ·exact aR.fP _ _ _ _ _ rfl
  ·cases al
theorem Trim.q {DP:Bool}{xT q k0:Nat}{cs:List ag}{Lb:List (Nat × ag)}(h:g xT=some (.ptr ⟨q,[]⟩ k0)) (al:g2 q=some (.obj cs)) (hk:Nat.blt k0 cs.length=true) (Us:Trim DP g g2 Lb):Trim DP g g2 ((xT,.ptr ⟨q,[]⟩ k0)::Lb) :=
 .r h (.ref rfl (tW al (by simpa using hk))) (by simp) Us
theorem ar.hs {o:Oper}{G2:List (Nat × ag)}(a7:o.guard=none) (he:cm P N g o (get G2)) (hk:ar P N ops l (get G2) K):ar P N ops (o::l) g K:=by
 intro i hi
 obtain ⟨h1,al⟩:=drop_cons hi
 obtain ⟨g',aw,eC⟩:=hk (i+1) al
 refine ⟨g',.nZ h1 ?_ he aw,eC⟩
 unfold iP; rw [a7]
theorem ar.dI {k0:Nat}{cs cs' cs2:List ag}{y:ag}{G2:List (Nat × ag)}(aP:g r=some (.obj cs)) (bg:Rd g a (.ptr ⟨r,[]⟩ k0)) (aI:Rd g b y) [aN:cP y] (ab:qY y=some cs') (bG:gp P t cs'.length=true)
  (hk:Nat.ble (k0+cs'.length) cs.length=true) (bc:Nat.blt 0 cs'.length=true) (he:fB cs k0 cs'=cs2) [gY:eR cs] (aw:(get G2 r).isSome=true) (eh:mz g (get G2) r cs2 G2) (Cf:ar P N ops l (get G2) K):ar P N ops (⟨none,.store t a b,ty,pos,after,none⟩::l) g K :=
 .hs rfl (.box rfl rfl aP bg aI aN.bI ab bG (Nat.le_of_ble_eq_true hk) (by simpa using bc) he (by intro e; rw [e] at aw; cases aw) eh) Cf
variable {cc:List (List Nat)}{acc:Acc}{i:Nat}
theorem bV.yh (dp:Nat) {G G2:List (Nat × ag)}{o:Oper}(he:cm P N (ed (get G) (λ_=>true) acc) o (get G2)) (a7:o.guard=none) (bG:acc.filterMap mr=[]) (ji:su G=true) (aa:Nat.beq ops.size (dp+l.length+1)=true)
  (bg:(List.range dp).all (λk=>(cc.getD dp []).contains k)=true) (aI:(List.range ops.size).all (λk=>Nat.ble k dp||(cc.getD k []).contains dp)=true) (hk:bV P N ops cc (get G2) (dp+1) [] l K):bV P N ops cc (get G) i acc (o::l) K:=by
 intro ek ae c6 oW oR
 have:=BL oR aa
 subst this
 obtain ⟨h1,al⟩:=drop_cons oR
 obtain ⟨g',aw,eC⟩:=hk [] (ae+1) .nil .nil al
 refine ⟨g',.Iv c6 oW (by rw [bG]; exact List.nodup_nil) (zP ji) h1 ?_ he bg ?_ aw,eC⟩
 ·unfold iP; rw [a7]
 ·refine List.all_eq_true.2 λk hk=>?_
  have:=List.all_eq_true.1 aI k hk
  simp only [Bool.or_eq_true,decide_eq_true_eq,Nat.ble_eq] at this ⊢
  exact this
theorem bV.dI (dp:Nat) {G:List (Nat × ag)}{k0:Nat}{cs cs' cs2:List ag}{y:ag}{G2:List (Nat × ag)}(aa:Nat.beq ops.size (dp+l.length+1)=true) (E1:(List.range dp).all (λk=>(cc.getD dp []).contains k)=true) (J9:(List.range ops.size).all (λk=>Nat.ble k dp||(cc.getD k []).contains dp)=true) (F7:acc.filterMap mr=[]) (ji:su G=true)
  (aP:ed (get G) (λ_=>true) acc r=some (.obj cs)) (bg:Rd (ed (get G) (λ_=>true) acc) a (.ptr ⟨r,[]⟩ k0)) (aI:Rd (ed (get G) (λ_=>true) acc) b y) [aN:cP y] (ab:qY y=some cs') (bG:gp P t cs'.length=true)
  (hk:Nat.ble (k0+cs'.length) cs.length=true) (bc:Nat.blt 0 cs'.length=true) (he:fB cs k0 cs'=cs2) [gY:eR cs] (aw:(get G2 r).isSome=true) (eh:mz (ed (get G) (λ_=>true) acc) (get G2) r cs2 G2) (Cf:bV P N ops cc (get G2) (dp+1) [] l K):bV P N ops cc (get G) i acc (⟨none,.store t a b,ty,pos,after,none⟩::l) K :=
 .yh dp (.box rfl rfl aP bg aI aN.bI ab bG (Nat.le_of_ble_eq_true hk) (by simpa using bc) he (by intro e; rw [e] at aw; cases aw) eh) rfl F7 ji aa E1 J9 Cf
end
end Go.Own
namespace Go.Own
open Go
variable {α β:Type}
def og (m:Int) (z:α):Option (List α):=if 0<=m/\m<=lim then some (List.replicate m.toNat z) else none
def eo (l m:List α):Option (List α):=if l.length+m.length<=lim then some (l++m) else none
class Flat (e:cx α):Prop where PJ:∀ a,(e.cells a).all lj=true
instance:Flat aL:=⟨λ_=>rfl⟩
instance:Flat nw:=⟨λ_=>rfl⟩
instance:Flat bF:=⟨λ_=>rfl⟩
instance:Flat cr:=⟨λ_=>rfl⟩
instance {e:cx α}:Flat (b5 e):=⟨λ_=>rfl⟩
theorem TJ (e:cx α) [h:Flat e] (l:List α):(cf e l).all lj=true:=by
 refine List.all_eq_true.2 λx J=>?_
 obtain ⟨a,_,bg⟩:=List.mem_flatMap.1 J
 exact List.all_eq_true.1 (h.PJ a) x bg
theorem CO (e:cx α) (l m:List α):(.own e.z (l.length+m.length) (cf e l++cf e m):ag)=ak e (l++m):=by
 unfold ak
 rw [List.length_append,vN]
theorem vO (e:cx α) (l:List α):(cf e l).take (l.length * e.z)=cf e l:=List.take_of_length_le (by rw [nI]; omega)
theorem LS:∀ L:List Int,cf nw L=L.map λb=>.lit (.int .u8 b)
 | []=>rfl
 | x::L=>by
  have:cf nw (x::L)=lE x::cf nw L:=rfl
  rw [this,List.map_cons,LS L]
section
variable {P:Program}{N:dE}{ops:Array Oper}{g g1 g2:aU}{K:aU->Prop}{l:List Oper}{d r:Nat}{ty t t2:TypeId}{pos:String}{after:Array Edge}{ig:Option (Nat × Bool)}{a b c:Operand}{k k':IntKind}{m n:Int}{s u:ByteArray}{p q:Place}
namespace O
theorem dF {e hU:Nat}{parts:Array (Nat × Operand)}{ys:List ag}(en:cx α) (L:List α) (aG:fm P t e en.z=true) (J:iz g (parts.toList.map (·.2))=some ys) (ab:oJ ys=some (cf en L)) (bG:ys.all (λy=>match lF y with | some c=>Nat.beq c.length en.z | none=>false)=true)
  (aF:parts.toList=(parts.toList.map (·.2)).mapIdx (λi x=>(i,x))) (aN:(parts.toList.map (·.2)).length=hU) (ao:L.length=hU) (hzero:jT P e en.z=true) (aI:Nat.ble (hU * en.z) 16777216=true) (cX:Nat.ble hU 16777216=true):dr P g (.buildSlice t hU parts) ty (ak en L):=by
 subst aN
 have:=oz.buildSlice (P:=P) (ty:=ty) aG aF J (λy ay=>by
  have:=List.all_eq_true.1 bG y ay
  cases fq:lF y with
  | none=>rw [fq] at this; cases this
  | some c=>rw [fq] at this; exact ⟨c,rfl,Nat.eq_of_beq_eq_true this⟩) ab (Nat.le_of_ble_eq_true aI) (Nat.le_of_ble_eq_true cX) (.inr (HJ hzero))
 unfold ak
 rw [ao]
 exact .qy this
theorem o2 {z cG n:Nat}{e:TypeId}(J:Rd g a (.bm z p n)) (aG:fm P t e cG=true):dr P g (.call { callee:=.builtin .len,args:=#[a],argTypes:=#[t] }) ty (j n):=.fk (.zE J.bL aG)
theorem gS {en:cx α}{L:List α}{y:α}{e:TypeId}(aF:b8 g p=some (ak en L)) (J:Rd g a (.bm en.z p L.length)) (hi:Rd g b (.lit (.int k m))) (aG:fm P t e en.z=true) (h:idx L m=some y) (bG:Nat.blt 0 en.z=true):dr P g (.indexAddr t a b) ty (.ptr p (m.toNat * en.z+0)):=by
 obtain ⟨bc,h1,_⟩:=pM h
 obtain ⟨ae,rfl⟩:=Int.eq_ofNat_of_zero_le bc
 have K4:0<en.z:=by simpa using bG
 have aa:ae<L.length:=by omega
 refine .fk (.Cv J.bL hi.bL aG aa ⟨_,aF,_,_,_,.inl rfl,?_⟩)
 rw [nI]; exact Nat.mul_lt_mul_of_pos_right aa K4
theorem TF {en:cx α}{L:List α}{y:α}{o:Nat}(h:idx L m=some y) (bf:o<en.z):m.toNat * en.z+o<(cf en L).length:=by
 obtain ⟨bc,h1,_⟩:=pM h
 rw [nI]
 have al:m.toNat+1<=L.length:=by omega
 calc m.toNat * en.z+o<m.toNat * en.z+en.z:=by omega
  _=(m.toNat+1) * en.z:=by rw [Nat.add_mul]; omega
  _<=L.length * en.z:=Nat.mul_le_mul_right _ al
theorem j9 {en:cx α}{L:List α}{y:α}{e6 f off o hA:Nat}(aF:b8 g p=some (ak en L)) (J:Rd g a (.ptr p (m.toNat * en.z+o))) (bj:du P e6 f off t=true) (h:idx L m=some y) (bf:o+off=hA) (bd:Nat.blt hA en.z=true):dr P g (.fieldAddr e6 a f) ty (.ptr p (m.toNat * en.z+hA)):=by
 subst bf
 rw [<- Nat.add_assoc]
 refine .fk (.yL J.bL bj ⟨_,aF,_,_,_,.inl rfl,?_⟩)
 rw [Nat.add_assoc]; exact TF h (by simpa using bd)
theorem qW {en:cx α}{L:List α}{y:α}{o:Nat}{x:ag}(aF:b8 g p=some (ak en L)) (h:idx L m=some y) (ab:(en.cells y)[o]?=some x):b8 g (p.push (m.toNat * en.z+o))=some x:=by
 rw [rP,aF]
 exact LQ en h ab
theorem iZ {en:cx α}{L:List α}{y:α}{o:Nat}{x x':ag}(aF:b8 g p=some (ak en L)) (J:Rd g a (.ptr p (m.toNat * en.z+o))) (aG:hr P t=true) (h:idx L m=some y) (ab:(en.cells y)[o]?=some x) (aw:h_ 0 (p.push (m.toNat * en.z+o)) x=x'):dr P g (.load t a) ty x':=by
 subst aw
 exact .fk (.zH J.bL aG (qW aF h ab))
end O
class p0 (g:aU):Prop where fP:∀ t z q n m new,g t≠some (.b2 z q n m new)
class nU (x:ag):Prop where fP:∀ z q n m new,x≠.b2 z q n m new
instance {x:ag} [h:cP x]:nU x:=⟨by rintro z q n m new rfl; cases h.bI⟩
instance {p:Place}{k:Nat}:nU (.ptr p k):=⟨by simp⟩
instance {p:Place}{z n:Nat}:nU (.bm z p n):=⟨by simp⟩
instance {p:Place}{z lo n:Nat}:nU (.sub z p lo n):=⟨by simp⟩
instance {cs:List ag}:nU (.agg cs):=⟨by simp⟩
instance {cs:List ag}:nU (.cw cs):=⟨by simp⟩
instance {cs:List ag}:nU (.obj cs):=⟨by simp⟩
instance {g:aU}{d:Nat}{x:ag} [h:p0 g] [J:nU x]:p0 (e2 g d x):=⟨λt z q n m new e=>by
 unfold e2 at e
 split at e
 ·cases e; exact J.fP _ _ _ _ _ rfl
 ·exact h.fP _ _ _ _ _ _ e⟩
instance:p0 (get []):=⟨λ_ _ _ _ _ _ e=>by cases e⟩
instance {t:Nat}{x:ag}{G:List (Nat × ag)} [J:nU x] [h:p0 (get G)]:p0 (get ((t,x)::G)):=⟨λs z q n m new e=>by
 simp only [get] at e
 split at e
 ·cases e; exact J.fP _ _ _ _ _ rfl
 ·exact h.fP _ _ _ _ _ _ e⟩
class Bd (acc:Acc):Prop where fP:∀ e∈acc,∀ z q n m new,e.2.2≠some (.b2 z q n m new)
instance:Bd []:=⟨by simp⟩
instance {ae d:Nat}{x:ag}{acc:Acc} [J:nU x] [h:Bd acc]:Bd ((ae,d,some x)::acc):=⟨λe he z q n m new b9=>by
 rcases List.mem_cons.1 he with rfl | he
 ·exact J.fP z q n m new (Option.some.inj b9)
 ·exact h.fP e he z q n m new b9⟩
instance {G:List (Nat × ag)}{A:Nat->Bool}{acc:Acc} [a7:p0 (get G)] [h:Bd acc]:p0 (ed (get G) A acc):=⟨λt z q n m new e=>by
 rcases sO e with ⟨cQ,he,_,_,al⟩ | ⟨_,al⟩
 ·exact h.fP cQ he _ _ _ _ _ al
 ·exact a7.fP _ _ _ _ _ _ al⟩
theorem yf {L M:List α}{r:List α}{b:Nat}(h:eo L M=some r) (aI:Nat.ble b 128=true):L.length+M.length<=4611686018427387904/\(L.length+M.length) * b<=140737488355328/\r=L++M:=by
 unfold eo at h
 split at h
 ·rename_i ao
  have ko:=Nat.le_of_ble_eq_true aI
  have RA:lim=1099511627776:=rfl
  refine ⟨by omega,?_,(Option.some.inj h).symm⟩
  calc (L.length+M.length) * b<=1099511627776 * 128:=Nat.mul_le_mul ao ko
   _=140737488355328:=by decide
 ·cases h
inductive qR (g:aU) (en:cx α):ag->List α->Prop
 | i {M:List α}:qR g en (.aD en.z M.length (cf en M)) M
 | n:qR g en .aJ []
 | o {q:Place}{M:List α}(bP:b8 g q=some (ak en M)) (bj:(cf en M).all lj=true):qR g en (.bm en.z q M.length) M
theorem qR.src {en:cx α}{y:ag}{M:List α}(h:qR g en y M):Src g y en.z M.length (cf en M):=by
 cases h with
 | i=>exact .aD
 | n=>exact .aJ
 | o bP bj =>
  have:=Src.bm (g:=g) (m:=M.length) bP (Nat.le_refl _)
  rw [vO,yN (q:=λi=>_) bj] at this
  exact this
theorem qR.flat (en:cx α) [Flat en] {q:Place}{M:List α}(bP:b8 g q=some (ak en M)):qR g en (.bm en.z q M.length) M:=.o bP (TJ en M)
namespace O
theorem ap {en:cx α}{L M r:List α}{y:ag}{e j8:Nat}(aP:Rd g a (.bm en.z p L.length)) (aF:b8 g p=some (ak en L)) (J:Rd g b y) (hm:qR g en y M) (aG:iQ P t e en.z j8=true) (aI:Nat.ble j8 128=true) (h:eo L M=some r) [gY:p0 g] :
  dr P g (.call { callee:=.builtin .append,args:=#[a,b],argTypes:=#[t,t] }) ty (.b2 en.z p L.length M.length (cf en M)):=by
 obtain ⟨h1,al,_⟩:=yf h aI
 exact .lx (.grow aP.bL (.inl ⟨_,aF⟩) (λt cG cT b7 da e=>gY.fP _ _ _ _ _ _ e) J.bL hm.src aG h1 al)
theorem Nk {en:cx α}{M r:List α}{y:ag}{e j8:Nat}(aP:Rd g a .aJ) (J:Rd g b y) (hm:qR g en y M) (aG:iQ P t e en.z j8=true) (aI:Nat.ble j8 128=true) (h:eo [] M=some r) :
  dr P g (.call { callee:=.builtin .append,args:=#[a,b],argTypes:=#[t,t] }) ty (ak en M):=by
 obtain ⟨h1,al,_⟩:=yf h aI
 simp only [List.length_nil,Nat.zero_add] at h1 al
 exact .lx (.nil aP.bL J.bL hm.src aG h1 al)
end O
inductive pq (ex:List Nat) (g g2:aU):List (Nat × ag)->Prop
 | nil:pq ex g g2 []
 | n {s:Nat}{x:ag}{l:List (Nat × ag)}(ez:ex.elem s=false) (h:g s=some x) [aN:cP x] (t:pq ex g g2 l):pq ex g g2 ((s,x)::l)
 | p {s q k:Nat}{l:List (Nat × ag)}{nt:List ag}(ez:ex.elem s=false) (h:g s=some (.ptr ⟨q,[]⟩ k)) (al:g2 q=some (.obj nt)) (gQ:Nat.blt k nt.length=true) (t:pq ex g g2 l):pq ex g g2 ((s,.ptr ⟨q,[]⟩ k)::l)
theorem pq.spec {ex:List Nat}{l:List (Nat × ag)}(h:pq ex g g2 l):∀ t x,get l t=some x->ex.elem t=false/\g t=some x/\eY g2 x/\∀ z p n m new,x≠.b2 z p n m new:=by
 induction h with
 | nil=>intro t x J; cases J
 | @n s x l ez h aN _ aS =>
  intro t y ay; simp only [get] at ay
  split at ay
  ·rename_i e; subst e; cases ay; exact ⟨ez,h,.bI aN.bI,by rintro z p n m new rfl; cases aN.bI⟩
  ·exact aS t y ay
 | @p s q k l nt ez h al gQ _ aS =>
  intro t y ay; simp only [get] at ay
  split at ay
  ·rename_i e; subst e; cases ay; exact ⟨ez,h,.ref rfl (tW al (by simpa using gQ)),by simp⟩
  ·exact aS t y ay
theorem pq.keep {ex:List Nat}{G2:List (Nat × ag)}(h:pq ex g (get G2) G2) (a7:∀ t,ex.elem t=false->g1 t=g t):gd g1 (get G2) :=
 ⟨λt x J=>by obtain ⟨h1,al,_⟩:=h.spec t x J; rw [a7 t h1]; exact al,λt x J=>(h.spec t x J).2.2.1,λt z q n m new J=>(h.spec t _ J).2.2.2 _ _ _ _ _ rfl⟩
theorem Take.row {en:cx α}{L:List α}(aF:b8 g p=some (ak en L)):Take g [.bm en.z p L.length] [ak en L] (c5 g p .dead):=by
 have h1:Take (c5 g p .dead) ((cf en L).take (L.length * en.z)) (cf en L) (c5 g p .dead):=by
  rw [vO]; exact .bI (nJ en L)
 exact .bm aF (Nat.le_refl _) h1 (.bI (by simp))
theorem Take.TH {en:cx α}{L M:List α}{s:Nat}(aP:g s=some (.b2 en.z q L.length M.length (cf en M))) (aF:b8 g q=some (ak en L)) (bP:q.root≠s):Take g [.bm en.z ⟨s,[]⟩ (L.length+M.length)] [ak en (L++M)] (c5 (c5 g ⟨s,[]⟩ .dead) q .dead):=by
 rw [<- CO]
 exact .b2 aP aF bP (.bI λx J=>(List.mem_append.1 J).elim (nJ en L x) (nJ en M x)) (.bI (by simp))
theorem Take.TI {en:cx α}{L M M2:List α}{s s2:Nat}(aP:g s=some (.b2 en.z ⟨s2,[]⟩ (L.length+M2.length) M.length (cf en M))) (xe:g s2=some (.b2 en.z q L.length M2.length (cf en M2))) (aF:b8 g q=some (ak en L)) (bP:q.root≠s) (rf:q.root≠s2) (FP:s≠s2) :
  Take g [.bm en.z ⟨s,[]⟩ (L.length+M2.length+M.length)] [ak en (L++M2++M)] (c5 (c5 (c5 g ⟨s,[]⟩ .dead) ⟨s2,[]⟩ .dead) q .dead):=by
 have:=Take.CT (g:=g) (xs:=[]) (xs':=[]) aP xe rfl aF bP rf FP (.bI (xs:=cf en L++cf en M2++cf en M) λx J=>by
  rcases List.mem_append.1 J with h | h
  ·exact (List.mem_append.1 h).elim (nJ en L x) (nJ en M2 x)
  ·exact nJ en M x h) (.bI (by simp))
 have e:(ak en (L++M2++M):ag)=.own en.z (L.length+M2.length+M.length) (cf en L++cf en M2++cf en M):=by
  unfold ak; rw [List.length_append,List.length_append,vN,vN]
 rw [e]; exact this
theorem ub {t:Nat}{y:ag}(h:t≠p.root):c5 g p y t=g t:=by unfold c5; rw [if_neg h]
theorem wT {ex:List Nat}{t s:Nat}(h:ex.elem t=false) (aP:ex.elem s=true):t≠s:=by rintro rfl; rw [h] at aP; cases aP
theorem cm.kG {o:Oper}{en:cx α}{L:List α}{x:Operand}{G2:List (Nat × ag)}(bf:o.op=.assign x) (aV:o.dst=some d) (J:Rd g x (.bm en.z p L.length)) (aF:b8 g p=some (ak en L)) (eh:pq [p.root] g (get G2) G2) (a7:get G2 d=none) (bY:N.ok d=true):cm P N g o (e2 (get G2) d (ak en L)) :=
 .assign bf aV J.bL (.row aF) .refl (eh.keep λt aG=>ub (wT aG (by simp))) a7 bY
theorem cm.oG {o:Oper}{en:cx α}{L M:List α}{s:Nat}{x:Operand}{G2:List (Nat × ag)}(bf:o.op=.assign x) (aV:o.dst=some d) (J:Rd g x (.bm en.z ⟨s,[]⟩ (L.length+M.length))) (aP:g s=some (.b2 en.z q L.length M.length (cf en M))) (aF:b8 g q=some (ak en L)) (bP:Nat.beq q.root s=false)
  (eh:pq [s,q.root] g (get G2) G2) (a7:get G2 d=none) (bY:N.ok d=true):cm P N g o (e2 (get G2) d (ak en (L++M))) :=
 .assign bf aV J.bL (.TH aP aF (Nat.ne_of_beq_eq_false bP)) .refl (eh.keep λt aG=>by rw [ub (wT aG (by simp)),ub (wT aG (by simp))]) a7 bY
theorem cm.H7 {o:Oper}{en:cx α}{L M M2:List α}{s s2:Nat}{x:Operand}{G2:List (Nat × ag)}(bf:o.op=.assign x) (aV:o.dst=some d) (J:Rd g x (.bm en.z ⟨s,[]⟩ (L.length+M2.length+M.length))) (aP:g s=some (.b2 en.z ⟨s2,[]⟩ (L.length+M2.length) M.length (cf en M)))
  (xe:g s2=some (.b2 en.z q L.length M2.length (cf en M2))) (aF:b8 g q=some (ak en L)) (bP:Nat.beq q.root s=false) (rf:Nat.beq q.root s2=false) (FP:Nat.beq s s2=false)
  (eh:pq [s,s2,q.root] g (get G2) G2) (a7:get G2 d=none) (bY:N.ok d=true):cm P N g o (e2 (get G2) d (ak en (L++M2++M))) :=
 .assign bf aV J.bL (.TI aP xe aF (Nat.ne_of_beq_eq_false bP) (Nat.ne_of_beq_eq_false rf) (Nat.ne_of_beq_eq_false FP)) .refl (eh.keep λt aG=>by rw [ub (wT aG (by simp)),ub (wT aG (by simp)),ub (wT aG (by simp))]) a7 bY
theorem ar.gI {o:Oper}{x:ag}{G2:List (Nat × ag)}(a7:o.guard=none) (he:cm P N g o (e2 (get G2) d x)) (hk:ar P N ops l (e2 (get G2) d x) K):ar P N ops (o::l) g K:=by
 intro i hi
 obtain ⟨h1,al⟩:=drop_cons hi
 obtain ⟨g',aw,eC⟩:=hk (i+1) al
 refine ⟨g',.nZ h1 ?_ he aw,eC⟩
 unfold iP; rw [a7]
theorem te {x:ag}{G:List (Nat × ag)}:e2 (get G) d x=get ((d,x)::G):=by
 funext t; unfold e2; simp only [get]
variable {cc:List (List Nat)}{acc:Acc}{i:Nat}
inductive yd (P:Program):aU->List ResultVar->List ag->List ag->aU->Prop
 | nil {g:aU}:yd P g [] [] [] g
 | f {g g':aU}{t:Nat}{x:ag}{rs:List ResultVar}{ys xs:List ag}(h:g t=some x) (bj:lj x=true) [aN:cP x] (aG:yd P g rs ys xs g'):yd P g (.tmp t::rs) (x::ys) (x::xs) g'
 | o {g g':aU}{t:Nat}{en:cx α}{L:List α}{rs:List ResultVar}{ys xs:List ag}(h:g t=some (ak en L)) (aG:yd P (c5 g ⟨t,[]⟩ .dead) rs ys xs g'):yd P g (.tmp t::rs) (.bm en.z ⟨t,[]⟩ L.length::ys) (ak en L::xs) g'
end
end Go.Own
namespace Go.Own
open Go
variable {α β:Type}
section
variable {P:Program}{N:dE}{ops:Array Oper}{g g' g1 g2:aU}{K:aU->Prop}{l:List Oper}{d r:Nat}{ty t t2:TypeId}{pos:String}{after:Array Edge}{a b c:Operand}{p q:Place}{e:Exit}
inductive po (s:Nat):aU->Nat->List ag->List ag->aU->Prop
 | nil {g:aU}{i:Nat}:po s g i [] [] g
 | f {g g':aU}{i:Nat}{x:ag}{ys xs:List ag}(bj:lj x=true) [aN:cP x] (aG:po s g (i+1) ys xs g'):po s g i (x::ys) (x::xs) g'
 | o {α:Type}{g g':aU}{i:Nat}{en:cx α}{L:List α}{ys xs:List ag}(aF:b8 g ⟨s,[i]⟩=some (ak en L)) (aG:po s (c5 g ⟨s,[i]⟩ .dead) (i+1) ys xs g'):po s g i (.bm en.z ⟨s,[i]⟩ L.length::ys) (ak en L::xs) g'
theorem po.take {s i:Nat}{ys xs:List ag}(h:po s g i ys xs g'):Take g ys xs g':=by
 induction h with
 | nil=>exact .bI (by simp)
 | @f g g' i x ys xs bj aN _ aS=>exact .cons aN.bI aS
 | @o α g g' i en L ys xs aF _ aS =>
  refine .bm aF (Nat.le_refl _) ?_ aS
  rw [vO]; exact .bI (nJ en L)
inductive oB (P:Program):aU->List ResultVar->List ag->List ag->aU->Prop
 | nil {g:aU}:oB P g [] [] [] g
 | f {g g':aU}{t:Nat}{x:ag}{rs:List ResultVar}{ys xs:List ag}(h:g t=some x) (bj:lj x=true) [aN:cP x] (aG:oB P g rs ys xs g'):oB P g (.tmp t::rs) (x::ys) (x::xs) g'
 | o {α:Type}{g g':aU}{t:Nat}{en:cx α}{L:List α}{rs:List ResultVar}{ys xs:List ag}(h:g t=some (ak en L)) (aG:oB P (c5 g ⟨t,[]⟩ .dead) rs ys xs g'):oB P g (.tmp t::rs) (.bm en.z ⟨t,[]⟩ L.length::ys) (ak en L::xs) g'
 | c {g g' BY:aU}{t z:Nat}{ty:TypeId}{cs ys0:List ag}{rs:List ResultVar}{ys xs:List ag}(h:g t=some (.obj cs)) (aG:iH P ty z=true) (bG:cs.length=z) (bc:Nat.blt 0 z=true) (ay:(cs.mapIdx λi x=>h_ 0 ⟨t,[i]⟩ x)=ys0) (hk:po t g 0 ys0 cs BY) (aw:oB P BY rs ys xs g'):oB P g (.cell t ty::rs) (.agg ys0::ys) (.agg cs::xs) g'
def wh (g0 g:aU):Prop:=∀ t x,g t=some x->(lj x=true\/(∃ z n cs,x=.own z n cs))->g0 t=some x
theorem wh.set {g0:aU}{t:Nat}{pp:List Nat}(h:wh g0 g) (bf:pp=[]\/∃ cs,g t=some (.obj cs)):wh g0 (c5 g ⟨t,pp⟩ .dead):=by
 intro s x J bj
 unfold c5 at J
 split at J
 ·rename_i aP
  simp only at aP J
  subst aP
  exfalso
  cases a7:g s with
  | none=>rw [a7] at J; cases J
  | some y =>
   rw [a7] at J
   simp only [Option.map_some,Option.some.injEq] at J
   rcases bf with rfl | ⟨cs,ab⟩
   ·simp only [ag.setAt] at J
    subst J
    rcases bj with bj | ⟨_,_,_,bj⟩ <;> cases bj
   ·rw [a7] at ab
    cases ab
    have:∃ cs',x=.obj cs':=by
     subst J
     cases pp with
     | nil=>simp only [ag.setAt] at bj; rcases bj with bj | ⟨_,_,_,bj⟩ <;> cases bj
     | cons k pp =>
      simp only [ag.setAt,ag.kids]
      split
      ·exact ⟨_,rfl⟩
      ·exact ⟨_,rfl⟩
    obtain ⟨cs',rfl⟩:=this
    rcases bj with bj | ⟨_,_,_,bj⟩ <;> cases bj
 ·exact h s x J bj
theorem po.Pd {g0:aU}{s i:Nat}{ys xs:List ag}(h:po s g i ys xs g'):(∃ cs,g s=some (.obj cs))->wh g0 g->wh g0 g':=by
 induction h with
 | nil=>exact λ_ h=>h
 | f _ _ aS=>exact aS
 | @o α g g' i en L ys xs aF _ aS =>
  intro bf aV
  refine aS ?_ (aV.set (.inr bf))
  obtain ⟨cs,ab⟩:=bf
  unfold c5
  simp only [if_pos,ab,Option.map_some,ag.setAt,ag.kids]
  split
  ·exact ⟨_,rfl⟩
  ·exact ⟨_,rfl⟩
theorem po.out {s i:Nat}{ys xs:List ag}(h:po s g i ys xs g'):∀ t,t≠s->g' t=g t:=by
 induction h with
 | nil=>exact λ_ _=>rfl
 | f _ _ aS=>exact aS
 | o _ _ aS=>exact λt aG=>by rw [aS t aG,ub aG]
theorem oB.take {rs:List ResultVar}{ys xs:List ag}(h:oB P g rs ys xs g'):Take g ys xs g':=by
 induction h with
 | nil=>exact .bI (by simp)
 | @f g g' t x rs ys xs h bj aN _ aS=>exact .cons aN.bI aS
 | @o α g g' t en L rs ys xs h _ aS =>
  have aF:b8 g ⟨t,[]⟩=some (ak en L):=by simp [b8,h,ag.at]
  refine .bm aF (Nat.le_refl _) ?_ aS
  rw [vO]; exact .bI (nJ en L)
 | @c g g' BY t z ty cs ys0 rs ys xs h aG bG bc ay hk _ aS=>exact .agg hk.take aS
theorem oB.vs {rs:List ResultVar}{ys xs:List ag}(h:oB P g rs ys xs g'):∀ g0:aU,wh g0 g->(∀ t ty,ResultVar.cell t ty∈rs->∀ cs,g t=some (.obj cs)->g0 t=some (.obj cs))->(rs.filterMap fun | .cell t _=>some t | _=>none).Nodup->p3 P g0 rs ys:=by
 induction h with
 | nil=>exact λ_ _ _ _=>.nil
 | @f g g' t x rs ys xs h bj aN _ aS =>
  intro g0 aV aI ga
  exact .cons (.tmp (Rd.f (aV t x h (.inl bj)) bj)) (aS g0 aV (λt ty hm=>aI t ty (List.mem_cons_of_mem _ hm)) (by simpa using ga))
 | @o α g g' t en L rs ys xs h _ aS =>
  intro g0 aV aI ga
  refine .cons (.tmp ?_) (aS g0 (aV.set (.inl rfl)) (λs ty hm cs ab=>?_) (by simpa using ga))
  ·have:=aV t _ h (.inr ⟨_,_,_,rfl⟩)
   simp [Own.bL,this,qA,h_]
  ·by_cases aP:s=t
   ·subst aP; simp [c5,h,ag.setAt] at ab
   ·rw [ub aP] at ab; exact aI s ty (List.mem_cons_of_mem _ hm) cs ab
 | @c g g' BY t z ty cs ys0 rs ys xs h aG bG bc ay hk _ aS =>
  intro g0 aV aI ga
  have h1:=aI t ty (by simp) cs h
  simp only [List.filterMap_cons,List.nodup_cons] at ga
  refine .cons ?_ (aS g0 (hk.Pd ⟨cs,h⟩ aV) (λs Mv hm cs' ab=>?_) ga.2)
  ·have K4:0<z:=by simpa using bc
   have J:Own.bL g0 (.tmp t)=some (.ptr ⟨t,[]⟩ 0):=by
    cases cs with
    | nil=>simp at bG; omega
    | cons c cs=>simp [Own.bL,h1,qA,h_]
   have:=dj.xm (P:=P) (ty:=ty) (p:=⟨t,[]⟩) (n:=0) (z:=0) J aG (by simp only [b8,h1,ag.at]) (.inr rfl) (show 0+z<=cs.length by omega)
   have hf:((cs.drop 0).take z).mapIdx (λi x=>h_ 0 (Place.push ⟨t,[]⟩ (0+i)) x)=ys0:=by
    rw [List.drop_zero,List.take_of_length_le (by omega),<- ay]
    congr 1
    funext i x
    simp [Place.push]
   rw [hf] at this
   exact .cell this
  ·have cd:s≠t:=by
    rintro rfl
    exact ga.1 (List.mem_filterMap.2 ⟨.cell s Mv,hm,rfl⟩)
   have:=hk.out s cd
   rw [this] at ab
   exact aI s Mv (List.mem_cons_of_mem _ hm) cs' ab
inductive rK (g:aU) (pins:List Nat):Nat->List (Option ag)->Prop
 | nil {i:Nat}:rK g pins i []
 | no {i:Nat}{os:List (Option ag)}(t:rK g pins (i+1) os):rK g pins i (none::os)
 | az {i:Nat}{x:ag}{os:List (Option ag)}(h:g i=some x) [aN:cP x] (aF:pins.elem i=true) (t:rK g pins (i+1) os):rK g pins i (some x::os)
theorem rK.spec {pins:List Nat}{i:Nat}{os:List (Option ag)}(h:rK g pins i os):∀ k x,os[k]?=some (some x)->g (i+k)=some x/\c' x/\i+k∈pins:=by
 induction h with
 | nil=>intro k x hk; simp at hk
 | no _ aS =>
  intro k x hk
  cases k with
  | zero=>simp at hk
  | succ k=>have:=aS k x (by simpa using hk); rw [Nat.add_assoc,Nat.add_comm 1 k] at this; exact this
 | @az i y os h aN aF _ aS =>
  intro k x hk
  cases k with
  | zero=>simp at hk; subst hk; exact ⟨h,aN.bI,by simpa using aF⟩
  | succ k=>have:=aS k x (by simpa using hk); rw [Nat.add_assoc,Nat.add_comm 1 k] at this; exact this
theorem Fin.ro {rs:List ResultVar}{ys xs:List ag}{res:ag}{outs:List (Option ag)}{n:Nat}(h:oB P g rs ys xs g') (he:pS xs=res) (ga:(rs.filterMap fun | .cell t _=>some t | _=>none).Nodup) (bf:rK g' N.pins 0 outs) (ao:outs.length=n) (J:e=.normal\/e=.ret):Fin P N rs n outs res e g :=
 ⟨J,⟨ys,xs,g',h.vs g (λ_ _ h _=>h) (λ_ _ _ _ h=>h) ga,h.take,he.symm,λk x hk=>by have:=bf.spec k x hk; rw [Nat.zero_add] at this; exact this⟩,ao⟩
class kh (x y:ag):Prop where v:∀ g,View g x y
class dJ (xs ys:List ag):Prop where
 l:ys.length=xs.length
 v:∀ (g:aU) (k:Nat) (x y:ag),xs[k]?=some x->ys[k]?=some y->View g x y
class hd (e cQ:cx α):Prop where
 z:e.z=cQ.z
 v:∀ a,dJ (e.cells a) (cQ.cells a)
instance {v:Value}:kh (.lit v) (.lit v):=⟨λ_=>.self .lit (by simp) (by simp) (by simp) (by simp) (by simp)⟩
instance:kh .aJ .aJ:=⟨λ_=>.self .aJ (by simp) (by simp) (by simp) (by simp) (by simp)⟩
instance {z n:Nat}{cs:List ag} [h:eR cs]:kh (.aD z n cs) (.aD z n cs):=⟨λ_=>.self (.aD h.bI) (by simp) (by simp) (by simp) (by simp) (by simp)⟩
instance {cs:List ag} [h:eR cs]:kh (.bn cs) (.bn cs):=⟨λ_=>.self (.bn h.bI) (by simp) (by simp) (by simp) (by simp) (by simp)⟩
instance {e:cx α}:kh .aJ (aj e []):=⟨λ_=>.o3⟩
instance:dJ [] []:=⟨rfl,by simp⟩
instance {x y:ag}{xs ys:List ag} [h:kh x y] [aT:dJ xs ys]:dJ (x::xs) (y::ys):=⟨by simp [aT.l],λg k a b bg aI=>by
 cases k with
 | zero=>simp at bg aI; subst bg aI; exact h.v g
 | succ k=>exact aT.v g k a b (by simpa using bg) (by simpa using aI)⟩
theorem AS (e cQ:cx α) [h:hd e cQ]:∀ L:List α,(cf cQ L).length=(cf e L).length/\∀ (g:aU) (k:Nat) (x y:ag),(cf e L)[k]?=some x->(cf cQ L)[k]?=some y->View g x y
 | []=>⟨rfl,by simp [cf]⟩
 | a::L=>by
  obtain ⟨h1,al⟩:=AS e cQ L
  have Pt:∀ e:cx α,cf e (a::L)=e.cells a++cf e L:=λe=>by simp [cf]
  refine ⟨by rw [nI,nI,h.z],λg k x y J ay=>?_⟩
  rw [Pt] at J ay
  by_cases hk:k<e.z
  ·rw [List.getElem?_append_left (by rw [e.len]; exact hk)] at J
   rw [List.getElem?_append_left (by rw [cQ.len,<- h.z]; exact hk)] at ay
   exact (h.v a).v g k x y J ay
  ·rw [List.getElem?_append_right (by rw [e.len]; omega),e.len] at J
   rw [List.getElem?_append_right (by rw [cQ.len,<- h.z]; omega),cQ.len,<- h.z] at ay
   exact al g _ x y J ay
instance {e cQ:cx α}{L:List α} [h:hd e cQ]:kh (ak e L) (aj cQ L):=⟨λg=>by
 have:=AS e cQ L
 show View g (.own e.z L.length (cf e L)) (.aD cQ.z L.length (cf cQ L))
 rw [<- h.z]
 exact .own this.1 (this.2 g)⟩
instance:hd aL aL:=⟨rfl,λa=>(inferInstance:dJ [j a] [j a])⟩
instance:hd nw nw:=⟨rfl,λa=>(inferInstance:dJ [lE a] [lE a])⟩
instance:hd bF bF:=⟨rfl,λa=>(inferInstance:dJ [ba a] [ba a])⟩
instance:hd cr cr:=⟨rfl,λa=>(inferInstance:dJ [af a] [af a])⟩
instance {e cQ:cx α} [h:hd e cQ]:hd (fa e) (b5 cQ):=⟨rfl,λa=>(inferInstance:dJ [ak e a] [aj cQ a])⟩
instance {e:cx α}:hd (b5 e) (b5 e):=⟨rfl,λa=>(inferInstance:dJ [aj e a] [aj e a])⟩
theorem View.row {e cQ:cx α}{L:List α} [h:hd e cQ] (aF:b8 g p=some (ak e L)):View g (.bm e.z p L.length) (aj cQ L):=by
 have:=AS e cQ L
 show View g _ (.aD cQ.z L.length (cf cQ L))
 rw [<- h.z]
 refine .bm aF (Nat.le_refl _) (by rw [vO]; exact this.1) (λk x y J ay=>?_)
 rw [vO] at J
 exact this.2 g k x y J ay
inductive pr (g:aU):List ag->List ag->Prop
 | nil:pr g [] []
 | s {x y:ag}{xs ys:List ag} [h:kh x y] (t:pr g xs ys):pr g (x::xs) (y::ys)
 | c {x y:ag}{xs ys:List ag}(h:View g x y) (t:pr g xs ys):pr g (x::xs) (y::ys)
theorem pr.len {xs ys:List ag}(h:pr g xs ys):ys.length=xs.length:=by
 induction h with
 | nil=>rfl
 | s _ aS=>simp [aS]
 | c _ _ aS=>simp [aS]
theorem pr.get {xs ys:List ag}(h:pr g xs ys):∀ (k:Nat) (x y:ag),xs[k]?=some x->ys[k]?=some y->View g x y:=by
 induction h with
 | nil=>intro k x y J; simp at J
 | @s x y xs ys h _ aS =>
  intro k a b bg aI
  cases k with
  | zero=>simp at bg aI; subst bg aI; exact h.v g
  | succ k=>exact aS k a b (by simpa using bg) (by simpa using aI)
 | @c x y xs ys h _ aS =>
  intro k a b bg aI
  cases k with
  | zero=>simp at bg aI; subst bg aI; exact h
  | succ k=>exact aS k a b (by simpa using bg) (by simpa using aI)
theorem View.rM {xs ys:List ag}(h:pr g xs ys):View g (.agg xs) (.agg ys):=.agg h.len h.get
class p1 (x:ag):Prop where kS:kg x
class jH (cs:List ag):Prop where kS:∀ x∈cs,kg x
class lD (e:cx α):Prop where kS:∀ a,jH (e.cells a)
instance {v:Value}:p1 (.lit v):=⟨.lit⟩
instance:p1 .aJ:=⟨.aJ⟩
instance:jH []:=⟨by simp⟩
instance {x:ag}{xs:List ag} [h:p1 x] [aT:jH xs]:jH (x::xs):=⟨λy ay=>by
 rcases List.mem_cons.1 ay with rfl | ay
 ·exact h.kS
 ·exact aT.kS y ay⟩
instance {e:cx α}{L:List α} [h:lD e]:jH (cf e L):=⟨λx J=>by
 obtain ⟨a,_,bg⟩:=List.mem_flatMap.1 J
 exact (h.kS a).kS x bg⟩
instance {z n:Nat}{cs:List ag} [h:jH cs]:p1 (.own z n cs):=⟨.own h.kS⟩
instance {cs:List ag} [h:jH cs]:p1 (.obj cs):=⟨.obj h.kS⟩
instance {cs:List ag} [h:jH cs]:p1 (.agg cs):=⟨.agg h.kS⟩
instance {cs:List ag} [h:jH cs]:p1 (.cw cs):=⟨.cw h.kS⟩
instance {e:cx α}{a:α} [h:lD e]:jH (e.cells a):=h.kS a
instance:lD aL:=⟨λa=>(inferInstance:jH [j a])⟩
instance:lD nw:=⟨λa=>(inferInstance:jH [lE a])⟩
instance:lD bF:=⟨λa=>(inferInstance:jH [ba a])⟩
instance:lD cr:=⟨λa=>(inferInstance:jH [af a])⟩
instance {e:cx α} [h:lD e]:lD (fa e):=⟨λa=>(inferInstance:jH [ak e a])⟩
theorem Ta {outs:List (Option ag)}{args:List ag}(bf:vt outs=true) (ao:outs.length=args.length):outs=args.map λ_=>none:=by
 apply List.ext_getElem?
 intro k
 rw [List.getElem?_map]
 cases ay:args[k]? with
 | none=>rw [List.getElem?_eq_none (by rw [ao]; exact List.getElem?_eq_none_iff.1 ay)]; rfl
 | some y =>
  have hk:k<outs.length:=by rw [ao]; exact (List.getElem?_eq_some_iff.1 ay).1
  have h1:=List.getElem?_eq_getElem hk
  rw [h1]
  cases al:outs[k] with
  | none=>rfl
  | some x=>rw [al] at h1; exact absurd h1 (CN bf k x)
theorem cu.vw {xs:List Operand}{ir:Array TypeId}{f:FuncId}{ys args:List ag}{outs:List (Option ag)}{res:ag}(J:iz g xs=some ys) (hv:pr g ys args) (iT:b_ P f args outs res) (bj:dw P f=true) (bf:vt outs=true) [aw:p1 res] :
  cu P g (.call { callee:=.value (.func f),args:=xs.toArray,argTypes:=ir }) res:=by
 have e:=Ta bf iT.1
 refine .CG (first:=[]) (caps:=[]) (ys:=ys) (args:=args) rfl (by simpa using J) bj (by simpa using hv.len) (λk x y J ay=>hv.get k x y (by simpa using J) ay) ?_ aw.kS
 rw [<- e]; exact iT
end
end Go.Own
namespace Go.Own
open Go
variable {α β:Type}
section
variable {P:Program}{N:dE}{ops:Array Oper}{g g' g1 g2:aU}{K:aU->Prop}{l:List Oper}{d r:Nat}{op:Op}{ty t t2:TypeId}{pos:String}{after:Array Edge}{ig:Option (Nat × Bool)}{a b c:Operand}{p q:Place}{x y:ag}
variable {cc:List (List Nat)}{g0:aU}{acc:Acc}{i:Nat}
instance {cs cs':List ag} [h:dJ cs cs']:kh (.obj cs) (.bn cs'):=⟨λg=>.obj h.l (h.v g)⟩
instance {cs cs':List ag} [h:dJ cs cs']:kh (.agg cs) (.agg cs'):=⟨λg=>.agg h.l (h.v g)⟩
instance {z n:Nat}{cs cs':List ag} [h:dJ cs cs']:kh (.own z n cs) (.aD z n cs'):=⟨λg=>.own h.l (h.v g)⟩
theorem ar.gq (aF:dr P g op ty y) [aN:cP y] [hv:kh y x] (bY:N.ok d=true) (bj:g d=none) (a7:gv g ops ig) (hk:ar P N ops l (e2 g d x) K):ar P N ops (⟨some d,op,ty,pos,after,ig⟩::l) g K :=
 .xU rfl bY bj (r:=some x) (.inr (.inr ⟨a7.wanted,y,.inl aF,aN.bI,hv.v _⟩)) hk
theorem bV.gq (dp:Nat) (aF:dr P (nN cc g0 dp acc) op ty y) [aN:cP y] [hv:kh y x] (aa:Nat.beq ops.size (dp+l.length+1)=true) (bj:g0 d=none) (oU:acc.all (λe=>!Nat.beq e.2.1 d)=true) (bY:N.ok d=true) (a7:gv (nN cc g0 dp acc) ops ig)
  (hk:bV P N ops cc g0 i ((dp,d,some x)::acc) l K):bV P N ops cc g0 i acc (⟨some d,op,ty,pos,after,ig⟩::l) K :=
 .st dp (r:=some x) rfl (.inr (.inr ⟨a7.wanted,y,.inl aF,aN.bI,hv.v _⟩)) aa bj oU bY hk
inductive oF (ex:List Nat) (g g2:aU):List (Nat × ag)->Prop
 | nil:oF ex g g2 []
 | n {s:Nat}{x:ag}{l:List (Nat × ag)}(ez:ex.elem s=false) (h:g s=some x) [aN:cP x] (t:oF ex g g2 l):oF ex g g2 ((s,x)::l)
 | p {s q k:Nat}{l:List (Nat × ag)}{nt:List ag}(ez:ex.elem s=false) (h:g s=some (.ptr ⟨q,[]⟩ k)) (al:g2 q=some (.obj nt)) (gQ:Nat.blt k nt.length=true) (t:oF ex g g2 l):oF ex g g2 ((s,.ptr ⟨q,[]⟩ k)::l)
 | z {s:Nat}{x y:ag}{l:List (Nat × ag)}(he:ex.elem s=true) (h:g s=some y) [aN:cP y] (hv:jt y x) [J:nU x] (t:oF ex g g2 l):oF ex g g2 ((s,x)::l)
theorem oF.spec {ex:List Nat}{l:List (Nat × ag)}(h:oF ex g g2 l):∀ t x,get l t=some x->((ex.elem t=false/\g t=some x/\eY g2 x)\/(ex.elem t=true/\∃ y,g t=some y/\c' y/\jt y x))/\∀ z p n m new,x≠.b2 z p n m new:=by
 induction h with
 | nil=>intro t x J; cases J
 | @n s x l ez h aN _ aS =>
  intro t y ay; simp only [get] at ay
  split at ay
  ·rename_i e; subst e; cases ay; exact ⟨.inl ⟨ez,h,.bI aN.bI⟩,by rintro z p n m new rfl; cases aN.bI⟩
  ·exact aS t y ay
 | @p s q k l nt ez h al gQ _ aS =>
  intro t y ay; simp only [get] at ay
  split at ay
  ·rename_i e; subst e; cases ay; exact ⟨.inl ⟨ez,h,.ref rfl (tW al (by simpa using gQ))⟩,by simp⟩
  ·exact aS t y ay
 | @z s x y l he h aN hv J _ aS =>
  intro t y' ay; simp only [get] at ay
  split at ay
  ·rename_i e; subst e; cases ay; exact ⟨.inr ⟨he,y,h,aN.bI,hv⟩,J.fP⟩
  ·exact aS t y' ay
theorem oF.tc {ex:List Nat}{G2:List (Nat × ag)}(h:oF ex g (get G2) G2):Dy (λt=>ex.elem t) g (get G2):=by
 refine ⟨λt x J aG=>?_,λt x J aG=>?_,λt z q n m new J=>(h.spec t _ J).2 _ _ _ _ _ rfl⟩
 ·rcases (h.spec t x J).1 with ⟨_,h1,al⟩ | ⟨h1,_⟩
  ·exact ⟨h1,al⟩
  ·rw [h1] at aG; cases aG
 ·rcases (h.spec t x J).1 with ⟨h1,_⟩ | ⟨_,al⟩
  ·rw [h1] at aG; cases aG
  ·exact al
theorem W.fE {cv:Code}{G G1:List (Nat × ag)}{Φ:Exit->aU->Prop}(ex:List Nat) (h:oF ex (get G) (get G1) G1) (hw:W P N cv (get G1) Φ):W P N cv (get G) Φ:=by
 intro Q a w I Fs b1 bY dP
 obtain ⟨I',cq,eD,cd⟩:=b1.tc h.tc
 exact hw eD bY λe g' cy w' he aN=>dP e g' cy w' he (h4.trans rfl hR.refl cd aN)
theorem ar.fE {G1:List (Nat × ag)}(ex:List Nat) (h:oF ex g (get G1) G1) (hk:ar P N ops l (get G1) K):ar P N ops l g K:=by
 intro i hi
 obtain ⟨g',aw,eC⟩:=hk i hi
 exact ⟨g',.tc h.tc aw,eC⟩
theorem Take.pre {xs xs':List ag}:∀ {ps:List ag},(∀ x∈ps,c' x)->Take g xs xs' g'->Take g (ps++xs) (ps++xs') g'
 | [],_,h=>h
 | x::ps,aN,h=>.cons (aN x (by simp)) (Take.pre (ps:=ps) (λy ay=>aN y (List.mem_cons_of_mem _ ay)) h)
inductive iG:aU->List ag->List ag->aU->Prop
 | nil {g:aU}:iG g [] [] g
 | lb {g:aU}{xs:List ag} [aN:eR xs]:iG g xs xs g
 | f {g g':aU}{x:ag}{xs xs':List ag} [aN:cP x] (t:iG g xs xs' g'):iG g (x::xs) (x::xs') g'
 | r {α:Type}{g g':aU}{p:Place}{en:cx α}{L:List α}{xs xs':List ag}(aF:b8 g p=some (ak en L)) (t:iG (c5 g p .dead) xs xs' g'):iG g (.bm en.z p L.length::xs) (ak en L::xs') g'
 | l {g g1 g':aU}{p:Place}{z n:Nat}{cs cs' xs xs':List ag}(aF:b8 g p=some (.own z n cs)) (ao:cs.length=n * z) (h1:iG (c5 g p .dead) cs cs' g1) (t:iG g1 xs xs' g'):iG g (.bm z p n::xs) (.own z n cs'::xs') g'
 | mS {α:Type}{g g1 g':aU}{q:Place}{s m:Nat}{en:cx α}{L:List α}{new da xs xs':List ag}(aP:g s=some (.b2 en.z q L.length m new)) (aF:b8 g q=some (ak en L)) (bP:Nat.beq q.root s=false) (h1:iG (c5 (c5 g ⟨s,[]⟩ .dead) q .dead) new da g1) (t:iG g1 xs xs' g') :
   iG g (.bm en.z ⟨s,[]⟩ (L.length+m)::xs) (.own en.z (L.length+m) (cf en L++da)::xs') g'
 | rM {g g1 g':aU}{cs cs' xs xs':List ag}(h1:iG g cs cs' g1) (t:iG g1 xs xs' g'):iG g (.agg cs::xs) (.agg cs'::xs') g'
 | m {g g':aU}{p:Place}{q:Array MapEntry->Nat->Prop}{xs xs':List ag}(aF:b8 g p=some (.mp q)) (t:iG (c5 g p .dead) xs xs' g'):iG g (.iK p::xs) (.mp q::xs') g'
 | b {g g1 g':aU}{p:Place}{cs cs' xs xs':List ag}(aF:b8 g p=some (.obj cs)) (h1:iG (c5 g p .dead) cs cs' g1) (t:iG g1 xs xs' g'):iG g (.ptr p 0::xs) (.obj cs'::xs') g'
theorem iG.take {xs xs':List ag}(h:iG g xs xs' g'):Take g xs xs' g':=by
 induction h with
 | m aF _ aS=>exact .mp aF (.bI (by simp)) aS
 | nil=>exact .bI (by simp)
 | @lb g xs aN=>exact .bI aN.bI
 | @f g g' x xs xs' aN _ aS=>exact .cons aN.bI aS
 | @r α g g' p en L xs xs' aF _ aS =>
  refine .bm aF (Nat.le_refl _) ?_ aS
  rw [vO]; exact .bI (nJ en L)
 | @l g g1 g' p z n cs cs' xs xs' aF ao _ _ gl gf =>
  refine .bm aF (Nat.le_refl _) ?_ gf
  rw [List.take_of_length_le (by omega)]; exact gl
 | @mS α g g1 g' q s m en L new da xs xs' aP aF bP _ _ gl gf=>exact .b2 aP aF (Nat.ne_of_beq_eq_false bP) (.pre (nJ en L) gl) gf
 | @rM g g1 g' cs cs' xs xs' _ _ gl gf=>exact .agg gl gf
 | @b g g1 g' p cs cs' xs xs' aF _ _ gl gf=>exact .obj aF gl gf
inductive gu:List ag->List ag->Prop
 | nil:gu [] []
 | gZ {xs:List ag}:gu xs xs
 | f {x:ag}{xs ys:List ag}(t:gu xs ys):gu (x::xs) (x::ys)
 | o {z:Nat}{xs ys:List ag}(t:gu xs ys):gu (.aJ::xs) (.own z 0 []::ys)
 | z {x y:ag}{xs ys:List ag} [aN:cP x] [hv:kh x y] (t:gu xs ys):gu (x::xs) (y::ys)
 | g {x y:ag}{xs ys:List ag}(h:jt x y) (t:gu xs ys):gu (x::xs) (y::ys)
theorem gu.len {xs ys:List ag}(h:gu xs ys):ys.length=xs.length:=by
 induction h with
 | nil=>rfl
 | gZ=>rfl
 | f _ aS=>simp [aS]
 | o _ aS=>simp [aS]
 | z _ aS=>simp [aS]
 | g _ _ aS=>simp [aS]
theorem gu.get {xs ys:List ag}(h:gu xs ys):∀ (k:Nat) (x y:ag),xs[k]?=some x->ys[k]?=some y->jt x y:=by
 induction h with
 | nil=>intro k x y J; simp at J
 | gZ=>intro k x y J ay; rw [J] at ay; cases ay; exact .refl
 | @f x xs ys _ aS =>
  intro k a b bg aI
  cases k with
  | zero=>simp at bg aI; subst bg aI; exact .refl
  | succ k=>exact aS k a b (by simpa using bg) (by simpa using aI)
 | @o z xs ys _ aS =>
  intro k a b bg aI
  cases k with
  | zero=>simp at bg aI; subst bg aI; exact .GG
  | succ k=>exact aS k a b (by simpa using bg) (by simpa using aI)
 | @z x y xs ys aN hv _ aS =>
  intro k a b bg aI
  cases k with
  | zero=>simp at bg aI; subst bg aI; exact .qu aN.bI (hv.v _)
  | succ k=>exact aS k a b (by simpa using bg) (by simpa using aI)
 | @g x y xs ys h _ aS =>
  intro k a b bg aI
  cases k with
  | zero=>simp at bg aI; subst bg aI; exact h
  | succ k=>exact aS k a b (by simpa using bg) (by simpa using aI)
theorem gu.pre {xs ys:List ag}(h:gu xs ys):∀ ps:List ag,gu (ps++xs) (ps++ys)
 | []=>h
 | _::ps=>.f (gu.pre h ps)
theorem gu.own {z n:Nat}{xs ys:List ag}(h:gu xs ys):jt (.own z n xs) (.own z n ys):=.own h.len h.get
theorem gu.obj {xs ys:List ag}(h:gu xs ys):jt (.obj xs) (.obj ys):=.obj h.len h.get
theorem gu.agg {xs ys:List ag}(h:gu xs ys):jt (.agg xs) (.agg ys):=.agg h.len h.get
theorem jt.js [aN:cP x] [hv:kh x y]:jt x y:=.qu aN.bI (hv.v _)
theorem cm.Bj {o:Oper}{x:Operand}{y j6 y':ag}{G2:List (Nat × ag)}(bf:o.op=.assign x) (aV:o.dst=some d) (J:Rd g x y) (aG:iG g [y] [j6] g1) (bG:jt j6 y') (eh:Trim false g1 (get G2) G2) (a7:get G2 d=none) (bY:N.ok d=true):cm P N g o (e2 (get G2) d y') :=
 .assign bf aV J.bL aG.take bG eh.keep a7 bY
theorem cm.Ii {o:Oper}{x:Operand}{en:cx α}{L M R:List α}{s m:Nat}{new da:List ag}{G2:List (Nat × ag)}(bf:o.op=.assign x) (aV:o.dst=some d) (J:Rd g x (.bm en.z ⟨s,[]⟩ (L.length+m))) (aP:g s=some (.b2 en.z q L.length m new)) (aF:b8 g q=some (ak en L)) (bP:Nat.beq q.root s=false)
  (h1:iG (c5 (c5 g ⟨s,[]⟩ .dead) q .dead) new da g1) (bG:gu da (cf en M)) (hm:M.length=m) (aw:L++M=R) (eh:Trim false g1 (get G2) G2) (a7:get G2 d=none) (bY:N.ok d=true):cm P N g o (e2 (get G2) d (ak en R)):=by
 subst hm aw
 have aG:=iG.mS (xs:=[]) (xs':=[]) aP aF bP h1 .nil
 rw [<- CO]
 exact .assign bf aV J.bL aG.take (bG.pre _).own eh.keep a7 bY
theorem cm.sK {o:Oper}{k0:Nat}{q0 cs' cs2:List ag}{y j6 y':ag}{G2:List (Nat × ag)}(bf:o.op=.store t a b) (aV:o.dst=none) (bg:Rd g a (.ptr ⟨r,[]⟩ k0)) (aI:Rd g b y) (aG:iG g [y] [j6] g1) (pG:jt j6 y') (ab:qY y'=some cs') (bG:gp P t cs'.length=true)
  (aP:g1 r=some (.obj q0)) (hk:Nat.ble (k0+cs'.length) q0.length=true) (bc:Nat.blt 0 cs'.length=true) (he:fB q0 k0 cs'=cs2) [gY:eR q0] (aw:(get G2 r).isSome=true) (eh:mz g1 (get G2) r cs2 G2):cm P N g o (get G2):=by
 subst he
 refine .store bf aV bg.bL aI.bL aG.take pG ab bG (p:=⟨r,[]⟩) (nd:=.obj q0) (z:=0) (n:=0) (by simp [b8,aP,ag.at]) (.inr rfl) (Nat.le_of_ble_eq_true hk) (by simpa using bc) (λt x J=>?_) (λt x J y ay=>?_) (λt z q n m new J=>?_) (by intro e; rw [e] at aw; cases aw)
 ·rcases eh.spec t x J with ⟨h1,al,_⟩ | ⟨h1,al,_⟩
  ·rw [sE h1]; exact al
  ·subst h1 al; simp [c5,aP,ag.setAt,ag.fB]
 ·rcases eh.spec t x J with ⟨h1,al,aR⟩ | ⟨h1,al,aR⟩
  ·rw [al] at ay; cases ay; exact aR.AG
  ·subst h1
   rw [aP] at ay
   cases ay
   exact .bI (.obj gY.bI)
 ·rcases eh.spec t _ J with ⟨_,_,aR⟩ | ⟨_,al,_⟩
  ·exact aR.fP _ _ _ _ _ rfl
  ·cases al
theorem cm.lW {o:Oper}{k0 s m:Nat}{en:cx α}{L M R:List α}{new da:List ag}{q0 cs2:List ag}{G2:List (Nat × ag)}(bf:o.op=.store t a b) (aV:o.dst=none) (bg:Rd g a (.ptr ⟨r,[]⟩ k0)) (aI:Rd g b (.bm en.z ⟨s,[]⟩ (L.length+m))) (sg:g s=some (.b2 en.z q L.length m new)) (aF:b8 g q=some (ak en L)) (bP:Nat.beq q.root s=false)
  (h1:iG (c5 (c5 g ⟨s,[]⟩ .dead) q .dead) new da g1) (pG:gu da (cf en M)) (hm:M.length=m) (bh:L++M=R) (bG:gp P t 1=true)
  (aP:g1 r=some (.obj q0)) (hk:Nat.ble (k0+1) q0.length=true) (he:fB q0 k0 [ak en R]=cs2) [gY:eR q0] (aw:(get G2 r).isSome=true) (eh:mz g1 (get G2) r cs2 G2):cm P N g o (get G2):=by
 subst hm bh
 have aG:=iG.mS (xs:=[]) (xs':=[]) sg aF bP h1 .nil
 refine .sK (y':=ak en (L++M)) bf aV bg aI aG ?_ rfl bG aP hk rfl he aw eh
 rw [<- CO]; exact (pG.pre _).own
inductive nT (r:Nat) (cs:List ag) (k0:Nat):Nat->List ag->List ag->Prop
 | nil {i:Nat}:nT r cs k0 i [] []
 | b {i:Nat}{xs ys:List ag}(hi:Nat.beq i k0=true) (t:nT r cs k0 (i+1) xs ys):nT r cs k0 i (.ptr ⟨r,[]⟩ 0::xs) (.obj cs::ys)
 | n {i:Nat}{x:ag}{xs ys:List ag}(hi:Nat.beq i k0=false) [aN:cP x] (t:nT r cs k0 (i+1) xs ys):nT r cs k0 i (x::xs) (x::ys)
theorem nT.len {cs:List ag}{k0 i:Nat}{xs ys:List ag}(h:nT r cs k0 i xs ys):ys.length=xs.length:=by
 induction h with
 | nil=>rfl
 | b _ _ aS=>simp [aS]
 | n _ _ aS=>simp [aS]
theorem nT.Tb {cs:List ag}{k0 i:Nat}{xs ys:List ag}(h:nT r cs k0 i xs ys) (hi:k0<i):xs=ys/\∀ x∈xs,c' x:=by
 induction h with
 | nil=>exact ⟨rfl,by simp⟩
 | @b i _ _ h _ _=>have:=Nat.eq_of_beq_eq_true h; omega
 | @n i x xs ys _ aN _ aS =>
  obtain ⟨h1,al⟩:=aS (by omega)
  exact ⟨by rw [h1],oh aN.bI al⟩
theorem nT.take {cs:List ag}{k0 i:Nat}{xs ys:List ag}(h:nT r cs k0 i xs ys) (aP:g r=some (.obj cs)) (aN:∀ x∈cs,c' x):i<=k0->k0<i+xs.length->Take g xs ys (c5 g ⟨r,[]⟩ .dead):=by
 induction h with
 | nil=>intro h1 al; simp at al; omega
 | @b i xs ys hi t _ =>
  intro h1 al
  have:=Nat.eq_of_beq_eq_true hi
  obtain ⟨e,l'⟩:=t.Tb (by omega)
  subst e
  exact .obj (by simp [b8,aP,ag.at]) (.bI aN) (.bI l')
 | @n i x xs ys hi J _ aS =>
  intro h1 al
  have:=Nat.ne_of_beq_eq_false hi
  simp only [List.length_cons] at al
  exact .cons J.bI (aS (by omega) (by omega))
theorem nT.Nt {cs:List ag}{k0 i:Nat}{xs ys:List ag}(h:nT r cs k0 i xs ys):i<=k0->k0<i+xs.length->xs[k0 - i]?=some (.ptr ⟨r,[]⟩ 0):=by
 induction h with
 | nil=>intro h1 al; simp at al; omega
 | @b i xs ys hi _ _=>intro _ _; have:=Nat.eq_of_beq_eq_true hi; subst this; simp
 | @n i x xs ys hi _ _ aS =>
  intro h1 al
  have:=Nat.ne_of_beq_eq_false hi
  simp only [List.length_cons] at al
  have aR:=aS (by omega) (by omega)
  have:k0 - i=(k0 - (i+1))+1:=by omega
  rw [this,List.getElem?_cons_succ]; exact aR
def xv (n k0:Nat) (x:ag):List (Option ag):=(List.range n).map λi=>if i=k0 then some x else none
inductive wc (g:aU) (d r:Nat) (n:Nat) (G4:List (Nat × ag)):List (Nat × ag)->Prop
 | nil:wc g d r n G4 []
 | c {s k:Nat}{l:List (Nat × ag)}(h:g s=some (.ptr ⟨r,[]⟩ k)) (hk:Nat.blt k n=true) (aV:Nat.beq s d=false) (b3:get G4 s=none) (t:wc g d r n G4 l):wc g d r n G4 ((s,.ptr ⟨r,[]⟩ k)::l)
theorem BZ {A B:List (Nat × ag)}{t:Nat}:get (A++B) t=match get A t with | some x=>some x | none=>get B t:=by
 induction A with
 | nil=>rfl
 | cons p A aS =>
  obtain ⟨s,x⟩:=p
  show (if t=s then some x else get (A++B) t)=_
  by_cases h:t=s
  ·simp [get,h]
  ·simp only [get,if_neg h]; exact aS
theorem wc.spec {n:Nat}{G4 A:List (Nat × ag)}(h:wc g d r n G4 A):∀ t x,get A t=some x->get G4 t=none/\t≠d/\g t=some x/\∃ k,x=.ptr ⟨r,[]⟩ k/\k<n:=by
 induction h with
 | nil=>intro t x J; cases J
 | @c s k l h hk aV b3 _ aS =>
  intro t x J; simp only [get] at J
  split at J
  ·rename_i e; subst e; cases J; exact ⟨b3,Nat.ne_of_beq_eq_false aV,h,k,rfl,by simpa using hk⟩
  ·exact aS t x J
theorem hQ.nf {o:Oper}{xs:List Operand}{ir:Array TypeId}{f:FuncId}{ys args:List ag}{res:ag}{cs cs':List ag}{k0:Nat}{G2 A:List (Nat × ag)}(bf:o.op=.call { callee:=.value (.func f),args:=xs.toArray,argTypes:=ir }) (aV:o.dst=some d) (J:Own.iz g xs=some ys)
  (aP:g r=some (.obj cs)) [gY:eR cs] (bg:nT r cs k0 0 ys args) (w7:Nat.blt k0 ys.length=true) (iT:b_ P f args (xv args.length k0 (.obj cs')) res) (bj:dw P f=true) [aw:cP res] [KB:eR cs']
  (eh:Trim false (c5 g ⟨r,[]⟩ .dead) (get ((r,.dead)::G2)) G2) (a7:get G2 d=none) (zk:Nat.beq r d=false) (yV:Trim false (get ((r,.obj cs')::G2)) (get ((r,.obj cs')::G2)) G2) (dW:wc g d r cs'.length ((r,.obj cs')::G2) A) (bY:N.ok d=true) :
  hQ P N g o d (get (A++(d,res)::(r,.obj cs')::G2)):=by
 have VH:k0<ys.length:=by simpa using w7
 have zl:r≠d:=Nat.ne_of_beq_eq_false zk
 have r9:args.length=ys.length:=bg.len
 have oV:(xv args.length k0 (.obj cs'))[k0]?=some (some (.obj cs')):=by
  unfold xv
  rw [List.getElem?_map,List.getElem?_range (by omega)]
  simp
 have RL:∀ (k:Nat) (x:ag),(xv args.length k0 (.obj cs'))[k]?=some (some x)->x=.obj cs':=by
  intro k x h
  unfold xv at h
  rw [List.getElem?_map] at h
  cases hk:(List.range args.length)[k]? with
  | none=>rw [hk] at h; cases h
  | some ae =>
   rw [hk] at h
   simp only [Option.map_some,Option.some.injEq] at h
   split at h
   ·exact (Option.some.inj h).symm
   ·cases h
 have Eh:get ((r,ag.dead)::G2) r=some .dead:=by simp [get]
 have vn:gd (c5 g ⟨r,[]⟩ .dead) (get ((r,.dead)::G2)):=by
  refine ⟨λt x h=>?_,λt x h=>?_,λt z q n m new h=>?_⟩
  all_goals
   simp only [get] at h
   split at h
  ·rename_i e; subst e; cases h; simp [c5,aP,ag.setAt]
  ·obtain ⟨⟨y,h1,_,aR⟩,_⟩:=eh.spec t x h; rw [<- aR rfl]; exact h1
  ·cases h; exact .bI .dead
  ·exact (eh.spec t x h).2.1
  ·cases h
  ·exact (eh.spec t _ h).2.2 _ _ _ _ _ rfl
 have put:o8 (get ((r,.dead)::G2)) [(⟨r,[]⟩,.obj cs')]=get ((r,.obj cs')::G2):=by
  funext t
  simp only [o8,c5,get]
  by_cases h:t=r
  ·simp [h,ag.setAt]
  ·simp [h]
 have vo:gd (get ((r,.obj cs')::G2)) (get ((r,.obj cs')::G2)):=by
  refine ⟨λt x h=>h,λt x h=>?_,λt z q n m new h=>?_⟩
  all_goals
   simp only [get] at h
   split at h
  ·cases h; exact .bI (.obj KB.bI)
  ·exact (yV.spec t x h).2.1
  ·cases h
  ·exact (yV.spec t _ h).2.2 _ _ _ _ _ rfl
 refine wi.ok (first:=[]) (caps:=[]) (ys:=ys) (tk:=λ_=>true) (vw:=false) (outs:=xv args.length k0 (.obj cs')) (g1:=c5 g ⟨r,[]⟩ .dead) (g2:=get ((r,.dead)::G2)) (g4:=get ((r,.obj cs')::G2)) (l:=[(⟨r,[]⟩,.obj cs')]) (ks:=λ_=>k0) (xs0:=ys) (xs1:=args) (args:=args) (res:=res) bf aV rfl (by simpa using J)
  ⟨bj,by simp,by simpa using r9,λk x h=>.inl (by simpa using h),bg.take aP gY.bI (Nat.zero_le _) (by omega),vn,λk x y _ ay=>by simpa using ay,iT,by simpa using aw.bI,λk x h=>by rw [RL k x h]; simpa using c'.obj KB.bI,λae p x aa=>?_,by simp,λi ae hi aa _=>by simp at hi aa; omega,by rw [put]; exact vo⟩ ?_ bY ?_
 ·cases ae with
  | succ ae=>simp at aa
  | zero =>
   simp only [List.getElem?_cons_zero,Option.some.injEq,Prod.mk.injEq] at aa
   obtain ⟨rfl,rfl⟩:=aa
   refine ⟨oV,by simp [b8,Eh,ag.at],.inr ⟨cs,?_,by simp [b8,aP,ag.at]⟩⟩
   have:=bg.Nt (Nat.zero_le _) (by omega)
   simpa using this
 ·simp only [get,if_neg (Ne.symm zl)]; exact a7
 ·refine ⟨λt x h=>?_,λt x h=>?_⟩
  ·rw [te] at h
   rw [BZ]
   cases qa:get A t with
   | none=>exact h
   | some y =>
    obtain ⟨h1,al,_⟩:=dW.spec t y qa
    simp only [get,if_neg al] at h
    simp only [get] at h1
    rw [h1] at h; cases h
  ·rw [te]
   rw [BZ] at h
   cases qa:get A t with
   | none=>rw [qa] at h; exact .inl h
   | some y =>
    rw [qa] at h
    cases h
    obtain ⟨h1,al,aR,k,rfl,hk⟩:=dW.spec t x qa
    refine .inr ⟨?_,al,aR,r,k,cs',rfl,zl,?_,hk⟩
    ·simp only [get,if_neg al]; exact h1
    ·simp only [get,if_neg zl,if_true]
end
end Go.Own
namespace Go.Own
open Go
variable {α β:Type}
def BM (k:IntKind):cx Int:=.one (λn=>.lit (.int k n)) λ_=>.lit
instance {k:IntKind}:Flat (BM k):=⟨λ_=>rfl⟩
instance {k:IntKind}:hd (BM k) (BM k):=⟨rfl,λa=>(inferInstance:dJ [.lit (.int k a)] [.lit (.int k a)])⟩
instance {k:IntKind}:lD (BM k):=⟨λa=>(inferInstance:jH [.lit (.int k a)])⟩
instance {cs:List ag}{n:Nat}{x:ag} [h:eR cs] [J:cP x]:eR (cs.set n x):=⟨λy ay=>by
 rcases List.mem_or_eq_of_mem_set ay with aT | aT
 ·exact h.bI y aT
 ·rw [aT]; exact J.bI⟩
instance {x y:ag} [h:cP y]:cP (x.setAt [] y):=⟨by simpa [ag.setAt] using h.bI⟩
def sx (m n:Int):Option Int:=if n=0 then none else some (IntKind.u64.wrap (m.tdiv n))
def sA (m n:Int):Option Int:=if n=0 then none else some (m.tmod n)
inductive kZ:List ag->List ag->Prop
 | nil:kZ [] []
 | f {x:ag}{xs ys:List ag}(t:kZ xs ys):kZ (x::xs) (x::ys)
 | o {z:Nat}{xs ys:List ag}(t:kZ xs ys):kZ (.aJ::xs) (.own z 0 []::ys)
 | i {z:Nat}{xs ys:List ag}(t:kZ xs ys):kZ (.aJ::xs) (.aD z 0 []::ys)
theorem kZ.len {xs ys:List ag}(h:kZ xs ys):ys.length=xs.length:=by
 induction h with
 | nil=>rfl
 | f _ aS=>simp [aS]
 | o _ aS=>simp [aS]
 | i _ aS=>simp [aS]
theorem kZ.get {xs ys:List ag}(h:kZ xs ys):∀ (k:Nat) (x y:ag),xs[k]?=some x->ys[k]?=some y->nY x y:=by
 induction h with
 | nil=>intro k x y J; simp at J
 | f _ aS =>
  intro k a b bg aI
  cases k with
  | zero=>simp at bg aI; subst bg aI; exact .refl
  | succ k=>exact aS k a b (by simpa using bg) (by simpa using aI)
 | o _ aS =>
  intro k a b bg aI
  cases k with
  | zero=>simp at bg aI; subst bg aI; exact .o4
  | succ k=>exact aS k a b (by simpa using bg) (by simpa using aI)
 | i _ aS =>
  intro k a b bg aI
  cases k with
  | zero=>simp at bg aI; subst bg aI; exact .xq
  | succ k=>exact aS k a b (by simpa using bg) (by simpa using aI)
theorem kZ.obj {xs ys:List ag}(h:kZ xs ys):nY (.obj xs) (.obj ys):=.obj h.len h.get
section
variable {P:Program}{N:dE}{ops:Array Oper}{g g' g1 g2:aU}{K:aU->Prop}{l:List Oper}{d r:Nat}{op:Op}{ty t t2:TypeId}{pos:String}{after:Array Edge}{ig:Option (Nat × Bool)}{a b c:Operand}{p q:Place}{x y:ag}{k:IntKind}{m n:Int}
variable {cc:List (List Nat)}{g0:aU}{acc:Acc}{i:Nat}
def xo:List Nat->Bool
 | []=>true
 | x::l=>l.all (λy=>!Nat.beq x y)&&xo l
theorem GD:∀ {l:List Place},xo (l.map Place.root)=true->l.Nodup
 | [],_=>List.nodup_nil
 | p::l,h=>by
  simp only [List.map_cons,xo,Bool.and_eq_true,List.all_eq_true] at h
  refine List.nodup_cons.2 ⟨λhm=>?_,GD h.2⟩
  have:=h.1 p.root (List.mem_map.2 ⟨p,hm,rfl⟩)
  simp at this
theorem bV.jI (dp:Nat) {G G2:List (Nat × ag)}{o:Oper}(he:cm P N (ed (get G) (λ_=>true) acc) o (get G2)) (a7:o.guard=none) (hS:xo ((acc.filterMap mr).map Place.root)=true) (ji:su G=true) (aa:Nat.beq ops.size (dp+l.length+1)=true)
  (bg:(List.range dp).all (λk=>(cc.getD dp []).contains k)=true) (aI:(List.range ops.size).all (λk=>Nat.ble k dp||(cc.getD k []).contains dp)=true) (hk:bV P N ops cc (get G2) (dp+1) [] l K):bV P N ops cc (get G) i acc (o::l) K:=by
 intro ek ae c6 oW oR
 have:=BL oR aa
 subst this
 obtain ⟨h1,al⟩:=drop_cons oR
 obtain ⟨g',aw,eC⟩:=hk [] (ae+1) .nil .nil al
 refine ⟨g',.Iv c6 oW (GD hS) (zP ji) h1 ?_ he bg ?_ aw,eC⟩
 ·unfold iP; rw [a7]
 ·refine List.all_eq_true.2 λk hk=>?_
  have:=List.all_eq_true.1 aI k hk
  simp only [Bool.or_eq_true,decide_eq_true_eq,Nat.ble_eq] at this ⊢
  exact this
theorem bV.bv (dp:Nat) {G G2:List (Nat × ag)}{o:Oper}{x:ag}(he:cm P N (ed (get G) (λ_=>true) acc) o (e2 (get G2) d x)) (a7:o.guard=none) (hS:xo ((acc.filterMap mr).map Place.root)=true) (ji:su G=true) (aa:Nat.beq ops.size (dp+l.length+1)=true)
  (bg:(List.range dp).all (λk=>(cc.getD dp []).contains k)=true) (aI:(List.range ops.size).all (λk=>Nat.ble k dp||(cc.getD k []).contains dp)=true) (hk:bV P N ops cc (get ((d,x)::G2)) (dp+1) [] l K):bV P N ops cc (get G) i acc (o::l) K :=
 .jI dp (te ▸ he) a7 hS ji aa bg aI hk
class uo (s:Nat) (g:aU):Prop where fP:∀ t,t≠s->∀ z q n m new,g t≠some (.b2 z q n m new)
instance (priority:=low) {s:Nat}{g:aU} [h:p0 g]:uo s g:=⟨λt _=>h.fP t⟩
instance {s:Nat}{g:aU}{x:ag} [h:uo s g]:uo s (e2 g s x):=⟨λt aG z q n m new e=>by
 unfold e2 at e
 rw [if_neg aG] at e
 exact h.fP t aG _ _ _ _ _ e⟩
instance {s d:Nat}{g:aU}{x:ag} [h:uo s g] [J:nU x]:uo s (e2 g d x):=⟨λt aG z q n m new e=>by
 unfold e2 at e
 split at e
 ·cases e; exact J.fP _ _ _ _ _ rfl
 ·exact h.fP t aG _ _ _ _ _ e⟩
class wy (s:Nat) (acc:Acc):Prop where fP:∀ e∈acc,e.2.1≠s->∀ z q n m new,e.2.2≠some (.b2 z q n m new)
instance {s:Nat}:wy s []:=⟨by simp⟩
instance {s ae d:Nat}{x:ag}{acc:Acc} [J:nU x] [h:wy s acc]:wy s ((ae,d,some x)::acc):=⟨λe he aP z q n m new b9=>by
 rcases List.mem_cons.1 he with rfl | he
 ·exact J.fP z q n m new (Option.some.inj b9)
 ·exact h.fP e he aP z q n m new b9⟩
instance {s ae:Nat}{x:Option ag}{acc:Acc} [h:wy s acc]:wy s ((ae,s,x)::acc):=⟨λe he aP z q n m new b9=>by
 rcases List.mem_cons.1 he with rfl | he
 ·exact absurd rfl aP
 ·exact h.fP e he aP z q n m new b9⟩
instance {s:Nat}{G:List (Nat × ag)}{A:Nat->Bool}{acc:Acc} [a7:p0 (get G)] [h:wy s acc]:uo s (ed (get G) A acc):=⟨λt aG z q n m new e=>by
 rcases sO e with ⟨cQ,he,h1,_,al⟩ | ⟨_,al⟩
 ·exact h.fP cQ he (by rw [h1]; exact aG) _ _ _ _ _ al
 ·exact a7.fP _ _ _ _ _ _ al⟩
namespace O
theorem sx {r:Int}(J:Rd g a (.lit (.int .u64 m))) (ay:Rd g b (.lit (.int .u64 n))) (h:Own.sx m n=some r):dr P g (.binOp .quo t a b t2) ty (.lit (.int .u64 r)):=by
 unfold Own.sx at h
 split at h
 ·cases h
 ·cases h; exact .fk (.quo J ay (by assumption))
theorem sA {r:Int}(J:Rd g a (.lit (.int .u64 m))) (ay:Rd g b (.lit (.int .u64 n))) (h:Own.sA m n=some r):dr P g (.binOp .rem t a b t2) ty (.lit (.int .u64 r)):=by
 unfold Own.sA at h
 split at h
 ·cases h
 ·cases h; exact .fk (.rem J ay (by assumption))
theorem Eg {L:List Int}(J:Rd g a (.aD nw.z L.length (cf nw L))) (aG:uy P t t2=true):dr P g (.convert t t2 a) ty (af (strOfNums L)):=by
 have h:=J.bL
 rw [LS] at h
 exact .fk (.BI h aG)
theorem oK {e hU:Nat}{parts:Array (Nat × Operand)}{ys cs:List ag}{z:Nat}(aG:fm P t e z=true) (J:iz g (parts.toList.map (·.2))=some ys) (ab:oJ ys=some cs) (bG:ys.all (λy=>match lF y with | some c=>Nat.beq c.length z | none=>false)=true)
  (aF:parts.toList=(parts.toList.map (·.2)).mapIdx (λi x=>(i,x))) (aN:(parts.toList.map (·.2)).length=hU) (hzero:jT P e z=true) (aI:Nat.ble (hU * z) 16777216=true) (cX:Nat.ble hU 16777216=true):dr P g (.buildSlice t hU parts) ty (.own z hU cs):=by
 subst aN
 exact .qy (.buildSlice aG aF J (λy ay=>by
  have:=List.all_eq_true.1 bG y ay
  cases fq:lF y with
  | none=>rw [fq] at this; cases this
  | some c=>rw [fq] at this; exact ⟨c,rfl,Nat.eq_of_beq_eq_true this⟩) ab (Nat.le_of_ble_eq_true aI) (Nat.le_of_ble_eq_true cX) (.inr (HJ hzero)))
theorem Mh {z m:Nat}{cs:List ag}(bP:b8 g q=some (.own z m cs)) (ao:cs.length=m * z) (bj:cs.all lj=true):Src g (.bm z q m) z m cs:=by
 have:=Src.bm (g:=g) (m:=m) bP (Nat.le_refl _)
 rw [List.take_of_length_le (by omega),yN (q:=λi=>_) bj] at this
 exact this
theorem wF {en:cx α}{L M r:List α}{e j8 m:Nat}{cs:List ag}(aP:Rd g a (.bm en.z p L.length)) (aF:b8 g p=some (ak en L)) (J:Rd g b (.bm en.z q m)) (bP:b8 g q=some (.own en.z m cs)) (ao:cs.length=m * en.z) (bj:cs.all lj=true) (hm:M.length=m) (aG:iQ P t e en.z j8=true) (aI:Nat.ble j8 128=true) (h:eo L M=some r) [gY:p0 g] :
  dr P g (.call { callee:=.builtin .append,args:=#[a,b],argTypes:=#[t,t] }) ty (.b2 en.z p L.length m cs):=by
 subst hm
 obtain ⟨h1,al,_⟩:=yf h aI
 exact .lx (.grow aP.bL (.inl ⟨_,aF⟩) (λt cG cT b7 da e=>gY.fP _ _ _ _ _ _ e) J.bL (Mh bP ao bj) aG h1 al)
theorem Ic {en:cx α}{L M M2 r:List α}{y:ag}{e j8 s:Nat}(aP:Rd g a (.bm en.z ⟨s,[]⟩ (L.length+M.length))) (sg:g s=some (.b2 en.z q L.length M.length (cf en M))) (aF:b8 g q=some (ak en L)) (J:Rd g b y) (hm:qR g en y M2) (aG:iQ P t e en.z j8=true) (aI:Nat.ble j8 128=true) (h:eo (L++M) M2=some r) [gY:uo s g] :
  dr P g (.call { callee:=.builtin .append,args:=#[a,b],argTypes:=#[t,t] }) ty (.b2 en.z ⟨s,[]⟩ (L.length+M.length) M2.length (cf en M2)):=by
 obtain ⟨h1,al,_⟩:=yf h aI
 rw [List.length_append] at h1 al
 refine .lx (.grow aP.bL (.inr ⟨rfl,q,L.length,M.length,cf en M,_,sg,rfl,aF⟩) (λt cG cT b7 da e=>?_) J.bL hm.src aG h1 al)
 by_cases KP:t=s
 ·subst KP
  rw [sg] at e
  simp only [Option.some.injEq,ag.b2.injEq] at e
  have bP:=e.2.1
  subst bP
  simp [b8,sg,ag.at] at aF
 ·exact gY.fP t KP _ _ _ _ _ e
theorem Le {en:cx α}{z0:α}{r:List α}{e j8:Nat}{ei:Value}(aG:fm P t e en.z=true) (J:Rd g a (.lit (.int k m))) (ay:Rd g b (.lit (.int .i64 m))) (hzero:(P.info? e).bind (·.zero)=some ei) (h1:ei.cells.toList.all Value.oneCell'=true) (hK:(en.cells z0).length=ei.cells.size) (Re:∀ (k:Nat) (u:Value) (x:ag),ei.cells[k]?=some u->(en.cells z0)[k]?=some x->x=nG u\/(nG u=.aJ/\∃ cG,x=.aD cG 0 [])) (h:og m z0=some r) (jY:(P.info? e).map (·.bytes)=some j8) (aI:Nat.ble j8 128=true) :
  dr P g (.makeSlice t a b) ty (ak en r):=by
 unfold og at h
 split at h
 ·rename_i hm
  have RA:lim=1099511627776:=rfl
  have ko:=Nat.le_of_ble_eq_true aI
  obtain ⟨ae,rfl⟩:=Int.eq_ofNat_of_zero_le hm.1
  cases h
  have aa:ae<=1099511627776:=by omega
  have gh:ei.cells.size=en.z:=by rw [<- hK,en.len]
  have:=oz.makeSlice (P:=P) (ty:=ty) aG J.bL ay.bL hzero (by rw [<- Array.all_toList]; exact h1) gh jY (by
   calc ae * j8<=1099511627776 * 128:=Nat.mul_le_mul aa ko
    _=140737488355328:=by decide) (by omega) hK Re
  have dn:(List.replicate ae (en.cells z0)).flatten=cf en (List.replicate ae z0):=by simp [cf,List.flatMap_def]
  unfold ak
  rw [Int.toNat_natCast,List.length_replicate,<- dn]
  exact .qy this
 ·cases h
theorem mk {en:cx α}{z0:α}{r:List α}{e j8:Nat}{ei:Value}(aG:fm P t e en.z=true) (J:Rd g a (.lit (.int k m))) (ay:Rd g b (.lit (.int .i64 m))) (hzero:(P.info? e).bind (·.zero)=some ei) (h1:ei.cells.toList.all Value.oneCell'=true) (ab:ei.cells.toList.map nG=en.cells z0) (h:og m z0=some r) (jY:(P.info? e).map (·.bytes)=some j8) (aI:Nat.ble j8 128=true) :
  dr P g (.makeSlice t a b) ty (ak en r):=by
 refine Le aG J ay hzero h1 (by rw [<- ab,List.length_map]; simp) (λk u x hu J=>.inl ?_) h jY aI
 rw [<- ab,List.getElem?_map] at J
 have:ei.cells.toList[k]?=some u:=by simpa using hu
 rw [this] at J
 exact (Option.some.inj J).symm
theorem S8 {e:cx β}{r:List (List β)}{m:Int}{k:IntKind}{a b:Operand}{t ty:TypeId}{yw j8:Nat}{ei:Value}(aG:fm P t yw (b5 e).z=true) (J:Rd g a (.lit (.int k m))) (ay:Rd g b (.lit (.int .i64 m))) (hzero:(P.info? yw).bind (·.zero)=some ei) (h1:ei.cells.toList.all Value.oneCell'=true) (ab:ei.cells.toList.map nG=[.aJ]) (h:og m ([]:List β)=some r) (jY:(P.info? yw).map (·.bytes)=some j8) (aI:Nat.ble j8 128=true) :
  dr P g (.makeSlice t a b) ty (ak (b5 e) r):=by
 refine Le aG J ay hzero h1 ?_ (λk u x hu J=>.inr ?_) h jY aI
 ·have:=congrArg List.length ab
  rw [List.length_map] at this
  rw [(b5 e).len]
  show 1=_
  simpa using this.symm
 ·have ao:=congrArg List.length ab
  rw [List.length_map] at ao
  have hk:k=0:=by
   have:=(Array.getElem?_eq_some_iff.1 hu).1
   simp at ao
   omega
  subst hk
  have fG:ei.cells.toList[0]?=some u:=by simpa using hu
  have al:=congrArg (λl=>l[0]?) ab
  simp only [List.getElem?_map,fG,Option.map_some] at al
  have al:=Option.some.inj al
  refine ⟨al,e.z,?_⟩
  have J:([aj e []]:List ag)[0]?=some x:=J
  have:x=aj e []:=(Option.some.inj J).symm
  rw [this]; rfl
theorem S6 (J:Rd g a (j m)) (ay:Rd g b (j n)):dr P g (.call { callee:=.builtin .min,args:=#[a,b],argTypes:=#[t,t2] }) ty (j (min m n)):=.fk (.lits (vs:=[.int .i64 m,.int .i64 n]) (by simp [J.bL,ay.bL]) rfl λw cs=>by
 have:(if n<m then n else m)=min m n:=by omega
 simp [builtin,Builtin.min_,Builtin.min2,this])
end O
theorem G' (en:cx α) {L:List α}{y y2:α}{o:Nat}{cs':List ag}(h:idx L m=some y) (he:fB (en.cells y) o cs'=en.cells y2) (hlen:o+cs'.length<=en.z):fB (cf en L) (m.toNat * en.z+o) cs'=cf en (L.set m.toNat y2):=by
 obtain ⟨bc,h1,al⟩:=pM h
 have bd:m.toNat<L.length:=(List.getElem?_eq_some_iff.1 al).1
 have ay:L[m.toNat]=y:=(List.getElem?_eq_some_iff.1 al).2
 have dn:cf en L=cf en (L.take m.toNat)++(en.cells y++cf en (L.drop (m.toNat+1))):=by
  have:=congrArg (cf en) (List.take_append_drop m.toNat L).symm
  rw [vN,List.drop_eq_getElem_cons bd,ay] at this
  rw [this]; simp [cf]
 have cZ:cf en (L.set m.toNat y2)=cf en (L.take m.toNat)++(en.cells y2++cf en (L.drop (m.toNat+1))):=by
  have:L.set m.toNat y2=L.take m.toNat++y2::L.drop (m.toNat+1):=by
   rw [List.set_eq_take_append_cons_drop,if_pos bd]
  rw [this,vN]; simp [cf]
 have ao:(cf en (L.take m.toNat)).length=m.toNat * en.z:=by rw [nI,List.length_take]; congr 1; omega
 rw [dn,cZ,<- he]
 unfold fB
 generalize cf en (L.take m.toNat)=A at *
 generalize cf en (L.drop (m.toNat+1))=B at *
 rw [<- ao]
 have Ct:=en.len y
 rw [List.take_append,List.take_of_length_le (by omega),show A.length+o - A.length=o by omega,List.take_append_of_le_length (by omega)]
 rw [List.drop_append,List.drop_eq_nil_of_le (by omega),show A.length+o+cs'.length - A.length=o+cs'.length by omega,List.drop_append_of_le_length (by omega)]
 simp
theorem Eo {en:cx α}{L:List α}{i:Int}{off:Nat}{y:α}(h:idx L i=some y) (bf:Nat.blt off en.z=true):i.toNat * en.z+off<(cf en L).length:=by
 obtain ⟨tT,jQ,_⟩:=pM h
 have ma:off<en.z:=by simpa using bf
 rw [nI]
 have al:i.toNat+1<=L.length:=by omega
 calc i.toNat * en.z+off<i.toNat * en.z+en.z:=by omega
  _=(i.toNat+1) * en.z:=by rw [Nat.add_mul]; omega
  _<=L.length * en.z:=Nat.mul_le_mul_right _ al
theorem nb {L:List α}{i:Int}{y y2:α}(h:idx L i=some y):idx (L.set i.toNat y2) i=some y2:=by
 obtain ⟨tT,jQ,_⟩:=pM h
 have:i.toNat<L.length:=by omega
 simp [idx,tT,this]
inductive nR (g g2:aU):ag->Prop
 | mk {α:Type}{en:cx α}{L HW:List α}{r ae off:Nat}{i:Int}{y y2:α}(h1:b8 g ⟨r,[ae]⟩=some (ak en L)) (hi:idx L i=some y) (al:b8 g2 ⟨r,[ae]⟩=some (ak en HW)) (y9:idx HW i=some y2) (bf:Nat.blt off en.z=true):nR g g2 (.ptr ⟨r,[ae]⟩ (i.toNat * en.z+off))
theorem nR.Ln {x:ag}(h:nR g g2 x):hc g x:=by
 cases h with
 | mk h1 hi al y9 bf=>exact ⟨_,h1,_,_,_,.inl rfl,Eo hi bf⟩
theorem nR.GJ {x:ag}(h:nR g g2 x):hc g2 x:=by
 cases h with
 | mk h1 hi al y9 bf=>exact ⟨_,al,_,_,_,.inl rfl,Eo y9 bf⟩
theorem nR.bp {x:ag}(h:nR g g2 x):eY g2 x:=by
 have:=h.GJ
 cases h with
 | mk=>exact .ref rfl this
theorem nR.fP {x:ag}(h:nR g g2 x):∀ z p n m new,x≠.b2 z p n m new:=by
 cases h with
 | mk=>simp
theorem nR.clear {x:ag}{k0 m0:Nat}(h:nR g g2 x) (aF:p.path≠[]):Clear p k0 m0 x:=by
 cases h with
 | mk =>
  intro q bP _ ae e5 e
  simp only [xP,Option.some.injEq] at bP
  subst bP
  cases Ck:p.path with
  | nil=>exact absurd Ck aF
  | cons a b=>rw [Ck] at e; simp at e
inductive kY (g g2:aU) (r:Nat) (x2:ag):List (Nat × ag)->Prop
 | nil:kY g g2 r x2 []
 | n {s:Nat}{x:ag}{l:List (Nat × ag)}(ez:Nat.beq s r=false) (h:g s=some x) [aN:cP x] (t:kY g g2 r x2 l):kY g g2 r x2 ((s,x)::l)
 | p {s q k:Nat}{l:List (Nat × ag)}{cs nt:List ag}(ez:Nat.beq s r=false) (h:g s=some (.ptr ⟨q,[]⟩ k)) (h1:g q=some (.obj cs)) (hk:Nat.blt k cs.length=true) (al:g2 q=some (.obj nt)) (gQ:Nat.blt k nt.length=true) (t:kY g g2 r x2 l):kY g g2 r x2 ((s,.ptr ⟨q,[]⟩ k)::l)
 | e {s:Nat}{x:ag}{c2:List ag}{l:List (Nat × ag)}(ez:Nat.beq s r=false) (h:g s=some x) (he:nR g g2 x) (ho:x2=.obj c2) (t:kY g g2 r x2 l):kY g g2 r x2 ((s,x)::l)
 | w {α:Type}{s q:Nat}{en:cx α}{L:List α}{l:List (Nat × ag)}(ez:Nat.beq s r=false) (h:g s=some (.bm en.z ⟨q,[]⟩ L.length)) (h1:g q=some (ak en L)) (al:g2 q=some (ak en L)) (t:kY g g2 r x2 l):kY g g2 r x2 ((s,.bm en.z ⟨q,[]⟩ L.length)::l)
 | b {l:List (Nat × ag)}{x:ag}(e:x=x2) [aN:cP x2] (t:kY g g2 r x2 l):kY g g2 r x2 ((r,x)::l)
theorem kY.spec {x2:ag}{l:List (Nat × ag)}(h:kY g g2 r x2 l):∀ t x,get l t=some x->(t≠r/\g t=some x/\(oC g g2 x\/nR g g2 x/\∃ c2,x2=.obj c2))\/(t=r/\x=x2/\c' x):=by
 induction h with
 | nil=>intro t x J; cases J
 | @n s x l ez h aN _ aS =>
  intro t y ay; simp only [get] at ay
  split at ay
  ·rename_i e; subst e; cases ay; exact .inl ⟨Nat.ne_of_beq_eq_false ez,h,.inl (.n aN.bI)⟩
  ·exact aS t y ay
 | @p s q k l cs nt ez h h1 hk al gQ _ aS =>
  intro t y ay; simp only [get] at ay
  split at ay
  ·rename_i e; subst e; cases ay; exact .inl ⟨Nat.ne_of_beq_eq_false ez,h,.inl (.p h1 (by simpa using hk) al (by simpa using gQ))⟩
  ·exact aS t y ay
 | @e s x c2 l ez h he ho _ aS =>
  intro t y ay; simp only [get] at ay
  split at ay
  ·rename_i e; subst e; cases ay; exact .inl ⟨Nat.ne_of_beq_eq_false ez,h,.inr ⟨he,_,ho⟩⟩
  ·exact aS t y ay
 | @w α s q en L l ez h h1 al _ aS =>
  intro t y ay; simp only [get] at ay
  split at ay
  ·rename_i e; subst e; cases ay; exact .inl ⟨Nat.ne_of_beq_eq_false ez,h,.inl (.r h1 (Nat.le_refl _) al (Nat.le_refl _))⟩
  ·exact aS t y ay
 | @b l x e aN _ aS =>
  intro t y ay; simp only [get] at ay
  split at ay
  ·rename_i cQ; subst cQ; cases ay; subst e; exact .inr ⟨rfl,rfl,aN.bI⟩
  ·exact aS t y ay
theorem oC.G9 {x:ag}{k0 m0:Nat}(h:oC g g2 x):j7 (λr=>hc g r/\Clear p k0 m0 r/\hc g2 r) x:=by
 cases h with
 | n h=>exact .bI h
 | p h hk al gQ =>
  refine .ref rfl ⟨tW h hk,?_,tW al gQ⟩
  intro q bP _ ae e5 e
  simp only [xP,Option.some.injEq] at bP
  subst bP
  simp at e
 | r h hk al gQ =>
  refine .ref rfl ⟨AF h hk,?_,AF al gQ⟩
  intro q bP _ ae e5 e
  simp only [xP,Option.some.injEq] at bP
  subst bP
  simp at e
theorem cm.pb {hA:Oper}{en:cx α}{L:List α}{jF y2:α}{o:Nat}{cs':List ag}{x2:ag}{G2:List (Nat × ag)}(bf:hA.op=.store t a b) (aV:hA.dst=none) (bg:Rd g a (.ptr p (m.toNat * en.z+o))) (aI:Rd g b y) (aF:b8 g p=some (ak en L)) (h:idx L m=some jF) (bG:gp P t cs'.length=true)
  (ab:qY y=some cs') (he:fB (en.cells jF) o cs'=en.cells y2) (hlen:Nat.ble (o+cs'.length) en.z=true) (bc:Nat.blt 0 cs'.length=true) (ho:c5 g p (ak en (L.set m.toNat y2)) p.root=some x2) (aw:(get G2 p.root).isSome=true) [aN:cP y] {y0:ag}(vd:g p.root=some y0) [gY:cP y0] (eh:kY g (get G2) p.root x2 G2):cm P N g hA (get G2):=by
 have za:=Nat.le_of_ble_eq_true hlen
 have kO:=G' en h he za
 have Fx:(L.set m.toNat y2).length=L.length:=List.length_set
 refine .store bf aV bg.bL aI.bL (.bI (by simpa using aN.bI)) .refl ab bG (p:=p) (nd:=ak en L) (z:=en.z) (n:=L.length) (cs:=cf en L) aF (.inl rfl) ?_ (by simpa using bc) (λt x J=>?_) (λt x J y ay=>?_) (λt z q n m new J=>?_) (by intro e; rw [e] at aw; cases aw)
 ·obtain ⟨tT,jQ,_⟩:=pM h
  rw [nI]
  have al:m.toNat+1<=L.length:=by omega
  calc m.toNat * en.z+o+cs'.length<=m.toNat * en.z+en.z:=by omega
   _=(m.toNat+1) * en.z:=by rw [Nat.add_mul]; omega
   _<=L.length * en.z:=Nat.mul_le_mul_right _ al
 ·have ga:(ak en L).fB (m.toNat * en.z+o) cs'=ak en (L.set m.toNat y2):=by
   show ag.own en.z L.length (fB (cf en L) (m.toNat * en.z+o) cs')=_
   unfold ak
   rw [kO,Fx]
  rw [ga]
  rcases eh.spec t x J with ⟨h1,al,_⟩ | ⟨h1,al,_⟩
  ·rw [sE h1]; exact al
  ·subst h1 al; exact ho
 ·rcases eh.spec t x J with ⟨h1,al,aR⟩ | ⟨h1,al,aR⟩
  ·rw [al] at ay; cases ay
   rcases aR with aR | ⟨aR,c2,rfl⟩
   ·exact aR.G9
   ·refine j7.ref (by cases aR; rfl) ⟨aR.Ln,aR.clear ?_,aR.GJ⟩
    intro e
    obtain ⟨hq,pp⟩:=p
    simp only at e
    subst e
    simp only [c5,if_true,vd,Option.map_some,ag.setAt,Option.some.injEq] at ho
    cases ho
  ·subst h1; rw [vd] at ay; cases ay; exact .bI gY.bI
 ·rcases eh.spec t _ J with ⟨_,_,aR | ⟨aR,_⟩⟩ | ⟨_,_,aR⟩
  ·exact aR.fP _ _ _ _ _ rfl
  ·exact aR.fP _ _ _ _ _ rfl
  ·cases aR
end
end Go.Own
namespace Go.Own
open Go
theorem NJ (a b:ByteArray):(a == b)=decide (a=b):=by
 obtain ⟨a⟩:=a
 obtain ⟨b⟩:=b
 have:(({ data:=a }:ByteArray) == { data:=b })=(a == b):=rfl
 rw [this,Bool.eq_iff_iff]
 simp
inductive pk where
 | b | s | i (k:IntKind)
 deriving DecidableEq
def mw:Value->Option pk
 | .bool _=>some .b
 | .string _=>some .s
 | .int k _=>some (.i k)
 | _=>none
def yv (P:Program) (rc:TypeId->List pk->Bool):List Field->Nat->List pk->Bool
 | [],_,fu=>fu.isEmpty
 | f :: fs, o, fu => f.name != "_" && f.offset == o && (match P.info? f.type with
   | some i=>i.size<=fu.length&&rc f.type (fu.take i.size)&&yv P rc fs (o+i.size) (fu.drop i.size)
   | none=>false)
def r0 (P:Program):Nat->TypeId->List pk->Bool
 | 0,_,_=>false
 | d+1,t,fu=>match P.underlying t with
  | some .bool=>fu == [.b]&&hr P t
  | some (.int k)=>fu == [.i k]&&hr P t
  | some .string=>fu == [.s]&&hr P t
  | some (.struct fs)=>iH P t fu.length&&!P.stoodInHeld t&&yv P (r0 P d) fs.toList 0 fu
  | _=>false
def Jf:Value->Value->Bool
 | .bool a,.bool b=>a == b
 | .int _ a,.int _ b=>decide (a=b)
 | .string a,.string b=>decide (a=b)
 | _,_=>false
def lH:List Value->List Value->Bool
 | a::dv,b::dF=>Jf a b&&lH dv dF
 | _,_=>true
theorem Jg:∀ (dv dF cs jz:List Value),dv.length=dF.length->lH (dv++cs) (dF++jz)=(lH dv dF&&lH cs jz)
 | [],[],cs,jz,_=>by simp [lH]
 | [],_::_,_,_,h=>by simp at h
 | _::_,[],_,_,h=>by simp at h
 | a::dv,b::dF,cs,jz,h=>by
  simp only [List.cons_append,lH,Jg dv dF cs jz (by simpa using h),Bool.and_assoc]
def pack (P:Program) (t:TypeId) (vs:List Value):Value :=
 match P.underlying t,vs with
 | some (.struct _),_=>.agg vs.toArray
 | _,v::_=>v
 | _,[]=>.agg #[]
theorem L0 {P:Program}{w:World}{t:TypeId}{d:Nat}{fu:List pk}(h:r0 P (d+1) t fu=true) {cs:List Value}{o:Nat}{vs:List Value}(hv:(cs.drop o).take fu.length=vs) (ao:vs.length=fu.length) :
  (part t cs.toArray o).run P w=.ok (pack P t vs) w:=by
 unfold r0 at h
 split at h
 case h_4 fs hu =>
  simp only [Bool.and_eq_true] at h
  obtain ⟨h1,al⟩:=Bk (w:=w) h.1.1
  simp [part,h1,al,pack,hu,<- hv,List.take_drop]
 case h_5=>cases h
 all_goals
  rename_i hu
  simp only [Bool.and_eq_true,beq_iff_eq] at h
  obtain ⟨rfl,ab⟩:=h
  obtain ⟨h1,al⟩:=D5 (w:=w) ab
  obtain ⟨v,rfl⟩:∃ v,vs=[v]:=by
   rcases vs with _ | ⟨v,_ | _⟩ <;> simp at ao
   exact ⟨v,rfl⟩
  have:cs[o]?=some v:=by
   have:=congrArg List.head? hv
   simpa [List.head?_take] using this
  simp [part,h1,pack,hu,this]
theorem Ha {P:Program}(w:World):∀ (d:Nat) (t:TypeId) (fu:List pk),r0 P d t fu=true->∀ (D:Nat),d<=D->∀ (dv dF:List Value),dv.map mw=fu.map some->dF.map mw=fu.map some ->
  (Op.equalIn D t (pack P t dv) (pack P t dF)).run P w=.ok (lH dv dF) w
 | 0,_,_,h,_,_,_,_,_,_=>by simp [r0] at h
 | d+1,t,fu,h,D,pD,dv,dF,bg,aI=>by
  obtain ⟨D,rfl⟩:∃ E,D=E+1:=⟨D - 1,by omega⟩
  have bc:=h
  unfold r0 at h
  split at h
  case h_5=>cases h
  case h_4 fs hu =>
   simp only [Bool.and_eq_true,Bool.not_eq_true'] at h
   obtain ⟨⟨h1,al⟩,aR⟩:=h
   have key:∀ (fs:List Field) (o:Nat) (fu:List pk) (mA mB:List Value),yv P (r0 P d) fs o fu=true->dv.drop o=mA->dF.drop o=mB->mA.map mw=fu.map some->mB.map mw=fu.map some ->
     (forIn (m:=Sem) (β:=Option Bool × Unit) fs (none,()) λf _ =>
      if f.name = "_" then pure (.yield (none, ()))
      else do
       let x <- part f.type dv.toArray f.offset
       let y <- part f.type dF.toArray f.offset
       let c <- Op.equalIn D f.type x y
       if c=false then pure (.done (some false,())) else pure (.yield (none,()))).run P w=.ok (if lH mA mB then (none,()) else (some false,())) w:=by
    intro fs
    induction fs with
    | nil =>
     intro o fu mA mB a7 _ _ bg aI
     have aP:fu=[]:=by simpa [yv] using a7
     subst aP
     have h1:mA=[]:=by simpa using bg
     have al:mB=[]:=by simpa using aI
     subst h1 al
     simp [lH]
    | cons f fs aS =>
     intro o fu mA mB a7 Ca Kc bg aI
     unfold yv at a7
     cases hi:P.info? f.type with
     | none=>simp [hi] at a7
     | some i =>
      simp only [hi,Bool.and_eq_true,bne_iff_ne,beq_iff_eq,decide_eq_true_eq] at a7
      obtain ⟨⟨aN,rfl⟩,⟨hle,he⟩,Cc⟩:=a7
      obtain ⟨e,rfl⟩:∃ e,d=e+1:=by
       cases d with
       | zero=>simp [r0] at he
       | succ e=>exact ⟨e,rfl⟩
      have vq:mA.length=fu.length:=by simpa using congrArg List.length bg
      have V1:mB.length=fu.length:=by simpa using congrArg List.length aI
      have Um:(mA.take i.size).map mw=(fu.take i.size).map some:=by rw [List.map_take,List.map_take,bg]
      have Un:(mB.take i.size).map mw=(fu.take i.size).map some:=by rw [List.map_take,List.map_take,aI]
      have O':(mA.drop i.size).map mw=(fu.drop i.size).map some:=by rw [List.map_drop,List.map_drop,bg]
      have Pa:(mB.drop i.size).map mw=(fu.drop i.size).map some:=by rw [List.map_drop,List.map_drop,aI]
      have lt:(fu.take i.size).length=i.size:=by simp; omega
      have lx:=L0 (w:=w) he (cs:=dv) (o:=f.offset) (vs:=mA.take i.size) (by rw [Ca,lt]) (by simp; omega)
      have Lu:=L0 (w:=w) he (cs:=dF) (o:=f.offset) (vs:=mB.take i.size) (by rw [Kc,lt]) (by simp; omega)
      have En:=Ha w (e+1) f.type _ he D (by omega) _ _ Um Un
      have aS:=aS (f.offset+i.size) (fu.drop i.size) (mA.drop i.size) (mB.drop i.size) Cc (by rw [<- Ca,List.drop_drop]) (by rw [<- Kc,List.drop_drop]) O' Pa
      have sp:lH mA mB=(lH (mA.take i.size) (mB.take i.size)&&lH (mA.drop i.size) (mB.drop i.size)):=by
       have:=Jg (mA.take i.size) (mB.take i.size) (mA.drop i.size) (mB.drop i.size) (by simp; omega)
       rwa [List.take_append_drop,List.take_append_drop] at this
      rw [List.forIn_cons]
      cases ab:lH (mA.take i.size) (mB.take i.size) with
      | false=>simp [aN,lx,Lu,En,ab,sp]
      | true =>
       simp only [ab] at En
       simp [aN,lx,Lu,En,ab,sp]
       simpa using aS
   have hk:=key fs.toList 0 fu dv dF aR rfl rfl bg aI
   unfold Op.equalIn
   simp [pack,hu,run_underlying hu,al]
   rw [<- Array.forIn_toList,hk]
   cases lH dv dF <;> simp
  all_goals
   rename_i hu
   simp only [Bool.and_eq_true,beq_iff_eq] at h
   obtain ⟨rfl,ab⟩:=h
   obtain ⟨a,rfl⟩:∃ v,dv=[v]:=by
    rcases dv with _ | ⟨v,_ | _⟩ <;> simp at bg
    exact ⟨v,rfl⟩
   obtain ⟨b,rfl⟩:∃ v,dF=[v]:=by
    rcases dF with _ | ⟨v,_ | _⟩ <;> simp at aI
    exact ⟨v,rfl⟩
   cases a <;> simp [mw] at bg <;> cases b <;> simp [mw] at aI
   simp [Op.equalIn,pack,hu,run_underlying hu,lH,Jf,bg,aI,NJ] <;> rfl
end Go.Own
namespace Go.Own
open Go
def s_ (P:Program) (t:TypeId) (fu:List pk):Bool :=
 r0 P 100 t fu&&(match P.underlying t with | some (.struct _)=>true | _=>false)&&!P.eqGuardType P.depth t
section
variable {P:Program}{g:aU}{t t2:TypeId}{ty:TypeId}{a b:Operand}
theorem TL {dv dF:List Value}{fu:List pk}(bg:dv.map mw=fu.map some) (aI:dF.map mw=fu.map some) (aG:s_ P t fu=true) (w:World) :
  (do eqGuard .eql t a b (.agg dv.toArray) (.agg dF.toArray); binOp .eql t (.agg dv.toArray) (.agg dF.toArray):Sem Value).run P w=.ok (.bool (lH dv dF)) w:=by
 simp only [s_,Bool.and_eq_true,Bool.not_eq_true'] at aG
 obtain ⟨⟨h1,al⟩,aR⟩:=aG
 have h:=Ha w 100 t fu h1 Op.maxDepth (by decide) dv dF bg aI
 split at al
 ·rename_i fs hu
  simp only [pack,hu] at h
  simp [eqGuard,binOp,aR,Op.equal,h]
 ·cases al
theorem TN {dv dF:List Value}{fu:List pk}(bg:dv.map mw=fu.map some) (aI:dF.map mw=fu.map some) (aG:s_ P t fu=true) (w:World) :
  (do eqGuard .neq t a b (.agg dv.toArray) (.agg dF.toArray); binOp .neq t (.agg dv.toArray) (.agg dF.toArray):Sem Value).run P w=.ok (.bool (!lH dv dF)) w:=by
 simp only [s_,Bool.and_eq_true,Bool.not_eq_true'] at aG
 obtain ⟨⟨h1,al⟩,aR⟩:=aG
 have h:=Ha w 100 t fu h1 Op.maxDepth (by decide) dv dF bg aI
 split at al
 ·rename_i fs hu
  simp only [pack,hu] at h
  simp [eqGuard,binOp,aR,Op.equal,h]
 ·cases al
namespace O
theorem Px {va vb:List Value}{fu:List pk}(J:Rd g a (.agg (va.map .lit))) (ay:Rd g b (.agg (vb.map .lit))) (bg:va.map mw=fu.map some) (aI:vb.map mw=fu.map some) (aG:s_ P t fu=true) :
  dr P g (.binOp .eql t a b t2) ty (ba (lH va vb)):=.fk (.yj J.bL ay.bL rfl λw=>TL bg aI aG w)
theorem Lg {va vb:List Value}{fu:List pk}(J:Rd g a (.agg (va.map .lit))) (ay:Rd g b (.agg (vb.map .lit))) (bg:va.map mw=fu.map some) (aI:vb.map mw=fu.map some) (aG:s_ P t fu=true) :
  dr P g (.binOp .neq t a b t2) ty (ba (!lH va vb)):=.fk (.yj J.bL ay.bL rfl λw=>TN bg aI aG w)
end O
end
end Go.Own
namespace Go.Own
open Go
section
variable {P:Program}{N:dE}{g g2:aU}{d r k0:Nat}{α:Type}
theorem View.om {p:Place}{cs cs':List ag}(aF:b8 g p=some (.obj cs)) (hk:Nat.blt 0 cs.length=true) [h:dJ cs cs']:View g (.ptr p 0) (.bn cs') :=
 .ptr aF (z:=0) (n:=0) (.inr rfl) (by simpa using hk) (by simpa using h.l) λk x y J ay=>h.v g k x y (by simpa using J) ay
theorem eY.el {en:cx α}{L:List α}{ae off:Nat}{i:Int}{y:α}(al:b8 g2 ⟨r,[ae]⟩=some (ak en L)) (hi:idx L i=some y) (bf:Nat.blt off en.z=true):eY g2 (.ptr ⟨r,[ae]⟩ (i.toNat * en.z+off)) :=
 (nR.mk (g:=g2) al hi al hi bf).bp
theorem jP {p:Place}{k:Nat}:∀ z q n m new,ag.ptr p k≠.b2 z q n m new:=by simp
inductive wb (g:aU) (d r k0:Nat) (G4:List (Nat × ag)):List (Nat × ag)->Prop
 | nil:wb g d r k0 G4 []
 | c {α:Type}{en:cx α}{L:List α}{s off:Nat}{i:Int}{y:α}{l:List (Nat × ag)}(h:g s=some (.ptr ⟨r,[k0]⟩ (i.toNat * en.z+off))) (aF:b8 (get G4) ⟨r,[k0]⟩=some (ak en L)) (hi:idx L i=some y) (bf:Nat.blt off en.z=true) (aV:Nat.beq s d=false) (b3:get G4 s=none) (t:wb g d r k0 G4 l):wb g d r k0 G4 ((s,.ptr ⟨r,[k0]⟩ (i.toNat * en.z+off))::l)
theorem wb.spec {G4 l:List (Nat × ag)}(h:wb g d r k0 G4 l):∀ t x,get l t=some x->get G4 t=none/\t≠d/\g t=some x/\∃ m z n cs,x=.ptr ⟨r,[k0]⟩ m/\b8 (get G4) ⟨r,[k0]⟩=some (.own z n cs)/\m<cs.length:=by
 induction h with
 | nil=>intro t x J; cases J
 | @c α en L s off i y l h aF hi bf aV b3 _ aS =>
  intro t x J; simp only [get] at J
  split at J
  ·rename_i e; subst e; cases J; exact ⟨b3,Nat.ne_of_beq_eq_false aV,h,_,_,_,_,rfl,aF,Eo hi bf⟩
  ·exact aS t x J
theorem kY.keep {g':aU}{x2:ag}{G2:List (Nat × ag)}(eh:kY g (get G2) r x2 G2) (h1:∀ t,t≠r->g' t=g t) (al:g' r=some x2):gd g' (get G2):=by
 refine ⟨λt x J=>?_,λt x J=>?_,λt z q n m new J=>?_⟩
 ·rcases eh.spec t x J with ⟨a,b,_⟩ | ⟨rfl,rfl,_⟩
  ·rw [h1 t a]; exact b
  ·exact al
 ·rcases eh.spec t x J with ⟨_,_,aR | ⟨aR,_⟩⟩ | ⟨_,_,aR⟩
  ·exact aR.bp
  ·exact aR.bp
  ·exact .bI aR
 ·rcases eh.spec t _ J with ⟨_,_,aR | ⟨aR,_⟩⟩ | ⟨_,_,aR⟩
  ·exact aR.fP _ _ _ _ _ rfl
  ·exact aR.fP _ _ _ _ _ rfl
  ·cases aR
theorem Mb {cs:List ag}{y x:ag}(h:g r=some (.obj cs)) (hk:cs[k0]?=some x):c5 g ⟨r,[k0]⟩ y r=some (.obj (cs.set k0 y)):=by
 simp [c5,h,ag.setAt,ag.kids,hk,ag.ua]
theorem cm.fy {o:Oper}{y:ag}{cs cs5:List ag}{G1 G4:Value->List (Nat × ag)}{c4:Value->List ag}{G5 A:List (Nat × ag)}(aV:o.dst=some d) (bY:N.ok d=true) (aw:g r=some (.obj cs)) (ay:cs[k0]?=some y) [ve:cP y]
  (h1:∀ v,kY g (get (G1 v)) r (.obj (cs.set k0 (.lit v))) (G1 v)) (ab:∀ v,hQ P N (get (G1 v)) o d (get (G4 v))) (JQ:∀ v,get (G4 v) r=some (.obj (c4 v))) (JP:∀ v,(c4 v)[k0]?=some (.lit v)) (PZ:∀ v,(c4 v).set k0 y=cs5)
  (c3:∀ v,kY (get (G4 v)) (get G5) r (.obj cs5) G5) (P3:b8 (get G5) ⟨r,[k0]⟩=some y) (dW:wb g d r k0 G5 A):cm P N g o (get (A++G5)):=by
 refine .call aV bY (hQ.PM aw ay ve.bI λv hv=>⟨get (G1 v),get (G4 v),get G5,?_,ab v,?_,?_,P3,?_⟩)
 ·exact (h1 v).keep (λt aG=>sE aG) (Mb aw ay)
 ·have:=JQ v
  simp only [b8,this,ag.at,ag.kids,JP v]
 ·refine (c3 v).keep (λt aG=>sE aG) ?_
  rw [Mb (JQ v) (JP v),PZ v]
 ·refine ⟨λt x h=>?_,λt x h=>?_⟩
  ·rw [BZ]
   cases qa:get A t with
   | none=>exact h
   | some z =>
    obtain ⟨jQ,_⟩:=dW.spec t z qa
    rw [jQ] at h; cases h
  ·rw [BZ] at h
   cases qa:get A t with
   | none=>rw [qa] at h; exact .inl h
   | some z =>
    rw [qa] at h
    cases h
    exact .inr (dW.spec t x qa)
end
end Go.Own
namespace Go.Own
open Go
section
variable {P:Program}{N:dE}{ops:Array Oper}{g g1 l6:aU}{K:aU->Prop}{l:List Oper}{d r:Nat}{t:TypeId}{a b:Operand}{x y:ag}
variable {cc:List (List Nat)}{acc:Acc}{i:Nat}
theorem jo {a b:Nat}(h:Nat.blt a b=true):a<b:=by simpa using h
def CJ:Option Nat->Nat->Bool
 | none,_=>true
 | some a,d=>!Nat.beq a d
theorem Lf {o:Option Nat}{d:Nat}(h:CJ o d=true):o≠some d:=by
 rintro rfl
 simp [CJ] at h
inductive wC (P:Program) (N:dE) (ops:Array Oper) (cc:List (List Nat)) (rs:Place->Prop) (l6 g1:aU) (o:Oper) (U:Acc):Acc->Prop
 | nil:wC P N ops cc rs l6 g1 o U []
 | c {k d:Nat}{x:ag}{hA:Oper}{V:Acc}(cd:ye rs l6 g1 o x) (h1:g1 d=none) (ez:CJ o.dst d=true) (bf:ops[k]?=some hA) (Ci:hA.dst=some d) (bY:N.ok d=true) (hw:iP (ed g1 (λm=>(cc.getD k []).contains m) U) ops hA true)
   (aP:dr P (ed g1 (λm=>(cc.getD k []).contains m) U) hA.op hA.type x) (t:wC P N ops cc rs l6 g1 o U V):wC P N ops cc rs l6 g1 o U ((k,d,some x)::V)
theorem wC.spec {o:Oper}{U V:Acc}{rs:Place->Prop}(h:wC P N ops cc rs l6 g1 o U V):∀ e∈V,(∃ x,e.2.2=some x/\ye rs l6 g1 o x)/\(g1 e.2.1=none/\o.dst≠some e.2.1)/\∃ hA,ops[e.1]?=some hA/\hA.dst=some e.2.1/\N.ok e.2.1=true/\oD P (ed g1 (λm=>(cc.getD e.1 []).contains m) U) ops hA e.2.2:=by
 induction h with
 | nil=>intro e he; cases he
 | c cd h1 ez bf Ci bY hw aP _ aS =>
  intro e he
  rcases List.mem_cons.1 he with rfl | he
  ·exact ⟨⟨_,rfl,cd⟩,⟨h1,Lf ez⟩,_,bf,Ci,bY,.inl ⟨hw,.inl aP⟩⟩
  ·exact aS e he
theorem bV.eS (dp:Nat) {G G2:List (Nat × ag)}{U:Acc}{o:Oper}{rs:List Nat}(he:oy P N (sB rs) (ed (get G) (λm=>(cc.getD dp []).contains m) acc) o (get G2)) (lp:rs.all (λr=>(get G r).isSome)=true) (a7:o.guard=none) (hS:xo ((acc.filterMap mr).map Place.root)=true) (ji:su G=true) (aa:Nat.beq ops.size (dp+l.length+1)=true)
  (gO:acc.filter (λe=>!(cc.getD dp []).contains e.1)=U) (ql:wC P N ops cc (sB rs) (ed (get G) (λm=>(cc.getD dp []).contains m) acc) (get G2) o U U)
  (aI:(List.range ops.size).all (λk=>Nat.ble k dp||(cc.getD k []).contains dp)=true) (hk:bV P N ops cc (get G2) (dp+1) U l K):bV P N ops cc (get G) i acc (o::l) K:=by
 intro ek ae c6 oW oR
 have:=BL oR aa
 subst this
 obtain ⟨h1,al⟩:=drop_cons oR
 have l_:∀ e∈U,e∈acc:=λe he=>by rw [<- gO] at he; exact (List.mem_filter.1 he).1
 have EM:my P N ops cc (get G2) (ae+1) U:=⟨λe he=>by have:=(oW.le c6).2 e (l_ e he); omega,λe he=>(ql.spec e he).2.1.1,by rw [<- gO]; exact (List.filter_sublist.map _).nodup (oW.nodup c6),λe he cQ hX h=>oW.uniq c6 (l_ e he) (l_ cQ hX) h,λe he=>(ql.spec e he).2.2⟩
 obtain ⟨g',aw,eC⟩:=hk U (ae+1) EM .nil al
 refine ⟨g',.yh oW (GD hS) (zP ji) h1 ?_ he (λr aw e=>by have:=List.all_eq_true.1 lp r.root aw; rw [e] at this; cases this) gO.symm (λe h=>(ql.spec e h).1) (λe h=>(ql.spec e h).2.1) (λe h=>(ql.spec e h).2.2) ?_ aw,eC⟩
 ·unfold iP; rw [a7]
 ·refine List.all_eq_true.2 λk hk=>?_
  have:=List.all_eq_true.1 aI k hk
  simp only [Bool.or_eq_true,decide_eq_true_eq,Nat.ble_eq] at this ⊢
  exact this
theorem oy.box {o:Oper}{r:Nat}{x:ag}{G1 G2:List (Nat × ag)}(he:cm P N (get G1) o (get G2)) (aw:g r=some x) [J:cP x] (hk:Trim false g (get G1) G1) (bc:get G1 r=none) (h1:get G2 r=none) (aV:CJ o.dst r=true):oy P N (sB [r]) g o (get ((r,x)::G2)):=by
 rw [<- te]
 exact he.nZ.frame aw J.bI hk.keep bc h1 (Lf aV)
theorem cm.dI {o:Oper}{k0:Nat}{cs cs' cs2:List ag}{G2:List (Nat × ag)}(bf:o.op=.store t a b) (aV:o.dst=none) (aP:g r=some (.obj cs)) (bg:Rd g a (.ptr ⟨r,[]⟩ k0)) (aI:Rd g b y) [aN:cP y] (ab:qY y=some cs') (bG:gp P t cs'.length=true)
  (hk:Nat.ble (k0+cs'.length) cs.length=true) (bc:Nat.blt 0 cs'.length=true) (he:fB cs k0 cs'=cs2) [gY:eR cs] (aw:(get G2 r).isSome=true) (eh:mz g (get G2) r cs2 G2):cm P N g o (get G2) :=
 .box bf aV aP bg aI aN.bI ab bG (Nat.le_of_ble_eq_true hk) (by simpa using bc) he (by intro e; rw [e] at aw; cases aw) eh
end
end Go.Own
namespace Go.Own
open Go
section
variable {α:Type}
theorem dJ.app {xs ys xs' AZ:List ag}(h:dJ xs ys) (aT:dJ xs' AZ):dJ (xs++xs') (ys++AZ):=⟨by simp [h.l,aT.l],λg k a b bg aI=>by
 by_cases hk:k<xs.length
 ·rw [List.getElem?_append_left hk] at bg
  rw [List.getElem?_append_left (by rw [h.l]; exact hk)] at aI
  exact h.v g k a b bg aI
 ·rw [List.getElem?_append_right (by omega)] at bg
  rw [List.getElem?_append_right (by rw [h.l]; omega),h.l] at aI
  exact aT.v g _ a b bg aI⟩
instance {e cQ:cx α}{L:List α} [h:hd e cQ]:dJ (cf e L) (cf cQ L):=⟨(AS e cQ L).1,(AS e cQ L).2⟩
theorem kh.G_ {en:cx α}{L:List α}{n:Nat}{cs cs':List ag}(h:cf en L=cs') (ao:L.length=n) [hv:dJ cs cs']:kh (.own en.z n cs) (aj en L):=⟨λg=>by
 subst h ao
 exact .own hv.l (hv.v g)⟩
theorem kh.mS {en rZ:cx α}{L M:List α}{m:Nat}{new da:List ag} [h:hd en rZ] (aN:cf rZ M=da) (hm:M.length=m) [aT:dJ new da]:kh (.own en.z (L.length+m) (cf en L++new)) (aj rZ (L++M)):=⟨λg=>by
 subst aN hm
 have hv:=dJ.app (inferInstance:dJ (cf en L) (cf rZ L)) aT
 show View g (.own en.z (L.length+M.length) (cf en L++new)) (.aD rZ.z (L++M).length (cf rZ (L++M)))
 have e:cf rZ (L++M)=cf rZ L++cf rZ M:=by simp [cf]
 rw [e,List.length_append,<- h.z]
 exact .own hv.l (hv.v g)⟩
end
end Go.Own
namespace Go.Own
open Go
section
variable {α:Type}{g g2:aU}{p q:Place}{P:Program}{a b:Operand}{t:TypeId}{ty:TypeId}
theorem eY.bm {en:cx α}{L:List α}(h:b8 g2 p=some (ak en L)):eY g2 (.bm en.z p L.length):=.ref rfl (.inl ⟨_,_,h,Nat.le_refl _⟩)
namespace O
theorem Nj {en:cx α}{L M r:List α}{e j8 m:Nat}{cs:List ag}(aP:Rd g a (.bm en.z p L.length)) (aF:b8 g p=some (ak en L)) (J:Rd g b (.bm en.z q m)) (bP:b8 g q=some (.own en.z m cs)) (ao:cs.length=m * en.z) (bj:cs.all lj=true) (hm:M.length=m) (aG:iQ P t e en.z j8=true) (aI:Nat.ble j8 128=true) (h:eo L M=some r)
  (gY:∀ t z n m new,g t≠some (.b2 z p n m new)):dr P g (.call { callee:=.builtin .append,args:=#[a,b],argTypes:=#[t,t] }) ty (.b2 en.z p L.length m cs):=by
 subst hm
 obtain ⟨h1,al,_⟩:=yf h aI
 exact .lx (.grow aP.bL (.inl ⟨_,aF⟩) (λt cG cT b7 da e=>gY _ _ _ _ _ e) J.bL (Mh bP ao bj) aG h1 al)
end O
end
end Go.Own
