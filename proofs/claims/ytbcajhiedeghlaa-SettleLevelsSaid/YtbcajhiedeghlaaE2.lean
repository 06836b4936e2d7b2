/-
  What is proved here: parts of the proof that the last text states: rules for walks through code, and of this program's functions what they answer. No condition of their own.
-/
import Derived.RowKit3
import Derived.Test.YtbcajhiedeghlaaE1
namespace Go.Own
open Go
structure gx (g1 g2:aU):Prop where
 sub:∀ t x,g2 t=some x->g1 t=some x
 br:∀ t x,g2 t=some x->eK g2 x
 fF:∀ t z q n m new,g2 t≠some (.b3 z q n m new)
structure dy where
 size:Nat
 pins:List Nat
def dy.ok (N:dy) (d:Nat):Bool:=Nat.blt d N.size&&!N.pins.elem d
def hC (N:dy) (T T':Array Value):Prop:=T'.size=T.size/\∀ t∈N.pins,T'[t]?=T[t]?
theorem hC.refl {N:dy}{T:Array Value}:hC N T T:=⟨rfl,λ_ _=>rfl⟩
theorem hC.trans {N:dy}{T HH HI:Array Value}(h:hC N T HH) (h1:hC N HH HI):hC N T HI:=⟨h1.1.trans h.1,λt aC=>(h1.2 t aC).trans (h.2 t aC)⟩
theorem dy.lt {N:dy}{d:Nat}(h:N.ok d=true):d<N.size:=by
 simp [dy.ok] at h; exact h.1
theorem hC.put {N:dy}{d:Nat}(h:N.ok d=true) (T:Array Value) (v:Value):hC N T (T.setIfInBounds d v):=by
 refine ⟨by simp,λt aC=>?_⟩;rw [Array.getElem?_setIfInBounds_ne];rintro rfl;simp [dy.ok,aC] at h
def hR (N:dy) (a:Act) (w:World) (I:bn) (Fs:Nat->bn) (g':aU) (cx:Act) (w':World):Prop :=
 cx.defers=a.defers/\hC N a.tmps cx.tmps/\∃ I' cn,cV w' I' cx.tmps g' cn/\kt w I (λc=>∃ t,Fs t c) w' I' (λc=>∃ t,cn t c)
theorem tF {cn:Nat->bn}{d:Nat}{F:bn}{c:Nat}(h:∃ t,sr cn d F t c):(∃ t,cn t c)\/F c:=by
 obtain ⟨t,h⟩:=h;unfold sr at h
 split at h
 ·exact .inr h
 ·exact .inl ⟨t,h⟩
structure vM (P:Program) (g:aU) (f:FuncId) (all xs0 xs1 args:List af) (tk:Nat->Bool) (vw:Bool) (g1 g2:aU) (outs:List (Option af)) (res:af) (l:List (Place × af)) (ks:Nat->Nat) (g4:aU):Prop where
 bh:dD P f=true
 zt:xs0.length=all.length
 u2:args.length=all.length
 ba:∀ (k:Nat) (x:af),all[k]?=some x->xs0[k]?=some x\/xs0[k]?=some .dead
 aC:Take g xs0 xs1 g1
 hk:gx g1 g2
 bf:∀ (k:Nat) (x y:af),all[k]?=some x->args[k]?=some y->if tk k then xs1[k]?=some y else vw=true/\View g2 x y
 iR:cf P f args outs res
 av:if vw then ka res else c6 res
 uL:∀ (k:Nat) (x:af),outs[k]?=some (some x)->if vw then ka x else c6 x
 ao:∀ (ae:Nat) (p:Place) (x:af),l[ae]?=some (p,x)->MR g g2 all outs (ks ae) p x
 nd:(l.map (·.1)).Nodup
 inj:∀ i ae,i<l.length->ae<l.length->ks i=ks ae->i=ae
 F7:gx (oY g2 l) g4
section
variable {P:Program}{w:World}{I:bn}{T:Array Value}{g:aU}{Fs:Nat->bn}
theorem jt.keep (h:jt w I T g Fs) {g2:aU}(hk:gx g g2):cV w I T g2 (λt c=>g2 t≠none/\Fs t c) :=
 h.UD hk.sub hk.br λ_ _ _ _ _ _ _ _ _ _ _ h1=>absurd h1 (hk.fF _ _ _ _ _ _)
structure tI (g:aU) (d:Nat) (g4 g5:aU):Prop where
 sub:∀ t x,g4 t=some x->g5 t=some x
 new:∀ t x,g5 t=some x->g4 t=some x\/(g4 t=none/\t≠d/\g t=some x/\∃ r k cs,x=.ptr ⟨r,[]⟩ k/\r≠d/\g4 r=some (.obj cs)/\k<cs.length)
theorem tI.refl {d:Nat}{g4:aU}:tI g d g4 g4:=⟨λ_ _ h=>h,λ_ _ h=>.inl h⟩
theorem cV.back (h:cV w I T g Fs) {w':World}{I':bn}{d:Nat}{v:Value}{g4 g5:aU}{Hy:Nat->bn}(bP:cV w' I' (T.setIfInBounds d v) g4 Hy) (aF:tI g d g4 g5):cV w' I' (T.setIfInBounds d v) g5 Hy:=by
 refine ⟨λt x J=>?_,λt aC c aa=>?_,bP.eT,bP.aD,bP.lt,λt c' z p n m new cD cT b6 c7 h1 ak=>?_⟩
 ·rcases aF.new t x J with aR | ⟨h1,ak,aN,r,k,cs,rfl,cZ,dv,h7⟩
  ·obtain ⟨u,hu,bg⟩:=bP.rel t x aR;exact ⟨u,hu,bP.uw (λ_ _=>rfl) (λ_ _ _=>rfl) (λ_ _=>rfl) (λ_ h=>h) aF.sub bg λ_ _=>rfl⟩
  ·obtain ⟨u,hu,bg⟩:=h.rel t _ aN;obtain ⟨⟨Aw,ad,ar,a2,rfl⟩,_⟩:=(bg.hE (by simp)).mz;have fv:∀ s,s≠d->(T.setIfInBounds d v)[s]?=T[s]?:=λs aL=>by rw [Array.getElem?_setIfInBounds_ne (Ne.symm aL)]
   refine ⟨_,by rw [fv t ak]; exact hu,.tree (.ref rfl ⟨⟨Aw,ad,?_,a2,rfl⟩,?_⟩ (bP.kk t h1))⟩
   ·have:ef w T ⟨r,[]⟩=T[r]?:=by
     unfold ef; simp only; cases T[r]? <;> rfl
    rw [this] at ar;unfold ef;simp only [fv r cZ,ar,walk]
   ·exact ⟨.obj cs,by simp [b9,aF.sub r _ dv,af.at],0,0,cs,.inr rfl,h7⟩
 ·cases aR:g4 t with
  | none=>exact bP.kk t aR c aa
  | some y=>rw [aF.sub t y aR] at aC; cases aC
 ·have:∀ {t z p n m new},g5 t=some (.b3 z p n m new)->g4 t=some (.b3 z p n m new):=by
   intro t z p n m new J;rcases aF.new t _ J with aR | ⟨_,_,_,r,k,cs,e,_⟩
   ·exact aR
   ·cases e
  exact bP.pE t c' z p n m new cD cT b6 c7 (this h1) (this ak)
def hB (P:Program) (N:dy) (g:aU) (o:Oper) (d:Nat) (g5:aU):Prop :=
 ∀ (w:World) (I:bn) (T:Array Value) (Fs:Nat->bn),cV w I T g Fs->∀ (a:Act),a.tmps=T->a.tmps.size=N.size->∀ (K:Act->World->Prop) (Q:Exit->Act->World->Prop),
  (∀ (cx:Act) (w':World) (v:Value) (I':bn) (cn:Nat->bn),cx.defers=a.defers->cx.tmps=T.setIfInBounds d v->cV w' I' (T.setIfInBounds d v) g5 cn->kt w I (λc=>∃ t,Fs t c) w' I' (λc=>∃ t,cn t c)->K cx w')->o.wp P a w K Q
theorem hB.sound {N:dy}{o:Oper}{d:Nat}{g5:aU}(aa:hB P N g o d g5) (je:N.ok d=true) (h:cV w I T g Fs) {a:Act}(bf:a.tmps=T) (bU:a.tmps.size=N.size) {K:Act->World->Prop}{Q:Exit->Act->World->Prop}
  (ep:∀ cx w',hR N a w I Fs g5 cx w'->K cx w'):o.wp P a w K Q :=
 aa w I T Fs h a bf bU K Q λcx w' v I' cn h1 ak aN bP=>ep cx w' ⟨h1,by rw [ak,<- bf]; exact hC.put je _ _,I',cn,by rw [ak]; exact aN,bP⟩
theorem vM.ok {N:dy}{o:Oper}{c:Operand}{xs:Array Operand}{ia:Array TypeId}{d:Nat}{f:FuncId}{first caps ys xs0 xs1 args:List af}{tk:Nat->Bool}{vw:Bool}{g1 g2 g4 g5:aU}{outs:List (Option af)}{res:af}{l:List (Place × af)}{ks:Nat->Nat}
  (bd:o.op=.call { callee:=.value c,args:=xs,argTypes:=ia }) (aV:o.dst=some d) (aa:bI g c=some (.ea (.func f) first caps)) (J:il g xs.toList=some ys)
  (he:vM P g f (first++ys++caps) xs0 xs1 args tk vw g1 g2 outs res l ks g4) (aY:g4 d=none) (je:N.ok d=true) (Q':tI g d (eM g4 d res) g5):hB P N g o d g5:=by
 intro w I T Fs h a bf bU K Q ep;obtain ⟨v1,v2,sZ,ao,nN⟩:=DJ h bf aa J;have hU:(execOp a.eval o).run P w=.ok (.enter f (v1++xs.map a.eval++v2)) w:=by
  simp [execOp,bd,resolve,Deferred.ofValue,sZ,invoke,DK he.bh]
 generalize wW:(v1++xs.map a.eval++v2).toList=vs at *;generalize EM:first++ys++caps=all at *
 -- what is taken
 have sS:Hand w I (fT w T) Fs xs0 vs (λ_=>cR):=by
  refine ⟨by rw [he.zt,ao],λk x u J hu=>?_,λ_ _ _ _ _ h=>h.elim,λ_ _ _ _ h=>h.elim,λ_ _ _ h=>h.elim⟩;have hk:k<all.length:=by rw [<- he.zt]; exact (List.getElem?_eq_some_iff.1 J).1
  have yN:=List.getElem?_eq_getElem hk;rcases he.ba k _ yN with ba | ba
  ·rw [ba] at J; cases J;exact (nN k _ u yN hu).frame (λ_ _=>rfl) (λ_ h=>h) (λ_ _ h=>h.1) λ_ _=>rfl
  ·rw [ba] at J; cases J;exact .dead λ_ h=>h
 obtain ⟨fS,H1,iO,ih,gU⟩:=he.aC.sound h.lP sS;have JP:∀ c,kO fS xs1.length H1 c->∃ t,Fs t c:=by
  intro c aa;rcases gU c aa with aR | ⟨_,_,aR⟩
  ·exact aR
  ·exact aR.elim
 have hS:=iO.keep he.hk;generalize Qn:(λt c=>g2 t≠none/\fS t c)=iI at hS;have JB:∀ t c,iI t c->fS t c:=by intro t c aa; rw [<- Qn] at aa; exact aa.2
 have Fc:xs1.length=all.length:=by rw [he.aC.length,he.zt]
 -- what the callee sees
 let AO:bn:=λc=>I c\/(vw=true/\∃ t,iI t c)
 let vN:Nat->bn:=λt c=>t<all.length/\tk t=true/\H1 t c;have rN:∀ t c,vN t c->(∀ s,¬ iI s c)/\¬ I c/\∃ t,Fs t c:=by
  rintro t c ⟨h1,ak,aN⟩;exact ⟨λs aL=>ih.off t s c (by omega) aN (JB s c aL),ih.aD t c (by omega) aN,JP c (.inr ⟨t,by omega,aN⟩)⟩
 have Kq:∀ (ρ':af->Value->Prop) (k:Nat) (y:af) (u:Value),args[k]?=some y->vs[k]?=some u->R w AO ρ' y u (vN k):=by
  intro ρ' k y u ay hu;have hk:k<all.length:=by rw [<- he.u2]; exact (List.getElem?_eq_some_iff.1 ay).1
  have yN:=List.getElem?_eq_getElem hk;have:=he.bf k _ y yN ay
  split at this
  ·rename_i aC;have l3:c6 y:=he.aC.zJ y (List.mem_of_getElem? this);exact (((ih.rel k y u this hu).bE l3).mB λc aa=>.inl aa).wo λc=>⟨λaa=>⟨hk,aC,aa⟩,λaa=>aa.2.2⟩
  ·rename_i aC;obtain ⟨hv,Sc⟩:=this;have gm:R w I (fT w T) all[k] u cR:=(nN k _ u yN hu).frame (λ_ _=>rfl) (λ_ h=>h) (λ_ _ h=>h.1) λ_ _=>rfl;have:=View.LZ hS.lP Sc gm (λ_ h=>h.elim) ρ';refine (this.mB (I':=AO) λc aa=>?_).wo λc=>⟨λh=>h.elim,λaa=>absurd aa.2.1 aC⟩;rcases aa with aR | aR
   ·exact .inl aR
   ·exact .inr ⟨hv,aR⟩
 have QJ:cV w AO vs.toArray (oe args) vN:=by
  refine ⟨λt x J=>?_,λt aC c aa=>?_,λt c' c aa fa=>ih.eT t c' c (by have:=aa.1; omega) (by have:=fa.1; omega) aa.2.2 fa.2.2,λt c aa hi=>?_,λc aa=>?_,λt c' z p n m new cD cT b6 c7 h1 ak=>?_⟩
  ·have aC:t<args.length:=(List.getElem?_eq_some_iff.1 J).1;have hu:vs[t]?=some (vs[t]'(by rw [<- ao,<- he.u2]; exact aC)):=List.getElem?_eq_getElem _;exact ⟨_,by rw [List.getElem?_toArray]; exact hu,.tree (Kq _ t x _ J hu)⟩
  ·have hle:args.length<=t:=by simpa [oe] using aC
   have:=aa.1; have:=he.u2; omega
  ·obtain ⟨h1,ak,_⟩:=rN t c aa;rcases hi with aR | ⟨_,s,aR⟩
   ·exact ak aR
   ·exact h1 s aR
  ·rcases aa with aR | ⟨_,s,aR⟩
   ·exact h.lt c aR
   ·exact hS.jL s c aR
  ·have aC:t<args.length:=(List.getElem?_eq_some_iff.1 h1).1;have hu:vs[t]?=some (vs[t]'(by rw [<- ao,<- he.u2]; exact aC)):=List.getElem?_eq_getElem _;exact (Kq (λ_ _=>False) t _ _ h1 hu).kI.elim
 have sY:=he.iR.2 w AO vs vN (by rw [<- ao,he.u2]) QJ;unfold Oper.wp Oper.upon;simp only [hU];rw [<- wW,Array.toArray_toList] at sY;refine Calls.mono sY ?_;rintro e w' ⟨v,I',cn,rfl,er,cd⟩;rw [wW] at er;have l0:outs.length=all.length:=by rw [he.iR.1,he.u2]
 have l1:vs.length=all.length:=ao.symm
 -- the blocks behind the call
 have LJ:∀ t c,iI t c->w'.heap[c]?=w.heap[c]?:=λt c aa=>cd.fp.block c (hS.jL t c aa) λ⟨s,aL⟩=>(rN s c aL).1 t aa;have qm:∀ c,I c->w'.heap[c]?=w.heap[c]?:=λc aa=>cd.fp.block c (h.lt c aa) λ⟨s,aL⟩=>(rN s c aL).2.1 aa
 let If:bn:=λc=>if vw then I c else I' c
 have Gn:∀ t c,cn t c->(∃ s,vN s c)\/w.heap.size<=c:=λt c aa=>cd.own c ⟨t,aa⟩;have K6:∀ t c,cn t c->∀ s,¬ iI s c:=by
  intro t c aa s aL;rcases Gn t c aa with ⟨eL,aR⟩ | aR
  ·exact (rN eL c aR).1 s aL
  ·have:=hS.jL s c aL; omega
 have K7:∀ t c,cn t c->¬ If c:=by
  intro t c aa hi;cases vw with
  | true =>
   simp only [If,if_true] at hi;rcases Gn t c aa with ⟨eL,aR⟩ | aR
   ·exact (rN eL c aR).2.1 hi
   ·have:=h.lt c hi; omega
  | false =>
   simp only [If,Bool.false_eq_true,if_false] at hi;exact er.aD t c aa hi
 have JG:∀ c,If c->I c\/(∃ s,vN s c)\/w.heap.size<=c:=by
  intro c aa;cases vw with
  | true=>simp only [If,if_true] at aa; exact .inl aa
  | false =>
   simp only [If,Bool.false_eq_true,if_false] at aa;rcases cd.new c aa with aR | aR | aR
   ·rcases aR with aR | ⟨aR,_⟩
    ·exact .inl aR
    ·cases aR
   ·exact .inr (.inl aR)
   ·exact .inr (.inr aR)
 have JF:∀ c,I c->If c:=by
  intro c aa;cases vw with
  | true=>simp only [If,if_true]; exact aa
  | false=>simp only [If,Bool.false_eq_true,if_false]; exact cd.more c (.inl aa)
 have QF:cV w' If T g2 iI:=by
  have:=hS.world (w':=w') LJ qm cd.fp.size;refine ⟨λt x J=>?_,this.kk,this.eT,λt c aa hi=>?_,λc aa=>?_,this.pE⟩
  ·obtain ⟨v,hv,bg⟩:=this.rel t x J;exact ⟨v,hv,bg.frame (λ_ _=>rfl) JF (λ_ _ h=>h) (λ_ _ _ _ _ _ _=>rfl) λ_ _=>rfl⟩
  ·rcases JG c hi with aR | ⟨s,aR⟩ | aR
   ·exact hS.aD t c aa aR
   ·exact (rN s c aR).1 t aa
   ·have:=hS.jL t c aa; omega
  ·cases vw with
   | true=>simp only [If,if_true] at aa; exact Nat.lt_of_lt_of_le (h.lt c aa) cd.fp.size
   | false=>simp only [If,Bool.false_eq_true,if_false] at aa; exact er.lt c aa
 -- what comes back in the arguments, and the result
 have H7:∀ {x:af}{u:Value}{F:bn}{ρ ρ':af->Value->Prop},R w' I' ρ x u F->(if vw then ka x else c6 x)->R w' If ρ' x u F:=by
  intro x u F ρ ρ' bg J;cases vw with
  | true=>simp only [if_true] at J; exact bg.kJ J
  | false =>
   simp only [Bool.false_eq_true,if_false] at J;refine (bg.bE J).mB λc aa=>?_;simpa [If] using aa
 have zH:∀ {x:af},(if vw then ka x else c6 x)->∀ z p n m new,x≠.b3 z p n m new:=by
  rintro x J z p n m new rfl;cases vw with
  | true=>simp only [if_true] at J; cases J
  | false=>simp only [Bool.false_eq_true,if_false] at J; cases J
 have Tp:∀ (k:Nat) (x:af) (u:Value),outs[k]?=some (some x)->vs[k]?=some u->R w' If (fT w' T) x u (cn k):=by
  intro k x u J hu;have hk:k<outs.length:=(List.getElem?_eq_some_iff.1 J).1;obtain ⟨sq,fw,bg⟩:=er.rel k x (by simp only [nZ,if_neg (Nat.ne_of_lt hk),J]; rfl);have:sq=u:=by
   rw [List.getElem?_toArray,List.getElem?_append_left (by rw [l1,<- l0]; exact hk),hu] at fw;exact (Option.some.inj fw).symm
  subst this;exact H7 (bg.hE (zH (he.uL k x J))) (he.uL k x J)
 obtain ⟨Ha,Cd,nM⟩:=er.rel outs.length res (by simp [nZ]);have R7:Ha=v:=by
  have e:outs.length=vs.length:=by omega
  rw [e] at Cd;simpa using Cd.symm
 subst R7
 -- back into the places
 obtain ⟨vO,EH,BO⟩:=jt.oY (w:=w') (I:=If) (T:=T) l (λae=>cn (ks ae)) (λae=>vs.getD (ks ae) undef) QF.lP he.nd (λae p x ab=>by
   have L:=he.ao ae p x ab;have hk:ks ae<outs.length:=(List.getElem?_eq_some_iff.1 L.out).1;have hu:vs[ks ae]?=some (vs[ks ae]'(by rw [l1,<- l0]; exact hk)):=List.getElem?_eq_getElem _;have s4:vs.getD (ks ae) undef=vs[ks ae]'(by rw [l1,<- l0]; exact hk):=by simp [List.getD,hu]
   refine ⟨L.H3,?_,?_⟩
   ·rw [s4,hS.vC (w':=w') (λ_ _=>rfl) LJ L.H3];rcases L.arg with ⟨z,n,cs,h1,ak⟩ | ⟨cs,h1,ak⟩
    ·exact Nk h (nN _ _ _ h1 hu) ak
    ·exact Nj h (nN _ _ _ h1 hu) ak
   ·rw [s4]; exact Tp _ x _ L.out hu)
  (λae t c ab aa=>K6 _ c aa t) (λae c ab aa=>K7 _ c aa) (λi ae c hi ab h1 ak=>he.inj i ae hi ab (er.eT _ _ c h1 ak))
 have QG:=EH.keep he.F7;have Tl:∀ t c,cn outs.length c->¬ (g4 t≠none/\vO t c):=by
  rintro t c aa ⟨_,bP⟩;rcases BO t c bP with aR | ⟨ae,ab,aR⟩
  ·exact K6 _ c aa t aR
  ·have hk:ks ae<outs.length:=by
    have s7:=List.getElem?_eq_getElem ab;exact (List.getElem?_eq_some_iff.1 (he.ao ae _ _ s7).out).1
   have:=er.eT _ _ c aa aR;omega
 have mw:=QG.sa (d:=d) (x:=res) (v:=Ha) (F:=cn outs.length) aY (by rw [<- bf,bU]; exact dy.lt je) (.tree (H7 (nM.hE (zH he.av)) he.av)) Tl (λc aa=>K7 _ c aa) (λz p n m new e=>absurd e (zH he.av z p n m new));refine ep _ _ Ha If _ (by rw [aV]; rfl) (by rw [aV]; simp [Act.put,bf]) (h.back mw Q') ⟨?_,JF,λc aa=>?_,λc aa=>?_⟩
 ·exact cd.fp.mono λb _ ⟨s,aL⟩=>(rN s b aL).2.2
 ·rcases JG c aa with aR | ⟨s,aR⟩ | aR
  ·exact .inl aR
  ·exact .inr (.inl (rN s c aR).2.2)
  ·exact .inr (.inr aR)
 ·have fin:∀ t,cn t c->(∃ s,Fs s c)\/w.heap.size<=c:=by
   intro t aC;rcases Gn t c aC with ⟨s,aR⟩ | aR
   ·exact .inl (rN s c aR).2.2
   ·exact .inr aR
  rcases tF aa with ⟨t,_,aR⟩ | aR
  ·rcases BO t c aR with gl | ⟨ae,_,gl⟩
   ·exact .inl (JP c (.inl ⟨t,JB t c gl⟩))
   ·exact fin _ gl
  ·exact fin _ aR
structure MM (g:aU) (d r k0:Nat) (g4 g5:aU):Prop where
 sub:∀ t x,g4 t=some x->g5 t=some x
 new:∀ t x,g5 t=some x->g4 t=some x\/(g4 t=none/\t≠d/\g t=some x/\∃ m z n cs,x=.ptr ⟨r,[k0]⟩ m/\b9 g4 ⟨r,[k0]⟩=some (.own z n cs)/\m<cs.length)
theorem gx.b9 {g1 g2:aU}(h:gx g1 g2) {p:Place}{y:af}(aE:b9 g2 p=some y):b9 g1 p=some y:=by
 unfold Own.b9 at *;cases J:g2 p.root with
 | none=>rw [J] at aE; cases aE
 | some x=>rw [J] at aE; rw [h.sub _ _ J]; exact aE
theorem hB.P0 {N:dy}{o:Oper}{r k0 d:Nat}{y:af}{cs:List af}{g5:aU}(av:g r=some (.obj cs)) (ay:cs[k0]?=some y) (uT:c6 y)
  (s_:∀ v:Value,v.oneCell'=true->∃ g1 g4 sQ,gx (c0 g ⟨r,[k0]⟩ (.lit v)) g1/\hB P N g1 o d g4/\b9 g4 ⟨r,[k0]⟩=some (.lit v)/\gx (c0 g4 ⟨r,[k0]⟩ y) sQ/\b9 sQ ⟨r,[k0]⟩=some y/\MM g d r k0 sQ g5):hB P N g o d g5:=by
 intro w I T Fs h a bf bU K Q ep;have lB:∀ z q n m new,y≠.b3 z q n m new:=by rintro z q n m new rfl; cases uT
 have fK:b9 g ⟨r,[k0]⟩=some y:=by simp [b9,av,af.at,af.kids,ay]
 obtain ⟨v,cG,hv,dL,dt,put⟩:=h.lP.part fK lB;have nU:v.oneCell'=true:=by
  obtain ⟨u,hu,lY⟩:=h.rel r _ av;obtain ⟨b,sq,h1,ak,aN,bP,_⟩:=R.node (z:=0) (n:=0) (lY.hE (by simp)) (.inr rfl) ay;have:ef w T ⟨r,[k0]⟩=child w u k0:=by
   unfold ef;simp only [hu,walk];cases child w u k0 <;> rfl
  rw [this,aN] at hv;cases hv;exact bP
 obtain ⟨fS,iO,yG,yH⟩:=put (.lit v) cR (.lit nU λ_ h=>h) (λ_ h=>h.elim) (λ_ h=>h.elim) (λ_ _ _ h=>h.elim);obtain ⟨g1,g4,sQ,hc,eA,EO,E9,VF,aF⟩:=s_ v nU;have qq:∀ t c,fS t c->Fs t c/\¬ cG c:=by
  intro t c aa;by_cases aC:t=r
  ·subst aC;rcases (yG c).1 aa with aR | aR
   ·exact aR
   ·exact aR.elim
  ·rw [yH t aC] at aa;exact ⟨aa,λbh=>aC (h.eT t r c aa (dt c bh))⟩
 have EG:=iO.keep hc;refine eA w I T _ EG a bf bU K Q λcx w' hA I' cn D5 ym er cd=>?_;obtain ⟨v2,rl,pr,ly,Qm,GD⟩:=er.lP.part EO (by simp);have FC:v2=v:=ly.hV.1;subst FC;have Eu:∀ c,cG c->¬ I c:=λc aa=>h.aD r c (dt c aa);have uB:∀ c,cG c->c<w.heap.size:=λc aa=>h.jL r c (dt c aa);have u5:∀ c,cG c->¬ ∃ t,(g1 t≠none/\fS t c):=λc aa ⟨t,_,aR⟩=>(qq t c aR).2 aa;have zL:∀ t c,cn t c->¬ cG c:=by
  intro t c aa bh;rcases cd.own c ⟨t,aa⟩ with aR | aR
  ·exact u5 c bh aR
  ·have:=uB c bh; omega
 have Gl:∀ c,cG c->¬ I' c:=by
  intro c aa hi;rcases cd.new c hi with aR | aR | aR
  ·exact Eu c aa aR
  ·exact u5 c aa aR
  ·have:=uB c aa; omega
 have GN:∀ c,cG c->w'.heap[c]?=w.heap[c]?:=λc aa=>cd.fp.block c (uB c aa) (u5 c aa);have qm:∀ c,I c->w'.heap[c]?=w.heap[c]?:=λc aa=>cd.fp.block c (h.lt c aa) λ⟨t,_,aR⟩=>h.aD t c (qq t c aR).1 aa;have yM:R w' I' (fT w' (T.setIfInBounds d hA)) y v2 cG :=
  ((dL.bE uT).frame qm cd.more (λ_ _ h=>h) GN)
 obtain ⟨Hz,EI,Eo,Ep⟩:=GD y cG yM (λc aa bh=>(zL _ c bh aa).elim) (λc aa=>Gl c aa) (λt c _ aa bh=>zL t c bh aa);have rQ:=EI.keep E9;have R_:ef w' (T.setIfInBounds d hA) ⟨r,[k0]⟩=some v2:=pr;have QH:cV w' I' (T.setIfInBounds d hA) g5 (λt c=>sQ t≠none/\Hz t c):=by
  refine ⟨λt x J=>?_,λt aC c aa=>?_,rQ.eT,rQ.aD,rQ.lt,λt c' z p n m new cD cT b6 c7 h1 ak=>?_⟩
  ·rcases aF.new t x J with aR | ⟨h1,ak,aN,m,z,n,cs2,rfl,cZ,dv⟩
   ·obtain ⟨u,hu,bg⟩:=rQ.rel t x aR;exact ⟨u,hu,rQ.uw (λ_ _=>rfl) (λ_ _ _=>rfl) (λ_ _=>rfl) (λ_ h=>h) aF.sub bg λ_ _=>rfl⟩
   ·obtain ⟨u,hu,bg⟩:=h.rel t _ aN;obtain ⟨⟨Aw,ad,ar,a2,rfl⟩,_⟩:=(bg.hE (by simp)).mz;rw [hv] at ar;cases ar;refine ⟨_,by rw [Array.getElem?_setIfInBounds_ne (Ne.symm ak)]; exact hu,.tree (.ref rfl ⟨⟨v2,ad,R_,a2,rfl⟩,?_⟩ (rQ.kk t h1))⟩;refine ⟨.own z n cs2,?_,z,n,cs2,.inl rfl,dv⟩;unfold Own.b9 at cZ ⊢;cases f':sQ r with
    | none=>simp only [f'] at cZ; cases cZ
    | some x'=>simp only [f'] at cZ; simp only [aF.sub r x' f']; exact cZ
  ·cases aR:sQ t with
   | none=>exact aa.1 aR
   | some y=>rw [aF.sub t y aR] at aC; cases aC
  ·have:∀ {t z p n m new},g5 t=some (.b3 z p n m new)->sQ t=some (.b3 z p n m new):=by
    intro t z p n m new J;rcases aF.new t _ J with aR | ⟨_,_,_,m,z,n,cs2,e,_⟩
    ·exact aR
    ·cases e
   exact rQ.pE t c' z p n m new cD cT b6 c7 (this h1) (this ak)
 refine ep cx w' hA I' _ D5 ym QH ⟨?_,cd.more,λc aa=>?_,λc aa=>?_⟩
 ·exact cd.fp.mono λb _ ⟨t,_,aR⟩=>⟨t,(qq t b aR).1⟩
 ·rcases cd.new c aa with aR | ⟨t,_,aR⟩ | aR
  ·exact .inl aR
  ·exact .inr (.inl ⟨t,(qq t c aR).1⟩)
  ·exact .inr (.inr aR)
 ·obtain ⟨t,_,aa⟩:=aa;have:(∃ t,cn t c)\/cG c:=by
   by_cases aC:t=r
   ·subst aC;rcases (Eo c).1 aa with ⟨aR,_⟩ | aR
    ·exact .inl ⟨_,aR⟩
    ·exact .inr aR
   ·rw [Ep t aC] at aa; exact .inl ⟨t,aa⟩
  rcases this with aR | aR
  ·rcases cd.own c aR with ⟨t,_,gl⟩ | gl
   ·exact .inl ⟨t,(qq t c gl).1⟩
   ·exact .inr gl
  ·exact .inl ⟨r,dt c aR⟩
end
end Go.Own
namespace Go.Own
open Go
def qJ:af->Option (List af)
 | .agg cs=>some cs
 | .lit v=>some [.lit v]
 | .aO=>some [.aO]
 | .aD z n cs=>some [.aD z n cs]
 | .own z n cs=>some [.own z n cs]
 | .obj cs=>some [.obj cs]
 | .bs cs=>some [.bs cs]
 | .ea f a b=>some [.ea f a b]
 | _=>none
def gn (P:Program) (t:TypeId) (m:Nat):Bool :=
 match P.info? t with
 | some i=>i.size == m
 | none=>false
def lS (P:Program) (N:dy) (g:aU) (o:Oper) (g':aU):Prop :=
 ∀ (w:World) (I:bn) (T:Array Value) (Fs:Nat->bn),cV w I T g Fs->∀ (a:Act),a.tmps=T->a.tmps.size=N.size->∀ (K:Act->World->Prop) (Q:Exit->Act->World->Prop),
  (∀ (cx:Act) (w':World),hR N a w I Fs g' cx w'->(∀ t,o.dst≠some t->cx.tmps[t]?=a.tmps[t]?)->K cx w')->o.wp P a w K Q
inductive cq (P:Program) (N:dy) (g:aU):Oper->aU->Prop
 | assign {o:Oper}{d:Nat}{x:Operand}{y jZ y':af}{g1 g2:aU}(bd:o.op=.assign x) (aV:o.dst=some d) (J:bI g x=some y) (aC:Take g [y] [jZ] g1) (bB:jo jZ y') (hk:gx g1 g2) (aY:g2 d=none) (bU:N.ok d=true):cq P N g o (eM g2 d y')
 | Nq {o:Oper}{d:Nat}{x:Operand}{y:af}{g2:aU}(bd:o.op=.assign x) (aV:o.dst=some d) (J:bI g x=some y) (hk:gx g g2) (ay:eK g2 y) (aY:g2 d=none) (bU:N.ok d=true):cq P N g o (eM g2 d y)
 | store {o:Oper}{t:TypeId}{ad val:Operand}{p:Place}{k z n:Nat}{y jZ y' nd:af}{cs cs':List af}{g1 g2:aU}(bd:o.op=.store t ad val) (aV:o.dst=none) (fJ:bI g ad=some (.ptr p k)) (te:bI g val=some y) (aC:Take g [y] [jZ] g1) (pk:jo jZ y')
   (aa:qJ y'=some cs') (aL:gn P t cs'.length=true) (aE:b9 g1 p=some nd) (fU:nd=.own z n cs\/nd=.obj cs) (hk:k+cs'.length<=cs.length) (ba:0<cs'.length)
   (BY:∀ t x,g2 t=some x->c0 g1 p (nd.fu k cs') t=some x) (zc:∀ t x,g2 t=some x->∀ y,g1 t=some y->j0 (λr=>gS g1 r/\Clear p k cs'.length r/\gS g2 r) y) (lB:∀ t z q n m new,g2 t≠some (.b3 z q n m new)) (l7:g2 p.root≠none):cq P N g o g2
 | call {o:Oper}{d:Nat}{g5:aU}(aV:o.dst=some d) (bU:N.ok d=true) (h:hB P N g o d g5):cq P N g o g5
 | LP {o:Oper}{g2:aU}(h:lS P N g o g2):cq P N g o g2
section
variable {P:Program}{w:World}{I:bn}{T:Array Value}{g:aU}{Fs:Nat->bn}
theorem Hand.one {y:af}{v:Value}(bg:R w I (ed w T g) y v cR):Hand w I (fT w T) Fs [y] [v] (λ_=>cR) :=
 ⟨rfl,λk x u J hu=>by
  cases k with
  | zero=>simp at J hu; subst J hu; exact bg.frame (λ_ _=>rfl) (λ_ h=>h) (λ_ _ h=>h.1) λ_ _=>rfl
  | succ k=>simp at J,λ_ _ _ _ _ h=>h.elim,λ_ _ _ _ h=>h.elim,λ_ _ _ h=>h.elim⟩
theorem Hand.GH {ρ:af->Value->Prop}{y:af}{v:Value}{dx:Nat->bn}(h:Hand w I ρ Fs [y] [v] dx):R w I ρ y v (dx 0):=h.rel 0 y v rfl rfl
theorem Hand.cells {y:af}{v:Value}{dx:Nat->bn}(h:Hand w I (fT w T) Fs [y] [v] dx) (aJ:c6 y) {cs:List af}(aa:qJ y=some cs) :
  ∃ vP,Hand w I (fT w T) Fs cs v.cells.toList vP/\(∀ x∈cs,c6 x)/\(∀ (ae:Nat) (u:Value),v.cells.toList[ae]?=some u->u.oneCell'=true)/\∀ ae c,ae<cs.length->vP ae c->dx 0 c:=by
 have bg:=h.GH;have single:∀ {x:af},y=x->v.oneCell'=true->∃ vP,Hand w I (fT w T) Fs [x] v.cells.toList vP/\(∀ z∈[x],c6 z)/\(∀ (ae:Nat) (u:Value),v.cells.toList[ae]?=some u->u.oneCell'=true)/\∀ ae c,ae<[x].length->vP ae c->dx 0 c:=by
  rintro x rfl h1;have wL:v.cells=#[v]:=by cases v <;> first | rfl | (simp [Value.oneCell'] at h1)
  refine ⟨dx,by rw [wL]; exact h,by simpa using aJ,λae u hu=>?_,λae c ab aa=>?_⟩
  ·rw [wL] at hu;cases ae with
   | zero=>simp at hu; subst hu; exact h1
   | succ ae=>simp at hu
  ·have:ae=0:=by simpa using ab
   subst this; exact aa
 cases y <;> simp only [qJ,Option.some.injEq,reduceCtorEq] at aa
 case agg l =>
  subst aa;cases bg with
  | ref J=>simp [af.isRef] at J
  | @agg _ vs bZ _ ao h1 av aV aP =>
   have eV:∀ k c,k<l.length->bZ k c->dx 0 c:=λk c hk aa=>(aP c).2 ⟨k,hk,aa⟩;refine ⟨bZ,⟨by simp [Value.cells,ao],λk x u J hu=>av k x u J (by simpa [Value.cells] using hu),aV,λk t c hk aa=>h.off 0 t c (by simp) (eV k c hk aa),λk c hk aa=>h.aD 0 c (by simp) (eV k c hk aa)⟩,?_,λae u hu=>h1 ae u (by simpa [Value.cells] using hu),eV⟩;cases aJ with | agg h=>exact h
 case lit a=>subst aa; exact single rfl (by obtain ⟨rfl,h1⟩:=bg.hV; exact h1)
 case aO=>subst aa; exact single rfl (by rw [bg.qe]; rfl)
 case aD z n l=>subst aa; exact single rfl (by obtain ⟨a,cap,rfl,_⟩:=bg.w0; rfl)
 case own z n l=>subst aa; exact single rfl (by obtain ⟨a,cap,rfl,_⟩:=bg.mb; rfl)
 case bs l=>subst aa; exact single rfl (by obtain ⟨ad,us,rfl,_⟩:=bg.uV; rfl)
 case obj l =>
  subst aa;refine single rfl ?_;cases bg with
  | ref J=>simp [af.isRef] at J
  | obj=>rfl
 case ea f a b =>
  subst aa;refine single rfl ?_;cases bg with
  | ref J=>simp [af.isRef] at J
  | ea=>rfl
theorem js.mB {I':bn}{ρ:af->Value->Prop}{x:af}{v:Value}{F:bn}(h:js w I ρ x v F) (bp:∀ c,I c->I' c):js w I' ρ x v F:=by
 cases h with
 | tree h=>exact .tree (h.mB bp)
 | b3 h=>exact .b3 ⟨h.j4,h.kD,h.l5,h.ao,h.h1,λk x u J hu=>(h.av k x u J hu).mB bp,h.aP⟩
theorem Jp {g1:aU}{fS:Nat->bn}{H1:Nat->bn}{jZ y':af}{v:Value}(bW:jt w I T g1 fS) (hH:Hand w I (fT w T) fS [jZ] [v] H1) (aJ:c6 jZ) (bB:jo jZ y') :
  ∃ (I':bn) (rn:bn),(∀ c,I c->I' c)/\(∀ c,I' c->I c\/H1 0 c)/\jt w I' T g1 fS/\Hand w I' (fT w T) fS [y'] [v] (λ_=>rn)/\∀ c,rn c->H1 0 c:=by
 have bg:=hH.GH;obtain ⟨rn,gr,kd⟩:=R.fI bB bg aJ (λc aa=>hH.aD 0 c (by simp) aa) bW.lt;refine ⟨λc=>I c\/(H1 0 c/\¬ rn c),rn,λc aa=>.inl aa,λc aa=>aa.elim .inl λh=>.inr h.1,⟨λt x J=>?_,bW.kk,bW.eT,λt c aa hi=>?_,λc aa=>?_⟩,⟨rfl,λk x u J hu=>?_,λae k c ab hk _ _=>by simp at ab hk; omega,λk t c hk aa bh=>hH.off 0 t c (by simp) (gr c aa) bh,λk c hk aa hi=>?_⟩,gr⟩
 ·obtain ⟨u,hu,lY⟩:=bW.rel t x J;exact ⟨u,hu,lY.mB λc aa=>.inl aa⟩
 ·rcases hi with h | ⟨h,_⟩
  ·exact bW.aD t c aa h
  ·exact hH.off 0 t c (by simp) h aa
 ·rcases aa with h | ⟨h,_⟩
  ·exact bW.lt c h
  ·exact bg.lt c h
 ·cases k with
  | zero=>simp at J hu; subst J hu; exact kd
  | succ k=>simp at J
 ·rcases hi with h | ⟨_,h⟩
  ·exact hH.aD 0 c (by simp) (gr c aa) h
  ·exact h aa
theorem cq.nJ {N:dy}{o:Oper}{g':aU}(he:cq P N g o g'):lS P N g o g':=by
 intro w I T Fs h a bf bU K Q ep;cases he with
 | LP he=>exact he w I T Fs h a bf bU K Q ep
 | @call d _ aV je aa =>
  refine aa w I T Fs h a bf bU K Q λcx w' v I' cn h1 ak aN bP=>ep cx w' ⟨h1,by rw [ak,<- bf]; exact hC.put je _ _,I',cn,by rw [ak]; exact aN,bP⟩ λt aC=>?_;rw [ak,bf,Array.getElem?_setIfInBounds_ne];rintro rfl;exact aC aV
 | @assign d x y jZ y' g1 g2 bd aV J aC bB hk aY je =>
  have bg:=kK h J bf;obtain ⟨fS,H1,qR,sS,gU⟩:=aC.sound h.lP (Hand.one bg);have y3:c6 jZ:=aC.zJ jZ (by simp);obtain ⟨I',rn,nL,Ew,iO,ih,gr⟩:=Jp qR sS y3 bB;have l3:c6 y':=bB.bE y3;have hS:=iO.keep hk;have mw:=hS.sa (d:=d) (x:=y') (v:=a.eval x) (F:=rn) aY (by rw [<- bf,bU]; exact dy.lt je) (.tree (ih.GH.bE l3)) (λt c aa bh=>ih.off 0 t c (by simp) aa bh.2) (λc aa=>ih.aD 0 c (by simp) aa) (by rintro z p n m new rfl; cases l3);have hU:(execOp a.eval o).run P w=.ok (.value (a.eval x)) w:=by simp [execOp,bd]
  unfold Oper.wp Oper.upon;simp only [hU];have gA:∀ c,H1 0 c->∃ t,Fs t c:=λc aa=>by
   rcases gU c (.inr ⟨0,by simp,aa⟩) with gl | ⟨_,_,gl⟩
   ·exact gl
   ·exact gl.elim
  refine ep _ _ ⟨by rw [aV]; rfl,by rw [aV]; exact hC.put je _ _,I',_,by rw [aV]; simpa [Act.put,bf] using mw,⟨Fr.refl _ _,nL,λc aa=>(Ew c aa).elim .inl λh=>.inr (.inl (gA c h)),λc aa=>?_⟩⟩ λt aC=>by rw [aV]; simp only [Act.put]; rw [Array.getElem?_setIfInBounds_ne]; rintro rfl; exact aC aV
  rcases tF aa with ⟨t,_,aR⟩ | aR
  ·rcases gU c (.inl ⟨t,aR⟩) with gl | ⟨_,_,gl⟩
   ·exact .inl gl
   ·exact gl.elim
  ·exact .inl (gA c (gr c aR))
 | @Nq d x y g2 bd aV J hk ay aY je =>
  have bg:=kK h J bf;have hS:=h.lP.keep hk;have kd:R w I (ed w T g2) y (a.eval x) cR:=(bg.frame (ρ':=fT w T) (λ_ _=>rfl) (λ_ h=>h) (λ_ _ h=>h.1) λ_ _=>rfl).br ay;have mw:=hS.sa (d:=d) (x:=y) (v:=a.eval x) (F:=cR) aY (by rw [<- bf,bU]; exact dy.lt je) (.tree kd) (λ_ _ h=>h.elim) (λ_ h=>h.elim) (by rintro z p n m new rfl; exact kd.kI.elim);have hU:(execOp a.eval o).run P w=.ok (.value (a.eval x)) w:=by simp [execOp,bd]
  unfold Oper.wp Oper.upon;simp only [hU];refine ep _ _ ⟨by rw [aV]; rfl,by rw [aV]; exact hC.put je _ _,I,_,by rw [aV]; simpa [Act.put,bf] using mw,⟨Fr.refl _ _,λ_ h=>h,λ_ h=>.inl h,λc aa=>?_⟩⟩ λt aC=>by rw [aV]; simp only [Act.put]; rw [Array.getElem?_setIfInBounds_ne]; rintro rfl; exact aC aV
  rcases tF aa with ⟨t,_,aR⟩ | aR
  ·exact .inl ⟨t,aR⟩
  ·exact aR.elim
 | @store t ad val p k z n y jZ y' nd cs cs' g1 _ bd aV fJ te aC pk aa aL aE fU hk ba BY zc lB l7 =>
  have nM:=kK h te bf;obtain ⟨⟨u,Vh,hu,sT,jf⟩,_⟩:=(kK h fJ bf).mz;obtain ⟨fS,H0,qR,sS,EM⟩:=aC.sound h.lP (Hand.one nM);have y3:c6 jZ:=aC.zJ jZ (by simp);obtain ⟨I',rn,nL,Ew,iO,ih,R5⟩:=Jp qR sS y3 pk;have l3:c6 y':=pk.bE y3;have gA:∀ c,H0 0 c->∃ t,Fs t c:=λc aa=>by
   rcases EM c (.inr ⟨0,by simp,aa⟩) with gl | ⟨_,_,gl⟩
   ·exact gl
   ·exact gl.elim
  have gU:∀ c,kO fS 1 (λ_=>rn) c->kO Fs [y].length (λ_=>cR) c:=by
   rintro c (⟨t,aa⟩ | ⟨_,_,aa⟩)
   ·exact EM c (.inl ⟨t,aa⟩)
   ·exact .inl (gA c (R5 c aa))
  obtain ⟨vP,JE,BV,gE,Qs⟩:=ih.cells l3 aa;have kI:∀ z q n m new,nd≠.b3 z q n m new:=by rcases fU with rfl | rfl <;> simp
  obtain ⟨v,cG,hv,dL,dt,_⟩:=iO.part aE kI;rw [hu] at hv;cases hv;obtain ⟨b,gj,aF,_⟩:=dL.node fU (List.getElem?_eq_getElem (show k<cs.length by omega));rw [sT] at aF;cases aF;have kS:∃ e arr,w.heap[b]?=some (.cells arr e (0,0))/\cs.length<=arr.size:=by
   rcases fU with rfl | rfl
   ·cases dL with
    | ref J=>simp [af.isRef] at J
    | own nQ ao =>
     obtain ⟨l8,b_⟩:=nQ;rcases b_ with ⟨rfl,_⟩ | ⟨iA,cap,cur,rfl,_,fX,tu,q6,tv,sd⟩
     ·simp [addrOf] at sT
     ·simp only [addrOf,Option.some.injEq,Addr.mk.injEq,and_true] at sT;subst sT;refine ⟨_,cur,fX,?_⟩;rw [ao,<- sd,List.length_take]; simp; omega
   ·cases dL with
    | ref J=>simp [af.isRef] at J
    | obj nQ ao =>
     simp only [addrOf,Option.some.injEq,Addr.mk.injEq,and_true] at sT;subst sT;exact ⟨_,_,nQ,by omega⟩
  obtain ⟨e,arr,kS,hle⟩:=kS;obtain ⟨iI,hS,gr⟩:=iO.store aE fU hk JE BV gE BY zc lB l7 hu sT kS;have hx:(a.eval val).cells.toList.length=cs'.length:=JE.len.symm;have cd:=run_storeCells_at P b k e (a.eval val).cells.toList 0 arr w kS (by omega) (λu hu=>by
   obtain ⟨ae,ab,rfl⟩:=List.mem_iff_getElem.1 hu;exact gE ae _ (List.getElem?_eq_getElem ab))
  simp only [Nat.add_zero] at cd;have fZ:(sizeOf t).run P w=.ok cs'.length w:=by
   unfold gn at aL;cases hi:P.info? t with
   | none=>simp [hi] at aL
   | some i=>simp [hi] at aL; simp [sizeOf,typeInfo,hi,aL]
  have hU:(execOp a.eval o).run P w=.ok .skip (w.setRow b (fu arr.toList k (a.eval val).cells.toList).toArray):=by
   have hy:(a.eval val).cells.size=cs'.length:=by rw [<- Array.length_toList]; exact hx
   simp only [Nat.zero_add] at jf;simp [execOp,bd,jf,Instr.storeAt,Instr.sureAddr,storeVar,fZ,hy,cd,fu]
  unfold Oper.wp Oper.upon;simp only [hU];have ES:∃ t,Fs t b:=by
   rcases gU b (.inl ⟨_,dt b (dL.Cy fU (ad:=⟨b,0,none⟩) sT)⟩) with aR | ⟨_,_,aR⟩
   ·exact aR
   ·exact aR.elim
  refine ep _ _ ⟨by rw [aV]; rfl,by rw [aV]; exact hC.refl,I',iI,by rw [aV]; simpa [Act.put,bf] using hS,⟨⟨rfl,rfl,rfl,by simp,λc _ aa=>setRow_other w b c _ (λe=>aa (e ▸ ES)),λa _=>Eg w b _ a,Nat.le_refl _⟩,nL,λc aa=>(Ew c aa).elim .inl λh=>.inr (.inl (gA c h)),λc ⟨t,aa⟩=>?_⟩⟩ λt _=>by rw [aV]; rfl
  rcases gr t c aa with aR | ⟨ae,ab,aR⟩
  ·rcases gU c (.inl ⟨t,aR⟩) with gl | ⟨_,_,gl⟩
   ·exact .inl gl
   ·exact gl.elim
  ·rcases gU c (.inr ⟨0,by simp,Qs ae c ab aR⟩) with gl | ⟨_,_,gl⟩
   ·exact .inl gl
   ·exact gl.elim
theorem cq.sound (h:cV w I T g Fs) {a:Act}(bf:a.tmps=T) {N:dy}(bU:a.tmps.size=N.size) {o:Oper}{g':aU}(he:cq P N g o g') {K:Act->World->Prop}{Q:Exit->Act->World->Prop}
  (ep:∀ cx w',hR N a w I Fs g' cx w'->K cx w'):o.wp P a w K Q:=he.nJ w I T Fs h a bf bU K Q λcx w' h _=>ep cx w' h
end
end Go.Own
namespace Go.Own
open Go
def mZ (g g':aU):Prop:=∀ t x,g t=some x->g' t=some x
section
variable {P:Program}{g g':aU}
theorem e5 (h:mZ g g') {x:Operand}{y:af}(ay:bI g x=some y):bI g' x=some y:=by
 cases x <;> simp only [bI] at ay ⊢
 case tmp t =>
  cases J:g t with
  | none=>rw [J] at ay; cases ay
  | some z=>rw [J] at ay; rw [h t z J]; exact ay
 case const v=>exact ay
 case global n=>exact ay
 case func f=>exact ay
theorem xa (h:mZ g g'):∀ {xs:List Operand}{ys:List af},il g xs=some ys->il g' xs=some ys
 | [],_,ay=>ay
 | x::xs,ys,ay=>by
  simp only [il] at ay ⊢;cases J:bI g x with
  | none=>simp [J] at ay
  | some y =>
   cases qc:il g xs with
   | none=>simp [J,qc] at ay
   | some AF=>simp only [J,qc] at ay; simp only [e5 h J,xa h qc]; exact ay
theorem Lb (h:mZ g g'):∀ {l:List (Nat × Operand)}{ps:List (Nat × List af)},qk g l=some ps->qk g' l=some ps
 | [],_,ay=>ay
 | (i,x)::l,ps,ay=>by
  simp only [qk] at ay ⊢;cases J:bI g x with
  | none=>simp [J] at ay
  | some y =>
   cases qc:qk g l with
   | none=>simp [J,qc] at ay
   | some AF=>simp only [J,qc] at ay; simp only [e5 h J,Lb h qc]; exact ay
theorem n3.mono (h:mZ g g') {d:Nat}{x:Option Operand}{ae:Nat}(aF:n3 g d x ae):n3 g' d x ae:=by
 cases x with
 | none=>exact aF
 | some o=>obtain ⟨k,hk⟩:=aF; exact ⟨k,e5 h hk⟩
theorem da.mono (h:mZ g g') {op:Op}{ty:TypeId}{x:af}(aE:da P g op ty x):da P g' op ty x:=by
 cases aE with
 | move J=>exact .move (e5 h J)
 | assign J=>exact .assign (e5 h J)
 | pick aa av=>exact .pick (e5 h aa) (e5 h av)
 | Cx J=>exact .Cx (e5 h J)
 | oT J=>exact .oT (e5 h J)
 | yB J bh eA=>exact .yB (e5 h J) bh (eA.mono h)
 | BH J bh=>exact .BH (e5 h J) bh
 | BG J bh aC ay=>exact .BG (e5 h J) bh aC ay
 | Ec J bh aC hk=>exact .Ec (e5 h J) bh aC hk
 | Cj J hi aC ab=>exact .Cj (e5 h J) (e5 h hi) aC ab
 | Ci J hi aC ab eA=>exact .Ci (e5 h J) (e5 h hi) aC ab (eA.mono h)
 | FV J hi aC ab eA=>exact .FV (e5 h J) (e5 h hi) aC ab (eA.mono h)
 | FU J hi aC ab eA=>exact .FU (e5 h J) (e5 h hi) aC ab (eA.mono h)
 | FT J hi aC ab=>exact .FT (e5 h J) (e5 h hi) aC ab
 | Ct J aC=>exact .Ct (e5 h J) aC
 | Cu J aC hk=>exact .Cu (e5 h J) aC hk
 | zx J aC ay=>exact .zx (e5 h J) aC (kc h ay)
 | w4 J aC ay aa hm=>exact .w4 (e5 h J) aC (kc h ay) aa hm
 | Ck J hi aC aF=>exact .Ck (e5 h J) (e5 h hi) aC aF
 | bin J ay hv av=>exact .bin (e5 h J) (e5 h ay) hv av
 | x8 J ay hv av=>exact .x8 (e5 h J) (e5 h ay) hv av
 | un J hv av=>exact .un (e5 h J) hv av
 | conv J hv av=>exact .conv (e5 h J) hv av
 | Bo J aE aJ hy aC=>exact .Bo (e5 h J) (kc h aE) aJ hy aC
 | Bp J aC=>exact .Bp (e5 h J) aC
 | @D8 xs ia _ f vs v J hv av =>
  refine .D8 (vs:=vs) ?_ hv av;apply List.ext_getElem?;intro k;have:=congrArg (·[k]?) J;simp only [List.getElem?_map] at this ⊢;rw [<- this];cases hk:xs.toList[k]? with
  | none=>rfl
  | some o =>
   rw [hk] at this;cases hv:vs[k]? with
   | none=>rw [hv] at this; cases this
   | some v =>
    rw [hv] at this;simp only [Option.map_some,Option.some.injEq] at this ⊢;rw [this,e5 h this]
 | Bu J ay=>exact .Bu (e5 h J) ay
 | Av J ao b_ aC h1 ak=>exact .Av (e5 h J) (ao.mono h) (b_.mono h) aC h1 ak
 | C0 J ao b_ aC aJ eA=>exact .C0 (e5 h J) (ao.mono h) (b_.mono h) aC aJ (eA.mono h)
 | CZ J ao b_ aC h1 ak eA=>exact .CZ (e5 h J) (ao.mono h) (b_.mono h) aC h1 ak (eA.mono h)
 | C1 J ao b_ aC h1 ak=>exact .C1 (e5 h J) (ao.mono h) (b_.mono h) aC h1 ak
 | zv J aC=>exact .zv (e5 h J) aC
 | zu J aC=>exact .zu (e5 h J) aC
 | Ga J aC=>exact .Ga (e5 h J) aC
 | F' J aC=>exact .F' (e5 h J) aC
 | Gb J aE ay ep bg av=>exact .Gb (e5 h J) (kc h aE) (e5 h ay) ep bg av
 | zw J ay ep bg av=>exact .zw (e5 h J) (e5 h ay) ep bg av
 | @lits b xs ia _ vs v J hv av =>
  refine .lits (vs:=vs) ?_ hv av;clear av;generalize xs.toList=l at J
  induction l generalizing vs with
  | nil=>exact J
  | cons x l aS =>
   cases vs with
   | nil=>simp at J
   | cons v vs =>
    simp only [List.map_cons,List.cons.injEq] at J ⊢;exact ⟨e5 h J.1,aS J.2⟩
theorem n5.mono (h:mZ g g') {op:Op}{ty:TypeId}{x:af}(aE:n5 P g op ty x):n5 P g' op ty x:=by
 cases aE with
 | box J aa=>exact .box (e5 h J) aa
 | alloc bB h1=>exact .alloc bB h1
 | makeMap bK=>exact .makeMap bK
 | buildSlice aC aE J bB aa aF aJ hzero=>exact .buildSlice aC aE (xa h J) bB aa aF aJ hzero
 | makeSlice aC J ay hzero h1 nm aF aJ nP r2 Ch=>exact .makeSlice aC (e5 h J) (e5 h ay) hzero h1 nm aF aJ nP r2 Ch
theorem sB.mono (h:mZ g g') {op:Op}{ty:TypeId}{x:af}(aE:sB P g op ty x):sB P g' op ty x:=by
 cases aE with
 | build aC bB h1 aE aa=>exact .build aC bB h1 (Lb h aE) aa
 | makeFunc bf aF=>exact .makeFunc (xa h bf) (xa h aF)
theorem Src.mono (h:mZ g g') {y:af}{z m:Nat}{cells:List af}(aL:Src g y z m cells):Src g' y z m cells:=by
 cases aL with
 | aD=>exact .aD
 | aO=>exact .aO
 | bq bK hm=>exact .bq (kc h bK) hm
 | sub bK hm=>exact .sub (kc h bK) hm
theorem dg.mono (h:mZ g g') {op:Op}{ty:TypeId}{x:af}(aE:dg P g op ty x) (gW:∀ z p n m new,x=.b3 z p n m new->∀ t cD cT b6 c7,g' t≠some (.b3 cD p cT b6 c7)):dg P g' op ty x:=by
 cases aE with
 | e9 aE=>exact .e9 (aE.mono h)
 | qj aE=>exact .qj (aE.mono h)
 | CE aE=>exact .CE (aE.mono h)
 | lf aE =>
  cases aE with
  | grow aL eA _ J p8 aC pf aF=>exact .lf (.grow (e5 h aL) (eA.mono h) (gW _ _ _ _ _ rfl) (e5 h J) (p8.mono h) aC pf aF)
  | nil aL J p8 aC pf aF=>exact .lf (.nil (e5 h aL) (e5 h J) (p8.mono h) aC pf aF)
theorem View.mono (h:mZ g g') {x y:af}(hv:View g x y):View g' x y:=by
 induction hv with
 | oT=>exact .oT
 | self h1 ak aN bP cZ dv=>exact .self h1 ak aN bP cZ dv
 | mp=>exact .mp
 | iD aE=>exact .iD (kc h aE)
 | agg ao _ aS=>exact .agg ao aS
 | own ao _ aS=>exact .own ao aS
 | obj ao _ aS=>exact .obj ao aS
 | ea ao _ aS=>exact .ea ao aS
 | bq aE aJ ao _ aS=>exact .bq (kc h aE) aJ ao aS
 | sub aE aJ ao _ aS=>exact .sub (kc h aE) aJ ao aS
 | ptr aE ay hk ao _ aS=>exact .ptr (kc h aE) ay hk ao aS
 | rows aE ao _ aS=>exact .rows (aE.mono (λaE=>kc h aE) h) ao aS
theorem cw.mono (h:mZ g g') {op:Op}{x:af}(aE:cw P g op x):cw P g' op x:=by
 cases aE with
 | plain aa J bh aJ iR av=>exact .plain (e5 h aa) (xa h J) bh aJ iR av
 | Cs aa J bh ao hv iR av=>exact .Cs (e5 h aa) (xa h J) bh ao (λk x y J ay=>(hv k x y J ay).mono h) iR av
def iL (g:aU) (ops:Array Oper) (o:Oper) (b:Bool):Prop :=
 match o.guard with
 | none=>b=true
 | some (ae,want)=>∃ t,(ops[ae]?).bind (·.dst)=some t/\((∃ c,g t=some (.lit (.bool c))/\b=(c == want))\/(g t=some (.cr [])/\b=false))
theorem iL.mono (h:mZ g g') {ops:Array Oper}{o:Oper}{b:Bool}(hw:iL g ops o b):iL g' ops o b:=by
 unfold iL at *;split
 ·rename_i aY; rw [aY] at hw; exact hw
 ·rename_i ae want aY;rw [aY] at hw;obtain ⟨t,h1,⟨c,ak,aN⟩ | ⟨ak,aN⟩⟩:=hw
  ·exact ⟨t,h1,.inl ⟨c,h t _ ak,aN⟩⟩
  ·exact ⟨t,h1,.inr ⟨h t _ ak,aN⟩⟩
theorem iL.sound {w:World}{I:bn}{T:Array Value}{Fs:Nat->bn}(bW:cV w I T g Fs) {ops:Array Oper}{o:Oper}{b:Bool}(hw:iL g ops o b):Region.wanted o (yielded ops T)=b:=by
 unfold iL at hw;unfold Region.wanted
 split at hw
 ·rename_i aY; rw [aY]; exact hw.symm
 ·rename_i ae want aY;rw [aY];obtain ⟨t,h1,⟨c,ak,aN⟩ | ⟨ak,aN⟩⟩:=hw
  ·obtain ⟨v,hv,bg⟩:=bW.rel _ _ ak;have:=(bg.hE (by simp)).hV.1;subst this;subst aN;simp only [yielded,h1,Option.bind_some,hv];cases c <;> cases want <;> rfl
  ·obtain ⟨v,hv,bg⟩:=bW.rel _ _ ak;have:∃ vs,v=.tuple vs:=by
    cases bg.hE (by simp) with
    | cr=>exact ⟨_,rfl⟩
    | ref J=>simp [af.isRef] at J
   obtain ⟨vs,rfl⟩:=this;subst aN;simp only [yielded,h1,Option.bind_some,hv];cases want <;> rfl
def oa (P:Program) (g:aU) (ops:Array Oper) (o:Oper):Option af->Prop
 | none=>iL g ops o false
 | some x=>(iL g ops o true/\(dg P g o.op o.type x\/cw P g o.op x))\/(iL g ops o false/\x=.cr [])\/(iL g ops o true/\∃ y,(dg P g o.op o.type y\/cw P g o.op y)/\c6 y/\View (λ_=>none) y x)
theorem oa.mono (h:mZ g g') {ops:Array Oper}{o:Oper}{r:Option af}(aL:oa P g ops o r) (gW:∀ z p n m new,r=some (.b3 z p n m new)->∀ t cD cT b6 c7,g' t≠some (.b3 cD p cT b6 c7)):oa P g' ops o r:=by
 cases r with
 | none=>exact iL.mono h aL
 | some x =>
  rcases aL with aL | ⟨aL,J⟩ | ⟨aL,y,aE,aJ,hv⟩
  ·refine .inl ⟨aL.1.mono h,?_⟩;rcases aL.2 with aE | aE
   ·exact .inl (aE.mono h λz p n m new e=>gW z p n m new (by rw [e]))
   ·exact .inr (aE.mono h)
  ·exact .inr (.inl ⟨aL.mono h,J⟩)
  ·refine .inr (.inr ⟨aL.mono h,y,?_,aJ,hv⟩);rcases aE with aE | aE
   ·exact .inl (aE.mono h λz p n m new e=>by subst e; cases aJ)
   ·exact .inr (aE.mono h)
def leaf:af->Bool
 | .own .. | .obj .. | .agg .. | .cr .. | .b3 .. | .mp ..=>false
 | _=>true
def del (g:aU) (d:Nat):aU:=λt=>if t=d then none else g t
theorem S3 {x y:af}(h:leaf x=true):∀ {q:List Nat},x.at q=some y->y=x
 | [],ay=>by simpa [af.at] using ay.symm
 | k::q,ay=>by
  have:x.kids=[]:=by cases x <;> first | rfl | simp [leaf] at h
  simp [af.at,this] at ay
theorem wc {d:Nat}{x:af}(aV:g d=some x) (ao:leaf x=true) {p:Place}{y:af}(aE:b9 g p=some y) (ay:leaf y=false):b9 (del g d) p=some y:=by
 have av:p.root≠d:=by
  intro e;unfold b9 at aE;rw [e,aV] at aE;rw [S3 ao aE,ao] at ay;cases ay
 simp only [b9,del,if_neg av] at aE ⊢;exact aE
theorem gS.del {d:Nat}{x:af}(aV:g d=some x) (ao:leaf x=true) {r:af}(h:gS g r):gS (del g d) r:=by
 have root:∀ {t:Nat}{y:af},g t=some y->leaf y=false->Own.del g d t=some y:=by
  intro t y aC ay;have:t≠d:=by
   rintro rfl;rw [aV] at aC;cases aC;rw [ao] at ay; cases ay
  simp only [Own.del,if_neg this,aC]
 cases r <;> simp only [gS] at h ⊢
 case ptr p k =>
  obtain ⟨y,ay,z,n,cs,eu,hk⟩:=h;exact ⟨y,wc aV ao ay (by rcases eu with rfl | rfl <;> rfl),z,n,cs,eu,hk⟩
 case bq z p n =>
  rcases h with ⟨N,cs,ay,aJ⟩ | ⟨h1,q,hf,m,new,ak,aN⟩
  ·exact .inl ⟨N,cs,wc aV ao ay rfl,aJ⟩
  ·exact .inr ⟨h1,q,hf,m,new,root ak rfl,aN⟩
 case sub z p lo n =>
  obtain ⟨N,cs,ay,aJ⟩:=h;exact ⟨N,cs,wc aV ao ay rfl,aJ⟩
 case iD p=>obtain ⟨q,h⟩:=h; exact ⟨q,wc aV ao h rfl⟩
 case b3 z p n m new =>
  rcases h with ⟨cs,ay⟩ | ⟨h1,q,hf,m,new,cs,ak,aN,bP⟩
  ·exact .inl ⟨cs,wc aV ao ay rfl⟩
  ·exact .inr ⟨h1,q,hf,m,new,cs,root ak rfl,aN,wc aV ao bP rfl⟩
theorem R.S2 {w:World}{I:bn}{ρ:af->Value->Prop}{x:af}{v:Value}{F:bn}(h:R w I ρ x v F) (ao:leaf x=true):∀ c,¬ F c:=by
 cases h with
 | own | obj | agg | cr | mp=>simp [leaf] at ao
 | lit _ aP | aO aP | dead aP | ref _ _ aP | hz aP | aD aP | bs aP | ea aP | imp aP=>exact aP
theorem cV.drop {w:World}{I:bn}{T:Array Value}{Fs:Nat->bn}(h:cV w I T g Fs) {d:Nat}{x:af}(aV:g d=some x) (ao:leaf x=true):cV w I T (del g d) Fs:=by
 refine ⟨λt y ay=>?_,λt aC c aa=>?_,h.eT,h.aD,h.lt,λt c' z p n m new cD cT b6 c7 h1 ak=>?_⟩
 ·have l9:g t=some y:=by
   unfold del at ay
   split at ay
   ·cases ay
   ·exact ay
  obtain ⟨v,hv,bg⟩:=h.rel t y l9;exact ⟨v,hv,bg.frame (λ_ _=>rfl) (λ_ h=>h) (λ_ _ av=>⟨av.1,av.2.del aV ao⟩) (λ_ _ _ _ _ _ _=>rfl) λ_ _=>rfl⟩
 ·unfold del at aC
  split at aC
  ·rename_i e;subst e;obtain ⟨v,hv,bg⟩:=h.rel t x aV;exact (bg.hE (by rintro z p n m new rfl; simp [leaf] at ao)).S2 ao c aa
  ·exact h.kk t aC c aa
 ·have key:∀ {t:Nat}{y:af},del g d t=some y->g t=some y:=by
   intro t y ay;unfold del at ay
   split at ay
   ·cases ay
   ·exact ay
  exact h.pE _ _ _ _ _ _ _ _ _ _ _ (key h1) (key ak)
end
end Go.Own
namespace Go.Own
open Go
def vn (g:aU) (d:Nat):Option af->aU
 | some x=>eM g d x
 | none=>g
section
variable {P:Program}{w:World}{I:bn}{T:Array Value}{g:aU}{Fs:Nat->bn}{N:dy}{ops:Array Oper}
theorem kt.refl (w:World) (I U:bn):kt w I U w I U:=⟨Fr.refl _ _,λ_ h=>h,λ_ h=>.inl h,λ_ h=>.inl h⟩
theorem kt.trans {w jm hZ:World}{I xV AN U v_ HJ:bn}(h:kt w I U jm xV v_) (h1:kt jm xV v_ hZ AN HJ):kt w I U hZ AN HJ:=by
 have lb:∀ c,c<w.heap.size->v_ c->U c:=λc aa hu=>by
  rcases h.own c hu with aR | aR
  ·exact aR
  ·omega
 refine ⟨h.fp.trans h1.fp lb,λc aa=>h1.more c (h.more c aa),λc aa=>?_,λc aa=>?_⟩
 ·rcases h1.new c aa with aR | aR | aR
  ·exact h.new c aR
  ·rcases h.own c aR with gl | gl
   ·exact .inr (.inl gl)
   ·exact .inr (.inr gl)
  ·exact .inr (.inr (Nat.le_trans h.fp.size aR))
 ·rcases h1.own c aa with aR | aR
  ·exact h.own c aR
  ·exact .inr (Nat.le_trans h.fp.size aR)
theorem hR.trans {N:dy}{a ar a2:Act}{jm hZ:World}{xV:bn}{fS:Nat->bn}{g2:aU}(h1:ar.defers=a.defers) (ak:hC N a.tmps ar.tmps) (cd:kt w I (λc=>∃ t,Fs t c) jm xV (λc=>∃ t,fS t c)) (h:hR N ar jm xV fS g2 a2 hZ):hR N a w I Fs g2 a2 hZ:=by
 obtain ⟨de,cX,AN,iI,bW,mK⟩:=h;exact ⟨de.trans h1,ak.trans cX,AN,iI,bW,cd.trans mK⟩
theorem cV.TH (h:cV w I T g Fs) {d:Nat}(aV:g d=none) (v:Value):cV w I (T.setIfInBounds d v) g Fs:=by
 have fv:∀ t,g t≠none->(T.setIfInBounds d v)[t]?=T[t]?:=by
  intro t aC;rw [Array.getElem?_setIfInBounds_ne];rintro rfl; exact aC aV
 refine ⟨λt x J=>?_,h.kk,h.eT,h.aD,h.lt,h.pE⟩;obtain ⟨u,hu,bg⟩:=h.rel t x J;exact ⟨u,by rw [fv t (by rw [J]; simp)]; exact hu,h.uw fv (λ_ _ _=>rfl) (λ_ _=>rfl) (λ_ h=>h) (λ_ _ h=>h) bg λ_ _=>rfl⟩
structure Dg (fI:Nat->Bool) (g g2:aU):Prop where
 lb:∀ t x,g2 t=some x->fI t=false->g t=some x/\eK g2 x
 qd:∀ t x,g2 t=some x->fI t=true->∃ y,g t=some y/\c6 y/\jo y x
 fF:∀ t z q n m new,g2 t≠some (.b3 z q n m new)
theorem cV.sP (h:cV w I T g Fs) {fI:Nat->Bool}{g2:aU}(bB:Dg fI g g2):∃ I' cn,cV w I' T g2 cn/\kt w I (λc=>∃ t,Fs t c) w I' (λc=>∃ t,cn t c):=by
 have uA:=h.lP;have zH:∀ t x,g2 t=some x->∀ z p n m new,x≠.b3 z p n m new:=by
  rintro t x J z p n m new rfl;exact bB.fF _ _ _ _ _ _ J
 -- of each slot what it owns from now on
 have:∀ t,∃ fL:bn,(∀ c,fL c->Fs t c/\g2 t≠none)/\∀ x,g2 t=some x->(fI t=false->∀ c,Fs t c->fL c)/\∃ v,T[t]?=some v/\R w (λc=>I c\/(Fs t c/\¬ fL c)) (ed w T g2) x v fL:=by
  intro t;cases J:g2 t with
  | none=>exact ⟨cR,λ_ h=>h.elim,λx h=>by cases h⟩
  | some x =>
   cases aC:fI t with
   | false =>
    obtain ⟨h1,ak⟩:=bB.lb t x J aC;obtain ⟨v,hv,bg⟩:=uA.rel t x h1;refine ⟨Fs t,λc aa=>⟨aa,by simp⟩,λy ay=>?_⟩;cases ay;exact ⟨λ_ _ h=>h,v,hv,((bg.hE (zH t x J)).br ak).mB λc aa=>.inl aa⟩
   | true =>
    obtain ⟨y,h1,ak,aN⟩:=bB.qd t x J aC;obtain ⟨v,hv,bg⟩:=uA.rel t y h1;have kd:=bg.hE (by rintro z p n m new rfl; cases ak);obtain ⟨fL,aL,QE⟩:=R.fI aN kd ak (λc aa=>uA.aD t c aa) uA.lt;refine ⟨fL,λc aa=>⟨aL c aa,by simp⟩,λz bB=>?_⟩;cases bB;exact ⟨λh=>absurd h (by simp),v,hv,QE.bE (aN.bE ak)⟩
 obtain ⟨cn,jc⟩:=Classical.axiomOfChoice this;refine ⟨λc=>I c\/∃ t,Fs t c/\g2 t≠none/\¬ cn t c,cn,⟨λt x J=>?_,λt aC c aa=>((jc t).1 c aa).2 aC,λt c' c aa fa=>h.eT t c' c ((jc t).1 c aa).1 ((jc c').1 c fa).1,λt c aa hi=>?_,λc aa=>?_,λt c' z p n m new cD cT b6 c7 h1 _=>absurd h1 (bB.fF _ _ _ _ _ _)⟩,Fr.refl _ _,λ_ h=>.inl h,λc aa=>?_,λc ⟨t,aa⟩=>.inl ⟨t,((jc t).1 c aa).1⟩⟩
 ·obtain ⟨_,v,hv,bg⟩:=(jc t).2 x J;exact ⟨v,hv,.tree (bg.mB λc aa=>aa.elim .inl λaa=>.inr ⟨t,aa.1,by rw [J]; simp,aa.2⟩)⟩
 ·rcases hi with aR | ⟨s,h1,_,ak⟩
  ·exact h.aD t c ((jc t).1 c aa).1 aR
  ·have:=h.eT t s c ((jc t).1 c aa).1 h1;subst this;exact ak aa
 ·rcases aa with aR | ⟨s,aR,_⟩
  ·exact h.lt c aR
  ·exact h.jL s c aR
 ·rcases aa with aR | ⟨s,aR,_⟩
  ·exact .inl aR
  ·exact .inr (.inl ⟨s,aR⟩)
theorem oa.sound (h:cV w I T g Fs) {a:Act}(bf:a.tmps=T) (bU:a.tmps.size=N.size) {o:Oper}{r:Option af}{d:Nat}(aL:oa P g ops o r) (aV:o.dst=some d) (aY:g d=none) (je:N.ok d=true) {K:Act->World->Prop}{Q:Exit->Act->World->Prop}
  (ep:∀ cx w',hR N a w I Fs (vn g d r) cx w'->K cx w') :
  if Region.wanted o (yielded ops a.tmps) then o.wp P a w K Q\/(o.asks P a w/\LetsOut Q) else K (a.put o.dst undef) w:=by
 subst bf;cases r with
 | none =>
  rw [iL.sound h aL];simp only [Bool.false_eq_true,if_false];refine ep _ _ ⟨by rw [aV]; rfl,by rw [aV]; exact hC.put je _ _,I,Fs,by rw [aV]; exact h.TH aY _,kt.refl _ _ _⟩
 | some x =>
  have fin:∀ x v w',sy w I a.tmps g Fs x v w'->(∀ cx w',hR N a w I Fs (eM g d x) cx w'->K cx w')->K (a.put o.dst v) w':=by
   rintro x v w' ⟨F,I',bW,bg,h1,ak,aN,bP,cZ,dv⟩ ep;refine ep _ _ ⟨by rw [aV]; rfl,by rw [aV]; exact hC.put je _ _,I',_,by rw [aV]; exact bW.sa aY (by rw [bU]; exact dy.lt je) bg (λt c aa bh=>h1 t c aa bh) (λc aa=>(ak c aa).2) dv,⟨cZ,aN,λc aa=>?_,λc aa=>?_⟩⟩
   ·rcases bP c aa with aR | aR
    ·exact .inl aR
    ·exact .inr (.inr aR)
   ·rcases tF aa with aR | aR
    ·exact .inl aR
    ·exact .inr (ak c aR).1
  have qd:∀ y v w',c6 y->View (λ_=>none) y x->sy w I a.tmps g Fs y v w'->sy w I a.tmps g Fs x v w':=by
   rintro y v w' aJ hv ⟨F,I',bW,bg,h1,ak,aN,bP,cZ,dv⟩;have dL:=bg.hE (by rintro z p n m new rfl; cases aJ);refine ⟨cR,λc=>I' c\/F c,⟨λt z bB=>?_,bW.kk,bW.eT,λt c aa hi=>?_,λc aa=>?_,bW.pE⟩,.tree (dL.qd aJ hv (λc aa=>(ak c aa).2) bW.lt),λ_ _ h=>h.elim,λ_ h=>h.elim,λc aa=>.inl (aN c aa),λc aa=>?_,cZ,?_⟩
   ·obtain ⟨u,hu,lY⟩:=bW.rel t z bB;exact ⟨u,hu,lY.mB λc aa=>.inl aa⟩
   ·rcases hi with h | h
    ·exact bW.aD t c aa h
    ·exact h1 t c h aa
   ·rcases aa with h | h
    ·exact bW.lt c h
    ·exact dL.lt c h
   ·rcases aa with h | h
    ·exact bP c h
    ·exact .inr (ak c h).1
   ·rintro z p n m new rfl;cases hv with
    | self h=>cases h
  rcases aL with aL | ⟨aL,rfl⟩ | ⟨aL,y,aE,aJ,hv⟩
  rotate_left
  rotate_left
  ·rw [iL.sound h aL];simp only [if_true];refine .inl ?_;have Jl:∀ v w',sy w I a.tmps g Fs y v w'->K (a.put o.dst v) w':=λv w' eb=>fin x v w' (qd y v w' aJ hv eb) ep;rcases aE with aE | aE
   ·obtain ⟨v,w',hU,eb⟩:=aE.sound h rfl;unfold Oper.wp Oper.upon;simp only [hU];exact Jl v w' eb
   ·exact aE.sound h rfl Jl
  rotate_left
  ·rw [iL.sound h aL];simp only [Bool.false_eq_true,if_false];refine ep _ _ ⟨by rw [aV]; rfl,by rw [aV]; exact hC.put je _ _,I,_,by rw [aV]; exact h.sa aY (by rw [bU]; exact dy.lt je) (.tree (.cr (Fs:=λ_=>cR) (F:=cR) rfl (λk x u J _=>by simp at J) (λ_ _ _ _ _ h=>h.elim) (λc=>⟨λh=>h.elim,λ⟨_,_,h⟩=>h⟩))) (λ_ _ h=>h.elim) (λ_ h=>h.elim) (λ_ _ _ _ _ e=>by cases e),⟨Fr.refl _ _,λ_ h=>h,λ_ h=>.inl h,λc aa=>?_⟩⟩;rcases tF aa with aR | aR
   ·exact .inl aR
   ·exact aR.elim
  rw [iL.sound h aL.1];simp only [if_true];refine .inl ?_;have fin:∀ v w',sy w I a.tmps g Fs x v w'->K (a.put o.dst v) w':=by
   rintro v w' ⟨F,I',bW,bg,h1,ak,aN,bP,cZ,dv⟩;refine ep _ _ ⟨by rw [aV]; rfl,by rw [aV]; exact hC.put je _ _,I',_,by rw [aV]; exact bW.sa aY (by rw [bU]; exact dy.lt je) bg (λt c aa bh=>h1 t c aa bh) (λc aa=>(ak c aa).2) dv,⟨cZ,aN,λc aa=>?_,λc aa=>?_⟩⟩
   ·rcases bP c aa with aR | aR
    ·exact .inl aR
    ·exact .inr (.inr aR)
   ·rcases tF aa with aR | aR
    ·exact .inl aR
    ·exact .inr (ak c aR).1
  rcases aL.2 with aE | aE
  ·obtain ⟨v,w',hU,eb⟩:=aE.sound h rfl;unfold Oper.wp Oper.upon;simp only [hU];exact fin v w' eb
  ·exact aE.sound h rfl fin
inductive m_ (P:Program) (N:dy) (ops:Array Oper):List Nat->aU->aU->Prop
 | nil {g:aU}:m_ P N ops [] g g
 | step {i:Nat}{rest:List Nat}{g g':aU}{o:Oper}{d:Nat}{r:Option af}(bd:ops[i]?=some o) (aV:o.dst=some d) (aY:g d=none) (je:N.ok d=true) (aL:oa P g ops o r)
   (av:m_ P N ops rest (vn g d r) g'):m_ P N ops (i::rest) g g'
 | nJ {i:Nat}{rest:List Nat}{g g1 g':aU}{o:Oper}(bd:ops[i]?=some o) (hw:iL g ops o true) (he:cq P N g o g1) (av:m_ P N ops rest g1 g'):m_ P N ops (i::rest) g g'
 | drop {is:List Nat}{g g':aU}{d:Nat}{x:af}(aV:g d=some x) (ao:leaf x=true) (av:m_ P N ops is (del g d) g'):m_ P N ops is g g'
 | forget {is:List Nat}{g g1 g':aU}(hk:gx g g1) (av:m_ P N ops is g1 g'):m_ P N ops is g g'
 | sP {is:List Nat}{g g1 g':aU}{fI:Nat->Bool}(hk:Dg fI g g1) (av:m_ P N ops is g1 g'):m_ P N ops is g g'
theorem m_.sound {is:List Nat}{g':aU}(av:m_ P N ops is g g'):∀ {a:Act}{w:World}{I:bn}{Fs:Nat->bn}{Q:Exit->Act->World->Prop},cV w I a.tmps g Fs->a.tmps.size=N.size ->
  (∀ cx w',hR N a w I Fs g' cx w'->Q .normal cx w')->wpOps P ops Q is a w:=by
 induction av with
 | nil=>exact λbW bU dK=>dK _ _ ⟨rfl,hC.refl,_,_,bW,kt.refl _ _ _⟩
 | @step i rest g g' o d r bd aV aY je aL _ aS =>
  intro a w I Fs Q bW bU dK;simp only [wpOps,bd];refine aL.sound bW rfl bU aV aY je λcx w' aJ=>?_;obtain ⟨de,cX,I',cn,er,cd⟩:=aJ;exact aS er (cX.1.trans bU) λa2 hZ ak=>dK _ _ (hR.trans de cX cd ak)
 | @nJ i rest g g1 g' o bd hw he _ aS =>
  intro a w I Fs Q bW bU dK;simp only [wpOps,bd,hw.sound bW,if_true];refine .inl (he.sound bW rfl bU λcx w' aJ=>?_);obtain ⟨de,cX,I',cn,er,cd⟩:=aJ;exact aS er (cX.1.trans bU) λa2 hZ ak=>dK _ _ (hR.trans de cX cd ak)
 | @drop is g g' d x aV ao _ aS=>exact λbW bU dK=>aS (bW.drop aV ao) bU dK
 | @sP is g g1 g' fI hk _ aS =>
  intro a w I Fs Q bW bU dK;obtain ⟨I',cn,er,cd⟩:=bW.sP hk;exact aS er bU λa2 hZ ak=>dK _ _ (hR.trans rfl hC.refl cd ak)
 | @forget is g g1 g' hk _ aS =>
  intro a w I Fs Q bW bU dK;have er:=bW.lP.keep hk;refine aS er bU λa2 hZ ak=>dK _ _ (hR.trans rfl hC.refl ⟨Fr.refl _ _,λ_ h=>h,λ_ h=>.inl h,λc aa=>?_⟩ ak);obtain ⟨t,_,aa⟩:=aa;exact .inl ⟨t,aa⟩
end
end Go.Own
namespace Go.Own
open Go
def sf (rs:List Nat):Place->Prop:=λp=>p.root∈rs
def n4 (P:Program) (N:dy) (rs:Place->Prop) (g:aU) (o:Oper) (g':aU):Prop :=
 ∀ (w:World) (I:bn) (T:Array Value) (Fs:Nat->bn),cV w I T g Fs->∀ (a:Act),a.tmps=T->a.tmps.size=N.size->∀ (K:Act->World->Prop) (Q:Exit->Act->World->Prop),
  (∀ (cx:Act) (w':World),hR N a w I Fs g' cx w'->(∀ t,o.dst≠some t->cx.tmps[t]?=a.tmps[t]?)->(∀ r path,rs ⟨r,path⟩->∀ y,b9 g ⟨r,path⟩=some y->(∀ z q n m new,y≠.b3 z q n m new)->ef w' cx.tmps ⟨r,path⟩=ef w T ⟨r,path⟩)->K cx w')->o.wp P a w K Q
theorem lS.v {P:Program}{N:dy}{g g':aU}{o:Oper}(h:lS P N g o g'):n4 P N (sf []) g o g' :=
 λw I T Fs bW a bf bU K Q ep=>h w I T Fs bW a bf bU K Q λcx w' h1 ak=>ep cx w' h1 ak λ_ _ h=>by simp [sf] at h
inductive n9:af->Prop
 | lit {v:Value}:n9 (.lit v)
 | aO:n9 .aO
 | aD {z n:Nat}{cs:List af}(h:∀ x∈cs,c6 x):n9 (.aD z n cs)
 | agg {cs:List af}(h:∀ x∈cs,n9 x):n9 (.agg cs)
theorem n9.bE {x:af}(h:n9 x):c6 x:=by
 induction h with
 | lit=>exact .lit
 | aO=>exact .aO
 | aD h=>exact .aD h
 | agg _ aS=>exact .agg aS
theorem n9.kk {w:World}{I:bn}{ρ:af->Value->Prop}{x:af}(h:n9 x):∀ {v:Value}{F:bn},R w I ρ x v F->∀ c,¬ F c:=by
 induction h with
 | lit =>
  intro v F bg;cases bg with
  | lit _ aP=>exact aP
  | ref J=>simp [af.isRef] at J
 | aO =>
  intro v F bg;cases bg with
  | aO aP=>exact aP
  | ref J=>simp [af.isRef] at J
 | aD =>
  intro v F bg;cases bg with
  | ref J=>simp [af.isRef] at J
  | hz aP=>exact aP
  | aD aP=>exact aP
 | @agg cs _ aS =>
  intro v F bg c aa;cases bg with
  | ref J=>simp [af.isRef] at J
  | @agg _ vs bZ _ ao h1 av aV kB =>
   obtain ⟨k,hk,ak⟩:=(kB c).1 aa;have hu:vs[k]?=some (vs[k]'(by omega)):=Array.getElem?_eq_getElem (by omega);exact aS _ (List.getElem_mem hk) (av k _ _ (List.getElem?_eq_getElem hk) hu) c ak
structure De (g:aU):Prop where
 br:∀ t x,g t=some x->eK g x
 fF:∀ t z q n m new,g t≠some (.b3 z q n m new)
def x3 (rs:Place->Prop) (g g1:aU) (o:Oper) (x:af):Prop:=(∃ r path z n N cs,x=.bq z ⟨r,path⟩ n/\rs ⟨r,path⟩/\b9 g ⟨r,path⟩=some (.own z N cs)/\b9 g1 ⟨r,path⟩=some (.own z N cs)/\n<=N)\/(∃ v,x=.lit v)\/(∃ s p k,x=.ptr p k/\g s=some x/\g1 s=some x/\o.dst≠some s)\/(∃ r k cs,x=.ptr ⟨r,[]⟩ k/\g1 r=some (.obj cs)/\k<cs.length/\o.dst≠some r/\∃ cs',g r=some (.obj cs')/\k<cs'.length)\/(∃ z n cs,x=.aD z n cs/\c6 x)\/(∃ cs,x=.agg cs/\n9 x/\De g)
section
variable {P:Program}{N:dy}{g g1:aU}{o:Oper}
theorem LV {T:Array Value}{t:Nat}{v:Value}(h:T[t]?=some v):T.setIfInBounds t v=T:=by
 apply Array.ext (by simp);intro i h1 ak;rw [Array.getElem_setIfInBounds];split
 ·rename_i e;subst e;have:=(Array.getElem?_eq_some_iff.1 h);exact this.2.symm
 ·rfl
theorem cV.O_ {w:World}{I:bn}{T:Array Value}{Fs:Nat->bn}{t:Nat}{x:af}(h:cV w I T (eM g t x) Fs) (aY:g t=none) (aa:De g) (kA:∀ c,¬ Fs t c):cV w I T g Fs:=by
 have gr:∀ s y,g s=some y->eM g t x s=some y:=λs y aL=>by
  unfold eM;rw [if_neg (λe=>by rw [e,aY] at aL; cases aL)]; exact aL
 have ak:=h.lP.keep (g2:=g) ⟨gr,aa.br,aa.fF⟩;have e:(λs c=>g s≠none/\Fs s c)=Fs:=by
  funext s c;apply propext;refine ⟨λh=>h.2,λbh=>⟨λaJ=>?_,bh⟩⟩;by_cases aL:s=t
  ·subst aL; exact kA c bh
  ·exact h.kk s (by unfold eM; rw [if_neg aL]; exact aJ) c bh
 rw [e] at ak;exact ak
theorem n4.extra {rs:Place->Prop}(h:n4 P N rs g o g1) {t:Nat}{x:af}(k9:∀ p,rs p->g p.root≠none) (aY:g t=none) (Ro:g1 t=none) (aC:o.dst≠some t) (J:x3 rs g g1 o x):n4 P N rs (eM g t x) o (eM g1 t x):=by
 intro w I T Fs bW a bf bU K Q ep;have FB:eM g t x t=some x:=by simp [eM]
 have lB:∀ z q n m new,x≠.b3 z q n m new:=by
  rcases J with ⟨r,path,z,n,N,cs,rfl,_⟩ | ⟨v,rfl⟩ | ⟨s,p,k,rfl,_⟩ | ⟨r,k,cs,rfl,_⟩ | ⟨z,n,cs,rfl,_⟩ | ⟨cs,rfl,_⟩ <;> simp
 have qR:cV w I T g Fs:=by
  have x9:leaf x=true->cV w I T g Fs:=λwP=>by
   have:=bW.drop FB wP;have e:del (eM g t x) t=g:=by
    funext s;unfold del eM;by_cases aL:s=t
    ·subst aL; simp [aY]
    ·simp [aL]
   rwa [e] at this
  rcases J with ⟨r,path,z,n,N,cs,rfl,_⟩ | ⟨v,rfl⟩ | ⟨s,p,k,rfl,_⟩ | ⟨r,k,cs,rfl,_⟩ | ⟨z,n,cs,rfl,_⟩ | ⟨cs,rfl,uJ,hx⟩
  ·exact x9 rfl
  ·exact x9 rfl
  ·exact x9 rfl
  ·exact x9 rfl
  ·exact x9 rfl
  ·obtain ⟨v,_,nM⟩:=bW.rel t _ FB;exact bW.O_ aY hx (uJ.kk (nM.hE (by simp)))
 obtain ⟨v,hv,nM⟩:=bW.rel t x FB;refine h w I T Fs qR a bf bU K Q λcx w' aJ qW KF=>ep cx w' ?_ qW λr path av y ay lB=>?_
 rotate_left
 ·by_cases Ks:r=t
  ·subst Ks;exact absurd aY (k9 _ av)
  ·exact KF r path av y (by simpa [b9,eM,Ks] using ay) lB
 obtain ⟨de,cX,I',cn,er,cd⟩:=aJ;have iS:cx.tmps[t]?=some v:=by rw [qW t aC,bf]; exact hv
 have kd:js w' I' (ed w' cx.tmps g1) x v cR:=by
  rcases J with ⟨r,path,z,n,sA,cs,rfl,av,wS,jI,RK⟩ | ⟨u,rfl⟩ | ⟨s,p,k,rfl,aL,Fw,RZ⟩ | ⟨r,k,cs,rfl,jI,hk,za,_⟩ | ⟨z,n,cs,rfl,l3⟩ | ⟨cs,rfl,uJ,hx⟩
  ·obtain ⟨⟨ar,iK,cap,hq,rfl,kQ⟩,_⟩:=(nM.hE (by simp)).l_;exact .tree (.ref rfl ⟨⟨ar,iK,cap,by rw [KF r path av _ wS (by simp)]; exact hq,rfl,kQ⟩,.inl ⟨sA,cs,jI,RK⟩⟩ λ_ h=>h)
  ·obtain ⟨rfl,aa⟩:=(nM.hE (by simp)).hV;exact .tree (.lit aa λ_ h=>h)
  ·obtain ⟨⟨Aw,ad,ar,a2,rfl⟩,_⟩:=(nM.hE (by simp)).mz;have cd:s≠t:=by rintro rfl; rw [aY] at aL; cases aL
   obtain ⟨u,hu,lY⟩:=qR.rel s _ aL;obtain ⟨⟨Wl,Vg,hq,h2,rfl⟩,_⟩:=(lY.hE (by simp)).mz;rw [ar] at hq;cases hq;rw [a2] at h2;cases h2;obtain ⟨sq,fw,EF⟩:=er.rel s _ Fw;have:cx.tmps[s]?=T[s]?:=by rw [qW s RZ,bf]
   rw [this,hu] at fw;cases fw;exact .tree (.ref rfl (EF.hE (by simp)).mz λ_ h=>h)
  ·obtain ⟨⟨Aw,ad,ar,a2,rfl⟩,_⟩:=(nM.hE (by simp)).mz;have fv:cx.tmps[r]?=T[r]?:=by rw [qW r za,bf]
   have te:∀ (w:World) (T:Array Value),ef w T ⟨r,[]⟩=T[r]?:=λw T=>by
    unfold ef; simp only; cases T[r]? <;> rfl
   exact .tree (.ref rfl ⟨⟨Aw,ad,by rw [te,fv,<- te w T]; exact ar,a2,rfl⟩,⟨.obj cs,by simp [b9,jI,af.at],0,0,cs,.inr rfl,hk⟩⟩ λ_ h=>h)
  ·have qm:∀ c,I c->w'.heap[c]?=w.heap[c]?:=λc aa=>cd.fp.block c (bW.lt c aa) λ⟨c',aR⟩=>qR.aD c' c aR aa;have EC:=(nM.hE (by simp)).bE l3 (ρ':=ed w' cx.tmps g1);have kA:∀ c,¬ Fs t c:=by
    cases nM.hE (by simp) with
    | ref J=>simp [af.isRef] at J
    | hz aP=>exact aP
    | aD aP=>exact aP
   exact .tree ((EC.frame qm cd.more (λ_ _ h=>h) λc aa=>absurd aa (kA c)).empty kA)
  ·have qm:∀ c,I c->w'.heap[c]?=w.heap[c]?:=λc aa=>cd.fp.block c (bW.lt c aa) λ⟨c',aR⟩=>qR.aD c' c aR aa;have kA:=uJ.kk (nM.hE (by simp));have EC:=(nM.hE (by simp)).bE uJ.bE (ρ':=ed w' cx.tmps g1);exact .tree ((EC.frame qm cd.more (λ_ _ h=>h) λc aa=>absurd aa (kA c)).empty kA)
 have mw:=er.sa (d:=t) (x:=x) (v:=v) (F:=cR) Ro (Array.getElem?_eq_some_iff.1 iS).1 kd (λ_ _ h=>h.elim) (λ_ h=>h.elim) (λz p n m new e=>absurd e (lB _ _ _ _ _));rw [LV iS] at mw;refine ⟨de,cX,I',_,mw,⟨cd.fp,cd.more,cd.new,λc aa=>?_⟩⟩;rcases tF aa with aR | aR
 ·exact cd.own c aR
 ·exact aR.elim
theorem lS.frame {g0 Eh:aU}{r:Nat}{x:af}(h:lS P N g0 o Eh) (av:g r=some x) (J:c6 x) (hk:gx g g0) (ba:g0 r=none) (h1:Eh r=none) (aV:o.dst≠some r):n4 P N (sf [r]) g o (eM Eh r x):=by
 intro w I T Fs bW a bf bU K Q ep;have qR:=bW.lP.keep hk;refine h w I T _ qR a bf bU K Q λcx w' aJ qW=>?_;obtain ⟨de,cX,I',cn,er,cd⟩:=aJ;obtain ⟨u,hu,bg⟩:=bW.rel r x av;have fw:cx.tmps[r]?=some u:=by rw [qW r aV,bf]; exact hu
 have lB:∀ z q n m new,x≠.b3 z q n m new:=by rintro z q n m new rfl; cases J
 have off:∀ c,Fs r c->¬ ∃ t,(g0 t≠none/\Fs t c):=by
  rintro c aa ⟨t,jN,ak⟩;have:=bW.eT t r c ak aa;subst this;exact jN ba
 have same:∀ c,Fs r c->w'.heap[c]?=w.heap[c]?:=λc aa=>cd.fp.block c (bW.jL r c aa) (off c aa);have qm:∀ c,I c->w'.heap[c]?=w.heap[c]?:=λc aa=>cd.fp.block c (bW.lt c aa) λ⟨t,_,aR⟩=>bW.aD t c aR aa;have mw:=er.sa (d:=r) (x:=x) (v:=u) (F:=Fs r) h1 (Array.getElem?_eq_some_iff.1 fw).1 (.tree (((bg.hE lB).bE J).frame qm cd.more (λ_ _ h=>h) same)) (λt c aa bh=>by
   rcases cd.own c ⟨t,bh⟩ with aR | aR
   ·exact off c aa aR
   ·have:=bW.jL r c aa; omega) (λc aa hi=>by
   rcases cd.new c hi with aR | aR | aR
   ·exact bW.aD r c aa aR
   ·exact off c aa aR
   ·have:=bW.jL r c aa; omega) (λz p n m new e=>absurd e (lB _ _ _ _ _))
 rw [LV fw] at mw;refine ep cx w' ⟨de,cX,I',_,mw,⟨cd.fp.mono λb _ ⟨t,_,aR⟩=>⟨t,aR⟩,cd.more,λc aa=>?_,λc aa=>?_⟩⟩ qW λeR path eC y ay hyp=>?_
 ·rcases cd.new c aa with aR | ⟨t,_,aR⟩ | aR
  ·exact .inl aR
  ·exact .inr (.inl ⟨t,aR⟩)
  ·exact .inr (.inr aR)
 ·rcases tF aa with aR | aR
  ·rcases cd.own c aR with ⟨t,_,gl⟩ | gl
   ·exact .inl ⟨t,gl⟩
   ·exact .inr gl
  ·exact .inl ⟨r,aR⟩
 ·have eC:eR∈[r]:=eC;simp only [List.mem_singleton] at eC;subst eC;have hc:gx g (λt=>if t=eR then some x else none):=by
   refine ⟨λt y jH=>?_,λt y jH=>?_,λt z q n m new jH=>?_⟩
   all_goals
    by_cases e:t=eR
    case neg=>simp [e] at jH
   ·subst e; simp at jH; subst jH; exact av
   ·subst e; simp at jH; subst jH; exact .bE J
   ·subst e; simp at jH; exact lB _ _ _ _ _ jH
  refine (bW.lP.keep hc).vC (T':=cx.tmps) (λt aC=>?_) (λt c aa=>?_) (p:=⟨eR,path⟩) (y:=y) ?_
  ·by_cases e:t=eR
   ·subst e; rw [qW t aV,bf]
   ·simp [e] at aC
  ·by_cases e:t=eR
   ·subst e; exact same c aa.2
   ·simp [e] at aa
  ·simp only [b9,if_true];simpa [b9,av] using ay
end
end Go.Own
namespace Go.Own
open Go
abbrev Acc:=List (Nat × Nat × Option af)
def d_ (g0:aU) (A:Nat->Bool):Acc->aU
 | [],t=>g0 t
 | (k,d,r)::acc,t=>if d=t then (if A k then r else none) else d_ g0 A acc t
def mc:Nat × Nat × Option af->Option Place
 | (_,_,some (.b3 _ p _ _ _))=>some p
 | _=>none
def qF (ops:Array Oper) (cc:List (List Nat)):Bool :=
 (List.range ops.size).all λk =>
  match ops[k]? with
  | none=>true
  | some o=>(o.after.all λe=>!Region.binds .any e||decide (e.on<k))&&(cc.getD k []).all λm=>decide (m<k)&&o.after.any λe=>Region.binds .any e&&(e.on == m||(cc.getD e.on []).contains m)
inductive iy (P:Program) (N:dy) (ops:Array Oper) (cc:List (List Nat)) (g0:aU) (i:Nat) (ee:Acc):Nat->Acc->Prop
 | nil:iy P N ops cc g0 i ee i ee
 | step {ae:Nat}{acc:Acc}{o:Oper}{d:Nat}{r:Option af}(h:iy P N ops cc g0 i ee ae acc) (bd:ops[ae]?=some o) (aV:o.dst=some d) (aY:g0 d=none) (aJ:∀ e∈acc,e.2.1≠d) (je:N.ok d=true)
   (aL:oa P (d_ g0 (λm=>(cc.getD ae []).contains m) acc) ops o r):iy P N ops cc g0 i ee (ae+1) ((ae,d,r)::acc)
structure ml (P:Program) (N:dy) (ops:Array Oper) (cc:List (List Nat)) (g0:aU) (i:Nat) (ee:Acc):Prop where
 lt:∀ e∈ee,e.1<i
 free:∀ e∈ee,g0 e.2.1=none
 nd:(ee.map (·.2.1)).Nodup
 Mn:∀ e∈ee,∀ cO∈ee,(e.1=cO.1\/e.2.1=cO.2.1)->e=cO
 st:∀ e∈ee,∃ hl,ops[e.1]?=some hl/\hl.dst=some e.2.1/\N.ok e.2.1=true/\oa P (d_ g0 (λm=>(cc.getD e.1 []).contains m) ee) ops hl e.2.2
theorem ml.nil {P:Program}{N:dy}{ops:Array Oper}{cc:List (List Nat)}{g0:aU}{i:Nat}:ml P N ops cc g0 i []:=⟨by simp,by simp,by simp,by simp,by simp⟩
inductive qz (P:Program) (N:dy) (ops:Array Oper) (cc:List (List Nat)):Nat->Acc->aU->aU->Prop
 | fin {i:Nat}{ee:Acc}{g:aU}{acc:Acc}(aL:iy P N ops cc g i ee ops.size acc) (hD:(acc.filterMap mc).Nodup) (jg:∀ t z q n m new,g t≠some (.b3 z q n m new)):qz P N ops cc i ee g (d_ g (λ_=>true) acc)
 | x7 {i ae:Nat}{g g1 g':aU}{ee acc U:Acc}{o:Oper}{rs:Place->Prop}(aL:iy P N ops cc g i ee ae acc) (hD:(acc.filterMap mc).Nodup) (jg:∀ t z q n m new,g t≠some (.b3 z q n m new)) (bd:ops[ae]?=some o) (hw:iL (d_ g (λm=>(cc.getD ae []).contains m) acc) ops o true)
   (he:n4 P N rs (d_ g (λm=>(cc.getD ae []).contains m) acc) o g1) (k9:∀ p,rs p->g p.root≠none) (gA:U=acc.filter λe=>!(cc.getD ae []).contains e.1) (J:∀ e∈U,∃ x,e.2.2=some x/\x3 rs (d_ g (λm=>(cc.getD ae []).contains m) acc) g1 o x) (h1:∀ e∈U,g1 e.2.1=none/\o.dst≠some e.2.1)
   (ak:∀ e∈U,∃ hl,ops[e.1]?=some hl/\hl.dst=some e.2.1/\N.ok e.2.1=true/\oa P (d_ g1 (λm=>(cc.getD e.1 []).contains m) U) ops hl e.2.2)
   (aF:(List.range ops.size).all (λk=>decide (k<=ae)||(cc.getD k []).contains ae)=true) (av:qz P N ops cc (ae+1) U g1 g'):qz P N ops cc i ee g g'
theorem k2 {g0:aU}{A:Nat->Bool}{acc:Acc}{t:Nat}(h:∀ e∈acc,e.2.1≠t):d_ g0 A acc t=g0 t:=by
 induction acc with
 | nil=>rfl
 | cons e acc aS =>
  obtain ⟨k,d,r⟩:=e;simp only [d_];rw [if_neg (h (k,d,r) (by simp)),aS λe he=>h e (by simp [he])]
theorem ss {g0:aU}{A:Nat->Bool}{acc:Acc}{t:Nat}{x:af}(h:d_ g0 A acc t=some x):(∃ e∈acc,e.2.1=t/\A e.1=true/\e.2.2=some x)\/((∀ e∈acc,e.2.1≠t)/\g0 t=some x):=by
 induction acc with
 | nil=>exact .inr ⟨by simp,h⟩
 | cons e acc aS =>
  obtain ⟨k,d,r⟩:=e;simp only [d_] at h;by_cases aV:d=t
  ·rw [if_pos aV] at h;by_cases dU:A k=true
   ·rw [if_pos dU] at h; exact .inl ⟨(k,d,r),by simp,aV,dU,h⟩
   ·rw [if_neg dU] at h; cases h
  ·rw [if_neg aV] at h;rcases aS h with ⟨e,he,r⟩ | ⟨h1,ak⟩
   ·exact .inl ⟨e,by simp [he],r⟩
   ·refine .inr ⟨λe he=>?_,ak⟩;rcases List.mem_cons.1 he with rfl | he
    ·exact aV
    ·exact h1 e he
theorem Hb {g:aU}{A:Nat->Bool}{acc:Acc}(hu:∀ e∈acc,∀ cO∈acc,e.2.1=cO.2.1->e=cO) {e:Nat × Nat × Option af}(he:e∈acc):d_ g A acc e.2.1=if A e.1 then e.2.2 else none:=by
 induction acc with
 | nil=>cases he
 | cons a acc aS =>
  obtain ⟨k,d,r⟩:=a;simp only [d_];by_cases aV:d=e.2.1
  ·have:=hu (k,d,r) (by simp) e he aV;subst this;simp
  ·rw [if_neg aV];rcases List.mem_cons.1 he with rfl | he
   ·exact absurd rfl aV
   ·exact aS (λx J y ay=>hu x (by simp [J]) y (by simp [ay])) he
section
variable {P:Program}{N:dy}{ops:Array Oper}{cc:List (List Nat)}{g0:aU}{i:Nat}
variable {ee:Acc}
theorem iy.le {ae:Nat}{acc:Acc}(h:iy P N ops cc g0 i ee ae acc) (gA:ml P N ops cc g0 i ee):i<=ae/\∀ e∈acc,e.1<ae:=by
 induction h with
 | nil=>exact ⟨Nat.le_refl _,gA.lt⟩
 | step _ _ _ _ _ _ _ aS =>
  refine ⟨by omega,λe he=>?_⟩;rcases List.mem_cons.1 he with rfl | he
  ·simp
  ·have:=aS.2 e he; omega
theorem iy.ge {ae:Nat}{acc:Acc}(h:iy P N ops cc g0 i ee ae acc) (gA:ml P N ops cc g0 i ee):∀ e∈acc,e∈ee\/i<=e.1:=by
 induction h with
 | nil=>exact λe he=>.inl he
 | step aL _ _ _ _ _ _ aS =>
  intro e he;rcases List.mem_cons.1 he with rfl | he
  ·exact .inr (aL.le gA).1
  ·exact aS e he
theorem iy.G0 {ae:Nat}{acc:Acc}(h:iy P N ops cc g0 i ee ae acc):∀ e∈ee,e∈acc:=by
 induction h with
 | nil=>exact λe he=>he
 | step _ _ _ _ _ _ _ aS=>exact λe he=>by simp [aS e he]
theorem iy.fresh {ae:Nat}{acc:Acc}(h:iy P N ops cc g0 i ee ae acc) (gA:ml P N ops cc g0 i ee):∀ e∈acc,g0 e.2.1=none:=by
 induction h with
 | nil=>exact gA.free
 | step _ _ _ aY _ _ _ aS =>
  intro e he;rcases List.mem_cons.1 he with rfl | he
  ·exact aY
  ·exact aS e he
theorem iy.nodup {ae:Nat}{acc:Acc}(h:iy P N ops cc g0 i ee ae acc) (gA:ml P N ops cc g0 i ee):(acc.map (·.2.1)).Nodup:=by
 induction h with
 | nil=>exact gA.nd
 | step _ _ _ _ aJ _ _ aS =>
  refine List.nodup_cons.2 ⟨λhm=>?_,aS⟩;obtain ⟨e,he,h⟩:=List.mem_map.1 hm;exact aJ e he h
theorem iy.uniq {ae:Nat}{acc:Acc}(h:iy P N ops cc g0 i ee ae acc) (gA:ml P N ops cc g0 i ee):∀ {e cO:Nat × Nat × Option af},e∈acc->cO∈acc->(e.1=cO.1\/e.2.1=cO.2.1)->e=cO:=by
 induction h with
 | nil=>exact λ{e cO} he hI b_=>gA.Mn e he cO hI b_
 | @step ae acc o d r aL _ _ _ aJ _ _ aS =>
  intro e cO he hI b_;rcases List.mem_cons.1 he with rfl | he <;> rcases List.mem_cons.1 hI with rfl | hI
  ·rfl
  ·rcases b_ with b_ | b_
   ·have:=(aL.le gA).2 cO hI; simp at b_; omega
   ·exact absurd b_.symm (aJ cO hI)
  ·rcases b_ with b_ | b_
   ·have:=(aL.le gA).2 e he; simp at b_; omega
   ·exact absurd b_ (aJ e he)
  ·exact aS he hI b_
theorem iy.at_mem {ae:Nat}{acc:Acc}(h:iy P N ops cc g0 i ee ae acc) (gA:ml P N ops cc g0 i ee) {A:Nat->Bool}{e:Nat × Nat × Option af}(he:e∈acc):d_ g0 A acc e.2.1=if A e.1 then e.2.2 else none :=
 Hb (λ_ J _ ay aR=>h.uniq gA J ay (.inr aR)) he
theorem iy.get {ae:Nat}{acc:Acc}(h:iy P N ops cc g0 i ee ae acc) (gA:ml P N ops cc g0 i ee):∀ e∈acc,∃ o wa,ops[e.1]?=some o/\o.dst=some e.2.1/\N.ok e.2.1=true/\oa P (d_ g0 (λm=>(cc.getD e.1 []).contains m) wa) ops o e.2.2/\∀ e∈wa,e∈acc:=by
 induction h with
 | nil =>
  intro e he;obtain ⟨hl,h1,ak,aN,bP⟩:=gA.st e he;exact ⟨hl,ee,h1,ak,aN,bP,λ_ h=>h⟩
 | @step ae acc o d r aL bd aV aY aJ je cd aS =>
  intro e he;rcases List.mem_cons.1 he with rfl | he
  ·exact ⟨o,acc,bd,aV,je,cd,λe he=>by simp [he]⟩
  ·obtain ⟨hl,wa,ar,a2,a3,a4,a5⟩:=aS e he;exact ⟨hl,wa,ar,a2,a3,a4,λe he=>by simp [a5 e he]⟩
theorem iy.has {ae:Nat}{acc:Acc}(h:iy P N ops cc g0 i ee ae acc):∀ k,i<=k->k<ae->∃ e∈acc,e.1=k:=by
 induction h with
 | nil=>intro k h1 ak; omega
 | @step ae acc o d r aL bd aV aY aJ je cd aS =>
  intro k h1 ak;by_cases hk:k=ae
  ·exact ⟨_,List.mem_cons_self,hk.symm⟩
  ·obtain ⟨e,he,h⟩:=aS k h1 (by omega);exact ⟨e,by simp [he],h⟩
theorem Tx {acc:Acc}(hD:(acc.filterMap mc).Nodup) {e cO:Nat × Nat × Option af}{p:Place}(he:e∈acc) (hI:cO∈acc) (h:mc e=some p) (aR:mc cO=some p):e=cO:=by
 induction acc with
 | nil=>simp at he
 | cons a acc aS =>
  have mem:∀ {x:Nat × Nat × Option af},x∈acc->mc x=some p->p∈acc.filterMap mc:=λJ aE=>List.mem_filterMap.2 ⟨_,J,aE⟩;rcases List.mem_cons.1 he with rfl | J0 <;> rcases List.mem_cons.1 hI with rfl | J1
  ·rfl
  ·rw [List.filterMap_cons,h] at hD;exact absurd (mem J1 aR) (List.nodup_cons.1 hD).1
  ·rw [List.filterMap_cons,aR] at hD;exact absurd (mem J0 h) (List.nodup_cons.1 hD).1
  ·refine aS ?_ J0 J1;rw [List.filterMap_cons] at hD;cases aE:mc a with
   | none=>rw [aE] at hD; exact hD
   | some q=>rw [aE] at hD; exact (List.nodup_cons.1 hD).2
def eO (listed:Array Bool) (k:Nat):Bool:=listed.getD k false
def hr (ops:Array Oper) (listed:Array Bool):Nat:=((List.range ops.size).filter λk=>!eO listed k).length
theorem uc {listed:Array Bool}{k:Nat}(hk:k<ops.size) (ao:eO listed k=false) (fZ:listed.size=ops.size):hr ops (listed.setIfInBounds k true)+1<=hr ops listed:=by
 unfold hr;have key:∀ l:List Nat,l.Nodup->((l.filter λae=>!eO (listed.setIfInBounds k true) ae).length+if k∈l then 1 else 0)=(l.filter λae=>!eO listed ae).length:=by
  intro l
  induction l with
  | nil=>intro _; simp
  | cons ae l aS =>
   intro fU;have Ki:=List.nodup_cons.1 fU;have KL:=aS Ki.2;by_cases ez:ae=k
   ·subst ez;have h1:eO (listed.setIfInBounds ae true) ae=true:=by simp [eO,fZ,hk]
    rw [List.filter_cons,List.filter_cons];simp only [h1,ao,Bool.not_true,Bool.not_false,if_true,if_false,Bool.false_eq_true,List.length_cons,List.mem_cons,true_or];rw [if_neg Ki.1] at KL;omega
   ·have h1:eO (listed.setIfInBounds k true) ae=eO listed ae:=by simp [eO,Array.getElem?_setIfInBounds_ne (Ne.symm ez)]
    rw [List.filter_cons,List.filter_cons,h1];have l2:(k∈ae::l)↔k∈l:=by simp [Ne.symm ez]
    by_cases aF:(!eO listed ae)=true
    ·simp only [aF,if_true,List.length_cons,l2]; omega
    ·simp only [aF,l2]; simpa using KL
 have:=key (List.range ops.size) List.nodup_range;rw [if_pos (List.mem_range.2 hk)] at this;omega
end
end Go.Own
namespace Go.Own
open Go
section
variable {P:Program}{N:dy}{ops:Array Oper}{cc:List (List Nat)}
def Down (cc:List (List Nat)) (listed:Array Bool):Prop:=∀ k,eO listed k=true->∀ m∈cc.getD k [],eO listed m=true
theorem HP (h:qF ops cc=true) {k:Nat}{o:Oper}(bd:ops[k]?=some o) :
  (∀ e∈o.after,Region.binds .any e=true->e.on<k)/\∀ m∈cc.getD k [],m<k/\∃ e∈o.after,Region.binds .any e=true/\(e.on=m\/m∈cc.getD e.on []):=by
 have hk:k<ops.size:=(Array.getElem?_eq_some_iff.1 bd).1;unfold qF at h;have:=List.all_eq_true.1 h k (List.mem_range.2 hk);simp only [bd,Bool.and_eq_true] at this;obtain ⟨h1,ak⟩:=this;constructor
 ·intro e he aF;have:=Array.all_eq_true_iff_forall_mem.1 h1 e he;simpa [aF] using this
 ·intro m hm;have:=List.all_eq_true.1 ak m hm;simp only [Bool.and_eq_true,decide_eq_true_eq] at this;refine ⟨this.1,?_⟩;obtain ⟨ae,ab,aF⟩:=Array.any_eq_true.1 this.2;have he:=Array.getElem_mem ab;generalize o.after[ae]=e at aF he;simp only [Bool.and_eq_true,Bool.or_eq_true,beq_iff_eq,List.contains_iff_mem] at aF;exact ⟨e,he,aF.1,aF.2⟩
theorem vo {listed:Array Bool}{k:Nat}(h:k∈Region.ready .any ops listed):eO listed k=false/\∃ o,ops[k]?=some o/\∀ e∈o.after,Region.binds .any e=true->eO listed e.on=true:=by
 obtain ⟨h1,o,bd,ak⟩:=mem_ready.1 h;refine ⟨?_,o,bd,ak⟩;unfold eO;rcases Nat.lt_or_ge k listed.size with hk | hk
 ·simp [hk] at h1 ⊢; exact h1
 ·simp [Array.getElem?_eq_none hk] at h1
theorem GF (dU:qF ops cc=true) {listed:Array Bool}(aV:Down cc listed) {k:Nat}(h:k∈Region.ready .any ops listed):∀ m∈cc.getD k [],eO listed m=true:=by
 obtain ⟨_,o,bd,ak⟩:=vo h;intro m hm;obtain ⟨_,e,he,aF,aN⟩:=(HP dU bd).2 m hm;rcases aN with rfl | aN
 ·exact ak e he aF
 ·exact aV e.on (ak e he aF) m aN
theorem Ls (dU:qF ops cc=true) {listed:Array Bool}(fZ:listed.size=ops.size):∀ k,k<ops.size->eO listed k=false->Region.ready .any ops listed≠[]:=by
 intro k
 induction k using Nat.strongRecOn with
 | _ k aS =>
  intro hk ao;by_cases hex:∃ ae,ae<k/\eO listed ae=false
  ·obtain ⟨ae,ab,RD⟩:=hex;exact aS ae ab (by omega) RD
  ·have l2:k∈Region.ready .any ops listed:=by
    refine mem_ready.2 ⟨?_,ops[k],Array.getElem?_eq_getElem hk,λe he aF=>?_⟩
    ·unfold eO at ao;simp [fZ,hk] at ao ⊢; exact ao
    ·have a8:=(HP dU (Array.getElem?_eq_getElem hk)).1 e he aF;cases hle:eO listed e.on with
     | true=>exact hle
     | false=>exact absurd ⟨e.on,a8,hle⟩ hex
   intro e;rw [e] at l2;cases l2
theorem Ax {g0:aU}{A B:Nat->Bool}{acc:Acc}{t:Nat}(h:∀ e∈acc,e.2.1=t->A e.1=B e.1):d_ g0 A acc t=d_ g0 B acc t:=by
 induction acc with
 | nil=>rfl
 | cons e acc aS =>
  obtain ⟨k,d,r⟩:=e;simp only [d_];by_cases aV:d=t
  ·rw [if_pos aV,if_pos aV,h (k,d,r) (by simp) aV]
  ·rw [if_neg aV,if_neg aV,aS λe he=>h e (by simp [he])]
theorem AR {listed:Array Bool}{k ae:Nat}(hk:k<listed.size):eO (listed.setIfInBounds k true) ae=if ae=k then true else eO listed ae:=by
 by_cases ez:ae=k
 ·subst ez; simp [eO,hk]
 ·rw [if_neg ez]; simp [eO,Array.getElem?_setIfInBounds_ne (Ne.symm ez)]
theorem UL {g0:aU}{i ae:Nat}{acc U ee:Acc}(aL:iy P N ops cc g0 i ee ae acc) (dn:ml P N ops cc g0 i ee) {A S:Nat->Bool}(gA:U=acc.filter λe=>!A e.1) (Qe:∀ e∈acc,A e.1=true->S e.1=true):d_ g0 S acc=d_ (d_ g0 A acc) S U:=by
 subst gA;funext t;by_cases hex:∃ e∈acc,e.2.1=t
 ·obtain ⟨e,he,rfl⟩:=hex;rw [aL.at_mem dn he];by_cases dU:A e.1=true
  ·rw [k2,aL.at_mem dn he,if_pos dU,if_pos (Qe e he dU)];intro cO hI h;obtain ⟨h1,ak⟩:=List.mem_filter.1 hI;have:=aL.uniq dn h1 he (.inr h);subst this;simp [dU] at ak
  ·rw [Hb (λx J y ay h=>aL.uniq dn (List.mem_filter.1 J).1 (List.mem_filter.1 ay).1 (.inr h)) (List.mem_filter.2 ⟨he,by simpa using dU⟩)]
 ·rw [k2 λe he h=>hex ⟨e,he,h⟩,k2 λe he h=>hex ⟨e,(List.mem_filter.1 he).1,h⟩,k2 λe he h=>hex ⟨e,he,h⟩]
theorem eK.mono {g g':aU}(aY:∀ t x,g t=some x->g' t=some x) {x:af}(h:eK g x):eK g' x:=by
 induction h with
 | bE h=>exact .bE h
 | ref J h=>exact .ref J (h.mono aY)
 | own _ aS=>exact .own aS
 | obj _ aS=>exact .obj aS
 | agg _ aS=>exact .agg aS
 | cr _ aS=>exact .cr aS
 | ea _ _ ga fW=>exact .ea ga fW
 | b3 aE _ aS=>exact .b3 (aE.mono aY) aS
theorem IX {lX g1:aU}{o:Oper}{S:Nat->Bool}{rs:Place->Prop}(h:n4 P N rs lX o g1) (k9:∀ p,rs p->lX p.root≠none):∀ (U:Acc),(∀ e∈U,∃ x,e.2.2=some x/\x3 rs lX g1 o x)->(∀ e∈U,lX e.2.1=none/\g1 e.2.1=none/\o.dst≠some e.2.1)->(U.map (·.2.1)).Nodup->n4 P N rs (d_ lX S U) o (d_ g1 S U)
 | [],_,_,_=>h
 | (k,d,r)::U,J,h1,fU=>by
  simp only [List.map_cons,List.nodup_cons] at fU;have aS:=IX (S:=S) h k9 U (λe he=>J e (by simp [he])) (λe he=>h1 e (by simp [he])) fU.2;obtain ⟨x,e,cd⟩:=J (k,d,r) (by simp);simp only at e;subst e;obtain ⟨ar,a2,a3⟩:=h1 (k,d,some x) (by simp);simp only at ar a2 a3;have oG:∀ e∈U,e.2.1≠d:=λe he aR=>fU.1 (List.mem_map.2 ⟨e,he,aR⟩);cases bW:S k with
  | true =>
   have e:∀ g:aU,d_ g S ((k,d,some x)::U)=eM (d_ g S U) d x:=λg=>by
    funext t;simp only [d_,eM,bW,if_true];by_cases aV:d=t
    ·rw [if_pos aV,if_pos aV.symm]
    ·rw [if_neg aV,if_neg (Ne.symm aV)]
   rw [e,e];have CD:∀ r,lX r≠none->∀ e∈U,e.2.1≠r:=λr av e he aR=>by
    have:=(h1 e (by simp [he])).1;rw [aR] at this;exact av this
   have Tq:∀ r,g1 r≠none->∀ e∈U,e.2.1≠r:=λr av e he aR=>by
    have:=(h1 e (by simp [he])).2.1;rw [aR] at this;exact av this
   refine aS.extra (λr av=>by rw [k2 (CD r.root (k9 r av))]; exact k9 r av) (by rw [k2 oG]; exact ar) (by rw [k2 oG]; exact a2) a3 ?_;rcases cd with ⟨r,path,z,n,sA,cs,rfl,hq,h2,kQ,A9⟩ | ⟨v,rfl⟩ | ⟨s,p,m,rfl,hq,h2,kQ⟩ | ⟨s,m,cs,rfl,hq,h2,kQ,cs',A9,NB⟩ | ⟨z,n,cs,rfl,hq⟩ | ⟨cs,rfl,hq,h2⟩
   ·refine .inl ⟨r,path,z,n,sA,cs,rfl,hq,?_,?_,A9⟩
    ·have:lX r≠none:=k9 _ hq;simpa [b9,k2 (CD r this)] using h2
    ·have:g1 r≠none:=λe=>by simp [b9,e] at kQ
     simpa [b9,k2 (Tq r this)] using kQ
   ·exact .inr (.inl ⟨v,rfl⟩)
   ·refine .inr (.inr (.inl ⟨s,p,m,rfl,?_,?_,kQ⟩))
    ·rw [k2]; exact hq;intro e he aR;have:=(h1 e (by simp [he])).1;rw [aR,hq] at this; cases this
    ·rw [k2]; exact h2;intro e he aR;have:=(h1 e (by simp [he])).2.1;rw [aR,h2] at this; cases this
   ·refine .inr (.inr (.inr (.inl ⟨s,m,cs,rfl,?_,h2,kQ,cs',?_,NB⟩)))
    ·rw [k2]; exact hq;intro e he aR;have:=(h1 e (by simp [he])).2.1;rw [aR,hq] at this; cases this
    ·rw [k2 (CD s (by rw [A9]; simp))]; exact A9
   ·exact .inr (.inr (.inr (.inr (.inl ⟨z,n,cs,rfl,hq⟩))))
   ·refine .inr (.inr (.inr (.inr (.inr ⟨cs,rfl,hq,?_⟩))));have hle:∀ t y,lX t=some y->d_ lX S U t=some y:=λt y ay=>by rw [k2 (CD t (by rw [ay]; simp))]; exact ay
    refine ⟨λt y ay=>?_,λt z q n m new ay=>?_⟩
    ·rcases ss ay with ⟨cO,hI,_,_,E1⟩ | ⟨_,ay⟩
     ·obtain ⟨y',yn,zf⟩:=J cO (by simp [hI]);rw [E1] at yn; cases yn;rcases zf with ⟨r,path,z,n,sA,cs,rfl,c1,c2,lV,c4⟩ | ⟨v,rfl⟩ | ⟨s,p,m,rfl,c1,_⟩ | ⟨s,m,cs,rfl,_,_,_,cs',c4,lq⟩ | ⟨z,n,cs,rfl,c1⟩ | ⟨cs,rfl,c1,_⟩
      ·exact .ref rfl (.inl ⟨sA,cs,kc hle c2,c4⟩)
      ·exact .bE .lit
      ·exact eK.mono hle (h2.br s _ c1)
      ·exact .ref rfl ⟨.obj cs',by simp [b9,hle s _ c4,af.at],0,0,cs',.inr rfl,lq⟩
      ·exact .bE c1
      ·exact .bE c1.bE
     ·exact eK.mono hle (h2.br t y ay)
    ·rcases ss ay with ⟨cO,hI,_,_,E1⟩ | ⟨_,ay⟩
     ·obtain ⟨y',yn,zf⟩:=J cO (by simp [hI]);rw [E1] at yn; cases yn;rcases zf with ⟨r,path,z,n,sA,cs,h,_⟩ | ⟨v,h⟩ | ⟨s,p,m,h,_⟩ | ⟨s,m,cs,h,_⟩ | ⟨z,n,cs,h,_⟩ | ⟨cs,h,_⟩ <;> cases h
     ·exact h2.fF _ _ _ _ _ _ ay
  | false =>
   have e:∀ g:aU,g d=none->d_ g S ((k,d,some x)::U)=d_ g S U:=λg aY=>by
    funext t;simp only [d_,bW];by_cases aV:d=t
    ·subst aV; rw [if_pos rfl,k2 oG,aY]; rfl
    ·rw [if_neg aV]
   rw [e lX ar,e g1 a2];exact aS
theorem Lq (dU:qF ops cc=true) {g0:aU}{i ae:Nat}{acc ee:Acc}(aL:iy P N ops cc g0 i ee ae acc) (dn:ml P N ops cc g0 i ee) (hD:(acc.filterMap mc).Nodup) (jg:∀ t z q n m new,g0 t≠some (.b3 z q n m new)) {listed:Array Bool}(fZ:listed.size=ops.size) (aV:Down cc listed)
  {a:Act}{w:World}{I:bn}{Fs:Nat->bn}(bW:cV w I a.tmps (d_ g0 (eO listed) acc) Fs) (bU:a.tmps.size=N.size) {e:Nat × Nat × Option af}(he:e∈acc) (hk:e.1∈Region.ready .any ops listed) {K:Act->World->Prop}{Q:Exit->Act->World->Prop}
  (ep:∀ cx w' I' cn,cx.defers=a.defers->hC N a.tmps cx.tmps->cV w' I' cx.tmps (d_ g0 (eO (listed.setIfInBounds e.1 true)) acc) cn->kt w I (λc=>∃ t,Fs t c) w' I' (λc=>∃ t,cn t c)->K cx w'):wpOp P ops Q e.1 K a w:=by
 obtain ⟨dO,kJ,uI,_⟩:=vo hk;have s8:=(Array.getElem?_eq_some_iff.1 uI).1;have sV:=GF dU aV hk;obtain ⟨o,wa,bd,B7,je,cd,gr⟩:=aL.get dn e he;obtain ⟨k,d,r⟩:=e;simp only at *;have hle:mZ (d_ g0 (λm=>(cc.getD k []).contains m) wa) (d_ g0 (eO listed) acc):=by
  intro t x J;rcases ss J with ⟨e,he,rfl,wI,hex⟩ | ⟨oG,aY⟩
  ·rw [aL.at_mem dn (gr e he),sV e.1 (by simpa using wI)];exact hex
  ·rw [k2 λe he Rk=>?_]
   ·exact aY
   ·have:=aL.fresh dn e he;rw [Rk,aY] at this; cases this
 have gW:∀ z p n m new,r=some (.b3 z p n m new)->∀ t cD cT b6 c7,d_ g0 (eO listed) acc t≠some (.b3 cD p cT b6 c7):=by
  intro z p n m new av t cD cT b6 c7 aC;rcases ss aC with ⟨e,hI,_,wI,hex⟩ | ⟨_,aY⟩
  ·obtain ⟨kZ,Vl,eR⟩:=e;have:=Tx hD (p:=p) he hI (by rw [av]; rfl) (by simp only at hex; rw [hex]; rfl);cases this;rw [dO] at wI; cases wI
  ·exact jg _ _ _ _ _ _ aY
 have zf:=cd.mono hle gW;have s4:d_ g0 (eO listed) acc d=none:=by
  have:=aL.at_mem dn (A:=eO listed) he;simpa [dO] using this
 unfold wpOp;simp only [bd];refine zf.sound bW rfl bU B7 s4 je λcx w' aJ=>?_;obtain ⟨de,cX,I',cn,er,mK⟩:=aJ;have jw:∀ ae,eO (listed.setIfInBounds k true) ae=if ae=k then true else eO listed ae:=λae=>AR (by omega)
 have eb:d_ g0 (eO (listed.setIfInBounds k true)) acc=vn (d_ g0 (eO listed) acc) d r:=by
  funext t;by_cases rY:t=d
  ·subst rY;have h1:=aL.at_mem dn (A:=eO (listed.setIfInBounds k true)) he;simp only [jw k,if_true] at h1;rw [h1];cases r with
   | none=>simp only [vn]; exact s4.symm
   | some x=>simp [vn,eM]
  ·have h1:d_ g0 (eO (listed.setIfInBounds k true)) acc t=d_ g0 (eO listed) acc t:=Ax λe hI het=>by
    rw [jw e.1,if_neg];intro E0;have:=aL.uniq dn hI he (.inl E0);rw [this] at het;exact rY het.symm
   rw [h1];cases r with
   | none=>rfl
   | some x=>simp [vn,eM,rY]
 exact ep cx w' I' cn de cX (by rw [eb]; exact er) mK
theorem D2 (dU:qF ops cc=true) {listed:Array Bool}(fZ:listed.size=ops.size) (aV:Down cc listed) {k:Nat}(hk:k∈Region.ready .any ops listed):Down cc (listed.setIfInBounds k true):=by
 obtain ⟨dO,kJ,uI,_⟩:=vo hk;have s8:=(Array.getElem?_eq_some_iff.1 uI).1;have sV:=GF dU aV hk;have jw:∀ q,eO (listed.setIfInBounds k true) q=if q=k then true else eO listed q:=λq=>AR (by omega)
 intro m hm q bK;rw [jw] at hm ⊢;split
 ·rfl
 ·split at hm
  ·rename_i Kg; subst Kg; exact sV q bK
  ·exact aV m hm q bK
theorem iy.entry {g0:aU}{i ae:Nat}{acc ee:Acc}(aL:iy P N ops cc g0 i ee ae acc) {listed:Array Bool}(a8:∀ k,k<i->(∀ e∈ee,e.1≠k)->eO listed k=true) {k:Nat}(yY:k<ae) (dO:eO listed k=false):∃ e∈acc,e.1=k:=by
 rcases Nat.lt_or_ge k i with h | h
 ·rcases Classical.em (∃ e∈ee,e.1=k) with ⟨e,he,aR⟩ | aR
  ·exact ⟨e,aL.G0 e he,aR⟩
  ·have:=a8 k h λe he E0=>aR ⟨e,he,E0⟩;rw [dO] at this; cases this
 ·exact aL.has k h yY
theorem qz.sound (dU:qF ops cc=true) {i:Nat}{ee:Acc}{g g':aU}(h:qz P N ops cc i ee g g'):ml P N ops cc g i ee->∀ {Q:Exit->Act->World->Prop}(fuel:Nat) (listed:Array Bool) (a:Act) (w:World) (I:bn) (Fs:Nat->bn),hr ops listed<=fuel->listed.size=ops.size->(∀ k,k<i->(∀ e∈ee,e.1≠k)->eO listed k=true)->(∀ k,i<=k->eO listed k=false)->Down cc listed ->
  cV w I a.tmps (d_ g (eO listed) ee) Fs->a.tmps.size=N.size->(∀ cx w',hR N a w I Fs g' cx w'->Q .normal cx w')->wpAny P .any ops Q fuel listed a w:=by
 have start:∀ {g:aU}{i ae:Nat}{acc ee:Acc}{listed:Array Bool},iy P N ops cc g i ee ae acc->ml P N ops cc g i ee->(∀ k,i<=k->eO listed k=false)->d_ g (eO listed) acc=d_ g (eO listed) ee:=by
  intro g i ae acc ee listed aL dn dM;funext t;by_cases hex:∃ e∈acc,e.2.1=t
  ·obtain ⟨e,he,rfl⟩:=hex;rw [aL.at_mem dn he];rcases aL.ge dn e he with h | h
   ·rw [Hb (λx J y ay aR=>dn.Mn x J y ay (.inr aR)) h]
   ·rw [dM e.1 h];by_cases J2:∃ cO∈ee,cO.2.1=e.2.1
    ·obtain ⟨cO,hI,aR⟩:=J2;have:=aL.uniq dn (aL.G0 cO hI) he (.inr aR);subst this;have:=dn.lt cO hI; omega
    ·rw [k2 λcO hI aR=>J2 ⟨cO,hI,aR⟩,aL.fresh dn e he]; rfl
  ·rw [k2 λe he h=>hex ⟨e,he,h⟩,k2 λe he h=>hex ⟨e,aL.G0 e he,h⟩]
 induction h with
 | @fin i ee g acc aL hD jg =>
  intro dn Q fuel listed a w I Fs aa fZ a8 dM aV bW bU dK;rw [<- start aL dn dM] at bW;clear dM;revert listed a w I Fs
  induction fuel with
  | zero =>
   intro listed a w I Fs aa fZ a8 aV bW bU dK;have gU:∀ k,k<ops.size->eO listed k=true:=λk hk=>by
    cases ao:eO listed k with
    | true=>rfl
    | false=>have:=uc (ops:=ops) (listed:=listed) (k:=k) hk ao fZ; omega
   refine wpAny_done ?_ (dK _ _ ⟨rfl,hC.refl,I,Fs,?_,kt.refl _ _ _⟩) 0
   ·cases av:Region.ready .any ops listed with
    | nil=>rfl
    | cons k l =>
     have hk:k∈Region.ready .any ops listed:=by rw [av]; simp
     obtain ⟨dO,o,bd,_⟩:=vo hk;rw [gU k (Array.getElem?_eq_some_iff.1 bd).1] at dO; cases dO
   ·have:d_ g (eO listed) acc=d_ g (λ_=>true) acc:=funext λt=>Ax λe he _=>gU e.1 ((aL.le dn).2 e he);rw [<- this]; exact bW
  | succ fuel aS =>
   intro listed a w I Fs aa fZ a8 aV bW bU dK;by_cases gU:∀ k,k<ops.size->eO listed k=true
   ·refine wpAny_done ?_ (dK _ _ ⟨rfl,hC.refl,I,Fs,?_,kt.refl _ _ _⟩) _
    ·cases av:Region.ready .any ops listed with
     | nil=>rfl
     | cons k l =>
      have hk:k∈Region.ready .any ops listed:=by rw [av]; simp
      obtain ⟨dO,o,bd,_⟩:=vo hk;rw [gU k (Array.getElem?_eq_some_iff.1 bd).1] at dO; cases dO
    ·have:d_ g (eO listed) acc=d_ g (λ_=>true) acc:=funext λt=>Ax λe he _=>gU e.1 ((aL.le dn).2 e he);rw [<- this]; exact bW
   ·obtain ⟨k0,wO⟩:=Classical.not_forall.1 gU;obtain ⟨Rv,Rw⟩:=Classical.not_imp.1 wO;refine ⟨λav=>absurd av (Ls dU fZ k0 Rv (by simpa using Rw)),λk hk=>?_⟩;obtain ⟨dO,kJ,uI,_⟩:=vo hk;have s8:=(Array.getElem?_eq_some_iff.1 uI).1;obtain ⟨e,he,rfl⟩:=aL.entry a8 s8 dO;have Rc:=uc (ops:=ops) (listed:=listed) (k:=e.1) s8 dO fZ;refine Lq dU aL dn hD jg fZ aV bW bU he hk λcx w' I' cn de cX er mK=>?_;refine aS _ cx w' I' cn (by omega) (by simpa using fZ) (λm hm eh=>?_) (D2 dU fZ aV hk) er (cX.1.trans bU) λa2 hZ ak=>dK _ _ (hR.trans de cX mK ak);rw [AR (by omega)]; split
    ·rfl
    ·exact a8 m hm eh
 | @x7 i ae g g1 g' ee acc U o rs aL hD jg bd hw he k9 gA J h1 ak aF _ SM =>
  intro dn Q fuel listed a w I Fs aa fZ a8 dM aV bW bU dK;have wN:ae<ops.size:=(Array.getElem?_eq_some_iff.1 bd).1;have BT:∀ k,ae<k->k<ops.size->ae∈cc.getD k []:=λk hk s8=>by
   have:=List.all_eq_true.1 aF k (List.mem_range.2 s8);simp only [Bool.or_eq_true,decide_eq_true_eq,List.contains_iff_mem] at this;exact this.resolve_left (by omega)
  have wR:∀ e∈U,e∈acc/\(cc.getD ae []).contains e.1=false:=λe he=>by
   rw [gA] at he;obtain ⟨jN,CN⟩:=List.mem_filter.1 he;exact ⟨jN,by simpa using CN⟩
  have fU:(U.map (·.2.1)).Nodup:=by
   rw [gA]; exact (List.filter_sublist.map _).nodup (aL.nodup dn)
  have Rp:∀ e∈U,d_ g (λm=>(cc.getD ae []).contains m) acc e.2.1=none:=λe he=>by
   rw [aL.at_mem dn (wR e he).1,(wR e he).2]; rfl
  have Ex:ml P N ops cc g1 (ae+1) U:=⟨λe he=>by have:=(aL.le dn).2 e (wR e he).1; omega,λe he=>(h1 e he).1,fU,λe he cO hI h=>aL.uniq dn (wR e he).1 (wR cO hI).1 h,ak⟩;have VM:∀ k,ae<=k->eO listed k=false:=λk hk=>dM k (Nat.le_trans (aL.le dn).1 hk);rw [<- start aL dn dM] at bW;clear dM;revert listed a w I Fs
  induction fuel with
  | zero =>
   intro listed a w I Fs aa fZ a8 aV bW bU dK dM;have:=uc (ops:=ops) (listed:=listed) (k:=ae) wN (dM ae (Nat.le_refl _)) fZ;omega
  | succ fuel SL =>
   intro listed a w I Fs aa fZ a8 aV bW bU dK dM;have e3:=dM ae (Nat.le_refl _);refine ⟨λav=>absurd av (Ls dU fZ ae wN e3),λk hk=>?_⟩;obtain ⟨dO,kJ,uI,_⟩:=vo hk;have s8:=(Array.getElem?_eq_some_iff.1 uI).1;have sV:=GF dU aV hk;have jw:∀ q,eO (listed.setIfInBounds k true) q=if q=k then true else eO listed q:=λq=>AR (by omega)
   have Rc:=uc (ops:=ops) (listed:=listed) (k:=k) (by omega) dO fZ;rcases Nat.lt_trichotomy k ae with yY | rfl | yY
   ·obtain ⟨e,EZ,rfl⟩:=aL.entry a8 yY dO;refine Lq dU aL dn hD jg fZ aV bW bU EZ hk λcx w' I' cn de cX er mK=>?_;refine SL _ cx w' I' cn (by omega) (by simpa using fZ) (λm hm eh=>?_) (D2 dU fZ aV hk) er (cX.1.trans bU) (λa2 hZ ak=>dK _ _ (hR.trans de cX mK ak)) λm hm=>?_
    ·rw [jw]; split
     ·rfl
     ·exact a8 m hm eh
    ·rw [jw,if_neg (by omega)]; exact dM m hm
   ·have PG:=UL (A:=λm=>(cc.getD k []).contains m) (S:=eO listed) aL dn gA λe he dU=>sV e.1 (by simpa using dU);have RW:∀ r:Place,rs r->d_ g (λm=>(cc.getD k []).contains m) acc r.root≠none:=λr av=>by
     rw [k2]
     ·exact k9 r av
     ·intro e he aR;have:=aL.fresh dn e he;rw [aR] at this;exact k9 r av this
    have Rl:=IX (S:=eO listed) he RW U J (λe he=>⟨Rp e he,h1 e he⟩) fU;have hle:mZ (d_ g (λm=>(cc.getD k []).contains m) acc) (d_ g (eO listed) acc):=by
     intro t x J;rcases ss J with ⟨e,he,rfl,wI,hex⟩ | ⟨oG,aY⟩
     ·rw [aL.at_mem dn he,sV e.1 (by simpa using wI)]; exact hex
     ·rw [k2 oG]; exact aY
    unfold wpOp;simp only [bd,(iL.mono hle hw).sound bW,if_true];refine .inl (Rl w I a.tmps Fs (by rw [<- PG]; exact bW) a rfl bU _ _ λcx w' aJ _ _=>?_);obtain ⟨de,cX,I',cn,er,mK⟩:=aJ;refine SM Ex fuel (listed.setIfInBounds k true) cx w' I' cn (by omega) (by simpa using fZ) (λm hm eh=>?_) (λm hm=>?_) (D2 dU fZ aV hk) ?_ (cX.1.trans bU) λa2 hZ ak=>dK _ _ (hR.trans de cX mK ak)
    ·rw [jw];split
     ·rfl
     ·rename_i Kg;cases s9:eO listed m with
      | true=>rfl
      | false =>
       exfalso;obtain ⟨e,EZ,rfl⟩:=aL.entry a8 (show m<k by omega) s9;by_cases Kf:e.1∈cc.getD k []
       ·rw [sV e.1 Kf] at s9; cases s9
       ·exact eh e (by rw [gA]; exact List.mem_filter.2 ⟨EZ,by simpa using Kf⟩) rfl
    ·rw [jw,if_neg (by omega)]; exact dM m (by omega)
    ·have:d_ g1 (eO (listed.setIfInBounds k true)) U=d_ g1 (eO listed) U:=funext λt=>Ax λe he _=>by
      rw [jw e.1,if_neg];have:=(aL.le dn).2 e (wR e he).1;omega
     rw [this]; exact er
   ·have:=sV ae (BT k yY s8); rw [e3] at this; cases this
end
end Go.Own
namespace Go.Own
open Go
section
variable {P:Program}{N:dy}
def gk (P:Program) (N:dy) (c:Code) (g:aU) (e:Exit) (g':aU):Prop :=
 ∀ ⦃Q:Exit->Act->World->Prop⦄ ⦃a:Act⦄ ⦃w:World⦄ ⦃I:bn⦄ ⦃Fs:Nat->bn⦄,cV w I a.tmps g Fs->a.tmps.size=N.size->(∀ cx w',hR N a w I Fs g' cx w'->Q e cx w')->c.wp P Q a w
theorem gk.skip {g:aU}:gk P N .skip g .normal g:=λ_ _ _ _ _ bW _ dK=>wp_skip (dK _ _ ⟨rfl,hC.refl,_,_,bW,kt.refl _ _ _⟩)
theorem gk.ret {g:aU}:gk P N .ret g .ret g:=λ_ _ _ _ _ bW _ dK=>wp_ret (dK _ _ ⟨rfl,hC.refl,_,_,bW,kt.refl _ _ _⟩)
theorem gk.exit {g:aU}{id:Nat}:gk P N (.exit id) g (.exit id) g:=λ_ _ _ _ _ bW _ dK=>wp_exit (dK _ _ ⟨rfl,hC.refl,_,_,bW,kt.refl _ _ _⟩)
theorem gk.seq {x y:Code}{g g1 g':aU}{e:Exit}(h1:gk P N x g .normal g1) (ak:gk P N y g1 e g'):gk P N (.seq x y) g e g':=by
 intro Q a w I Fs bW bU dK;refine wp_seq (h1 bW bU λar jm aJ=>?_);obtain ⟨de,cX,I',cn,er,cd⟩:=aJ;exact ak er (cX.1.trans bU) λa2 hZ nP=>dK _ _ (hR.trans de cX cd nP)
theorem gk.cond {c:Operand}{x y:Code}{g g':aU}{e:Exit}{b:Bool}(aa:bI g c=some (.lit (.bool b))) (h:gk P N (if b then x else y) g e g'):gk P N (.cond c x y) g e g':=by
 intro Q a w I Fs bW bU dK;exact wp_cond (t:=b) (kK bW aa rfl).hV.1 (h bW bU dK)
theorem gk.IJ {c:Operand}{x y:Code}{g g':aU}{e:Exit}(aa:bI g c=some (.lit (.bool true))) (h:gk P N x g e g'):gk P N (.cond c x y) g e g':=gk.cond aa h
theorem gk.DX {c:Operand}{x y:Code}{g g':aU}{e:Exit}(aa:bI g c=some (.lit (.bool false))) (h:gk P N y g e g'):gk P N (.cond c x y) g e g':=gk.cond aa h
theorem gk.block {id:Nat}{c:Code}{g g':aU}(h:gk P N c g .normal g'):gk P N (.block id c) g .normal g' :=
 λ_ _ _ _ _ bW bU dK=>wp_block (h bW bU λar jm aJ=>dK ar jm aJ)
def AQ (P:Program) (c:Code) (Q:Exit->Act->World->Prop) (a:Act) (w:World):Prop :=
 ∀ (b:Frame) (k:List Item) (cs:List Frame),∃ e cx w',Q e cx w'/\Arrives P (lone (b.at a (.code c::.inLoop c::k)) cs w) b k cs e cx w'
def rk (P:Program) (N:dy) (c:Code) (g:aU) (e:Exit) (g':aU):Prop :=
 ∀ ⦃Q:Exit->Act->World->Prop⦄ ⦃a:Act⦄ ⦃w:World⦄ ⦃I:bn⦄ ⦃Fs:Nat->bn⦄,cV w I a.tmps g Fs->a.tmps.size=N.size->(∀ cx w',hR N a w I Fs g' cx w'->Q e cx w')->AQ P c Q a w
theorem Gc {c:Code}{Q:Exit->Act->World->Prop}{a:Act}{w:World}(h:c.wp P (Exit.then (AQ P c Q) Q) a w):AQ P c Q a w:=by
 intro b k cs;obtain ⟨e,x6,AD,bK,kS⟩:=h b (.inLoop c::k) cs;cases e with
 | normal =>
  obtain ⟨PI,NA,UT,RS,QQ⟩:=bK b k cs;exact ⟨PI,NA,UT,RS,.of_steps (Steps.trans kS (.one step_inLoop)) QQ⟩
 | exit id=>exact ⟨_,x6,AD,bK,.pass (x:=.inLoop c) rfl (λ_ _=>.inl (by simp)) kS⟩
 | goto l=>exact ⟨_,x6,AD,bK,.pass (x:=.inLoop c) rfl (λ_ _=>.inl (by simp)) kS⟩
 | ret=>exact ⟨_,x6,AD,bK,.pass (x:=.inLoop c) rfl (λ_ _=>.inl (by simp)) kS⟩
 | panic bJ=>exact ⟨_,x6,AD,bK,.pass (x:=.inLoop c) rfl (λ_ _=>.inl (by simp)) kS⟩
 | outgrown=>exact ⟨_,x6,AD,bK,.pass (x:=.inLoop c) rfl (λ_ _=>.inl (by simp)) kS⟩
theorem gk.loop {c:Code}{g g':aU}{e:Exit}(h:rk P N c g e g'):gk P N (.loop c) g e g':=by
 intro Q a w I Fs bW bU dK b k cs;obtain ⟨e,cx,w',bK,kS⟩:=h bW bU dK b k cs;exact ⟨e,cx,w',bK,.of_steps (.one step_loop) kS⟩
theorem rk.step {c:Code}{g g1 g':aU}{e:Exit}(h1:gk P N c g .normal g1) (ak:rk P N c g1 e g'):rk P N c g e g':=by
 intro Q a w I Fs bW bU dK;refine Gc (h1 bW bU λar jm aJ=>?_);obtain ⟨de,cX,I',cn,er,cd⟩:=aJ;exact ak er (cX.1.trans bU) λa2 hZ nP=>dK _ _ (hR.trans de cX cd nP)
theorem rk.out {c:Code}{g g':aU}{e:Exit}(h:gk P N c g e g') (he:e≠.normal):rk P N c g e g':=by
 intro Q a w I Fs bW bU dK;refine Gc (h bW bU λar jm aJ=>?_);cases e with
 | normal=>exact absurd rfl he
 | _=>exact dK _ _ aJ
theorem gk.region {id:Nat}{ops:Array Oper}{g g':aU}(h:m_ P N ops (List.range ops.size) g g'):gk P N (.region id ops false) g .normal g' :=
 λ_ _ _ _ _ bW bU dK=>wp_region (h.sound bW bU dK)
theorem gk.draw {id:Nat}{ops:Array Oper}{cc:List (List Nat)}{g g':aU}(hm:P.follows .mixedOrders=true) (dU:qF ops cc=true) (h:qz P N ops cc 0 [] g g'):gk P N (.region id ops true) g .normal g':=by
 intro Q a w I Fs bW bU dK;refine wp_region_any hm ?_;have er:cV w.drew I a.tmps g Fs:=bW.world (λ_ _ _=>rfl) (λ_ _=>rfl) (Nat.le_refl _);have gU:∀ k,eO (Array.replicate ops.size false) k=false:=by
  intro k;unfold eO;rcases Nat.lt_or_ge k ops.size with h | h
  ·simp [h]
  ·simp [Array.getElem?_eq_none (show (Array.replicate ops.size false).size<=k by simpa using h)]
 refine h.sound dU .nil ops.size (Array.replicate ops.size false) a w.drew I Fs ?_ (by simp) (λk hk=>by omega) (λk _=>gU k) (λk hk=>by rw [gU] at hk; cases hk) er bU λcx w' aJ=>dK _ _ ?_
 ·unfold hr;exact Nat.le_trans (List.length_filter_le _ _) (by simp)
 ·obtain ⟨de,cX,I',cn,hS,cd⟩:=aJ;exact ⟨de,cX,I',cn,hS,⟨⟨cd.fp.os,cd.fp.tape,cd.fp.output,cd.fp.size,cd.fp.block,cd.fp.fI,Nat.le_trans (Nat.le_succ _) cd.fp.wy⟩,cd.more,cd.new,cd.own⟩⟩
inductive nI:af->af->Prop
 | refl {x:af}:nI x x
 | dead {x:af}(h:ka x\/c6 x):nI x .dead
 | pB {z:Nat}:nI .aO (.own z 0 [])
 | w9 {z:Nat}:nI .aO (.aD z 0 [])
 | obj {cs cs':List af}(ao:cs'.length=cs.length) (h:∀ (k:Nat) (x y:af),cs[k]?=some x->cs'[k]?=some y->nI x y):nI (.obj cs) (.obj cs')
 | own {z n:Nat}{cs cs':List af}(ao:cs'.length=cs.length) (h:∀ (k:Nat) (x y:af),cs[k]?=some x->cs'[k]?=some y->nI x y):nI (.own z n cs) (.own z n cs')
theorem R.fN {w:World}{I:bn}{ρ:af->Value->Prop}{x x':af}(h:nI x x'):∀ {v:Value}{F:bn},R w I ρ x v F->∃ fL,R w I ρ x' v fL/\∀ c,fL c->F c:=by
 induction h with
 | refl=>exact λbg=>⟨_,bg,λ_ h=>h⟩
 | dead=>exact λbg=>⟨cR,.dead λ_ h=>h,λ_ h=>h.elim⟩
 | pB =>
  intro v F bg;rw [bg.qe];exact ⟨cR,.own (e:=0) (us:=[]) (Fs:=λ_=>cR) ⟨by simp,.inl ⟨rfl,rfl⟩⟩ rfl (by simp) (by simp) (λ_ _ _ _ _ h=>h.elim) (λ_ _ _ h=>h.elim) λc=>⟨λh=>h.elim,λh=>h.elim (λh=>by simp [Value.ownBlock] at h) λ⟨_,_,h⟩=>h⟩,λ_ h=>h.elim⟩
 | w9=>intro v F bg; rw [bg.qe]; exact ⟨cR,.hz λ_ h=>h,λ_ h=>h.elim⟩
 | @obj cs cs' ao _ aS =>
  intro v F bg;cases bg with
  | ref J=>simp [af.isRef] at J
  | @obj _ b e arr bZ _ bd hK h1 av aV aF aP =>
   have:∀ k,∃ rm:bn,k<cs.length->(∀ (x:af) (u:Value),cs'[k]?=some x->arr[k]?=some u->R w I ρ x u rm)/\∀ c,rm c->bZ k c:=by
    intro k;by_cases hk:k<cs.length
    ·have J:=List.getElem?_eq_getElem hk;have ay:cs'[k]?=some (cs'[k]'(by omega)):=List.getElem?_eq_getElem (by omega);have hu:arr[k]?=some (arr[k]'(by omega)):=Array.getElem?_eq_getElem (by omega);obtain ⟨fL,h1,ak⟩:=aS k _ _ J ay (av k _ _ J hu);refine ⟨fL,λ_=>⟨λx u f' fw=>?_,ak⟩⟩;rw [ay] at f'; rw [hu] at fw;cases f'; cases fw;exact h1
    ·exact ⟨cR,λh=>absurd h hk⟩
   obtain ⟨rm,pZ⟩:=Classical.axiomOfChoice this;refine ⟨_,.obj (Fs:=rm) bd (by omega) h1 (λk x u J hu=>(pZ k (by rw [<- ao]; exact (List.getElem?_eq_some_iff.1 J).1)).1 x u J hu) (λae k c ab hk h aR=>aV ae k c (by omega) (by omega) ((pZ ae (by omega)).2 c h) ((pZ k (by omega)).2 c aR)) (λk hk h=>aF k (by omega) ((pZ k (by omega)).2 b h)) (λc=>Iff.rfl),λc aa=>?_⟩;rcases aa with rfl | ⟨k,hk,h⟩
   ·exact (aP _).2 (.inl rfl)
   ·exact (aP c).2 (.inr ⟨k,by omega,(pZ k (by omega)).2 c h⟩)
 | @own z n cs cs' ao _ aS =>
  intro v F bg;cases bg with
  | ref J=>simp [af.isRef] at J
  | @own _ _ _ _ e us bZ _ bd hK h1 av aV aF aP =>
   have:∀ k,∃ rm:bn,k<cs.length->(∀ (x:af) (u:Value),cs'[k]?=some x->us[k]?=some u->R w I ρ x u rm)/\∀ c,rm c->bZ k c:=by
    intro k;by_cases hk:k<cs.length
    ·have J:=List.getElem?_eq_getElem hk;have ay:cs'[k]?=some (cs'[k]'(by omega)):=List.getElem?_eq_getElem (by omega);have hu:us[k]?=some (us[k]'(by omega)):=List.getElem?_eq_getElem (by omega);obtain ⟨fL,h1,ak⟩:=aS k _ _ J ay (av k _ _ J hu);refine ⟨fL,λ_=>⟨λx u f' fw=>?_,ak⟩⟩;rw [ay] at f'; rw [hu] at fw;cases f'; cases fw;exact h1
    ·exact ⟨cR,λh=>absurd h hk⟩
   obtain ⟨rm,pZ⟩:=Classical.axiomOfChoice this;refine ⟨_,.own (Fs:=rm) bd (by omega) h1 (λk x u J hu=>(pZ k (by rw [<- ao]; exact (List.getElem?_eq_some_iff.1 J).1)).1 x u J hu) (λae k c ab hk h aR=>aV ae k c (by omega) (by omega) ((pZ ae (by omega)).2 c h) ((pZ k (by omega)).2 c aR)) (λk c hk h=>aF k c (by omega) ((pZ k (by omega)).2 c h)) (λc=>Iff.rfl),λc aa=>?_⟩;rcases aa with aa | ⟨k,hk,h⟩
   ·exact (aP _).2 (.inl aa)
   ·exact (aP c).2 (.inr ⟨k,by omega,(pZ k (by omega)).2 c h⟩)
structure ku (g1 g2:aU):Prop where
 sub:∀ t x,g2 t=some x->∃ y,g1 t=some y/\nI y x
 br:∀ t x,g2 t=some x->eK g2 x
 fF:∀ t z q n m new,g2 t≠some (.b3 z q n m new)
theorem cV.fN {w:World}{I:bn}{T:Array Value}{g1 g2:aU}{Fs:Nat->bn}(h:cV w I T g1 Fs) (hk:ku g1 g2):∃ cn,cV w I T g2 cn/\∀ t c,cn t c->Fs t c:=by
 have:∀ t,∃ fL:bn,(∀ x,g2 t=some x->∃ v,T[t]?=some v/\R w I (ed w T g2) x v fL)/\(∀ c,fL c->Fs t c)/\(g2 t=none->∀ c,¬ fL c):=by
  intro t;cases J:g2 t with
  | none=>exact ⟨cR,by simp,λ_ h=>h.elim,λ_ _ h=>h⟩
  | some x =>
   obtain ⟨y,ay,hw⟩:=hk.sub t x J;obtain ⟨v,hv,bg⟩:=h.lP.rel t y ay;have lB:∀ z q n m new,y≠.b3 z q n m new:=by
    rintro z q n m new rfl;cases hw with
    | refl=>exact hk.fF _ _ _ _ _ _ J
    | dead b_=>rcases b_ with b_ | b_ <;> cases b_
   obtain ⟨fL,kd,nK⟩:=R.fN hw (bg.hE lB);exact ⟨fL,λx' f'=>by cases f'; exact ⟨v,hv,kd.br (hk.br t x J)⟩,nK,by simp⟩
 obtain ⟨cn,rO⟩:=Classical.axiomOfChoice this;refine ⟨cn,⟨λt x J=>?_,λt aC=>(rO t).2.2 aC,λt c' c h1 ak=>h.eT _ _ _ ((rO t).2.1 c h1) ((rO c').2.1 c ak),λt c aa=>h.aD _ _ ((rO t).2.1 c aa),h.lt,λt c' z p n m new _ _ _ _ h1=>absurd h1 (hk.fF _ _ _ _ _ _)⟩,λt=>(rO t).2.1⟩;obtain ⟨v,hv,bg⟩:=(rO t).1 x J;exact ⟨v,hv,.tree bg⟩
theorem gk.weaken {c:Code}{g g1 g':aU}{e:Exit}(hk:ku g g1) (h:gk P N c g1 e g'):gk P N c g e g':=by
 intro Q a w I Fs bW bU dK;obtain ⟨cn,er,gr⟩:=bW.fN hk;exact h er bU λcx w' aJ=>dK _ _ (hR.trans rfl hC.refl ⟨Fr.refl _ _,λ_ h=>h,λ_ h=>.inl h,λc ⟨t,aa⟩=>.inl ⟨t,gr t c aa⟩⟩ aJ)
theorem rk.weaken {c:Code}{g g1 g':aU}{e:Exit}(hk:ku g g1) (h:rk P N c g1 e g'):rk P N c g e g':=by
 intro Q a w I Fs bW bU dK;obtain ⟨cn,er,gr⟩:=bW.fN hk;exact h er bU λcx w' aJ=>dK _ _ (hR.trans rfl hC.refl ⟨Fr.refl _ _,λ_ h=>h,λ_ h=>.inl h,λc ⟨t,aa⟩=>.inl ⟨t,gr t c aa⟩⟩ aJ)
end
end Go.Own
namespace Go.Own
open Go
inductive x0 (P:Program) (g:aU):ResultVar->af->Prop
 | tmp {t:Nat}{y:af}(h:bI g (.tmp t)=some y):x0 P g (.tmp t) y
 | cell {a:Nat}{t ty:TypeId}{y:af}(h:da P g (.load t (.tmp a)) ty y):x0 P g (.cell a t) y
inductive pO (P:Program) (g:aU):List ResultVar->List af->Prop
 | nil:pO P g [] []
 | cons {r:ResultVar}{rs:List ResultVar}{y:af}{ys:List af}(h:x0 P g r y) (aC:pO P g rs ys):pO P g (r::rs) (y::ys)
def pF:List af->af
 | [x]=>x
 | l=>.cr l
def vp:List Value->Value
 | [x]=>x
 | l=>.tuple l.toArray
def tx (tmps:Array Value):ResultVar->Sem Value
 | .tmp t=>pure (tmps.getD t undef)
 | .cell a t=>do loadVar t (<- asAddr (tmps.getD a undef))
section
variable {P:Program}{w:World}{I:bn}{g:aU}{Fs:Nat->bn}
theorem x0.run {a:Act}(h:cV w I a.tmps g Fs) {r:ResultVar}{y:af}(av:x0 P g r y):∃ v,(tx a.tmps r).run P w=.ok v w/\R w I (ed w a.tmps g) y v cR:=by
 cases av with
 | @tmp t y h1=>exact ⟨_,rfl,kK h h1 rfl⟩
 | @cell a0 t ty y h1 =>
  obtain ⟨v, hv, bg⟩ := da.sound h rfl (o := { dst := none, op := .load t (.tmp a0), type := ty, pos := "", after := #[], guard := none }) h1;refine ⟨v,?_,bg⟩;have he:a.eval (.tmp a0)=a.tmps.getD a0 undef:=rfl;simp only [execOp,he] at hv;cases aa:a.tmps.getD a0 undef with
  | pointer ad =>
   cases ad with
   | some ad =>
    rw [aa] at hv;simp only [Instr.loadAt,Instr.sureAddr] at hv;simp only [tx,aa,asAddr];have aE:(pure ad >>= λx=>loadVar t x:Sem Value)=loadVar t ad:=by simp
    rw [aE];revert hv;generalize bK:loadVar t ad=q;intro hv;simp [bK] at hv;cases B':q.run P w with
    | ok x hZ=>rw [B'] at hv; simp at hv; rw [hv.1,hv.2]
    | halt e hZ=>rw [B'] at hv; simp at hv
   | none=>rw [aa] at hv; simp [Instr.loadAt,Instr.sureAddr] at hv
  | _=>rw [aa] at hv; simp [Instr.loadAt,Instr.sureAddr] at hv
theorem LG {f:ResultVar->Sem Value}:∀ (l:List ResultVar) (vs:List Value),l.length=vs.length->(∀ (k:Nat) (r:ResultVar) (v:Value),l[k]?=some r->vs[k]?=some v->(f r).run P w=.ok v w)->(l.mapM f).run P w=.ok vs w
 | [],[],_,_=>rfl
 | r::l,v::vs,ao,h=>by
  have ba:=h 0 r v rfl rfl;have h1:=LG l vs (by simpa using ao) λk r v av hv=>h (k+1) r v (by simpa using av) (by simpa using hv);simp [List.mapM_cons,ba,h1]
 | [],_::_,ao,_=>by simp at ao
 | _::_,[],ao,_=>by simp at ao
theorem TW {fn:Func}{tmps:Array Value}{vs:List Value}(ao:fn.results.toList.length=vs.length) (h:∀ (k:Nat) (r:ResultVar) (v:Value),fn.results.toList[k]?=some r->vs[k]?=some v->(tx tmps r).run P w=.ok v w):(results fn tmps).run P w=.ok (vp vs) w:=by
 have h1:=LG fn.results.toList vs ao h;have ak:fn.results.mapM (tx tmps)=List.toArray <$> fn.results.toList.mapM (tx tmps):=Array.mapM_eq_mapM_toList;have aN:(fn.results.mapM (tx tmps)).run P w=.ok vs.toArray w:=by rw [ak]; simp [h1]
 have bP:results fn tmps=(do let vs <- fn.results.mapM (tx tmps); pure (if h:vs.size=1 then vs[0] else .tuple vs)):=by
  unfold results;congr 1
 rw [bP];simp only [Sem.run_bind,aN]
 match vs with
 | []=>rfl
 | [x]=>rfl
 | x::y::l=>simp [vp]
theorem pO.length {g:aU}{rs:List ResultVar}{ys:List af}(h:pO P g rs ys):rs.length=ys.length:=by
 induction h with
 | nil=>rfl
 | cons _ _ aS=>simp [aS]
theorem pO.run {a:Act}(h:cV w I a.tmps g Fs) {rs:List ResultVar}{ys:List af}(av:pO P g rs ys):∃ vs:List Value,rs.length=vs.length/\(∀ (k:Nat) (r:ResultVar) (v:Value),rs[k]?=some r->vs[k]?=some v->(tx a.tmps r).run P w=.ok v w) /\
  ∀ (k:Nat) (y:af) (v:Value),ys[k]?=some y->vs[k]?=some v->R w I (ed w a.tmps g) y v cR:=by
 induction av with
 | nil=>exact ⟨[],rfl,by simp,by simp⟩
 | cons h1 _ aS =>
  obtain ⟨v,hv,bg⟩:=h1.run h;obtain ⟨vs,ao,ak,aN⟩:=aS;refine ⟨v::vs,by simp [ao],λk r u av hu=>?_,λk y u ay hu=>?_⟩
  ·cases k with
   | zero=>simp at av hu; subst av hu; exact hv
   | succ k=>exact ak k r u (by simpa using av) (by simpa using hu)
  ·cases k with
   | zero=>simp at ay hu; subst ay hu; exact bg
   | succ k=>exact aN k y u (by simpa using ay) (by simpa using hu)
theorem Hand.pF {ρ:af->Value->Prop}{Fs:Nat->bn}{xs:List af}{vs:List Value}{dx:Nat->bn}(h:Hand w I ρ Fs xs vs dx) (aJ:∀ x∈xs,c6 x) (ρ':af->Value->Prop):R w I ρ' (pF xs) (vp vs) (λc=>∃ k,k<xs.length/\dx k c)/\c6 (pF xs):=by
 have cr:R w I ρ' (.cr xs) (.tuple vs.toArray) (λc=>∃ k,k<xs.length/\dx k c) :=
  .cr (by simpa using h.len) (λk x u J hu=>(h.rel k x u J (by simpa using hu)).bE (aJ x (List.mem_of_getElem? J))) h.eT λc=>Iff.rfl
 match xs,vs,h,aJ,cr with
 | [],[],_,_,cr=>exact ⟨cr,.cr (by simp)⟩
 | [x],[v],h,aJ,_ =>
  refine ⟨((h.rel 0 x v rfl rfl).bE (aJ x (by simp))).wo λc=>⟨λaa=>⟨0,by simp,aa⟩,λ⟨k,hk,aa⟩=>?_⟩,aJ x (by simp)⟩;have:k=0:=by simpa using hk
  subst this; exact aa
 | x::y::l,v::u::m,_,aJ,cr=>exact ⟨cr,.cr aJ⟩
 | [],_::_,h,_,_=>have:=h.len; simp at this
 | _::_,[],h,_,_=>have:=h.len; simp at this
 | [_],_::_::_,h,_,_=>have:=h.len; simp at this
 | _::_::_,[_],h,_,_=>have:=h.len; simp at this
structure Leaves (P:Program) (N:dy) (rs:List ResultVar) (g':aU) (n:Nat) (outs:List (Option af)) (res:af):Prop where
 ex:∃ ys xs g1,pO P g' rs ys/\Take g' ys xs g1/\res=pF xs/\∀ (k:Nat) (x:af),outs[k]?=some (some x)->g1 k=some x/\c6 x/\k∈N.pins
 len:outs.length=n
theorem cV.more {T:Array Value}(h:cV w I T g Fs) {T':Array Value}(fv:∀ t,g t≠none->T'[t]?=T[t]?):cV w I T' g Fs:=by
 refine ⟨λt x J=>?_,h.kk,h.eT,h.aD,h.lt,h.pE⟩;obtain ⟨u,hu,bg⟩:=h.rel t x J;exact ⟨u,by rw [fv t (by rw [J]; simp)]; exact hu,h.uw fv (λ_ _ _=>rfl) (λ_ _=>rfl) (λ_ h=>h) (λ_ _ h=>h) bg λ_ _=>rfl⟩
end
end Go.Own
namespace Go.Own
open Go
section
variable {P:Program}{N:dy}
def W (P:Program) (N:dy) (c:Code) (g:aU) (Φ:Exit->aU->Prop):Prop :=
 ∀ ⦃Q:Exit->Act->World->Prop⦄ ⦃a:Act⦄ ⦃w:World⦄ ⦃I:bn⦄ ⦃Fs:Nat->bn⦄,cV w I a.tmps g Fs->a.tmps.size=N.size->(∀ e g' cx w',Φ e g'->hR N a w I Fs g' cx w'->Q e cx w')->c.wp P Q a w
def sn (fy:aU->Prop) (Φ:Exit->aU->Prop):Exit->aU->Prop
 | .normal,g=>fy g
 | e,g=>Φ e g
def qY (id:Nat) (Φ:Exit->aU->Prop):Exit->aU->Prop
 | .exit k,g=>if k=id then Φ .normal g else Φ (.exit k) g
 | e,g=>Φ e g
theorem hR.refl {a:Act}{w:World}{I:bn}{g:aU}{Fs:Nat->bn}(h:cV w I a.tmps g Fs):hR N a w I Fs g a w:=⟨rfl,hC.refl,_,_,h,kt.refl _ _ _⟩
theorem gk.w {c:Code}{g g':aU}{e:Exit}{Φ:Exit->aU->Prop}(h:gk P N c g e g') (mM:Φ e g'):W P N c g Φ :=
 λ_ _ _ _ _ bW bU dK=>h bW bU λcx w' aJ=>dK _ _ cx w' mM aJ
theorem W.mono {c:Code}{g:aU}{Φ o3:Exit->aU->Prop}(h:W P N c g Φ) (mM:∀ e g',Φ e g'->o3 e g'):W P N c g o3 :=
 λ_ _ _ _ _ bW bU dK=>h bW bU λ_ _ cx w' h1 aJ=>dK _ _ cx w' (mM _ _ h1) aJ
theorem W.skip {g:aU}{Φ:Exit->aU->Prop}(h:Φ .normal g):W P N .skip g Φ:=gk.skip.w h
theorem W.ret {g:aU}{Φ:Exit->aU->Prop}(h:Φ .ret g):W P N .ret g Φ:=gk.ret.w h
theorem W.exit {g:aU}{id:Nat}{Φ:Exit->aU->Prop}(h:Φ (.exit id) g):W P N (.exit id) g Φ:=gk.exit.w h
theorem W.seq {x y:Code}{g:aU}{Φ:Exit->aU->Prop}(h:W P N x g (sn (λg1=>W P N y g1 Φ) Φ)):W P N (.seq x y) g Φ:=by
 intro Q a w I Fs bW bU dK;refine wp_seq (h bW bU λe g1 ar jm h1 aJ=>?_);cases e with
 | normal =>
  obtain ⟨de,cX,I',cn,er,cd⟩:=aJ;exact h1 er (cX.1.trans bU) λrH g2 a2 hZ ak nP=>dK _ _ _ _ ak (hR.trans de cX cd nP)
 | _=>exact dK _ _ _ _ h1 aJ
theorem W.cond {c:Operand}{x y:Code}{g:aU}{Φ:Exit->aU->Prop}{b:Bool}(aa:bI g c=some (.lit (.bool b))) (h:W P N (if b then x else y) g Φ):W P N (.cond c x y) g Φ :=
 λ_ _ _ _ _ bW bU dK=>wp_cond (t:=b) (kK bW aa rfl).hV.1 (h bW bU dK)
theorem W.IJ {c:Operand}{x y:Code}{g:aU}{Φ:Exit->aU->Prop}(aa:bI g c=some (.lit (.bool true))) (h:W P N x g Φ):W P N (.cond c x y) g Φ:=W.cond aa h
theorem W.DX {c:Operand}{x y:Code}{g:aU}{Φ:Exit->aU->Prop}(aa:bI g c=some (.lit (.bool false))) (h:W P N y g Φ):W P N (.cond c x y) g Φ:=W.cond aa h
theorem W.block {id:Nat}{c:Code}{g:aU}{Φ:Exit->aU->Prop}(h:W P N c g (qY id Φ)):W P N (.block id c) g Φ:=by
 intro Q a w I Fs bW bU dK;refine wp_block (h bW bU λe g1 ar jm h1 aJ=>?_);cases e with
 | exit k =>
  have ak:if k=id then Φ .normal g1 else Φ (.exit k) g1:=h1
  simp only [Exit.inBlock];by_cases hk:k=id
  ·rw [if_pos hk] at ak ⊢;exact dK _ _ _ _ ak aJ
  ·rw [if_neg hk] at ak ⊢;exact dK _ _ _ _ ak aJ
 | _=>exact dK _ _ _ _ h1 aJ
def nH (P:Program) (N:dy) (c:Code) (g:aU) (Φ:Exit->aU->Prop):Prop :=
 ∀ ⦃Q:Exit->Act->World->Prop⦄ ⦃a:Act⦄ ⦃w:World⦄ ⦃I:bn⦄ ⦃Fs:Nat->bn⦄,cV w I a.tmps g Fs->a.tmps.size=N.size->(∀ e g' cx w',Φ e g'->hR N a w I Fs g' cx w'->Q e cx w')->AQ P c Q a w
theorem W.loop {c:Code}{g:aU}{Φ:Exit->aU->Prop}(h:nH P N c g Φ):W P N (.loop c) g Φ:=by
 intro Q a w I Fs bW bU dK b k cs;obtain ⟨e,cx,w',bK,kS⟩:=h bW bU dK b k cs;exact ⟨e,cx,w',bK,.of_steps (.one step_loop) kS⟩
theorem nH.step {c:Code}{g:aU}{Φ:Exit->aU->Prop}(h:W P N c g (sn (λg1=>nH P N c g1 Φ) Φ)):nH P N c g Φ:=by
 intro Q a w I Fs bW bU dK;refine Gc (h bW bU λe g1 ar jm h1 aJ=>?_);cases e with
 | normal =>
  obtain ⟨de,cX,I',cn,er,cd⟩:=aJ;exact h1 er (cX.1.trans bU) λrH g2 a2 hZ ak nP=>dK _ _ _ _ ak (hR.trans de cX cd nP)
 | _=>exact dK _ _ _ _ h1 aJ
theorem W.weaken {c:Code}{g g1:aU}{Φ:Exit->aU->Prop}(hk:ku g g1) (h:W P N c g1 Φ):W P N c g Φ:=by
 intro Q a w I Fs bW bU dK;obtain ⟨cn,er,gr⟩:=bW.fN hk;exact h er bU λe g' cx w' h1 aJ=>dK _ _ _ _ h1 (hR.trans rfl hC.refl ⟨Fr.refl _ _,λ_ h=>h,λ_ h=>.inl h,λc ⟨t,aa⟩=>.inl ⟨t,gr t c aa⟩⟩ aJ)
theorem nH.weaken {c:Code}{g g1:aU}{Φ:Exit->aU->Prop}(hk:ku g g1) (h:nH P N c g1 Φ):nH P N c g Φ:=by
 intro Q a w I Fs bW bU dK;obtain ⟨cn,er,gr⟩:=bW.fN hk;exact h er bU λe g' cx w' h1 aJ=>dK _ _ _ _ h1 (hR.trans rfl hC.refl ⟨Fr.refl _ _,λ_ h=>h,λ_ h=>.inl h,λc ⟨t,aa⟩=>.inl ⟨t,gr t c aa⟩⟩ aJ)
theorem W.out {c:Code}{g:aU}{Φ o3:Exit->aU->Prop}(h:W P N c g Φ) (mM:∀ e g',Φ e g'->∃ g2,ku g' g2/\o3 e g2):W P N c g o3:=by
 intro Q a w I Fs bW bU dK;refine h bW bU λe g' cx w' h1 aJ=>?_;obtain ⟨g2,hk,ak⟩:=mM e g' h1;obtain ⟨de,cX,I',cn,er,cd⟩:=aJ;obtain ⟨iI,hS,gr⟩:=er.fN hk;exact dK _ _ _ _ ak ⟨de,cX,I',iI,hS,cd.trans ⟨Fr.refl _ _,λ_ h=>h,λ_ h=>.inl h,λc ⟨t,aa⟩=>.inl ⟨t,gr t c aa⟩⟩⟩
def HF (P:Program) (N:dy) (ops:Array Oper) (is:List Nat) (g:aU) (K:aU->Prop):Prop:=∃ g',m_ P N ops is g g'/\K g'
theorem W.region {id:Nat}{ops:Array Oper}{g:aU}{Φ:Exit->aU->Prop}(h:HF P N ops (List.range ops.size) g (Φ .normal)):W P N (.region id ops false) g Φ:=by
 obtain ⟨g',av,mM⟩:=h;exact (gk.region av).w mM
theorem cf.Tj {f:FuncId}{fn:Func}{c:Code}{args:List af}{outs:List (Option af)}{res:af}{N:dy}(bh:P.funcs[f]?=some fn) (aF:fn.body=some c) (bU:fn.ntmps=N.size) (bf:args.length<=N.size)
  (hlen:outs.length=args.length) (hw:W P N c (oe args) λe g'=>(e=.normal\/e=.ret)/\Leaves P N fn.results.toList g' args.length outs res):cf P f args outs res:=by
 refine ⟨hlen,λw I vs Fs FE bW=>calls_of_wp bh aF ?_⟩;have fZ:({ tmps:=vs.toArray++Array.replicate (fn.ntmps - vs.toArray.size) undef,defers:=[] }:Act).tmps.size=N.size:=by
  simp; omega
 have oC:∀ t,t<vs.length->(vs.toArray++Array.replicate (fn.ntmps - vs.toArray.size) undef)[t]?=vs.toArray[t]?:=by
  intro t aC;rw [Array.getElem?_append_left (by simpa using aC)]
 refine hw (bW.more (T':=vs.toArray++Array.replicate (fn.ntmps - vs.toArray.size) undef) λt aC=>oC t ?_) fZ λe g' cx w' ⟨he,bd⟩ aJ=>?_
 ·unfold oe at aC;rw [FE];rcases Nat.lt_or_ge t args.length with h | h
  ·exact h
  ·exact absurd (List.getElem?_eq_none h) aC
 obtain ⟨aV,hold,I',cn,er,cd⟩:=aJ;obtain ⟨ys,xs,g1,Kt,aC,rfl,oG⟩:=bd.ex;obtain ⟨us,p9,hU,lY⟩:=Kt.run er;have Cg:ys.length=us.length:=by rw [<- Kt.length,p9]
 obtain ⟨fS,dx,iO,ih,gU⟩:=aC.sound er.lP (⟨Cg,λk x u J hu=>(lY k x u J hu).frame (λ_ _=>rfl) (λ_ h=>h) (λ_ _ h=>h.1) λ_ _=>rfl,λ_ _ _ _ _ h=>h.elim,λ_ _ _ _ h=>h.elim,λ_ _ _ h=>h.elim⟩:Hand w' I' (fT w' cx.tmps) cn ys us λ_=>cR);have gr:∀ c,kO fS xs.length dx c->∃ t,cn t c:=by
  intro c aa;rcases gU c aa with h | ⟨_,_,h⟩
  ·exact h
  ·exact h.elim
 have Rm:∃ iI,cV w' I' (vs++[vp us]).toArray (nZ outs (pF xs)) iI/\∀ t c,iI t c->∃ t,cn t c:=by
  classical
  refine ⟨λt=>if t=outs.length then (λc=>∃ k,k<xs.length/\dx k c) else if ∃ x,outs[t]?=some (some x) then fS t else cR,⟨λt x J=>?_,λt po c aa=>?_,λt c' c h1 ak=>?_,λt c aa=>?_,er.lt,λt c' z p n m new cD cT b6 c7 h1 ak=>?_⟩,λt c aa=>?_⟩
  ·unfold nZ at J;by_cases ba:t=outs.length
   ·rw [if_pos ba] at J;cases J;subst ba;refine ⟨vp us,?_,.tree ?_⟩
    ·rw [bd.len,<- FE]; simp
    ·simpa using (ih.pF aC.zJ _).1
   ·rw [if_neg ba] at J;have f':outs[t]?=some (some x):=by
     cases b_:outs[t]? with
     | none=>rw [b_] at J; cases J
     | some y=>rw [b_] at J; simpa using J
    obtain ⟨h1,ak,aN⟩:=oG t x f';have tc:t<vs.length:=by
     have:=(List.getElem?_eq_some_iff.1 f').1;rw [FE,<- bd.len]; exact this
    obtain ⟨v,hv,bg⟩:=iO.rel t x h1;refine ⟨v,?_,?_⟩
    ·rw [hold.2 t aN] at hv;simp only at hv;rw [oC t tc] at hv;simp only [List.getElem?_toArray] at hv ⊢;rw [List.getElem?_append_left tc]; exact hv
    ·simp only [ba,if_false];rw [if_pos ⟨x,f'⟩];exact .tree ((bg.hE (by rintro z p n m new rfl; cases ak)).bE ak)
  ·unfold nZ at po;by_cases ba:t=outs.length
   ·rw [if_pos ba] at po; cases po
   ·rw [if_neg ba] at po;simp only [ba,if_false] at aa;rw [if_neg] at aa
    ·exact aa
    ·rintro ⟨x,J⟩;rw [J] at po; cases po
  ·by_cases ba:t=outs.length <;> by_cases BK:c'=outs.length <;> simp only [ba,BK,if_true,if_false] at h1 ak
   ·rw [ba,BK]
   ·split at ak
    ·obtain ⟨k,hk,aa⟩:=h1;exact absurd ak (ih.off k c' c hk aa)
    ·exact ak.elim
   ·split at h1
    ·obtain ⟨k,hk,aa⟩:=ak;exact absurd h1 (ih.off k t c hk aa)
    ·exact h1.elim
   ·split at h1
    ·split at ak
     ·exact iO.eT _ _ _ h1 ak
     ·exact ak.elim
    ·exact h1.elim
  ·by_cases ba:t=outs.length <;> simp only [ba,if_true,if_false] at aa
   ·obtain ⟨k,hk,aa⟩:=aa;exact ih.aD k c hk aa
   ·split at aa
    ·exact iO.aD _ _ aa
    ·exact aa.elim
  ·have key:∀ t x,nZ outs (pF xs) t=some x->c6 x:=by
    intro t x J;unfold nZ at J
    split at J
    ·cases J; exact (ih.pF aC.zJ (λ_ _=>False)).2
    ·cases b_:outs[t]? with
     | none=>rw [b_] at J; cases J
     | some y=>rw [b_] at J; exact (oG t x (by rw [b_]; simpa using J)).2.1
   have:=key t _ h1;cases this
  ·by_cases ba:t=outs.length <;> simp only [ba,if_true,if_false] at aa
   ·obtain ⟨k,hk,aa⟩:=aa;exact gr c (.inr ⟨k,hk,aa⟩)
   ·split at aa
    ·exact gr c (.inl ⟨t,aa⟩)
    ·exact aa.elim
 obtain ⟨iI,hS,R4⟩:=Rm;have RR:cx.defers=[]/\∃ v,(results fn cx.tmps).run P w'=.ok v w'/\∃ hA I' cn,Ending.returned v=.returned hA/\cV w' I' (vs++[hA]).toArray (nZ outs (pF xs)) cn/\kt w I (λc=>∃ t,Fs t c) w' I' (λc=>∃ t,cn t c) :=
  ⟨aV,vp us,TW p9 hU,vp us,I',iI,rfl,hS,cd.trans ⟨Fr.refl _ _,λ_ h=>h,λ_ h=>.inl h,λc ⟨t,aa⟩=>.inl (R4 t c aa)⟩⟩
 rcases he with rfl | rfl <;> exact RR
end
end Go.Own
namespace Go.Own
open Go
def get:List (Nat × af)->aU
 | [],_=>none
 | (s,x)::l,t=>if t=s then some x else get l t
inductive Rd (g:aU):Operand->af->Prop
 | lit {t:Nat}{v:Value}(h:g t=some (.lit v)):Rd g (.tmp t) (.lit v)
 | k {v:Value}(h:ofConst v=.lit v):Rd g (.const v) (.lit v)
 | Cr:Rd g (.const (.slice none 0 0)) .aO
 | S1 {v:Value}{cs:List af}(h:ofConst v=.agg cs):Rd g (.const v) (.agg cs)
 | aO {t:Nat}(h:g t=some .aO):Rd g (.tmp t) .aO
 | aD {t z n:Nat}{cs:List af}(h:g t=some (.aD z n cs)):Rd g (.tmp t) (.aD z n cs)
 | own {t z n:Nat}{cs:List af}(h:g t=some (.own z n cs)):Rd g (.tmp t) (.bq z ⟨t,[]⟩ n)
 | obj {t:Nat}{c:af}{cs:List af}(h:g t=some (.obj (c::cs))):Rd g (.tmp t) (.ptr ⟨t,[]⟩ 0)
 | bs {t:Nat}{cs:List af}(h:g t=some (.bs cs)):Rd g (.tmp t) (.bs cs)
 | ptr {t k:Nat}{p:Place}(h:g t=some (.ptr p k)):Rd g (.tmp t) (.ptr p k)
 | bq {t z n:Nat}{p:Place}(h:g t=some (.bq z p n)):Rd g (.tmp t) (.bq z p n)
 | sub {t z lo n:Nat}{p:Place}(h:g t=some (.sub z p lo n)):Rd g (.tmp t) (.sub z p lo n)
 | b3 {t z n m:Nat}{p:Place}{new:List af}(h:g t=some (.b3 z p n m new)):Rd g (.tmp t) (.bq z ⟨t,[]⟩ (n+m))
 | agg {t:Nat}{cs cs':List af}(h:g t=some (.agg cs)) (aa:(cs.mapIdx λi x=>hX 1 (Place.push ⟨t,[]⟩ i) x)=cs'):Rd g (.tmp t) (.agg cs')
 | cr {t:Nat}{cs cs':List af}(h:g t=some (.cr cs)) (aa:(cs.mapIdx λi x=>hX 1 (Place.push ⟨t,[]⟩ i) x)=cs'):Rd g (.tmp t) (.cr cs')
 | func {f:FuncId}:Rd g (.func f) (.ea (.func f) [] [])
 | ea {t:Nat}{fn:Fn}{cs:List af}(h:g t=some (.ea fn [] cs)):Rd g (.tmp t) (.ea fn [] cs)
 | mp {t:Nat}{q:Array MapEntry->Nat->Prop}(h:g t=some (.mp q)):Rd g (.tmp t) (.iD ⟨t,[]⟩)
 | iD {t:Nat}{p:Place}(h:g t=some (.iD p)):Rd g (.tmp t) (.iD p)
 | imp {t:Nat}{q:Array MapEntry->Nat->Prop}(h:g t=some (.imp q)):Rd g (.tmp t) (.imp q)
theorem Rd.bI {g:aU}{x:Operand}{y:af}(h:Rd g x y):bI g x=some y:=by
 cases h with
 | agg h aa=>subst aa; simp [Own.bI,h,ql,hX]
 | cr h aa=>subst aa; simp [Own.bI,h,ql,hX]
 | k h=>simp [Own.bI,h]
 | Cr=>rfl
 | S1 h=>simp [Own.bI,h]
 | func=>rfl
 | _ h=>simp [Own.bI,h,ql,hX]
section
variable {P:Program}{N:dy}{ops:Array Oper}{g:aU}{K:aU->Prop}{l:List Oper}
def au (P:Program) (N:dy) (ops:Array Oper) (l:List Oper) (g:aU) (K:aU->Prop):Prop:=∀ i,ops.toList.drop i=l->HF P N ops (List.range' i l.length) g K
theorem W.TM {id:Nat}{l:List Oper}{g:aU}{Φ:Exit->aU->Prop}(h:au P N l.toArray l g (Φ .normal)):W P N (.region id l.toArray false) g Φ:=by
 refine W.region ?_;have:=h 0 (by simp);rw [List.range_eq_range'];simpa using this
theorem au.nil (h:K g):au P N ops [] g K:=λ_ _=>⟨g,.nil,h⟩
theorem drop_cons {i:Nat}{o:Oper}(h:ops.toList.drop i=o::l):ops[i]?=some o/\ops.toList.drop (i+1)=l:=by
 have h1:(ops.toList.drop i)[0]?=some o:=by rw [h]; rfl
 rw [List.getElem?_drop] at h1;refine ⟨by simpa using h1,?_⟩;rw [<- List.drop_drop,h];rfl
variable {d:Nat}{op:Op}{ty:TypeId}{pos:String}{after:Array Edge}{x:af}
theorem au.xD {r:Option af}{o:Oper}(aV:o.dst=some d) (bU:N.ok d=true) (bh:g d=none) (aL:oa P g ops o r) (hk:au P N ops l (vn g d r) K):au P N ops (o::l) g K:=by
 intro i hi;obtain ⟨h1,ak⟩:=drop_cons hi;obtain ⟨g',av,ep⟩:=hk (i+1) ak;exact ⟨g',.step h1 aV bh bU aL av,ep⟩
inductive Hx (g:aU) (d:Nat):aU->Prop
 | new (h:g d=none):Hx g d g
 | lb {y:af}(h:g d=some y) (ao:leaf y=true):Hx g d (del g d)
inductive gg (g:aU) (ops:Array Oper):Option (Nat × Bool)->Prop
 | none:gg g ops none
 | yes {ae t:Nat}{b:Bool}(h:(ops[ae]?).bind (·.dst)=some t) (aY:g t=some (.lit (.bool b))):gg g ops (some (ae,b))
variable {h5:Option (Nat × Bool)}{g1:aU}
theorem gg.del {y:af}(h:gg g ops h5) (aV:g d=some y) (aF:∀ b,y≠.lit (.bool b)):iL (del g d) ops ⟨some d,op,ty,pos,after,h5⟩ true:=by
 cases h with
 | none=>rfl
 | @yes ae t b h aY =>
  have:t≠d:=by
   rintro rfl;rw [aV] at aY; cases aY; exact aF _ rfl
  exact ⟨t,h,.inl ⟨b,by simp only [Own.del,if_neg this,aY],by simp⟩⟩
theorem gg.wanted (h:gg g ops h5):iL g ops ⟨some d,op,ty,pos,after,h5⟩ true:=by
 cases h with
 | none=>rfl
 | @yes ae t b h aY=>exact ⟨t,h,.inl ⟨b,aY,by simp⟩⟩
theorem au.Mo (aE:dg P g op ty x) (bU:N.ok d=true) (bh:g d=none) (hw:iL g ops ⟨some d,op,ty,pos,after,h5⟩ true) (hk:au P N ops l (eM g d x) K):au P N ops (⟨some d,op,ty,pos,after,h5⟩::l) g K :=
 .xD rfl bU bh (r:=some x) (.inl ⟨hw,.inl aE⟩) hk
theorem au.val (aE:da P g op ty x) (bU:N.ok d=true) (bh:g d=none) (aY:gg g ops h5) (hk:au P N ops l (eM g d x) K):au P N ops (⟨some d,op,ty,pos,after,h5⟩::l) g K :=
 .Mo (.e9 aE) bU bh aY.wanted hk
theorem au.UK (aE:dg P g op ty x) (bU:N.ok d=true) (bh:g d=none) (aY:gg g ops h5) (hk:au P N ops l (eM g d x) K):au P N ops (⟨some d,op,ty,pos,after,h5⟩::l) g K :=
 .Mo aE bU bh aY.wanted hk
theorem au.call (aE:cw P g op x) (bU:N.ok d=true) (bh:g d=none) (aY:gg g ops h5) (hk:au P N ops l (eM g d x) K):au P N ops (⟨some d,op,ty,pos,after,h5⟩::l) g K :=
 .xD rfl bU bh (r:=some x) (.inl ⟨aY.wanted,.inr aE⟩) hk
theorem au.pass {ae c':Nat}{b:Bool}(h:(ops[ae]?).bind (·.dst)=some c') (aY:g c'=some (.lit (.bool (!b)))) (bU:N.ok d=true) (bh:g d=none) (hk:au P N ops l g K):au P N ops (⟨some d,op,ty,pos,after,some (ae,b)⟩::l) g K :=
 .xD rfl bU bh (r:=Option.none) ⟨c',h,.inl ⟨!b,aY,by cases b <;> rfl⟩⟩ hk
variable {fo:Option Nat}
theorem au.forget {g1:aU}(hk:gx g g1) (h:au P N ops l g1 K):au P N ops l g K:=by
 intro i hi;obtain ⟨g',av,ep⟩:=h i hi;exact ⟨g',.forget hk av,ep⟩
variable {a b:Operand}{t t2:TypeId}{k:IntKind}{m n:Int}
theorem da.add (J:Rd g a (.lit (.int k m))) (ay:Rd g b (.lit (.int k n))):da P g (.binOp .add t a b t2) ty (.lit (.int k (k.wrap (m+n)))) :=
 .bin J.bI ay.bI rfl λw=>by simp [eqGuard,binOp,Op.intArith]
theorem da.Ug (J:Rd g a (.lit (.int k m))) (ay:Rd g b (.lit (.int k n))):da P g (.binOp .sub t a b t2) ty (.lit (.int k (k.wrap (m - n)))) :=
 .bin J.bI ay.bI rfl λw=>by simp [eqGuard,binOp,Op.intArith]
theorem da.mul (J:Rd g a (.lit (.int k m))) (ay:Rd g b (.lit (.int k n))):da P g (.binOp .mul t a b t2) ty (.lit (.int k (k.wrap (m * n)))) :=
 .bin J.bI ay.bI rfl λw=>by simp [eqGuard,binOp,Op.intArith]
theorem da.quo (J:Rd g a (.lit (.int k m))) (ay:Rd g b (.lit (.int k n))) (h:n≠0):da P g (.binOp .quo t a b t2) ty (.lit (.int k (k.wrap (m.tdiv n)))) :=
 .bin J.bI ay.bI rfl λw=>by simp [eqGuard,binOp,Op.intDiv,h]
theorem da.rem (J:Rd g a (.lit (.int k m))) (ay:Rd g b (.lit (.int k n))) (h:n≠0):da P g (.binOp .rem t a b t2) ty (.lit (.int k (m.tmod n))) :=
 .bin J.bI ay.bI rfl λw=>by simp [eqGuard,binOp,Op.intDiv,h]
theorem da.cat {s u:ByteArray}(J:Rd g a (.lit (.string s))) (ay:Rd g b (.lit (.string u))) (h:s.size+u.size<=9223372036854775807):da P g (.binOp .add t a b t2) ty (.lit (.string (s++u))) :=
 .bin J.bI ay.bI rfl λw=>by
  have:¬ ((s.size+u.size:Nat):Int) > IntKind.i64.max:=by
   have:IntKind.i64.max=9223372036854775807:=by decide
   omega
  simp only [eqGuard,binOp,Op.stringOp,if_neg this];simp
theorem Ic {s u:ByteArray}(h:s.toList=u.toList):s=u:=by
 have h1:s.data.toList=u.data.toList:=by
  rw [<- ByteArray.toList_eq,<- ByteArray.toList_eq,h]
 cases s; cases u;congr 1;exact Array.toList_inj.1 h1
theorem da.ou {s u:ByteArray}(J:Rd g a (.lit (.string s))) (ay:Rd g b (.lit (.string u))) {c:Bool}(aa:c=true↔s=u):da P g (.binOp .eql t a b t2) ty (.lit (.bool c)) :=
 .bin J.bI ay.bI rfl λw=>by
  have:(s.toList == u.toList)=c:=by
   rw [Bool.eq_iff_iff,aa];simp only [beq_iff_eq];exact ⟨Ic,λh=>by rw [h]⟩
  simp [eqGuard,binOp,Op.stringOp,this]
theorem da.lH {s u:ByteArray}(J:Rd g a (.lit (.string s))) (ay:Rd g b (.lit (.string u))) {c:Bool}(aa:c=true↔s≠u):da P g (.binOp .neq t a b t2) ty (.lit (.bool c)) :=
 .bin J.bI ay.bI rfl λw=>by
  have:(s.toList == u.toList)=!c:=by
   rw [Bool.eq_iff_iff];simp only [beq_iff_eq,Bool.not_eq_true'];cases c with
   | true=>simp only [true_iff] at aa; simp only [Bool.true_eq_false,iff_false]; exact λh=>aa (Ic h)
   | false =>
    simp only [Bool.false_eq_true,false_iff,Decidable.not_not] at aa;simp [aa]
  simp [eqGuard,binOp,Op.stringOp,this]
theorem da.lss (J:Rd g a (.lit (.int k m))) (ay:Rd g b (.lit (.int k n))) {c:Bool}(aa:c=true↔m<n):da P g (.binOp .lss t a b t2) ty (.lit (.bool c)) :=
 .bin J.bI ay.bI rfl λw=>by
  have:decide (m<n)=c:=by rw [Bool.eq_iff_iff,aa]; simp
  simp [eqGuard,binOp,Op.intCmp,this]
theorem da.leq (J:Rd g a (.lit (.int k m))) (ay:Rd g b (.lit (.int k n))) {c:Bool}(aa:c=true↔m<=n):da P g (.binOp .leq t a b t2) ty (.lit (.bool c)) :=
 .bin J.bI ay.bI rfl λw=>by
  have:decide (m<=n)=c:=by rw [Bool.eq_iff_iff,aa]; simp
  simp [eqGuard,binOp,Op.intCmp,this]
theorem da.gtr (J:Rd g a (.lit (.int k m))) (ay:Rd g b (.lit (.int k n))) {c:Bool}(aa:c=true↔n<m):da P g (.binOp .gtr t a b t2) ty (.lit (.bool c)) :=
 .bin J.bI ay.bI rfl λw=>by
  have:decide (n<m)=c:=by rw [Bool.eq_iff_iff,aa]; simp
  simp [eqGuard,binOp,Op.intCmp,this]
theorem da.geq (J:Rd g a (.lit (.int k m))) (ay:Rd g b (.lit (.int k n))) {c:Bool}(aa:c=true↔n<=m):da P g (.binOp .geq t a b t2) ty (.lit (.bool c)) :=
 .bin J.bI ay.bI rfl λw=>by
  have:decide (n<=m)=c:=by rw [Bool.eq_iff_iff,aa]; simp
  simp [eqGuard,binOp,Op.intCmp,this]
theorem da.eql (J:Rd g a (.lit (.int k m))) (ay:Rd g b (.lit (.int k n))) {c:Bool}(aa:c=true↔m=n):da P g (.binOp .eql t a b t2) ty (.lit (.bool c)) :=
 .bin J.bI ay.bI rfl λw=>by
  have:(m == n)=c:=by rw [Bool.eq_iff_iff,aa]; simp
  simp [eqGuard,binOp,Op.intCmp,this]
theorem da.neq (J:Rd g a (.lit (.int k m))) (ay:Rd g b (.lit (.int k n))) {c:Bool}(aa:c=true↔m≠n):da P g (.binOp .neq t a b t2) ty (.lit (.bool c)) :=
 .bin J.bI ay.bI rfl λw=>by
  have:(m != n)=c:=by rw [Bool.eq_iff_iff,aa]; simp
  simp [eqGuard,binOp,Op.intCmp,this]
theorem da.not {c:Bool}(J:Rd g a (.lit (.bool c))):da P g (.unOp .not t a) ty (.lit (.bool (!c))) :=
 .un J.bI rfl λw=>by simp [Op.unary]
theorem da.TC {c a b:Operand}{y:af}(aa:Rd g c (.lit (.bool true))) (av:Rd g a y):da P g (.pick c a b) ty y:=.pick aa.bI av.bI
theorem da.TB {c a b:Operand}{y:af}(aa:Rd g c (.lit (.bool false))) (av:Rd g b y):da P g (.pick c a b) ty y:=.pick aa.bI av.bI
theorem da.ma {s:ByteArray}(J:Rd g a (.lit (.string s))) (aC:pJ P t=true):da P g (.call { callee:=.builtin .len,args:=#[a],argTypes:=#[t] }) ty (.lit (.int .i64 s.size)) :=
 .lits (vs:=[.string s]) (by simp [J.bI]) rfl λw cs=>by
  simp [builtin,Builtin.len_,run_underlying (GZ aC),goInt]
section
variable {fy:aU->Prop}{Φ:Exit->aU->Prop}{id k:Nat}
theorem UB (h:fy g):sn fy Φ .normal g:=h
theorem UC (h:Φ .ret g):sn fy Φ .ret g:=h
theorem UA (h:Φ (.exit k) g):sn fy Φ (.exit k) g:=h
theorem SP (h:Φ .normal g):qY id Φ .normal g:=h
theorem SQ (h:Φ .ret g):qY id Φ .ret g:=h
theorem SN (h:Φ .normal g):qY id Φ (.exit id) g:=by
 show if id=id then Φ .normal g else Φ (.exit id) g
 rw [if_pos rfl]; exact h
theorem SO (hk:Nat.beq k id=false) (h:Φ (.exit k) g):qY id Φ (.exit k) g:=by
 show if k=id then Φ .normal g else Φ (.exit k) g
 rw [if_neg (Nat.ne_of_beq_eq_false hk)]; exact h
end
def Fin (P:Program) (N:dy) (rs:List ResultVar) (n:Nat) (outs:List (Option af)) (res:af) (e:Exit) (g':aU):Prop:=(e=.normal\/e=.ret)/\Leaves P N rs g' n outs res
theorem cf.fin {f:FuncId}{fn:Func}{c:Code}{args:List af}{outs:List (Option af)}{res:af}{N:dy}(bh:P.funcs[f]?=some fn) (aF:fn.body=some c) (bU:fn.ntmps=N.size) (bf:Nat.ble args.length N.size=true) (hlen:outs.length=args.length)
  (hw:W P N c (oe args) (Fin P N fn.results.toList args.length outs res)):cf P f args outs res:=.Tj bh aF bU (Nat.le_of_ble_eq_true bf) hlen hw
def u3 (outs:List (Option af)):Bool:=outs.all λx=>x.isNone
theorem Cz {outs:List (Option af)}(h:u3 outs=true) (k:Nat) (x:af):outs[k]?≠some (some x):=by
 intro e;have:=List.all_eq_true.1 h _ (List.mem_of_getElem? e);simp at this
theorem Fin.one {t:Nat}{y res:af}{outs:List (Option af)}{n:Nat}(ay:Rd g (.tmp t) y) (aJ:c6 y) (bd:u3 outs=true) (ao:outs.length=n) (he:y=res):Fin P N [.tmp t] n outs res .ret g :=
 ⟨.inr rfl,⟨[y],[y],g,.cons (.tmp ay.bI) .nil,.bE (by simpa using aJ),he.symm,λk x hk=>absurd hk (Cz bd k x)⟩,ao⟩
inductive xZ (g:aU):List ResultVar->List af->Prop
 | nil:xZ g [] []
 | cons {t:Nat}{y:af}{rs:List ResultVar}{ys:List af}(h:Rd g (.tmp t) y) (aJ:c6 y) (aC:xZ g rs ys):xZ g (.tmp t::rs) (y::ys)
theorem xZ.spec {rs:List ResultVar}{ys:List af}(h:xZ g rs ys):pO P g rs ys/\∀ y∈ys,c6 y:=by
 induction h with
 | nil=>exact ⟨.nil,by simp⟩
 | cons h aJ _ aS=>exact ⟨.cons (.tmp h.bI) aS.1,nY aJ aS.2⟩
inductive qB (g:aU):List Operand->List af->Prop
 | nil:qB g [] []
 | cons {x:Operand}{y:af}{xs:List Operand}{ys:List af}(h:Rd g x y) (aJ:c6 y) (aC:qB g xs ys):qB g (x::xs) (y::ys)
theorem qB.spec {xs:List Operand}{ys:List af}(h:qB g xs ys):il g xs=some ys/\∀ y∈ys,c6 y:=by
 induction h with
 | nil=>exact ⟨rfl,by simp⟩
 | cons h aJ _ aS=>exact ⟨by simp only [il,h.bI,aS.1],nY aJ aS.2⟩
theorem cw.PA {xs:List Operand}{ia:Array TypeId}{f:FuncId}{ys:List af}{outs:List (Option af)}{res:af}(iR:cf P f ys outs res) (bh:dD P f=true) (J:qB g xs ys) (bd:u3 outs=true) (av:c6 res) :
  cw P g (.call { callee:=.value (.func f),args:=xs.toArray,argTypes:=ia }) res:=by
 have oG:outs=ys.map λ_=>Option.none:=by
  apply List.ext_getElem?;intro k;rw [List.getElem?_map];cases ay:ys[k]? with
  | none=>rw [List.getElem?_eq_none (by rw [iR.1]; exact List.getElem?_eq_none_iff.1 ay)]; rfl
  | some y =>
   have hk:k<outs.length:=by rw [iR.1]; exact (List.getElem?_eq_some_iff.1 ay).1
   have h1:=List.getElem?_eq_getElem hk;rw [h1];cases ak:outs[k] with
   | none=>rfl
   | some x=>rw [ak] at h1; exact absurd h1 (Cz bd k x)
 exact .plain (first:=[]) (caps:=[]) (ys:=ys) rfl (by simpa using J.spec.1) bh (by simpa using J.spec.2) (by simpa [<- oG] using iR) av
end
end Go.Own
namespace Go.Own
open Go
def x_ (s:ByteArray) (m:Int):Int:=((s[m.toNat]?.getD 0).toNat:Nat)
def yg (s:ByteArray) (m n:Int):ByteArray:=s.extract m.toNat n.toNat
section
variable {P:Program}{N:dy}{ops:Array Oper}{g:aU}{K:aU->Prop}{l:List Oper}
variable {d:Nat}{op:Op}{ty:TypeId}{pos:String}{after:Array Edge}{x:af}{a b:Operand}{t t2:TypeId}{k:IntKind}{m n:Int}{h5:Option (Nat × Bool)}
theorem da.Nx {s:ByteArray}{i:Operand}(J:Rd g a (.lit (.string s))) (hi:Rd g i (.lit (.int k m))) (aC:pJ P t=true) (h:0<=m/\m<s.size):da P g (.index t a i) ty (.lit (.int .u8 (x_ s m))):=by
 obtain ⟨ae,rfl⟩:=Int.eq_ofNat_of_zero_le h.1;have ab:ae<s.size:=by omega
 have aF:s[ae]?=some s[ae]:=getElem?_pos s ae ab;have:x_ s (ae:Int)=(s[ae].toNat:Nat):=by simp [x_,aF]
 rw [this];exact .Ck J.bI hi.bI aC aF
theorem da.GX {s:ByteArray}{lo hi:Operand}{r5:IntKind}(J:Rd g a (.lit (.string s))) (ao:Rd g lo (.lit (.int k m))) (b_:Rd g hi (.lit (.int r5 n))) (aC:pJ P t=true) (h:0<=m/\m<=n/\n<=s.size) :
  da P g (.slice t a (some lo) (some hi) none) ty (.lit (.string (yg s m n))):=by
 obtain ⟨i,rfl⟩:=Int.eq_ofNat_of_zero_le h.1;obtain ⟨ae,rfl⟩:=Int.eq_ofNat_of_zero_le (show 0<=n by omega);exact .C1 J.bI ⟨_,ao.bI⟩ ⟨_,b_.bI⟩ aC (by omega) (by omega)
theorem da.bytes {z p iK:Nat}{cs:List af}{xs:List Int}(J:g p=some (.own 1 iK cs)) (hy:cs=xs.map λb=>.lit (.int .u8 b)) (ao:cs.length=iK) (aC:tY P t t2=true) (_hz:z=0):da P g (.convert t t2 (.tmp p)) ty (.lit (.string (strOfNums xs))) :=
 .Bo (p:=⟨p,[]⟩) (n:=iK) (N:=iK) (cs:=cs) (by simp [bI,J,ql,hX]) (by simp [b9,J,af.at]) (Nat.le_refl _) (by rw [List.take_of_length_le (by omega)]; exact hy) aC
def jC (P:Program) (e:TypeId) (z:Nat):Bool :=
 match (P.info? e).bind (·.zero) with
 | some v=>v.cells.size == z
 | none=>false
theorem Hp {e:TypeId}{z:Nat}(h:jC P e z=true):∃ v,(P.info? e).bind (·.zero)=some v/\v.cells.size=z:=by
 unfold jC at h
 split at h
 ·rename_i v hv; exact ⟨v,hv,by simpa using h⟩
 ·cases h
inductive rp (g:aU):List Operand->List Value->Prop
 | nil:rp g [] []
 | cons {x:Operand}{v:Value}{xs:List Operand}{vs:List Value}(h:Rd g x (.lit v)) (aC:rp g xs vs):rp g (x::xs) (v::vs)
theorem rp.il {xs:List Operand}{vs:List Value}(h:rp g xs vs):il g xs=some (vs.map .lit):=by
 induction h with
 | nil=>rfl
 | cons h _ aS=>simp only [Own.il,h.bI,aS]; rfl
theorem rp.map {xs:List Operand}{vs:List Value}(h:rp g xs vs):xs.map (bI g)=vs.map λv=>some (.lit v):=by
 induction h with
 | nil=>rfl
 | cons h _ aS=>simp only [List.map_cons,h.bI,aS]
theorem dg.row {e:TypeId}{xs:List Operand}{vs:List Value}{parts:Array (Nat × Operand)}{hF:Nat}(J:rp g xs vs) (aE:parts.toList=xs.mapIdx (λi x=>(i,x))) (aJ:xs.length=hF) (aC:e' P t e 1=true) (bB:jC P e 1=true) (aF:Nat.ble hF 1000=true) :
  dg P g (.buildSlice t hF parts) ty (.own 1 hF (vs.map .lit)):=by
 subst aJ;have ke:=Nat.le_of_ble_eq_true aF;refine .qj (.buildSlice aC aE J.il (λy ay=>?_) ?_ (by omega) (by omega) (.inr (Hp bB)))
 ·obtain ⟨v,_,rfl⟩:=List.mem_map.1 ay;exact ⟨[.lit v],rfl,rfl⟩
 ·generalize vs=l
  induction l with
  | nil=>rfl
  | cons v l aS=>simp only [List.map_cons,oh,lp,aS]; rfl
inductive ru (g:aU):List Nat->List (Nat × af)->Prop
 | nil:ru g [] []
 | some {s:Nat}{x:af}{rh:List Nat}{l:List (Nat × af)}(h:g s=some x) (aJ:c6 x) (aC:ru g rh l):ru g (s::rh) ((s,x)::l)
 | none {s:Nat}{rh:List Nat}{l:List (Nat × af)}(aC:ru g rh l):ru g (s::rh) l
theorem ru.spec {g:aU}{rh:List Nat}{l:List (Nat × af)}(h:ru g rh l):∀ t x,get l t=Option.some x->g t=Option.some x/\c6 x:=by
 induction h with
 | nil=>intro t x J; cases J
 | @some s y rh l h aJ _ aS =>
  intro t x J;simp only [get] at J
  split at J
  ·rename_i e; subst e; cases J; exact ⟨h,aJ⟩
  ·exact aS t x J
 | none _ aS=>exact aS
theorem ru.fN {g:aU}{rh:List Nat}{l:List (Nat × af)}(h:ru g rh l):ku g (get l) :=
 ⟨λt x J=>⟨x,(h.spec t x J).1,.refl⟩,λt x J=>.bE (h.spec t x J).2,λt z q n m new J=>by have:=(h.spec t _ J).2; cases this⟩
end
end Go.Own
namespace Go.Own
open Go
def ob (s:ByteArray) (n:Nat):Prop:=s.size<=n
theorem ob.app {s u:ByteArray}{a b:Nat}(h:ob s a) (aR:ob u b):ob (s++u) (a+b):=by
 unfold ob at *;rw [ByteArray.size_append]; omega
theorem ob.cut {s:ByteArray}{a:Nat}{m n:Int}(h:ob s a):ob (yg s m n) a:=by
 unfold ob yg at *;rw [ByteArray.size_extract]; omega
theorem ob.const {xs:Array UInt8}:ob ⟨xs⟩ xs.size:=Nat.le_refl _
theorem ob.self {s:ByteArray}:ob s s.size:=Nat.le_refl _
section
variable {P:Program}{g:aU}{ty:TypeId}{a b:Operand}{t t2:TypeId}{N:dy}{ops:Array Oper}{K:aU->Prop}{l:List Oper}{d:Nat}{pos:String}{after:Array Edge}{h5:Option (Nat × Bool)}
theorem W.II {c:Operand}{x y:Code}{Φ:Exit->aU->Prop}{b:Bool}(aa:Rd g c (.lit (.bool b))) (fv:b=true->W P N x g Φ) (aP:b=false->W P N y g Φ):W P N (.cond c x y) g Φ:=by
 cases b with
 | true=>exact .IJ aa.bI (fv rfl)
 | false=>exact .DX aa.bI (aP rfl)
theorem TU {c e:Bool}(aC:P.underlying t=some .bool) (w:World):(do eqGuard .eql t a b (.bool c) (.bool e); binOp .eql t (.bool c) (.bool e):Sem Value).run P w=.ok (.bool (c == e)) w:=by
 have h:=run_equal_bool w t c e aC;simp [eqGuard,binOp,h]
def Ba (P:Program) (t:TypeId):Bool :=
 match P.underlying t with
 | some .bool=>true
 | _=>false
theorem NI (h:Ba P t=true):P.underlying t=some .bool:=by
 unfold Ba at h
 split at h
 ·assumption
 ·cases h
def qZ (P:Program) (t:TypeId) (k:IntKind):Bool :=
 match P.underlying t with
 | some (.int kZ)=>kZ == k
 | _=>false
theorem KM {k:IntKind}(h:qZ P t k=true):P.underlying t=some (.int k):=by
 unfold qZ at h
 split at h
 ·rename_i kZ hk; rw [hk]; have:kZ=k:=by simpa using h
  rw [this]
 ·cases h
theorem da.O1 {k kZ:IntKind}{m:Int}(J:Rd g a (.lit (.int k m))) (aL:qZ P t k=true) (aV:qZ P t2 kZ=true):da P g (.convert t t2 a) ty (.lit (.int kZ (kZ.wrap m))) :=
 .conv J.bI rfl λw=>by simp [convert,run_underlying (KM aL),run_underlying (KM aV),Conv.intToInt]
inductive Bytes (g:aU):List Operand->List Int->Prop
 | nil:Bytes g [] []
 | cons {x:Operand}{v:Int}{xs:List Operand}{vs:List Int}(h:Rd g x (.lit (.int .u8 v))) (aC:Bytes g xs vs):Bytes g (x::xs) (v::vs)
theorem Bytes.lits {xs:List Operand}{vs:List Int}(h:Bytes g xs vs):rp g xs (vs.map λb=>.int .u8 b):=by
 induction h with
 | nil=>exact .nil
 | cons h _ aS=>exact .cons h aS
end
end Go.Own
namespace Go.Own
open Go Go.RowKit
theorem cV.lits {w:World}(vs:List Value) (h:∀ v∈vs,v.oneCell'=true):cV w (λ_=>False) vs.toArray (oe (vs.map .lit)) (λ_=>cR):=by
 refine ⟨λt x J=>?_,λ_ _ _ h=>h,λ_ _ _ h=>h.elim,λ_ _ h=>h.elim,λ_ h=>h.elim,λt c' z p n m new cD cT b6 c7 h1 _=>?_⟩
 ·simp only [oe,List.getElem?_map] at J;cases hv:vs[t]? with
  | none=>rw [hv] at J; cases J
  | some v =>
   rw [hv] at J;simp only [Option.map_some,Option.some.injEq] at J;subst J;exact ⟨v,by simpa using hv,.tree (.lit (h v (List.mem_of_getElem? hv)) λ_ h=>h)⟩
 ·simp only [oe,List.getElem?_map] at h1;cases hv:vs[t]? with
  | none=>rw [hv] at h1; cases h1
  | some v=>rw [hv] at h1; cases h1
end Go.Own
namespace Go.Own
open Go
section
variable {P:Program}{g:aU}{ty:TypeId}{a b:Operand}{t t2:TypeId}{N:dy}{ops:Array Oper}{K:aU->Prop}{l:List Oper}{d:Nat}{pos:String}{after:Array Edge}{h5:Option (Nat × Bool)}
theorem da.py {z n cD:Nat}{p:Place}{e:TypeId}(J:Rd g a (.bq z p n)) (aC:e' P t e cD=true):da P g (.call { callee:=.builtin .len,args:=#[a],argTypes:=#[t] }) ty (.lit (.int .i64 n)):=.zu J.bI aC
theorem da.gN {z n cD:Nat}{cs:List af}{e:TypeId}(J:Rd g a (.aD z n cs)) (aC:e' P t e cD=true):da P g (.call { callee:=.builtin .len,args:=#[a],argTypes:=#[t] }) ty (.lit (.int .i64 n)):=.zv J.bI aC
end
end Go.Own
namespace Go.Own
open Go
end Go.Own
namespace Go.Own
open Go
structure cv (α:Type) where
 z:Nat
 cells:α->List af
 len:∀ a,(cells a).length=z
 bE:∀ a,∀ x∈cells a,c6 x
variable {α β S R:Type}
def ch (e:cv α) (l:List α):List af:=l.flatMap e.cells
abbrev al (e:cv α) (l:List α):af:=.own e.z l.length (ch e l)
abbrev aj (e:cv α) (l:List α):af:=.aD e.z l.length (ch e l)
abbrev j (n:Int):af:=.lit (.int .i64 n)
abbrev lT (n:Int):af:=.lit (.int .u8 n)
abbrev bk (b:Bool):af:=.lit (.bool b)
abbrev ah (s:ByteArray):af:=.lit (.string s)
abbrev aM (n:Int):Int:=IntKind.i64.wrap n
abbrev hg (n:Int):Int:=IntKind.u8.wrap n
theorem nt (e:cv α) (l:List α):(ch e l).length=l.length * e.z:=by
 induction l with
 | nil=>simp [ch]
 | cons a l aS =>
  have:ch e (a::l)=e.cells a++ch e l:=by simp [ch]
  rw [this,List.length_append,e.len,aS,List.length_cons,Nat.add_mul]; omega
theorem nu (e:cv α) (l:List α):∀ x∈ch e l,c6 x:=by
 intro x J;obtain ⟨a,_,h⟩:=List.mem_flatMap.1 J;exact e.bE a x h
theorem vq (e:cv α) (l m:List α):ch e (l++m)=ch e l++ch e m:=by simp [ch]
theorem Am (e:cv α):∀ (l:List α) (i:Nat),(ch e l).drop (i * e.z)=ch e (l.drop i)
 | l,0=>by simp
 | [],i+1=>by simp [ch]
 | a::l,i+1=>by
  have h:ch e (a::l)=e.cells a++ch e l:=by simp [ch]
  rw [h,List.drop_append,e.len,List.drop_eq_nil_of_le (by rw [e.len,Nat.add_mul]; omega)];have:(i+1) * e.z - e.z=i * e.z:=by rw [Nat.add_mul]; omega
  rw [this,List.nil_append,Am e l i]; rfl
theorem xz (e:cv α):∀ (l:List α) (i:Nat),(ch e l).take (i * e.z)=ch e (l.take i)
 | l,0=>by simp [ch]
 | [],i+1=>by simp [ch]
 | a::l,i+1=>by
  have h:ch e (a::l)=e.cells a++ch e l:=by simp [ch]
  rw [h,List.take_append,e.len,List.take_of_length_le (by rw [e.len,Nat.add_mul]; omega)];have:(i+1) * e.z - e.z=i * e.z:=by rw [Nat.add_mul]; omega
  rw [this,xz e l i]; simp [ch]
def idx (l:List α) (i:Int):Option α:=if 0<=i then l[i.toNat]? else none
theorem pt {l:List α}{i:Int}{y:α}(h:idx l i=some y):0<=i/\i<l.length/\l[i.toNat]?=some y:=by
 unfold idx at h
 split at h
 ·have:=(List.getElem?_eq_some_iff.1 h).1;exact ⟨by assumption,by omega,h⟩
 ·cases h
theorem Ly (e:cv α) {l:List α}{i:Int}{y:α}(h:idx l i=some y):(ch e l).drop (i.toNat * e.z)=e.cells y++ch e (l.drop (i.toNat+1)):=by
 obtain ⟨ba,h1,ak⟩:=pt h;rw [Am];obtain ⟨a8,he⟩:=List.getElem?_eq_some_iff.1 ak;rw [List.drop_eq_getElem_cons a8,he]; simp [ch]
theorem Lx (e:cv α) {l:List α}{i:Int}{y:α}(h:idx l i=some y) {k:Nat}{x:af}(hk:(e.cells y)[k]?=some x):(ch e l)[i.toNat * e.z+k]?=some x:=by
 have a8:=(List.getElem?_eq_some_iff.1 hk).1;rw [<- List.getElem?_drop,Ly e h,List.getElem?_append_left a8]; exact hk
abbrev lim:Nat:=1099511627776
def fuel:Nat:=1000000000000000000
def iter (f:S->Option (S ⊕ R)):Nat->S->Option R
 | 0,_=>none
 | n+1,s=>match f s with
  | none=>none
  | some (.inl eL)=>iter f n eL
  | some (.inr r)=>some r
def cI (f:S->Option (S ⊕ R)) (s:S):Option R:=iter f fuel s
theorem aB {o:Option α}{f:α->Option β}{r:β}(h:o.bind f=some r):∃ y,o=some y/\f y=some r:=Option.bind_eq_some_iff.1 h
theorem Oc {b:Bool}{x y o:α}(aF:b=true) (h:cond b x y=o):x=o:=by subst aF; exact h
theorem Ob {b:Bool}{x y o:α}(aF:b=false) (h:cond b x y=o):y=o:=by subst aF; exact h
theorem cM {b:Bool}{x y o:α}(h:cond b x y=o):(b=true/\x=o)\/(b=false/\y=o):=by cases b <;> simp_all
theorem ax {a b:α}(h:some a=some b):a=b:=Option.some.inj h
class cK (x:af):Prop where bE:c6 x
class eG (cs:List af):Prop where bE:∀ x∈cs,c6 x
instance {v:Value}:cK (.lit v):=⟨.lit⟩
instance:cK .aO:=⟨.aO⟩
instance:cK .dead:=⟨.dead⟩
instance {z n:Nat}{cs:List af} [h:eG cs]:cK (.aD z n cs):=⟨.aD h.bE⟩
instance {z n:Nat}{cs:List af} [h:eG cs]:cK (.own z n cs):=⟨.own h.bE⟩
instance {cs:List af} [h:eG cs]:cK (.obj cs):=⟨.obj h.bE⟩
instance {cs:List af} [h:eG cs]:cK (.agg cs):=⟨.agg h.bE⟩
instance {cs:List af} [h:eG cs]:cK (.cr cs):=⟨.cr h.bE⟩
instance {cs:List af} [h:eG cs]:cK (.bs cs):=⟨.bs h.bE⟩
instance {f:Fn}{a b:List af} [h:eG a] [aR:eG b]:cK (.ea f a b):=⟨.ea h.bE aR.bE⟩
instance:eG []:=⟨by simp⟩
instance {x:af}{cs:List af} [h:cK x] [aR:eG cs]:eG (x::cs):=⟨nY h.bE aR.bE⟩
instance {e:cv α}{l:List α}:eG (ch e l):=⟨nu e l⟩
instance {e:cv α}{a:α}:eG (e.cells a):=⟨e.bE a⟩
instance {a b:List af} [h:eG a] [aR:eG b]:eG (a++b):=⟨λx J=>(List.mem_append.1 J).elim (h.bE x) (aR.bE x)⟩
instance {a:List af}{n:Nat} [h:eG a]:eG (a.drop n):=⟨λx J=>h.bE x (List.mem_of_mem_drop J)⟩
instance {a:List af}{n:Nat} [h:eG a]:eG (a.take n):=⟨λx J=>h.bE x (List.mem_of_mem_take J)⟩
instance {v:Value}{n:Nat}:eG (List.replicate n (.lit v)):=⟨λx J=>by rw [(List.mem_replicate.1 J).2]; exact .lit⟩
abbrev cv.one (f:α->af) (h:∀ a,c6 (f a)):cv α:=⟨1,λa=>[f a],λ_=>rfl,λa x J=>by rw [List.mem_singleton.1 J]; exact h a⟩
def aG:cv Int:=.one (λn=>j n) λ_=>.lit
def ot:cv Int:=.one (λn=>lT n) λ_=>.lit
def b0:cv Bool:=.one (λb=>bk b) λ_=>.lit
def cp:cv ByteArray:=.one (λs=>ah s) λ_=>.lit
def eW (e:cv α):cv (List α):=.one (λl=>al e l) λl=>.own (nu e l)
def bY (e:cv α):cv (List α):=.one (λl=>aj e l) λl=>.aD (nu e l)
inductive Trim (b:Bool) (g g2:aU):List (Nat × af)->Prop
 | nil:Trim b g g2 []
 | n {s:Nat}{x:af}{l:List (Nat × af)}(h:g s=some x) [aJ:cK x] (t:Trim b g g2 l):Trim b g g2 ((s,x)::l)
 | r {s:Nat}{x:af}{l:List (Nat × af)}(h:g s=some x) (aJ:eK g2 x) (aE:∀ z p n m new,x≠.b3 z p n m new) (t:Trim b g g2 l):Trim b g g2 ((s,x)::l)
 | e {s:Nat}{x y:af}{l:List (Nat × af)}(h:g s=some y) (he:y=x) [aJ:cK x] (t:Trim b g g2 l):Trim b g g2 ((s,x)::l)
 | w {s:Nat}{x y:af}{l:List (Nat × af)}(aF:b=true) (h:g s=some y) (hw:nI y x) [aJ:cK x] (t:Trim b g g2 l):Trim b g g2 ((s,x)::l)
theorem Trim.spec {b:Bool}{g g2:aU}{l:List (Nat × af)}(h:Trim b g g2 l):∀ t x,get l t=some x->(∃ y,g t=some y/\nI y x/\(b=false->y=x))/\eK g2 x/\∀ z p n m new,x≠.b3 z p n m new:=by
 have fF:∀ {x:af},c6 x->∀ z p n m new,x≠.b3 z p n m new:=by rintro x h z p n m new rfl; cases h
 induction h with
 | nil=>intro t x J; cases J
 | @n _ _ _ h aJ _ aS =>
  intro t x J; simp only [get] at J
  split at J
  ·rename_i e; subst e; cases J; exact ⟨⟨_,h,.refl,λ_=>rfl⟩,.bE aJ.bE,fF aJ.bE⟩
  ·exact aS t x J
 | r h aJ aE _ aS =>
  intro t x J; simp only [get] at J
  split at J
  ·rename_i e; subst e; cases J; exact ⟨⟨_,h,.refl,λ_=>rfl⟩,aJ,aE⟩
  ·exact aS t x J
 | @e _ _ _ _ h he aJ _ aS =>
  intro t x J; simp only [get] at J
  split at J
  ·rename_i e; subst e he; cases J; exact ⟨⟨_,h,.refl,λ_=>rfl⟩,.bE aJ.bE,fF aJ.bE⟩
  ·exact aS t x J
 | @w _ _ _ _ aF h hw aJ _ aS =>
  intro t x J; simp only [get] at J
  split at J
  ·rename_i e; subst e; cases J; exact ⟨⟨_,h,hw,λh=>by rw [aF] at h; cases h⟩,.bE aJ.bE,fF aJ.bE⟩
  ·exact aS t x J
theorem Trim.fN {b:Bool}{g:aU}{l:List (Nat × af)}(h:Trim b g (get l) l):ku g (get l) :=
 ⟨λt x J=>by obtain ⟨⟨y,h1,ak,_⟩,_⟩:=h.spec t x J; exact ⟨y,h1,ak⟩,λt x J=>(h.spec t x J).2.1,λt z q n m new J=>(h.spec t _ J).2.2 _ _ _ _ _ rfl⟩
theorem Trim.keep {g:aU}{l:List (Nat × af)}(h:Trim false g (get l) l):gx g (get l) :=
 ⟨λt x J=>by obtain ⟨⟨y,h1,_,aN⟩,_⟩:=h.spec t x J; rw [<- aN rfl]; exact h1,λt x J=>(h.spec t x J).2.1,λt z q n m new J=>(h.spec t _ J).2.2 _ _ _ _ _ rfl⟩
section
variable {P:Program}{N:dy}{ops:Array Oper}{g:aU}{K:aU->Prop}{l:List Oper}{d:Nat}{op:Op}{ty:TypeId}{pos:String}{after:Array Edge}{x:af}{h5:Option (Nat × Bool)}
def g_ (P:Program) (N:dy) (c:Code) (G G1:List (Nat × af)):Prop:=W P N c (get G) λe g'=>e=.normal/\ku g' (get G1)
theorem W.bb {A B:Code}{G G1:List (Nat × af)}{Φ:Exit->aU->Prop}(h1:g_ P N A G G1) (ak:W P N B (get G1) Φ):W P N (.seq A B) (get G) Φ:=by
 refine W.seq (W.out h1 λe g' h=>⟨get G1,h.2,?_⟩);obtain ⟨rfl,_⟩:=h;exact ak
theorem W.bc {A B:Code}{G:List (Nat × af)}{Φ:Exit->aU->Prop}(h:W P N A (get G) (sn (λg1=>W P N B g1 Φ) Φ)):W P N (.seq A B) (get G) Φ:=W.seq h
theorem au.fin {G1:List (Nat × af)}(h:Trim true g (get G1) G1):au P N ops [] g λg'=>ku g' (get G1):=.nil h.fN
theorem au.TL {G1:List (Nat × af)}(h:Trim false g (get G1) G1) (hk:au P N ops l (get G1) K):au P N ops l g K:=.forget h.keep hk
theorem au.v (aE:dg P g op ty x) (bU:N.ok d=true) (bh:g d=none) (aY:gg g ops h5) (hk:au P N ops l (eM g d x) K):au P N ops (⟨some d,op,ty,pos,after,h5⟩::l) g K:=.UK aE bU bh aY hk
theorem au.c (aE:cw P g op x) (bU:N.ok d=true) (bh:g d=none) (aY:gg g ops h5) (hk:au P N ops l (eM g d x) K):au P N ops (⟨some d,op,ty,pos,after,h5⟩::l) g K:=.call aE bU bh aY hk
theorem gg.jA {ae t:Nat}{b c:Bool}(h:(ops[ae]?).bind (·.dst)=some t) (aY:g t=some (.lit (.bool c))) (aF:c=b):gg g ops (some (ae,b)):=by subst aF; exact .yes h aY
theorem au.ps {ae c':Nat}{b c:Bool}(h:(ops[ae]?).bind (·.dst)=some c') (aY:g c'=some (.lit (.bool c))) (aF:c=!b) (bU:N.ok d=true) (bh:g d=none) (hk:au P N ops l (eM g d (.cr [])) K):au P N ops (⟨some d,op,ty,pos,after,some (ae,b)⟩::l) g K:=by
 subst aF; exact .xD rfl bU bh (r:=some (.cr [])) (.inr (.inl ⟨⟨c',h,.inl ⟨_,aY,by cases b <;> rfl⟩⟩,rfl⟩)) hk
theorem au.pu {ae c':Nat}{b:Bool}(h:(ops[ae]?).bind (·.dst)=some c') (aY:g c'=some (.cr [])) (bU:N.ok d=true) (bh:g d=none) (hk:au P N ops l (eM g d (.cr [])) K):au P N ops (⟨some d,op,ty,pos,after,some (ae,b)⟩::l) g K :=
 .xD rfl bU bh (r:=some (.cr [])) (.inr (.inl ⟨⟨c',h,.inr ⟨aY,rfl⟩⟩,rfl⟩)) hk
theorem g_.skip {G G1:List (Nat × af)}(h:Trim true (get G) (get G1) G1):g_ P N .skip G G1:=W.skip ⟨rfl,h.fN⟩
theorem g_.cM {t:Nat}{A B:Code}{b:Bool}{G G1:List (Nat × af)}(aa:get G t=some (bk b)) (fv:b=true->g_ P N A G G1) (aP:b=false->g_ P N B G G1):g_ P N (.cond (.tmp t) A B) G G1:=W.II (.lit aa) fv aP
theorem W.cM {t:Nat}{A B:Code}{b:Bool}{G:List (Nat × af)}{Φ:Exit->aU->Prop}(aa:get G t=some (bk b)) (fv:b=true->W P N A (get G) Φ) (aP:b=false->W P N B (get G) Φ):W P N (.cond (.tmp t) A B) (get G) Φ:=W.II (.lit aa) fv aP
theorem g_.bb {A B:Code}{G G1 G2:List (Nat × af)}(h1:g_ P N A G G1) (ak:g_ P N B G1 G2):g_ P N (.seq A B) G G2:=W.bb h1 ak
theorem g_.A' {id:Nat}{c:Code}{G G1:List (Nat × af)}(h:W P N c (get G) λe g'=>(e=.normal\/e=.exit id)/\ku g' (get G1)):g_ P N (.block id c) G G1:=by
 refine W.block (h.mono ?_);rintro e g' ⟨rfl | rfl,h⟩
 ·exact ⟨rfl,h⟩
 ·show if id=id then _ else _
  rw [if_pos rfl]; exact ⟨rfl,h⟩
end
end Go.Own
namespace Go.Own
open Go
variable {α β:Type}
def kx (s:ByteArray) (m:Int):Option Int:=if 0<=m/\m<s.size then some (x_ s m) else none
def wx (s:ByteArray) (m n:Int):Option ByteArray:=if 0<=m/\m<=n/\n<=s.size then some (yg s m n) else none
def rE (s u:ByteArray):Option ByteArray:=if s.size+u.size<=4611686018427387904 then some (s++u) else none
def CO (m n:Int):Option Int:=if n=0 then none else some (aM (m.tdiv n))
def Ak (m n:Int):Option Int:=if n=0 then none else some (m.tmod n)
def pK (l:List α) (m n:Int):Option (List α):=if 0<=m/\m<=n/\n<=l.length then some ((l.drop m.toNat).take (n - m).toNat) else none
def k7:af->Bool
 | .lit _ | .aO | .aD .. | .bs _ | .ea .. | .ptr .. | .bq .. | .sub .. | .iD .. | .imp ..=>true
 | _=>false
theorem PY {d:Nat}{p:Place}{x:af}(h:k7 x=true):hX d p x=x:=by
 cases x <;> simp [k7] at h <;> cases d <;> rfl
theorem PZ {t:Nat}{x:af}(h:k7 x=true):ql t x=x:=by
 cases x <;> simp [k7] at h <;> rfl
theorem yD {d:Nat}{q:Nat->Place}{cs:List af}(h:cs.all k7=true):(cs.mapIdx λi x=>hX d (q i) x)=cs:=by
 apply List.ext_getElem?;intro k;rw [List.getElem?_mapIdx];cases hk:cs[k]? with
 | none=>rfl
 | some x=>simp only [Option.map_some,PY (List.all_eq_true.1 h x (List.mem_of_getElem? hk))]
section
variable {P:Program}{N:dy}{ops:Array Oper}{g:aU}{K:aU->Prop}{l:List Oper}{d:Nat}{ty t t2:TypeId}{a b c:Operand}{k kZ:IntKind}{m n:Int}{s u:ByteArray}{p q e:Bool}
theorem Rd.f {t:Nat}{x:af}(h:g t=some x) (bh:k7 x=true):Own.bI g (.tmp t)=some x:=by simp only [Own.bI,h,Option.map_some,PZ bh]
theorem Rd.ck {t:Nat}{cs:List af}(h:g t=some (.agg cs)) (bh:cs.all k7=true):Rd g (.tmp t) (.agg cs):=.agg h (yD bh)
theorem Rd.vA {t:Nat}{cs:List af}(h:g t=some (.cr cs)) (bh:cs.all k7=true):Rd g (.tmp t) (.cr cs):=.cr h (yD bh)
namespace O
theorem aA {y:af}(h:Rd g a y):dg P g (.move a) ty y:=.e9 (.move h.bI)
theorem dq {y:af}(h:Rd g a y):dg P g (.assign a) ty y:=.e9 (.assign h.bI)
theorem eQ {y:af}(aa:Rd g c (bk p)) (aF:p=true) (h:Rd g a y):dg P g (.pick c a b) ty y:=by subst aF; exact .e9 (.TC aa h)
theorem cB {y:af}(aa:Rd g c (bk p)) (aF:p=false) (h:Rd g b y):dg P g (.pick c a b) ty y:=by subst aF; exact .e9 (.TB aa h)
theorem add (J:Rd g a (.lit (.int k m))) (ay:Rd g b (.lit (.int k n))):dg P g (.binOp .add t a b t2) ty (.lit (.int k (k.wrap (m+n)))):=.e9 (.add J ay)
theorem sub (J:Rd g a (.lit (.int k m))) (ay:Rd g b (.lit (.int k n))):dg P g (.binOp .sub t a b t2) ty (.lit (.int k (k.wrap (m - n)))):=.e9 (.Ug J ay)
theorem mul (J:Rd g a (.lit (.int k m))) (ay:Rd g b (.lit (.int k n))):dg P g (.binOp .mul t a b t2) ty (.lit (.int k (k.wrap (m * n)))):=.e9 (.mul J ay)
theorem quo {r:Int}(J:Rd g a (j m)) (ay:Rd g b (j n)) (h:CO m n=some r):dg P g (.binOp .quo t a b t2) ty (j r):=by
 unfold CO at h
 split at h
 ·cases h
 ·cases h; exact .e9 (.quo J ay (by assumption))
theorem rem {r:Int}(J:Rd g a (j m)) (ay:Rd g b (j n)) (h:Ak m n=some r):dg P g (.binOp .rem t a b t2) ty (j r):=by
 unfold Ak at h
 split at h
 ·cases h
 ·cases h; exact .e9 (.rem J ay (by assumption))
theorem lss (J:Rd g a (.lit (.int k m))) (ay:Rd g b (.lit (.int k n))):dg P g (.binOp .lss t a b t2) ty (bk (decide (m<n))):=.e9 (.lss J ay (by simp))
theorem leq (J:Rd g a (.lit (.int k m))) (ay:Rd g b (.lit (.int k n))):dg P g (.binOp .leq t a b t2) ty (bk (decide (m<=n))):=.e9 (.leq J ay (by simp))
theorem gtr (J:Rd g a (.lit (.int k m))) (ay:Rd g b (.lit (.int k n))):dg P g (.binOp .gtr t a b t2) ty (bk (decide (n<m))):=.e9 (.gtr J ay (by simp))
theorem geq (J:Rd g a (.lit (.int k m))) (ay:Rd g b (.lit (.int k n))):dg P g (.binOp .geq t a b t2) ty (bk (decide (n<=m))):=.e9 (.geq J ay (by simp))
theorem eql (J:Rd g a (.lit (.int k m))) (ay:Rd g b (.lit (.int k n))):dg P g (.binOp .eql t a b t2) ty (bk (decide (m=n))):=.e9 (.eql J ay (by simp))
theorem neq (J:Rd g a (.lit (.int k m))) (ay:Rd g b (.lit (.int k n))):dg P g (.binOp .neq t a b t2) ty (bk (!decide (m=n))):=.e9 (.neq J ay (by simp))
theorem ou (J:Rd g a (ah s)) (ay:Rd g b (ah u)):dg P g (.binOp .eql t a b t2) ty (bk (decide (s=u))):=.e9 (.ou J ay (by simp))
theorem lH (J:Rd g a (ah s)) (ay:Rd g b (ah u)):dg P g (.binOp .neq t a b t2) ty (bk (!decide (s=u))):=.e9 (.lH J ay (by simp))
theorem PD (J:Rd g a (bk p)) (ay:Rd g b (bk q)) (aC:Ba P t=true):dg P g (.binOp .eql t a b t2) ty (bk (p == q)):=.e9 (.bin J.bI ay.bI rfl λw=>TU (NI aC) w)
theorem neg (J:Rd g a (.lit (.int k m))):dg P g (.unOp .neg t a) ty (.lit (.int k (k.wrap (-m)))):=.e9 (.un J.bI rfl λw=>by simp [Op.unary,Op.intArith])
theorem not (J:Rd g a (bk p)):dg P g (.unOp .not t a) ty (bk (!p)):=.e9 (.not J)
theorem ui (J:Rd g a (.lit (.int k m))) (aL:qZ P t k=true) (aV:qZ P t2 kZ=true):dg P g (.convert t t2 a) ty (.lit (.int kZ (kZ.wrap m))):=.e9 (.O1 J aL aV)
theorem cat {r:ByteArray}(J:Rd g a (ah s)) (ay:Rd g b (ah u)) (h:rE s u=some r):dg P g (.binOp .add t a b t2) ty (ah r):=by
 unfold rE at h
 split at h
 ·cases h; exact .e9 (.cat J ay (by omega))
 ·cases h
theorem ma (J:Rd g a (ah s)) (aC:pJ P t=true):dg P g (.call { callee:=.builtin .len,args:=#[a],argTypes:=#[t] }) ty (j s.size):=.e9 (.ma J aC)
theorem og {r:Int}(J:Rd g a (ah s)) (ay:Rd g b (.lit (.int k m))) (aC:pJ P t=true) (h:kx s m=some r):dg P g (.index t a b) ty (lT r):=by
 unfold kx at h
 split at h
 ·cases h; exact .e9 (.Nx J ay aC (by assumption))
 ·cases h
theorem Ap {r:ByteArray}{r5:IntKind}(J:Rd g a (ah s)) (ao:Rd g b (.lit (.int k m))) (b_:Rd g c (.lit (.int r5 n))) (aC:pJ P t=true) (h:wx s m n=some r):dg P g (.slice t a (some b) (some c) none) ty (ah r):=by
 unfold wx at h
 split at h
 ·cases h; exact .e9 (.GX J ao b_ aC (by assumption))
 ·cases h
theorem gN {z cD n:Nat}{cs:List af}{e:TypeId}(J:Rd g a (.aD z n cs)) (aC:e' P t e cD=true):dg P g (.call { callee:=.builtin .len,args:=#[a],argTypes:=#[t] }) ty (j n):=.e9 (.zv J.bI aC)
theorem cQ {en:cv α}{L:List α}{y:α}{e:TypeId}(J:Rd g a (.aD en.z L.length (ch en L))) (ay:Rd g b (.lit (.int k m))) (aC:e' P t e en.z=true) (h:idx L m=some y):dg P g (.indexAddr t a b) ty (.bs (en.cells y++ch en (L.drop (m.toNat+1)))):=by
 rw [<- Ly en h];obtain ⟨ba,h1,_⟩:=pt h;obtain ⟨ae,rfl⟩:=Int.eq_ofNat_of_zero_le ba;exact .e9 (.Cj J.bI ay.bI aC (by omega))
theorem GV {en:cv α}{L r:List α}{e:TypeId}(J:Rd g a (.aD en.z L.length (ch en L))) (b_:Rd g c (.lit (.int k n))) (aC:e' P t e en.z=true) (h:pK L 0 n=some r):dg P g (.slice t a none (some c) none) ty (aj en r):=by
 unfold pK at h
 split at h
 ·rename_i aa;obtain ⟨_,h1,ak⟩:=aa;cases h;obtain ⟨ae,rfl⟩:=Int.eq_ofNat_of_zero_le h1;have:=da.Av (P:=P) (ty:=ty) (t:=t) (l:=0) (h:=ae) (lo:=none) (hi:=some c) J.bI rfl ⟨_,b_.bI⟩ aC (by omega) (by omega);rw [Am,xz] at this;have de:(((L.drop 0).take (ae - 0)).length)=ae - 0:=by rw [List.length_take,List.length_drop]; omega
  have cX:((ae:Int) - 0).toNat=ae - 0:=by omega
  rw [cX];unfold aj;have iN:(0:Int).toNat=0:=rfl;rw [iN,de];exact .e9 this
 ·cases h
theorem GW {en:cv α}{L r:List α}{e:TypeId}(J:Rd g a (.aD en.z L.length (ch en L))) (ao:Rd g b (.lit (.int k m))) (aC:e' P t e en.z=true) (h:pK L m L.length=some r):dg P g (.slice t a (some b) none none) ty (aj en r):=by
 unfold pK at h
 split at h
 ·rename_i aa;obtain ⟨ba,h1,ak⟩:=aa;cases h;obtain ⟨i,rfl⟩:=Int.eq_ofNat_of_zero_le ba;have:=da.Av (P:=P) (ty:=ty) (t:=t) (l:=i) (h:=L.length) (lo:=some b) (hi:=none) J.bI ⟨_,ao.bI⟩ rfl aC (by omega) (by omega);rw [Am,xz] at this;have de:(((L.drop i).take (L.length - i)).length)=L.length - i:=by rw [List.length_take,List.length_drop]; omega
  have cX:((L.length:Int) - (i:Int)).toNat=L.length - i:=by omega
  rw [Int.toNat_natCast,cX];unfold aj;rw [de];exact .e9 this
 ·cases h
theorem e2 {eL f off:Nat}{cs:List af}(J:Rd g a (.bs cs)) (bh:dm P eL f off t=true):dg P g (.fieldAddr eL a f) ty (.bs (cs.drop off)):=.e9 (.BH J.bI bh)
theorem du {x:af}{cs:List af}(J:Rd g a (.bs cs)) (aC:hh P t=true) (aa:cs.head?=some x):dg P g (.load t a) ty x:=by
 cases cs with
 | nil=>cases aa
 | cons y cs=>cases aa; exact .e9 (.Ct J.bI aC)
theorem iW {z:Nat}{cs cs':List af}(J:Rd g a (.bs cs)) (aC:iM P t z=true) (aa:cs.take z=cs') (bB:cs'.length=z):dg P g (.load t a) ty (.agg cs'):=by
 subst aa;exact .e9 (.Cu J.bI aC (by rw [List.length_take] at bB; omega))
theorem zF {cs:List af}(J:Rd g a (.bs cs)):dg P g (.nilCheck a) ty (.bs cs):=.e9 (.oT J.bI)
theorem eJ {p:Place}{k:Nat}(J:Rd g a (.ptr p k)):dg P g (.nilCheck a) ty (.ptr p k):=.e9 (.Cx J.bI)
theorem fd {eL f off:Nat}{cs:List af}{x:af}(J:Rd g a (.agg cs)) (bh:dm P eL f off t=true) (aC:hh P t=true) (ay:cs[off]?=some x):dg P g (.field eL a f) ty x:=.e9 (.BG J.bI bh aC ay)
theorem ex {p i:Nat}{cs:List af}{x y:af}(J:g p=some (.cr cs)) (ay:cs[i]?=some x) (av:hX 1 (Place.push ⟨p,[]⟩ i) x=y):dg P g (.extract (.tmp p) i) ty y :=
 .e9 (.Bu (cs:=cs.mapIdx λi x=>hX 1 (Place.push ⟨p,[]⟩ i) x) (by simp [bI,J,ql,hX]) (by simp [ay,av]))
theorem box {e:TypeId}{y:af}{cs:List af}(J:Rd g a y) (aa:lp y=some cs):dg P g (.box e a) ty (.obj cs):=.qj (.box J.bI aa)
theorem bm {eL f off k r:Nat}{cs:List af}(aL:g r=some (.obj cs)) (J:Rd g a (.ptr ⟨r,[]⟩ k)) (bh:dm P eL f off t=true) (a8:Nat.blt (k+off) cs.length=true):dg P g (.fieldAddr eL a f) ty (.ptr ⟨r,[]⟩ (k+off)) :=
 .e9 (.yB J.bI bh ⟨.obj cs,by simp [b9,aL,af.at],0,0,cs,.inr rfl,by simpa using a8⟩)
theorem dz {k r:Nat}{cs:List af}{x y:af}(aL:g r=some (.obj cs)) (J:Rd g a (.ptr ⟨r,[]⟩ k)) (aC:hh P t=true) (aa:cs[k]?=some x) (ay:hX 0 ⟨r,[k]⟩ x=y):dg P g (.load t a) ty y:=by
 subst ay;exact .e9 (.zx (p:=⟨r,[]⟩) J.bI aC (by simp [b9,aL,af.at,Place.push,af.kids,aa]))
theorem dP {k r z:Nat}{cs cs':List af}(aL:g r=some (.obj cs)) (J:Rd g a (.ptr ⟨r,[]⟩ k)) (aC:iM P t z=true) (hk:Nat.ble (k+z) cs.length=true) (aa:(((cs.drop k).take z).mapIdx λi x=>hX 0 ⟨r,[k+i]⟩ x)=cs'):dg P g (.load t a) ty (.agg cs'):=by
 subst aa;exact .e9 (.w4 (p:=⟨r,[]⟩) (n:=0) (z:=0) J.bI aC (by simp [b9,aL,af.at]) (.inr rfl) (Nat.le_of_ble_eq_true hk))
end O
theorem qB.b2 {x:Operand}{y:af}{xs:List Operand}{ys:List af}(h:Rd g x y) [aJ:cK y] (aC:qB g xs ys):qB g (x::xs) (y::ys):=.cons h aJ.bE aC
theorem cw.go {xs:List Operand}{ia:Array TypeId}{f:FuncId}{ys:List af}{outs:List (Option af)}{res:af}(J:qB g xs ys) (iR:cf P f ys outs res) (bh:dD P f=true) (bd:u3 outs=true) [av:cK res] :
  cw P g (.call { callee:=.value (.func f),args:=xs.toArray,argTypes:=ia }) res:=.PA iR bh J bd av.bE
inductive sD (P:Program) (g:aU):List ResultVar->List af->Prop
 | nil:sD P g [] []
 | f {t:Nat}{x:af}{rs:List ResultVar}{xs:List af}(h:g t=some x) (bh:k7 x=true) [aJ:cK x] (aC:sD P g rs xs):sD P g (.tmp t::rs) (x::xs)
 | c {a:Nat}{t:TypeId}{z:Nat}{cs:List af}{rs:List ResultVar}{xs:List af}(h:g a=some (.obj cs)) (aC:iM P t z=true) (bB:cs.length=z) (bh:(0<z&&cs.all k7)=true) [aJ:eG cs] (av:sD P g rs xs):sD P g (.cell a t::rs) (.agg cs::xs)
theorem sD.spec {rs:List ResultVar}{xs:List af}(h:sD P g rs xs):pO P g rs xs/\∀ x∈xs,c6 x:=by
 induction h with
 | nil=>exact ⟨.nil,by simp⟩
 | @f t x rs xs h bh aJ _ aS=>exact ⟨.cons (.tmp (Rd.f h bh)) aS.1,nY aJ.bE aS.2⟩
 | @c a t z cs rs xs h aC bB bh aJ _ aS =>
  simp only [Bool.and_eq_true,decide_eq_true_eq] at bh;refine ⟨.cons ?_ aS.1,nY (.agg aJ.bE) aS.2⟩;have J:Own.bI g (.tmp a)=some (.ptr ⟨a,[]⟩ 0):=by
   cases cs with
   | nil=>simp at bB; omega
   | cons c cs=>simp [Own.bI,h,ql,hX]
  have:=da.w4 (P:=P) (ty:=t) (p:=⟨a,[]⟩) (n:=0) (z:=0) J aC (by simp only [b9,h,af.at]) (.inr rfl) (show 0+z<=cs.length by omega);have gU:((cs.drop 0).take z).mapIdx (λi x=>hX 0 (Place.push ⟨a,[]⟩ (0+i)) x)=cs:=by
   rw [List.drop_zero,List.take_of_length_le (by omega)];exact yD bh.2
  rw [gU] at this;exact .cell this
theorem Fin.rt {rs:List ResultVar}{xs:List af}{res:af}{outs:List (Option af)}{n:Nat}(h:sD P g rs xs) (he:pF xs=res) (bd:u3 outs=true) (ao:outs.length=n):Fin P N rs n outs res .ret g :=
 ⟨.inr rfl,⟨xs,xs,g,h.spec.1,.bE h.spec.2,he.symm,λk x hk=>absurd hk (Cz bd k x)⟩,ao⟩
end
def w_:Nat->List af->List (Nat × af)
 | _,[]=>[]
 | i,x::l=>(i,x)::w_ (i+1) l
theorem Jr:∀ (l:List af) (i t:Nat),get (w_ i l) t=if i<=t then l[t - i]? else none
 | [],i,t=>by simp [w_,get]
 | x::l,i,t=>by
  simp only [w_,get];by_cases h:t=i
  ·subst h; simp
  ·rw [if_neg h,Jr l (i+1) t];by_cases h1:i+1<=t
   ·rw [if_pos h1,if_pos (by omega)];have:t - i=(t - (i+1))+1:=by omega
    rw [this,List.getElem?_cons_succ]
   ·rw [if_neg h1,if_neg (by omega)]
theorem Nl (args:List af):oe args=get (w_ 0 args):=funext λt=>by rw [Jr]; simp [oe]
theorem cf.go {P:Program}{f:FuncId}{fn:Func}{c:Code}{args:List af}{outs:List (Option af)}{res:af}{N:dy}(bh:P.funcs[f]?=some fn) (aF:fn.body=some c) (bU:fn.ntmps=N.size) (bf:Nat.ble args.length N.size=true) (hlen:outs.length=args.length)
  (hw:W P N c (get (w_ 0 args)) (Fin P N fn.results.toList args.length outs res)):cf P f args outs res :=
 .fin bh aF bU bf hlen (by rw [Nl]; exact hw)
end Go.Own
namespace Go.Own
open Go
section
variable {P:Program}{N:dy}{Φ o3:Exit->aU->Prop}{fy:aU->Prop}{G G1:List (Nat × af)}{A B c:Code}{id k:Nat}{e:Exit}{S R:Type}
theorem g_.bS (h:Trim true (get G) (get G1) G1):g_ P N .skip G G1:=.skip h
inductive kp:aU->List (Nat × af)->Prop
 | hP {G:List (Nat × af)}:kp (get G) G
 | fN {g g1:aU}{G:List (Nat × af)}(h:ku g g1) (aF:kp g1 G):kp g G
theorem kp.trans {g:aU}{G G1:List (Nat × af)}(h:kp g G) (h1:kp (get G) G1):kp g G1:=by
 induction h with
 | hP=>exact h1
 | fN h _ aS=>exact .fN h (aS h1)
inductive xT (P:Program) (N:dy):aU->Exit->(Exit->aU->Prop)->Prop
 | hP {g:aU}{e:Exit}{Φ:Exit->aU->Prop}(h:Φ e g):xT P N g e Φ
 | fN {g g1:aU}{e:Exit}{Φ:Exit->aU->Prop}(hw:ku g g1) (h:xT P N g1 e Φ):xT P N g e Φ
theorem W.outs {g:aU}(h:W P N c g Φ) (mM:∀ e g',Φ e g'->xT P N g' e o3):W P N c g o3:=by
 intro a w I Fs Q bW bU dK;refine h bW bU λe g' cx w' aE aJ=>?_;have jf:=mM e g' aE;clear aE mM;revert aJ
 induction jf with
 | hP h=>exact λaJ=>dK _ _ _ _ h aJ
 | fN hw _ aS =>
  intro aJ;refine aS dK ?_;obtain ⟨h1,ak,I',cn,er,cd⟩:=aJ;obtain ⟨iI,hS,gr⟩:=er.fN hw;exact ⟨h1,ak,I',iI,hS,cd.fp,cd.more,cd.new,λc ⟨t,aa⟩=>cd.own c ⟨t,gr t c aa⟩⟩
def ag (e:Exit) (Φ:Exit->aU->Prop) (G:List (Nat × af)):Prop:=∀ g,kp g G->Φ e g
theorem W.be {g:aU}(h:W P N c (get G) Φ) (aF:kp g G):W P N c g Φ:=by
 induction aF with
 | hP=>exact h
 | fN hw _ aS=>exact (aS h).weaken hw
theorem nH.be {g:aU}(h:nH P N c (get G) Φ) (aF:kp g G):nH P N c g Φ:=by
 induction aF with
 | hP=>exact h
 | fN hw _ aS=>exact (aS h).weaken hw
theorem ag.bb (h:W P N B (get G) Φ):ag .normal (sn (λg1=>W P N B g1 Φ) o3) G:=λ_ aF=>UB (h.be aF)
theorem ag.di (h:ag (.exit k) o3 G):ag (.exit k) (sn fy o3) G:=λg aF=>UA (h g aF)
theorem ag.c5 (h:ag .ret o3 G):ag .ret (sn fy o3) G:=λg aF=>UC (h g aF)
theorem ag.bo (h:ag .normal Φ G):ag .normal (qY id Φ) G:=λg aF=>SP (h g aF)
theorem ag.dk (h:ag .normal Φ G):ag (.exit id) (qY id Φ) G:=λg aF=>SN (h g aF)
theorem ag.NH (hk:Nat.beq k id=false) (h:ag (.exit k) Φ G):ag (.exit k) (qY id Φ) G:=λg aF=>SO hk (h g aF)
theorem ag.dY (h:ag .ret Φ G):ag .ret (qY id Φ) G:=λg aF=>SQ (h g aF)
theorem W.dj (h:ag (.exit k) Φ G):W P N (.exit k) (get G) Φ:=W.exit (h _ .hP)
theorem W.bS (h:ag .normal Φ G):W P N .skip (get G) Φ:=W.skip (h _ .hP)
theorem W.rt (h:ag .ret Φ G):W P N .ret (get G) Φ:=W.ret (h _ .hP)
theorem W.rx {id:Nat}{l:List Oper}(G1:List (Nat × af)) (h:au P N l.toArray l (get G) λg'=>ku g' (get G1)) (hk:ag .normal Φ G1):W P N (.region id l.toArray false) (get G) Φ :=
 W.TM (λi hi=>by obtain ⟨g',h1,ak⟩:=h i hi; exact ⟨g',h1,hk g' (.fN ak .hP)⟩)
theorem W.cj {G1:List (Nat × af)}(h:Trim true (get G) (get G1) G1) (hw:W P N c (get G1) Φ):W P N c (get G) Φ:=hw.weaken h.fN
theorem W.st {G:List (Nat × af)}(G1:List (Nat × af)) (h:W P N c (get G1) Φ) (e:G1=G:=by rfl):W P N c (get G) Φ:=by subst e; exact h
theorem W.bo (h:W P N c (get G) (qY id Φ)):W P N (.block id c) (get G) Φ:=W.block h
theorem W.bH (G1:List (Nat × af)) (h:W P N c (get G) λe g=>e=.normal/\kp g G1) (hk:ag .normal Φ G1):W P N c (get G) Φ :=
 h.mono λe g ⟨he,aF⟩=>by subst he; exact hk g aF
theorem ag.bH (h:Trim true (get G) (get G1) G1):ag .normal (λe g=>e=.normal/\kp g G1) G:=λ_ aF=>⟨rfl,aF.trans (.fN h.fN .hP)⟩
def sC (G:S->List (Nat × af)) (fy:R->Exit->aU->Prop):S ⊕ R->Exit->aU->Prop
 | .inl s,e,g=>e=.normal/\kp g (G s)
 | .inr r,e,g=>e≠.normal/\fy r e g
theorem nH.it {f:S->Option (S ⊕ R)}{G:S->List (Nat × af)}{fy:R->Exit->aU->Prop}(aF:∀ s o,f s=some o->W P N c (get (G s)) (sC G fy o)) :
  ∀ (n:Nat) (s:S) (r:R),Own.iter f n s=some r->nH P N c (get (G s)) (fy r)
 | 0,_,_,h=>by simp [Own.iter] at h
 | n+1,s,r,h=>by
  simp only [Own.iter] at h;cases bh:f s with
  | none=>rw [bh] at h; cases h
  | some o =>
   rw [bh] at h;refine .step ((aF s o bh).mono λe g' av=>?_);cases o with
   | inl eL =>
    obtain ⟨rfl,hw⟩:=av;exact (nH.it aF n eL r h).be hw
   | inr eR =>
    cases h;obtain ⟨aJ,hw⟩:=av;cases e with
    | normal=>exact absurd rfl aJ
    | _=>exact hw
theorem W.KV {f:S->Option (S ⊕ R)}{s:S}{r:R}(G:S->List (Nat × af)) (fy:R->Exit->aU->Prop) (h:cI f s=some r) (aF:∀ s o,f s=some o->W P N c (get (G s)) (sC G fy o)) (hk:∀ e g,fy r e g->Φ e g):W P N (.loop c) (get (G s)) Φ :=
 (W.loop (nH.it aF fuel s r h)).mono hk
theorem W.e4 {f:S->Option (S ⊕ R)}{s:S}{r:R}(G:S->List (Nat × af)) (id:Nat) (mY:R->List (Nat × af)) (h:cI f s=some r) (aF:∀ s o,f s=some o->W P N c (get (G s)) (sC G (λr e g=>e=.exit id/\kp g (mY r)) o)) (hk:ag (.exit id) Φ (mY r)):W P N (.loop c) (get (G s)) Φ :=
 .KV G _ h aF λe g ⟨he,aY⟩=>by subst he; exact hk g aY
theorem W.jz {pN:Type}{f:S->Option (S ⊕ (R ⊕ pN))}{s:S}{r:R ⊕ pN}(G:S->List (Nat × af)) (id:Nat) (mY:R->List (Nat × af)) (sz:pN->List (Nat × af)) (h:cI f s=some r)
  (aF:∀ s o,f s=some o->W P N c (get (G s)) (sC G (λ(r:R ⊕ pN) e g=>match r with | .inl r=>e=.exit id/\kp g (mY r) | .inr r=>e=.ret/\kp g (sz r)) o))
  (J:∀ x,r=.inl x->ag (.exit id) Φ (mY x)) (av:∀ x,r=.inr x->ag .ret Φ (sz x)):W P N (.loop c) (get (G s)) Φ:=by
 refine .KV G _ h aF λe g h=>?_;cases r with
 | inl r=>obtain ⟨rfl,aY⟩:=h; exact J r rfl g aY
 | inr r=>obtain ⟨rfl,aY⟩:=h; exact av r rfl g aY
theorem ag.go {s:S}{F:S->List (Nat × af)}{fy:R->Exit->aU->Prop}(h:Trim true (get G) (get (F s)) (F s)):ag .normal (sC F fy (.inl s)) G:=λ_ aF=>⟨rfl,aF.trans (.fN h.fN .hP)⟩
theorem ag.aH {r:R}{F:S->List (Nat × af)}{mY:R->List (Nat × af)}(h:Trim true (get G) (get (mY r)) (mY r)):ag (.exit id) (sC F (λr e g=>e=.exit id/\kp g (mY r)) (.inr r)) G:=λ_ aF=>⟨by simp,rfl,aF.trans (.fN h.fN .hP)⟩
theorem ag.x2 {pN:Type}{r:R}{F:S->List (Nat × af)}{mY:R->List (Nat × af)}{sz:pN->List (Nat × af)}(h:Trim true (get G) (get (mY r)) (mY r)) :
  ag (.exit id) (sC F (λ(r:R ⊕ pN) e g=>match r with | .inl r=>e=.exit id/\kp g (mY r) | .inr r=>e=.ret/\kp g (sz r)) (.inr (.inl r))) G:=λ_ aF=>⟨by simp,rfl,aF.trans (.fN h.fN .hP)⟩
theorem ag.fX {pN:Type}{r:pN}{F:S->List (Nat × af)}{mY:R->List (Nat × af)}{sz:pN->List (Nat × af)}(h:Trim true (get G) (get (sz r)) (sz r)) :
  ag .ret (sC F (λ(r:R ⊕ pN) e g=>match r with | .inl r=>e=.exit id/\kp g (mY r) | .inr r=>e=.ret/\kp g (sz r)) (.inr (.inr r))) G:=λ_ aF=>⟨by simp,rfl,aF.trans (.fN h.fN .hP)⟩
def AM (P:Program) (N:dy) (rs:List ResultVar) (n:Nat) (outs:List (Option af)) (res:af) (e:Exit) (g:aU):Prop:=∃ G,kp g G/\Fin P N rs n outs res e (get G)
theorem W.fin {rs:List ResultVar}{n:Nat}{outs:List (Option af)}{res:af}{g:aU}(h:W P N c g (AM P N rs n outs res)):W P N c g (Fin P N rs n outs res):=by
 have key:∀ e g,AM P N rs n outs res e g->xT P N g e (Fin P N rs n outs res):=by
  rintro e g ⟨G,aF,bh⟩
  induction aF with
  | hP=>exact .hP bh
  | fN hw _ aS=>exact .fN hw (aS bh)
 exact W.outs h key
theorem ag.fin {rs:List ResultVar}{n:Nat}{outs:List (Option af)}{res:af}(h:Fin P N rs n outs res e (get G)):ag e (AM P N rs n outs res) G:=λ_ aF=>⟨G,aF,h⟩
end
end Go.Own
namespace Go.Own
open Go
section
variable {P:Program}{N:dy}{ops:Array Oper}{cc:List (List Nat)}{g0:aU}{K:aU->Prop}{l:List Oper}{acc:Acc}{d i:Nat}{op:Op}{ty:TypeId}{pos:String}{after:Array Edge}{x:af}{h5:Option (Nat × Bool)}
abbrev nz (cc:List (List Nat)) (g0:aU) (ae:Nat) (acc:Acc):aU:=d_ g0 (λm=>(cc.getD ae []).contains m) acc
def b1 (P:Program) (N:dy) (ops:Array Oper) (cc:List (List Nat)) (g0:aU) (i:Nat) (acc:Acc) (l:List Oper) (K:aU->Prop):Prop:=∀ ee ae,ml P N ops cc g0 i ee->iy P N ops cc g0 i ee ae acc->ops.toList.drop ae=l->∃ g',qz P N ops cc i ee g0 g'/\K g'
theorem Bs {ae df:Nat}{o:Oper}(h:ops.toList.drop ae=o::l) (ab:Nat.beq ops.size (df+l.length+1)=true):ae=df:=by
 have h1:=congrArg List.length h;rw [List.length_drop,List.length_cons,Array.length_toList] at h1;have:=Nat.eq_of_beq_eq_true ab;omega
theorem M0 (aJ:acc.all (λe=>!Nat.beq e.2.1 d)=true):∀ e∈acc,e.2.1≠d:=by
 intro e he h;have:=List.all_eq_true.1 aJ e he;rw [h] at this;simp at this
theorem b1.st (df:Nat) {r:Option af}{o:Oper}(aV:o.dst=some d) (aL:oa P (nz cc g0 df acc) ops o r) (ab:Nat.beq ops.size (df+l.length+1)=true) (bh:g0 d=none) (aJ:acc.all (λe=>!Nat.beq e.2.1 d)=true) (bU:N.ok d=true)
  (hk:b1 P N ops cc g0 i ((df,d,r)::acc) l K):b1 P N ops cc g0 i acc (o::l) K:=by
 intro ee ae dn oH oB;have:=Bs oB ab;subst this;obtain ⟨h1,ak⟩:=drop_cons oB;exact hk ee (ae+1) dn (.step oH h1 aV bh (M0 aJ) bU aL) ak
theorem b1.v (df:Nat) (aE:dg P (nz cc g0 df acc) op ty x) (ab:Nat.beq ops.size (df+l.length+1)=true) (bh:g0 d=none) (aJ:acc.all (λe=>!Nat.beq e.2.1 d)=true) (bU:N.ok d=true) (aY:gg (nz cc g0 df acc) ops h5)
  (hk:b1 P N ops cc g0 i ((df,d,some x)::acc) l K):b1 P N ops cc g0 i acc (⟨some d,op,ty,pos,after,h5⟩::l) K :=
 .st df (r:=some x) rfl (.inl ⟨aY.wanted,.inl aE⟩) ab bh aJ bU hk
theorem b1.c (df:Nat) (aE:cw P (nz cc g0 df acc) op x) (ab:Nat.beq ops.size (df+l.length+1)=true) (bh:g0 d=none) (aJ:acc.all (λe=>!Nat.beq e.2.1 d)=true) (bU:N.ok d=true) (aY:gg (nz cc g0 df acc) ops h5)
  (hk:b1 P N ops cc g0 i ((df,d,some x)::acc) l K):b1 P N ops cc g0 i acc (⟨some d,op,ty,pos,after,h5⟩::l) K :=
 .st df (r:=some x) rfl (.inl ⟨aY.wanted,.inr aE⟩) ab bh aJ bU hk
theorem b1.ps (df:Nat) {tm c':Nat}{b c:Bool}(h:(ops[tm]?).bind (·.dst)=some c') (aY:nz cc g0 df acc c'=some (bk c)) (aF:c=!b) (ab:Nat.beq ops.size (df+l.length+1)=true) (bh:g0 d=none) (aJ:acc.all (λe=>!Nat.beq e.2.1 d)=true) (bU:N.ok d=true)
  (hk:b1 P N ops cc g0 i ((df,d,some (.cr []))::acc) l K):b1 P N ops cc g0 i acc (⟨some d,op,ty,pos,after,some (tm,b)⟩::l) K :=
 .st df (r:=some (.cr [])) rfl (.inr (.inl ⟨⟨c',h,.inl ⟨c,aY,by subst aF; cases b <;> rfl⟩⟩,rfl⟩)) ab bh aJ bU hk
theorem b1.pu (df:Nat) {tm c':Nat}{b:Bool}(h:(ops[tm]?).bind (·.dst)=some c') (aY:nz cc g0 df acc c'=some (.cr [])) (ab:Nat.beq ops.size (df+l.length+1)=true) (bh:g0 d=none) (aJ:acc.all (λe=>!Nat.beq e.2.1 d)=true) (bU:N.ok d=true)
  (hk:b1 P N ops cc g0 i ((df,d,some (.cr []))::acc) l K):b1 P N ops cc g0 i acc (⟨some d,op,ty,pos,after,some (tm,b)⟩::l) K :=
 .st df (r:=some (.cr [])) rfl (.inr (.inl ⟨⟨c',h,.inr ⟨aY,rfl⟩⟩,rfl⟩)) ab bh aJ bU hk
def r7 (G:List (Nat × af)):Bool:=G.all λp=>match p.2 with | .b3 ..=>false | _=>true
theorem zI {G:List (Nat × af)}(h:r7 G=true):∀ t z q n m new,get G t≠some (.b3 z q n m new):=by
 induction G with
 | nil=>intro t z q n m new J; cases J
 | cons p G aS =>
  obtain ⟨s,x⟩:=p;simp only [r7,List.all_cons,Bool.and_eq_true] at h;intro t z q n m new J;simp only [get] at J
  split at J
  ·cases J; exact absurd h.1 (by simp)
  ·exact aS h.2 t z q n m new J
theorem b1.fin {G G1:List (Nat × af)}(bB:acc.filterMap mc=[]) (jg:r7 G=true) (hi:Nat.ble i ops.size=true) (h:Trim true (d_ (get G) (λ_=>true) acc) (get G1) G1):b1 P N ops cc (get G) i acc [] λg'=>ku g' (get G1):=by
 intro ee ae dn oH oB;have ab:ae=ops.size:=by
  have h1:ops.size<=ae:=by
   have:=congrArg List.length oB;rw [List.length_drop,List.length_nil,Array.length_toList] at this;omega
  have aN:ae<=ops.size:=by
   cases oH with
   | nil=>exact Nat.le_of_ble_eq_true hi
   | step _ bd=>have:=(Array.getElem?_eq_some_iff.1 bd).1; omega
  omega
 subst ab;exact ⟨_,.fin oH (by rw [bB]; exact List.nodup_nil) (zI jg),h.fN⟩
theorem qz.H8 {g g1 g':aU}{i ae:Nat}{ee:Acc}{o:Oper}(dn:ml P N ops cc g i ee) (aL:iy P N ops cc g i ee ae acc) (hD:(acc.filterMap mc).Nodup) (jg:∀ t z q n m new,g t≠some (.b3 z q n m new)) (bd:ops[ae]?=some o) (hw:iL (d_ g (λ_=>true) acc) ops o true)
  (he:cq P N (d_ g (λ_=>true) acc) o g1) (bf:(List.range ae).all (λk=>(cc.getD ae []).contains k)=true) (aF:(List.range ops.size).all (λk=>decide (k<=ae)||(cc.getD k []).contains ae)=true) (av:qz P N ops cc (ae+1) [] g1 g'):qz P N ops cc i ee g g':=by
 have dU:∀ e∈acc,(cc.getD ae []).contains e.1=true:=λe h=>List.all_eq_true.1 bf e.1 (List.mem_range.2 ((aL.le dn).2 e h));have e:d_ g (λm=>(cc.getD ae []).contains m) acc=d_ g (λ_=>true) acc:=funext λt=>Ax λe h _=>dU e h;have gA:[]=acc.filter λe=>!(cc.getD ae []).contains e.1:=by
  symm;rw [List.filter_eq_nil_iff];intro a h;rw [dU a h];decide
 exact .x7 (rs:=sf []) aL hD jg bd (by rw [e]; exact hw) (by rw [e]; exact he.nJ.v) (λp aE=>by simp [sf] at aE) gA (by simp) (by simp) (by simp) aF av
theorem W.rd {id:Nat}{l:List Oper}{G:List (Nat × af)}{Φ:Exit->aU->Prop}(cc:List (List Nat)) (G1:List (Nat × af)) (hm:P.follows .mixedOrders=true) (dU:qF l.toArray cc=true)
  (h:b1 P N l.toArray cc (get G) 0 [] l λg'=>ku g' (get G1)) (hk:ag .normal Φ G1):W P N (.region id l.toArray true) (get G) Φ:=by
 obtain ⟨g',h1,ak⟩:=h [] 0 .nil .nil (by simp);exact (gk.draw hm dU h1).w (hk g' (.fN ak .hP))
end
end Go.Own
namespace Go.Own
open Go
variable {α:Type}
section
variable {P:Program}{N:dy}{ops:Array Oper}{g g2:aU}{K:aU->Prop}{l:List Oper}{d r:Nat}{ty t t2:TypeId}{pos:String}{after:Array Edge}{a b c:Operand}{k kZ:IntKind}{m n:Int}{s u:ByteArray}
namespace O
theorem e8 {e:TypeId}{z:Value}{cs:List af}(bB:(P.info? e).bind (·.zero)=some z) (h1:z.cells.toList.all Value.oneCell'=true) (aa:z.cells.toList.map nr=cs):dg P g (.alloc e) ty (.obj cs):=by
 subst aa; exact .qj (.alloc bB (by rw [<- Array.all_toList]; exact h1))
theorem fi {t:TypeId}{parts:Array (Nat × Operand)}{pl:List (Nat × Nat)}{ec:Value}{ps:List (Nat × List af)}{cs:List af}(aC:kM P t pl=true) (bB:(P.info? t).bind (·.zero)=some ec) (h1:ec.cells.toList.all Value.oneCell'=true)
  (aE:qk g parts.toList=some ps) (aa:wG (λi=>pl[i]?) (ec.cells.toList.map nr) ps=some cs):dg P g (.build t parts) ty (.agg cs):=.CE (.build aC bB (by rw [<- Array.all_toList]; exact h1) aE aa)
end O
inductive n' (g g2:aU):af->Prop
 | n {x:af}(h:c6 x):n' g g2 x
 | p {r k:Nat}{cs cs2:List af}(h:g r=some (.obj cs)) (hk:k<cs.length) (ak:g2 r=some (.obj cs2)) (gD:k<cs2.length):n' g g2 (.ptr ⟨r,[]⟩ k)
 | r {z n N HC q:Nat}{cs cs2:List af}(h:g q=some (.own z N cs)) (aJ:n<=N) (ak:g2 q=some (.own z HC cs2)) (nP:n<=HC):n' g g2 (.bq z ⟨q,[]⟩ n)
theorem tw {r k:Nat}{cs:List af}(h:g r=some (.obj cs)) (hk:k<cs.length):gS g (.ptr ⟨r,[]⟩ k):=⟨.obj cs,by simp [b9,h,af.at],0,0,cs,.inr rfl,hk⟩
theorem Aj {z n N q:Nat}{cs:List af}(h:g q=some (.own z N cs)) (aJ:n<=N):gS g (.bq z ⟨q,[]⟩ n):=.inl ⟨N,cs,by simp [b9,h,af.at],aJ⟩
theorem n'.br {x:af}(h:n' g g2 x):eK g2 x:=by
 cases h with
 | n h=>exact .bE h
 | p _ _ ak gD=>exact .ref rfl (tw ak gD)
 | r _ _ ak nP=>exact .ref rfl (Aj ak nP)
theorem n'.Al {x:af}{xx k0 m0:Nat}(h:n' g g2 x):j0 (λr=>gS g r/\Clear ⟨xx,[]⟩ k0 m0 r/\gS g2 r) x:=by
 cases h with
 | n h=>exact .bE h
 | p h hk ak gD =>
  refine .ref rfl ⟨tw h hk,?_,tw ak gD⟩;intro q bK _ ae eR e;simp only [xy,Option.some.injEq] at bK;subst bK;simp at e
 | r h hk ak gD =>
  refine .ref rfl ⟨Aj h hk,?_,Aj ak gD⟩;intro q bK _ ae eR e;simp only [xy,Option.some.injEq] at bK;subst bK;simp at e
theorem n'.fF {x:af}(h:n' g g2 x):∀ z p n m new,x≠.b3 z p n m new:=by
 rintro z p n m new rfl;cases h with
 | n h=>cases h
inductive mn (g g2:aU) (r:Nat) (cs2:List af):List (Nat × af)->Prop
 | nil:mn g g2 r cs2 []
 | n {s:Nat}{x:af}{l:List (Nat × af)}(eh:Nat.beq s r=false) (h:g s=some x) [aJ:cK x] (t:mn g g2 r cs2 l):mn g g2 r cs2 ((s,x)::l)
 | p {s q k:Nat}{l:List (Nat × af)}{cs m':List af}(eh:Nat.beq s r=false) (h:g s=some (.ptr ⟨q,[]⟩ k)) (h1:g q=some (.obj cs)) (hk:Nat.blt k cs.length=true) (ak:g2 q=some (.obj m')) (gD:Nat.blt k m'.length=true) (t:mn g g2 r cs2 l):mn g g2 r cs2 ((s,.ptr ⟨q,[]⟩ k)::l)
 | w {α:Type}{s q:Nat}{en:cv α}{L:List α}{l:List (Nat × af)}(eh:Nat.beq s r=false) (h:g s=some (.bq en.z ⟨q,[]⟩ L.length)) (h1:g q=some (al en L)) (ak:g2 q=some (al en L)) (t:mn g g2 r cs2 l):mn g g2 r cs2 ((s,.bq en.z ⟨q,[]⟩ L.length)::l)
 | b {l:List (Nat × af)}{x:af}(e:x=.obj cs2) [aJ:eG cs2] (t:mn g g2 r cs2 l):mn g g2 r cs2 ((r,x)::l)
theorem mn.spec {cs2:List af}{l:List (Nat × af)}(h:mn g g2 r cs2 l):∀ t x,get l t=some x->(t≠r/\g t=some x/\n' g g2 x)\/(t=r/\x=.obj cs2/\c6 x):=by
 induction h with
 | nil=>intro t x J; cases J
 | @n s x l eh h aJ _ aS =>
  intro t y ay; simp only [get] at ay
  split at ay
  ·rename_i e; subst e; cases ay; exact .inl ⟨Nat.ne_of_beq_eq_false eh,h,.n aJ.bE⟩
  ·exact aS t y ay
 | @p s q k l cs m' eh h h1 hk ak gD _ aS =>
  intro t y ay; simp only [get] at ay
  split at ay
  ·rename_i e; subst e; cases ay; exact .inl ⟨Nat.ne_of_beq_eq_false eh,h,.p h1 (by simpa using hk) ak (by simpa using gD)⟩
  ·exact aS t y ay
 | @w α s q en L l eh h h1 ak _ aS =>
  intro t y ay; simp only [get] at ay
  split at ay
  ·rename_i e; subst e; cases ay; exact .inl ⟨Nat.ne_of_beq_eq_false eh,h,.r h1 (Nat.le_refl _) ak (Nat.le_refl _)⟩
  ·exact aS t y ay
 | @b l x e aJ _ aS =>
  intro t y ay; simp only [get] at ay
  split at ay
  ·rename_i cO; subst cO; cases ay; subst e; exact .inr ⟨rfl,rfl,.obj aJ.bE⟩
  ·exact aS t y ay
theorem cq.box {o:Oper}{k0:Nat}{cs cs' cs2:List af}{y:af}{G2:List (Nat × af)}(bd:o.op=.store t a b) (aV:o.dst=none) (aL:g r=some (.obj cs)) (bf:Rd g a (.ptr ⟨r,[]⟩ k0)) (aF:Rd g b y) (aJ:c6 y) (aa:qJ y=some cs') (bB:gn P t cs'.length=true)
  (hk:k0+cs'.length<=cs.length) (ba:0<cs'.length) (he:fu cs k0 cs'=cs2) [gW:eG cs] (av:get G2 r≠none) (eb:mn g (get G2) r cs2 G2):cq P N g o (get G2):=by
 subst he;have l7:g r≠none:=by rw [aL]; simp
 refine .store bd aV bf.bI aF.bI (.bE (by simpa using aJ)) .refl aa bB (p:=⟨r,[]⟩) (nd:=.obj cs) (z:=0) (n:=0) (by simp [b9,aL,af.at]) (.inr rfl) hk ba (λt x J=>?_) (λt x J y ay=>?_) (λt z q n m new J=>?_) av
 ·rcases eb.spec t x J with ⟨h1,ak,_⟩ | ⟨h1,ak,_⟩
  ·rw [si h1]; exact ak
  ·subst h1 ak; simp [c0,aL,af.setAt,af.fu]
 ·rcases eb.spec t x J with ⟨h1,ak,aN⟩ | ⟨h1,ak,aN⟩
  ·rw [ak] at ay; cases ay; exact aN.Al
  ·subst h1;rw [aL] at ay;cases ay;exact .bE (.obj gW.bE)
 ·rcases eb.spec t _ J with ⟨_,_,aN⟩ | ⟨_,ak,_⟩
  ·exact aN.fF _ _ _ _ _ rfl
  ·cases ak
theorem Trim.q {Dy:Bool}{Ap q k0:Nat}{cs:List af}{KT:List (Nat × af)}(h:g Ap=some (.ptr ⟨q,[]⟩ k0)) (ak:g2 q=some (.obj cs)) (hk:Nat.blt k0 cs.length=true) (UE:Trim Dy g g2 KT):Trim Dy g g2 ((Ap,.ptr ⟨q,[]⟩ k0)::KT) :=
 .r h (.ref rfl (tw ak (by simpa using hk))) (by simp) UE
theorem au.h4 {o:Oper}{G2:List (Nat × af)}(aY:o.guard=none) (he:cq P N g o (get G2)) (hk:au P N ops l (get G2) K):au P N ops (o::l) g K:=by
 intro i hi;obtain ⟨h1,ak⟩:=drop_cons hi;obtain ⟨g',av,ep⟩:=hk (i+1) ak;refine ⟨g',.nJ h1 ?_ he av,ep⟩;unfold iL; rw [aY]
theorem au.dQ {k0:Nat}{cs cs' cs2:List af}{y:af}{G2:List (Nat × af)}(aL:g r=some (.obj cs)) (bf:Rd g a (.ptr ⟨r,[]⟩ k0)) (aF:Rd g b y) [aJ:cK y] (aa:qJ y=some cs') (bB:gn P t cs'.length=true)
  (hk:Nat.ble (k0+cs'.length) cs.length=true) (ba:Nat.blt 0 cs'.length=true) (he:fu cs k0 cs'=cs2) [gW:eG cs] (av:(get G2 r).isSome=true) (eb:mn g (get G2) r cs2 G2) (B4:au P N ops l (get G2) K):au P N ops (⟨none,.store t a b,ty,pos,after,none⟩::l) g K :=
 .h4 rfl (.box rfl rfl aL bf aF aJ.bE aa bB (Nat.le_of_ble_eq_true hk) (by simpa using ba) he (by intro e; rw [e] at av; cases av) eb) B4
variable {cc:List (List Nat)}{acc:Acc}{i:Nat}
theorem b1.x7 (df:Nat) {G G2:List (Nat × af)}{o:Oper}(he:cq P N (d_ (get G) (λ_=>true) acc) o (get G2)) (aY:o.guard=none) (bB:acc.filterMap mc=[]) (jg:r7 G=true) (ab:Nat.beq ops.size (df+l.length+1)=true)
  (bf:(List.range df).all (λk=>(cc.getD df []).contains k)=true) (aF:(List.range ops.size).all (λk=>Nat.ble k df||(cc.getD k []).contains df)=true) (hk:b1 P N ops cc (get G2) (df+1) [] l K):b1 P N ops cc (get G) i acc (o::l) K:=by
 intro ee ae dn oH oB;have:=Bs oB ab;subst this;obtain ⟨h1,ak⟩:=drop_cons oB;obtain ⟨g',av,ep⟩:=hk [] (ae+1) .nil .nil ak;refine ⟨g',.H8 dn oH (by rw [bB]; exact List.nodup_nil) (zI jg) h1 ?_ he bf ?_ av,ep⟩
 ·unfold iL; rw [aY]
 ·refine List.all_eq_true.2 λk hk=>?_;have:=List.all_eq_true.1 aF k hk;simp only [Bool.or_eq_true,decide_eq_true_eq,Nat.ble_eq] at this ⊢;exact this
theorem b1.dQ (df:Nat) {G:List (Nat × af)}{k0:Nat}{cs cs' cs2:List af}{y:af}{G2:List (Nat × af)}(ab:Nat.beq ops.size (df+l.length+1)=true) (EL:(List.range df).all (λk=>(cc.getD df []).contains k)=true) (JR:(List.range ops.size).all (λk=>Nat.ble k df||(cc.getD k []).contains df)=true) (FP:acc.filterMap mc=[]) (jg:r7 G=true)
  (aL:d_ (get G) (λ_=>true) acc r=some (.obj cs)) (bf:Rd (d_ (get G) (λ_=>true) acc) a (.ptr ⟨r,[]⟩ k0)) (aF:Rd (d_ (get G) (λ_=>true) acc) b y) [aJ:cK y] (aa:qJ y=some cs') (bB:gn P t cs'.length=true)
  (hk:Nat.ble (k0+cs'.length) cs.length=true) (ba:Nat.blt 0 cs'.length=true) (he:fu cs k0 cs'=cs2) [gW:eG cs] (av:(get G2 r).isSome=true) (eb:mn (d_ (get G) (λ_=>true) acc) (get G2) r cs2 G2) (B4:b1 P N ops cc (get G2) (df+1) [] l K):b1 P N ops cc (get G) i acc (⟨none,.store t a b,ty,pos,after,none⟩::l) K :=
 .x7 df (.box rfl rfl aL bf aF aJ.bE aa bB (Nat.le_of_ble_eq_true hk) (by simpa using ba) he (by intro e; rw [e] at av; cases av) eb) rfl FP jg ab EL JR B4
end
end Go.Own
namespace Go.Own
open Go
variable {α β:Type}
def oS (m:Int) (z:α):Option (List α):=if 0<=m/\m<=lim then some (List.replicate m.toNat z) else none
def eI (l m:List α):Option (List α):=if l.length+m.length<=lim then some (l++m) else none
class Flat (e:cv α):Prop where PX:∀ a,(e.cells a).all k7=true
instance:Flat aG:=⟨λ_=>rfl⟩
instance:Flat ot:=⟨λ_=>rfl⟩
instance:Flat b0:=⟨λ_=>rfl⟩
instance:Flat cp:=⟨λ_=>rfl⟩
instance {e:cv α}:Flat (bY e):=⟨λ_=>rfl⟩
theorem TR (e:cv α) [h:Flat e] (l:List α):(ch e l).all k7=true:=by
 refine List.all_eq_true.2 λx J=>?_;obtain ⟨a,_,bf⟩:=List.mem_flatMap.1 J;exact List.all_eq_true.1 (h.PX a) x bf
theorem CA (e:cv α) (l m:List α):(.own e.z (l.length+m.length) (ch e l++ch e m):af)=al e (l++m):=by
 unfold al;rw [List.length_append,vq]
theorem vr (e:cv α) (l:List α):(ch e l).take (l.length * e.z)=ch e l:=List.take_of_length_le (by rw [nt]; omega)
theorem Lz:∀ L:List Int,ch ot L=L.map λb=>.lit (.int .u8 b)
 | []=>rfl
 | x::L=>by
  have:ch ot (x::L)=lT x::ch ot L:=rfl;rw [this,List.map_cons,Lz L]
section
variable {P:Program}{N:dy}{ops:Array Oper}{g g1 g2:aU}{K:aU->Prop}{l:List Oper}{d r:Nat}{ty t t2:TypeId}{pos:String}{after:Array Edge}{h5:Option (Nat × Bool)}{a b c:Operand}{k kZ:IntKind}{m n:Int}{s u:ByteArray}{p q:Place}
namespace O
theorem dI {e hF:Nat}{parts:Array (Nat × Operand)}{ys:List af}(en:cv α) (L:List α) (aC:e' P t e en.z=true) (J:il g (parts.toList.map (·.2))=some ys) (aa:oh ys=some (ch en L)) (bB:ys.all (λy=>match lp y with | some c=>Nat.beq c.length en.z | none=>false)=true)
  (aE:parts.toList=(parts.toList.map (·.2)).mapIdx (λi x=>(i,x))) (aJ:(parts.toList.map (·.2)).length=hF) (ao:L.length=hF) (hzero:jC P e en.z=true) (aF:Nat.ble (hF * en.z) 16777216=true) (cY:Nat.ble hF 16777216=true):dg P g (.buildSlice t hF parts) ty (al en L):=by
 subst aJ;have:=n5.buildSlice (P:=P) (ty:=ty) aC aE J (λy ay=>by
  have:=List.all_eq_true.1 bB y ay;cases fa:lp y with
  | none=>rw [fa] at this; cases this
  | some c=>rw [fa] at this; exact ⟨c,rfl,Nat.eq_of_beq_eq_true this⟩) aa (Nat.le_of_ble_eq_true aF) (Nat.le_of_ble_eq_true cY) (.inr (Hp hzero))
 unfold al;rw [ao];exact .qj this
theorem py {z cD n:Nat}{e:TypeId}(J:Rd g a (.bq z p n)) (aC:e' P t e cD=true):dg P g (.call { callee:=.builtin .len,args:=#[a],argTypes:=#[t] }) ty (j n):=.e9 (.zu J.bI aC)
theorem iC {en:cv α}{L:List α}{y:α}{e:TypeId}(aE:b9 g p=some (al en L)) (J:Rd g a (.bq en.z p L.length)) (hi:Rd g b (.lit (.int k m))) (aC:e' P t e en.z=true) (h:idx L m=some y) (bB:Nat.blt 0 en.z=true):dg P g (.indexAddr t a b) ty (.ptr p (m.toNat * en.z+0)):=by
 obtain ⟨ba,h1,_⟩:=pt h;obtain ⟨ae,rfl⟩:=Int.eq_ofNat_of_zero_le ba;have KK:0<en.z:=by simpa using bB
 have ab:ae<L.length:=by omega
 refine .e9 (.Ci J.bI hi.bI aC ab ⟨_,aE,_,_,_,.inl rfl,?_⟩);rw [nt]; exact Nat.mul_lt_mul_of_pos_right ab KK
theorem TN {en:cv α}{L:List α}{y:α}{o:Nat}(h:idx L m=some y) (bd:o<en.z):m.toNat * en.z+o<(ch en L).length:=by
 obtain ⟨ba,h1,_⟩:=pt h;rw [nt];have ak:m.toNat+1<=L.length:=by omega
 calc m.toNat * en.z+o<m.toNat * en.z+en.z:=by omega
  _=(m.toNat+1) * en.z:=by rw [Nat.add_mul]; omega
  _<=L.length * en.z:=Nat.mul_le_mul_right _ ak
theorem mu {en:cv α}{L:List α}{y:α}{eL f off o hl:Nat}(aE:b9 g p=some (al en L)) (J:Rd g a (.ptr p (m.toNat * en.z+o))) (bh:dm P eL f off t=true) (h:idx L m=some y) (bd:o+off=hl) (a8:Nat.blt hl en.z=true):dg P g (.fieldAddr eL a f) ty (.ptr p (m.toNat * en.z+hl)):=by
 subst bd;rw [<- Nat.add_assoc];refine .e9 (.yB J.bI bh ⟨_,aE,_,_,_,.inl rfl,?_⟩);rw [Nat.add_assoc]; exact TN h (by simpa using a8)
theorem tV {en:cv α}{L:List α}{y:α}{o:Nat}{x:af}(aE:b9 g p=some (al en L)) (h:idx L m=some y) (aa:(en.cells y)[o]?=some x):b9 g (p.push (m.toNat * en.z+o))=some x:=by
 rw [rB,aE];exact Lx en h aa
theorem kj {en:cv α}{L:List α}{y:α}{o:Nat}{x x':af}(aE:b9 g p=some (al en L)) (J:Rd g a (.ptr p (m.toNat * en.z+o))) (aC:hh P t=true) (h:idx L m=some y) (aa:(en.cells y)[o]?=some x) (av:hX 0 (p.push (m.toNat * en.z+o)) x=x'):dg P g (.load t a) ty x':=by
 subst av;exact .e9 (.zx J.bI aC (tV aE h aa))
end O
class pL (g:aU):Prop where fF:∀ t z q n m new,g t≠some (.b3 z q n m new)
class nE (x:af):Prop where fF:∀ z q n m new,x≠.b3 z q n m new
instance {x:af} [h:cK x]:nE x:=⟨by rintro z q n m new rfl; cases h.bE⟩
instance {p:Place}{k:Nat}:nE (.ptr p k):=⟨by simp⟩
instance {p:Place}{z n:Nat}:nE (.bq z p n):=⟨by simp⟩
instance {p:Place}{z lo n:Nat}:nE (.sub z p lo n):=⟨by simp⟩
instance {cs:List af}:nE (.agg cs):=⟨by simp⟩
instance {cs:List af}:nE (.cr cs):=⟨by simp⟩
instance {cs:List af}:nE (.obj cs):=⟨by simp⟩
instance {g:aU}{d:Nat}{x:af} [h:pL g] [J:nE x]:pL (eM g d x):=⟨λt z q n m new e=>by
 unfold eM at e
 split at e
 ·cases e; exact J.fF _ _ _ _ _ rfl
 ·exact h.fF _ _ _ _ _ _ e⟩
instance:pL (get []):=⟨λ_ _ _ _ _ _ e=>by cases e⟩
instance {t:Nat}{x:af}{G:List (Nat × af)} [J:nE x] [h:pL (get G)]:pL (get ((t,x)::G)):=⟨λs z q n m new e=>by
 simp only [get] at e
 split at e
 ·cases e; exact J.fF _ _ _ _ _ rfl
 ·exact h.fF _ _ _ _ _ _ e⟩
class AU (acc:Acc):Prop where fF:∀ e∈acc,∀ z q n m new,e.2.2≠some (.b3 z q n m new)
instance:AU []:=⟨by simp⟩
instance {ae d:Nat}{x:af}{acc:Acc} [J:nE x] [h:AU acc]:AU ((ae,d,some x)::acc):=⟨λe he z q n m new b_=>by
 rcases List.mem_cons.1 he with rfl | he
 ·exact J.fF z q n m new (Option.some.inj b_)
 ·exact h.fF e he z q n m new b_⟩
instance {G:List (Nat × af)}{A:Nat->Bool}{acc:Acc} [aY:pL (get G)] [h:AU acc]:pL (d_ (get G) A acc):=⟨λt z q n m new e=>by
 rcases ss e with ⟨cO,he,_,_,ak⟩ | ⟨_,ak⟩
 ·exact h.fF cO he _ _ _ _ _ ak
 ·exact aY.fF _ _ _ _ _ _ ak⟩
theorem x5 {L M:List α}{r:List α}{b:Nat}(h:eI L M=some r) (aF:Nat.ble b 128=true):L.length+M.length<=4611686018427387904/\(L.length+M.length) * b<=140737488355328/\r=L++M:=by
 unfold eI at h
 split at h
 ·rename_i ao;have ke:=Nat.le_of_ble_eq_true aF;have RA:lim=1099511627776:=rfl;refine ⟨by omega,?_,(Option.some.inj h).symm⟩
  calc (L.length+M.length) * b<=1099511627776 * 128:=Nat.mul_le_mul ao ke
   _=140737488355328:=by decide
 ·cases h
inductive qD (g:aU) (en:cv α):af->List α->Prop
 | i {M:List α}:qD g en (.aD en.z M.length (ch en M)) M
 | n:qD g en .aO []
 | o {q:Place}{M:List α}(bK:b9 g q=some (al en M)) (bh:(ch en M).all k7=true):qD g en (.bq en.z q M.length) M
theorem qD.src {en:cv α}{y:af}{M:List α}(h:qD g en y M):Src g y en.z M.length (ch en M):=by
 cases h with
 | i=>exact .aD
 | n=>exact .aO
 | o bK bh =>
  have:=Src.bq (g:=g) (m:=M.length) bK (Nat.le_refl _);rw [vr,yD (q:=λi=>_) bh] at this;exact this
theorem qD.flat (en:cv α) [Flat en] {q:Place}{M:List α}(bK:b9 g q=some (al en M)):qD g en (.bq en.z q M.length) M:=.o bK (TR en M)
namespace O
theorem ap {en:cv α}{L M r:List α}{y:af}{e ju:Nat}(aL:Rd g a (.bq en.z p L.length)) (aE:b9 g p=some (al en L)) (J:Rd g b y) (hm:qD g en y M) (aC:jG P t e en.z ju=true) (aF:Nat.ble ju 128=true) (h:eI L M=some r) [gW:pL g] :
  dg P g (.call { callee:=.builtin .append,args:=#[a,b],argTypes:=#[t,t] }) ty (.b3 en.z p L.length M.length (ch en M)):=by
 obtain ⟨h1,ak,_⟩:=x5 h aF;exact .lf (.grow aL.bI (.inl ⟨_,aE⟩) (λt cD cT b6 c7 e=>gW.fF _ _ _ _ _ _ e) J.bI hm.src aC h1 ak)
theorem Ni {en:cv α}{M r:List α}{y:af}{e ju:Nat}(aL:Rd g a .aO) (J:Rd g b y) (hm:qD g en y M) (aC:jG P t e en.z ju=true) (aF:Nat.ble ju 128=true) (h:eI [] M=some r) :
  dg P g (.call { callee:=.builtin .append,args:=#[a,b],argTypes:=#[t,t] }) ty (al en M):=by
 obtain ⟨h1,ak,_⟩:=x5 h aF;simp only [List.length_nil,Nat.zero_add] at h1 ak;exact .lf (.nil aL.bI J.bI hm.src aC h1 ak)
end O
inductive o_ (ex:List Nat) (g g2:aU):List (Nat × af)->Prop
 | nil:o_ ex g g2 []
 | n {s:Nat}{x:af}{l:List (Nat × af)}(eh:ex.elem s=false) (h:g s=some x) [aJ:cK x] (t:o_ ex g g2 l):o_ ex g g2 ((s,x)::l)
 | p {s q k:Nat}{l:List (Nat × af)}{m':List af}(eh:ex.elem s=false) (h:g s=some (.ptr ⟨q,[]⟩ k)) (ak:g2 q=some (.obj m')) (gD:Nat.blt k m'.length=true) (t:o_ ex g g2 l):o_ ex g g2 ((s,.ptr ⟨q,[]⟩ k)::l)
theorem o_.spec {ex:List Nat}{l:List (Nat × af)}(h:o_ ex g g2 l):∀ t x,get l t=some x->ex.elem t=false/\g t=some x/\eK g2 x/\∀ z p n m new,x≠.b3 z p n m new:=by
 induction h with
 | nil=>intro t x J; cases J
 | @n s x l eh h aJ _ aS =>
  intro t y ay; simp only [get] at ay
  split at ay
  ·rename_i e; subst e; cases ay; exact ⟨eh,h,.bE aJ.bE,by rintro z p n m new rfl; cases aJ.bE⟩
  ·exact aS t y ay
 | @p s q k l m' eh h ak gD _ aS =>
  intro t y ay; simp only [get] at ay
  split at ay
  ·rename_i e; subst e; cases ay; exact ⟨eh,h,.ref rfl (tw ak (by simpa using gD)),by simp⟩
  ·exact aS t y ay
theorem o_.keep {ex:List Nat}{G2:List (Nat × af)}(h:o_ ex g (get G2) G2) (aY:∀ t,ex.elem t=false->g1 t=g t):gx g1 (get G2) :=
 ⟨λt x J=>by obtain ⟨h1,ak,_⟩:=h.spec t x J; rw [aY t h1]; exact ak,λt x J=>(h.spec t x J).2.2.1,λt z q n m new J=>(h.spec t _ J).2.2.2 _ _ _ _ _ rfl⟩
theorem Take.row {en:cv α}{L:List α}(aE:b9 g p=some (al en L)):Take g [.bq en.z p L.length] [al en L] (c0 g p .dead):=by
 have h1:Take (c0 g p .dead) ((ch en L).take (L.length * en.z)) (ch en L) (c0 g p .dead):=by
  rw [vr]; exact .bE (nu en L)
 exact .bq aE (Nat.le_refl _) h1 (.bE (by simp))
theorem Take.TP {en:cv α}{L M:List α}{s:Nat}(aL:g s=some (.b3 en.z q L.length M.length (ch en M))) (aE:b9 g q=some (al en L)) (bK:q.root≠s):Take g [.bq en.z ⟨s,[]⟩ (L.length+M.length)] [al en (L++M)] (c0 (c0 g ⟨s,[]⟩ .dead) q .dead):=by
 rw [<- CA];exact .b3 aL aE bK (.bE λx J=>(List.mem_append.1 J).elim (nu en L x) (nu en M x)) (.bE (by simp))
theorem Take.TQ {en:cv α}{L M M2:List α}{s s2:Nat}(aL:g s=some (.b3 en.z ⟨s2,[]⟩ (L.length+M2.length) M.length (ch en M))) (wV:g s2=some (.b3 en.z q L.length M2.length (ch en M2))) (aE:b9 g q=some (al en L)) (bK:q.root≠s) (qT:q.root≠s2) (Fz:s≠s2) :
  Take g [.bq en.z ⟨s,[]⟩ (L.length+M2.length+M.length)] [al en (L++M2++M)] (c0 (c0 (c0 g ⟨s,[]⟩ .dead) ⟨s2,[]⟩ .dead) q .dead):=by
 have:=Take.CF (g:=g) (xs:=[]) (xs':=[]) aL wV rfl aE bK qT Fz (.bE (xs:=ch en L++ch en M2++ch en M) λx J=>by
  rcases List.mem_append.1 J with h | h
  ·exact (List.mem_append.1 h).elim (nu en L x) (nu en M2 x)
  ·exact nu en M x h) (.bE (by simp))
 have e:(al en (L++M2++M):af)=.own en.z (L.length+M2.length+M.length) (ch en L++ch en M2++ch en M):=by
  unfold al; rw [List.length_append,List.length_append,vq,vq]
 rw [e]; exact this
theorem tE {t:Nat}{y:af}(h:t≠p.root):c0 g p y t=g t:=by unfold c0; rw [if_neg h]
theorem wz {ex:List Nat}{t s:Nat}(h:ex.elem t=false) (aL:ex.elem s=true):t≠s:=by rintro rfl; rw [h] at aL; cases aL
theorem cq.k6 {o:Oper}{en:cv α}{L:List α}{x:Operand}{G2:List (Nat × af)}(bd:o.op=.assign x) (aV:o.dst=some d) (J:Rd g x (.bq en.z p L.length)) (aE:b9 g p=some (al en L)) (eb:o_ [p.root] g (get G2) G2) (aY:get G2 d=none) (bU:N.ok d=true):cq P N g o (eM (get G2) d (al en L)) :=
 .assign bd aV J.bI (.row aE) .refl (eb.keep λt aC=>tE (wz aC (by simp))) aY bU
theorem cq.od {o:Oper}{en:cv α}{L M:List α}{s:Nat}{x:Operand}{G2:List (Nat × af)}(bd:o.op=.assign x) (aV:o.dst=some d) (J:Rd g x (.bq en.z ⟨s,[]⟩ (L.length+M.length))) (aL:g s=some (.b3 en.z q L.length M.length (ch en M))) (aE:b9 g q=some (al en L)) (bK:Nat.beq q.root s=false)
  (eb:o_ [s,q.root] g (get G2) G2) (aY:get G2 d=none) (bU:N.ok d=true):cq P N g o (eM (get G2) d (al en (L++M))) :=
 .assign bd aV J.bI (.TP aL aE (Nat.ne_of_beq_eq_false bK)) .refl (eb.keep λt aC=>by rw [tE (wz aC (by simp)),tE (wz aC (by simp))]) aY bU
theorem cq.HK {o:Oper}{en:cv α}{L M M2:List α}{s s2:Nat}{x:Operand}{G2:List (Nat × af)}(bd:o.op=.assign x) (aV:o.dst=some d) (J:Rd g x (.bq en.z ⟨s,[]⟩ (L.length+M2.length+M.length))) (aL:g s=some (.b3 en.z ⟨s2,[]⟩ (L.length+M2.length) M.length (ch en M)))
  (wV:g s2=some (.b3 en.z q L.length M2.length (ch en M2))) (aE:b9 g q=some (al en L)) (bK:Nat.beq q.root s=false) (qT:Nat.beq q.root s2=false) (Fz:Nat.beq s s2=false)
  (eb:o_ [s,s2,q.root] g (get G2) G2) (aY:get G2 d=none) (bU:N.ok d=true):cq P N g o (eM (get G2) d (al en (L++M2++M))) :=
 .assign bd aV J.bI (.TQ aL wV aE (Nat.ne_of_beq_eq_false bK) (Nat.ne_of_beq_eq_false qT) (Nat.ne_of_beq_eq_false Fz)) .refl (eb.keep λt aC=>by rw [tE (wz aC (by simp)),tE (wz aC (by simp)),tE (wz aC (by simp))]) aY bU
theorem au.gz {o:Oper}{x:af}{G2:List (Nat × af)}(aY:o.guard=none) (he:cq P N g o (eM (get G2) d x)) (hk:au P N ops l (eM (get G2) d x) K):au P N ops (o::l) g K:=by
 intro i hi;obtain ⟨h1,ak⟩:=drop_cons hi;obtain ⟨g',av,ep⟩:=hk (i+1) ak;refine ⟨g',.nJ h1 ?_ he av,ep⟩;unfold iL; rw [aY]
theorem sR {x:af}{G:List (Nat × af)}:eM (get G) d x=get ((d,x)::G):=by
 funext t; unfold eM; simp only [get]
variable {cc:List (List Nat)}{acc:Acc}{i:Nat}
inductive x1 (P:Program):aU->List ResultVar->List af->List af->aU->Prop
 | nil {g:aU}:x1 P g [] [] [] g
 | f {g g':aU}{t:Nat}{x:af}{rs:List ResultVar}{ys xs:List af}(h:g t=some x) (bh:k7 x=true) [aJ:cK x] (aC:x1 P g rs ys xs g'):x1 P g (.tmp t::rs) (x::ys) (x::xs) g'
 | o {g g':aU}{t:Nat}{en:cv α}{L:List α}{rs:List ResultVar}{ys xs:List af}(h:g t=some (al en L)) (aC:x1 P (c0 g ⟨t,[]⟩ .dead) rs ys xs g'):x1 P g (.tmp t::rs) (.bq en.z ⟨t,[]⟩ L.length::ys) (al en L::xs) g'
end
end Go.Own
namespace Go.Own
open Go
variable {α β:Type}
section
variable {P:Program}{N:dy}{ops:Array Oper}{g g' g1 g2:aU}{K:aU->Prop}{l:List Oper}{d r:Nat}{ty t t2:TypeId}{pos:String}{after:Array Edge}{a b c:Operand}{p q:Place}{e:Exit}
inductive o9 (s:Nat):aU->Nat->List af->List af->aU->Prop
 | nil {g:aU}{i:Nat}:o9 s g i [] [] g
 | f {g g':aU}{i:Nat}{x:af}{ys xs:List af}(bh:k7 x=true) [aJ:cK x] (aC:o9 s g (i+1) ys xs g'):o9 s g i (x::ys) (x::xs) g'
 | o {α:Type}{g g':aU}{i:Nat}{en:cv α}{L:List α}{ys xs:List af}(aE:b9 g ⟨s,[i]⟩=some (al en L)) (aC:o9 s (c0 g ⟨s,[i]⟩ .dead) (i+1) ys xs g'):o9 s g i (.bq en.z ⟨s,[i]⟩ L.length::ys) (al en L::xs) g'
theorem o9.take {s i:Nat}{ys xs:List af}(h:o9 s g i ys xs g'):Take g ys xs g':=by
 induction h with
 | nil=>exact .bE (by simp)
 | @f g g' i x ys xs bh aJ _ aS=>exact .cons aJ.bE aS
 | @o α g g' i en L ys xs aE _ aS =>
  refine .bq aE (Nat.le_refl _) ?_ aS;rw [vr]; exact .bE (nu en L)
inductive n_ (P:Program):aU->List ResultVar->List af->List af->aU->Prop
 | nil {g:aU}:n_ P g [] [] [] g
 | f {g g':aU}{t:Nat}{x:af}{rs:List ResultVar}{ys xs:List af}(h:g t=some x) (bh:k7 x=true) [aJ:cK x] (aC:n_ P g rs ys xs g'):n_ P g (.tmp t::rs) (x::ys) (x::xs) g'
 | o {α:Type}{g g':aU}{t:Nat}{en:cv α}{L:List α}{rs:List ResultVar}{ys xs:List af}(h:g t=some (al en L)) (aC:n_ P (c0 g ⟨t,[]⟩ .dead) rs ys xs g'):n_ P g (.tmp t::rs) (.bq en.z ⟨t,[]⟩ L.length::ys) (al en L::xs) g'
 | c {g g' BI:aU}{t z:Nat}{ty:TypeId}{cs ys0:List af}{rs:List ResultVar}{ys xs:List af}(h:g t=some (.obj cs)) (aC:iM P ty z=true) (bB:cs.length=z) (ba:Nat.blt 0 z=true) (ay:(cs.mapIdx λi x=>hX 0 ⟨t,[i]⟩ x)=ys0) (hk:o9 t g 0 ys0 cs BI) (av:n_ P BI rs ys xs g'):n_ P g (.cell t ty::rs) (.agg ys0::ys) (.agg cs::xs) g'
def vL (g0 g:aU):Prop:=∀ t x,g t=some x->(k7 x=true\/(∃ z n cs,x=.own z n cs))->g0 t=some x
theorem vL.set {g0:aU}{t:Nat}{pp:List Nat}(h:vL g0 g) (bd:pp=[]\/∃ cs,g t=some (.obj cs)):vL g0 (c0 g ⟨t,pp⟩ .dead):=by
 intro s x J bh;unfold c0 at J
 split at J
 ·rename_i aL;simp only at aL J;subst aL;exfalso;cases aY:g s with
  | none=>rw [aY] at J; cases J
  | some y =>
   rw [aY] at J;simp only [Option.map_some,Option.some.injEq] at J;rcases bd with rfl | ⟨cs,aa⟩
   ·simp only [af.setAt] at J;subst J;rcases bh with bh | ⟨_,_,_,bh⟩ <;> cases bh
   ·rw [aY] at aa;cases aa;have:∃ cs',x=.obj cs':=by
     subst J;cases pp with
     | nil=>simp only [af.setAt] at bh; rcases bh with bh | ⟨_,_,_,bh⟩ <;> cases bh
     | cons k pp =>
      simp only [af.setAt,af.kids];split
      ·exact ⟨_,rfl⟩
      ·exact ⟨_,rfl⟩
    obtain ⟨cs',rfl⟩:=this;rcases bh with bh | ⟨_,_,_,bh⟩ <;> cases bh
 ·exact h s x J bh
theorem o9.O9 {g0:aU}{s i:Nat}{ys xs:List af}(h:o9 s g i ys xs g'):(∃ cs,g s=some (.obj cs))->vL g0 g->vL g0 g':=by
 induction h with
 | nil=>exact λ_ h=>h
 | f _ _ aS=>exact aS
 | @o α g g' i en L ys xs aE _ aS =>
  intro bd aV;refine aS ?_ (aV.set (.inr bd));obtain ⟨cs,aa⟩:=bd;unfold c0;simp only [if_pos,aa,Option.map_some,af.setAt,af.kids];split
  ·exact ⟨_,rfl⟩
  ·exact ⟨_,rfl⟩
theorem o9.out {s i:Nat}{ys xs:List af}(h:o9 s g i ys xs g'):∀ t,t≠s->g' t=g t:=by
 induction h with
 | nil=>exact λ_ _=>rfl
 | f _ _ aS=>exact aS
 | o _ _ aS=>exact λt aC=>by rw [aS t aC,tE aC]
theorem n_.take {rs:List ResultVar}{ys xs:List af}(h:n_ P g rs ys xs g'):Take g ys xs g':=by
 induction h with
 | nil=>exact .bE (by simp)
 | @f g g' t x rs ys xs h bh aJ _ aS=>exact .cons aJ.bE aS
 | @o α g g' t en L rs ys xs h _ aS =>
  have aE:b9 g ⟨t,[]⟩=some (al en L):=by simp [b9,h,af.at]
  refine .bq aE (Nat.le_refl _) ?_ aS;rw [vr]; exact .bE (nu en L)
 | @c g g' BI t z ty cs ys0 rs ys xs h aC bB ba ay hk _ aS=>exact .agg hk.take aS
theorem n_.vs {rs:List ResultVar}{ys xs:List af}(h:n_ P g rs ys xs g'):∀ g0:aU,vL g0 g->(∀ t ty,ResultVar.cell t ty∈rs->∀ cs,g t=some (.obj cs)->g0 t=some (.obj cs))->(rs.filterMap fun | .cell t _=>some t | _=>none).Nodup->pO P g0 rs ys:=by
 induction h with
 | nil=>exact λ_ _ _ _=>.nil
 | @f g g' t x rs ys xs h bh aJ _ aS =>
  intro g0 aV aF fU;exact .cons (.tmp (Rd.f (aV t x h (.inl bh)) bh)) (aS g0 aV (λt ty hm=>aF t ty (List.mem_cons_of_mem _ hm)) (by simpa using fU))
 | @o α g g' t en L rs ys xs h _ aS =>
  intro g0 aV aF fU;refine .cons (.tmp ?_) (aS g0 (aV.set (.inl rfl)) (λs ty hm cs aa=>?_) (by simpa using fU))
  ·have:=aV t _ h (.inr ⟨_,_,_,rfl⟩);simp [Own.bI,this,ql,hX]
  ·by_cases aL:s=t
   ·subst aL; simp [c0,h,af.setAt] at aa
   ·rw [tE aL] at aa; exact aF s ty (List.mem_cons_of_mem _ hm) cs aa
 | @c g g' BI t z ty cs ys0 rs ys xs h aC bB ba ay hk _ aS =>
  intro g0 aV aF fU;have h1:=aF t ty (by simp) cs h;simp only [List.filterMap_cons,List.nodup_cons] at fU;refine .cons ?_ (aS g0 (hk.O9 ⟨cs,h⟩ aV) (λs Mk hm cs' aa=>?_) fU.2)
  ·have KK:0<z:=by simpa using ba
   have J:Own.bI g0 (.tmp t)=some (.ptr ⟨t,[]⟩ 0):=by
    cases cs with
    | nil=>simp at bB; omega
    | cons c cs=>simp [Own.bI,h1,ql,hX]
   have:=da.w4 (P:=P) (ty:=ty) (p:=⟨t,[]⟩) (n:=0) (z:=0) J aC (by simp only [b9,h1,af.at]) (.inr rfl) (show 0+z<=cs.length by omega);have gU:((cs.drop 0).take z).mapIdx (λi x=>hX 0 (Place.push ⟨t,[]⟩ (0+i)) x)=ys0:=by
    rw [List.drop_zero,List.take_of_length_le (by omega),<- ay];congr 1;funext i x;simp [Place.push]
   rw [gU] at this;exact .cell this
  ·have cd:s≠t:=by
    rintro rfl;exact fU.1 (List.mem_filterMap.2 ⟨.cell s Mk,hm,rfl⟩)
   have:=hk.out s cd;rw [this] at aa;exact aF s Mk (List.mem_cons_of_mem _ hm) cs' aa
inductive rr (g:aU) (pins:List Nat):Nat->List (Option af)->Prop
 | nil {i:Nat}:rr g pins i []
 | no {i:Nat}{os:List (Option af)}(t:rr g pins (i+1) os):rr g pins i (none::os)
 | az {i:Nat}{x:af}{os:List (Option af)}(h:g i=some x) [aJ:cK x] (aE:pins.elem i=true) (t:rr g pins (i+1) os):rr g pins i (some x::os)
theorem rr.spec {pins:List Nat}{i:Nat}{os:List (Option af)}(h:rr g pins i os):∀ k x,os[k]?=some (some x)->g (i+k)=some x/\c6 x/\i+k∈pins:=by
 induction h with
 | nil=>intro k x hk; simp at hk
 | no _ aS =>
  intro k x hk;cases k with
  | zero=>simp at hk
  | succ k=>have:=aS k x (by simpa using hk); rw [Nat.add_assoc,Nat.add_comm 1 k] at this; exact this
 | @az i y os h aJ aE _ aS =>
  intro k x hk;cases k with
  | zero=>simp at hk; subst hk; exact ⟨h,aJ.bE,by simpa using aE⟩
  | succ k=>have:=aS k x (by simpa using hk); rw [Nat.add_assoc,Nat.add_comm 1 k] at this; exact this
theorem Fin.ro {rs:List ResultVar}{ys xs:List af}{res:af}{outs:List (Option af)}{n:Nat}(h:n_ P g rs ys xs g') (he:pF xs=res) (fU:(rs.filterMap fun | .cell t _=>some t | _=>none).Nodup) (bd:rr g' N.pins 0 outs) (ao:outs.length=n) (J:e=.normal\/e=.ret):Fin P N rs n outs res e g :=
 ⟨J,⟨ys,xs,g',h.vs g (λ_ _ h _=>h) (λ_ _ _ _ h=>h) fU,h.take,he.symm,λk x hk=>by have:=bd.spec k x hk; rw [Nat.zero_add] at this; exact this⟩,ao⟩
class kb (x y:af):Prop where v:∀ g,View g x y
class dE (xs ys:List af):Prop where
 l:ys.length=xs.length
 v:∀ (g:aU) (k:Nat) (x y:af),xs[k]?=some x->ys[k]?=some y->View g x y
class gT (e cO:cv α):Prop where
 z:e.z=cO.z
 v:∀ a,dE (e.cells a) (cO.cells a)
instance {v:Value}:kb (.lit v) (.lit v):=⟨λ_=>.self .lit (by simp) (by simp) (by simp) (by simp) (by simp)⟩
instance:kb .aO .aO:=⟨λ_=>.self .aO (by simp) (by simp) (by simp) (by simp) (by simp)⟩
instance {z n:Nat}{cs:List af} [h:eG cs]:kb (.aD z n cs) (.aD z n cs):=⟨λ_=>.self (.aD h.bE) (by simp) (by simp) (by simp) (by simp) (by simp)⟩
instance {cs:List af} [h:eG cs]:kb (.bs cs) (.bs cs):=⟨λ_=>.self (.bs h.bE) (by simp) (by simp) (by simp) (by simp) (by simp)⟩
instance {e:cv α}:kb .aO (aj e []):=⟨λ_=>.oT⟩
instance:dE [] []:=⟨rfl,by simp⟩
instance {x y:af}{xs ys:List af} [h:kb x y] [aR:dE xs ys]:dE (x::xs) (y::ys):=⟨by simp [aR.l],λg k a b bf aF=>by
 cases k with
 | zero=>simp at bf aF; subst bf aF; exact h.v g
 | succ k=>exact aR.v g k a b (by simpa using bf) (by simpa using aF)⟩
theorem Az (e cO:cv α) [h:gT e cO]:∀ L:List α,(ch cO L).length=(ch e L).length/\∀ (g:aU) (k:Nat) (x y:af),(ch e L)[k]?=some x->(ch cO L)[k]?=some y->View g x y
 | []=>⟨rfl,by simp [ch]⟩
 | a::L=>by
  obtain ⟨h1,ak⟩:=Az e cO L;have PB:∀ e:cv α,ch e (a::L)=e.cells a++ch e L:=λe=>by simp [ch]
  refine ⟨by rw [nt,nt,h.z],λg k x y J ay=>?_⟩;rw [PB] at J ay;by_cases hk:k<e.z
  ·rw [List.getElem?_append_left (by rw [e.len]; exact hk)] at J;rw [List.getElem?_append_left (by rw [cO.len,<- h.z]; exact hk)] at ay;exact (h.v a).v g k x y J ay
  ·rw [List.getElem?_append_right (by rw [e.len]; omega),e.len] at J;rw [List.getElem?_append_right (by rw [cO.len,<- h.z]; omega),cO.len,<- h.z] at ay;exact ak g _ x y J ay
instance {e cO:cv α}{L:List α} [h:gT e cO]:kb (al e L) (aj cO L):=⟨λg=>by
 have:=Az e cO L;show View g (.own e.z L.length (ch e L)) (.aD cO.z L.length (ch cO L));rw [<- h.z];exact .own this.1 (this.2 g)⟩
instance:gT aG aG:=⟨rfl,λa=>(inferInstance:dE [j a] [j a])⟩
instance:gT ot ot:=⟨rfl,λa=>(inferInstance:dE [lT a] [lT a])⟩
instance:gT b0 b0:=⟨rfl,λa=>(inferInstance:dE [bk a] [bk a])⟩
instance:gT cp cp:=⟨rfl,λa=>(inferInstance:dE [ah a] [ah a])⟩
instance {e cO:cv α} [h:gT e cO]:gT (eW e) (bY cO):=⟨rfl,λa=>(inferInstance:dE [al e a] [aj cO a])⟩
instance {e:cv α}:gT (bY e) (bY e):=⟨rfl,λa=>(inferInstance:dE [aj e a] [aj e a])⟩
theorem View.row {e cO:cv α}{L:List α} [h:gT e cO] (aE:b9 g p=some (al e L)):View g (.bq e.z p L.length) (aj cO L):=by
 have:=Az e cO L;show View g _ (.aD cO.z L.length (ch cO L));rw [<- h.z];refine .bq aE (Nat.le_refl _) (by rw [vr]; exact this.1) (λk x y J ay=>?_);rw [vr] at J;exact this.2 g k x y J ay
inductive o' (g:aU):List af->List af->Prop
 | nil:o' g [] []
 | s {x y:af}{xs ys:List af} [h:kb x y] (t:o' g xs ys):o' g (x::xs) (y::ys)
 | c {x y:af}{xs ys:List af}(h:View g x y) (t:o' g xs ys):o' g (x::xs) (y::ys)
theorem o'.len {xs ys:List af}(h:o' g xs ys):ys.length=xs.length:=by
 induction h with
 | nil=>rfl
 | s _ aS=>simp [aS]
 | c _ _ aS=>simp [aS]
theorem o'.get {xs ys:List af}(h:o' g xs ys):∀ (k:Nat) (x y:af),xs[k]?=some x->ys[k]?=some y->View g x y:=by
 induction h with
 | nil=>intro k x y J; simp at J
 | @s x y xs ys h _ aS =>
  intro k a b bf aF;cases k with
  | zero=>simp at bf aF; subst bf aF; exact h.v g
  | succ k=>exact aS k a b (by simpa using bf) (by simpa using aF)
 | @c x y xs ys h _ aS =>
  intro k a b bf aF;cases k with
  | zero=>simp at bf aF; subst bf aF; exact h
  | succ k=>exact aS k a b (by simpa using bf) (by simpa using aF)
theorem View.ry {xs ys:List af}(h:o' g xs ys):View g (.agg xs) (.agg ys):=.agg h.len h.get
class pM (x:af):Prop where kJ:ka x
class jE (cs:List af):Prop where kJ:∀ x∈cs,ka x
class ll (e:cv α):Prop where kJ:∀ a,jE (e.cells a)
instance {v:Value}:pM (.lit v):=⟨.lit⟩
instance:pM .aO:=⟨.aO⟩
instance:jE []:=⟨by simp⟩
instance {x:af}{xs:List af} [h:pM x] [aR:jE xs]:jE (x::xs):=⟨λy ay=>by
 rcases List.mem_cons.1 ay with rfl | ay
 ·exact h.kJ
 ·exact aR.kJ y ay⟩
instance {e:cv α}{L:List α} [h:ll e]:jE (ch e L):=⟨λx J=>by
 obtain ⟨a,_,bf⟩:=List.mem_flatMap.1 J;exact (h.kJ a).kJ x bf⟩
instance {z n:Nat}{cs:List af} [h:jE cs]:pM (.own z n cs):=⟨.own h.kJ⟩
instance {cs:List af} [h:jE cs]:pM (.obj cs):=⟨.obj h.kJ⟩
instance {cs:List af} [h:jE cs]:pM (.agg cs):=⟨.agg h.kJ⟩
instance {cs:List af} [h:jE cs]:pM (.cr cs):=⟨.cr h.kJ⟩
instance {e:cv α}{a:α} [h:ll e]:jE (e.cells a):=h.kJ a
instance:ll aG:=⟨λa=>(inferInstance:jE [j a])⟩
instance:ll ot:=⟨λa=>(inferInstance:jE [lT a])⟩
instance:ll b0:=⟨λa=>(inferInstance:jE [bk a])⟩
instance:ll cp:=⟨λa=>(inferInstance:jE [ah a])⟩
instance {e:cv α} [h:ll e]:ll (eW e):=⟨λa=>(inferInstance:jE [al e a])⟩
theorem Te {outs:List (Option af)}{args:List af}(bd:u3 outs=true) (ao:outs.length=args.length):outs=args.map λ_=>none:=by
 apply List.ext_getElem?;intro k;rw [List.getElem?_map];cases ay:args[k]? with
 | none=>rw [List.getElem?_eq_none (by rw [ao]; exact List.getElem?_eq_none_iff.1 ay)]; rfl
 | some y =>
  have hk:k<outs.length:=by rw [ao]; exact (List.getElem?_eq_some_iff.1 ay).1
  have h1:=List.getElem?_eq_getElem hk;rw [h1];cases ak:outs[k] with
  | none=>rfl
  | some x=>rw [ak] at h1; exact absurd h1 (Cz bd k x)
theorem cw.vw {xs:List Operand}{ia:Array TypeId}{f:FuncId}{ys args:List af}{outs:List (Option af)}{res:af}(J:il g xs=some ys) (hv:o' g ys args) (iR:cf P f args outs res) (bh:dD P f=true) (bd:u3 outs=true) [av:pM res] :
  cw P g (.call { callee:=.value (.func f),args:=xs.toArray,argTypes:=ia }) res:=by
 have e:=Te bd iR.1;refine .Cs (first:=[]) (caps:=[]) (ys:=ys) (args:=args) rfl (by simpa using J) bh (by simpa using hv.len) (λk x y J ay=>hv.get k x y (by simpa using J) ay) ?_ av.kJ;rw [<- e]; exact iR
end
end Go.Own
namespace Go.Own
open Go
variable {α β:Type}
section
variable {P:Program}{N:dy}{ops:Array Oper}{g g' g1 g2:aU}{K:aU->Prop}{l:List Oper}{d r:Nat}{op:Op}{ty t t2:TypeId}{pos:String}{after:Array Edge}{h5:Option (Nat × Bool)}{a b c:Operand}{p q:Place}{x y:af}
variable {cc:List (List Nat)}{g0:aU}{acc:Acc}{i:Nat}
instance {cs cs':List af} [h:dE cs cs']:kb (.obj cs) (.bs cs'):=⟨λg=>.obj h.l (h.v g)⟩
instance {cs cs':List af} [h:dE cs cs']:kb (.agg cs) (.agg cs'):=⟨λg=>.agg h.l (h.v g)⟩
instance {z n:Nat}{cs cs':List af} [h:dE cs cs']:kb (.own z n cs) (.aD z n cs'):=⟨λg=>.own h.l (h.v g)⟩
theorem au.gP (aE:dg P g op ty y) [aJ:cK y] [hv:kb y x] (bU:N.ok d=true) (bh:g d=none) (aY:gg g ops h5) (hk:au P N ops l (eM g d x) K):au P N ops (⟨some d,op,ty,pos,after,h5⟩::l) g K :=
 .xD rfl bU bh (r:=some x) (.inr (.inr ⟨aY.wanted,y,.inl aE,aJ.bE,hv.v _⟩)) hk
theorem b1.gP (df:Nat) (aE:dg P (nz cc g0 df acc) op ty y) [aJ:cK y] [hv:kb y x] (ab:Nat.beq ops.size (df+l.length+1)=true) (bh:g0 d=none) (oF:acc.all (λe=>!Nat.beq e.2.1 d)=true) (bU:N.ok d=true) (aY:gg (nz cc g0 df acc) ops h5)
  (hk:b1 P N ops cc g0 i ((df,d,some x)::acc) l K):b1 P N ops cc g0 i acc (⟨some d,op,ty,pos,after,h5⟩::l) K :=
 .st df (r:=some x) rfl (.inr (.inr ⟨aY.wanted,y,.inl aE,aJ.bE,hv.v _⟩)) ab bh oF bU hk
inductive oc (ex:List Nat) (g g2:aU):List (Nat × af)->Prop
 | nil:oc ex g g2 []
 | n {s:Nat}{x:af}{l:List (Nat × af)}(eh:ex.elem s=false) (h:g s=some x) [aJ:cK x] (t:oc ex g g2 l):oc ex g g2 ((s,x)::l)
 | p {s q k:Nat}{l:List (Nat × af)}{m':List af}(eh:ex.elem s=false) (h:g s=some (.ptr ⟨q,[]⟩ k)) (ak:g2 q=some (.obj m')) (gD:Nat.blt k m'.length=true) (t:oc ex g g2 l):oc ex g g2 ((s,.ptr ⟨q,[]⟩ k)::l)
 | z {s:Nat}{x y:af}{l:List (Nat × af)}(he:ex.elem s=true) (h:g s=some y) [aJ:cK y] (hv:jo y x) [J:nE x] (t:oc ex g g2 l):oc ex g g2 ((s,x)::l)
theorem oc.spec {ex:List Nat}{l:List (Nat × af)}(h:oc ex g g2 l):∀ t x,get l t=some x->((ex.elem t=false/\g t=some x/\eK g2 x)\/(ex.elem t=true/\∃ y,g t=some y/\c6 y/\jo y x))/\∀ z p n m new,x≠.b3 z p n m new:=by
 induction h with
 | nil=>intro t x J; cases J
 | @n s x l eh h aJ _ aS =>
  intro t y ay; simp only [get] at ay
  split at ay
  ·rename_i e; subst e; cases ay; exact ⟨.inl ⟨eh,h,.bE aJ.bE⟩,by rintro z p n m new rfl; cases aJ.bE⟩
  ·exact aS t y ay
 | @p s q k l m' eh h ak gD _ aS =>
  intro t y ay; simp only [get] at ay
  split at ay
  ·rename_i e; subst e; cases ay; exact ⟨.inl ⟨eh,h,.ref rfl (tw ak (by simpa using gD))⟩,by simp⟩
  ·exact aS t y ay
 | @z s x y l he h aJ hv J _ aS =>
  intro t y' ay; simp only [get] at ay
  split at ay
  ·rename_i e; subst e; cases ay; exact ⟨.inr ⟨he,y,h,aJ.bE,hv⟩,J.fF⟩
  ·exact aS t y' ay
theorem oc.sP {ex:List Nat}{G2:List (Nat × af)}(h:oc ex g (get G2) G2):Dg (λt=>ex.elem t) g (get G2):=by
 refine ⟨λt x J aC=>?_,λt x J aC=>?_,λt z q n m new J=>(h.spec t _ J).2 _ _ _ _ _ rfl⟩
 ·rcases (h.spec t x J).1 with ⟨_,h1,ak⟩ | ⟨h1,_⟩
  ·exact ⟨h1,ak⟩
  ·rw [h1] at aC; cases aC
 ·rcases (h.spec t x J).1 with ⟨h1,_⟩ | ⟨_,ak⟩
  ·rw [h1] at aC; cases aC
  ·exact ak
theorem W.fI {cE:Code}{G G1:List (Nat × af)}{Φ:Exit->aU->Prop}(ex:List Nat) (h:oc ex (get G) (get G1) G1) (hw:W P N cE (get G1) Φ):W P N cE (get G) Φ:=by
 intro Q a w I Fs bW bU dK;obtain ⟨I',cn,er,cd⟩:=bW.sP h.sP;exact hw er bU λe g' cx w' he aJ=>dK e g' cx w' he (hR.trans rfl hC.refl cd aJ)
theorem au.fI {G1:List (Nat × af)}(ex:List Nat) (h:oc ex g (get G1) G1) (hk:au P N ops l (get G1) K):au P N ops l g K:=by
 intro i hi;obtain ⟨g',av,ep⟩:=hk i hi;exact ⟨g',.sP h.sP av,ep⟩
theorem Take.pre {xs xs':List af}:∀ {ps:List af},(∀ x∈ps,c6 x)->Take g xs xs' g'->Take g (ps++xs) (ps++xs') g'
 | [],_,h=>h
 | x::ps,aJ,h=>.cons (aJ x (by simp)) (Take.pre (ps:=ps) (λy ay=>aJ y (List.mem_cons_of_mem _ ay)) h)
inductive iz:aU->List af->List af->aU->Prop
 | nil {g:aU}:iz g [] [] g
 | nq {g:aU}{xs:List af} [aJ:eG xs]:iz g xs xs g
 | f {g g':aU}{x:af}{xs xs':List af} [aJ:cK x] (t:iz g xs xs' g'):iz g (x::xs) (x::xs') g'
 | r {α:Type}{g g':aU}{p:Place}{en:cv α}{L:List α}{xs xs':List af}(aE:b9 g p=some (al en L)) (t:iz (c0 g p .dead) xs xs' g'):iz g (.bq en.z p L.length::xs) (al en L::xs') g'
 | l {g g1 g':aU}{p:Place}{z n:Nat}{cs cs' xs xs':List af}(aE:b9 g p=some (.own z n cs)) (ao:cs.length=n * z) (h1:iz (c0 g p .dead) cs cs' g1) (t:iz g1 xs xs' g'):iz g (.bq z p n::xs) (.own z n cs'::xs') g'
 | lI {α:Type}{g g1 g':aU}{q:Place}{s m:Nat}{en:cv α}{L:List α}{new c7 xs xs':List af}(aL:g s=some (.b3 en.z q L.length m new)) (aE:b9 g q=some (al en L)) (bK:Nat.beq q.root s=false) (h1:iz (c0 (c0 g ⟨s,[]⟩ .dead) q .dead) new c7 g1) (t:iz g1 xs xs' g') :
   iz g (.bq en.z ⟨s,[]⟩ (L.length+m)::xs) (.own en.z (L.length+m) (ch en L++c7)::xs') g'
 | ry {g g1 g':aU}{cs cs' xs xs':List af}(h1:iz g cs cs' g1) (t:iz g1 xs xs' g'):iz g (.agg cs::xs) (.agg cs'::xs') g'
 | m {g g':aU}{p:Place}{q:Array MapEntry->Nat->Prop}{xs xs':List af}(aE:b9 g p=some (.mp q)) (t:iz (c0 g p .dead) xs xs' g'):iz g (.iD p::xs) (.mp q::xs') g'
 | b {g g1 g':aU}{p:Place}{cs cs' xs xs':List af}(aE:b9 g p=some (.obj cs)) (h1:iz (c0 g p .dead) cs cs' g1) (t:iz g1 xs xs' g'):iz g (.ptr p 0::xs) (.obj cs'::xs') g'
theorem iz.take {xs xs':List af}(h:iz g xs xs' g'):Take g xs xs' g':=by
 induction h with
 | m aE _ aS=>exact .mp aE (.bE (by simp)) aS
 | nil=>exact .bE (by simp)
 | @nq g xs aJ=>exact .bE aJ.bE
 | @f g g' x xs xs' aJ _ aS=>exact .cons aJ.bE aS
 | @r α g g' p en L xs xs' aE _ aS =>
  refine .bq aE (Nat.le_refl _) ?_ aS;rw [vr]; exact .bE (nu en L)
 | @l g g1 g' p z n cs cs' xs xs' aE ao _ _ ga fW =>
  refine .bq aE (Nat.le_refl _) ?_ fW;rw [List.take_of_length_le (by omega)]; exact ga
 | @lI α g g1 g' q s m en L new c7 xs xs' aL aE bK _ _ ga fW=>exact .b3 aL aE (Nat.ne_of_beq_eq_false bK) (.pre (nu en L) ga) fW
 | @ry g g1 g' cs cs' xs xs' _ _ ga fW=>exact .agg ga fW
 | @b g g1 g' p cs cs' xs xs' aE _ _ ga fW=>exact .obj aE ga fW
inductive gp:List af->List af->Prop
 | nil:gp [] []
 | hP {xs:List af}:gp xs xs
 | f {x:af}{xs ys:List af}(t:gp xs ys):gp (x::xs) (x::ys)
 | o {z:Nat}{xs ys:List af}(t:gp xs ys):gp (.aO::xs) (.own z 0 []::ys)
 | z {x y:af}{xs ys:List af} [aJ:cK x] [hv:kb x y] (t:gp xs ys):gp (x::xs) (y::ys)
 | g {x y:af}{xs ys:List af}(h:jo x y) (t:gp xs ys):gp (x::xs) (y::ys)
theorem gp.len {xs ys:List af}(h:gp xs ys):ys.length=xs.length:=by
 induction h with
 | nil=>rfl
 | hP=>rfl
 | f _ aS=>simp [aS]
 | o _ aS=>simp [aS]
 | z _ aS=>simp [aS]
 | g _ _ aS=>simp [aS]
theorem gp.get {xs ys:List af}(h:gp xs ys):∀ (k:Nat) (x y:af),xs[k]?=some x->ys[k]?=some y->jo x y:=by
 induction h with
 | nil=>intro k x y J; simp at J
 | hP=>intro k x y J ay; rw [J] at ay; cases ay; exact .refl
 | @f x xs ys _ aS =>
  intro k a b bf aF;cases k with
  | zero=>simp at bf aF; subst bf aF; exact .refl
  | succ k=>exact aS k a b (by simpa using bf) (by simpa using aF)
 | @o z xs ys _ aS =>
  intro k a b bf aF;cases k with
  | zero=>simp at bf aF; subst bf aF; exact .Gj
  | succ k=>exact aS k a b (by simpa using bf) (by simpa using aF)
 | @z x y xs ys aJ hv _ aS =>
  intro k a b bf aF;cases k with
  | zero=>simp at bf aF; subst bf aF; exact .qd aJ.bE (hv.v _)
  | succ k=>exact aS k a b (by simpa using bf) (by simpa using aF)
 | @g x y xs ys h _ aS =>
  intro k a b bf aF;cases k with
  | zero=>simp at bf aF; subst bf aF; exact h
  | succ k=>exact aS k a b (by simpa using bf) (by simpa using aF)
theorem gp.pre {xs ys:List af}(h:gp xs ys):∀ ps:List af,gp (ps++xs) (ps++ys)
 | []=>h
 | _::ps=>.f (gp.pre h ps)
theorem gp.own {z n:Nat}{xs ys:List af}(h:gp xs ys):jo (.own z n xs) (.own z n ys):=.own h.len h.get
theorem gp.obj {xs ys:List af}(h:gp xs ys):jo (.obj xs) (.obj ys):=.obj h.len h.get
theorem gp.agg {xs ys:List af}(h:gp xs ys):jo (.agg xs) (.agg ys):=.agg h.len h.get
theorem jo.iH [aJ:cK x] [hv:kb x y]:jo x y:=.qd aJ.bE (hv.v _)
theorem cq.A1 {o:Oper}{x:Operand}{y jZ y':af}{G2:List (Nat × af)}(bd:o.op=.assign x) (aV:o.dst=some d) (J:Rd g x y) (aC:iz g [y] [jZ] g1) (bB:jo jZ y') (eb:Trim false g1 (get G2) G2) (aY:get G2 d=none) (bU:N.ok d=true):cq P N g o (eM (get G2) d y') :=
 .assign bd aV J.bI aC.take bB eb.keep aY bU
theorem cq.Ng {o:Oper}{x:Operand}{en:cv α}{L M R:List α}{s m:Nat}{new c7:List af}{G2:List (Nat × af)}(bd:o.op=.assign x) (aV:o.dst=some d) (J:Rd g x (.bq en.z ⟨s,[]⟩ (L.length+m))) (aL:g s=some (.b3 en.z q L.length m new)) (aE:b9 g q=some (al en L)) (bK:Nat.beq q.root s=false)
  (h1:iz (c0 (c0 g ⟨s,[]⟩ .dead) q .dead) new c7 g1) (bB:gp c7 (ch en M)) (hm:M.length=m) (av:L++M=R) (eb:Trim false g1 (get G2) G2) (aY:get G2 d=none) (bU:N.ok d=true):cq P N g o (eM (get G2) d (al en R)):=by
 subst hm av;have aC:=iz.lI (xs:=[]) (xs':=[]) aL aE bK h1 .nil;rw [<- CA];exact .assign bd aV J.bI aC.take (bB.pre _).own eb.keep aY bU
theorem cq.sm {o:Oper}{k0:Nat}{qK cs' cs2:List af}{y jZ y':af}{G2:List (Nat × af)}(bd:o.op=.store t a b) (aV:o.dst=none) (bf:Rd g a (.ptr ⟨r,[]⟩ k0)) (aF:Rd g b y) (aC:iz g [y] [jZ] g1) (pk:jo jZ y') (aa:qJ y'=some cs') (bB:gn P t cs'.length=true)
  (aL:g1 r=some (.obj qK)) (hk:Nat.ble (k0+cs'.length) qK.length=true) (ba:Nat.blt 0 cs'.length=true) (he:fu qK k0 cs'=cs2) [gW:eG qK] (av:(get G2 r).isSome=true) (eb:mn g1 (get G2) r cs2 G2):cq P N g o (get G2):=by
 subst he;refine .store bd aV bf.bI aF.bI aC.take pk aa bB (p:=⟨r,[]⟩) (nd:=.obj qK) (z:=0) (n:=0) (by simp [b9,aL,af.at]) (.inr rfl) (Nat.le_of_ble_eq_true hk) (by simpa using ba) (λt x J=>?_) (λt x J y ay=>?_) (λt z q n m new J=>?_) (by intro e; rw [e] at av; cases av)
 ·rcases eb.spec t x J with ⟨h1,ak,_⟩ | ⟨h1,ak,_⟩
  ·rw [si h1]; exact ak
  ·subst h1 ak; simp [c0,aL,af.setAt,af.fu]
 ·rcases eb.spec t x J with ⟨h1,ak,aN⟩ | ⟨h1,ak,aN⟩
  ·rw [ak] at ay; cases ay; exact aN.Al
  ·subst h1;rw [aL] at ay;cases ay;exact .bE (.obj gW.bE)
 ·rcases eb.spec t _ J with ⟨_,_,aN⟩ | ⟨_,ak,_⟩
  ·exact aN.fF _ _ _ _ _ rfl
  ·cases ak
theorem cq.nw {o:Oper}{k0 s m:Nat}{en:cv α}{L M R:List α}{new c7:List af}{qK cs2:List af}{G2:List (Nat × af)}(bd:o.op=.store t a b) (aV:o.dst=none) (bf:Rd g a (.ptr ⟨r,[]⟩ k0)) (aF:Rd g b (.bq en.z ⟨s,[]⟩ (L.length+m))) (rW:g s=some (.b3 en.z q L.length m new)) (aE:b9 g q=some (al en L)) (bK:Nat.beq q.root s=false)
  (h1:iz (c0 (c0 g ⟨s,[]⟩ .dead) q .dead) new c7 g1) (pk:gp c7 (ch en M)) (hm:M.length=m) (bg:L++M=R) (bB:gn P t 1=true)
  (aL:g1 r=some (.obj qK)) (hk:Nat.ble (k0+1) qK.length=true) (he:fu qK k0 [al en R]=cs2) [gW:eG qK] (av:(get G2 r).isSome=true) (eb:mn g1 (get G2) r cs2 G2):cq P N g o (get G2):=by
 subst hm bg;have aC:=iz.lI (xs:=[]) (xs':=[]) rW aE bK h1 .nil;refine .sm (y':=al en (L++M)) bd aV bf aF aC ?_ rfl bB aL hk rfl he av eb;rw [<- CA]; exact (pk.pre _).own
inductive nD (r:Nat) (cs:List af) (k0:Nat):Nat->List af->List af->Prop
 | nil {i:Nat}:nD r cs k0 i [] []
 | b {i:Nat}{xs ys:List af}(hi:Nat.beq i k0=true) (t:nD r cs k0 (i+1) xs ys):nD r cs k0 i (.ptr ⟨r,[]⟩ 0::xs) (.obj cs::ys)
 | n {i:Nat}{x:af}{xs ys:List af}(hi:Nat.beq i k0=false) [aJ:cK x] (t:nD r cs k0 (i+1) xs ys):nD r cs k0 i (x::xs) (x::ys)
theorem nD.len {cs:List af}{k0 i:Nat}{xs ys:List af}(h:nD r cs k0 i xs ys):ys.length=xs.length:=by
 induction h with
 | nil=>rfl
 | b _ _ aS=>simp [aS]
 | n _ _ aS=>simp [aS]
theorem nD.Tf {cs:List af}{k0 i:Nat}{xs ys:List af}(h:nD r cs k0 i xs ys) (hi:k0<i):xs=ys/\∀ x∈xs,c6 x:=by
 induction h with
 | nil=>exact ⟨rfl,by simp⟩
 | @b i _ _ h _ _=>have:=Nat.eq_of_beq_eq_true h; omega
 | @n i x xs ys _ aJ _ aS =>
  obtain ⟨h1,ak⟩:=aS (by omega);exact ⟨by rw [h1],nY aJ.bE ak⟩
theorem nD.take {cs:List af}{k0 i:Nat}{xs ys:List af}(h:nD r cs k0 i xs ys) (aL:g r=some (.obj cs)) (aJ:∀ x∈cs,c6 x):i<=k0->k0<i+xs.length->Take g xs ys (c0 g ⟨r,[]⟩ .dead):=by
 induction h with
 | nil=>intro h1 ak; simp at ak; omega
 | @b i xs ys hi t _ =>
  intro h1 ak;have:=Nat.eq_of_beq_eq_true hi;obtain ⟨e,l3⟩:=t.Tf (by omega);subst e;exact .obj (by simp [b9,aL,af.at]) (.bE aJ) (.bE l3)
 | @n i x xs ys hi J _ aS =>
  intro h1 ak;have:=Nat.ne_of_beq_eq_false hi;simp only [List.length_cons] at ak;exact .cons J.bE (aS (by omega) (by omega))
theorem nD.Nr {cs:List af}{k0 i:Nat}{xs ys:List af}(h:nD r cs k0 i xs ys):i<=k0->k0<i+xs.length->xs[k0 - i]?=some (.ptr ⟨r,[]⟩ 0):=by
 induction h with
 | nil=>intro h1 ak; simp at ak; omega
 | @b i xs ys hi _ _=>intro _ _; have:=Nat.eq_of_beq_eq_true hi; subst this; simp
 | @n i x xs ys hi _ _ aS =>
  intro h1 ak;have:=Nat.ne_of_beq_eq_false hi;simp only [List.length_cons] at ak;have aN:=aS (by omega) (by omega);have:k0 - i=(k0 - (i+1))+1:=by omega
  rw [this,List.getElem?_cons_succ]; exact aN
def xc (n k0:Nat) (x:af):List (Option af):=(List.range n).map λi=>if i=k0 then some x else none
inductive vJ (g:aU) (d r:Nat) (n:Nat) (G4:List (Nat × af)):List (Nat × af)->Prop
 | nil:vJ g d r n G4 []
 | c {s k:Nat}{l:List (Nat × af)}(h:g s=some (.ptr ⟨r,[]⟩ k)) (hk:Nat.blt k n=true) (aV:Nat.beq s d=false) (bP:get G4 s=none) (t:vJ g d r n G4 l):vJ g d r n G4 ((s,.ptr ⟨r,[]⟩ k)::l)
theorem BJ {A B:List (Nat × af)}{t:Nat}:get (A++B) t=match get A t with | some x=>some x | none=>get B t:=by
 induction A with
 | nil=>rfl
 | cons p A aS =>
  obtain ⟨s,x⟩:=p;show (if t=s then some x else get (A++B) t)=_
  by_cases h:t=s
  ·simp [get,h]
  ·simp only [get,if_neg h]; exact aS
theorem vJ.spec {n:Nat}{G4 A:List (Nat × af)}(h:vJ g d r n G4 A):∀ t x,get A t=some x->get G4 t=none/\t≠d/\g t=some x/\∃ k,x=.ptr ⟨r,[]⟩ k/\k<n:=by
 induction h with
 | nil=>intro t x J; cases J
 | @c s k l h hk aV bP _ aS =>
  intro t x J; simp only [get] at J
  split at J
  ·rename_i e; subst e; cases J; exact ⟨bP,Nat.ne_of_beq_eq_false aV,h,k,rfl,by simpa using hk⟩
  ·exact aS t x J
theorem hB.mP {o:Oper}{xs:List Operand}{ia:Array TypeId}{f:FuncId}{ys args:List af}{res:af}{cs cs':List af}{k0:Nat}{G2 A:List (Nat × af)}(bd:o.op=.call { callee:=.value (.func f),args:=xs.toArray,argTypes:=ia }) (aV:o.dst=some d) (J:Own.il g xs=some ys)
  (aL:g r=some (.obj cs)) [gW:eG cs] (bf:nD r cs k0 0 ys args) (wO:Nat.blt k0 ys.length=true) (iR:cf P f args (xc args.length k0 (.obj cs')) res) (bh:dD P f=true) [av:cK res] [Kj:eG cs']
  (eb:Trim false (c0 g ⟨r,[]⟩ .dead) (get ((r,.dead)::G2)) G2) (aY:get G2 d=none) (za:Nat.beq r d=false) (yJ:Trim false (get ((r,.obj cs')::G2)) (get ((r,.obj cs')::G2)) G2) (dU:vJ g d r cs'.length ((r,.obj cs')::G2) A) (bU:N.ok d=true) :
  hB P N g o d (get (A++(d,res)::(r,.obj cs')::G2)):=by
 have VQ:k0<ys.length:=by simpa using wO
 have zb:r≠d:=Nat.ne_of_beq_eq_false za;have sU:args.length=ys.length:=bf.len;have oG:(xc args.length k0 (.obj cs'))[k0]?=some (some (.obj cs')):=by
  unfold xc;rw [List.getElem?_map,List.getElem?_range (by omega)];simp
 have RO:∀ (k:Nat) (x:af),(xc args.length k0 (.obj cs'))[k]?=some (some x)->x=.obj cs':=by
  intro k x h;unfold xc at h;rw [List.getElem?_map] at h;cases hk:(List.range args.length)[k]? with
  | none=>rw [hk] at h; cases h
  | some ae =>
   rw [hk] at h;simp only [Option.map_some,Option.some.injEq] at h
   split at h
   ·exact (Option.some.inj h).symm
   ·cases h
 have D0:get ((r,af.dead)::G2) r=some .dead:=by simp [get]
 have uZ:gx (c0 g ⟨r,[]⟩ .dead) (get ((r,.dead)::G2)):=by
  refine ⟨λt x h=>?_,λt x h=>?_,λt z q n m new h=>?_⟩
  all_goals
   simp only [get] at h
   split at h
  ·rename_i e; subst e; cases h; simp [c0,aL,af.setAt]
  ·obtain ⟨⟨y,h1,_,aN⟩,_⟩:=eb.spec t x h; rw [<- aN rfl]; exact h1
  ·cases h; exact .bE .dead
  ·exact (eb.spec t x h).2.1
  ·cases h
  ·exact (eb.spec t _ h).2.2 _ _ _ _ _ rfl
 have put:oY (get ((r,.dead)::G2)) [(⟨r,[]⟩,.obj cs')]=get ((r,.obj cs')::G2):=by
  funext t;simp only [oY,c0,get];by_cases h:t=r
  ·simp [h,af.setAt]
  ·simp [h]
 have u0:gx (get ((r,.obj cs')::G2)) (get ((r,.obj cs')::G2)):=by
  refine ⟨λt x h=>h,λt x h=>?_,λt z q n m new h=>?_⟩
  all_goals
   simp only [get] at h
   split at h
  ·cases h; exact .bE (.obj Kj.bE)
  ·exact (yJ.spec t x h).2.1
  ·cases h
  ·exact (yJ.spec t _ h).2.2 _ _ _ _ _ rfl
 refine vM.ok (first:=[]) (caps:=[]) (ys:=ys) (tk:=λ_=>true) (vw:=false) (outs:=xc args.length k0 (.obj cs')) (g1:=c0 g ⟨r,[]⟩ .dead) (g2:=get ((r,.dead)::G2)) (g4:=get ((r,.obj cs')::G2)) (l:=[(⟨r,[]⟩,.obj cs')]) (ks:=λ_=>k0) (xs0:=ys) (xs1:=args) (args:=args) (res:=res) bd aV rfl (by simpa using J)
  ⟨bh,by simp,by simpa using sU,λk x h=>.inl (by simpa using h),bf.take aL gW.bE (Nat.zero_le _) (by omega),uZ,λk x y _ ay=>by simpa using ay,iR,by simpa using av.bE,λk x h=>by rw [RO k x h]; simpa using c6.obj Kj.bE,λae p x ab=>?_,by simp,λi ae hi ab _=>by simp at hi ab; omega,by rw [put]; exact u0⟩ ?_ bU ?_
 ·cases ae with
  | succ ae=>simp at ab
  | zero =>
   simp only [List.getElem?_cons_zero,Option.some.injEq,Prod.mk.injEq] at ab;obtain ⟨rfl,rfl⟩:=ab;refine ⟨oG,by simp [b9,D0,af.at],.inr ⟨cs,?_,by simp [b9,aL,af.at]⟩⟩;have:=bf.Nr (Nat.zero_le _) (by omega);simpa using this
 ·simp only [get,if_neg (Ne.symm zb)]; exact aY
 ·refine ⟨λt x h=>?_,λt x h=>?_⟩
  ·rw [sR] at h;rw [BJ];cases pX:get A t with
   | none=>exact h
   | some y =>
    obtain ⟨h1,ak,_⟩:=dU.spec t y pX;simp only [get,if_neg ak] at h;simp only [get] at h1;rw [h1] at h; cases h
  ·rw [sR];rw [BJ] at h;cases pX:get A t with
   | none=>rw [pX] at h; exact .inl h
   | some y =>
    rw [pX] at h;cases h;obtain ⟨h1,ak,aN,k,rfl,hk⟩:=dU.spec t x pX;refine .inr ⟨?_,ak,aN,r,k,cs',rfl,zb,?_,hk⟩
    ·simp only [get,if_neg ak]; exact h1
    ·simp only [get,if_neg zb,if_true]
end
end Go.Own
namespace Go.Own
open Go
variable {α β:Type}
def Bt (k:IntKind):cv Int:=.one (λn=>.lit (.int k n)) λ_=>.lit
instance {k:IntKind}:Flat (Bt k):=⟨λ_=>rfl⟩
instance {k:IntKind}:gT (Bt k) (Bt k):=⟨rfl,λa=>(inferInstance:dE [.lit (.int k a)] [.lit (.int k a)])⟩
instance {k:IntKind}:ll (Bt k):=⟨λa=>(inferInstance:jE [.lit (.int k a)])⟩
instance {cs:List af}{n:Nat}{x:af} [h:eG cs] [J:cK x]:eG (cs.set n x):=⟨λy ay=>by
 rcases List.mem_or_eq_of_mem_set ay with aR | aR
 ·exact h.bE y aR
 ·rw [aR]; exact J.bE⟩
instance {x y:af} [h:cK y]:cK (x.setAt [] y):=⟨by simpa [af.setAt] using h.bE⟩
def sb (m n:Int):Option Int:=if n=0 then none else some (IntKind.u64.wrap (m.tdiv n))
def se (m n:Int):Option Int:=if n=0 then none else some (m.tmod n)
inductive ln:List af->List af->Prop
 | nil:ln [] []
 | f {x:af}{xs ys:List af}(t:ln xs ys):ln (x::xs) (x::ys)
 | o {z:Nat}{xs ys:List af}(t:ln xs ys):ln (.aO::xs) (.own z 0 []::ys)
 | i {z:Nat}{xs ys:List af}(t:ln xs ys):ln (.aO::xs) (.aD z 0 []::ys)
theorem ln.len {xs ys:List af}(h:ln xs ys):ys.length=xs.length:=by
 induction h with
 | nil=>rfl
 | f _ aS=>simp [aS]
 | o _ aS=>simp [aS]
 | i _ aS=>simp [aS]
theorem ln.get {xs ys:List af}(h:ln xs ys):∀ (k:Nat) (x y:af),xs[k]?=some x->ys[k]?=some y->nI x y:=by
 induction h with
 | nil=>intro k x y J; simp at J
 | f _ aS =>
  intro k a b bf aF;cases k with
  | zero=>simp at bf aF; subst bf aF; exact .refl
  | succ k=>exact aS k a b (by simpa using bf) (by simpa using aF)
 | o _ aS =>
  intro k a b bf aF;cases k with
  | zero=>simp at bf aF; subst bf aF; exact .pB
  | succ k=>exact aS k a b (by simpa using bf) (by simpa using aF)
 | i _ aS =>
  intro k a b bf aF;cases k with
  | zero=>simp at bf aF; subst bf aF; exact .w9
  | succ k=>exact aS k a b (by simpa using bf) (by simpa using aF)
theorem ln.obj {xs ys:List af}(h:ln xs ys):nI (.obj xs) (.obj ys):=.obj h.len h.get
section
variable {P:Program}{N:dy}{ops:Array Oper}{g g' g1 g2:aU}{K:aU->Prop}{l:List Oper}{d r:Nat}{op:Op}{ty t t2:TypeId}{pos:String}{after:Array Edge}{h5:Option (Nat × Bool)}{a b c:Operand}{p q:Place}{x y:af}{k:IntKind}{m n:Int}
variable {cc:List (List Nat)}{g0:aU}{acc:Acc}{i:Nat}
def w7:List Nat->Bool
 | []=>true
 | x::l=>l.all (λy=>!Nat.beq x y)&&w7 l
theorem Gh:∀ {l:List Place},w7 (l.map Place.root)=true->l.Nodup
 | [],_=>List.nodup_nil
 | p::l,h=>by
  simp only [List.map_cons,w7,Bool.and_eq_true,List.all_eq_true] at h;refine List.nodup_cons.2 ⟨λhm=>?_,Gh h.2⟩;have:=h.1 p.root (List.mem_map.2 ⟨p,hm,rfl⟩);simp at this
theorem b1.ky (df:Nat) {G G2:List (Nat × af)}{o:Oper}(he:cq P N (d_ (get G) (λ_=>true) acc) o (get G2)) (aY:o.guard=none) (hD:w7 ((acc.filterMap mc).map Place.root)=true) (jg:r7 G=true) (ab:Nat.beq ops.size (df+l.length+1)=true)
  (bf:(List.range df).all (λk=>(cc.getD df []).contains k)=true) (aF:(List.range ops.size).all (λk=>Nat.ble k df||(cc.getD k []).contains df)=true) (hk:b1 P N ops cc (get G2) (df+1) [] l K):b1 P N ops cc (get G) i acc (o::l) K:=by
 intro ee ae dn oH oB;have:=Bs oB ab;subst this;obtain ⟨h1,ak⟩:=drop_cons oB;obtain ⟨g',av,ep⟩:=hk [] (ae+1) .nil .nil ak;refine ⟨g',.H8 dn oH (Gh hD) (zI jg) h1 ?_ he bf ?_ av,ep⟩
 ·unfold iL; rw [aY]
 ·refine List.all_eq_true.2 λk hk=>?_;have:=List.all_eq_true.1 aF k hk;simp only [Bool.or_eq_true,decide_eq_true_eq,Nat.ble_eq] at this ⊢;exact this
theorem b1.bv (df:Nat) {G G2:List (Nat × af)}{o:Oper}{x:af}(he:cq P N (d_ (get G) (λ_=>true) acc) o (eM (get G2) d x)) (aY:o.guard=none) (hD:w7 ((acc.filterMap mc).map Place.root)=true) (jg:r7 G=true) (ab:Nat.beq ops.size (df+l.length+1)=true)
  (bf:(List.range df).all (λk=>(cc.getD df []).contains k)=true) (aF:(List.range ops.size).all (λk=>Nat.ble k df||(cc.getD k []).contains df)=true) (hk:b1 P N ops cc (get ((d,x)::G2)) (df+1) [] l K):b1 P N ops cc (get G) i acc (o::l) K :=
 .ky df (sR ▸ he) aY hD jg ab bf aF hk
class tP (s:Nat) (g:aU):Prop where fF:∀ t,t≠s->∀ z q n m new,g t≠some (.b3 z q n m new)
instance (priority:=low) {s:Nat}{g:aU} [h:pL g]:tP s g:=⟨λt _=>h.fF t⟩
instance {s:Nat}{g:aU}{x:af} [h:tP s g]:tP s (eM g s x):=⟨λt aC z q n m new e=>by
 unfold eM at e;rw [if_neg aC] at e;exact h.fF t aC _ _ _ _ _ e⟩
instance {s d:Nat}{g:aU}{x:af} [h:tP s g] [J:nE x]:tP s (eM g d x):=⟨λt aC z q n m new e=>by
 unfold eM at e
 split at e
 ·cases e; exact J.fF _ _ _ _ _ rfl
 ·exact h.fF t aC _ _ _ _ _ e⟩
class vY (s:Nat) (acc:Acc):Prop where fF:∀ e∈acc,e.2.1≠s->∀ z q n m new,e.2.2≠some (.b3 z q n m new)
instance {s:Nat}:vY s []:=⟨by simp⟩
instance {s ae d:Nat}{x:af}{acc:Acc} [J:nE x] [h:vY s acc]:vY s ((ae,d,some x)::acc):=⟨λe he aL z q n m new b_=>by
 rcases List.mem_cons.1 he with rfl | he
 ·exact J.fF z q n m new (Option.some.inj b_)
 ·exact h.fF e he aL z q n m new b_⟩
instance {s ae:Nat}{x:Option af}{acc:Acc} [h:vY s acc]:vY s ((ae,s,x)::acc):=⟨λe he aL z q n m new b_=>by
 rcases List.mem_cons.1 he with rfl | he
 ·exact absurd rfl aL
 ·exact h.fF e he aL z q n m new b_⟩
instance {s:Nat}{G:List (Nat × af)}{A:Nat->Bool}{acc:Acc} [aY:pL (get G)] [h:vY s acc]:tP s (d_ (get G) A acc):=⟨λt aC z q n m new e=>by
 rcases ss e with ⟨cO,he,h1,_,ak⟩ | ⟨_,ak⟩
 ·exact h.fF cO he (by rw [h1]; exact aC) _ _ _ _ _ ak
 ·exact aY.fF _ _ _ _ _ _ ak⟩
namespace O
theorem sb {r:Int}(J:Rd g a (.lit (.int .u64 m))) (ay:Rd g b (.lit (.int .u64 n))) (h:Own.sb m n=some r):dg P g (.binOp .quo t a b t2) ty (.lit (.int .u64 r)):=by
 unfold Own.sb at h
 split at h
 ·cases h
 ·cases h; exact .e9 (.quo J ay (by assumption))
theorem se {r:Int}(J:Rd g a (.lit (.int .u64 m))) (ay:Rd g b (.lit (.int .u64 n))) (h:Own.se m n=some r):dg P g (.binOp .rem t a b t2) ty (.lit (.int .u64 r)):=by
 unfold Own.se at h
 split at h
 ·cases h
 ·cases h; exact .e9 (.rem J ay (by assumption))
theorem IK {L:List Int}(J:Rd g a (.aD ot.z L.length (ch ot L))) (aC:tY P t t2=true):dg P g (.convert t t2 a) ty (ah (strOfNums L)):=by
 have h:=J.bI;rw [Lz] at h;exact .e9 (.Bp h aC)
theorem qH {e hF:Nat}{parts:Array (Nat × Operand)}{ys cs:List af}{z:Nat}(aC:e' P t e z=true) (J:il g (parts.toList.map (·.2))=some ys) (aa:oh ys=some cs) (bB:ys.all (λy=>match lp y with | some c=>Nat.beq c.length z | none=>false)=true)
  (aE:parts.toList=(parts.toList.map (·.2)).mapIdx (λi x=>(i,x))) (aJ:(parts.toList.map (·.2)).length=hF) (hzero:jC P e z=true) (aF:Nat.ble (hF * z) 16777216=true) (cY:Nat.ble hF 16777216=true):dg P g (.buildSlice t hF parts) ty (.own z hF cs):=by
 subst aJ;exact .qj (.buildSlice aC aE J (λy ay=>by
  have:=List.all_eq_true.1 bB y ay;cases fa:lp y with
  | none=>rw [fa] at this; cases this
  | some c=>rw [fa] at this; exact ⟨c,rfl,Nat.eq_of_beq_eq_true this⟩) aa (Nat.le_of_ble_eq_true aF) (Nat.le_of_ble_eq_true cY) (.inr (Hp hzero)))
theorem L0 {z m:Nat}{cs:List af}(bK:b9 g q=some (.own z m cs)) (ao:cs.length=m * z) (bh:cs.all k7=true):Src g (.bq z q m) z m cs:=by
 have:=Src.bq (g:=g) (m:=m) bK (Nat.le_refl _);rw [List.take_of_length_le (by omega),yD (q:=λi=>_) bh] at this;exact this
theorem A3 {en:cv α}{L M r:List α}{e ju m:Nat}{cs:List af}(aL:Rd g a (.bq en.z p L.length)) (aE:b9 g p=some (al en L)) (J:Rd g b (.bq en.z q m)) (bK:b9 g q=some (.own en.z m cs)) (ao:cs.length=m * en.z) (bh:cs.all k7=true) (hm:M.length=m) (aC:jG P t e en.z ju=true) (aF:Nat.ble ju 128=true) (h:eI L M=some r) [gW:pL g] :
  dg P g (.call { callee:=.builtin .append,args:=#[a,b],argTypes:=#[t,t] }) ty (.b3 en.z p L.length m cs):=by
 subst hm;obtain ⟨h1,ak,_⟩:=x5 h aF;exact .lf (.grow aL.bI (.inl ⟨_,aE⟩) (λt cD cT b6 c7 e=>gW.fF _ _ _ _ _ _ e) J.bI (L0 bK ao bh) aC h1 ak)
theorem HR {en:cv α}{L M M2 r:List α}{y:af}{e ju s:Nat}(aL:Rd g a (.bq en.z ⟨s,[]⟩ (L.length+M.length))) (rW:g s=some (.b3 en.z q L.length M.length (ch en M))) (aE:b9 g q=some (al en L)) (J:Rd g b y) (hm:qD g en y M2) (aC:jG P t e en.z ju=true) (aF:Nat.ble ju 128=true) (h:eI (L++M) M2=some r) [gW:tP s g] :
  dg P g (.call { callee:=.builtin .append,args:=#[a,b],argTypes:=#[t,t] }) ty (.b3 en.z ⟨s,[]⟩ (L.length+M.length) M2.length (ch en M2)):=by
 obtain ⟨h1,ak,_⟩:=x5 h aF;rw [List.length_append] at h1 ak;refine .lf (.grow aL.bI (.inr ⟨rfl,q,L.length,M.length,ch en M,_,rW,rfl,aE⟩) (λt cD cT b6 c7 e=>?_) J.bI hm.src aC h1 ak);by_cases Kx:t=s
 ·subst Kx;rw [rW] at e;simp only [Option.some.injEq,af.b3.injEq] at e;have bK:=e.2.1;subst bK;simp [b9,rW,af.at] at aE
 ·exact gW.fF t Kx _ _ _ _ _ e
theorem KZ {en:cv α}{z0:α}{r:List α}{e ju:Nat}{ec:Value}(aC:e' P t e en.z=true) (J:Rd g a (.lit (.int k m))) (ay:Rd g b (.lit (.int .i64 m))) (hzero:(P.info? e).bind (·.zero)=some ec) (h1:ec.cells.toList.all Value.oneCell'=true) (hx:(en.cells z0).length=ec.cells.size) (Re:∀ (k:Nat) (u:Value) (x:af),ec.cells[k]?=some u->(en.cells z0)[k]?=some x->x=nr u\/(nr u=.aO/\∃ cD,x=.aD cD 0 [])) (h:oS m z0=some r) (jT:(P.info? e).map (·.bytes)=some ju) (aF:Nat.ble ju 128=true) :
  dg P g (.makeSlice t a b) ty (al en r):=by
 unfold oS at h
 split at h
 ·rename_i hm;have RA:lim=1099511627776:=rfl;have ke:=Nat.le_of_ble_eq_true aF;obtain ⟨ae,rfl⟩:=Int.eq_ofNat_of_zero_le hm.1;cases h;have ab:ae<=1099511627776:=by omega
  have fZ:ec.cells.size=en.z:=by rw [<- hx,en.len]
  have:=n5.makeSlice (P:=P) (ty:=ty) aC J.bI ay.bI hzero (by rw [<- Array.all_toList]; exact h1) fZ jT (by
   calc ae * ju<=1099511627776 * 128:=Nat.mul_le_mul ab ke
    _=140737488355328:=by decide) (by omega) hx Re
  have de:(List.replicate ae (en.cells z0)).flatten=ch en (List.replicate ae z0):=by simp [ch,List.flatMap_def]
  unfold al;rw [Int.toNat_natCast,List.length_replicate,<- de];exact .qj this
 ·cases h
theorem mk {en:cv α}{z0:α}{r:List α}{e ju:Nat}{ec:Value}(aC:e' P t e en.z=true) (J:Rd g a (.lit (.int k m))) (ay:Rd g b (.lit (.int .i64 m))) (hzero:(P.info? e).bind (·.zero)=some ec) (h1:ec.cells.toList.all Value.oneCell'=true) (aa:ec.cells.toList.map nr=en.cells z0) (h:oS m z0=some r) (jT:(P.info? e).map (·.bytes)=some ju) (aF:Nat.ble ju 128=true) :
  dg P g (.makeSlice t a b) ty (al en r):=by
 refine KZ aC J ay hzero h1 (by rw [<- aa,List.length_map]; simp) (λk u x hu J=>.inl ?_) h jT aF;rw [<- aa,List.getElem?_map] at J;have:ec.cells.toList[k]?=some u:=by simpa using hu
 rw [this] at J;exact (Option.some.inj J).symm
theorem S_ {e:cv β}{r:List (List β)}{m:Int}{k:IntKind}{a b:Operand}{t ty:TypeId}{ym ju:Nat}{ec:Value}(aC:e' P t ym (bY e).z=true) (J:Rd g a (.lit (.int k m))) (ay:Rd g b (.lit (.int .i64 m))) (hzero:(P.info? ym).bind (·.zero)=some ec) (h1:ec.cells.toList.all Value.oneCell'=true) (aa:ec.cells.toList.map nr=[.aO]) (h:oS m ([]:List β)=some r) (jT:(P.info? ym).map (·.bytes)=some ju) (aF:Nat.ble ju 128=true) :
  dg P g (.makeSlice t a b) ty (al (bY e) r):=by
 refine KZ aC J ay hzero h1 ?_ (λk u x hu J=>.inr ?_) h jT aF
 ·have:=congrArg List.length aa;rw [List.length_map] at this;rw [(bY e).len];show 1=_;simpa using this.symm
 ·have ao:=congrArg List.length aa;rw [List.length_map] at ao;have hk:k=0:=by
   have:=(Array.getElem?_eq_some_iff.1 hu).1;simp at ao;omega
  subst hk;have fw:ec.cells.toList[0]?=some u:=by simpa using hu
  have ak:=congrArg (λl=>l[0]?) aa;simp only [List.getElem?_map,fw,Option.map_some] at ak;have ak:=Option.some.inj ak;refine ⟨ak,e.z,?_⟩;have J:([aj e []]:List af)[0]?=some x:=J;have:x=aj e []:=(Option.some.inj J).symm;rw [this]; rfl
theorem KY (J:Rd g a (j m)) (ay:Rd g b (j n)):dg P g (.call { callee:=.builtin .min,args:=#[a,b],argTypes:=#[t,t2] }) ty (j (min m n)):=.e9 (.lits (vs:=[.int .i64 m,.int .i64 n]) (by simp [J.bI,ay.bI]) rfl λw cs=>by
 have:(if n<m then n else m)=min m n:=by omega
 simp [builtin,Builtin.min_,Builtin.min2,this])
end O
theorem GK (en:cv α) {L:List α}{y y2:α}{o:Nat}{cs':List af}(h:idx L m=some y) (he:fu (en.cells y) o cs'=en.cells y2) (hlen:o+cs'.length<=en.z):fu (ch en L) (m.toNat * en.z+o) cs'=ch en (L.set m.toNat y2):=by
 obtain ⟨ba,h1,ak⟩:=pt h;have a8:m.toNat<L.length:=(List.getElem?_eq_some_iff.1 ak).1;have ay:L[m.toNat]=y:=(List.getElem?_eq_some_iff.1 ak).2;have de:ch en L=ch en (L.take m.toNat)++(en.cells y++ch en (L.drop (m.toNat+1))):=by
  have:=congrArg (ch en) (List.take_append_drop m.toNat L).symm;rw [vq,List.drop_eq_getElem_cons a8,ay] at this;rw [this]; simp [ch]
 have cX:ch en (L.set m.toNat y2)=ch en (L.take m.toNat)++(en.cells y2++ch en (L.drop (m.toNat+1))):=by
  have:L.set m.toNat y2=L.take m.toNat++y2::L.drop (m.toNat+1):=by
   rw [List.set_eq_take_append_cons_drop,if_pos a8]
  rw [this,vq]; simp [ch]
 have ao:(ch en (L.take m.toNat)).length=m.toNat * en.z:=by rw [nt,List.length_take]; congr 1; omega
 rw [de,cX,<- he];unfold fu;generalize ch en (L.take m.toNat)=A at *;generalize ch en (L.drop (m.toNat+1))=B at *;rw [<- ao];have Cg:=en.len y;rw [List.take_append,List.take_of_length_le (by omega),show A.length+o - A.length=o by omega,List.take_append_of_le_length (by omega)];rw [List.drop_append,List.drop_eq_nil_of_le (by omega),show A.length+o+cs'.length - A.length=o+cs'.length by omega,List.drop_append_of_le_length (by omega)];simp
theorem D7 {en:cv α}{L:List α}{i:Int}{off:Nat}{y:α}(h:idx L i=some y) (bd:Nat.blt off en.z=true):i.toNat * en.z+off<(ch en L).length:=by
 obtain ⟨tt,jN,_⟩:=pt h;have l4:off<en.z:=by simpa using bd
 rw [nt];have ak:i.toNat+1<=L.length:=by omega
 calc i.toNat * en.z+off<i.toNat * en.z+en.z:=by omega
  _=(i.toNat+1) * en.z:=by rw [Nat.add_mul]; omega
  _<=L.length * en.z:=Nat.mul_le_mul_right _ ak
theorem mO {L:List α}{i:Int}{y y2:α}(h:idx L i=some y):idx (L.set i.toNat y2) i=some y2:=by
 obtain ⟨tt,jN,_⟩:=pt h;have:i.toNat<L.length:=by omega
 simp [idx,tt,this]
inductive nC (g g2:aU):af->Prop
 | mk {α:Type}{en:cv α}{L HB:List α}{r ae off:Nat}{i:Int}{y y2:α}(h1:b9 g ⟨r,[ae]⟩=some (al en L)) (hi:idx L i=some y) (ak:b9 g2 ⟨r,[ae]⟩=some (al en HB)) (yX:idx HB i=some y2) (bd:Nat.blt off en.z=true):nC g g2 (.ptr ⟨r,[ae]⟩ (i.toNat * en.z+off))
theorem nC.K8 {x:af}(h:nC g g2 x):gS g x:=by
 cases h with
 | mk h1 hi ak yX bd=>exact ⟨_,h1,_,_,_,.inl rfl,D7 hi bd⟩
theorem nC.Gm {x:af}(h:nC g g2 x):gS g2 x:=by
 cases h with
 | mk h1 hi ak yX bd=>exact ⟨_,ak,_,_,_,.inl rfl,D7 yX bd⟩
theorem nC.br {x:af}(h:nC g g2 x):eK g2 x:=by
 have:=h.Gm;cases h with
 | mk=>exact .ref rfl this
theorem nC.fF {x:af}(h:nC g g2 x):∀ z p n m new,x≠.b3 z p n m new:=by
 cases h with
 | mk=>simp
theorem nC.clear {x:af}{k0 m0:Nat}(h:nC g g2 x) (aE:p.path≠[]):Clear p k0 m0 x:=by
 cases h with
 | mk =>
  intro q bK _ ae eR e;simp only [xy,Option.some.injEq] at bK;subst bK;cases B9:p.path with
  | nil=>exact absurd B9 aE
  | cons a b=>rw [B9] at e; simp at e
inductive kP (g g2:aU) (r:Nat) (x2:af):List (Nat × af)->Prop
 | nil:kP g g2 r x2 []
 | n {s:Nat}{x:af}{l:List (Nat × af)}(eh:Nat.beq s r=false) (h:g s=some x) [aJ:cK x] (t:kP g g2 r x2 l):kP g g2 r x2 ((s,x)::l)
 | p {s q k:Nat}{l:List (Nat × af)}{cs m':List af}(eh:Nat.beq s r=false) (h:g s=some (.ptr ⟨q,[]⟩ k)) (h1:g q=some (.obj cs)) (hk:Nat.blt k cs.length=true) (ak:g2 q=some (.obj m')) (gD:Nat.blt k m'.length=true) (t:kP g g2 r x2 l):kP g g2 r x2 ((s,.ptr ⟨q,[]⟩ k)::l)
 | e {s:Nat}{x:af}{c2:List af}{l:List (Nat × af)}(eh:Nat.beq s r=false) (h:g s=some x) (he:nC g g2 x) (hM:x2=.obj c2) (t:kP g g2 r x2 l):kP g g2 r x2 ((s,x)::l)
 | w {α:Type}{s q:Nat}{en:cv α}{L:List α}{l:List (Nat × af)}(eh:Nat.beq s r=false) (h:g s=some (.bq en.z ⟨q,[]⟩ L.length)) (h1:g q=some (al en L)) (ak:g2 q=some (al en L)) (t:kP g g2 r x2 l):kP g g2 r x2 ((s,.bq en.z ⟨q,[]⟩ L.length)::l)
 | b {l:List (Nat × af)}{x:af}(e:x=x2) [aJ:cK x2] (t:kP g g2 r x2 l):kP g g2 r x2 ((r,x)::l)
theorem kP.spec {x2:af}{l:List (Nat × af)}(h:kP g g2 r x2 l):∀ t x,get l t=some x->(t≠r/\g t=some x/\(n' g g2 x\/nC g g2 x/\∃ c2,x2=.obj c2))\/(t=r/\x=x2/\c6 x):=by
 induction h with
 | nil=>intro t x J; cases J
 | @n s x l eh h aJ _ aS =>
  intro t y ay; simp only [get] at ay
  split at ay
  ·rename_i e; subst e; cases ay; exact .inl ⟨Nat.ne_of_beq_eq_false eh,h,.inl (.n aJ.bE)⟩
  ·exact aS t y ay
 | @p s q k l cs m' eh h h1 hk ak gD _ aS =>
  intro t y ay; simp only [get] at ay
  split at ay
  ·rename_i e; subst e; cases ay; exact .inl ⟨Nat.ne_of_beq_eq_false eh,h,.inl (.p h1 (by simpa using hk) ak (by simpa using gD))⟩
  ·exact aS t y ay
 | @e s x c2 l eh h he hM _ aS =>
  intro t y ay; simp only [get] at ay
  split at ay
  ·rename_i e; subst e; cases ay; exact .inl ⟨Nat.ne_of_beq_eq_false eh,h,.inr ⟨he,_,hM⟩⟩
  ·exact aS t y ay
 | @w α s q en L l eh h h1 ak _ aS =>
  intro t y ay; simp only [get] at ay
  split at ay
  ·rename_i e; subst e; cases ay; exact .inl ⟨Nat.ne_of_beq_eq_false eh,h,.inl (.r h1 (Nat.le_refl _) ak (Nat.le_refl _))⟩
  ·exact aS t y ay
 | @b l x e aJ _ aS =>
  intro t y ay; simp only [get] at ay
  split at ay
  ·rename_i cO; subst cO; cases ay; subst e; exact .inr ⟨rfl,rfl,aJ.bE⟩
  ·exact aS t y ay
theorem n'.GI {x:af}{k0 m0:Nat}(h:n' g g2 x):j0 (λr=>gS g r/\Clear p k0 m0 r/\gS g2 r) x:=by
 cases h with
 | n h=>exact .bE h
 | p h hk ak gD =>
  refine .ref rfl ⟨tw h hk,?_,tw ak gD⟩;intro q bK _ ae eR e;simp only [xy,Option.some.injEq] at bK;subst bK;simp at e
 | r h hk ak gD =>
  refine .ref rfl ⟨Aj h hk,?_,Aj ak gD⟩;intro q bK _ ae eR e;simp only [xy,Option.some.injEq] at bK;subst bK;simp at e
theorem cq.qp {hl:Oper}{en:cv α}{L:List α}{jB y2:α}{o:Nat}{cs':List af}{x2:af}{G2:List (Nat × af)}(bd:hl.op=.store t a b) (aV:hl.dst=none) (bf:Rd g a (.ptr p (m.toNat * en.z+o))) (aF:Rd g b y) (aE:b9 g p=some (al en L)) (h:idx L m=some jB) (bB:gn P t cs'.length=true)
  (aa:qJ y=some cs') (he:fu (en.cells jB) o cs'=en.cells y2) (hlen:Nat.ble (o+cs'.length) en.z=true) (ba:Nat.blt 0 cs'.length=true) (hM:c0 g p (al en (L.set m.toNat y2)) p.root=some x2) (av:(get G2 p.root).isSome=true) [aJ:cK y] {y0:af}(uS:g p.root=some y0) [gW:cK y0] (eb:kP g (get G2) p.root x2 G2):cq P N g hl (get G2):=by
 have yZ:=Nat.le_of_ble_eq_true hlen;have kE:=GK en h he yZ;have Fe:(L.set m.toNat y2).length=L.length:=List.length_set;refine .store bd aV bf.bI aF.bI (.bE (by simpa using aJ.bE)) .refl aa bB (p:=p) (nd:=al en L) (z:=en.z) (n:=L.length) (cs:=ch en L) aE (.inl rfl) ?_ (by simpa using ba) (λt x J=>?_) (λt x J y ay=>?_) (λt z q n m new J=>?_) (by intro e; rw [e] at av; cases av)
 ·obtain ⟨tt,jN,_⟩:=pt h;rw [nt];have ak:m.toNat+1<=L.length:=by omega
  calc m.toNat * en.z+o+cs'.length<=m.toNat * en.z+en.z:=by omega
   _=(m.toNat+1) * en.z:=by rw [Nat.add_mul]; omega
   _<=L.length * en.z:=Nat.mul_le_mul_right _ ak
 ·have fU:(al en L).fu (m.toNat * en.z+o) cs'=al en (L.set m.toNat y2):=by
   show af.own en.z L.length (fu (ch en L) (m.toNat * en.z+o) cs')=_;unfold al;rw [kE,Fe]
  rw [fU];rcases eb.spec t x J with ⟨h1,ak,_⟩ | ⟨h1,ak,_⟩
  ·rw [si h1]; exact ak
  ·subst h1 ak; exact hM
 ·rcases eb.spec t x J with ⟨h1,ak,aN⟩ | ⟨h1,ak,aN⟩
  ·rw [ak] at ay; cases ay;rcases aN with aN | ⟨aN,c2,rfl⟩
   ·exact aN.GI
   ·refine j0.ref (by cases aN; rfl) ⟨aN.K8,aN.clear ?_,aN.Gm⟩;intro e;obtain ⟨gu,pp⟩:=p;simp only at e;subst e;simp only [c0,if_true,uS,Option.map_some,af.setAt,Option.some.injEq] at hM;cases hM
  ·subst h1; rw [uS] at ay; cases ay; exact .bE gW.bE
 ·rcases eb.spec t _ J with ⟨_,_,aN | ⟨aN,_⟩⟩ | ⟨_,_,aN⟩
  ·exact aN.fF _ _ _ _ _ rfl
  ·exact aN.fF _ _ _ _ _ rfl
  ·cases aN
end
end Go.Own
namespace Go.Own
open Go
theorem NG (a b:ByteArray):(a == b)=decide (a=b):=by
 obtain ⟨a⟩:=a;obtain ⟨b⟩:=b;have:(({ data:=a }:ByteArray) == { data:=b })=(a == b):=rfl;rw [this,Bool.eq_iff_iff];simp
inductive o7 where
 | b | s | i (k:IntKind)
 deriving DecidableEq
def mh:Value->Option o7
 | .bool _=>some .b
 | .string _=>some .s
 | .int k _=>some (.i k)
 | _=>none
def yk (P:Program) (rc:TypeId->List o7->Bool):List Field->Nat->List o7->Bool
 | [],_,fj=>fj.isEmpty
 | f :: fs, o, fj => f.name != "_" && f.offset == o && (match P.info? f.type with
   | some i=>i.size<=fj.length&&rc f.type (fj.take i.size)&&yk P rc fs (o+i.size) (fj.drop i.size)
   | none=>false)
def rJ (P:Program):Nat->TypeId->List o7->Bool
 | 0,_,_=>false
 | d+1,t,fj=>match P.underlying t with
  | some .bool=>fj == [.b]&&hh P t
  | some (.int k)=>fj == [.i k]&&hh P t
  | some .string=>fj == [.s]&&hh P t
  | some (.struct fs)=>iM P t fj.length&&!P.stoodInHeld t&&yk P (rJ P d) fs.toList 0 fj
  | _=>false
def I0:Value->Value->Bool
 | .bool a,.bool b=>a == b
 | .int _ a,.int _ b=>decide (a=b)
 | .string a,.string b=>decide (a=b)
 | _,_=>false
def lv:List Value->List Value->Bool
 | a::dq,b::dI=>I0 a b&&lv dq dI
 | _,_=>true
theorem I1:∀ (dq dI cs fo:List Value),dq.length=dI.length->lv (dq++cs) (dI++fo)=(lv dq dI&&lv cs fo)
 | [],[],cs,fo,_=>by simp [lv]
 | [],_::_,_,_,h=>by simp at h
 | _::_,[],_,_,h=>by simp at h
 | a::dq,b::dI,cs,fo,h=>by
  simp only [List.cons_append,lv,I1 dq dI cs fo (by simpa using h),Bool.and_assoc]
def pack (P:Program) (t:TypeId) (vs:List Value):Value :=
 match P.underlying t,vs with
 | some (.struct _),_=>.agg vs.toArray
 | _,v::_=>v
 | _,[]=>.agg #[]
theorem LH {P:Program}{w:World}{t:TypeId}{d:Nat}{fj:List o7}(h:rJ P (d+1) t fj=true) {cs:List Value}{o:Nat}{vs:List Value}(hv:(cs.drop o).take fj.length=vs) (ao:vs.length=fj.length) :
  (part t cs.toArray o).run P w=.ok (pack P t vs) w:=by
 unfold rJ at h
 split at h
 case h_4 fs hu =>
  simp only [Bool.and_eq_true] at h;obtain ⟨h1,ak⟩:=A2 (w:=w) h.1.1;simp [part,h1,ak,pack,hu,<- hv,List.take_drop]
 case h_5=>cases h
 all_goals
  rename_i hu;simp only [Bool.and_eq_true,beq_iff_eq] at h;obtain ⟨rfl,aa⟩:=h;obtain ⟨h1,ak⟩:=DM (w:=w) aa;obtain ⟨v,rfl⟩:∃ v,vs=[v]:=by
   rcases vs with _ | ⟨v,_ | _⟩ <;> simp at ao;exact ⟨v,rfl⟩
  have:cs[o]?=some v:=by
   have:=congrArg List.head? hv;simpa [List.head?_take] using this
  simp [part,h1,pack,hu,this]
theorem GL {P:Program}(w:World):∀ (d:Nat) (t:TypeId) (fj:List o7),rJ P d t fj=true->∀ (D:Nat),d<=D->∀ (dq dI:List Value),dq.map mh=fj.map some->dI.map mh=fj.map some ->
  (Op.equalIn D t (pack P t dq) (pack P t dI)).run P w=.ok (lv dq dI) w
 | 0,_,_,h,_,_,_,_,_,_=>by simp [rJ] at h
 | d+1,t,fj,h,D,oy,dq,dI,bf,aF=>by
  obtain ⟨D,rfl⟩:∃ E,D=E+1:=⟨D - 1,by omega⟩;have ba:=h;unfold rJ at h
  split at h
  case h_5=>cases h
  case h_4 fs hu =>
   simp only [Bool.and_eq_true,Bool.not_eq_true'] at h;obtain ⟨⟨h1,ak⟩,aN⟩:=h;have key:∀ (fs:List Field) (o:Nat) (fj:List o7) (mo mq:List Value),yk P (rJ P d) fs o fj=true->dq.drop o=mo->dI.drop o=mq->mo.map mh=fj.map some->mq.map mh=fj.map some ->
     (forIn (m:=Sem) (β:=Option Bool × Unit) fs (none,()) λf _ =>
      if f.name = "_" then pure (.yield (none, ()))
      else do
       let x <- part f.type dq.toArray f.offset
       let y <- part f.type dI.toArray f.offset
       let c <- Op.equalIn D f.type x y
       if c=false then pure (.done (some false,())) else pure (.yield (none,()))).run P w=.ok (if lv mo mq then (none,()) else (some false,())) w:=by
    intro fs
    induction fs with
    | nil =>
     intro o fj mo mq aY _ _ bf aF;have aL:fj=[]:=by simpa [yk] using aY
     subst aL;have h1:mo=[]:=by simpa using bf
     have ak:mq=[]:=by simpa using aF
     subst h1 ak;simp [lv]
    | cons f fs aS =>
     intro o fj mo mq aY BX JW bf aF;unfold yk at aY;cases hi:P.info? f.type with
     | none=>simp [hi] at aY
     | some i =>
      simp only [hi,Bool.and_eq_true,bne_iff_ne,beq_iff_eq,decide_eq_true_eq] at aY;obtain ⟨⟨aJ,rfl⟩,⟨hle,he⟩,BZ⟩:=aY;obtain ⟨e,rfl⟩:∃ e,d=e+1:=by
       cases d with
       | zero=>simp [rJ] at he
       | succ e=>exact ⟨e,rfl⟩
      have u2:mo.length=fj.length:=by simpa using congrArg List.length bf
      have V_:mq.length=fj.length:=by simpa using congrArg List.length aF
      have Ux:(mo.take i.size).map mh=(fj.take i.size).map some:=by rw [List.map_take,List.map_take,bf]
      have Uy:(mq.take i.size).map mh=(fj.take i.size).map some:=by rw [List.map_take,List.map_take,aF]
      have O5:(mo.drop i.size).map mh=(fj.drop i.size).map some:=by rw [List.map_drop,List.map_drop,bf]
      have O6:(mq.drop i.size).map mh=(fj.drop i.size).map some:=by rw [List.map_drop,List.map_drop,aF]
      have lt:(fj.take i.size).length=i.size:=by simp; omega
      have lf:=LH (w:=w) he (cs:=dq) (o:=f.offset) (vs:=mo.take i.size) (by rw [BX,lt]) (by simp; omega);have Ld:=LH (w:=w) he (cs:=dI) (o:=f.offset) (vs:=mq.take i.size) (by rw [JW,lt]) (by simp; omega);have D6:=GL w (e+1) f.type _ he D (by omega) _ _ Ux Uy;have aS:=aS (f.offset+i.size) (fj.drop i.size) (mo.drop i.size) (mq.drop i.size) BZ (by rw [<- BX,List.drop_drop]) (by rw [<- JW,List.drop_drop]) O5 O6;have sp:lv mo mq=(lv (mo.take i.size) (mq.take i.size)&&lv (mo.drop i.size) (mq.drop i.size)):=by
       have:=I1 (mo.take i.size) (mq.take i.size) (mo.drop i.size) (mq.drop i.size) (by simp; omega)
       rwa [List.take_append_drop,List.take_append_drop] at this
      rw [List.forIn_cons];cases aa:lv (mo.take i.size) (mq.take i.size) with
      | false=>simp [aJ,lf,Ld,D6,aa,sp]
      | true =>
       simp only [aa] at D6;simp [aJ,lf,Ld,D6,aa,sp];simpa using aS
   have hk:=key fs.toList 0 fj dq dI aN rfl rfl bf aF;unfold Op.equalIn;simp [pack,hu,run_underlying hu,ak];rw [<- Array.forIn_toList,hk];cases lv dq dI <;> simp
  all_goals
   rename_i hu;simp only [Bool.and_eq_true,beq_iff_eq] at h;obtain ⟨rfl,aa⟩:=h;obtain ⟨a,rfl⟩:∃ v,dq=[v]:=by
    rcases dq with _ | ⟨v,_ | _⟩ <;> simp at bf;exact ⟨v,rfl⟩
   obtain ⟨b,rfl⟩:∃ v,dI=[v]:=by
    rcases dI with _ | ⟨v,_ | _⟩ <;> simp at aF;exact ⟨v,rfl⟩
   cases a <;> simp [mh] at bf <;> cases b <;> simp [mh] at aF;simp [Op.equalIn,pack,hu,run_underlying hu,lv,I0,bf,aF,NG] <;> rfl
end Go.Own
namespace Go.Own
open Go
def sK (P:Program) (t:TypeId) (fj:List o7):Bool :=
 rJ P 100 t fj&&(match P.underlying t with | some (.struct _)=>true | _=>false)&&!P.eqGuardType P.depth t
section
variable {P:Program}{g:aU}{t t2:TypeId}{ty:TypeId}{a b:Operand}
theorem TT {dq dI:List Value}{fj:List o7}(bf:dq.map mh=fj.map some) (aF:dI.map mh=fj.map some) (aC:sK P t fj=true) (w:World) :
  (do eqGuard .eql t a b (.agg dq.toArray) (.agg dI.toArray); binOp .eql t (.agg dq.toArray) (.agg dI.toArray):Sem Value).run P w=.ok (.bool (lv dq dI)) w:=by
 simp only [sK,Bool.and_eq_true,Bool.not_eq_true'] at aC;obtain ⟨⟨h1,ak⟩,aN⟩:=aC;have h:=GL w 100 t fj h1 Op.maxDepth (by decide) dq dI bf aF
 split at ak
 ·rename_i fs hu;simp only [pack,hu] at h;simp [eqGuard,binOp,aN,Op.equal,h]
 ·cases ak
theorem TV {dq dI:List Value}{fj:List o7}(bf:dq.map mh=fj.map some) (aF:dI.map mh=fj.map some) (aC:sK P t fj=true) (w:World) :
  (do eqGuard .neq t a b (.agg dq.toArray) (.agg dI.toArray); binOp .neq t (.agg dq.toArray) (.agg dI.toArray):Sem Value).run P w=.ok (.bool (!lv dq dI)) w:=by
 simp only [sK,Bool.and_eq_true,Bool.not_eq_true'] at aC;obtain ⟨⟨h1,ak⟩,aN⟩:=aC;have h:=GL w 100 t fj h1 Op.maxDepth (by decide) dq dI bf aF
 split at ak
 ·rename_i fs hu;simp only [pack,hu] at h;simp [eqGuard,binOp,aN,Op.equal,h]
 ·cases ak
namespace O
theorem PF {va vb:List Value}{fj:List o7}(J:Rd g a (.agg (va.map .lit))) (ay:Rd g b (.agg (vb.map .lit))) (bf:va.map mh=fj.map some) (aF:vb.map mh=fj.map some) (aC:sK P t fj=true) :
  dg P g (.binOp .eql t a b t2) ty (bk (lv va vb)):=.e9 (.x8 J.bI ay.bI rfl λw=>TT bf aF aC w)
theorem K1 {va vb:List Value}{fj:List o7}(J:Rd g a (.agg (va.map .lit))) (ay:Rd g b (.agg (vb.map .lit))) (bf:va.map mh=fj.map some) (aF:vb.map mh=fj.map some) (aC:sK P t fj=true) :
  dg P g (.binOp .neq t a b t2) ty (bk (!lv va vb)):=.e9 (.x8 J.bI ay.bI rfl λw=>TV bf aF aC w)
end O
end
end Go.Own
namespace Go.Own
open Go
section
variable {P:Program}{N:dy}{g g2:aU}{d r k0:Nat}{α:Type}
theorem View.n0 {p:Place}{cs cs':List af}(aE:b9 g p=some (.obj cs)) (hk:Nat.blt 0 cs.length=true) [h:dE cs cs']:View g (.ptr p 0) (.bs cs') :=
 .ptr aE (z:=0) (n:=0) (.inr rfl) (by simpa using hk) (by simpa using h.l) λk x y J ay=>h.v g k x y (by simpa using J) ay
theorem eK.el {en:cv α}{L:List α}{ae off:Nat}{i:Int}{y:α}(ak:b9 g2 ⟨r,[ae]⟩=some (al en L)) (hi:idx L i=some y) (bd:Nat.blt off en.z=true):eK g2 (.ptr ⟨r,[ae]⟩ (i.toNat * en.z+off)) :=
 (nC.mk (g:=g2) ak hi ak hi bd).br
theorem jM {p:Place}{k:Nat}:∀ z q n m new,af.ptr p k≠.b3 z q n m new:=by simp
inductive vI (g:aU) (d r k0:Nat) (G4:List (Nat × af)):List (Nat × af)->Prop
 | nil:vI g d r k0 G4 []
 | c {α:Type}{en:cv α}{L:List α}{s off:Nat}{i:Int}{y:α}{l:List (Nat × af)}(h:g s=some (.ptr ⟨r,[k0]⟩ (i.toNat * en.z+off))) (aE:b9 (get G4) ⟨r,[k0]⟩=some (al en L)) (hi:idx L i=some y) (bd:Nat.blt off en.z=true) (aV:Nat.beq s d=false) (bP:get G4 s=none) (t:vI g d r k0 G4 l):vI g d r k0 G4 ((s,.ptr ⟨r,[k0]⟩ (i.toNat * en.z+off))::l)
theorem vI.spec {G4 l:List (Nat × af)}(h:vI g d r k0 G4 l):∀ t x,get l t=some x->get G4 t=none/\t≠d/\g t=some x/\∃ m z n cs,x=.ptr ⟨r,[k0]⟩ m/\b9 (get G4) ⟨r,[k0]⟩=some (.own z n cs)/\m<cs.length:=by
 induction h with
 | nil=>intro t x J; cases J
 | @c α en L s off i y l h aE hi bd aV bP _ aS =>
  intro t x J; simp only [get] at J
  split at J
  ·rename_i e; subst e; cases J; exact ⟨bP,Nat.ne_of_beq_eq_false aV,h,_,_,_,_,rfl,aE,D7 hi bd⟩
  ·exact aS t x J
theorem kP.keep {g':aU}{x2:af}{G2:List (Nat × af)}(eb:kP g (get G2) r x2 G2) (h1:∀ t,t≠r->g' t=g t) (ak:g' r=some x2):gx g' (get G2):=by
 refine ⟨λt x J=>?_,λt x J=>?_,λt z q n m new J=>?_⟩
 ·rcases eb.spec t x J with ⟨a,b,_⟩ | ⟨rfl,rfl,_⟩
  ·rw [h1 t a]; exact b
  ·exact ak
 ·rcases eb.spec t x J with ⟨_,_,aN | ⟨aN,_⟩⟩ | ⟨_,_,aN⟩
  ·exact aN.br
  ·exact aN.br
  ·exact .bE aN
 ·rcases eb.spec t _ J with ⟨_,_,aN | ⟨aN,_⟩⟩ | ⟨_,_,aN⟩
  ·exact aN.fF _ _ _ _ _ rfl
  ·exact aN.fF _ _ _ _ _ rfl
  ·cases aN
theorem LS {cs:List af}{y x:af}(h:g r=some (.obj cs)) (hk:cs[k0]?=some x):c0 g ⟨r,[k0]⟩ y r=some (.obj (cs.set k0 y)):=by
 simp [c0,h,af.setAt,af.kids,hk,af.tD]
theorem cq.fp {o:Oper}{y:af}{cs cs5:List af}{G1 G4:Value->List (Nat × af)}{c4:Value->List af}{G5 A:List (Nat × af)}(aV:o.dst=some d) (bU:N.ok d=true) (av:g r=some (.obj cs)) (ay:cs[k0]?=some y) [uT:cK y]
  (h1:∀ v,kP g (get (G1 v)) r (.obj (cs.set k0 (.lit v))) (G1 v)) (aa:∀ v,hB P N (get (G1 v)) o d (get (G4 v))) (Jv:∀ v,get (G4 v) r=some (.obj (c4 v))) (Ju:∀ v,(c4 v)[k0]?=some (.lit v)) (P7:∀ v,(c4 v).set k0 y=cs5)
  (cZ:∀ v,kP (get (G4 v)) (get G5) r (.obj cs5) G5) (P8:b9 (get G5) ⟨r,[k0]⟩=some y) (dU:vI g d r k0 G5 A):cq P N g o (get (A++G5)):=by
 refine .call aV bU (hB.P0 av ay uT.bE λv hv=>⟨get (G1 v),get (G4 v),get G5,?_,aa v,?_,?_,P8,?_⟩)
 ·exact (h1 v).keep (λt aC=>si aC) (LS av ay)
 ·have:=Jv v;simp only [b9,this,af.at,af.kids,Ju v]
 ·refine (cZ v).keep (λt aC=>si aC) ?_;rw [LS (Jv v) (Ju v),P7 v]
 ·refine ⟨λt x h=>?_,λt x h=>?_⟩
  ·rw [BJ];cases pX:get A t with
   | none=>exact h
   | some z =>
    obtain ⟨jN,_⟩:=dU.spec t z pX;rw [jN] at h; cases h
  ·rw [BJ] at h;cases pX:get A t with
   | none=>rw [pX] at h; exact .inl h
   | some z =>
    rw [pX] at h;cases h;exact .inr (dU.spec t x pX)
end
end Go.Own
namespace Go.Own
open Go
section
variable {P:Program}{N:dy}{ops:Array Oper}{g g1 lX:aU}{K:aU->Prop}{l:List Oper}{d r:Nat}{t:TypeId}{a b:Operand}{x y:af}
variable {cc:List (List Nat)}{acc:Acc}{i:Nat}
theorem jl {a b:Nat}(h:Nat.blt a b=true):a<b:=by simpa using h
def Cv:Option Nat->Nat->Bool
 | none,_=>true
 | some a,d=>!Nat.beq a d
theorem K0 {o:Option Nat}{d:Nat}(h:Cv o d=true):o≠some d:=by
 rintro rfl;simp [Cv] at h
inductive v' (P:Program) (N:dy) (ops:Array Oper) (cc:List (List Nat)) (rs:Place->Prop) (lX g1:aU) (o:Oper) (U:Acc):Acc->Prop
 | nil:v' P N ops cc rs lX g1 o U []
 | c {k d:Nat}{x:af}{hl:Oper}{V:Acc}(cd:x3 rs lX g1 o x) (h1:g1 d=none) (eh:Cv o.dst d=true) (bd:ops[k]?=some hl) (B7:hl.dst=some d) (bU:N.ok d=true) (hw:iL (d_ g1 (λm=>(cc.getD k []).contains m) U) ops hl true)
   (aL:dg P (d_ g1 (λm=>(cc.getD k []).contains m) U) hl.op hl.type x) (t:v' P N ops cc rs lX g1 o U V):v' P N ops cc rs lX g1 o U ((k,d,some x)::V)
theorem v'.spec {o:Oper}{U V:Acc}{rs:Place->Prop}(h:v' P N ops cc rs lX g1 o U V):∀ e∈V,(∃ x,e.2.2=some x/\x3 rs lX g1 o x)/\(g1 e.2.1=none/\o.dst≠some e.2.1)/\∃ hl,ops[e.1]?=some hl/\hl.dst=some e.2.1/\N.ok e.2.1=true/\oa P (d_ g1 (λm=>(cc.getD e.1 []).contains m) U) ops hl e.2.2:=by
 induction h with
 | nil=>intro e he; cases he
 | c cd h1 eh bd B7 bU hw aL _ aS =>
  intro e he;rcases List.mem_cons.1 he with rfl | he
  ·exact ⟨⟨_,rfl,cd⟩,⟨h1,K0 eh⟩,_,bd,B7,bU,.inl ⟨hw,.inl aL⟩⟩
  ·exact aS e he
theorem b1.fi (df:Nat) {G G2:List (Nat × af)}{U:Acc}{o:Oper}{rs:List Nat}(he:n4 P N (sf rs) (d_ (get G) (λm=>(cc.getD df []).contains m) acc) o (get G2)) (k9:rs.all (λr=>(get G r).isSome)=true) (aY:o.guard=none) (hD:w7 ((acc.filterMap mc).map Place.root)=true) (jg:r7 G=true) (ab:Nat.beq ops.size (df+l.length+1)=true)
  (gA:acc.filter (λe=>!(cc.getD df []).contains e.1)=U) (p9:v' P N ops cc (sf rs) (d_ (get G) (λm=>(cc.getD df []).contains m) acc) (get G2) o U U)
  (aF:(List.range ops.size).all (λk=>Nat.ble k df||(cc.getD k []).contains df)=true) (hk:b1 P N ops cc (get G2) (df+1) U l K):b1 P N ops cc (get G) i acc (o::l) K:=by
 intro ee ae dn oH oB;have:=Bs oB ab;subst this;obtain ⟨h1,ak⟩:=drop_cons oB;have l2:∀ e∈U,e∈acc:=λe he=>by rw [<- gA] at he; exact (List.mem_filter.1 he).1
 have Ex:ml P N ops cc (get G2) (ae+1) U:=⟨λe he=>by have:=(oH.le dn).2 e (l2 e he); omega,λe he=>(p9.spec e he).2.1.1,by rw [<- gA]; exact (List.filter_sublist.map _).nodup (oH.nodup dn),λe he cO hI h=>oH.uniq dn (l2 e he) (l2 cO hI) h,λe he=>(p9.spec e he).2.2⟩;obtain ⟨g',av,ep⟩:=hk U (ae+1) Ex .nil ak;refine ⟨g',.x7 oH (Gh hD) (zI jg) h1 ?_ he (λr av e=>by have:=List.all_eq_true.1 k9 r.root av; rw [e] at this; cases this) gA.symm (λe h=>(p9.spec e h).1) (λe h=>(p9.spec e h).2.1) (λe h=>(p9.spec e h).2.2) ?_ av,ep⟩
 ·unfold iL; rw [aY]
 ·refine List.all_eq_true.2 λk hk=>?_;have:=List.all_eq_true.1 aF k hk;simp only [Bool.or_eq_true,decide_eq_true_eq,Nat.ble_eq] at this ⊢;exact this
theorem n4.box {o:Oper}{r:Nat}{x:af}{G1 G2:List (Nat × af)}(he:cq P N (get G1) o (get G2)) (av:g r=some x) [J:cK x] (hk:Trim false g (get G1) G1) (ba:get G1 r=none) (h1:get G2 r=none) (aV:Cv o.dst r=true):n4 P N (sf [r]) g o (get ((r,x)::G2)):=by
 rw [<- sR];exact he.nJ.frame av J.bE hk.keep ba h1 (K0 aV)
theorem cq.dQ {o:Oper}{k0:Nat}{cs cs' cs2:List af}{G2:List (Nat × af)}(bd:o.op=.store t a b) (aV:o.dst=none) (aL:g r=some (.obj cs)) (bf:Rd g a (.ptr ⟨r,[]⟩ k0)) (aF:Rd g b y) [aJ:cK y] (aa:qJ y=some cs') (bB:gn P t cs'.length=true)
  (hk:Nat.ble (k0+cs'.length) cs.length=true) (ba:Nat.blt 0 cs'.length=true) (he:fu cs k0 cs'=cs2) [gW:eG cs] (av:(get G2 r).isSome=true) (eb:mn g (get G2) r cs2 G2):cq P N g o (get G2) :=
 .box bd aV aL bf aF aJ.bE aa bB (Nat.le_of_ble_eq_true hk) (by simpa using ba) he (by intro e; rw [e] at av; cases av) eb
end
end Go.Own
namespace Go.Own
open Go
section
variable {α:Type}
theorem dE.app {xs ys xs' AF:List af}(h:dE xs ys) (aR:dE xs' AF):dE (xs++xs') (ys++AF):=⟨by simp [h.l,aR.l],λg k a b bf aF=>by
 by_cases hk:k<xs.length
 ·rw [List.getElem?_append_left hk] at bf;rw [List.getElem?_append_left (by rw [h.l]; exact hk)] at aF;exact h.v g k a b bf aF
 ·rw [List.getElem?_append_right (by omega)] at bf;rw [List.getElem?_append_right (by rw [h.l]; omega),h.l] at aF;exact aR.v g _ a b bf aF⟩
instance {e cO:cv α}{L:List α} [h:gT e cO]:dE (ch e L) (ch cO L):=⟨(Az e cO L).1,(Az e cO L).2⟩
theorem kb.GJ {en:cv α}{L:List α}{n:Nat}{cs cs':List af}(h:ch en L=cs') (ao:L.length=n) [hv:dE cs cs']:kb (.own en.z n cs) (aj en L):=⟨λg=>by
 subst h ao;exact .own hv.l (hv.v g)⟩
theorem kb.lI {en rI:cv α}{L M:List α}{m:Nat}{new c7:List af} [h:gT en rI] (aJ:ch rI M=c7) (hm:M.length=m) [aR:dE new c7]:kb (.own en.z (L.length+m) (ch en L++new)) (aj rI (L++M)):=⟨λg=>by
 subst aJ hm;have hv:=dE.app (inferInstance:dE (ch en L) (ch rI L)) aR;show View g (.own en.z (L.length+M.length) (ch en L++new)) (.aD rI.z (L++M).length (ch rI (L++M)));have e:ch rI (L++M)=ch rI L++ch rI M:=by simp [ch]
 rw [e,List.length_append,<- h.z];exact .own hv.l (hv.v g)⟩
end
end Go.Own
namespace Go.Own
open Go
section
variable {α:Type}{g g2:aU}{p q:Place}{P:Program}{a b:Operand}{t:TypeId}{ty:TypeId}
theorem eK.bq {en:cv α}{L:List α}(h:b9 g2 p=some (al en L)):eK g2 (.bq en.z p L.length):=.ref rfl (.inl ⟨_,_,h,Nat.le_refl _⟩)
namespace O
theorem Nh {en:cv α}{L M r:List α}{e ju m:Nat}{cs:List af}(aL:Rd g a (.bq en.z p L.length)) (aE:b9 g p=some (al en L)) (J:Rd g b (.bq en.z q m)) (bK:b9 g q=some (.own en.z m cs)) (ao:cs.length=m * en.z) (bh:cs.all k7=true) (hm:M.length=m) (aC:jG P t e en.z ju=true) (aF:Nat.ble ju 128=true) (h:eI L M=some r)
  (gW:∀ t z n m new,g t≠some (.b3 z p n m new)):dg P g (.call { callee:=.builtin .append,args:=#[a,b],argTypes:=#[t,t] }) ty (.b3 en.z p L.length m cs):=by
 subst hm;obtain ⟨h1,ak,_⟩:=x5 h aF;exact .lf (.grow aL.bI (.inl ⟨_,aE⟩) (λt cD cT b6 c7 e=>gW _ _ _ _ _ e) J.bI (L0 bK ao bh) aC h1 ak)
end O
end
end Go.Own
