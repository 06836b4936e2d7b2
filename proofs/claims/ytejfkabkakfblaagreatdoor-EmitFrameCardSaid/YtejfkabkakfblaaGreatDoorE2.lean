/- Parts of the proof that the last text states. -/
import Derived.RowKit3
import Derived.Test.YtejfkabkakfblaaGreatDoorE1
namespace Go.Own
open Go
set_option linter.unusedSectionVars false
variable [cI]
structure hx (g1 g2:aK):Prop where
 sub:∀ t x,g2 t=some x->g1 t=some x
 b':∀ t x,g2 t=some x->ej g2 x
 fk:∀ t z q n m new,g2 t≠some (.bB z q n m new)
structure cS where
 size:Nat
 pins:List Nat
def cS.ok (N:cS) (d:Nat):Bool:=Nat.blt d N.size&&!N.pins.elem d
def hA (N:cS) (T T':Array Value):Prop:=T'.size=T.size/\∀ t∈N.pins,T'[t]?=T[t]?
theorem hA.refl {N:cS}{T:Array Value}:hA N T T:=⟨rfl,λ_ _=>rfl⟩
theorem hA.trans {N:cS}{T Ln Lo:Array Value}(h:hA N T Ln) (h1:hA N Ln Lo):hA N T Lo:=⟨h1.1.trans h.1,λt aq=>(h1.2 t aq).trans (h.2 t aq)⟩
theorem cS.lt {N:cS}{d:Nat}(h:N.ok d=true):d<N.size:=by
 simp_all [cS.ok]
theorem hA.put {N:cS}{d:Nat}(h:N.ok d=true) (T:Array Value) (v:Value):hA N T (T.setIfInBounds d v):=by
 refine ⟨by simp,λt aq=>?_⟩
 grind [cS.ok]
def h2 (N:cS) (a:Act) (w:World) (I:a8) (Fs:Nat->a8) (g':aK) (bZ:Act) (w':World):Prop :=
 bZ.defers=a.defers/\hA N a.tmps bZ.tmps/\∃ I' b2,cF w' I' bZ.tmps g' b2/\kX w I (λc=>∃ t,Fs t c) w' I' (λc=>∃ t,b2 t c)
theorem wi {b2:Nat->a8}{d:Nat}{F:a8}{c:Nat}(h:∃ t,uR b2 d F t c):(∃ t,b2 t c)\/F c:=by
 obtain ⟨t,h⟩:=h;unfold uR at h
 grind
structure yx (P:Program) (g:aK) (f:FuncId) (all xs0 xs1 args:List ab) (tk:Nat->Bool) (vw:Bool) (g1 g2:aK) (outs:List (Option ab)) (res:ab) (l:List (Place × ab)) (ks:Nat->Nat) (g4:aK):Prop where
 aS:jB P f=true
 xx:xs0.length=all.length
 xy:args.length=all.length
 aO:∀ (k:Nat) (x:ab),all[k]?=some x->xs0[k]?=some x\/xs0[k]?=some .dead
 aq:Take g xs0 xs1 g1
 hk:hx g1 g2
 aR:∀ (k:Nat) (x y:ab),all[k]?=some x->args[k]?=some y->if tk k then xs1[k]?=some y else vw=true/\View g2 x y
 hb:b1 P f args outs res
 ah:if vw then j0 res else cE res
 ns:∀ (k:Nat) (x:ab),outs[k]?=some (some x)->if vw then j0 x else cE x
 aj:∀ (J:Nat) (p:Place) (x:ab),l[J]?=some (p,x)->Rb g g2 all outs (ks J) p x
 nd:(l.map (·.1)).Nodup
 inj:∀ i J,i<l.length->J<l.length->ks i=ks J->i=J
 Xu:hx (qp g2 l) g4
section
variable {P:Program}{w:World}{I:a8}{T:Array Value}{g:aK}{Fs:Nat->a8}
theorem jy.keep (h:jy w I T g Fs) {g2:aK}(hk:hx g g2):cF w I T g2 (λt c=>g2 t≠none/\Fs t c) :=
 h.ZV hk.sub hk.b' λ_ _ _ _ _ _ _ _ _ _ _ h1=>absurd h1 (hk.fk _ _ _ _ _ _)
structure wu (g:aK) (d:Nat) (g4 g5:aK):Prop where
 sub:∀ t x,g4 t=some x->g5 t=some x
 new:∀ t x,g5 t=some x->g4 t=some x\/(g4 t=none/\t≠d/\g t=some x/\∃ r k cs,x=.ptr ⟨r,[]⟩ k/\r≠d/\g4 r=some (.obj cs)/\k<cs.length)
theorem wu.refl {d:Nat}{g4:aK}:wu g d g4 g4:=⟨λ_ _ h=>h,λ_ _ h=>.inl h⟩
theorem cF.back (h:cF w I T g Fs) {w':World}{I':a8}{d:Nat}{v:Value}{g4 g5:aK}{K_:Nat->a8}(bx:cF w' I' (T.setIfInBounds d v) g4 K_) (av:wu g d g4 g5):cF w' I' (T.setIfInBounds d v) g5 K_:=by
 refine ⟨λt x j=>?_,λt aq c aa=>?_,bx.eu,bx.bm,bx.lt,λt t' z p n m new bs ch bh cQ h1 af=>?_,bx.hV⟩
 ·rcases av.new t x j with aI | ⟨h1,af,aJ,r,k,cs,rfl,cu,dL,k1⟩
  ·obtain ⟨u,hu,aY⟩:=bx.rel t x aI;exact ⟨u,hu,bx.wW (λ_ _=>rfl) (λ_ _ _=>rfl) (λ_ _=>rfl) (λ_ h=>h) av.sub aY λ_ _=>rfl⟩
  ·obtain ⟨u,hu,aY⟩:=h.rel t _ aJ;obtain ⟨⟨Di,ad,aB,a2,rfl⟩,_⟩:=(aY.hd (by simp)).nx;have dk:∀ s,s≠d->(T.setIfInBounds d v)[s]?=T[s]?:=λs ay=>by rw [Array.getElem?_setIfInBounds_ne (Ne.symm ay)]
   refine ⟨_,by rw [dk t af]; exact hu,.tree (.ref rfl ⟨⟨Di,ad,?_,a2,rfl⟩,?_⟩ (bx.kM t h1))⟩
   ·have:dU w T ⟨r,[]⟩=T[r]?:=by
     unfold dU; simp only; cases T[r]? <;> rfl
    rw [this] at aB;unfold dU;simp only [dk r cu,aB,walk]
   ·exact ⟨.obj cs,by simp [bu,av.sub r _ dL,ab.at],0,0,cs,.inr rfl,k1⟩
 ·cases aI:g4 t with
  | none=>exact bx.kM t aI c aa
  | some y=>rw [av.sub t y aI] at aq; cases aq
 ·have:∀ {t z p n m new},g5 t=some (.bB z p n m new)->g4 t=some (.bB z p n m new):=by
   intro t z p n m new j;rcases av.new t _ j with aI | ⟨_,_,_,r,k,cs,e,_⟩
   ·exact aI
   ·cases e
  exact bx.q8 t t' z p n m new bs ch bh cQ (this h1) (this af)
def hY (P:Program) (N:cS) (g:aK) (o:Oper) (d:Nat) (g5:aK):Prop :=
 ∀ (w:World) (I:a8) (T:Array Value) (Fs:Nat->a8),cF w I T g Fs->∀ (a:Act),a.tmps=T->a.tmps.size=N.size->∀ (K:Act->World->Prop) (Q:Exit->Act->World->Prop),
  (∀ (bZ:Act) (w':World) (v:Value) (I':a8) (b2:Nat->a8),bZ.defers=a.defers->bZ.tmps=T.setIfInBounds d v->cF w' I' (T.setIfInBounds d v) g5 b2->kX w I (λc=>∃ t,Fs t c) w' I' (λc=>∃ t,b2 t c)->K bZ w')->o.wp P a w K Q
theorem hY.sound {N:cS}{o:Oper}{d:Nat}{g5:aK}(aa:hY P N g o d g5) (jE:N.ok d=true) (h:cF w I T g Fs) {a:Act}(aR:a.tmps=T) (a_:a.tmps.size=N.size) {K:Act->World->Prop}{Q:Exit->Act->World->Prop}
  (c6:∀ bZ w',h2 N a w I Fs g5 bZ w'->K bZ w'):o.wp P a w K Q :=
 aa w I T Fs h a aR a_ K Q λbZ w' v I' b2 h1 af aJ bx=>c6 bZ w' ⟨h1,by rw [af,<- aR]; exact hA.put jE _ _,I',b2,by rw [af]; exact aJ,bx⟩
theorem yx.ok {N:cS}{o:Oper}{c:Operand}{xs:Array Operand}{ga:Array TypeId}{d:Nat}{f:FuncId}{first caps ys xs0 xs1 args:List ab}{tk:Nat->Bool}{vw:Bool}{g1 g2 g4 g5:aK}{outs:List (Option ab)}{res:ab}{l:List (Place × ab)}{ks:Nat->Nat}
  (aU:o.op=.call { callee:=.value c,args:=xs,argTypes:=ga }) (aP:o.dst=some d) (aa:bo g c=some (.dj (.func f) first caps)) (j:fC g xs.toList=some ys)
  (he:yx P g f (first++ys++caps) xs0 xs1 args tk vw g1 g2 outs res l ks g4) (aN:g4 d=none) (jE:N.ok d=true) (Bw:wu g d (cK g4 d res) g5):hY P N g o d g5:=by
 intro w I T Fs h a aR a_ K Q c6;obtain ⟨v1,v2,vh,aj,oA⟩:=Ha h aR aa j;have h_:(execOp a.eval o).run P w=.ok (.enter f (v1++xs.map a.eval++v2)) w:=by
  simp [execOp,aU,resolve,Deferred.ofValue,vh,invoke,Hb he.aS]
 generalize IW:(v1++xs.map a.eval++v2).toList=vs at *;generalize H3:first++ys++caps=all at *
 -- what is taken
 have ve:Hand w I (fH w T) Fs xs0 vs (λ_=>ct):=by
  refine ⟨by rw [he.xx,aj],λk x u j hu=>?_,λ_ _ _ _ _ h=>h.elim,λ_ _ _ _ h=>h.elim,λ_ _ _ h=>h.elim⟩;have hk:k<all.length:=by rw [<- he.xx]; exact (List.getElem?_eq_some_iff.1 j).1
  have Bo:=List.getElem?_eq_getElem hk;rcases he.aO k _ Bo with aO | aO
  ·rw [aO] at j; cases j;exact (oA k _ u Bo hu).frame (λ_ _=>rfl) (λ_ h=>h) (λ_ _ h=>h.1) λ_ _=>rfl
  ·rw [aO] at j; cases j;exact .dead λ_ h=>h
 obtain ⟨fF,H1,iW,ix,hj⟩:=he.aq.sound h.mw ve;have Nh:∀ c,lj fF xs1.length H1 c->∃ t,Fs t c:=by
  intro c aa;rcases hj c aa with aI | ⟨_,_,aI⟩
  ·exact aI
  ·exact aI.elim
 have h7:=iW.keep he.hk;generalize Um:(λt c=>g2 t≠none/\fF t c)=iQ at h7;have M4:∀ t c,iQ t c->fF t c:=by intro t c aa; rw [<- Um] at aa; exact aa.2
 have IA:xs1.length=all.length:=by rw [he.aq.length,he.xx]
 -- what the callee sees
 let DA:a8:=λc=>I c\/(vw=true/\∃ t,iQ t c)
 let yz:Nat->a8:=λt c=>t<all.length/\tk t=true/\H1 t c;have tP:∀ t c,yz t c->(∀ s,¬ iQ s c)/\¬ I c/\∃ t,Fs t c:=by
  rintro t c ⟨h1,af,aJ⟩;exact ⟨λs ay=>ix.off t s c (by omega) aJ (M4 s c ay),ix.bm t c (by omega) aJ,Nh c (.inr ⟨t,by omega,aJ⟩)⟩
 have NU:∀ (ρ':ab->Value->Prop) (k:Nat) (y:ab) (u:Value),args[k]?=some y->vs[k]?=some u->R w DA ρ' y u (yz k):=by
  intro ρ' k y u al hu;have hk:k<all.length:=by rw [<- he.xy]; exact (List.getElem?_eq_some_iff.1 al).1
  have Bo:=List.getElem?_eq_getElem hk;have:=he.aR k _ y Bo al
  split at this
  ·rename_i aq;have mK:cE y:=he.aq.Ct y (List.mem_of_getElem? this);exact (((ix.rel k y u this hu).bl mK).nD λc aa=>.inl aa).y5 λc=>⟨λaa=>⟨hk,aq,aa⟩,λaa=>aa.2.2⟩
  ·rename_i aq;obtain ⟨hv,WG⟩:=this;have fP:R w I (fH w T) all[k] u ct:=(oA k _ u Bo hu).frame (λ_ _=>rfl) (λ_ h=>h) (λ_ _ h=>h.1) λ_ _=>rfl;have:=View.Qd h7.mw WG fP (λ_ h=>h.elim) ρ';refine (this.nD (I':=DA) λc aa=>?_).y5 λc=>⟨λh=>h.elim,λaa=>absurd aa.2.1 aq⟩;rcases aa with aI | aI
   ·exact .inl aI
   ·exact .inr ⟨hv,aI⟩
 have UK:cF w DA vs.toArray (pf args) yz:=by
  refine ⟨λt x j=>?_,λt aq c aa=>?_,λt t' c aa e5=>ix.eu t t' c (by have:=aa.1; omega) (by have:=e5.1; omega) aa.2.2 e5.2.2,λt c aa hi=>?_,λc aa=>?_,λt t' z p n m new bs ch bh cQ h1 af=>?_,cI.keep h.hV (λ_ _=>rfl) λ_ h=>.inl h⟩
  ·have aq:t<args.length:=(List.getElem?_eq_some_iff.1 j).1;have hu:vs[t]?=some (vs[t]'(by rw [<- aj,<- he.xy]; exact aq)):=List.getElem?_eq_getElem _;exact ⟨_,by rw [List.getElem?_toArray]; exact hu,.tree (NU _ t x _ j hu)⟩
  ·have hle:args.length<=t:=by simpa [pf] using aq
   have:=aa.1; have:=he.xy; omega
  ·obtain ⟨h1,af,_⟩:=tP t c aa;rcases hi with aI | ⟨_,s,aI⟩
   ·exact af aI
   ·exact h1 s aI
  ·rcases aa with aI | ⟨_,s,aI⟩
   ·exact h.lt c aI
   ·exact h7.jT s c aI
  ·have aq:t<args.length:=(List.getElem?_eq_some_iff.1 h1).1;have hu:vs[t]?=some (vs[t]'(by rw [<- aj,<- he.xy]; exact aq)):=List.getElem?_eq_getElem _;exact (NU (λ_ _=>False) t _ _ h1 hu).k_.elim
 have vg:=he.hb.2 w DA vs yz (by rw [<- aj,he.xy]) UK;unfold Oper.wp Oper.upon;simp only [h_];rw [<- IW,Array.toArray_toList] at vg;refine Calls.mono vg ?_;rintro e w' ⟨v,I',b2,rfl,dZ,bT⟩;rw [IW] at dZ;have lz:outs.length=all.length:=by rw [he.hb.1,he.xy]
 have oH:vs.length=all.length:=aj.symm
 -- the blocks behind the call
 have PO:∀ t c,iQ t c->w'.heap[c]?=w.heap[c]?:=λt c aa=>bT.dF.block c (h7.jT t c aa) λ⟨s,ay⟩=>(tP s c ay).1 t aa;have re:∀ c,I c->w'.heap[c]?=w.heap[c]?:=λc aa=>bT.dF.block c (h.lt c aa) λ⟨s,ay⟩=>(tP s c ay).2.1 aa
 let If:a8:=λc=>if vw then I c else I' c
 have JY:∀ t c,b2 t c->(∃ s,yz s c)\/w.heap.size<=c:=λt c aa=>bT.own c ⟨t,aa⟩;have O0:∀ t c,b2 t c->∀ s,¬ iQ s c:=by
  intro t c aa s ay;rcases JY t c aa with ⟨cp,aI⟩ | aI
  ·exact (tP cp c aI).1 s ay
  ·have:=h7.jT s c ay; omega
 have O1:∀ t c,b2 t c->¬ If c:=by
  intro t c aa hi;cases vw with
  | true =>
   simp only [If,if_true] at hi;rcases JY t c aa with ⟨cp,aI⟩ | aI
   ·exact (tP cp c aI).2.1 hi
   ·have:=h.lt c hi; omega
  | false =>
   simp only [If,Bool.false_eq_true,if_false] at hi;exact dZ.bm t c aa hi
 have M9:∀ c,If c->I c\/(∃ s,yz s c)\/w.heap.size<=c:=by
  intro c aa;cases vw with
  | true=>simp only [If,if_true] at aa; exact .inl aa
  | false =>
   simp only [If,Bool.false_eq_true,if_false] at aa;rcases bT.new c aa with aI | aI | aI
   ·rcases aI with aI | ⟨aI,_⟩
    ·exact .inl aI
    ·cases aI
   ·exact .inr (.inl aI)
   ·exact .inr (.inr aI)
 have HP:∀ c,I c->If c:=by
  intro c aa;cases vw with
  | true=>simp only [If,if_true]; exact aa
  | false=>simp only [If,Bool.false_eq_true,if_false]; exact bT.more c (.inl aa)
 have UG:cF w' If T g2 iQ:=by
  have:=h7.world (w':=w') PO re bT.dF.size;refine ⟨λt x j=>?_,this.kM,this.eu,λt c aa hi=>?_,λc aa=>?_,this.q8,cI.keep h.hV re HP⟩
  ·obtain ⟨v,hv,aY⟩:=this.rel t x j;exact ⟨v,hv,aY.frame (λ_ _=>rfl) HP (λ_ _ h=>h) (λ_ _ _ _ _ _ _=>rfl) λ_ _=>rfl⟩
  ·rcases M9 c hi with aI | ⟨s,aI⟩ | aI
   ·exact h7.bm t c aa aI
   ·exact (tP s c aI).1 t aa
   ·have:=h7.jT t c aa; omega
  ·cases vw with
   | true=>simp only [If,if_true] at aa; exact Nat.lt_of_lt_of_le (h.lt c aa) bT.dF.size
   | false=>simp only [If,Bool.false_eq_true,if_false] at aa; exact dZ.lt c aa
 -- what comes back in the arguments, and the result
 have LO:∀ {x:ab}{u:Value}{F:a8}{ρ ρ':ab->Value->Prop},R w' I' ρ x u F->(if vw then j0 x else cE x)->R w' If ρ' x u F:=by
  intro x u F ρ ρ' aY j;cases vw with
  | true=>simp only [if_true] at j; exact aY.k' j
  | false =>
   simp only [Bool.false_eq_true,if_false] at j;refine (aY.bl j).nD λc aa=>?_;simpa [If] using aa
 have Cs:∀ {x:ab},(if vw then j0 x else cE x)->∀ z p n m new,x≠.bB z p n m new:=by
  rintro x j z p n m new rfl;cases vw with
  | true=>simp only [if_true] at j; cases j
  | false=>simp only [Bool.false_eq_true,if_false] at j; cases j
 have X_:∀ (k:Nat) (x:ab) (u:Value),outs[k]?=some (some x)->vs[k]?=some u->R w' If (fH w' T) x u (b2 k):=by
  intro k x u j hu;have hk:k<outs.length:=(List.getElem?_eq_some_iff.1 j).1;obtain ⟨wh,hP,aY⟩:=dZ.rel k x (by simp only [lZ,if_neg (Nat.ne_of_lt hk),j]; rfl);have:wh=u:=by
   rw [List.getElem?_toArray,List.getElem?_append_left (by rw [oH,<- lz]; exact hk),hu] at hP;exact (Option.some.inj hP).symm
  subst this;exact LO (aY.hd (Cs (he.ns k x j))) (he.ns k x j)
 obtain ⟨KF,EM,po⟩:=dZ.rel outs.length res (by simp [lZ]);have WB:KF=v:=by
  have e:outs.length=vs.length:=by omega
  rw [e] at EM;simpa using EM.symm
 subst WB
 -- back into the places
 obtain ⟨yA,HY,El⟩:=jy.qp (w:=w') (I:=If) (T:=T) l (λJ=>b2 (ks J)) (λJ=>vs.getD (ks J) undef) UG.mw he.nd (λJ p x ai=>by
   have L:=he.aj J p x ai;have hk:ks J<outs.length:=(List.getElem?_eq_some_iff.1 L.out).1;have hu:vs[ks J]?=some (vs[ks J]'(by rw [oH,<- lz]; exact hk)):=List.getElem?_eq_getElem _;have sE:vs.getD (ks J) undef=vs[ks J]'(by rw [oH,<- lz]; exact hk):=by simp [List.getD,hu]
   refine ⟨L.LI,?_,?_,λi e=>?_⟩
   ·rw [sE,h7.yj (w':=w') (λ_ _=>rfl) PO L.LI];rcases L.arg with ⟨z,n,cs,h1,af⟩ | ⟨cs,h1,af⟩
    ·exact RO h (oA _ _ _ h1 hu) af
    ·exact RN h (oA _ _ _ h1 hu) af
   ·rw [sE]; exact X_ _ x _ L.out hu
   ·exact L.iJ i e)
  (λJ t c ai aa=>O0 _ c aa t) (λJ c ai aa=>O1 _ c aa) (λi J c hi ai h1 af=>he.inj i J hi ai (dZ.eu _ _ c h1 af))
 have UH:=HY.keep he.Xu;have X5:∀ t c,b2 outs.length c->¬ (g4 t≠none/\yA t c):=by
  rintro t c aa ⟨_,bx⟩;rcases El t c bx with aI | ⟨J,ai,aI⟩
  ·exact O0 _ c aa t aI
  ·have hk:ks J<outs.length:=by
    have vk:=List.getElem?_eq_getElem ai;exact (List.getElem?_eq_some_iff.1 (he.aj J _ _ vk).out).1
   have:=dZ.eu _ _ c aa aI;omega
 have nr:=UH.uI (d:=d) (x:=res) (v:=KF) (F:=b2 outs.length) aN (by rw [<- aR,a_]; exact cS.lt jE) (.tree (LO (po.hd (Cs he.ah)) he.ah)) X5 (λc aa=>O1 _ c aa) (λz p n m new e=>absurd e (Cs he.ah z p n m new));refine c6 _ _ KF If _ (by rw [aP]; rfl) (by rw [aP]; simp [Act.put,aR]) (h.back nr Bw) ⟨?_,HP,λc aa=>?_,λc aa=>?_⟩
 ·exact bT.dF.mono λb _ ⟨s,ay⟩=>(tP s b ay).2.2
 ·rcases M9 c aa with aI | ⟨s,aI⟩ | aI
  ·exact .inl aI
  ·exact .inr (.inl (tP s c aI).2.2)
  ·exact .inr (.inr aI)
 ·have fin:∀ t,b2 t c->(∃ s,Fs s c)\/w.heap.size<=c:=by
   intro t aq;rcases JY t c aq with ⟨s,aI⟩ | aI
   ·exact .inl (tP s c aI).2.2
   ·exact .inr aI
  rcases wi aa with ⟨t,_,aI⟩ | aI
  ·rcases El t c aI with fT | ⟨J,_,fT⟩
   ·exact .inl (Nh c (.inl ⟨t,M4 t c fT⟩))
   ·exact fin _ fT
  ·exact fin _ aI
structure QT (g:aK) (d r k0:Nat) (g4 g5:aK):Prop where
 sub:∀ t x,g4 t=some x->g5 t=some x
 new:∀ t x,g5 t=some x->g4 t=some x\/(g4 t=none/\t≠d/\g t=some x/\∃ m z n cs,x=.ptr ⟨r,[k0]⟩ m/\bu g4 ⟨r,[k0]⟩=some (.own z n cs)/\m<cs.length)
theorem hx.bu {g1 g2:aK}(h:hx g1 g2) {p:Place}{y:ab}(au:bu g2 p=some y):bu g1 p=some y:=by
 unfold Own.bu at *;cases j:g2 p.root with
 | none=>rw [j] at au; cases au
 | some x=>rw [j] at au; rw [h.sub _ _ j]; exact au
theorem hY.TP {N:cS}{o:Oper}{r k0 d:Nat}{y:ab}{cs:List ab}{g5:aK}(ah:g r=some (.obj cs)) (al:cs[k0]?=some y) (xm:cE y) (lS:∀ i,y≠.self i)
  (vp:∀ v:Value,v.oneCell'=true->∃ g1 g4 vd,hx (cj g ⟨r,[k0]⟩ (.lit v)) g1/\hY P N g1 o d g4/\bu g4 ⟨r,[k0]⟩=some (.lit v)/\hx (cj g4 ⟨r,[k0]⟩ y) vd/\bu vd ⟨r,[k0]⟩=some y/\QT g d r k0 vd g5):hY P N g o d g5:=by
 intro w I T Fs h a aR a_ K Q c6;have ml:∀ z q n m new,y≠.bB z q n m new:=by rintro z q n m new rfl; cases xm
 have fz:bu g ⟨r,[k0]⟩=some y:=by simp [bu,ah,ab.at,ab.kids,al]
 obtain ⟨v,cn,hv,dB,di,put⟩:=h.mw.part fz ml;have rT:v.oneCell'=true:=by
  obtain ⟨u,hu,mI⟩:=h.rel r _ ah;obtain ⟨b,wh,h1,af,aJ,bx,_⟩:=R.node (z:=0) (n:=0) (mI.hd (by simp)) (.inr rfl) al;have:dU w T ⟨r,[k0]⟩=child w u k0:=by
   unfold dU;simp only [hu,walk];cases child w u k0 <;> rfl
  rw [this,aJ] at hv;cases hv;exact bx
 obtain ⟨fF,iW,Be,Bf⟩:=put (.lit v) ct (.lit rT λ_ h=>h) (λ_ h=>h.elim) (λ_ h=>h.elim) (λ_ _ _ h=>h.elim) (λ_ h=>by cases h);obtain ⟨g1,g4,vd,gg,cX,H4,Iw,acD,av⟩:=vp v rT;have se:∀ t c,fF t c->Fs t c/\¬ cn c:=by
  intro t c aa;by_cases aq:t=r
  ·subst aq;rcases (Be c).1 aa with aI | aI
   ·exact aI
   ·exact aI.elim
  ·rw [Bf t aq] at aa;exact ⟨aa,λaS=>aq (h.eu t r c aa (di c aS))⟩
 have HX:=iW.keep gg;refine cX w I T _ HX a aR a_ K Q λbZ w' ef I' b2 Hq A5 dZ bT=>?_;obtain ⟨v2,iO,zt,mf,Ul,Ka⟩:=dZ.mw.part H4 (by simp);have IT:v2=v:=mf.h'.1;subst IT;have HN:∀ c,cn c->¬ I c:=λc aa=>h.bm r c (di c aa);have w0:∀ c,cn c->c<w.heap.size:=λc aa=>h.jT r c (di c aa);have xJ:∀ c,cn c->¬ ∃ t,(g1 t≠none/\fF t c):=λc aa ⟨t,_,aI⟩=>(se t c aI).2 aa;have Cv:∀ t c,b2 t c->¬ cn c:=by
  intro t c aa aS;rcases bT.own c ⟨t,aa⟩ with aI | aI
  ·exact xJ c aS aI
  ·have:=w0 c aS; omega
 have JU:∀ c,cn c->¬ I' c:=by
  intro c aa hi;rcases bT.new c hi with aI | aI | aI
  ·exact HN c aa aI
  ·exact xJ c aa aI
  ·have:=w0 c aa; omega
 have Kn:∀ c,cn c->w'.heap[c]?=w.heap[c]?:=λc aa=>bT.dF.block c (w0 c aa) (xJ c aa);have re:∀ c,I c->w'.heap[c]?=w.heap[c]?:=λc aa=>bT.dF.block c (h.lt c aa) λ⟨t,_,aI⟩=>h.bm t c (se t c aI).1 aa;have Bm:R w' I' (fH w' (T.setIfInBounds d ef)) y v2 cn :=
  ((dB.bl xm).frame re bT.more (λ_ _ h=>h) Kn)
 obtain ⟨K',HZ,HI,HJ⟩:=Ka y cn Bm (λc aa aS=>(Cv _ c aS aa).elim) (λc aa=>JU c aa) (λt c _ aa aS=>Cv t c aS aa) (λi e=>absurd e (lS i));have sD:=HZ.keep Iw;have WD:dU w' (T.setIfInBounds d ef) ⟨r,[k0]⟩=some v2:=zt;have UI:cF w' I' (T.setIfInBounds d ef) g5 (λt c=>vd t≠none/\K' t c):=by
  refine ⟨λt x j=>?_,λt aq c aa=>?_,sD.eu,sD.bm,sD.lt,λt t' z p n m new bs ch bh cQ h1 af=>?_,sD.hV⟩
  ·rcases av.new t x j with aI | ⟨h1,af,aJ,m,z,n,cs2,rfl,cu,dL⟩
   ·obtain ⟨u,hu,aY⟩:=sD.rel t x aI;exact ⟨u,hu,sD.wW (λ_ _=>rfl) (λ_ _ _=>rfl) (λ_ _=>rfl) (λ_ h=>h) av.sub aY λ_ _=>rfl⟩
   ·obtain ⟨u,hu,aY⟩:=h.rel t _ aJ;obtain ⟨⟨Di,ad,aB,a2,rfl⟩,_⟩:=(aY.hd (by simp)).nx;rw [hv] at aB;cases aB;refine ⟨_,by rw [Array.getElem?_setIfInBounds_ne (Ne.symm af)]; exact hu,.tree (.ref rfl ⟨⟨v2,ad,WD,a2,rfl⟩,?_⟩ (sD.kM t h1))⟩;refine ⟨.own z n cs2,?_,z,n,cs2,.inl rfl,dL⟩;unfold Own.bu at cu ⊢;cases fL:vd r with
    | none=>simp only [fL] at cu; cases cu
    | some x'=>simp only [fL] at cu; simp only [av.sub r x' fL]; exact cu
  ·cases aI:vd t with
   | none=>exact aa.1 aI
   | some y=>rw [av.sub t y aI] at aq; cases aq
  ·have:∀ {t z p n m new},g5 t=some (.bB z p n m new)->vd t=some (.bB z p n m new):=by
    intro t z p n m new j;rcases av.new t _ j with aI | ⟨_,_,_,m,z,n,cs2,e,_⟩
    ·exact aI
    ·cases e
   exact sD.q8 t t' z p n m new bs ch bh cQ (this h1) (this af)
 refine c6 bZ w' ef I' _ Hq A5 UI ⟨?_,bT.more,λc aa=>?_,λc aa=>?_⟩
 ·exact bT.dF.mono λb _ ⟨t,_,aI⟩=>⟨t,(se t b aI).1⟩
 ·rcases bT.new c aa with aI | ⟨t,_,aI⟩ | aI
  ·exact .inl aI
  ·exact .inr (.inl ⟨t,(se t c aI).1⟩)
  ·exact .inr (.inr aI)
 ·obtain ⟨t,_,aa⟩:=aa;have:(∃ t,b2 t c)\/cn c:=by
   by_cases aq:t=r
   ·subst aq;rcases (HI c).1 aa with ⟨aI,_⟩ | aI
    ·exact .inl ⟨_,aI⟩
    ·exact .inr aI
   ·rw [HJ t aq] at aa; exact .inl ⟨t,aa⟩
  rcases this with aI | aI
  ·rcases bT.own c aI with ⟨t,_,fT⟩ | fT
   ·exact .inl ⟨t,(se t c fT).1⟩
   ·exact .inr fT
  ·exact .inl ⟨r,di c aI⟩
end
end Go.Own
namespace Go.Own
open Go
set_option linter.unusedSectionVars false
variable [cI]
def nQ:ab->Option (List ab)
 | .agg cs=>some cs
 | .lit v=>some [.lit v]
 | .aQ=>some [.aQ]
 | .bm z n cs=>some [.bm z n cs]
 | .own z n cs=>some [.own z n cs]
 | .obj cs=>some [.obj cs]
 | .cO cs=>some [.cO cs]
 | .dj f a b=>some [.dj f a b]
 | _=>none
def hs (P:Program) (t:TypeId) (m:Nat):Bool :=
 match P.info? t with
 | some i=>i.size == m
 | none=>false
def iE (P:Program) (N:cS) (g:aK) (o:Oper) (g':aK):Prop :=
 ∀ (w:World) (I:a8) (T:Array Value) (Fs:Nat->a8),cF w I T g Fs->∀ (a:Act),a.tmps=T->a.tmps.size=N.size->∀ (K:Act->World->Prop) (Q:Exit->Act->World->Prop),
  (∀ (bZ:Act) (w':World),h2 N a w I Fs g' bZ w'->(∀ t,o.dst≠some t->bZ.tmps[t]?=a.tmps[t]?)->K bZ w')->o.wp P a w K Q
inductive br (P:Program) (N:cS) (g:aK):Oper->aK->Prop
 | assign {o:Oper}{d:Nat}{x:Operand}{y bN y':ab}{g1 g2:aK}(aU:o.op=.assign x) (aP:o.dst=some d) (j:bo g x=some y) (aq:Take g [y] [bN] g1) (aW:gY bN y') (hk:hx g1 g2) (aN:g2 d=none) (a_:N.ok d=true):br P N g o (cK g2 d y')
 | RS {o:Oper}{d:Nat}{x:Operand}{y:ab}{g2:aK}(aU:o.op=.assign x) (aP:o.dst=some d) (j:bo g x=some y) (hk:hx g g2) (al:ej g2 y) (aN:g2 d=none) (a_:N.ok d=true):br P N g o (cK g2 d y)
 | store {o:Oper}{t:TypeId}{ad val:Operand}{p:Place}{k z n:Nat}{y bN y' nd:ab}{cs cs':List ab}{g1 g2:aK}(aU:o.op=.store t ad val) (aP:o.dst=none) (ft:bo g ad=some (.ptr p k)) (rU:bo g val=some y) (aq:Take g [y] [bN] g1) (nV:gY bN y')
   (aa:nQ y'=some cs') (ay:hs P t cs'.length=true) (au:bu g1 p=some nd) (fj:nd=.own z n cs\/nd=.obj cs) (hk:k+cs'.length<=cs.length) (aO:0<cs'.length)
   (Eu:∀ t x,g2 t=some x->cj g1 p (nd.eK k cs') t=some x) (sJ:∀ t x,g2 t=some x->∀ y,g1 t=some y->ki (λr=>gZ g1 r/\Clear p k cs'.length r/\gZ g2 r) y) (ml:∀ t z q n m new,g2 t≠some (.bB z q n m new)) (mN:g2 p.root≠none):br P N g o g2
 | call {o:Oper}{d:Nat}{g5:aK}(aP:o.dst=some d) (a_:N.ok d=true) (h:hY P N g o d g5):br P N g o g5
 | PY {o:Oper}{g2:aK}(h:iE P N g o g2):br P N g o g2
theorem SP {y:ab}{cs:List ab}(h:sn y) (aa:nQ y=some cs):qH cs:=by
 have one:∀ {x:ab},(∀ J,x≠.self J)->qH [x]:=λj k J e=>by
  cases k with
  | zero=>simp only [List.getElem?_cons_zero,Option.some.injEq] at e; exact j J e
  | succ k=>simp at e
 cases y <;> simp only [Go.Own.nQ,Option.some.injEq,reduceCtorEq] at aa <;> subst aa
 all_goals first | exact h _ rfl | exact one (by simp)
theorem View.xK {g:aK}{x y:ab}(h:View g x y) (j:sn x):sn y:=by
 intro cs e k J hk;cases h with
 | self=>exact j _ e k J hk
 | agg aj h=>cases e; exact j _ rfl k J (Fo aj h (λ_ _ _=>View.iJ) k J hk)
 | _=>cases e
theorem gY.xK {x y:ab}(h:gY x y) (j:sn x):sn y:=by
 intro cs e k J hk;cases h with
 | refl=>exact j _ e k J hk
 | oP _ h=>exact h.xK j _ e k J hk
 | agg aj h=>cases e; exact j _ rfl k J (Fo aj h (λ_ _ _=>gY.iJ) k J hk)
 | _=>cases e
section
variable {P:Program}{w:World}{I:a8}{T:Array Value}{g:aK}{Fs:Nat->a8}
theorem Hand.one {y:ab}{v:Value}(aY:R w I (dR w T g) y v ct):Hand w I (fH w T) Fs [y] [v] (λ_=>ct) :=
 ⟨rfl,λk x u j hu=>by
  cases k with
  | zero=>simp at j hu; subst j hu; exact aY.frame (λ_ _=>rfl) (λ_ h=>h) (λ_ _ h=>h.1) λ_ _=>rfl
  | succ k=>simp at j,λ_ _ _ _ _ h=>h.elim,λ_ _ _ _ h=>h.elim,λ_ _ _ h=>h.elim⟩
theorem Hand.Ke {ρ:ab->Value->Prop}{y:ab}{v:Value}{dm:Nat->a8}(h:Hand w I ρ Fs [y] [v] dm):R w I ρ y v (dm 0):=h.rel 0 y v rfl rfl
theorem Hand.cells {y:ab}{v:Value}{dm:Nat->a8}(h:Hand w I (fH w T) Fs [y] [v] dm) (aA:cE y) {cs:List ab}(aa:nQ y=some cs) :
  ∃ yB,Hand w I (fH w T) Fs cs v.cells.toList yB/\(∀ x∈cs,cE x)/\(∀ (J:Nat) (u:Value),v.cells.toList[J]?=some u->u.oneCell'=true)/\∀ J c,J<cs.length->yB J c->dm 0 c:=by
 have aY:=h.Ke;have single:∀ {x:ab},y=x->v.oneCell'=true->∃ yB,Hand w I (fH w T) Fs [x] v.cells.toList yB/\(∀ z∈[x],cE z)/\(∀ (J:Nat) (u:Value),v.cells.toList[J]?=some u->u.oneCell'=true)/\∀ J c,J<[x].length->yB J c->dm 0 c:=by
  rintro x rfl h1;have Eo:v.cells=#[v]:=by cases v <;> first | rfl | (simp [Value.oneCell'] at h1)
  grind
 cases y <;> simp only [nQ,Option.some.injEq,reduceCtorEq] at aa
 case agg l =>
  subst aa;cases aY with
  | ref j=>simp [ab.isRef] at j
  | @agg _ vs bW _ aj h1 ah aP aH =>
   have eT:∀ k c,k<l.length->bW k c->dm 0 c:=λk c hk aa=>(aH c).2 ⟨k,hk,aa⟩;refine ⟨bW,⟨by simp [Value.cells,aj],λk x u j hu=>ah k x u j (by simpa [Value.cells] using hu),aP,λk t c hk aa=>h.off 0 t c (by simp) (eT k c hk aa),λk c hk aa=>h.bm 0 c (by simp) (eT k c hk aa)⟩,?_,λJ u hu=>h1 J u (by simpa [Value.cells] using hu),eT⟩;cases aA with | agg h=>exact h
 case lit a=>subst aa; exact single rfl (by obtain ⟨rfl,h1⟩:=aY.h'; exact h1)
 case aQ=>subst aa; exact single rfl (by rw [aY.r5]; rfl)
 case bm z n l=>subst aa; exact single rfl (by obtain ⟨a,cap,rfl,_⟩:=aY.zw; rfl)
 case own z n l=>subst aa; exact single rfl (by obtain ⟨a,cap,rfl,_⟩:=aY.mR; rfl)
 case cO l=>subst aa; exact single rfl (by obtain ⟨ad,us,rfl,_⟩:=aY.xo; rfl)
 case obj l =>
  subst aa;refine single rfl ?_;cases aY with
  | ref j=>simp [ab.isRef] at j
  | obj=>rfl
 case dj f a b =>
  subst aa;refine single rfl ?_;cases aY with
  | ref j=>simp [ab.isRef] at j
  | dj=>rfl
theorem jx.nD {I':a8}{ρ:ab->Value->Prop}{x:ab}{v:Value}{F:a8}(h:jx w I ρ x v F) (bb:∀ c,I c->I' c):jx w I' ρ x v F:=by
 cases h with
 | tree h=>exact .tree (h.nD bb)
 | bB h=>exact .bB ⟨h.kp,h.iX,h.np,h.aj,h.h1,λk x u j hu=>(h.ah k x u j hu).nD bb,h.aH⟩
theorem MP {g1:aK}{fF:Nat->a8}{H1:Nat->a8}{bN y':ab}{v:Value}(bn:jy w I T g1 fF) (hH:Hand w I (fH w T) fF [bN] [v] H1) (aA:cE bN) (aW:gY bN y') :
  ∃ (I':a8) (tp:a8),(∀ c,I c->I' c)/\(∀ c,I' c->I c\/H1 0 c)/\jy w I' T g1 fF/\Hand w I' (fH w T) fF [y'] [v] (λ_=>tp)/\∀ c,tp c->H1 0 c:=by
 have aY:=hH.Ke;obtain ⟨tp,gx,jl⟩:=R.dS aW aY aA (λc aa=>hH.bm 0 c (by simp) aa) bn.lt bn.hV;refine ⟨λc=>I c\/(H1 0 c/\¬ tp c),tp,λc aa=>.inl aa,λc aa=>aa.elim .inl λh=>.inr h.1,⟨λt x j=>?_,bn.kM,bn.eu,λt c aa hi=>?_,λc aa=>?_,cI.keep bn.hV (λ_ _=>rfl) λ_ h=>.inl h⟩,⟨rfl,λk x u j hu=>?_,λJ k c ai hk _ _=>by simp at ai hk; omega,λk t c hk aa aS=>hH.off 0 t c (by simp) (gx c aa) aS,λk c hk aa hi=>?_⟩,gx⟩
 ·obtain ⟨u,hu,mI⟩:=bn.rel t x j;exact ⟨u,hu,mI.nD λc aa=>.inl aa⟩
 ·rcases hi with h | ⟨h,_⟩
  ·exact bn.bm t c aa h
  ·exact hH.off 0 t c (by simp) h aa
 ·rcases aa with h | ⟨h,_⟩
  ·exact bn.lt c h
  ·exact aY.lt c h
 ·cases k with
  | zero=>simp at j hu; subst j hu; exact jl
  | succ k=>simp at j
 ·rcases hi with h | ⟨_,h⟩
  ·exact hH.bm 0 c (by simp) (gx c aa) h
  ·exact h aa
theorem br.kn {N:cS}{o:Oper}{g':aK}(he:br P N g o g'):iE P N g o g':=by
 intro w I T Fs h a aR a_ K Q c6;cases he with
 | PY he=>exact he w I T Fs h a aR a_ K Q c6
 | @call d _ aP jE aa =>
  refine aa w I T Fs h a aR a_ K Q λbZ w' v I' b2 h1 af aJ bx=>c6 bZ w' ⟨h1,by rw [af,<- aR]; exact hA.put jE _ _,I',b2,by rw [af]; exact aJ,bx⟩ λt aq=>?_;rw [af,aR,Array.getElem?_setIfInBounds_ne];rintro rfl;exact aq aP
 | @assign d x y bN y' g1 g2 aU aP j aq aW hk aN jE =>
  have aY:=la h j aR;obtain ⟨fF,H1,sC,ve,hj⟩:=aq.sound h.mw (Hand.one aY);have BH:cE bN:=aq.Ct bN (by simp);obtain ⟨I',tp,nU,HO,iW,ix,gx⟩:=MP sC ve BH aW;have mK:cE y':=aW.bl BH;have h7:=iW.keep hk;have nr:=h7.uI (d:=d) (x:=y') (v:=a.eval x) (F:=tp) aN (by rw [<- aR,a_]; exact cS.lt jE) (.tree (ix.Ke.bl mK)) (λt c aa aS=>ix.off 0 t c (by simp) aa aS.2) (λc aa=>ix.bm 0 c (by simp) aa) (by rintro z p n m new rfl; cases mK);have h_:(execOp a.eval o).run P w=.ok (.value (a.eval x)) w:=by simp [execOp,aU]
  unfold Oper.wp Oper.upon;simp only [h_];have fy:∀ c,H1 0 c->∃ t,Fs t c:=λc aa=>by
   rcases hj c (.inr ⟨0,by simp,aa⟩) with fT | ⟨_,_,fT⟩
   ·exact fT
   ·exact fT.elim
  refine c6 _ _ ⟨by rw [aP]; rfl,by rw [aP]; exact hA.put jE _ _,I',_,by rw [aP]; simpa [Act.put,aR] using nr,⟨Fr.refl _ _,nU,λc aa=>(HO c aa).elim .inl λh=>.inr (.inl (fy c h)),λc aa=>?_⟩⟩ λt aq=>by rw [aP]; simp only [Act.put]; rw [Array.getElem?_setIfInBounds_ne]; rintro rfl; exact aq aP
  rcases wi aa with ⟨t,_,aI⟩ | aI
  ·rcases hj c (.inl ⟨t,aI⟩) with fT | ⟨_,_,fT⟩
   ·exact .inl fT
   ·exact fT.elim
  ·exact .inl (fy c (gx c aI))
 | @RS d x y g2 aU aP j hk al aN jE =>
  have aY:=la h j aR;have h7:=h.mw.keep hk;have jl:R w I (dR w T g2) y (a.eval x) ct:=(aY.frame (ρ':=fH w T) (λ_ _=>rfl) (λ_ h=>h) (λ_ _ h=>h.1) λ_ _=>rfl).b' al;have nr:=h7.uI (d:=d) (x:=y) (v:=a.eval x) (F:=ct) aN (by rw [<- aR,a_]; exact cS.lt jE) (.tree jl) (λ_ _ h=>h.elim) (λ_ h=>h.elim) (by rintro z p n m new rfl; exact jl.k_.elim);have h_:(execOp a.eval o).run P w=.ok (.value (a.eval x)) w:=by simp [execOp,aU]
  unfold Oper.wp Oper.upon;simp only [h_];refine c6 _ _ ⟨by rw [aP]; rfl,by rw [aP]; exact hA.put jE _ _,I,_,by rw [aP]; simpa [Act.put,aR] using nr,⟨Fr.refl _ _,λ_ h=>h,λ_ h=>.inl h,λc aa=>?_⟩⟩ λt aq=>by rw [aP]; simp only [Act.put]; rw [Array.getElem?_setIfInBounds_ne]; rintro rfl; exact aq aP
  rcases wi aa with ⟨t,_,aI⟩ | aI
  ·exact .inl ⟨t,aI⟩
  ·exact aI.elim
 | @store t ad val p k z n y bN y' nd cs cs' g1 _ aU aP ft rU aq nV aa ay au fj hk aO Eu sJ ml mN =>
  have po:=la h rU aR;obtain ⟨⟨u,aau,hu,vf,rM⟩,_⟩:=(la h ft aR).nx;obtain ⟨fF,H0,sC,ve,H3⟩:=aq.sound h.mw (Hand.one po);have BH:cE bN:=aq.Ct bN (by simp);obtain ⟨I',tp,nU,HO,iW,ix,Wv⟩:=MP sC ve BH nV;have mK:cE y':=nV.bl BH;have fy:∀ c,H0 0 c->∃ t,Fs t c:=λc aa=>by
   rcases H3 c (.inr ⟨0,by simp,aa⟩) with fT | ⟨_,_,fT⟩
   ·exact fT
   ·exact fT.elim
  have hj:∀ c,lj fF 1 (λ_=>tp) c->lj Fs [y].length (λ_=>ct) c:=by
   rintro c (⟨t,aa⟩ | ⟨_,_,aa⟩)
   ·exact H3 c (.inl ⟨t,aa⟩)
   ·exact .inl (fy c (Wv c aa))
  obtain ⟨yB,M8,Ij,gv,Us⟩:=ix.cells mK aa;have k_:∀ z q n m new,nd≠.bB z q n m new:=by rcases fj with rfl | rfl <;> simp
  obtain ⟨v,cn,hv,dB,di,_⟩:=iW.part au k_;rw [hu] at hv;cases hv;obtain ⟨b,gF,av,_⟩:=dB.node fj (List.getElem?_eq_getElem (show k<cs.length by omega));rw [vf] at av;cases av;have lx:∃ e arr,w.heap[b]?=some (.cells arr e (0,0))/\cs.length<=arr.size:=by
   rcases fj with rfl | rfl
   ·cases dB with
    | ref j=>simp [ab.isRef] at j
    | own lT aj =>
     obtain ⟨k7,bG⟩:=lT;rcases bG with ⟨rfl,_⟩ | ⟨dX,cap,cur,rfl,_,jt,x3,v_,z_,x4⟩
     ·simp [addrOf] at vf
     ·simp only [addrOf,Option.some.injEq,Addr.mk.injEq,and_true] at vf;subst vf;refine ⟨_,cur,jt,?_⟩;rw [aj,<- x4,List.length_take]; simp; omega
   ·cases dB with
    | ref j=>simp [ab.isRef] at j
    | obj lT aj =>
     simp only [addrOf,Option.some.injEq,Addr.mk.injEq,and_true] at vf;subst vf;exact ⟨_,_,lT,by omega⟩
  obtain ⟨e,arr,lx,hle⟩:=lx;obtain ⟨iQ,h7,gx⟩:=iW.store au fj hk M8 Ij (λ_=>SP (nV.xK (aq.xK (by simpa using O7 rU) bN (by simp))) aa) gv Eu sJ ml mN hu vf lx;have hF:(a.eval val).cells.toList.length=cs'.length:=M8.len.symm;have bT:=run_storeCells_at P b k e (a.eval val).cells.toList 0 arr w lx (by omega) (λu hu=>by
   obtain ⟨J,ai,rfl⟩:=List.mem_iff_getElem.1 hu;exact gv J _ (List.getElem?_eq_getElem ai))
  simp only [Nat.add_zero] at bT;have eM:(sizeOf t).run P w=.ok cs'.length w:=by
   unfold hs at ay;cases hi:P.info? t with
   | none=>simp [hi] at ay
   | some i=>simp [hi] at ay; simp [sizeOf,typeInfo,hi,ay]
  have h_:(execOp a.eval o).run P w=.ok .skip (w.setRow b (eK arr.toList k (a.eval val).cells.toList).toArray):=by
   have gR:(a.eval val).cells.size=cs'.length:=by rw [<- Array.length_toList]; exact hF
   simp only [Nat.zero_add] at rM;simp [execOp,aU,rM,Instr.storeAt,Instr.sureAddr,storeVar,eM,gR,bT,eK]
  unfold Oper.wp Oper.upon;simp only [h_];have H_:∃ t,Fs t b:=by
   rcases hj b (.inl ⟨_,di b (dB.Fl fj (ad:=⟨b,0,none⟩) vf)⟩) with aI | ⟨_,_,aI⟩
   ·exact aI
   ·exact aI.elim
  refine c6 _ _ ⟨by rw [aP]; rfl,by rw [aP]; exact hA.refl,I',iQ,by rw [aP]; simpa [Act.put,aR] using h7,⟨⟨rfl,rfl,rfl,by simp,λc _ aa=>setRow_other w b c _ (λe=>aa (e ▸ H_)),λa _ _=>Ec w b _ a,Nat.le_refl _⟩,nU,λc aa=>(HO c aa).elim .inl λh=>.inr (.inl (fy c h)),λc ⟨t,aa⟩=>?_⟩⟩ λt _=>by rw [aP]; rfl
  rcases gx t c aa with aI | ⟨J,ai,aI⟩
  ·rcases hj c (.inl ⟨t,aI⟩) with fT | ⟨_,_,fT⟩
   ·exact .inl fT
   ·exact fT.elim
  ·rcases hj c (.inr ⟨0,by simp,Us J c ai aI⟩) with fT | ⟨_,_,fT⟩
   ·exact .inl fT
   ·exact fT.elim
theorem br.sound (h:cF w I T g Fs) {a:Act}(aR:a.tmps=T) {N:cS}(a_:a.tmps.size=N.size) {o:Oper}{g':aK}(he:br P N g o g') {K:Act->World->Prop}{Q:Exit->Act->World->Prop}
  (c6:∀ bZ w',h2 N a w I Fs g' bZ w'->K bZ w'):o.wp P a w K Q:=he.kn w I T Fs h a aR a_ K Q λbZ w' h _=>c6 bZ w' h
end
end Go.Own
namespace Go.Own
open Go
set_option linter.unusedSectionVars false
variable [cI]
def oi (g g':aK):Prop:=∀ t x,g t=some x->g' t=some x
section
variable {P:Program}{g g':aK}
theorem eJ (h:oi g g') {x:Operand}{y:ab}(al:bo g x=some y):bo g' x=some y:=by
 cases x <;> simp only [bo] at al ⊢
 case tmp t =>
  cases j:g t with
  | none=>rw [j] at al; cases al
  | some z=>rw [j] at al; rw [h t z j]; exact al
 case const v=>exact al
 case global n=>exact al
 case func f=>exact al
theorem zG (h:oi g g'):∀ {xs:List Operand}{ys:List ab},fC g xs=some ys->fC g' xs=some ys
 | [],_,al=>al
 | x::xs,ys,al=>by
  simp only [fC] at al ⊢;cases j:bo g x with
  | none=>simp [j] at al
  | some y =>
   cases r3:fC g xs with
   | none=>simp [j,r3] at al
   | some Dt=>simp only [j,r3] at al; simp only [eJ h j,zG h r3]; exact al
theorem Pg (h:oi g g'):∀ {l:List (Nat × Operand)}{ps:List (Nat × List ab)},q3 g l=some ps->q3 g' l=some ps
 | [],_,al=>al
 | (i,x)::l,ps,al=>by
  simp only [q3] at al ⊢;cases j:bo g x with
  | none=>simp [j] at al
  | some y =>
   cases r3:q3 g l with
   | none=>simp [j,r3] at al
   | some Dt=>simp only [j,r3] at al; simp only [eJ h j,Pg h r3]; exact al
theorem pR.mono (h:oi g g') {d:Nat}{x:Option Operand}{J:Nat}(av:pR g d x J):pR g' d x J:=by
 cases x with
 | none=>exact av
 | some o=>obtain ⟨k,hk⟩:=av; exact ⟨k,eJ h hk⟩
theorem cU.mono (h:oi g g') {op:Op}{ty:TypeId}{x:ab}(au:cU P g op ty x):cU P g' op ty x:=by
 cases au with
 | move j=>exact .move (eJ h j)
 | assign j=>exact .assign (eJ h j)
 | pick aa ah=>exact .pick (eJ h aa) (eJ h ah)
 | Fk j=>exact .Fk (eJ h j)
 | qh j=>exact .qh (eJ h j)
 | A8 j aS cX=>exact .A8 (eJ h j) aS (cX.mono h)
 | Eb j aS=>exact .Eb (eJ h j) aS
 | Ea j aS aq al=>exact .Ea (eJ h j) aS aq al
 | Hw j aS aq hk=>exact .Hw (eJ h j) aS aq hk
 | EY j hi aq ai=>exact .EY (eJ h j) (eJ h hi) aq ai
 | EX j hi aq ai cX=>exact .EX (eJ h j) (eJ h hi) aq ai (cX.mono h)
 | Je j hi aq ai cX=>exact .Je (eJ h j) (eJ h hi) aq ai (cX.mono h)
 | Jd j hi aq ai cX=>exact .Jd (eJ h j) (eJ h hi) aq ai (cX.mono h)
 | Jc j hi aq ai=>exact .Jc (eJ h j) (eJ h hi) aq ai
 | Fa j aq=>exact .Fa (eJ h j) aq
 | Fb j aq hk=>exact .Fb (eJ h j) aq hk
 | Ci j aq al=>exact .Ci (eJ h j) aq (kC h al)
 | xB j aq al aa hm=>exact .xB (eJ h j) aq (kC h al) aa hm
 | EZ j hi aq av=>exact .EZ (eJ h j) (eJ h hi) aq av
 | bin j al hv ah=>exact .bin (eJ h j) (eJ h al) hv ah
 | AM j al hv ah=>exact .AM (eJ h j) (eJ h al) hv ah
 | un j hv ah=>exact .un (eJ h j) hv ah
 | conv j hv ah=>exact .conv (eJ h j) hv ah
 | D3 j au aA gR aq=>exact .D3 (eJ h j) (kC h au) aA gR aq
 | D4 j aq=>exact .D4 (eJ h j) aq
 | @Ht xs ga _ f vs v j hv ah =>
  refine .Ht (vs:=vs) ?_ hv ah;apply List.ext_getElem?;intro k;have:=congrArg (·[k]?) j;simp only [List.getElem?_map] at this ⊢;rw [<- this];cases hk:xs.toList[k]? with
  | none=>rfl
  | some o =>
   rw [hk] at this;cases hv:vs[k]? with
   | none=>rw [hv] at this; cases this
   | some v =>
    rw [hv] at this;simp only [Option.map_some,Option.some.injEq] at this ⊢;rw [this,eJ h this]
 | D9 j al=>exact .D9 (eJ h j) al
 | Ae j aj bG aq h1 af=>exact .Ae (eJ h j) (aj.mono h) (bG.mono h) aq h1 af
 | Ku j aj bG aq aA cX=>exact .Ku (eJ h j) (aj.mono h) (bG.mono h) aq aA (cX.mono h)
 | FR j aj bG aq h1 af cX=>exact .FR (eJ h j) (aj.mono h) (bG.mono h) aq h1 af (cX.mono h)
 | Af j aj bG aq h1 af=>exact .Af (eJ h j) (aj.mono h) (bG.mono h) aq h1 af
 | Ce j aq=>exact .Ce (eJ h j) aq
 | Cd j aq=>exact .Cd (eJ h j) aq
 | Jx j aq=>exact .Jx (eJ h j) aq
 | Jw j aq=>exact .Jw (eJ h j) aq
 | JB j au al c6 aY ah=>exact .JB (eJ h j) (kC h au) (eJ h al) c6 aY ah
 | Ch j al c6 aY ah=>exact .Ch (eJ h j) (eJ h al) c6 aY ah
 | @lits b xs ga _ vs v j hv ah =>
  refine .lits (vs:=vs) ?_ hv ah;clear ah;generalize xs.toList=l at j
  induction l generalizing vs with
  | nil=>exact j
  | cons x l aM =>
   cases vs with
   | nil=>simp at j
   | cons v vs =>
    simp only [List.map_cons,List.cons.injEq] at j ⊢;exact ⟨eJ h j.1,aM j.2⟩
theorem pa.mono (h:oi g g') {op:Op}{ty:TypeId}{x:ab}(au:pa P g op ty x):pa P g' op ty x:=by
 cases au with
 | box j aa=>exact .box (eJ h j) aa
 | alloc aW h1=>exact .alloc aW h1
 | DQ aW aa=>exact .DQ aW aa
 | makeMap a7=>exact .makeMap a7
 | buildSlice aq au j aW aa av aA hzero=>exact .buildSlice aq au (zG h j) aW aa av aA hzero
 | makeSlice aq j al hzero h1 oO av aA oI uw EW=>exact .makeSlice aq (eJ h j) (eJ h al) hzero h1 oO av aA oI uw EW
theorem u0.mono (h:oi g g') {op:Op}{ty:TypeId}{x:ab}(au:u0 P g op ty x):u0 P g' op ty x:=by
 cases au with
 | build aq aW h1 au aa=>exact .build aq aW h1 (Pg h au) aa
 | makeFunc aR av=>exact .makeFunc (zG h aR) (zG h av)
theorem Src.mono (h:oi g g') {y:ab}{z m:Nat}{cells:List ab}(ay:Src g y z m cells):Src g' y z m cells:=by
 cases ay with
 | bm=>exact .bm
 | aQ=>exact .aQ
 | bg a7 hm=>exact .bg (kC h a7) hm
 | sub a7 hm=>exact .sub (kC h a7) hm
theorem b7.mono (h:oi g g') {op:Op}{ty:TypeId}{x:ab}(au:b7 P g op ty x) (e6:∀ z p n m new,x=.bB z p n m new->∀ t bs ch bh cQ,g' t≠some (.bB bs p ch bh cQ)):b7 P g' op ty x:=by
 cases au with
 | eD au=>exact .eD (au.mono h)
 | qj au=>exact .qj (au.mono h)
 | Cx au=>exact .Cx (au.mono h)
 | lE au =>
  cases au with
  | grow ay cX _ j rS aq nh av=>exact .lE (.grow (eJ h ay) (cX.mono h) (e6 _ _ _ _ _ rfl) (eJ h j) (rS.mono h) aq nh av)
  | nil ay j rS aq nh av=>exact .lE (.nil (eJ h ay) (eJ h j) (rS.mono h) aq nh av)
theorem View.mono (h:oi g g') {x y:ab}(hv:View g x y):View g' x y:=by
 induction hv with
 | qh=>exact .qh
 | self h1 af aJ bx cu dL=>exact .self h1 af aJ bx cu dL
 | mp=>exact .mp
 | hr au=>exact .hr (kC h au)
 | agg aj _ aM=>exact .agg aj aM
 | own aj _ aM=>exact .own aj aM
 | obj aj _ aM=>exact .obj aj aM
 | dj aj _ aM=>exact .dj aj aM
 | bg au aA aj _ aM=>exact .bg (kC h au) aA aj aM
 | sub au aA aj _ aM=>exact .sub (kC h au) aA aj aM
 | ptr au al hk aj _ aM=>exact .ptr (kC h au) al hk aj aM
 | rows au aj _ aM=>exact .rows (au.mono (λau=>kC h au) h) aj aM
theorem cV.mono (h:oi g g') {op:Op}{x:ab}(au:cV P g op x):cV P g' op x:=by
 cases au with
 | plain aa j aS aA hb ah=>exact .plain (eJ h aa) (zG h j) aS aA hb ah
 | E9 aa j aS aj hv hb ah=>exact .E9 (eJ h aa) (zG h j) aS aj (λk x y j al=>(hv k x y j al).mono h) hb ah
def ir (g:aK) (ops:Array Oper) (o:Oper) (b:Bool):Prop :=
 match o.guard with
 | none=>b=true
 | some (J,want)=>∃ t,(ops[J]?).bind (·.dst)=some t/\((∃ c,g t=some (.lit (.bool c))/\b=(c == want))\/(g t=some (.bQ [])/\b=false))
theorem ir.mono (h:oi g g') {ops:Array Oper}{o:Oper}{b:Bool}(hw:ir g ops o b):ir g' ops o b:=by
 unfold ir at *;split
 ·rename_i aN; rw [aN] at hw; exact hw
 ·rename_i J want aN;rw [aN] at hw;obtain ⟨t,h1,⟨c,af,aJ⟩ | ⟨af,aJ⟩⟩:=hw
  ·exact ⟨t,h1,.inl ⟨c,h t _ af,aJ⟩⟩
  ·exact ⟨t,h1,.inr ⟨h t _ af,aJ⟩⟩
theorem ir.sound {w:World}{I:a8}{T:Array Value}{Fs:Nat->a8}(bn:cF w I T g Fs) {ops:Array Oper}{o:Oper}{b:Bool}(hw:ir g ops o b):Region.wanted o (yielded ops T)=b:=by
 unfold ir at hw;unfold Region.wanted
 split at hw
 ·rename_i aN; rw [aN]; exact hw.symm
 ·rename_i J want aN;rw [aN];obtain ⟨t,h1,⟨c,af,aJ⟩ | ⟨af,aJ⟩⟩:=hw
  ·obtain ⟨v,hv,aY⟩:=bn.rel _ _ af;have:=(aY.hd (by simp)).h'.1;subst this;subst aJ;simp only [yielded,h1,Option.bind_some,hv];cases c <;> cases want <;> rfl
  ·obtain ⟨v,hv,aY⟩:=bn.rel _ _ af;have:∃ vs,v=.tuple vs:=by
    cases aY.hd (by simp) with
    | bQ=>exact ⟨_,rfl⟩
    | ref j=>simp [ab.isRef] at j
   obtain ⟨vs,rfl⟩:=this;subst aJ;simp only [yielded,h1,Option.bind_some,hv];cases want <;> rfl
def pV (P:Program) (g:aK) (ops:Array Oper) (o:Oper):Option ab->Prop
 | none=>ir g ops o false
 | some x=>(ir g ops o true/\(b7 P g o.op o.type x\/cV P g o.op x))\/(ir g ops o false/\x=.bQ [])\/(ir g ops o true/\∃ y,(b7 P g o.op o.type y\/cV P g o.op y)/\cE y/\View (λ_=>none) y x)
theorem pV.mono (h:oi g g') {ops:Array Oper}{o:Oper}{r:Option ab}(ay:pV P g ops o r) (e6:∀ z p n m new,r=some (.bB z p n m new)->∀ t bs ch bh cQ,g' t≠some (.bB bs p ch bh cQ)):pV P g' ops o r:=by
 cases r with
 | none=>exact ir.mono h ay
 | some x =>
  rcases ay with ay | ⟨ay,j⟩ | ⟨ay,y,au,aA,hv⟩
  ·refine .inl ⟨ay.1.mono h,?_⟩;rcases ay.2 with au | au
   ·exact .inl (au.mono h λz p n m new e=>e6 z p n m new (by rw [e]))
   ·exact .inr (au.mono h)
  ·exact .inr (.inl ⟨ay.mono h,j⟩)
  ·refine .inr (.inr ⟨ay.mono h,y,?_,aA,hv⟩);rcases au with au | au
   ·exact .inl (au.mono h λz p n m new e=>by subst e; cases aA)
   ·exact .inr (au.mono h)
def leaf:ab->Bool
 | .own .. | .obj .. | .agg .. | .bQ .. | .bB .. | .mp .. | .eR ..=>false
 | _=>true
def del (g:aK) (d:Nat):aK:=λt=>if t=d then none else g t
theorem XC {x y:ab}(h:leaf x=true):∀ {q:List Nat},x.at q=some y->y=x
 | [],al=>by simpa [ab.at] using al.symm
 | k::q,al=>by
  have:x.kids=[]:=by cases x <;> first | rfl | simp [leaf] at h
  simp [ab.at,this] at al
theorem yT {d:Nat}{x:ab}(aP:g d=some x) (aj:leaf x=true) {p:Place}{y:ab}(au:bu g p=some y) (al:leaf y=false):bu (del g d) p=some y:=by
 have ah:p.root≠d:=by
  intro e;unfold bu at au;rw [e,aP] at au;rw [XC aj au,aj] at al;cases al
 simp only [bu,del,if_neg ah] at au ⊢;exact au
theorem gZ.del {d:Nat}{x:ab}(aP:g d=some x) (aj:leaf x=true) {r:ab}(h:gZ g r):gZ (del g d) r:=by
 have root:∀ {t:Nat}{y:ab},g t=some y->leaf y=false->Own.del g d t=some y:=by
  intro t y aq al;have:t≠d:=by
   rintro rfl;rw [aP] at aq;cases aq;rw [aj] at al; cases al
  simp only [Own.del,if_neg this,aq]
 cases r <;> simp only [gZ] at h ⊢
 case ptr p k =>
  obtain ⟨y,al,z,n,cs,ep,hk⟩:=h;exact ⟨y,yT aP aj al (by rcases ep with rfl | rfl <;> rfl),z,n,cs,ep,hk⟩
 case bg z p n =>
  rcases h with ⟨N,cs,al,aA⟩ | ⟨h1,q,gU,m,new,af,aJ⟩
  ·exact .inl ⟨N,cs,yT aP aj al rfl,aA⟩
  ·exact .inr ⟨h1,q,gU,m,new,root af rfl,aJ⟩
 case sub z p lo n =>
  obtain ⟨N,cs,al,aA⟩:=h;exact ⟨N,cs,yT aP aj al rfl,aA⟩
 case hr p=>obtain ⟨q,h⟩:=h; exact ⟨q,yT aP aj h rfl⟩
 case bB z p n m new =>
  rcases h with ⟨cs,al⟩ | ⟨h1,q,gU,m,new,cs,af,aJ,bx⟩
  ·exact .inl ⟨cs,yT aP aj al rfl⟩
  ·exact .inr ⟨h1,q,gU,m,new,cs,root af rfl,aJ,yT aP aj bx rfl⟩
theorem R.XB {w:World}{I:a8}{ρ:ab->Value->Prop}{x:ab}{v:Value}{F:a8}(h:R w I ρ x v F) (aj:leaf x=true):∀ c,¬ F c:=by
 cases h with
 | own | obj | agg | bQ | mp | eR=>simp [leaf] at aj
 | lit _ aH | aQ aH | dead aH | l3 aH | ref _ _ aH | hz aH | bm aH | cO aH | dj aH | imp aH=>exact aH
theorem cF.drop {w:World}{I:a8}{T:Array Value}{Fs:Nat->a8}(h:cF w I T g Fs) {d:Nat}{x:ab}(aP:g d=some x) (aj:leaf x=true):cF w I T (del g d) Fs:=by
 refine ⟨λt y al=>?_,λt aq c aa=>?_,h.eu,h.bm,h.lt,λt t' z p n m new bs ch bh cQ h1 af=>?_,h.hV⟩
 ·have nv:g t=some y:=by
   unfold del at al
   split at al
   ·cases al
   ·exact al
  obtain ⟨v,hv,aY⟩:=h.rel t y nv;exact ⟨v,hv,aY.frame (λ_ _=>rfl) (λ_ h=>h) (λ_ _ ah=>⟨ah.1,ah.2.del aP aj⟩) (λ_ _ _ _ _ _ _=>rfl) λ_ _=>rfl⟩
 ·unfold del at aq
  split at aq
  ·rename_i e;subst e;obtain ⟨v,hv,aY⟩:=h.rel t x aP;exact (aY.hd (by rintro z p n m new rfl; simp [leaf] at aj)).XB aj c aa
  ·exact h.kM t aq c aa
 ·have key:∀ {t:Nat}{y:ab},del g d t=some y->g t=some y:=by
   intro t y al;unfold del at al
   split at al
   ·cases al
   ·exact al
  exact h.q8 _ _ _ _ _ _ _ _ _ _ _ (key h1) (key af)
end
end Go.Own
namespace Go.Own
open Go
set_option linter.unusedSectionVars false
variable [cI]
def x1 (g:aK) (d:Nat):Option ab->aK
 | some x=>cK g d x
 | none=>g
section
variable {P:Program}{w:World}{I:a8}{T:Array Value}{g:aK}{Fs:Nat->a8}{N:cS}{ops:Array Oper}
theorem kX.refl (w:World) (I U:a8):kX w I U w I U:=⟨Fr.refl _ _,λ_ h=>h,λ_ h=>.inl h,λ_ h=>.inl h⟩
theorem kX.trans {w gH fp:World}{I Ay Dz U yP Lp:a8}(h:kX w I U gH Ay yP) (h1:kX gH Ay yP fp Dz Lp):kX w I U fp Dz Lp:=by
 have jH:∀ c,c<w.heap.size->yP c->U c:=λc aa hu=>by
  rcases h.own c hu with aI | aI
  ·exact aI
  ·omega
 refine ⟨h.dF.trans h1.dF jH,λc aa=>h1.more c (h.more c aa),λc aa=>?_,λc aa=>?_⟩
 ·rcases h1.new c aa with aI | aI | aI
  ·exact h.new c aI
  ·rcases h.own c aI with fT | fT
   ·exact .inr (.inl fT)
   ·exact .inr (.inr fT)
  ·exact .inr (.inr (Nat.le_trans h.dF.size aI))
 ·rcases h1.own c aa with aI | aI
  ·exact h.own c aI
  ·exact .inr (Nat.le_trans h.dF.size aI)
theorem h2.trans {N:cS}{a aB a2:Act}{gH fp:World}{Ay:a8}{fF:Nat->a8}{g2:aK}(h1:aB.defers=a.defers) (af:hA N a.tmps aB.tmps) (bT:kX w I (λc=>∃ t,Fs t c) gH Ay (λc=>∃ t,fF t c)) (h:h2 N aB gH Ay fF g2 a2 fp):h2 N a w I Fs g2 a2 fp:=by
 obtain ⟨cr,b9,Dz,iQ,bn,oK⟩:=h;exact ⟨cr.trans h1,af.trans b9,Dz,iQ,bn,bT.trans oK⟩
theorem cF.YB (h:cF w I T g Fs) {d:Nat}(aP:g d=none) (v:Value):cF w I (T.setIfInBounds d v) g Fs:=by
 have dk:∀ t,g t≠none->(T.setIfInBounds d v)[t]?=T[t]?:=by
  intro t aq;rw [Array.getElem?_setIfInBounds_ne];rintro rfl; exact aq aP
 refine ⟨λt x j=>?_,h.kM,h.eu,h.bm,h.lt,h.q8,h.hV⟩;obtain ⟨u,hu,aY⟩:=h.rel t x j;exact ⟨u,by rw [dk t (by rw [j]; simp)]; exact hu,h.wW dk (λ_ _ _=>rfl) (λ_ _=>rfl) (λ_ h=>h) (λ_ _ h=>h) aY λ_ _=>rfl⟩
structure Gw (dS:Nat->Bool) (g g2:aK):Prop where
 jH:∀ t x,g2 t=some x->dS t=false->g t=some x/\ej g2 x
 oP:∀ t x,g2 t=some x->dS t=true->∃ y,g t=some y/\cE y/\gY y x
 fk:∀ t z q n m new,g2 t≠some (.bB z q n m new)
theorem cF.vc (h:cF w I T g Fs) {dS:Nat->Bool}{g2:aK}(aW:Gw dS g g2):∃ I' b2,cF w I' T g2 b2/\kX w I (λc=>∃ t,Fs t c) w I' (λc=>∃ t,b2 t c):=by
 have pk:=h.mw;have Cs:∀ t x,g2 t=some x->∀ z p n m new,x≠.bB z p n m new:=by
  rintro t x j z p n m new rfl;exact aW.fk _ _ _ _ _ _ j
 -- of each slot what it owns from now on
 have:∀ t,∃ cY:a8,(∀ c,cY c->Fs t c/\g2 t≠none)/\∀ x,g2 t=some x->(dS t=false->∀ c,Fs t c->cY c)/\∃ v,T[t]?=some v/\R w (λc=>I c\/(Fs t c/\¬ cY c)) (dR w T g2) x v cY:=by
  intro t;cases j:g2 t with
  | none=>exact ⟨ct,λ_ h=>h.elim,λx h=>by cases h⟩
  | some x =>
   cases aq:dS t with
   | false =>
    obtain ⟨h1,af⟩:=aW.jH t x j aq;obtain ⟨v,hv,aY⟩:=pk.rel t x h1;refine ⟨Fs t,λc aa=>⟨aa,by simp⟩,λy al=>?_⟩;cases al;exact ⟨λ_ _ h=>h,v,hv,((aY.hd (Cs t x j)).b' af).nD λc aa=>.inl aa⟩
   | true =>
    obtain ⟨y,h1,af,aJ⟩:=aW.oP t x j aq;obtain ⟨v,hv,aY⟩:=pk.rel t y h1;have jl:=aY.hd (by rintro z p n m new rfl; cases af);obtain ⟨cY,ay,UF⟩:=R.dS aJ jl af (λc aa=>pk.bm t c aa) pk.lt pk.hV;refine ⟨cY,λc aa=>⟨ay c aa,by simp⟩,λz aW=>?_⟩;cases aW;exact ⟨λh=>absurd h (by simp),v,hv,UF.bl (aJ.bl af)⟩
 obtain ⟨b2,jk⟩:=Classical.axiomOfChoice this;refine ⟨λc=>I c\/∃ t,Fs t c/\g2 t≠none/\¬ b2 t c,b2,⟨λt x j=>?_,λt aq c aa=>((jk t).1 c aa).2 aq,λt t' c aa e5=>h.eu t t' c ((jk t).1 c aa).1 ((jk t').1 c e5).1,λt c aa hi=>?_,λc aa=>?_,λt t' z p n m new bs ch bh cQ h1 _=>absurd h1 (aW.fk _ _ _ _ _ _),cI.keep h.hV (λ_ _=>rfl) λ_ h=>.inl h⟩,Fr.refl _ _,λ_ h=>.inl h,λc aa=>?_,λc ⟨t,aa⟩=>.inl ⟨t,((jk t).1 c aa).1⟩⟩
 ·obtain ⟨_,v,hv,aY⟩:=(jk t).2 x j;exact ⟨v,hv,.tree (aY.nD λc aa=>aa.elim .inl λaa=>.inr ⟨t,aa.1,by rw [j]; simp,aa.2⟩)⟩
 ·rcases hi with aI | ⟨s,h1,_,af⟩
  ·exact h.bm t c ((jk t).1 c aa).1 aI
  ·have:=h.eu t s c ((jk t).1 c aa).1 h1;subst this;exact af aa
 ·rcases aa with aI | ⟨s,aI,_⟩
  ·exact h.lt c aI
  ·exact h.jT s c aI
 ·rcases aa with aI | ⟨s,aI,_⟩
  ·exact .inl aI
  ·exact .inr (.inl ⟨s,aI⟩)
theorem pV.sound (h:cF w I T g Fs) {a:Act}(aR:a.tmps=T) (a_:a.tmps.size=N.size) {o:Oper}{r:Option ab}{d:Nat}(ay:pV P g ops o r) (aP:o.dst=some d) (aN:g d=none) (jE:N.ok d=true) {K:Act->World->Prop}{Q:Exit->Act->World->Prop}
  (c6:∀ bZ w',h2 N a w I Fs (x1 g d r) bZ w'->K bZ w') :
  if Region.wanted o (yielded ops a.tmps) then o.wp P a w K Q\/(o.asks P a w/\LetsOut Q) else K (a.put o.dst undef) w:=by
 subst aR;cases r with
 | none =>
  rw [ir.sound h ay];simp only [Bool.false_eq_true,if_false];refine c6 _ _ ⟨by rw [aP]; rfl,by rw [aP]; exact hA.put jE _ _,I,Fs,by rw [aP]; exact h.YB aN _,kX.refl _ _ _⟩
 | some x =>
  have fin:∀ x v w',uY w I a.tmps g Fs x v w'->(∀ bZ w',h2 N a w I Fs (cK g d x) bZ w'->K bZ w')->K (a.put o.dst v) w':=by
   rintro x v w' ⟨F,I',bn,aY,h1,af,aJ,bx,cu,dL⟩ c6;refine c6 _ _ ⟨by rw [aP]; rfl,by rw [aP]; exact hA.put jE _ _,I',_,by rw [aP]; exact bn.uI aN (by rw [a_]; exact cS.lt jE) aY (λt c aa aS=>h1 t c aa aS) (λc aa=>(af c aa).2) dL,⟨cu,aJ,λc aa=>?_,λc aa=>?_⟩⟩
   ·rcases bx c aa with aI | aI
    ·exact .inl aI
    ·exact .inr (.inr aI)
   ·rcases wi aa with aI | aI
    ·exact .inl aI
    ·exact .inr (af c aI).1
  have oP:∀ y v w',cE y->View (λ_=>none) y x->uY w I a.tmps g Fs y v w'->uY w I a.tmps g Fs x v w':=by
   rintro y v w' aA hv ⟨F,I',bn,aY,h1,af,aJ,bx,cu,dL⟩;have dB:=aY.hd (by rintro z p n m new rfl; cases aA);refine ⟨ct,λc=>I' c\/F c,⟨λt z aW=>?_,bn.kM,bn.eu,λt c aa hi=>?_,λc aa=>?_,bn.q8,cI.keep bn.hV (λ_ _=>rfl) λ_ h=>.inl h⟩,.tree (dB.oP aA hv (λc aa=>(af c aa).2) bn.lt bn.hV),λ_ _ h=>h.elim,λ_ h=>h.elim,λc aa=>.inl (aJ c aa),λc aa=>?_,cu,?_⟩
   ·obtain ⟨u,hu,mI⟩:=bn.rel t z aW;exact ⟨u,hu,mI.nD λc aa=>.inl aa⟩
   ·rcases hi with h | h
    ·exact bn.bm t c aa h
    ·exact h1 t c h aa
   ·rcases aa with h | h
    ·exact bn.lt c h
    ·exact dB.lt c h
   ·rcases aa with h | h
    ·exact bx c h
    ·exact .inr (af c h).1
   ·rintro z p n m new rfl;cases hv with
    | self h=>cases h
  rcases ay with ay | ⟨ay,rfl⟩ | ⟨ay,y,au,aA,hv⟩
  rotate_left
  rotate_left
  ·rw [ir.sound h ay];simp only [if_true];refine .inl ?_;have MN:∀ v w',uY w I a.tmps g Fs y v w'->K (a.put o.dst v) w':=λv w' c_=>fin x v w' (oP y v w' aA hv c_) c6;rcases au with au | au
   ·obtain ⟨v,w',h_,c_⟩:=au.sound h rfl;unfold Oper.wp Oper.upon;simp only [h_];exact MN v w' c_
   ·exact au.sound h rfl MN
  rotate_left
  ·rw [ir.sound h ay];simp only [Bool.false_eq_true,if_false];refine c6 _ _ ⟨by rw [aP]; rfl,by rw [aP]; exact hA.put jE _ _,I,_,by rw [aP]; exact h.uI aN (by rw [a_]; exact cS.lt jE) (.tree (.bQ (Fs:=λ_=>ct) (F:=ct) rfl (λk x u j _=>by simp at j) (λ_ _ _ _ _ h=>h.elim) (λc=>⟨λh=>h.elim,λ⟨_,_,h⟩=>h⟩))) (λ_ _ h=>h.elim) (λ_ h=>h.elim) (λ_ _ _ _ _ e=>by cases e),⟨Fr.refl _ _,λ_ h=>h,λ_ h=>.inl h,λc aa=>?_⟩⟩;rcases wi aa with aI | aI
   ·exact .inl aI
   ·exact aI.elim
  rw [ir.sound h ay.1];simp only [if_true];refine .inl ?_;have fin:∀ v w',uY w I a.tmps g Fs x v w'->K (a.put o.dst v) w':=by
   rintro v w' ⟨F,I',bn,aY,h1,af,aJ,bx,cu,dL⟩;refine c6 _ _ ⟨by rw [aP]; rfl,by rw [aP]; exact hA.put jE _ _,I',_,by rw [aP]; exact bn.uI aN (by rw [a_]; exact cS.lt jE) aY (λt c aa aS=>h1 t c aa aS) (λc aa=>(af c aa).2) dL,⟨cu,aJ,λc aa=>?_,λc aa=>?_⟩⟩
   ·rcases bx c aa with aI | aI
    ·exact .inl aI
    ·exact .inr (.inr aI)
   ·rcases wi aa with aI | aI
    ·exact .inl aI
    ·exact .inr (af c aI).1
  rcases ay.2 with au | au
  ·obtain ⟨v,w',h_,c_⟩:=au.sound h rfl;unfold Oper.wp Oper.upon;simp only [h_];exact fin v w' c_
  ·exact au.sound h rfl fin
inductive om (P:Program) (N:cS) (ops:Array Oper):List Nat->aK->aK->Prop
 | nil {g:aK}:om P N ops [] g g
 | step {i:Nat}{rest:List Nat}{g g':aK}{o:Oper}{d:Nat}{r:Option ab}(aU:ops[i]?=some o) (aP:o.dst=some d) (aN:g d=none) (jE:N.ok d=true) (ay:pV P g ops o r)
   (ah:om P N ops rest (x1 g d r) g'):om P N ops (i::rest) g g'
 | kn {i:Nat}{rest:List Nat}{g g1 g':aK}{o:Oper}(aU:ops[i]?=some o) (hw:ir g ops o true) (he:br P N g o g1) (ah:om P N ops rest g1 g'):om P N ops (i::rest) g g'
 | drop {is:List Nat}{g g':aK}{d:Nat}{x:ab}(aP:g d=some x) (aj:leaf x=true) (ah:om P N ops is (del g d) g'):om P N ops is g g'
 | forget {is:List Nat}{g g1 g':aK}(hk:hx g g1) (ah:om P N ops is g1 g'):om P N ops is g g'
 | vc {is:List Nat}{g g1 g':aK}{dS:Nat->Bool}(hk:Gw dS g g1) (ah:om P N ops is g1 g'):om P N ops is g g'
theorem om.sound {is:List Nat}{g':aK}(ah:om P N ops is g g'):∀ {a:Act}{w:World}{I:a8}{Fs:Nat->a8}{Q:Exit->Act->World->Prop},cF w I a.tmps g Fs->a.tmps.size=N.size ->
  (∀ bZ w',h2 N a w I Fs g' bZ w'->Q .normal bZ w')->wpOps P ops Q is a w:=by
 induction ah with
 | nil=>exact λbn a_ dA=>dA _ _ ⟨rfl,hA.refl,_,_,bn,kX.refl _ _ _⟩
 | @step i rest g g' o d r aU aP aN jE ay _ aM =>
  intro a w I Fs Q bn a_ dA;simp only [wpOps,aU];refine ay.sound bn rfl a_ aP aN jE λbZ w' aA=>?_;obtain ⟨cr,b9,I',b2,dZ,bT⟩:=aA;exact aM dZ (b9.1.trans a_) λa2 fp af=>dA _ _ (h2.trans cr b9 bT af)
 | @kn i rest g g1 g' o aU hw he _ aM =>
  intro a w I Fs Q bn a_ dA;simp only [wpOps,aU,hw.sound bn,if_true];refine .inl (he.sound bn rfl a_ λbZ w' aA=>?_);obtain ⟨cr,b9,I',b2,dZ,bT⟩:=aA;exact aM dZ (b9.1.trans a_) λa2 fp af=>dA _ _ (h2.trans cr b9 bT af)
 | @drop is g g' d x aP aj _ aM=>exact λbn a_ dA=>aM (bn.drop aP aj) a_ dA
 | @vc is g g1 g' dS hk _ aM =>
  intro a w I Fs Q bn a_ dA;obtain ⟨I',b2,dZ,bT⟩:=bn.vc hk;exact aM dZ a_ λa2 fp af=>dA _ _ (h2.trans rfl hA.refl bT af)
 | @forget is g g1 g' hk _ aM =>
  intro a w I Fs Q bn a_ dA;have dZ:=bn.mw.keep hk;refine aM dZ a_ λa2 fp af=>dA _ _ (h2.trans rfl hA.refl ⟨Fr.refl _ _,λ_ h=>h,λ_ h=>.inl h,λc aa=>?_⟩ af);obtain ⟨t,_,aa⟩:=aa;exact .inl ⟨t,aa⟩
end
end Go.Own
namespace Go.Own
open Go
set_option linter.unusedSectionVars false
variable [cI]
def sc (rs:List Nat):Place->Prop:=λp=>p.root∈rs
def o7 (P:Program) (N:cS) (rs:Place->Prop) (g:aK) (o:Oper) (g':aK):Prop :=
 ∀ (w:World) (I:a8) (T:Array Value) (Fs:Nat->a8),cF w I T g Fs->∀ (a:Act),a.tmps=T->a.tmps.size=N.size->∀ (K:Act->World->Prop) (Q:Exit->Act->World->Prop),
  (∀ (bZ:Act) (w':World),h2 N a w I Fs g' bZ w'->(∀ t,o.dst≠some t->bZ.tmps[t]?=a.tmps[t]?)->(∀ r path,rs ⟨r,path⟩->∀ y,bu g ⟨r,path⟩=some y->(∀ z q n m new,y≠.bB z q n m new)->dU w' bZ.tmps ⟨r,path⟩=dU w T ⟨r,path⟩)->K bZ w')->o.wp P a w K Q
theorem iE.v {P:Program}{N:cS}{g g':aK}{o:Oper}(h:iE P N g o g'):o7 P N (sc []) g o g' :=
 λw I T Fs bn a aR a_ K Q c6=>h w I T Fs bn a aR a_ K Q λbZ w' h1 af=>c6 bZ w' h1 af λ_ _ h=>by simp [sc] at h
inductive lM:ab->Prop
 | lit {v:Value}:lM (.lit v)
 | aQ:lM .aQ
 | bm {z n:Nat}{cs:List ab}(h:∀ x∈cs,cE x):lM (.bm z n cs)
 | agg {cs:List ab}(h:∀ x∈cs,lM x):lM (.agg cs)
theorem lM.bl {x:ab}(h:lM x):cE x:=by
 induction h with
 | lit=>exact .lit
 | aQ=>exact .aQ
 | bm h=>exact .bm h
 | agg _ aM=>exact .agg aM
theorem lM.kM {w:World}{I:a8}{ρ:ab->Value->Prop}{x:ab}(h:lM x):∀ {v:Value}{F:a8},R w I ρ x v F->∀ c,¬ F c:=by
 induction h with
 | lit =>
  intro v F aY;cases aY with
  | lit _ aH=>exact aH
  | ref j=>simp [ab.isRef] at j
 | aQ =>
  intro v F aY;cases aY with
  | aQ aH=>exact aH
  | ref j=>simp [ab.isRef] at j
 | bm =>
  intro v F aY;cases aY with
  | ref j=>simp [ab.isRef] at j
  | hz aH=>exact aH
  | bm aH=>exact aH
 | @agg cs _ aM =>
  intro v F aY c aa;cases aY with
  | ref j=>simp [ab.isRef] at j
  | @agg _ vs bW _ aj h1 ah aP lP =>
   obtain ⟨k,hk,af⟩:=(lP c).1 aa;have hu:vs[k]?=some (vs[k]'(by omega)):=Array.getElem?_eq_getElem (by omega);exact aM _ (List.getElem_mem hk) (ah k _ _ (List.getElem?_eq_getElem hk) hu) c af
structure Gs (g:aK):Prop where
 b':∀ t x,g t=some x->ej g x
 fk:∀ t z q n m new,g t≠some (.bB z q n m new)
def AH (rs:Place->Prop) (g g1:aK) (o:Oper) (x:ab):Prop:=(∃ r path z n N cs,x=.bg z ⟨r,path⟩ n/\rs ⟨r,path⟩/\bu g ⟨r,path⟩=some (.own z N cs)/\bu g1 ⟨r,path⟩=some (.own z N cs)/\n<=N)\/(∃ v,x=.lit v)\/(∃ s p k,x=.ptr p k/\g s=some x/\g1 s=some x/\o.dst≠some s)\/(∃ r k cs,x=.ptr ⟨r,[]⟩ k/\g1 r=some (.obj cs)/\k<cs.length/\o.dst≠some r/\∃ cs',g r=some (.obj cs')/\k<cs'.length)\/(∃ z n cs,x=.bm z n cs/\cE x)\/(∃ cs,x=.agg cs/\lM x/\Gs g)
section
variable {P:Program}{N:cS}{g g1:aK}{o:Oper}
theorem P4 {T:Array Value}{t:Nat}{v:Value}(h:T[t]?=some v):T.setIfInBounds t v=T:=by
 apply Array.ext (by simp);intro i h1 af;rw [Array.getElem_setIfInBounds];split
 ·rename_i e;subst e;have:=(Array.getElem?_eq_some_iff.1 h);exact this.2.symm
 ·rfl
theorem cF.Tq {w:World}{I:a8}{T:Array Value}{Fs:Nat->a8}{t:Nat}{x:ab}(h:cF w I T (cK g t x) Fs) (aN:g t=none) (aa:Gs g) (ko:∀ c,¬ Fs t c):cF w I T g Fs:=by
 have gx:∀ s y,g s=some y->cK g t x s=some y:=λs y ay=>by
  unfold cK;rw [if_neg (λe=>by rw [e,aN] at ay; cases ay)]; exact ay
 have af:=h.mw.keep (g2:=g) ⟨gx,aa.b',aa.fk⟩;have e:(λs c=>g s≠none/\Fs s c)=Fs:=by
  funext s c;apply propext;refine ⟨λh=>h.2,λaS=>⟨λaA=>?_,aS⟩⟩;by_cases ay:s=t
  ·subst ay; exact ko c aS
  ·exact h.kM s (by unfold cK; rw [if_neg ay]; exact aA) c aS
 rw [e] at af;exact af
theorem o7.extra {rs:Place->Prop}(h:o7 P N rs g o g1) {t:Nat}{x:ab}(lU:∀ p,rs p->g p.root≠none) (aN:g t=none) (VH:g1 t=none) (aq:o.dst≠some t) (j:AH rs g g1 o x):o7 P N rs (cK g t x) o (cK g1 t x):=by
 intro w I T Fs bn a aR a_ K Q c6;have IS:cK g t x t=some x:=by simp [cK]
 have ml:∀ z q n m new,x≠.bB z q n m new:=by
  rcases j with ⟨r,path,z,n,N,cs,rfl,_⟩ | ⟨v,rfl⟩ | ⟨s,p,k,rfl,_⟩ | ⟨r,k,cs,rfl,_⟩ | ⟨z,n,cs,rfl,_⟩ | ⟨cs,rfl,_⟩ <;> simp
 have sC:cF w I T g Fs:=by
  have AN:leaf x=true->cF w I T g Fs:=λvm=>by
   have:=bn.drop IS vm;have e:del (cK g t x) t=g:=by
    funext s;unfold del cK;by_cases ay:s=t
    ·subst ay; simp [aN]
    ·simp [ay]
   rwa [e] at this
  rcases j with ⟨r,path,z,n,N,cs,rfl,_⟩ | ⟨v,rfl⟩ | ⟨s,p,k,rfl,_⟩ | ⟨r,k,cs,rfl,_⟩ | ⟨z,n,cs,rfl,_⟩ | ⟨cs,rfl,zm,hF⟩
  ·exact AN rfl
  ·exact AN rfl
  ·exact AN rfl
  ·exact AN rfl
  ·exact AN rfl
  ·obtain ⟨v,_,po⟩:=bn.rel t _ IS;exact bn.Tq aN hF (zm.kM (po.hd (by simp)))
 obtain ⟨v,hv,po⟩:=bn.rel t x IS;refine h w I T Fs sC a aR a_ K Q λbZ w' aA sM N9=>c6 bZ w' ?_ sM λr path ah y al ml=>?_
 rotate_left
 ·by_cases NX:r=t
  ·subst NX;exact absurd aN (lU _ ah)
  ·exact N9 r path ah y (by simpa [bu,cK,NX] using al) ml
 obtain ⟨cr,b9,I',b2,dZ,bT⟩:=aA;have iY:bZ.tmps[t]?=some v:=by rw [sM t aq,aR]; exact hv
 have jl:jx w' I' (dR w' bZ.tmps g1) x v ct:=by
  rcases j with ⟨r,path,z,n,uZ,cs,rfl,ah,zo,h9,V3⟩ | ⟨u,rfl⟩ | ⟨s,p,k,rfl,ay,xg,Wo⟩ | ⟨r,k,cs,rfl,h9,hk,rR,_⟩ | ⟨z,n,cs,rfl,mK⟩ | ⟨cs,rfl,zm,hF⟩
  ·obtain ⟨⟨aB,iR,cap,hg,rfl,kD⟩,_⟩:=(po.hd (by simp)).mO;exact .tree (.ref rfl ⟨⟨aB,iR,cap,by rw [N9 r path ah _ zo (by simp)]; exact hg,rfl,kD⟩,.inl ⟨uZ,cs,h9,V3⟩⟩ λ_ h=>h)
  ·obtain ⟨rfl,aa⟩:=(po.hd (by simp)).h';exact .tree (.lit aa λ_ h=>h)
  ·obtain ⟨⟨Di,ad,aB,a2,rfl⟩,_⟩:=(po.hd (by simp)).nx;have bT:s≠t:=by rintro rfl; rw [aN] at ay; cases ay
   obtain ⟨u,hu,mI⟩:=sC.rel s _ ay;obtain ⟨⟨Qv,aat,hg,h5,rfl⟩,_⟩:=(mI.hd (by simp)).nx;rw [aB] at hg;cases hg;rw [a2] at h5;cases h5;obtain ⟨wh,hP,HW⟩:=dZ.rel s _ xg;have:bZ.tmps[s]?=T[s]?:=by rw [sM s Wo,aR]
   rw [this,hu] at hP;cases hP;exact .tree (.ref rfl (HW.hd (by simp)).nx λ_ h=>h)
  ·obtain ⟨⟨Di,ad,aB,a2,rfl⟩,_⟩:=(po.hd (by simp)).nx;have dk:bZ.tmps[r]?=T[r]?:=by rw [sM r rR,aR]
   have rU:∀ (w:World) (T:Array Value),dU w T ⟨r,[]⟩=T[r]?:=λw T=>by
    unfold dU; simp only; cases T[r]? <;> rfl
   exact .tree (.ref rfl ⟨⟨Di,ad,by rw [rU,dk,<- rU w T]; exact aB,a2,rfl⟩,⟨.obj cs,by simp [bu,h9,ab.at],0,0,cs,.inr rfl,hk⟩⟩ λ_ h=>h)
  ·have re:∀ c,I c->w'.heap[c]?=w.heap[c]?:=λc aa=>bT.dF.block c (bn.lt c aa) λ⟨t',aI⟩=>sC.bm t' c aI aa;have HT:=(po.hd (by simp)).bl mK (ρ':=dR w' bZ.tmps g1);have ko:∀ c,¬ Fs t c:=by
    cases po.hd (by simp) with
    | ref j=>simp [ab.isRef] at j
    | hz aH=>exact aH
    | bm aH=>exact aH
   exact .tree ((HT.frame re bT.more (λ_ _ h=>h) λc aa=>absurd aa (ko c)).empty ko)
  ·have re:∀ c,I c->w'.heap[c]?=w.heap[c]?:=λc aa=>bT.dF.block c (bn.lt c aa) λ⟨t',aI⟩=>sC.bm t' c aI aa;have ko:=zm.kM (po.hd (by simp));have HT:=(po.hd (by simp)).bl zm.bl (ρ':=dR w' bZ.tmps g1);exact .tree ((HT.frame re bT.more (λ_ _ h=>h) λc aa=>absurd aa (ko c)).empty ko)
 have nr:=dZ.uI (d:=t) (x:=x) (v:=v) (F:=ct) VH (Array.getElem?_eq_some_iff.1 iY).1 jl (λ_ _ h=>h.elim) (λ_ h=>h.elim) (λz p n m new e=>absurd e (ml _ _ _ _ _));rw [P4 iY] at nr;refine ⟨cr,b9,I',_,nr,⟨bT.dF,bT.more,bT.new,λc aa=>?_⟩⟩;rcases wi aa with aI | aI
 ·exact bT.own c aI
 ·exact aI.elim
theorem iE.frame {g0 Hz:aK}{r:Nat}{x:ab}(h:iE P N g0 o Hz) (ah:g r=some x) (j:cE x) (hk:hx g g0) (aO:g0 r=none) (h1:Hz r=none) (aP:o.dst≠some r):o7 P N (sc [r]) g o (cK Hz r x):=by
 intro w I T Fs bn a aR a_ K Q c6;have sC:=bn.mw.keep hk;refine h w I T _ sC a aR a_ K Q λbZ w' aA sM=>?_;obtain ⟨cr,b9,I',b2,dZ,bT⟩:=aA;obtain ⟨u,hu,aY⟩:=bn.rel r x ah;have hP:bZ.tmps[r]?=some u:=by rw [sM r aP,aR]; exact hu
 have ml:∀ z q n m new,x≠.bB z q n m new:=by rintro z q n m new rfl; cases j
 have off:∀ c,Fs r c->¬ ∃ t,(g0 t≠none/\Fs t c):=by
  rintro c aa ⟨t,kN,af⟩;have:=bn.eu t r c af aa;subst this;exact kN aO
 have same:∀ c,Fs r c->w'.heap[c]?=w.heap[c]?:=λc aa=>bT.dF.block c (bn.jT r c aa) (off c aa);have re:∀ c,I c->w'.heap[c]?=w.heap[c]?:=λc aa=>bT.dF.block c (bn.lt c aa) λ⟨t,_,aI⟩=>bn.bm t c aI aa;have nr:=dZ.uI (d:=r) (x:=x) (v:=u) (F:=Fs r) h1 (Array.getElem?_eq_some_iff.1 hP).1 (.tree (((aY.hd ml).bl j).frame re bT.more (λ_ _ h=>h) same)) (λt c aa aS=>by
   rcases bT.own c ⟨t,aS⟩ with aI | aI
   ·exact off c aa aI
   ·have:=bn.jT r c aa; omega) (λc aa hi=>by
   rcases bT.new c hi with aI | aI | aI
   ·exact bn.bm r c aa aI
   ·exact off c aa aI
   ·have:=bn.jT r c aa; omega) (λz p n m new e=>absurd e (ml _ _ _ _ _))
 rw [P4 hP] at nr;refine c6 bZ w' ⟨cr,b9,I',_,nr,⟨bT.dF.mono λb _ ⟨t,_,aI⟩=>⟨t,aI⟩,bT.more,λc aa=>?_,λc aa=>?_⟩⟩ sM λck path dM y al hyp=>?_
 ·rcases bT.new c aa with aI | ⟨t,_,aI⟩ | aI
  ·exact .inl aI
  ·exact .inr (.inl ⟨t,aI⟩)
  ·exact .inr (.inr aI)
 ·rcases wi aa with aI | aI
  ·rcases bT.own c aI with ⟨t,_,fT⟩ | fT
   ·exact .inl ⟨t,fT⟩
   ·exact .inr fT
  ·exact .inl ⟨r,aI⟩
 ·have dM:ck∈[r]:=dM;simp only [List.mem_singleton] at dM;subst dM;have gg:hx g (λt=>if t=ck then some x else none):=by
   refine ⟨λt y hC=>?_,λt y hC=>?_,λt z q n m new hC=>?_⟩
   all_goals
    by_cases e:t=ck
    case neg=>simp [e] at hC
   ·subst e; simp at hC; subst hC; exact ah
   ·subst e; simp at hC; subst hC; exact .bl j
   ·subst e; simp at hC; exact ml _ _ _ _ _ hC
  refine (bn.mw.keep gg).yj (T':=bZ.tmps) (λt aq=>?_) (λt c aa=>?_) (p:=⟨ck,path⟩) (y:=y) ?_
  ·by_cases e:t=ck
   ·subst e; rw [sM t aP,aR]
   ·simp [e] at aq
  ·by_cases e:t=ck
   ·subst e; exact same c aa.2
   ·simp [e] at aa
  ·simp only [bu,if_true];simpa [bu,ah] using al
end
end Go.Own
namespace Go.Own
open Go
set_option linter.unusedSectionVars false
variable [cI]
abbrev Acc:=List (Nat × Nat × Option ab)
def c3 (g0:aK) (A:Nat->Bool):Acc->aK
 | [],t=>g0 t
 | (k,d,r)::acc,t=>if d=t then (if A k then r else none) else c3 g0 A acc t
def jV:Nat × Nat × Option ab->Option Place
 | (_,_,some (.bB _ p _ _ _))=>some p
 | _=>none
def pe (ops:Array Oper) (a':List (List Nat)):Bool :=
 (List.range ops.size).all λk =>
  match ops[k]? with
  | none=>true
  | some o=>(o.after.all λe=>!Region.binds .any e||decide (e.on<k))&&(a'.getD k []).all λm=>decide (m<k)&&o.after.any λe=>Region.binds .any e&&(e.on == m||(a'.getD e.on []).contains m)
inductive iG (P:Program) (N:cS) (ops:Array Oper) (a':List (List Nat)) (g0:aK) (i:Nat) (dK:Acc):Nat->Acc->Prop
 | nil:iG P N ops a' g0 i dK i dK
 | step {J:Nat}{acc:Acc}{o:Oper}{d:Nat}{r:Option ab}(h:iG P N ops a' g0 i dK J acc) (aU:ops[J]?=some o) (aP:o.dst=some d) (aN:g0 d=none) (aA:∀ e∈acc,e.2.1≠d) (jE:N.ok d=true)
   (ay:pV P (c3 g0 (λm=>(a'.getD J []).contains m) acc) ops o r):iG P N ops a' g0 i dK (J+1) ((J,d,r)::acc)
structure mC (P:Program) (N:cS) (ops:Array Oper) (a':List (List Nat)) (g0:aK) (i:Nat) (dK:Acc):Prop where
 lt:∀ e∈dK,e.1<i
 free:∀ e∈dK,g0 e.2.1=none
 nd:(dK.map (·.2.1)).Nodup
 Qy:∀ e∈dK,∀ b_∈dK,(e.1=b_.1\/e.2.1=b_.2.1)->e=b_
 st:∀ e∈dK,∃ hn,ops[e.1]?=some hn/\hn.dst=some e.2.1/\N.ok e.2.1=true/\pV P (c3 g0 (λm=>(a'.getD e.1 []).contains m) dK) ops hn e.2.2
theorem mC.nil {P:Program}{N:cS}{ops:Array Oper}{a':List (List Nat)}{g0:aK}{i:Nat}:mC P N ops a' g0 i []:=⟨by simp,by simp,by simp,by simp,by simp⟩
inductive sl (P:Program) (N:cS) (ops:Array Oper) (a':List (List Nat)):Nat->Acc->aK->aK->Prop
 | fin {i:Nat}{dK:Acc}{g:aK}{acc:Acc}(ay:iG P N ops a' g i dK ops.size acc) (gw:(acc.filterMap jV).Nodup) (fB:∀ t z q n m new,g t≠some (.bB z q n m new)):sl P N ops a' i dK g (c3 g (λ_=>true) acc)
 | wG {i J:Nat}{g g1 g':aK}{dK acc U:Acc}{o:Oper}{rs:Place->Prop}(ay:iG P N ops a' g i dK J acc) (gw:(acc.filterMap jV).Nodup) (fB:∀ t z q n m new,g t≠some (.bB z q n m new)) (aU:ops[J]?=some o) (hw:ir (c3 g (λm=>(a'.getD J []).contains m) acc) ops o true)
   (he:o7 P N rs (c3 g (λm=>(a'.getD J []).contains m) acc) o g1) (lU:∀ p,rs p->g p.root≠none) (fy:U=acc.filter λe=>!(a'.getD J []).contains e.1) (j:∀ e∈U,∃ x,e.2.2=some x/\AH rs (c3 g (λm=>(a'.getD J []).contains m) acc) g1 o x) (h1:∀ e∈U,g1 e.2.1=none/\o.dst≠some e.2.1)
   (af:∀ e∈U,∃ hn,ops[e.1]?=some hn/\hn.dst=some e.2.1/\N.ok e.2.1=true/\pV P (c3 g1 (λm=>(a'.getD e.1 []).contains m) U) ops hn e.2.2)
   (av:(List.range ops.size).all (λk=>decide (k<=J)||(a'.getD k []).contains J)=true) (ah:sl P N ops a' (J+1) U g1 g'):sl P N ops a' i dK g g'
theorem mx {g0:aK}{A:Nat->Bool}{acc:Acc}{t:Nat}(h:∀ e∈acc,e.2.1≠t):c3 g0 A acc t=g0 t:=by
 induction acc with
 | nil=>rfl
 | cons e acc aM =>
  grind [c3]
theorem uS {g0:aK}{A:Nat->Bool}{acc:Acc}{t:Nat}{x:ab}(h:c3 g0 A acc t=some x):(∃ e∈acc,e.2.1=t/\A e.1=true/\e.2.2=some x)\/((∀ e∈acc,e.2.1≠t)/\g0 t=some x):=by
 induction acc with
 | nil=>exact .inr ⟨by simp,h⟩
 | cons e acc aM =>
  grind [c3]
theorem KI {g:aK}{A:Nat->Bool}{acc:Acc}(hu:∀ e∈acc,∀ b_∈acc,e.2.1=b_.2.1->e=b_) {e:Nat × Nat × Option ab}(he:e∈acc):c3 g A acc e.2.1=if A e.1 then e.2.2 else none:=by
 induction acc with
 | nil=>cases he
 | cons a acc aM =>
  grind [c3]
section
variable {P:Program}{N:cS}{ops:Array Oper}{a':List (List Nat)}{g0:aK}{i:Nat}
variable {dK:Acc}
theorem iG.le {J:Nat}{acc:Acc}(h:iG P N ops a' g0 i dK J acc) (fy:mC P N ops a' g0 i dK):i<=J/\∀ e∈acc,e.1<J:=by
 induction h with
 | nil=>exact ⟨Nat.le_refl _,fy.lt⟩
 | step _ _ _ _ _ _ _ aM =>
  grind
theorem iG.ge {J:Nat}{acc:Acc}(h:iG P N ops a' g0 i dK J acc) (fy:mC P N ops a' g0 i dK):∀ e∈acc,e∈dK\/i<=e.1:=by
 induction h with
 | nil=>exact λe he=>.inl he
 | step ay _ _ _ _ _ _ aM =>
  intro e he;rcases List.mem_cons.1 he with rfl | he
  ·exact .inr (ay.le fy).1
  grind
theorem iG.Kx {J:Nat}{acc:Acc}(h:iG P N ops a' g0 i dK J acc):∀ e∈dK,e∈acc:=by
 induction h with
 | nil=>exact λe he=>he
 | step _ _ _ _ _ _ _ aM=>exact λe he=>by simp [aM e he]
theorem iG.fresh {J:Nat}{acc:Acc}(h:iG P N ops a' g0 i dK J acc) (fy:mC P N ops a' g0 i dK):∀ e∈acc,g0 e.2.1=none:=by
 induction h with
 | nil=>exact fy.free
 | step _ _ _ aN _ _ _ aM =>
  grind
theorem iG.nodup {J:Nat}{acc:Acc}(h:iG P N ops a' g0 i dK J acc) (fy:mC P N ops a' g0 i dK):(acc.map (·.2.1)).Nodup:=by
 induction h with
 | nil=>exact fy.nd
 | step _ _ _ _ aA _ _ aM =>
  grind
theorem iG.uniq {J:Nat}{acc:Acc}(h:iG P N ops a' g0 i dK J acc) (fy:mC P N ops a' g0 i dK):∀ {e b_:Nat × Nat × Option ab},e∈acc->b_∈acc->(e.1=b_.1\/e.2.1=b_.2.1)->e=b_:=by
 induction h with
 | nil=>exact λ{e b_} he h8 bG=>fy.Qy e he b_ h8 bG
 | @step J acc o d r ay _ _ _ aA _ _ aM =>
  intro e b_ he h8 bG;rcases List.mem_cons.1 he with rfl | he <;> rcases List.mem_cons.1 h8 with rfl | h8
  ·rfl
  ·rcases bG with bG | bG
   ·have:=(ay.le fy).2 b_ h8
    grind
   grind
  ·rcases bG with bG | bG
   ·have:=(ay.le fy).2 e he
    grind
   grind
  grind
theorem iG.at_mem {J:Nat}{acc:Acc}(h:iG P N ops a' g0 i dK J acc) (fy:mC P N ops a' g0 i dK) {A:Nat->Bool}{e:Nat × Nat × Option ab}(he:e∈acc):c3 g0 A acc e.2.1=if A e.1 then e.2.2 else none :=
 KI (λ_ j _ al aI=>h.uniq fy j al (.inr aI)) he
theorem iG.get {J:Nat}{acc:Acc}(h:iG P N ops a' g0 i dK J acc) (fy:mC P N ops a' g0 i dK):∀ e∈acc,∃ o DO,ops[e.1]?=some o/\o.dst=some e.2.1/\N.ok e.2.1=true/\pV P (c3 g0 (λm=>(a'.getD e.1 []).contains m) DO) ops o e.2.2/\∀ e∈DO,e∈acc:=by
 induction h with
 | nil =>
  intro e he;obtain ⟨hn,h1,af,aJ,bx⟩:=fy.st e he
  grind
 | @step J acc o d r ay aU aP aN aA jE bT aM =>
  intro e he;rcases List.mem_cons.1 he with rfl | he
  ·grind
  grind
theorem iG.has {J:Nat}{acc:Acc}(h:iG P N ops a' g0 i dK J acc):∀ k,i<=k->k<J->∃ e∈acc,e.1=k:=by
 induction h with
 | nil=>intro k h1 af; omega
 | @step J acc o d r ay aU aP aN aA jE bT aM =>
  grind [List.mem_cons_self]
theorem Ym {acc:Acc}(gw:(acc.filterMap jV).Nodup) {e b_:Nat × Nat × Option ab}{p:Place}(he:e∈acc) (h8:b_∈acc) (h:jV e=some p) (aI:jV b_=some p):e=b_:=by
 induction acc with
 | nil=>simp at he
 | cons a acc aM =>
  grind
def du (listed:Array Bool) (k:Nat):Bool:=listed.getD k false
def hq (ops:Array Oper) (listed:Array Bool):Nat:=((List.range ops.size).filter λk=>!du listed k).length
theorem wO {listed:Array Bool}{k:Nat}(hk:k<ops.size) (aj:du listed k=false) (eM:listed.size=ops.size):hq ops (listed.setIfInBounds k true)+1<=hq ops listed:=by
 unfold hq;have key:∀ l:List Nat,l.Nodup->((l.filter λJ=>!du (listed.setIfInBounds k true) J).length+if k∈l then 1 else 0)=(l.filter λJ=>!du listed J).length:=by
  intro l
  induction l with
  | nil=>intro _; simp
  | cons J l aM =>
   intro fj;have V4:=List.nodup_cons.1 fj;have adg:=aM V4.2;by_cases fA:J=k
   ·simp_all [du]
   ·have h1:du (listed.setIfInBounds k true) J=du listed J:=by simp [du,Array.getElem?_setIfInBounds_ne (Ne.symm fA)]
    grind
 grind
end
end Go.Own
namespace Go.Own
open Go
set_option linter.unusedSectionVars false
variable [cI]
section
variable {P:Program}{N:cS}{ops:Array Oper}{a':List (List Nat)}
def Down (a':List (List Nat)) (listed:Array Bool):Prop:=∀ k,du listed k=true->∀ m∈a'.getD k [],du listed m=true
theorem LA (h:pe ops a'=true) {k:Nat}{o:Oper}(aU:ops[k]?=some o) :
  (∀ e∈o.after,Region.binds .any e=true->e.on<k)/\∀ m∈a'.getD k [],m<k/\∃ e∈o.after,Region.binds .any e=true/\(e.on=m\/m∈a'.getD e.on []):=by
 grind [pe,Array.all_eq_true_iff_forall_mem]
theorem x5 {listed:Array Bool}{k:Nat}(h:k∈Region.ready .any ops listed):du listed k=false/\∃ o,ops[k]?=some o/\∀ e∈o.after,Region.binds .any e=true->du listed e.on=true:=by
 grind [mem_ready,du]
theorem Kd (dQ:pe ops a'=true) {listed:Array Bool}(aP:Down a' listed) {k:Nat}(h:k∈Region.ready .any ops listed):∀ m∈a'.getD k [],du listed m=true:=by
 obtain ⟨_,o,aU,af⟩:=x5 h;intro m hm;obtain ⟨_,e,he,av,aJ⟩:=(LA dQ aU).2 m hm;rcases aJ with rfl | aJ
 ·grind
 ·exact aP e.on (af e he av) m aJ
theorem Pt (dQ:pe ops a'=true) {listed:Array Bool}(eM:listed.size=ops.size):∀ k,k<ops.size->du listed k=false->Region.ready .any ops listed≠[]:=by
 intro k
 induction k using Nat.strongRecOn with
 | _ k aM =>
  intro hk aj;by_cases hex:∃ J,J<k/\du listed J=false
  ·grind
  ·have nn:k∈Region.ready .any ops listed:=by
    refine mem_ready.2 ⟨?_,ops[k],Array.getElem?_eq_getElem hk,λe he av=>?_⟩
    ·grind [du]
    ·have aT:=(LA dQ (Array.getElem?_eq_getElem hk)).1 e he av
     grind [du]
   grind
theorem Dj {g0:aK}{A B:Nat->Bool}{acc:Acc}{t:Nat}(h:∀ e∈acc,e.2.1=t->A e.1=B e.1):c3 g0 A acc t=c3 g0 B acc t:=by
 induction acc with
 | nil=>rfl
 | cons e acc aM =>
  grind [c3]
theorem DD {listed:Array Bool}{k J:Nat}(hk:k<listed.size):du (listed.setIfInBounds k true) J=if J=k then true else du listed J:=by
 by_cases fA:J=k
 all_goals simp_all [du,Ne.symm]
theorem Z8 {g0:aK}{i J:Nat}{acc U dK:Acc}(ay:iG P N ops a' g0 i dK J acc) (cb:mC P N ops a' g0 i dK) {A S:Nat->Bool}(fy:U=acc.filter λe=>!A e.1) (Uc:∀ e∈acc,A e.1=true->S e.1=true):c3 g0 S acc=c3 (c3 g0 A acc) S U:=by
 subst fy;funext t;by_cases hex:∃ e∈acc,e.2.1=t
 ·obtain ⟨e,he,rfl⟩:=hex;rw [ay.at_mem cb he];by_cases dQ:A e.1=true
  ·rw [mx,ay.at_mem cb he,if_pos dQ,if_pos (Uc e he dQ)];intro b_ h8 h;obtain ⟨h1,af⟩:=List.mem_filter.1 h8;have:=ay.uniq cb h1 he (.inr h)
   grind
  ·rw [KI (λx j y al h=>ay.uniq cb (List.mem_filter.1 j).1 (List.mem_filter.1 al).1 (.inr h)) (List.mem_filter.2 ⟨he,by simpa using dQ⟩)]
 grind [mx]
theorem ej.mono {g g':aK}(aN:∀ t x,g t=some x->g' t=some x) {x:ab}(h:ej g x):ej g' x:=by
 induction h with
 | bl h=>exact .bl h
 | ref j h=>exact .ref j (h.mono aN)
 | own _ aM=>exact .own aM
 | obj _ aM=>exact .obj aM
 | agg _ aM=>exact .agg aM
 | bQ _ aM=>exact .bQ aM
 | dj _ _ fZ fQ=>exact .dj fZ fQ
 | bB au _ aM=>exact .bB (au.mono aN) aM
theorem Mv {mG g1:aK}{o:Oper}{S:Nat->Bool}{rs:Place->Prop}(h:o7 P N rs mG o g1) (lU:∀ p,rs p->mG p.root≠none):∀ (U:Acc),(∀ e∈U,∃ x,e.2.2=some x/\AH rs mG g1 o x)->(∀ e∈U,mG e.2.1=none/\g1 e.2.1=none/\o.dst≠some e.2.1)->(U.map (·.2.1)).Nodup->o7 P N rs (c3 mG S U) o (c3 g1 S U)
 | [],_,_,_=>h
 | (k,d,r)::U,j,h1,fj=>by
  simp only [List.map_cons,List.nodup_cons] at fj;have aM:=Mv (S:=S) h lU U (λe he=>j e (by simp [he])) (λe he=>h1 e (by simp [he])) fj.2;obtain ⟨x,e,bT⟩:=j (k,d,r) (by simp);simp only at e;subst e;obtain ⟨aB,a2,a3⟩:=h1 (k,d,some x) (by simp);simp only at aB a2 a3;have oJ:∀ e∈U,e.2.1≠d:=λe he aI=>fj.1 (List.mem_map.2 ⟨e,he,aI⟩);cases bn:S k with
  | true =>
   have e:∀ g:aK,c3 g S ((k,d,some x)::U)=cK (c3 g S U) d x:=λg=>by
    funext t;simp only [c3,cK,bn,if_true];by_cases aP:d=t
    ·rw [if_pos aP,if_pos aP.symm]
    ·rw [if_neg aP,if_neg (Ne.symm aP)]
   rw [e,e];have Fu:∀ r,mG r≠none->∀ e∈U,e.2.1≠r:=λr ah e he aI=>by
    have:=(h1 e (by simp [he])).1;rw [aI] at this;exact ah this
   have X':∀ r,g1 r≠none->∀ e∈U,e.2.1≠r:=λr ah e he aI=>by
    have:=(h1 e (by simp [he])).2.1;rw [aI] at this;exact ah this
   refine aM.extra (λr ah=>by rw [mx (Fu r.root (lU r ah))]; exact lU r ah) (by rw [mx oJ]; exact aB) (by rw [mx oJ]; exact a2) a3 ?_;rcases bT with ⟨r,path,z,n,uZ,cs,rfl,hg,h5,kD,yU⟩ | ⟨v,rfl⟩ | ⟨s,p,m,rfl,hg,h5,kD⟩ | ⟨s,m,cs,rfl,hg,h5,kD,cs',yU,GN⟩ | ⟨z,n,cs,rfl,hg⟩ | ⟨cs,rfl,hg,h5⟩
   ·refine .inl ⟨r,path,z,n,uZ,cs,rfl,hg,?_,?_,yU⟩
    ·have:mG r≠none:=lU _ hg;simpa [bu,mx (Fu r this)] using h5
    ·have:g1 r≠none:=λe=>by simp [bu,e] at kD
     simpa [bu,mx (X' r this)] using kD
   ·exact .inr (.inl ⟨v,rfl⟩)
   ·refine .inr (.inr (.inl ⟨s,p,m,rfl,?_,?_,kD⟩))
    ·rw [mx]; exact hg;intro e he aI;have:=(h1 e (by simp [he])).1;rw [aI,hg] at this; cases this
    ·rw [mx]; exact h5;intro e he aI;have:=(h1 e (by simp [he])).2.1;rw [aI,h5] at this; cases this
   ·refine .inr (.inr (.inr (.inl ⟨s,m,cs,rfl,?_,h5,kD,cs',?_,GN⟩)))
    ·rw [mx]; exact hg;intro e he aI;have:=(h1 e (by simp [he])).2.1;rw [aI,hg] at this; cases this
    ·rw [mx (Fu s (by rw [yU]; simp))]; exact yU
   ·exact .inr (.inr (.inr (.inr (.inl ⟨z,n,cs,rfl,hg⟩))))
   ·refine .inr (.inr (.inr (.inr (.inr ⟨cs,rfl,hg,?_⟩))));have hle:∀ t y,mG t=some y->c3 mG S U t=some y:=λt y al=>by rw [mx (Fu t (by rw [al]; simp))]; exact al
    refine ⟨λt y al=>?_,λt z q n m new al=>?_⟩
    ·rcases uS al with ⟨b_,h8,_,_,Io⟩ | ⟨_,al⟩
     ·obtain ⟨y',wV,BR⟩:=j b_ (by simp [h8]);rw [Io] at wV; cases wV;rcases BR with ⟨r,path,z,n,uZ,cs,rfl,c1,c2,j8,c4⟩ | ⟨v,rfl⟩ | ⟨s,p,m,rfl,c1,_⟩ | ⟨s,m,cs,rfl,_,_,_,cs',c4,nb⟩ | ⟨z,n,cs,rfl,c1⟩ | ⟨cs,rfl,c1,_⟩
      ·exact .ref rfl (.inl ⟨uZ,cs,kC hle c2,c4⟩)
      ·exact .bl .lit
      ·exact ej.mono hle (h5.b' s _ c1)
      ·exact .ref rfl ⟨.obj cs',by simp [bu,hle s _ c4,ab.at],0,0,cs',.inr rfl,nb⟩
      ·exact .bl c1
      ·exact .bl c1.bl
     ·exact ej.mono hle (h5.b' t y al)
    ·rcases uS al with ⟨b_,h8,_,_,Io⟩ | ⟨_,al⟩
     ·obtain ⟨y',wV,BR⟩:=j b_ (by simp [h8]);rw [Io] at wV; cases wV;rcases BR with ⟨r,path,z,n,uZ,cs,h,_⟩ | ⟨v,h⟩ | ⟨s,p,m,h,_⟩ | ⟨s,m,cs,h,_⟩ | ⟨z,n,cs,h,_⟩ | ⟨cs,h,_⟩ <;> cases h
     ·exact h5.fk _ _ _ _ _ _ al
  | false =>
   have e:∀ g:aK,g d=none->c3 g S ((k,d,some x)::U)=c3 g S U:=λg aN=>by
    funext t;simp only [c3,bn];by_cases aP:d=t
    ·subst aP; rw [if_pos rfl,mx oJ,aN]; rfl
    ·rw [if_neg aP]
   rw [e mG aB,e g1 a2];exact aM
theorem Pq (dQ:pe ops a'=true) {g0:aK}{i J:Nat}{acc dK:Acc}(ay:iG P N ops a' g0 i dK J acc) (cb:mC P N ops a' g0 i dK) (gw:(acc.filterMap jV).Nodup) (fB:∀ t z q n m new,g0 t≠some (.bB z q n m new)) {listed:Array Bool}(eM:listed.size=ops.size) (aP:Down a' listed)
  {a:Act}{w:World}{I:a8}{Fs:Nat->a8}(bn:cF w I a.tmps (c3 g0 (du listed) acc) Fs) (a_:a.tmps.size=N.size) {e:Nat × Nat × Option ab}(he:e∈acc) (hk:e.1∈Region.ready .any ops listed) {K:Act->World->Prop}{Q:Exit->Act->World->Prop}
  (c6:∀ bZ w' I' b2,bZ.defers=a.defers->hA N a.tmps bZ.tmps->cF w' I' bZ.tmps (c3 g0 (du (listed.setIfInBounds e.1 true)) acc) b2->kX w I (λc=>∃ t,Fs t c) w' I' (λc=>∃ t,b2 t c)->K bZ w'):wpOp P ops Q e.1 K a w:=by
 obtain ⟨dT,k',xe,_⟩:=x5 hk;have zi:=(Array.getElem?_eq_some_iff.1 xe).1;have Bq:=Kd dQ aP hk;obtain ⟨o,DO,aU,ED,jE,bT,gx⟩:=ay.get cb e he;obtain ⟨k,d,r⟩:=e;simp only at *;have hle:oi (c3 g0 (λm=>(a'.getD k []).contains m) DO) (c3 g0 (du listed) acc):=by
  intro t x j;rcases uS j with ⟨e,he,rfl,Ej,hex⟩ | ⟨oJ,aN⟩
  ·rw [ay.at_mem cb (gx e he),Bq e.1 (by simpa using Ej)];exact hex
  ·rw [mx λe he acI=>?_]
   ·exact aN
   ·have:=ay.fresh cb e he
    grind
 have e6:∀ z p n m new,r=some (.bB z p n m new)->∀ t bs ch bh cQ,c3 g0 (du listed) acc t≠some (.bB bs p ch bh cQ):=by
  intro z p n m new ah t bs ch bh cQ aq;rcases uS aq with ⟨e,h8,_,Ej,hex⟩ | ⟨_,aN⟩
  ·obtain ⟨kJ,Mj,ck⟩:=e;have:=Ym gw (p:=p) he h8 (by rw [ah]; rfl) (by simp only at hex; rw [hex]; rfl)
   grind
  grind
 have BR:=bT.mono hle e6;have sE:c3 g0 (du listed) acc d=none:=by
  have:=ay.at_mem cb (A:=du listed) he
  grind
 unfold wpOp;simp only [aU];refine BR.sound bn rfl a_ ED sE jE λbZ w' aA=>?_;obtain ⟨cr,b9,I',b2,dZ,oK⟩:=aA;have iy:∀ J,du (listed.setIfInBounds k true) J=if J=k then true else du listed J:=λJ=>DD (by omega)
 have c_:c3 g0 (du (listed.setIfInBounds k true)) acc=x1 (c3 g0 (du listed) acc) d r:=by
  funext t;by_cases vx:t=d
  ·subst vx;have h1:=ay.at_mem cb (A:=du (listed.setIfInBounds k true)) he;simp only [iy k,if_true] at h1;rw [h1];cases r with
   | none=>simp only [x1]; exact sE.symm
   | some x=>simp [x1,cK]
  ·have h1:c3 g0 (du (listed.setIfInBounds k true)) acc t=c3 g0 (du listed) acc t:=Dj λe h8 het=>by
    rw [iy e.1,if_neg];intro VC;have:=ay.uniq cb h8 he (.inl VC)
    grind
   rw [h1];cases r with
   | none=>rfl
   | some x=>simp [x1,cK,vx]
 grind
theorem Hm (dQ:pe ops a'=true) {listed:Array Bool}(eM:listed.size=ops.size) (aP:Down a' listed) {k:Nat}(hk:k∈Region.ready .any ops listed):Down a' (listed.setIfInBounds k true):=by
 obtain ⟨dT,k',xe,_⟩:=x5 hk;have zi:=(Array.getElem?_eq_some_iff.1 xe).1;have Bq:=Kd dQ aP hk;have iy:∀ q,du (listed.setIfInBounds k true) q=if q=k then true else du listed q:=λq=>DD (by omega)
 intro m hm q a7;rw [iy] at hm ⊢;split
 ·rfl
 ·split at hm
  ·grind
  ·exact aP m hm q a7
theorem iG.entry {g0:aK}{i J:Nat}{acc dK:Acc}(ay:iG P N ops a' g0 i dK J acc) {listed:Array Bool}(aT:∀ k,k<i->(∀ e∈dK,e.1≠k)->du listed k=true) {k:Nat}(Ez:k<J) (dT:du listed k=false):∃ e∈acc,e.1=k:=by
 rcases Nat.lt_or_ge k i with h | h
 ·rcases Classical.em (∃ e∈dK,e.1=k) with ⟨e,he,aI⟩ | aI
  ·exact ⟨e,ay.Kx e he,aI⟩
  grind
 ·exact ay.has k h Ez
theorem sl.sound (dQ:pe ops a'=true) {i:Nat}{dK:Acc}{g g':aK}(h:sl P N ops a' i dK g g'):mC P N ops a' g i dK->∀ {Q:Exit->Act->World->Prop}(fuel:Nat) (listed:Array Bool) (a:Act) (w:World) (I:a8) (Fs:Nat->a8),hq ops listed<=fuel->listed.size=ops.size->(∀ k,k<i->(∀ e∈dK,e.1≠k)->du listed k=true)->(∀ k,i<=k->du listed k=false)->Down a' listed ->
  cF w I a.tmps (c3 g (du listed) dK) Fs->a.tmps.size=N.size->(∀ bZ w',h2 N a w I Fs g' bZ w'->Q .normal bZ w')->wpAny P .any ops Q fuel listed a w:=by
 have start:∀ {g:aK}{i J:Nat}{acc dK:Acc}{listed:Array Bool},iG P N ops a' g i dK J acc->mC P N ops a' g i dK->(∀ k,i<=k->du listed k=false)->c3 g (du listed) acc=c3 g (du listed) dK:=by
  intro g i J acc dK listed ay cb dC;funext t;by_cases hex:∃ e∈acc,e.2.1=t
  ·obtain ⟨e,he,rfl⟩:=hex;rw [ay.at_mem cb he];rcases ay.ge cb e he with h | h
   ·rw [KI (λx j y al aI=>cb.Qy x j y al (.inr aI)) h]
   ·rw [dC e.1 h];by_cases Nx:∃ b_∈dK,b_.2.1=e.2.1
    ·obtain ⟨b_,h8,aI⟩:=Nx;have:=ay.uniq cb (ay.Kx b_ h8) he (.inr aI);subst this;have:=cb.lt b_ h8;omega
    ·rw [mx λb_ h8 aI=>Nx ⟨b_,h8,aI⟩,ay.fresh cb e he]; rfl
  ·rw [mx λe he h=>hex ⟨e,he,h⟩,mx λe he h=>hex ⟨e,ay.Kx e he,h⟩]
 induction h with
 | @fin i dK g acc ay gw fB =>
  intro cb Q fuel listed a w I Fs aa eM aT dC aP bn a_ dA;rw [<- start ay cb dC] at bn;clear dC;revert listed a w I Fs
  induction fuel with
  | zero =>
   intro listed a w I Fs aa eM aT aP bn a_ dA;have hj:∀ k,k<ops.size->du listed k=true:=λk hk=>by
    cases aj:du listed k with
    | true=>rfl
    | false=>have:=wO (ops:=ops) (listed:=listed) (k:=k) hk aj eM; omega
   refine wpAny_done ?_ (dA _ _ ⟨rfl,hA.refl,I,Fs,?_,kX.refl _ _ _⟩) 0
   ·cases ah:Region.ready .any ops listed with
    | nil=>rfl
    | cons k l =>
     have hk:k∈Region.ready .any ops listed:=by rw [ah]; simp
     obtain ⟨dT,o,aU,_⟩:=x5 hk
     grind
   ·have:c3 g (du listed) acc=c3 g (λ_=>true) acc:=funext λt=>Dj λe he _=>hj e.1 ((ay.le cb).2 e he)
    grind
  | succ fuel aM =>
   intro listed a w I Fs aa eM aT aP bn a_ dA;by_cases hj:∀ k,k<ops.size->du listed k=true
   ·refine wpAny_done ?_ (dA _ _ ⟨rfl,hA.refl,I,Fs,?_,kX.refl _ _ _⟩) _
    ·cases ah:Region.ready .any ops listed with
     | nil=>rfl
     | cons k l =>
      have hk:k∈Region.ready .any ops listed:=by rw [ah]; simp
      obtain ⟨dT,o,aU,_⟩:=x5 hk
      grind
    ·have:c3 g (du listed) acc=c3 g (λ_=>true) acc:=funext λt=>Dj λe he _=>hj e.1 ((ay.le cb).2 e he)
     grind
   ·obtain ⟨k0,mj⟩:=Classical.not_forall.1 hj;obtain ⟨VP,VQ⟩:=Classical.not_imp.1 mj;refine ⟨λah=>absurd ah (Pt dQ eM k0 VP (by simpa using VQ)),λk hk=>?_⟩;obtain ⟨dT,k',xe,_⟩:=x5 hk;have zi:=(Array.getElem?_eq_some_iff.1 xe).1;obtain ⟨e,he,rfl⟩:=ay.entry aT zi dT;have Vo:=wO (ops:=ops) (listed:=listed) (k:=e.1) zi dT eM;refine Pq dQ ay cb gw fB eM aP bn a_ he hk λbZ w' I' b2 cr b9 dZ oK=>?_;refine aM _ bZ w' I' b2 (by omega) (by simpa using eM) (λm hm cA=>?_) (Hm dQ eM aP hk) dZ (b9.1.trans a_) λa2 fp af=>dA _ _ (h2.trans cr b9 oK af)
    grind [DD]
 | @wG i J g g1 g' dK acc U o rs ay gw fB aU hw he lU fy j h1 af av _ Xg =>
  intro cb Q fuel listed a w I Fs aa eM aT dC aP bn a_ dA;have zh:J<ops.size:=(Array.getElem?_eq_some_iff.1 aU).1;have Ib:∀ k,J<k->k<ops.size->J∈a'.getD k []:=λk hk zi=>by
   grind
  have BE:∀ e∈U,e∈acc/\(a'.getD J []).contains e.1=false:=λe he=>by
   grind
  have fj:(U.map (·.2.1)).Nodup:=by
   rw [fy];exact (List.filter_sublist.map _).nodup (ay.nodup cb)
  have VI:∀ e∈U,c3 g (λm=>(a'.getD J []).contains m) acc e.2.1=none:=λe he=>by
   rw [ay.at_mem cb (BE e he).1,(BE e he).2];rfl
  have Bj:mC P N ops a' g1 (J+1) U:=⟨λe he=>by have:=(ay.le cb).2 e (BE e he).1; omega,λe he=>(h1 e he).1,fj,λe he b_ h8 h=>ay.uniq cb (BE e he).1 (BE b_ h8).1 h,af⟩;have acM:∀ k,J<=k->du listed k=false:=λk hk=>dC k (Nat.le_trans (ay.le cb).1 hk);rw [<- start ay cb dC] at bn;clear dC;revert listed a w I Fs
  induction fuel with
  | zero =>
   intro listed a w I Fs aa eM aT aP bn a_ dA dC;have:=wO (ops:=ops) (listed:=listed) (k:=J) zh (dC J (Nat.le_refl _)) eM;omega
  | succ fuel Xf =>
   intro listed a w I Fs aa eM aT aP bn a_ dA dC;have eU:=dC J (Nat.le_refl _);refine ⟨λah=>absurd ah (Pt dQ eM J zh eU),λk hk=>?_⟩;obtain ⟨dT,k',xe,_⟩:=x5 hk;have zi:=(Array.getElem?_eq_some_iff.1 xe).1;have Bq:=Kd dQ aP hk;have iy:∀ q,du (listed.setIfInBounds k true) q=if q=k then true else du listed q:=λq=>DD (by omega)
   have Vo:=wO (ops:=ops) (listed:=listed) (k:=k) (by omega) dT eM;rcases Nat.lt_trichotomy k J with Ez | rfl | Ez
   ·obtain ⟨e,Nw,rfl⟩:=ay.entry aT Ez dT;refine Pq dQ ay cb gw fB eM aP bn a_ Nw hk λbZ w' I' b2 cr b9 dZ oK=>?_;refine Xf _ bZ w' I' b2 (by omega) (by simpa using eM) (λm hm cA=>?_) (Hm dQ eM aP hk) dZ (b9.1.trans a_) (λa2 fp af=>dA _ _ (h2.trans cr b9 oK af)) λm hm=>?_
    ·grind
    grind
   ·have Tz:=Z8 (A:=λm=>(a'.getD k []).contains m) (S:=du listed) ay cb fy λe he dQ=>Bq e.1 (by simpa using dQ);have Wk:∀ r:Place,rs r->c3 g (λm=>(a'.getD k []).contains m) acc r.root≠none:=λr ah=>by
     rw [mx]
     ·grind
     ·intro e he aI;have:=ay.fresh cb e he
      grind
    have VB:=Mv (S:=du listed) he Wk U j (λe he=>⟨VI e he,h1 e he⟩) fj;have hle:oi (c3 g (λm=>(a'.getD k []).contains m) acc) (c3 g (du listed) acc):=by
     intro t x j;rcases uS j with ⟨e,he,rfl,Ej,hex⟩ | ⟨oJ,aN⟩
     ·rw [ay.at_mem cb he,Bq e.1 (by simpa using Ej)]; exact hex
     grind [mx]
    unfold wpOp;simp only [aU,(ir.mono hle hw).sound bn,if_true];refine .inl (VB w I a.tmps Fs (by rw [<- Tz]; exact bn) a rfl a_ _ _ λbZ w' aA _ _=>?_);obtain ⟨cr,b9,I',b2,dZ,oK⟩:=aA;refine Xg Bj fuel (listed.setIfInBounds k true) bZ w' I' b2 (by omega) (by simpa using eM) (λm hm cA=>?_) (λm hm=>?_) (Hm dQ eM aP hk) ?_ (b9.1.trans a_) λa2 fp af=>dA _ _ (h2.trans cr b9 oK af)
    ·rw [iy];split
     ·rfl
     ·rename_i ac3;cases BF:du listed m with
      | true=>rfl
      | false =>
       exfalso;obtain ⟨e,Nw,rfl⟩:=ay.entry aT (show m<k by omega) BF
       grind
    ·grind
    ·have:c3 g1 (du (listed.setIfInBounds k true)) U=c3 g1 (du listed) U:=funext λt=>Dj λe he _=>by
      grind
     grind
   grind
end
end Go.Own
namespace Go.Own
open Go
set_option linter.unusedSectionVars false
variable [cI]
section
variable {P:Program}{N:cS}
def fN (P:Program) (N:cS) (c:Code) (g:aK) (e:Exit) (g':aK):Prop :=
 ∀ ⦃Q:Exit->Act->World->Prop⦄ ⦃a:Act⦄ ⦃w:World⦄ ⦃I:a8⦄ ⦃Fs:Nat->a8⦄,cF w I a.tmps g Fs->a.tmps.size=N.size->(∀ bZ w',h2 N a w I Fs g' bZ w'->Q e bZ w')->c.wp P Q a w
theorem fN.skip {g:aK}:fN P N .skip g .normal g:=λ_ _ _ _ _ bn _ dA=>wp_skip (dA _ _ ⟨rfl,hA.refl,_,_,bn,kX.refl _ _ _⟩)
theorem fN.ret {g:aK}:fN P N .ret g .ret g:=λ_ _ _ _ _ bn _ dA=>wp_ret (dA _ _ ⟨rfl,hA.refl,_,_,bn,kX.refl _ _ _⟩)
theorem fN.exit {g:aK}{id:Nat}:fN P N (.exit id) g (.exit id) g:=λ_ _ _ _ _ bn _ dA=>wp_exit (dA _ _ ⟨rfl,hA.refl,_,_,bn,kX.refl _ _ _⟩)
theorem fN.seq {x y:Code}{g g1 g':aK}{e:Exit}(h1:fN P N x g .normal g1) (af:fN P N y g1 e g'):fN P N (.seq x y) g e g':=by
 intro Q a w I Fs bn a_ dA;refine wp_seq (h1 bn a_ λaB gH aA=>?_);obtain ⟨cr,b9,I',b2,dZ,bT⟩:=aA;exact af dZ (b9.1.trans a_) λa2 fp oI=>dA _ _ (h2.trans cr b9 bT oI)
theorem fN.cond {c:Operand}{x y:Code}{g g':aK}{e:Exit}{b:Bool}(aa:bo g c=some (.lit (.bool b))) (h:fN P N (if b then x else y) g e g'):fN P N (.cond c x y) g e g':=by
 intro Q a w I Fs bn a_ dA;exact wp_cond (t:=b) (la bn aa rfl).h'.1 (h bn a_ dA)
theorem fN.Md {c:Operand}{x y:Code}{g g':aK}{e:Exit}(aa:bo g c=some (.lit (.bool true))) (h:fN P N x g e g'):fN P N (.cond c x y) g e g':=fN.cond aa h
theorem fN.Mb {c:Operand}{x y:Code}{g g':aK}{e:Exit}(aa:bo g c=some (.lit (.bool false))) (h:fN P N y g e g'):fN P N (.cond c x y) g e g':=fN.cond aa h
theorem fN.block {id:Nat}{c:Code}{g g':aK}(h:fN P N c g .normal g'):fN P N (.block id c) g .normal g' :=
 λ_ _ _ _ _ bn a_ dA=>wp_block (h bn a_ λaB gH aA=>dA aB gH aA)
def DC (P:Program) (c:Code) (Q:Exit->Act->World->Prop) (a:Act) (w:World):Prop :=
 ∀ (b:Frame) (k:List Item) (cs:List Frame),∃ e bZ w',Q e bZ w'/\Arrives P (lone (b.at a (.code c::.inLoop c::k)) cs w) b k cs e bZ w'
def tl (P:Program) (N:cS) (c:Code) (g:aK) (e:Exit) (g':aK):Prop :=
 ∀ ⦃Q:Exit->Act->World->Prop⦄ ⦃a:Act⦄ ⦃w:World⦄ ⦃I:a8⦄ ⦃Fs:Nat->a8⦄,cF w I a.tmps g Fs->a.tmps.size=N.size->(∀ bZ w',h2 N a w I Fs g' bZ w'->Q e bZ w')->DC P c Q a w
theorem JD {c:Code}{Q:Exit->Act->World->Prop}{a:Act}{w:World}(h:c.wp P (Exit.then (DC P c Q) Q) a w):DC P c Q a w:=by
 intro b k cs;obtain ⟨e,AL,Dn,a7,lx⟩:=h b (.inLoop c::k) cs;cases e with
 | normal =>
  obtain ⟨TD,R3,aac,Wh,UQ⟩:=a7 b k cs;exact ⟨TD,R3,aac,Wh,.of_steps (Steps.trans lx (.one step_inLoop)) UQ⟩
 | exit id=>exact ⟨_,AL,Dn,a7,.pass (x:=.inLoop c) rfl (λ_ _=>.inl (by simp)) lx⟩
 | goto l=>exact ⟨_,AL,Dn,a7,.pass (x:=.inLoop c) rfl (λ_ _=>.inl (by simp)) lx⟩
 | ret=>exact ⟨_,AL,Dn,a7,.pass (x:=.inLoop c) rfl (λ_ _=>.inl (by simp)) lx⟩
 | panic cc=>exact ⟨_,AL,Dn,a7,.pass (x:=.inLoop c) rfl (λ_ _=>.inl (by simp)) lx⟩
 | outgrown=>exact ⟨_,AL,Dn,a7,.pass (x:=.inLoop c) rfl (λ_ _=>.inl (by simp)) lx⟩
theorem fN.loop {c:Code}{g g':aK}{e:Exit}(h:tl P N c g e g'):fN P N (.loop c) g e g':=by
 intro Q a w I Fs bn a_ dA b k cs;obtain ⟨e,bZ,w',a7,lx⟩:=h bn a_ dA b k cs;exact ⟨e,bZ,w',a7,.of_steps (.one step_loop) lx⟩
theorem tl.step {c:Code}{g g1 g':aK}{e:Exit}(h1:fN P N c g .normal g1) (af:tl P N c g1 e g'):tl P N c g e g':=by
 intro Q a w I Fs bn a_ dA;refine JD (h1 bn a_ λaB gH aA=>?_);obtain ⟨cr,b9,I',b2,dZ,bT⟩:=aA;exact af dZ (b9.1.trans a_) λa2 fp oI=>dA _ _ (h2.trans cr b9 bT oI)
theorem tl.out {c:Code}{g g':aK}{e:Exit}(h:fN P N c g e g') (he:e≠.normal):tl P N c g e g':=by
 intro Q a w I Fs bn a_ dA;refine JD (h bn a_ λaB gH aA=>?_);cases e with
 | normal=>exact absurd rfl he
 | _=>exact dA _ _ aA
theorem fN.region {id:Nat}{ops:Array Oper}{g g':aK}(h:om P N ops (List.range ops.size) g g'):fN P N (.region id ops false) g .normal g' :=
 λ_ _ _ _ _ bn a_ dA=>wp_region (h.sound bn a_ dA)
theorem fN.draw {id:Nat}{ops:Array Oper}{a':List (List Nat)}{g g':aK}(hm:P.follows .mixedOrders=true) (dQ:pe ops a'=true) (h:sl P N ops a' 0 [] g g'):fN P N (.region id ops true) g .normal g':=by
 intro Q a w I Fs bn a_ dA;refine wp_region_any hm ?_;have dZ:cF w.drew I a.tmps g Fs:=bn.world (λ_ _ _=>rfl) (λ_ _=>rfl) (Nat.le_refl _);have hj:∀ k,du (Array.replicate ops.size false) k=false:=by
  intro k;unfold du;rcases Nat.lt_or_ge k ops.size with h | h
  ·simp [h]
  grind
 refine h.sound dQ .nil ops.size (Array.replicate ops.size false) a w.drew I Fs ?_ (by simp) (λk hk=>by omega) (λk _=>hj k) (λk hk=>by rw [hj] at hk; cases hk) dZ a_ λbZ w' aA=>dA _ _ ?_
 ·grind [hq]
 ·obtain ⟨cr,b9,I',b2,h7,bT⟩:=aA;exact ⟨cr,b9,I',b2,h7,⟨⟨bT.dF.os,bT.dF.tape,bT.dF.output,bT.dF.size,bT.dF.block,bT.dF.dS,Nat.le_trans (Nat.le_succ _) bT.dF.wS⟩,bT.more,bT.new,bT.own⟩⟩
inductive mY:ab->ab->Prop
 | refl {x:ab}:mY x x
 | dead {x:ab}(h:j0 x\/cE x):mY x .dead
 | pB {z:Nat}:mY .aQ (.own z 0 [])
 | pA {z:Nat}:mY .aQ (.bm z 0 [])
 | obj {cs cs':List ab}(aj:cs'.length=cs.length) (h:∀ (k:Nat) (x y:ab),cs[k]?=some x->cs'[k]?=some y->mY x y):mY (.obj cs) (.obj cs')
 | own {z n:Nat}{cs cs':List ab}(aj:cs'.length=cs.length) (h:∀ (k:Nat) (x y:ab),cs[k]?=some x->cs'[k]?=some y->mY x y):mY (.own z n cs) (.own z n cs')
theorem mY.iJ {x y:ab}{J:Nat × Nat}(h:mY x y) (e:y=.self J):x=.self J:=by
 cases h <;> first | exact e | cases e
theorem R.eB {w:World}{I:a8}{ρ:ab->Value->Prop}{x x':ab}(h:mY x x'):∀ {v:Value}{F:a8},R w I ρ x v F->∃ cY,R w I ρ x' v cY/\∀ c,cY c->F c:=by
 induction h with
 | refl=>exact λaY=>⟨_,aY,λ_ h=>h⟩
 | dead=>exact λaY=>⟨ct,.dead λ_ h=>h,λ_ h=>h.elim⟩
 | pB =>
  intro v F aY;rw [aY.r5];exact ⟨ct,.own (e:=0) (us:=[]) (Fs:=λ_=>ct) ⟨by simp,.inl ⟨rfl,rfl⟩⟩ rfl (by simp) (by simp) (λ_ _ _ _ _ h=>h.elim) (λ_ _ _ h=>h.elim) λc=>⟨λh=>h.elim,λh=>h.elim (λh=>by simp [Value.ownBlock] at h) λ⟨_,_,h⟩=>h⟩,λ_ h=>h.elim⟩
 | pA=>intro v F aY; rw [aY.r5]; exact ⟨ct,.hz λ_ h=>h,λ_ h=>h.elim⟩
 | @obj cs cs' aj rW aM =>
  intro v F aY;cases aY with
  | ref j=>simp [ab.isRef] at j
  | @obj _ b e arr bW _ aU hM h1 ah aP av aH ay =>
   have:∀ k,∃ tm:a8,k<cs.length->(∀ (x:ab) (u:Value),cs'[k]?=some x->arr[k]?=some u->R w I ρ x u tm)/\∀ c,tm c->bW k c:=by
    intro k;by_cases hk:k<cs.length
    ·have j:=List.getElem?_eq_getElem hk;have al:cs'[k]?=some (cs'[k]'(by omega)):=List.getElem?_eq_getElem (by omega);have hu:arr[k]?=some (arr[k]'(by omega)):=Array.getElem?_eq_getElem (by omega);obtain ⟨cY,h1,af⟩:=aM k _ _ j al (ah k _ _ j hu);refine ⟨cY,λ_=>⟨λx u fL hP=>?_,af⟩⟩;rw [al] at fL; rw [hu] at hP;cases fL; cases hP;exact h1
    ·exact ⟨ct,λh=>absurd h hk⟩
   obtain ⟨tm,rJ⟩:=Classical.axiomOfChoice this;refine ⟨_,.obj (Fs:=tm) aU (by omega) h1 (λk x u j hu=>(rJ k (by rw [<- aj]; exact (List.getElem?_eq_some_iff.1 j).1)).1 x u j hu) (λJ k c ai hk h aI=>aP J k c (by omega) (by omega) ((rJ J (by omega)).2 c h) ((rJ k (by omega)).2 c aI)) (λk hk h=>av k (by omega) ((rJ k (by omega)).2 b h)) (λc=>Iff.rfl) (λk J u hk=>ay k J u (Fo aj rW (λ_ _ _=>mY.iJ) k J hk)),λc aa=>?_⟩;rcases aa with rfl | ⟨k,hk,h⟩
   ·exact (aH _).2 (.inl rfl)
   ·exact (aH c).2 (.inr ⟨k,by omega,(rJ k (by omega)).2 c h⟩)
 | @own z n cs cs' aj _ aM =>
  intro v F aY;cases aY with
  | ref j=>simp [ab.isRef] at j
  | @own _ _ _ _ e us bW _ aU hM h1 ah aP av aH =>
   have:∀ k,∃ tm:a8,k<cs.length->(∀ (x:ab) (u:Value),cs'[k]?=some x->us[k]?=some u->R w I ρ x u tm)/\∀ c,tm c->bW k c:=by
    intro k;by_cases hk:k<cs.length
    ·have j:=List.getElem?_eq_getElem hk;have al:cs'[k]?=some (cs'[k]'(by omega)):=List.getElem?_eq_getElem (by omega);have hu:us[k]?=some (us[k]'(by omega)):=List.getElem?_eq_getElem (by omega);obtain ⟨cY,h1,af⟩:=aM k _ _ j al (ah k _ _ j hu);refine ⟨cY,λ_=>⟨λx u fL hP=>?_,af⟩⟩;rw [al] at fL; rw [hu] at hP;cases fL; cases hP;exact h1
    ·exact ⟨ct,λh=>absurd h hk⟩
   obtain ⟨tm,rJ⟩:=Classical.axiomOfChoice this;refine ⟨_,.own (Fs:=tm) aU (by omega) h1 (λk x u j hu=>(rJ k (by rw [<- aj]; exact (List.getElem?_eq_some_iff.1 j).1)).1 x u j hu) (λJ k c ai hk h aI=>aP J k c (by omega) (by omega) ((rJ J (by omega)).2 c h) ((rJ k (by omega)).2 c aI)) (λk c hk h=>av k c (by omega) ((rJ k (by omega)).2 c h)) (λc=>Iff.rfl),λc aa=>?_⟩;rcases aa with aa | ⟨k,hk,h⟩
   ·exact (aH _).2 (.inl aa)
   ·exact (aH c).2 (.inr ⟨k,by omega,(rJ k (by omega)).2 c h⟩)
structure kj (g1 g2:aK):Prop where
 sub:∀ t x,g2 t=some x->∃ y,g1 t=some y/\mY y x
 b':∀ t x,g2 t=some x->ej g2 x
 fk:∀ t z q n m new,g2 t≠some (.bB z q n m new)
theorem cF.eB {w:World}{I:a8}{T:Array Value}{g1 g2:aK}{Fs:Nat->a8}(h:cF w I T g1 Fs) (hk:kj g1 g2):∃ b2,cF w I T g2 b2/\∀ t c,b2 t c->Fs t c:=by
 have:∀ t,∃ cY:a8,(∀ x,g2 t=some x->∃ v,T[t]?=some v/\R w I (dR w T g2) x v cY)/\(∀ c,cY c->Fs t c)/\(g2 t=none->∀ c,¬ cY c):=by
  intro t;cases j:g2 t with
  | none=>exact ⟨ct,by simp,λ_ h=>h.elim,λ_ _ h=>h⟩
  | some x =>
   obtain ⟨y,al,hw⟩:=hk.sub t x j;obtain ⟨v,hv,aY⟩:=h.mw.rel t y al;have ml:∀ z q n m new,y≠.bB z q n m new:=by
    rintro z q n m new rfl;cases hw with
    | refl=>exact hk.fk _ _ _ _ _ _ j
    | dead bG=>rcases bG with bG | bG <;> cases bG
   obtain ⟨cY,jl,pn⟩:=R.eB hw (aY.hd ml);exact ⟨cY,λx' fL=>by cases fL; exact ⟨v,hv,jl.b' (hk.b' t x j)⟩,pn,by simp⟩
 obtain ⟨b2,tQ⟩:=Classical.axiomOfChoice this;refine ⟨b2,⟨λt x j=>?_,λt aq=>(tQ t).2.2 aq,λt t' c h1 af=>h.eu _ _ _ ((tQ t).2.1 c h1) ((tQ t').2.1 c af),λt c aa=>h.bm _ _ ((tQ t).2.1 c aa),h.lt,λt t' z p n m new _ _ _ _ h1=>absurd h1 (hk.fk _ _ _ _ _ _),h.hV⟩,λt=>(tQ t).2.1⟩;obtain ⟨v,hv,aY⟩:=(tQ t).1 x j;exact ⟨v,hv,.tree aY⟩
theorem fN.weaken {c:Code}{g g1 g':aK}{e:Exit}(hk:kj g g1) (h:fN P N c g1 e g'):fN P N c g e g':=by
 intro Q a w I Fs bn a_ dA;obtain ⟨b2,dZ,gx⟩:=bn.eB hk;exact h dZ a_ λbZ w' aA=>dA _ _ (h2.trans rfl hA.refl ⟨Fr.refl _ _,λ_ h=>h,λ_ h=>.inl h,λc ⟨t,aa⟩=>.inl ⟨t,gx t c aa⟩⟩ aA)
theorem tl.weaken {c:Code}{g g1 g':aK}{e:Exit}(hk:kj g g1) (h:tl P N c g1 e g'):tl P N c g e g':=by
 intro Q a w I Fs bn a_ dA;obtain ⟨b2,dZ,gx⟩:=bn.eB hk;exact h dZ a_ λbZ w' aA=>dA _ _ (h2.trans rfl hA.refl ⟨Fr.refl _ _,λ_ h=>h,λ_ h=>.inl h,λc ⟨t,aa⟩=>.inl ⟨t,gx t c aa⟩⟩ aA)
end
end Go.Own
namespace Go.Own
open Go
set_option linter.unusedSectionVars false
variable [cI]
inductive AF (P:Program) (g:aK):ResultVar->ab->Prop
 | tmp {t:Nat}{y:ab}(h:bo g (.tmp t)=some y):AF P g (.tmp t) y
 | cell {a:Nat}{t ty:TypeId}{y:ab}(h:cU P g (.load t (.tmp a)) ty y):AF P g (.cell a t) y
inductive rv (P:Program) (g:aK):List ResultVar->List ab->Prop
 | nil:rv P g [] []
 | cons {r:ResultVar}{rs:List ResultVar}{y:ab}{ys:List ab}(h:AF P g r y) (aq:rv P g rs ys):rv P g (r::rs) (y::ys)
def oV:List ab->ab
 | [x]=>x
 | l=>.bQ l
def x6:List Value->Value
 | [x]=>x
 | l=>.tuple l.toArray
def wa (tmps:Array Value):ResultVar->Sem Value
 | .tmp t=>pure (tmps.getD t undef)
 | .cell a t=>do loadVar t (<- asAddr (tmps.getD a undef))
section
variable {P:Program}{w:World}{I:a8}{g:aK}{Fs:Nat->a8}
theorem AF.run {a:Act}(h:cF w I a.tmps g Fs) {r:ResultVar}{y:ab}(ah:AF P g r y):∃ v,(wa a.tmps r).run P w=.ok v w/\R w I (dR w a.tmps g) y v ct:=by
 cases ah with
 | @tmp t y h1=>exact ⟨_,rfl,la h h1 rfl⟩
 | @cell a0 t ty y h1 =>
  obtain ⟨v, hv, aY⟩ := cU.sound h rfl (o := { dst := none, op := .load t (.tmp a0), type := ty, pos := "", after := #[], guard := none }) h1;refine ⟨v,?_,aY⟩;have he:a.eval (.tmp a0)=a.tmps.getD a0 undef:=rfl;simp only [execOp,he] at hv;cases aa:a.tmps.getD a0 undef with
  | pointer ad =>
   cases ad with
   | some ad =>
    rw [aa] at hv;simp only [Instr.loadAt,Instr.sureAddr] at hv;simp only [wa,aa,asAddr];have au:(pure ad >>= λx=>loadVar t x:Sem Value)=loadVar t ad:=by simp
    rw [au];revert hv;generalize a7:loadVar t ad=q;intro hv;simp [a7] at hv;cases EH:q.run P w with
    | ok x fp=>rw [EH] at hv; simp at hv; rw [hv.1,hv.2]
    | halt e fp=>rw [EH] at hv; simp at hv
   | none=>rw [aa] at hv; simp [Instr.loadAt,Instr.sureAddr] at hv
  | _=>rw [aa] at hv; simp [Instr.loadAt,Instr.sureAddr] at hv
theorem PK {f:ResultVar->Sem Value}:∀ (l:List ResultVar) (vs:List Value),l.length=vs.length->(∀ (k:Nat) (r:ResultVar) (v:Value),l[k]?=some r->vs[k]?=some v->(f r).run P w=.ok v w)->(l.mapM f).run P w=.ok vs w
 | [],[],_,_=>rfl
 | r::l,v::vs,aj,h=>by
  have aO:=h 0 r v rfl rfl;have h1:=PK l vs (by simpa using aj) λk r v ah hv=>h (k+1) r v (by simpa using ah) (by simpa using hv);simp [List.mapM_cons,aO,h1]
 | [],_::_,aj,_=>by simp at aj
 | _::_,[],aj,_=>by simp at aj
theorem Y_ {fn:Func}{tmps:Array Value}{vs:List Value}(aj:fn.results.toList.length=vs.length) (h:∀ (k:Nat) (r:ResultVar) (v:Value),fn.results.toList[k]?=some r->vs[k]?=some v->(wa tmps r).run P w=.ok v w):(results fn tmps).run P w=.ok (x6 vs) w:=by
 have h1:=PK fn.results.toList vs aj h;have af:fn.results.mapM (wa tmps)=List.toArray <$> fn.results.toList.mapM (wa tmps):=Array.mapM_eq_mapM_toList;have aJ:(fn.results.mapM (wa tmps)).run P w=.ok vs.toArray w:=by rw [af]; simp [h1]
 have bx:results fn tmps=(do let vs <- fn.results.mapM (wa tmps); pure (if h:vs.size=1 then vs[0] else .tuple vs)):=by
  unfold results;congr 1
 rw [bx];simp only [Sem.run_bind,aJ]
 match vs with
 | []=>rfl
 | [x]=>rfl
 | x::y::l=>simp [x6]
theorem rv.length {g:aK}{rs:List ResultVar}{ys:List ab}(h:rv P g rs ys):rs.length=ys.length:=by
 induction h with
 | nil=>rfl
 | cons _ _ aM=>simp [aM]
theorem rv.run {a:Act}(h:cF w I a.tmps g Fs) {rs:List ResultVar}{ys:List ab}(ah:rv P g rs ys):∃ vs:List Value,rs.length=vs.length/\(∀ (k:Nat) (r:ResultVar) (v:Value),rs[k]?=some r->vs[k]?=some v->(wa a.tmps r).run P w=.ok v w) /\
  ∀ (k:Nat) (y:ab) (v:Value),ys[k]?=some y->vs[k]?=some v->R w I (dR w a.tmps g) y v ct:=by
 induction ah with
 | nil=>exact ⟨[],rfl,by simp,by simp⟩
 | cons h1 _ aM =>
  obtain ⟨v,hv,aY⟩:=h1.run h;obtain ⟨vs,aj,af,aJ⟩:=aM;refine ⟨v::vs,by simp [aj],λk r u ah hu=>?_,λk y u al hu=>?_⟩
  ·cases k with
   | zero=>simp at ah hu; subst ah hu; exact hv
   | succ k=>exact af k r u (by simpa using ah) (by simpa using hu)
  ·cases k with
   | zero=>simp at al hu; subst al hu; exact aY
   | succ k=>exact aJ k y u (by simpa using al) (by simpa using hu)
theorem Hand.oV {ρ:ab->Value->Prop}{Fs:Nat->a8}{xs:List ab}{vs:List Value}{dm:Nat->a8}(h:Hand w I ρ Fs xs vs dm) (aA:∀ x∈xs,cE x) (ρ':ab->Value->Prop):R w I ρ' (oV xs) (x6 vs) (λc=>∃ k,k<xs.length/\dm k c)/\cE (oV xs):=by
 have bQ:R w I ρ' (.bQ xs) (.tuple vs.toArray) (λc=>∃ k,k<xs.length/\dm k c) :=
  .bQ (by simpa using h.len) (λk x u j hu=>(h.rel k x u j (by simpa using hu)).bl (aA x (List.mem_of_getElem? j))) h.eu λc=>Iff.rfl
 match xs,vs,h,aA,bQ with
 | [],[],_,_,bQ=>exact ⟨bQ,.bQ (by simp)⟩
 | [x],[v],h,aA,_ =>
  refine ⟨((h.rel 0 x v rfl rfl).bl (aA x (by simp))).y5 λc=>⟨λaa=>⟨0,by simp,aa⟩,λ⟨k,hk,aa⟩=>?_⟩,aA x (by simp)⟩;have:k=0:=by simpa using hk
  subst this; exact aa
 | x::y::l,v::u::m,_,aA,bQ=>exact ⟨bQ,.bQ aA⟩
 | [],_::_,h,_,_=>have:=h.len; simp at this
 | _::_,[],h,_,_=>have:=h.len; simp at this
 | [_],_::_::_,h,_,_=>have:=h.len; simp at this
 | _::_::_,[_],h,_,_=>have:=h.len; simp at this
structure Leaves (P:Program) (N:cS) (rs:List ResultVar) (g':aK) (n:Nat) (outs:List (Option ab)) (res:ab):Prop where
 ex:∃ ys xs g1,rv P g' rs ys/\Take g' ys xs g1/\res=oV xs/\∀ (k:Nat) (x:ab),outs[k]?=some (some x)->g1 k=some x/\cE x/\k∈N.pins
 len:outs.length=n
theorem cF.more {T:Array Value}(h:cF w I T g Fs) {T':Array Value}(dk:∀ t,g t≠none->T'[t]?=T[t]?):cF w I T' g Fs:=by
 refine ⟨λt x j=>?_,h.kM,h.eu,h.bm,h.lt,h.q8,h.hV⟩;obtain ⟨u,hu,aY⟩:=h.rel t x j;exact ⟨u,by rw [dk t (by rw [j]; simp)]; exact hu,h.wW dk (λ_ _ _=>rfl) (λ_ _=>rfl) (λ_ h=>h) (λ_ _ h=>h) aY λ_ _=>rfl⟩
end
end Go.Own
namespace Go.Own
open Go
set_option linter.unusedSectionVars false
variable [cI]
section
variable {P:Program}{N:cS}
def W (P:Program) (N:cS) (c:Code) (g:aK) (Φ:Exit->aK->Prop):Prop :=
 ∀ ⦃Q:Exit->Act->World->Prop⦄ ⦃a:Act⦄ ⦃w:World⦄ ⦃I:a8⦄ ⦃Fs:Nat->a8⦄,cF w I a.tmps g Fs->a.tmps.size=N.size->(∀ e g' bZ w',Φ e g'->h2 N a w I Fs g' bZ w'->Q e bZ w')->c.wp P Q a w
def o0 (Ψ:aK->Prop) (Φ:Exit->aK->Prop):Exit->aK->Prop
 | .normal,g=>Ψ g
 | e,g=>Φ e g
def lX (id:Nat) (Φ:Exit->aK->Prop):Exit->aK->Prop
 | .exit k,g=>if k=id then Φ .normal g else Φ (.exit k) g
 | e,g=>Φ e g
theorem h2.refl {a:Act}{w:World}{I:a8}{g:aK}{Fs:Nat->a8}(h:cF w I a.tmps g Fs):h2 N a w I Fs g a w:=⟨rfl,hA.refl,_,_,h,kX.refl _ _ _⟩
theorem fN.w {c:Code}{g g':aK}{e:Exit}{Φ:Exit->aK->Prop}(h:fN P N c g e g') (nw:Φ e g'):W P N c g Φ :=
 λ_ _ _ _ _ bn a_ dA=>h bn a_ λbZ w' aA=>dA _ _ bZ w' nw aA
theorem W.mono {c:Code}{g:aK}{Φ og:Exit->aK->Prop}(h:W P N c g Φ) (nw:∀ e g',Φ e g'->og e g'):W P N c g og :=
 λ_ _ _ _ _ bn a_ dA=>h bn a_ λ_ _ bZ w' h1 aA=>dA _ _ bZ w' (nw _ _ h1) aA
theorem W.skip {g:aK}{Φ:Exit->aK->Prop}(h:Φ .normal g):W P N .skip g Φ:=fN.skip.w h
theorem W.ret {g:aK}{Φ:Exit->aK->Prop}(h:Φ .ret g):W P N .ret g Φ:=fN.ret.w h
theorem W.exit {g:aK}{id:Nat}{Φ:Exit->aK->Prop}(h:Φ (.exit id) g):W P N (.exit id) g Φ:=fN.exit.w h
theorem W.seq {x y:Code}{g:aK}{Φ:Exit->aK->Prop}(h:W P N x g (o0 (λg1=>W P N y g1 Φ) Φ)):W P N (.seq x y) g Φ:=by
 intro Q a w I Fs bn a_ dA;refine wp_seq (h bn a_ λe g1 aB gH h1 aA=>?_);cases e with
 | normal =>
  obtain ⟨cr,b9,I',b2,dZ,bT⟩:=aA;exact h1 dZ (b9.1.trans a_) λtL g2 a2 fp af oI=>dA _ _ _ _ af (h2.trans cr b9 bT oI)
 | _=>exact dA _ _ _ _ h1 aA
theorem W.cond {c:Operand}{x y:Code}{g:aK}{Φ:Exit->aK->Prop}{b:Bool}(aa:bo g c=some (.lit (.bool b))) (h:W P N (if b then x else y) g Φ):W P N (.cond c x y) g Φ :=
 λ_ _ _ _ _ bn a_ dA=>wp_cond (t:=b) (la bn aa rfl).h'.1 (h bn a_ dA)
theorem W.Md {c:Operand}{x y:Code}{g:aK}{Φ:Exit->aK->Prop}(aa:bo g c=some (.lit (.bool true))) (h:W P N x g Φ):W P N (.cond c x y) g Φ:=W.cond aa h
theorem W.Mb {c:Operand}{x y:Code}{g:aK}{Φ:Exit->aK->Prop}(aa:bo g c=some (.lit (.bool false))) (h:W P N y g Φ):W P N (.cond c x y) g Φ:=W.cond aa h
theorem W.block {id:Nat}{c:Code}{g:aK}{Φ:Exit->aK->Prop}(h:W P N c g (lX id Φ)):W P N (.block id c) g Φ:=by
 intro Q a w I Fs bn a_ dA;refine wp_block (h bn a_ λe g1 aB gH h1 aA=>?_);cases e with
 | exit k =>
  have af:if k=id then Φ .normal g1 else Φ (.exit k) g1:=h1
  grind [Exit.inBlock]
 | _=>exact dA _ _ _ _ h1 aA
def pd (P:Program) (N:cS) (c:Code) (g:aK) (Φ:Exit->aK->Prop):Prop :=
 ∀ ⦃Q:Exit->Act->World->Prop⦄ ⦃a:Act⦄ ⦃w:World⦄ ⦃I:a8⦄ ⦃Fs:Nat->a8⦄,cF w I a.tmps g Fs->a.tmps.size=N.size->(∀ e g' bZ w',Φ e g'->h2 N a w I Fs g' bZ w'->Q e bZ w')->DC P c Q a w
theorem W.loop {c:Code}{g:aK}{Φ:Exit->aK->Prop}(h:pd P N c g Φ):W P N (.loop c) g Φ:=by
 intro Q a w I Fs bn a_ dA b k cs;obtain ⟨e,bZ,w',a7,lx⟩:=h bn a_ dA b k cs;exact ⟨e,bZ,w',a7,.of_steps (.one step_loop) lx⟩
theorem pd.step {c:Code}{g:aK}{Φ:Exit->aK->Prop}(h:W P N c g (o0 (λg1=>pd P N c g1 Φ) Φ)):pd P N c g Φ:=by
 intro Q a w I Fs bn a_ dA;refine JD (h bn a_ λe g1 aB gH h1 aA=>?_);cases e with
 | normal =>
  obtain ⟨cr,b9,I',b2,dZ,bT⟩:=aA;exact h1 dZ (b9.1.trans a_) λtL g2 a2 fp af oI=>dA _ _ _ _ af (h2.trans cr b9 bT oI)
 | _=>exact dA _ _ _ _ h1 aA
theorem W.weaken {c:Code}{g g1:aK}{Φ:Exit->aK->Prop}(hk:kj g g1) (h:W P N c g1 Φ):W P N c g Φ:=by
 intro Q a w I Fs bn a_ dA;obtain ⟨b2,dZ,gx⟩:=bn.eB hk;exact h dZ a_ λe g' bZ w' h1 aA=>dA _ _ _ _ h1 (h2.trans rfl hA.refl ⟨Fr.refl _ _,λ_ h=>h,λ_ h=>.inl h,λc ⟨t,aa⟩=>.inl ⟨t,gx t c aa⟩⟩ aA)
theorem pd.weaken {c:Code}{g g1:aK}{Φ:Exit->aK->Prop}(hk:kj g g1) (h:pd P N c g1 Φ):pd P N c g Φ:=by
 intro Q a w I Fs bn a_ dA;obtain ⟨b2,dZ,gx⟩:=bn.eB hk;exact h dZ a_ λe g' bZ w' h1 aA=>dA _ _ _ _ h1 (h2.trans rfl hA.refl ⟨Fr.refl _ _,λ_ h=>h,λ_ h=>.inl h,λc ⟨t,aa⟩=>.inl ⟨t,gx t c aa⟩⟩ aA)
theorem W.out {c:Code}{g:aK}{Φ og:Exit->aK->Prop}(h:W P N c g Φ) (nw:∀ e g',Φ e g'->∃ g2,kj g' g2/\og e g2):W P N c g og:=by
 intro Q a w I Fs bn a_ dA;refine h bn a_ λe g' bZ w' h1 aA=>?_;obtain ⟨g2,hk,af⟩:=nw e g' h1;obtain ⟨cr,b9,I',b2,dZ,bT⟩:=aA;obtain ⟨iQ,h7,gx⟩:=dZ.eB hk;exact dA _ _ _ _ af ⟨cr,b9,I',iQ,h7,bT.trans ⟨Fr.refl _ _,λ_ h=>h,λ_ h=>.inl h,λc ⟨t,aa⟩=>.inl ⟨t,gx t c aa⟩⟩⟩
def Lk (P:Program) (N:cS) (ops:Array Oper) (is:List Nat) (g:aK) (K:aK->Prop):Prop:=∃ g',om P N ops is g g'/\K g'
theorem W.region {id:Nat}{ops:Array Oper}{g:aK}{Φ:Exit->aK->Prop}(h:Lk P N ops (List.range ops.size) g (Φ .normal)):W P N (.region id ops false) g Φ:=by
 obtain ⟨g',ah,nw⟩:=h;exact (fN.region ah).w nw
theorem b1.X3 {f:FuncId}{fn:Func}{c:Code}{args:List ab}{outs:List (Option ab)}{res:ab}{N:cS}(aS:P.funcs[f]?=some fn) (av:fn.body=some c) (a_:fn.ntmps=N.size) (aR:args.length<=N.size)
  (hlen:outs.length=args.length) (hw:W P N c (pf args) λe g'=>(e=.normal\/e=.ret)/\Leaves P N fn.results.toList g' args.length outs res):b1 P f args outs res:=by
 refine ⟨hlen,λw I vs Fs IV bn=>calls_of_wp aS av ?_⟩;have eM:({ tmps:=vs.toArray++Array.replicate (fn.ntmps - vs.toArray.size) undef,defers:=[] }:Act).tmps.size=N.size:=by
  simp; omega
 have nW:∀ t,t<vs.length->(vs.toArray++Array.replicate (fn.ntmps - vs.toArray.size) undef)[t]?=vs.toArray[t]?:=by
  intro t aq;rw [Array.getElem?_append_left (by simpa using aq)]
 refine hw (bn.more (T':=vs.toArray++Array.replicate (fn.ntmps - vs.toArray.size) undef) λt aq=>nW t ?_) eM λe g' bZ w' ⟨he,aU⟩ aA=>?_
 ·unfold pf at aq;rw [IV];rcases Nat.lt_or_ge t args.length with h | h
  ·exact h
  ·exact absurd (List.getElem?_eq_none h) aq
 obtain ⟨aP,hold,I',b2,dZ,bT⟩:=aA;obtain ⟨ys,xs,g1,NY,aq,rfl,oJ⟩:=aU.ex;obtain ⟨us,n0,h_,mI⟩:=NY.run dZ;have EU:ys.length=us.length:=by rw [<- NY.length,n0]
 obtain ⟨fF,dm,iW,ix,hj⟩:=aq.sound dZ.mw (⟨EU,λk x u j hu=>(mI k x u j hu).frame (λ_ _=>rfl) (λ_ h=>h) (λ_ _ h=>h.1) λ_ _=>rfl,λ_ _ _ _ _ h=>h.elim,λ_ _ _ _ h=>h.elim,λ_ _ _ h=>h.elim⟩:Hand w' I' (fH w' bZ.tmps) b2 ys us λ_=>ct);have gx:∀ c,lj fF xs.length dm c->∃ t,b2 t c:=by
  intro c aa;rcases hj c aa with h | ⟨_,_,h⟩
  ·exact h
  ·exact h.elim
 have VE:∃ iQ,cF w' I' (vs++[x6 us]).toArray (lZ outs (oV xs)) iQ/\∀ t c,iQ t c->∃ t,b2 t c:=by
  classical
  refine ⟨λt=>if t=outs.length then (λc=>∃ k,k<xs.length/\dm k c) else if ∃ x,outs[t]?=some (some x) then fF t else ct,⟨λt x j=>?_,λt sK c aa=>?_,λt t' c h1 af=>?_,λt c aa=>?_,dZ.lt,λt t' z p n m new bs ch bh cQ h1 af=>?_,dZ.hV⟩,λt c aa=>?_⟩
  ·unfold lZ at j;by_cases aO:t=outs.length
   ·rw [if_pos aO] at j;cases j;subst aO;refine ⟨x6 us,?_,.tree ?_⟩
    ·rw [aU.len,<- IV]; simp
    ·simpa using (ix.oV aq.Ct _).1
   ·rw [if_neg aO] at j;have fL:outs[t]?=some (some x):=by
     cases bG:outs[t]? with
     | none=>rw [bG] at j; cases j
     | some y=>rw [bG] at j; simpa using j
    obtain ⟨h1,af,aJ⟩:=oJ t x fL;have IQ:t<vs.length:=by
     have:=(List.getElem?_eq_some_iff.1 fL).1;rw [IV,<- aU.len]; exact this
    obtain ⟨v,hv,aY⟩:=iW.rel t x h1;refine ⟨v,?_,?_⟩
    ·rw [hold.2 t aJ] at hv;simp only at hv;rw [nW t IQ] at hv;simp only [List.getElem?_toArray] at hv ⊢;rw [List.getElem?_append_left IQ]; exact hv
    ·simp only [aO,if_false];rw [if_pos ⟨x,fL⟩];exact .tree ((aY.hd (by rintro z p n m new rfl; cases af)).bl af)
  ·unfold lZ at sK;by_cases aO:t=outs.length
   ·rw [if_pos aO] at sK; cases sK
   ·rw [if_neg aO] at sK;simp only [aO,if_false] at aa;rw [if_neg] at aa
    ·exact aa
    ·rintro ⟨x,j⟩;rw [j] at sK; cases sK
  ·by_cases aO:t=outs.length <;> by_cases Ee:t'=outs.length <;> simp only [aO,Ee,if_true,if_false] at h1 af
   ·rw [aO,Ee]
   ·split at af
    ·obtain ⟨k,hk,aa⟩:=h1;exact absurd af (ix.off k t' c hk aa)
    ·exact af.elim
   ·split at h1
    ·obtain ⟨k,hk,aa⟩:=af;exact absurd h1 (ix.off k t c hk aa)
    ·exact h1.elim
   ·split at h1
    ·split at af
     ·exact iW.eu _ _ _ h1 af
     ·exact af.elim
    ·exact h1.elim
  ·by_cases aO:t=outs.length <;> simp only [aO,if_true,if_false] at aa
   ·obtain ⟨k,hk,aa⟩:=aa;exact ix.bm k c hk aa
   ·split at aa
    ·exact iW.bm _ _ aa
    ·exact aa.elim
  ·have key:∀ t x,lZ outs (oV xs) t=some x->cE x:=by
    intro t x j;unfold lZ at j
    split at j
    ·cases j; exact (ix.oV aq.Ct (λ_ _=>False)).2
    ·cases bG:outs[t]? with
     | none=>rw [bG] at j; cases j
     | some y=>rw [bG] at j; exact (oJ t x (by rw [bG]; simpa using j)).2.1
   have:=key t _ h1;cases this
  ·by_cases aO:t=outs.length <;> simp only [aO,if_true,if_false] at aa
   ·obtain ⟨k,hk,aa⟩:=aa;exact gx c (.inr ⟨k,hk,aa⟩)
   ·split at aa
    ·exact gx c (.inl ⟨t,aa⟩)
    ·exact aa.elim
 obtain ⟨iQ,h7,Wu⟩:=VE;have We:bZ.defers=[]/\∃ v,(results fn bZ.tmps).run P w'=.ok v w'/\∃ ef I' b2,Ending.returned v=.returned ef/\cF w' I' (vs++[ef]).toArray (lZ outs (oV xs)) b2/\kX w I (λc=>∃ t,Fs t c) w' I' (λc=>∃ t,b2 t c) :=
  ⟨aP,x6 us,Y_ n0 h_,x6 us,I',iQ,rfl,h7,bT.trans ⟨Fr.refl _ _,λ_ h=>h,λ_ h=>.inl h,λc ⟨t,aa⟩=>.inl (Wu t c aa)⟩⟩
 rcases he with rfl | rfl <;> exact We
end
end Go.Own
namespace Go.Own
open Go
set_option linter.unusedSectionVars false
variable [cI]
def get:List (Nat × ab)->aK
 | [],_=>none
 | (s,x)::l,t=>if t=s then some x else get l t
inductive Rd (g:aK):Operand->ab->Prop
 | lit {t:Nat}{v:Value}(h:g t=some (.lit v)):Rd g (.tmp t) (.lit v)
 | k {v:Value}(h:ofConst v=.lit v):Rd g (.const v) (.lit v)
 | zz:Rd g (.const (.slice none 0 0)) .aQ
 | Jt {v:Value}{cs:List ab}(h:ofConst v=.agg cs):Rd g (.const v) (.agg cs)
 | aQ {t:Nat}(h:g t=some .aQ):Rd g (.tmp t) .aQ
 | bm {t z n:Nat}{cs:List ab}(h:g t=some (.bm z n cs)):Rd g (.tmp t) (.bm z n cs)
 | own {t z n:Nat}{cs:List ab}(h:g t=some (.own z n cs)):Rd g (.tmp t) (.bg z ⟨t,[]⟩ n)
 | obj {t:Nat}{c:ab}{cs:List ab}(h:g t=some (.obj (c::cs))):Rd g (.tmp t) (.ptr ⟨t,[]⟩ 0)
 | cO {t:Nat}{cs:List ab}(h:g t=some (.cO cs)):Rd g (.tmp t) (.cO cs)
 | ptr {t k:Nat}{p:Place}(h:g t=some (.ptr p k)):Rd g (.tmp t) (.ptr p k)
 | bg {t z n:Nat}{p:Place}(h:g t=some (.bg z p n)):Rd g (.tmp t) (.bg z p n)
 | sub {t z lo n:Nat}{p:Place}(h:g t=some (.sub z p lo n)):Rd g (.tmp t) (.sub z p lo n)
 | bB {t z n m:Nat}{p:Place}{new:List ab}(h:g t=some (.bB z p n m new)):Rd g (.tmp t) (.bg z ⟨t,[]⟩ (n+m))
 | agg {t:Nat}{cs cs':List ab}(h:g t=some (.agg cs)) (aa:(cs.mapIdx λi x=>fD 1 (Place.push ⟨t,[]⟩ i) x)=cs'):Rd g (.tmp t) (.agg cs')
 | bQ {t:Nat}{cs cs':List ab}(h:g t=some (.bQ cs)) (aa:(cs.mapIdx λi x=>fD 1 (Place.push ⟨t,[]⟩ i) x)=cs'):Rd g (.tmp t) (.bQ cs')
 | func {f:FuncId}:Rd g (.func f) (.dj (.func f) [] [])
 | dj {t:Nat}{fn:Fn}{cs:List ab}(h:g t=some (.dj fn [] cs)):Rd g (.tmp t) (.dj fn [] cs)
 | mp {t:Nat}{q:Array MapEntry->Nat->Prop}(h:g t=some (.mp q)):Rd g (.tmp t) (.hr ⟨t,[]⟩)
 | hr {t:Nat}{p:Place}(h:g t=some (.hr p)):Rd g (.tmp t) (.hr p)
 | imp {t:Nat}{q:Array MapEntry->Nat->Prop}(h:g t=some (.imp q)):Rd g (.tmp t) (.imp q)
theorem Rd.bo {g:aK}{x:Operand}{y:ab}(h:Rd g x y):bo g x=some y:=by
 cases h with
 | agg h aa=>subst aa; simp [Own.bo,h,n_,fD]
 | bQ h aa=>subst aa; simp [Own.bo,h,n_,fD]
 | k h=>simp [Own.bo,h]
 | zz=>rfl
 | Jt h=>simp [Own.bo,h]
 | func=>rfl
 | _ h=>simp [Own.bo,h,n_,fD]
section
variable {P:Program}{N:cS}{ops:Array Oper}{g:aK}{K:aK->Prop}{l:List Oper}
def aC (P:Program) (N:cS) (ops:Array Oper) (l:List Oper) (g:aK) (K:aK->Prop):Prop:=∀ i,ops.toList.drop i=l->Lk P N ops (List.range' i l.length) g K
theorem W.Aa {id:Nat}{l:List Oper}{g:aK}{Φ:Exit->aK->Prop}(h:aC P N l.toArray l g (Φ .normal)):W P N (.region id l.toArray false) g Φ:=by
 refine W.region ?_;have:=h 0 (by simp)
 grind [List.range_eq_range']
theorem aC.nil (h:K g):aC P N ops [] g K:=λ_ _=>⟨g,.nil,h⟩
theorem drop_cons {i:Nat}{o:Oper}(h:ops.toList.drop i=o::l):ops[i]?=some o/\ops.toList.drop (i+1)=l:=by
 have h1:(ops.toList.drop i)[0]?=some o:=by rw [h]; rfl
 rw [List.getElem?_drop] at h1;refine ⟨by simpa using h1,?_⟩;rw [<- List.drop_drop,h];rfl
variable {d:Nat}{op:Op}{ty:TypeId}{pos:String}{after:Array Edge}{x:ab}
theorem aC.Ag {r:Option ab}{o:Oper}(aP:o.dst=some d) (a_:N.ok d=true) (aS:g d=none) (ay:pV P g ops o r) (hk:aC P N ops l (x1 g d r) K):aC P N ops (o::l) g K:=by
 intro i hi;obtain ⟨h1,af⟩:=drop_cons hi;obtain ⟨g',ah,c6⟩:=hk (i+1) af;exact ⟨g',.step h1 aP aS a_ ay ah,c6⟩
inductive K9 (g:aK) (d:Nat):aK->Prop
 | new (h:g d=none):K9 g d g
 | jH {y:ab}(h:g d=some y) (aj:leaf y=true):K9 g d (del g d)
inductive e7 (g:aK) (ops:Array Oper):Option (Nat × Bool)->Prop
 | none:e7 g ops none
 | yes {J t:Nat}{b:Bool}(h:(ops[J]?).bind (·.dst)=some t) (aN:g t=some (.lit (.bool b))):e7 g ops (some (J,b))
variable {gd:Option (Nat × Bool)}{g1:aK}
theorem e7.del {y:ab}(h:e7 g ops gd) (aP:g d=some y) (av:∀ b,y≠.lit (.bool b)):ir (del g d) ops ⟨some d,op,ty,pos,after,gd⟩ true:=by
 cases h with
 | none=>rfl
 | @yes J t b h aN =>
  have:t≠d:=by
   grind
  exact ⟨t,h,.inl ⟨b,by simp only [Own.del,if_neg this,aN],by simp⟩⟩
theorem e7.wanted (h:e7 g ops gd):ir g ops ⟨some d,op,ty,pos,after,gd⟩ true:=by
 cases h with
 | none=>rfl
 | @yes J t b h aN=>exact ⟨t,h,.inl ⟨b,aN,by simp⟩⟩
theorem aC.KH (au:b7 P g op ty x) (a_:N.ok d=true) (aS:g d=none) (hw:ir g ops ⟨some d,op,ty,pos,after,gd⟩ true) (hk:aC P N ops l (cK g d x) K):aC P N ops (⟨some d,op,ty,pos,after,gd⟩::l) g K :=
 .Ag rfl a_ aS (r:=some x) (.inl ⟨hw,.inl au⟩) hk
theorem Z3:cK (del g d) d x=cK g d x:=by
 grind [cK,del]
theorem aC.val (au:cU P g op ty x) (a_:N.ok d=true) (aS:g d=none) (aN:e7 g ops gd) (hk:aC P N ops l (cK g d x) K):aC P N ops (⟨some d,op,ty,pos,after,gd⟩::l) g K :=
 .KH (.eD au) a_ aS aN.wanted hk
theorem aC.over {y:ab}(au:cU P (del g d) op ty x) (a_:N.ok d=true) (aS:g d=some y) (aj:leaf y=true) (hk:aC P N ops l (cK g d x) K):aC P N ops (⟨some d,op,ty,pos,after,none⟩::l) g K:=by
 intro i hi;obtain ⟨g',ah,c6⟩:=aC.KH (pos:=pos) (after:=after) (gd:=Option.none) (.eD au) a_ (by simp [del]) (e7.wanted .none) (by rw [Z3]; exact hk) i hi;exact ⟨g',.drop aS aj ah,c6⟩
theorem aC.Z7 (au:b7 P g op ty x) (a_:N.ok d=true) (aS:g d=none) (aN:e7 g ops gd) (hk:aC P N ops l (cK g d x) K):aC P N ops (⟨some d,op,ty,pos,after,gd⟩::l) g K :=
 .KH au a_ aS aN.wanted hk
theorem aC.call (au:cV P g op x) (a_:N.ok d=true) (aS:g d=none) (aN:e7 g ops gd) (hk:aC P N ops l (cK g d x) K):aC P N ops (⟨some d,op,ty,pos,after,gd⟩::l) g K :=
 .Ag rfl a_ aS (r:=some x) (.inl ⟨aN.wanted,.inr au⟩) hk
theorem aC.pass {J t':Nat}{b:Bool}(h:(ops[J]?).bind (·.dst)=some t') (aN:g t'=some (.lit (.bool (!b)))) (a_:N.ok d=true) (aS:g d=none) (hk:aC P N ops l g K):aC P N ops (⟨some d,op,ty,pos,after,some (J,b)⟩::l) g K :=
 .Ag rfl a_ aS (r:=Option.none) ⟨t',h,.inl ⟨!b,aN,by cases b <;> rfl⟩⟩ hk
variable {jC:Option Nat}
theorem aC.forget {g1:aK}(hk:hx g g1) (h:aC P N ops l g1 K):aC P N ops l g K:=by
 intro i hi;obtain ⟨g',ah,c6⟩:=h i hi;exact ⟨g',.forget hk ah,c6⟩
variable {a b:Operand}{t t2:TypeId}{k:IntKind}{m n:Int}
theorem cU.add (j:Rd g a (.lit (.int k m))) (al:Rd g b (.lit (.int k n))):cU P g (.binOp .add t a b t2) ty (.lit (.int k (k.wrap (m+n)))) :=
 .bin j.bo al.bo rfl λw=>by simp [eqGuard,binOp,Op.intArith]
theorem cU.Zz (j:Rd g a (.lit (.int k m))) (al:Rd g b (.lit (.int k n))):cU P g (.binOp .sub t a b t2) ty (.lit (.int k (k.wrap (m - n)))) :=
 .bin j.bo al.bo rfl λw=>by simp [eqGuard,binOp,Op.intArith]
theorem cU.mul (j:Rd g a (.lit (.int k m))) (al:Rd g b (.lit (.int k n))):cU P g (.binOp .mul t a b t2) ty (.lit (.int k (k.wrap (m * n)))) :=
 .bin j.bo al.bo rfl λw=>by simp [eqGuard,binOp,Op.intArith]
theorem cU.quo (j:Rd g a (.lit (.int k m))) (al:Rd g b (.lit (.int k n))) (h:n≠0):cU P g (.binOp .quo t a b t2) ty (.lit (.int k (k.wrap (m.tdiv n)))) :=
 .bin j.bo al.bo rfl λw=>by simp [eqGuard,binOp,Op.intDiv,h]
theorem cU.rem (j:Rd g a (.lit (.int k m))) (al:Rd g b (.lit (.int k n))) (h:n≠0):cU P g (.binOp .rem t a b t2) ty (.lit (.int k (m.tmod n))) :=
 .bin j.bo al.bo rfl λw=>by simp [eqGuard,binOp,Op.intDiv,h]
theorem cU.cat {s u:ByteArray}(j:Rd g a (.lit (.string s))) (al:Rd g b (.lit (.string u))) (h:s.size+u.size<=9223372036854775807):cU P g (.binOp .add t a b t2) ty (.lit (.string (s++u))) :=
 .bin j.bo al.bo rfl λw=>by
  have:¬ ((s.size+u.size:Nat):Int) > IntKind.i64.max:=by
   have:IntKind.i64.max=9223372036854775807:=by decide
   omega
  simp only [eqGuard,binOp,Op.stringOp,if_neg this];simp
theorem LX {s u:ByteArray}(h:s.toList=u.toList):s=u:=by
 have h1:s.data.toList=u.data.toList:=by
  grind [ByteArray.toList_eq]
 cases s
 simp_all
theorem cU.nS {s u:ByteArray}(j:Rd g a (.lit (.string s))) (al:Rd g b (.lit (.string u))) {c:Bool}(aa:c=true↔s=u):cU P g (.binOp .eql t a b t2) ty (.lit (.bool c)) :=
 .bin j.bo al.bo rfl λw=>by
  have:(s.toList == u.toList)=c:=by
   rw [Bool.eq_iff_iff,aa];simp only [beq_iff_eq];exact ⟨LX,λh=>by rw [h]⟩
  simp [eqGuard,binOp,Op.stringOp,this]
theorem cU.nE {s u:ByteArray}(j:Rd g a (.lit (.string s))) (al:Rd g b (.lit (.string u))) {c:Bool}(aa:c=true↔s≠u):cU P g (.binOp .neq t a b t2) ty (.lit (.bool c)) :=
 .bin j.bo al.bo rfl λw=>by
  have:(s.toList == u.toList)=!c:=by
   rw [Bool.eq_iff_iff];simp only [beq_iff_eq,Bool.not_eq_true'];cases c with
   | true=>simp only [true_iff] at aa; simp only [Bool.true_eq_false,iff_false]; exact λh=>aa (LX h)
   | false =>
    simp only [Bool.false_eq_true,false_iff,Decidable.not_not] at aa;simp [aa]
  simp [eqGuard,binOp,Op.stringOp,this]
theorem cU.lss (j:Rd g a (.lit (.int k m))) (al:Rd g b (.lit (.int k n))) {c:Bool}(aa:c=true↔m<n):cU P g (.binOp .lss t a b t2) ty (.lit (.bool c)) :=
 .bin j.bo al.bo rfl λw=>by
  have:decide (m<n)=c:=by rw [Bool.eq_iff_iff,aa]; simp
  simp [eqGuard,binOp,Op.intCmp,this]
theorem cU.leq (j:Rd g a (.lit (.int k m))) (al:Rd g b (.lit (.int k n))) {c:Bool}(aa:c=true↔m<=n):cU P g (.binOp .leq t a b t2) ty (.lit (.bool c)) :=
 .bin j.bo al.bo rfl λw=>by
  have:decide (m<=n)=c:=by rw [Bool.eq_iff_iff,aa]; simp
  simp [eqGuard,binOp,Op.intCmp,this]
theorem cU.gtr (j:Rd g a (.lit (.int k m))) (al:Rd g b (.lit (.int k n))) {c:Bool}(aa:c=true↔n<m):cU P g (.binOp .gtr t a b t2) ty (.lit (.bool c)) :=
 .bin j.bo al.bo rfl λw=>by
  have:decide (n<m)=c:=by rw [Bool.eq_iff_iff,aa]; simp
  simp [eqGuard,binOp,Op.intCmp,this]
theorem cU.geq (j:Rd g a (.lit (.int k m))) (al:Rd g b (.lit (.int k n))) {c:Bool}(aa:c=true↔n<=m):cU P g (.binOp .geq t a b t2) ty (.lit (.bool c)) :=
 .bin j.bo al.bo rfl λw=>by
  have:decide (n<=m)=c:=by rw [Bool.eq_iff_iff,aa]; simp
  simp [eqGuard,binOp,Op.intCmp,this]
theorem cU.eql (j:Rd g a (.lit (.int k m))) (al:Rd g b (.lit (.int k n))) {c:Bool}(aa:c=true↔m=n):cU P g (.binOp .eql t a b t2) ty (.lit (.bool c)) :=
 .bin j.bo al.bo rfl λw=>by
  have:(m == n)=c:=by rw [Bool.eq_iff_iff,aa]; simp
  simp [eqGuard,binOp,Op.intCmp,this]
theorem cU.neq (j:Rd g a (.lit (.int k m))) (al:Rd g b (.lit (.int k n))) {c:Bool}(aa:c=true↔m≠n):cU P g (.binOp .neq t a b t2) ty (.lit (.bool c)) :=
 .bin j.bo al.bo rfl λw=>by
  have:(m != n)=c:=by rw [Bool.eq_iff_iff,aa]; simp
  simp [eqGuard,binOp,Op.intCmp,this]
theorem cU.not {c:Bool}(j:Rd g a (.lit (.bool c))):cU P g (.unOp .not t a) ty (.lit (.bool (!c))) :=
 .un j.bo rfl λw=>by simp [Op.unary]
theorem cU.Yt {c a b:Operand}{y:ab}(aa:Rd g c (.lit (.bool true))) (ah:Rd g a y):cU P g (.pick c a b) ty y:=.pick aa.bo ah.bo
theorem cU.Ys {c a b:Operand}{y:ab}(aa:Rd g c (.lit (.bool false))) (ah:Rd g b y):cU P g (.pick c a b) ty y:=.pick aa.bo ah.bo
theorem cU.oR {s:ByteArray}(j:Rd g a (.lit (.string s))) (aq:oc P t=true):cU P g (.call { callee:=.builtin .len,args:=#[a],argTypes:=#[t] }) ty (.lit (.int .i64 s.size)) :=
 .lits (vs:=[.string s]) (by simp [j.bo]) rfl λw cs=>by
  simp [builtin,Builtin.len_,run_underlying (Kw aq),goInt]
section
variable {Ψ:aK->Prop}{Φ:Exit->aK->Prop}{id k:Nat}
theorem ZR (h:Ψ g):o0 Ψ Φ .normal g:=h
theorem ZS (h:Φ .ret g):o0 Ψ Φ .ret g:=h
theorem ZQ (h:Φ (.exit k) g):o0 Ψ Φ (.exit k) g:=h
theorem Xj (h:Φ .normal g):lX id Φ .normal g:=h
theorem Xk (h:Φ .ret g):lX id Φ .ret g:=h
theorem Xh (h:Φ .normal g):lX id Φ (.exit id) g:=by
 show if id=id then Φ .normal g else Φ (.exit id) g
 grind
theorem Xi (hk:Nat.beq k id=false) (h:Φ (.exit k) g):lX id Φ (.exit k) g:=by
 show if k=id then Φ .normal g else Φ (.exit k) g
 grind [Nat.ne_of_beq_eq_false]
end
def Fin (P:Program) (N:cS) (rs:List ResultVar) (n:Nat) (outs:List (Option ab)) (res:ab) (e:Exit) (g':aK):Prop:=(e=.normal\/e=.ret)/\Leaves P N rs g' n outs res
theorem b1.fin {f:FuncId}{fn:Func}{c:Code}{args:List ab}{outs:List (Option ab)}{res:ab}{N:cS}(aS:P.funcs[f]?=some fn) (av:fn.body=some c) (a_:fn.ntmps=N.size) (aR:Nat.ble args.length N.size=true) (hlen:outs.length=args.length)
  (hw:W P N c (pf args) (Fin P N fn.results.toList args.length outs res)):b1 P f args outs res:=.X3 aS av a_ (Nat.le_of_ble_eq_true aR) hlen hw
def sW (outs:List (Option ab)):Bool:=outs.all λx=>x.isNone
theorem Fm {outs:List (Option ab)}(h:sW outs=true) (k:Nat) (x:ab):outs[k]?≠some (some x):=by
 intro e;have:=List.all_eq_true.1 h _ (List.mem_of_getElem? e)
 grind
theorem Fin.one {t:Nat}{y res:ab}{outs:List (Option ab)}{n:Nat}(al:Rd g (.tmp t) y) (aA:cE y) (aU:sW outs=true) (aj:outs.length=n) (he:y=res):Fin P N [.tmp t] n outs res .ret g :=
 ⟨.inr rfl,⟨[y],[y],g,.cons (.tmp al.bo) .nil,.bl (by simpa using aA),he.symm,λk x hk=>absurd hk (Fm aU k x)⟩,aj⟩
inductive AE (g:aK):List ResultVar->List ab->Prop
 | nil:AE g [] []
 | cons {t:Nat}{y:ab}{rs:List ResultVar}{ys:List ab}(h:Rd g (.tmp t) y) (aA:cE y) (aq:AE g rs ys):AE g (.tmp t::rs) (y::ys)
theorem AE.spec {rs:List ResultVar}{ys:List ab}(h:AE g rs ys):rv P g rs ys/\∀ y∈ys,cE y:=by
 induction h with
 | nil=>exact ⟨.nil,by simp⟩
 | cons h aA _ aM=>exact ⟨.cons (.tmp h.bo) aM.1,pC aA aM.2⟩
inductive ru (g:aK):List Operand->List ab->Prop
 | nil:ru g [] []
 | cons {x:Operand}{y:ab}{xs:List Operand}{ys:List ab}(h:Rd g x y) (aA:cE y) (aq:ru g xs ys):ru g (x::xs) (y::ys)
theorem ru.spec {xs:List Operand}{ys:List ab}(h:ru g xs ys):fC g xs=some ys/\∀ y∈ys,cE y:=by
 induction h with
 | nil=>exact ⟨rfl,by simp⟩
 | cons h aA _ aM=>exact ⟨by simp only [fC,h.bo,aM.1],pC aA aM.2⟩
theorem cV.Tv {xs:List Operand}{ga:Array TypeId}{f:FuncId}{ys:List ab}{outs:List (Option ab)}{res:ab}(hb:b1 P f ys outs res) (aS:jB P f=true) (j:ru g xs ys) (aU:sW outs=true) (ah:cE res) :
  cV P g (.call { callee:=.value (.func f),args:=xs.toArray,argTypes:=ga }) res:=by
 have oJ:outs=ys.map λ_=>Option.none:=by
  apply List.ext_getElem?;intro k;rw [List.getElem?_map];cases al:ys[k]? with
  | none=>rw [List.getElem?_eq_none (by rw [hb.1]; exact List.getElem?_eq_none_iff.1 al)]; rfl
  | some y =>
   have hk:k<outs.length:=by rw [hb.1]; exact (List.getElem?_eq_some_iff.1 al).1
   have h1:=List.getElem?_eq_getElem hk;rw [h1];cases af:outs[k] with
   | none=>rfl
   | some x=>rw [af] at h1; exact absurd h1 (Fm aU k x)
 exact .plain (first:=[]) (caps:=[]) (ys:=ys) rfl (by simpa using j.spec.1) aS (by simpa using j.spec.2) (by simpa [<- oJ] using hb) ah
end
end Go.Own
namespace Go.Own
open Go
set_option linter.unusedSectionVars false
variable [cI]
def iT (s:ByteArray) (m:Int):Int:=((s[m.toNat]?.getD 0).toNat:Nat)
def nc (s:ByteArray) (m n:Int):ByteArray:=s.extract m.toNat n.toNat
section
variable {P:Program}{N:cS}{ops:Array Oper}{g:aK}{K:aK->Prop}{l:List Oper}
variable {d:Nat}{op:Op}{ty:TypeId}{pos:String}{after:Array Edge}{x:ab}{a b:Operand}{t t2:TypeId}{k:IntKind}{m n:Int}{gd:Option (Nat × Bool)}
theorem cU.R2 {s:ByteArray}{i:Operand}(j:Rd g a (.lit (.string s))) (hi:Rd g i (.lit (.int k m))) (aq:oc P t=true) (h:0<=m/\m<s.size):cU P g (.index t a i) ty (.lit (.int .u8 (iT s m))):=by
 obtain ⟨J,rfl⟩:=Int.eq_ofNat_of_zero_le h.1;have ai:J<s.size:=by omega
 have av:s[J]?=some s[J]:=getElem?_pos s J ai;have:iT s (J:Int)=(s[J].toNat:Nat):=by simp [iT,av]
 rw [this];exact .EZ j.bo hi.bo aq av
theorem cU.Qa {s:ByteArray}{lo hi:Operand}{py:IntKind}(j:Rd g a (.lit (.string s))) (aj:Rd g lo (.lit (.int k m))) (bG:Rd g hi (.lit (.int py n))) (aq:oc P t=true) (h:0<=m/\m<=n/\n<=s.size) :
  cU P g (.slice t a (some lo) (some hi) none) ty (.lit (.string (nc s m n))):=by
 obtain ⟨i,rfl⟩:=Int.eq_ofNat_of_zero_le h.1;obtain ⟨J,rfl⟩:=Int.eq_ofNat_of_zero_le (show 0<=n by omega);exact .Af j.bo ⟨_,aj.bo⟩ ⟨_,bG.bo⟩ aq (by omega) (by omega)
theorem cU.Zr {s:ByteArray}{hi:Operand}{py:IntKind}(j:Rd g a (.lit (.string s))) (bG:Rd g hi (.lit (.int py n))) (aq:oc P t=true) (h:0<=n/\n<=s.size) :
  cU P g (.slice t a none (some hi) none) ty (.lit (.string (nc s 0 n))):=by
 obtain ⟨J,rfl⟩:=Int.eq_ofNat_of_zero_le h.1;exact .Af (l:=0) j.bo rfl ⟨_,bG.bo⟩ aq (by omega) (by omega)
theorem cU.Zs {s:ByteArray}{lo:Operand}(j:Rd g a (.lit (.string s))) (aj:Rd g lo (.lit (.int k m))) (aq:oc P t=true) (h:0<=m/\m<=s.size) :
  cU P g (.slice t a (some lo) none none) ty (.lit (.string (nc s m s.size))):=by
 obtain ⟨J,rfl⟩:=Int.eq_ofNat_of_zero_le h.1;exact .Af (h:=s.size) j.bo ⟨_,aj.bo⟩ rfl aq (by omega) (by omega)
theorem Ti {s:ByteArray}{m n:Int}(h:0<=m/\m<=n/\n<=s.size):((nc s m n).size:Int)=n - m:=by
 grind [nc,ByteArray.size_extract]
theorem cU.bytes {z p iR:Nat}{cs:List ab}{xs:List Int}(j:g p=some (.own 1 iR cs)) (gR:cs=xs.map λb=>.lit (.int .u8 b)) (aj:cs.length=iR) (aq:wK P t t2=true) (_hz:z=0):cU P g (.convert t t2 (.tmp p)) ty (.lit (.string (strOfNums xs))) :=
 .D3 (p:=⟨p,[]⟩) (n:=iR) (N:=iR) (cs:=cs) (by simp [bo,j,n_,fD]) (by simp [bu,j,ab.at]) (Nat.le_refl _) (by rw [List.take_of_length_le (by omega)]; exact gR) aq
def il (P:Program) (e:TypeId) (z:Nat):Bool :=
 match (P.info? e).bind (·.zero) with
 | some v=>v.cells.size == z
 | none=>false
theorem KZ {e:TypeId}{z:Nat}(h:il P e z=true):∃ v,(P.info? e).bind (·.zero)=some v/\v.cells.size=z:=by
 grind [il]
inductive tq (g:aK):List Operand->List Value->Prop
 | nil:tq g [] []
 | cons {x:Operand}{v:Value}{xs:List Operand}{vs:List Value}(h:Rd g x (.lit v)) (aq:tq g xs vs):tq g (x::xs) (v::vs)
theorem tq.fC {xs:List Operand}{vs:List Value}(h:tq g xs vs):fC g xs=some (vs.map .lit):=by
 induction h with
 | nil=>rfl
 | cons h _ aM=>simp only [Own.fC,h.bo,aM]; rfl
theorem tq.map {xs:List Operand}{vs:List Value}(h:tq g xs vs):xs.map (bo g)=vs.map λv=>some (.lit v):=by
 induction h with
 | nil=>rfl
 | cons h _ aM=>simp only [List.map_cons,h.bo,aM]
theorem b7.row {e:TypeId}{xs:List Operand}{vs:List Value}{parts:Array (Nat × Operand)}{de:Nat}(j:tq g xs vs) (au:parts.toList=xs.mapIdx (λi x=>(i,x))) (aA:xs.length=de) (aq:fb P t e 1=true) (aW:il P e 1=true) (av:Nat.ble de 1000=true) :
  b7 P g (.buildSlice t de parts) ty (.own 1 de (vs.map .lit)):=by
 subst aA;have hD:=Nat.le_of_ble_eq_true av;refine .qj (.buildSlice aq au j.fC (λy al=>?_) ?_ (by omega) (by omega) (.inr (KZ aW)))
 ·obtain ⟨v,_,rfl⟩:=List.mem_map.1 al;exact ⟨[.lit v],rfl,rfl⟩
 ·generalize vs=l
  induction l with
  | nil=>rfl
  | cons v l aM=>simp only [List.map_cons,ma,jf,aM]; rfl
inductive tv (g:aK):List Nat->List (Nat × ab)->Prop
 | nil:tv g [] []
 | some {s:Nat}{x:ab}{ta:List Nat}{l:List (Nat × ab)}(h:g s=some x) (aA:cE x) (aq:tv g ta l):tv g (s::ta) ((s,x)::l)
 | none {s:Nat}{ta:List Nat}{l:List (Nat × ab)}(aq:tv g ta l):tv g (s::ta) l
theorem tv.spec {g:aK}{ta:List Nat}{l:List (Nat × ab)}(h:tv g ta l):∀ t x,get l t=Option.some x->g t=Option.some x/\cE x:=by
 induction h with
 | nil=>intro t x j; cases j
 | @some s y ta l h aA _ aM =>
  grind [get]
 | none _ aM=>exact aM
theorem tv.eB {g:aK}{ta:List Nat}{l:List (Nat × ab)}(h:tv g ta l):kj g (get l) :=
 ⟨λt x j=>⟨x,(h.spec t x j).1,.refl⟩,λt x j=>.bl (h.spec t x j).2,λt z q n m new j=>by have:=(h.spec t _ j).2; cases this⟩
end
end Go.Own
namespace Go.Own
open Go
set_option linter.unusedSectionVars false
variable [cI]
def oq (s:ByteArray) (n:Nat):Prop:=s.size<=n
theorem oq.app {s u:ByteArray}{a b:Nat}(h:oq s a) (aI:oq u b):oq (s++u) (a+b):=by
 unfold oq at *;rw [ByteArray.size_append]; omega
theorem oq.cut {s:ByteArray}{a:Nat}{m n:Int}(h:oq s a):oq (nc s m n) a:=by
 unfold oq nc at *;rw [ByteArray.size_extract]; omega
theorem oq.const {xs:Array UInt8}:oq ⟨xs⟩ xs.size:=Nat.le_refl _
theorem oq.of {s:ByteArray}{n:Nat}(h:s.size<=n):oq s n:=h
theorem oq.self {s:ByteArray}:oq s s.size:=Nat.le_refl _
section
variable {P:Program}{g:aK}{ty:TypeId}{a b:Operand}{t t2:TypeId}{N:cS}{ops:Array Oper}{K:aK->Prop}{l:List Oper}{d:Nat}{pos:String}{after:Array Edge}{gd:Option (Nat × Bool)}
theorem W.Mc {c:Operand}{x y:Code}{Φ:Exit->aK->Prop}{b:Bool}(aa:Rd g c (.lit (.bool b))) (dk:b=true->W P N x g Φ) (aH:b=false->W P N y g Φ):W P N (.cond c x y) g Φ:=by
 cases b with
 | true=>exact .Md aa.bo (dk rfl)
 | false=>exact .Mb aa.bo (aH rfl)
theorem Y8 {c e:Bool}(aq:P.underlying t=some .bool) (w:World):(do eqGuard .eql t a b (.bool c) (.bool e); binOp .eql t (.bool c) (.bool e):Sem Value).run P w=.ok (.bool (c == e)) w:=by
 have h:=run_equal_bool w t c e aq;simp [eqGuard,binOp,h]
def DV (P:Program) (t:TypeId):Bool :=
 match P.underlying t with
 | some .bool=>true
 | _=>false
theorem Se (h:DV P t=true):P.underlying t=some .bool:=by
 unfold DV at h
 split at h
 ·assumption
 ·cases h
def xn (P:Program) (t:TypeId) (k:IntKind):Bool :=
 match P.underlying t with
 | some (.int kJ)=>kJ == k
 | _=>false
theorem Oj {k:IntKind}(h:xn P t k=true):P.underlying t=some (.int k):=by
 unfold xn at h
 split at h
 ·rename_i kJ hk; rw [hk]; have:kJ=k:=by simpa using h
  rw [this]
 ·cases h
theorem cU.Tc {k kJ:IntKind}{m:Int}(j:Rd g a (.lit (.int k m))) (ay:xn P t k=true) (aP:xn P t2 kJ=true):cU P g (.convert t t2 a) ty (.lit (.int kJ (kJ.wrap m))) :=
 .conv j.bo rfl λw=>by simp [convert,run_underlying (Oj ay),run_underlying (Oj aP),Conv.intToInt]
inductive Bytes (g:aK):List Operand->List Int->Prop
 | nil:Bytes g [] []
 | cons {x:Operand}{v:Int}{xs:List Operand}{vs:List Int}(h:Rd g x (.lit (.int .u8 v))) (aq:Bytes g xs vs):Bytes g (x::xs) (v::vs)
theorem Bytes.lits {xs:List Operand}{vs:List Int}(h:Bytes g xs vs):tq g xs (vs.map λb=>.int .u8 b):=by
 induction h with
 | nil=>exact .nil
 | cons h _ aM=>exact .cons h aM
end
end Go.Own
namespace Go.Own
open Go Go.RowKit
set_option linter.unusedSectionVars false
variable [cI]
theorem cF.lits {w:World}(vs:List Value) (h:∀ v∈vs,v.oneCell'=true) (iI:cI.q w λ_=>False):cF w (λ_=>False) vs.toArray (pf (vs.map .lit)) (λ_=>ct):=by
 refine ⟨λt x j=>?_,λ_ _ _ h=>h,λ_ _ _ h=>h.elim,λ_ _ h=>h.elim,λ_ h=>h.elim,λt t' z p n m new bs ch bh cQ h1 _=>?_,iI⟩
 ·simp only [pf,List.getElem?_map] at j;cases hv:vs[t]? with
  | none=>rw [hv] at j; cases j
  | some v =>
   rw [hv] at j;simp only [Option.map_some,Option.some.injEq] at j;subst j;exact ⟨v,by simpa using hv,.tree (.lit (h v (List.mem_of_getElem? hv)) λ_ h=>h)⟩
 ·simp only [pf,List.getElem?_map] at h1;cases hv:vs[t]? with
  | none=>rw [hv] at h1; cases h1
  | some v=>rw [hv] at h1; cases h1
end Go.Own
namespace Go.Own
open Go
set_option linter.unusedSectionVars false
variable [cI]
section
variable {P:Program}{g:aK}{ty:TypeId}{a b:Operand}{t t2:TypeId}{N:cS}{ops:Array Oper}{K:aK->Prop}{l:List Oper}{d:Nat}{pos:String}{after:Array Edge}{gd:Option (Nat × Bool)}
theorem cU.nA {z n bs:Nat}{p:Place}{e:TypeId}(j:Rd g a (.bg z p n)) (aq:fb P t e bs=true):cU P g (.call { callee:=.builtin .len,args:=#[a],argTypes:=#[t] }) ty (.lit (.int .i64 n)):=.Cd j.bo aq
theorem cU.jr {z n bs:Nat}{cs:List ab}{e:TypeId}(j:Rd g a (.bm z n cs)) (aq:fb P t e bs=true):cU P g (.call { callee:=.builtin .len,args:=#[a],argTypes:=#[t] }) ty (.lit (.int .i64 n)):=.Ce j.bo aq
end
end Go.Own
namespace Go.Own
open Go
set_option linter.unusedSectionVars false
variable [cI]
end Go.Own
namespace Go.Own
open Go
set_option linter.unusedSectionVars false
variable [cI]
structure bz (α:Type) where
 z:Nat
 cells:α->List ab
 len:∀ a,(cells a).length=z
 bl:∀ a,∀ x∈cells a,cE x
variable {α β S R:Type}
def bq (e:bz α) (l:List α):List ab:=l.flatMap e.cells
abbrev ao (e:bz α) (l:List α):ab:=.own e.z l.length (bq e l)
abbrev ak (e:bz α) (l:List α):ab:=.bm e.z l.length (bq e l)
abbrev ae (n:Int):ab:=.lit (.int .i64 n)
abbrev qL (n:Int):ab:=.lit (.int .u8 n)
abbrev bc (b:Bool):ab:=.lit (.bool b)
abbrev aw (s:ByteArray):ab:=.lit (.string s)
abbrev aG (n:Int):Int:=IntKind.i64.wrap n
abbrev rn (n:Int):Int:=IntKind.u8.wrap n
theorem oW (e:bz α) (l:List α):(bq e l).length=l.length * e.z:=by
 induction l with
 | nil=>simp [bq]
 | cons a l aM =>
  have:bq e (a::l)=e.cells a++bq e l:=by simp [bq]
  rw [this,List.length_append,e.len,aM,List.length_cons,Nat.add_mul]; omega
theorem pJ (e:bz α) (l:List α):∀ x∈bq e l,cE x:=by
 intro x j;obtain ⟨a,_,h⟩:=List.mem_flatMap.1 j;exact e.bl a x h
theorem FI (e:bz α) (l m:List α):bq e (l++m)=bq e l++bq e m:=by simp [bq]
theorem Ab (e:bz α):∀ (l:List α) (i:Nat),(bq e l).drop (i * e.z)=bq e (l.drop i)
 | l,0=>by simp
 | [],i+1=>by simp [bq]
 | a::l,i+1=>by
  have h:bq e (a::l)=e.cells a++bq e l:=by simp [bq]
  rw [h,List.drop_append,e.len,List.drop_eq_nil_of_le (by rw [e.len,Nat.add_mul]; omega)];have:(i+1) * e.z - e.z=i * e.z:=by rw [Nat.add_mul]; omega
  rw [this,List.nil_append,Ab e l i]; rfl
theorem x8 (e:bz α):∀ (l:List α) (i:Nat),(bq e l).take (i * e.z)=bq e (l.take i)
 | l,0=>by simp [bq]
 | [],i+1=>by simp [bq]
 | a::l,i+1=>by
  have h:bq e (a::l)=e.cells a++bq e l:=by simp [bq]
  rw [h,List.take_append,e.len,List.take_of_length_le (by rw [e.len,Nat.add_mul]; omega)];have:(i+1) * e.z - e.z=i * e.z:=by rw [Nat.add_mul]; omega
  rw [this,x8 e l i]; simp [bq]
def idx (l:List α) (i:Int):Option α:=if 0<=i then l[i.toNat]? else none
theorem r4 {l:List α}{i:Int}{y:α}(h:idx l i=some y):0<=i/\i<l.length/\l[i.toNat]?=some y:=by
 grind [idx]
theorem Ki (e:bz α) {l:List α}{i:Int}{y:α}(h:idx l i=some y):(bq e l).drop (i.toNat * e.z)=e.cells y++bq e (l.drop (i.toNat+1)):=by
 obtain ⟨aO,h1,af⟩:=r4 h
 grind [Ab,List.drop_eq_getElem_cons,bq]
theorem PB (e:bz α) {l:List α}{i:Int}{y:α}(h:idx l i=some y) {k:Nat}{x:ab}(hk:(e.cells y)[k]?=some x):(bq e l)[i.toNat * e.z+k]?=some x:=by
 have aT:=(List.getElem?_eq_some_iff.1 hk).1;rw [<- List.getElem?_drop,Ki e h,List.getElem?_append_left aT]; exact hk
abbrev lim:Nat:=1099511627776
def fuel:Nat:=1000000000000000000
def iter (f:S->Option (S ⊕ R)):Nat->S->Option R
 | 0,_=>none
 | n+1,s=>match f s with
  | none=>none
  | some (.inl cp)=>iter f n cp
  | some (.inr r)=>some r
def b5 (f:S->Option (S ⊕ R)) (s:S):Option R:=iter f fuel s
theorem hh {o:Option α}{f:α->Option β}{r:β}(h:o.bind f=some r):∃ y,o=some y/\f y=some r:=Option.bind_eq_some_iff.1 h
theorem y4 {b:Bool}{x y o:α}(av:b=true) (h:cond b x y=o):x=o:=by
 grind
theorem y3 {b:Bool}{x y o:α}(av:b=false) (h:cond b x y=o):y=o:=by
 grind
theorem gB {b:Bool}{x y o:α}(h:cond b x y=o):(b=true/\x=o)\/(b=false/\y=o):=by
 grind
theorem sm {a b:α}(h:some a=some b):a=b:=by grind
class b4 (x:ab):Prop where bl:cE x
class dh (cs:List ab):Prop where bl:∀ x∈cs,cE x
instance {v:Value}:b4 (.lit v):=⟨.lit⟩
instance:b4 .aQ:=⟨.aQ⟩
instance:b4 .dead:=⟨.dead⟩
instance {k:Nat × Nat}:b4 (.self k):=⟨.self⟩
instance {t:Nat}{us:List Value}:b4 (.eR t us):=⟨.eR⟩
instance {z n:Nat}{cs:List ab} [h:dh cs]:b4 (.bm z n cs):=⟨.bm h.bl⟩
instance {z n:Nat}{cs:List ab} [h:dh cs]:b4 (.own z n cs):=⟨.own h.bl⟩
instance {cs:List ab} [h:dh cs]:b4 (.obj cs):=⟨.obj h.bl⟩
instance {cs:List ab} [h:dh cs]:b4 (.agg cs):=⟨.agg h.bl⟩
instance {cs:List ab} [h:dh cs]:b4 (.bQ cs):=⟨.bQ h.bl⟩
instance {cs:List ab} [h:dh cs]:b4 (.cO cs):=⟨.cO h.bl⟩
instance {f:Fn}{a b:List ab} [h:dh a] [aI:dh b]:b4 (.dj f a b):=⟨.dj h.bl aI.bl⟩
instance:dh []:=⟨by simp⟩
instance {x:ab}{cs:List ab} [h:b4 x] [aI:dh cs]:dh (x::cs):=⟨pC h.bl aI.bl⟩
instance {e:bz α}{l:List α}:dh (bq e l):=⟨pJ e l⟩
instance {e:bz α}{a:α}:dh (e.cells a):=⟨e.bl a⟩
instance {a b:List ab} [h:dh a] [aI:dh b]:dh (a++b):=⟨λx j=>(List.mem_append.1 j).elim (h.bl x) (aI.bl x)⟩
instance {a:List ab}{n:Nat} [h:dh a]:dh (a.drop n):=⟨λx j=>h.bl x (List.mem_of_mem_drop j)⟩
instance {a:List ab}{n:Nat} [h:dh a]:dh (a.take n):=⟨λx j=>h.bl x (List.mem_of_mem_take j)⟩
instance {v:Value}{n:Nat}:dh (List.replicate n (.lit v)):=⟨λx j=>by rw [(List.mem_replicate.1 j).2]; exact .lit⟩
abbrev bz.one (f:α->ab) (h:∀ a,cE (f a)):bz α:=⟨1,λa=>[f a],λ_=>rfl,λa x j=>by rw [List.mem_singleton.1 j]; exact h a⟩
def az:bz Int:=.one (λn=>ae n) λ_=>.lit
def p0:bz Int:=.one (λn=>qL n) λ_=>.lit
def cg:bz Bool:=.one (λb=>bc b) λ_=>.lit
def cJ:bz ByteArray:=.one (λs=>aw s) λ_=>.lit
def Mt (e:bz α):bz (List α):=.one (λl=>ao e l) λl=>.own (pJ e l)
def bM (e:bz α):bz (List α):=.one (λl=>ak e l) λl=>.bm (pJ e l)
inductive Trim (b:Bool) (g g2:aK):List (Nat × ab)->Prop
 | nil:Trim b g g2 []
 | n {s:Nat}{x:ab}{l:List (Nat × ab)}(h:g s=some x) [aA:b4 x] (t:Trim b g g2 l):Trim b g g2 ((s,x)::l)
 | r {s:Nat}{x:ab}{l:List (Nat × ab)}(h:g s=some x) (aA:ej g2 x) (au:∀ z p n m new,x≠.bB z p n m new) (t:Trim b g g2 l):Trim b g g2 ((s,x)::l)
 | e {s:Nat}{x y:ab}{l:List (Nat × ab)}(h:g s=some y) (he:y=x) [aA:b4 x] (t:Trim b g g2 l):Trim b g g2 ((s,x)::l)
 | w {s:Nat}{x y:ab}{l:List (Nat × ab)}(av:b=true) (h:g s=some y) (hw:mY y x) [aA:b4 x] (t:Trim b g g2 l):Trim b g g2 ((s,x)::l)
theorem Trim.spec {b:Bool}{g g2:aK}{l:List (Nat × ab)}(h:Trim b g g2 l):∀ t x,get l t=some x->(∃ y,g t=some y/\mY y x/\(b=false->y=x))/\ej g2 x/\∀ z p n m new,x≠.bB z p n m new:=by
 have fk:∀ {x:ab},cE x->∀ z p n m new,x≠.bB z p n m new:=by rintro x h z p n m new rfl; cases h
 induction h with
 | nil=>intro t x j; cases j
 | @n _ _ _ h aA _ aM =>
  intro t x j; simp only [get] at j
  split at j
  ·rename_i e; subst e; cases j; exact ⟨⟨_,h,.refl,λ_=>rfl⟩,.bl aA.bl,fk aA.bl⟩
  ·exact aM t x j
 | r h aA au _ aM =>
  intro t x j; simp only [get] at j
  split at j
  ·rename_i e; subst e; cases j; exact ⟨⟨_,h,.refl,λ_=>rfl⟩,aA,au⟩
  ·exact aM t x j
 | @e _ _ _ _ h he aA _ aM =>
  intro t x j; simp only [get] at j
  split at j
  ·rename_i e; subst e he; cases j; exact ⟨⟨_,h,.refl,λ_=>rfl⟩,.bl aA.bl,fk aA.bl⟩
  ·exact aM t x j
 | @w _ _ _ _ av h hw aA _ aM =>
  intro t x j; simp only [get] at j
  split at j
  ·rename_i e; subst e; cases j; exact ⟨⟨_,h,hw,λh=>by rw [av] at h; cases h⟩,.bl aA.bl,fk aA.bl⟩
  ·exact aM t x j
theorem Trim.eB {b:Bool}{g:aK}{l:List (Nat × ab)}(h:Trim b g (get l) l):kj g (get l) :=
 ⟨λt x j=>by obtain ⟨⟨y,h1,af,_⟩,_⟩:=h.spec t x j; exact ⟨y,h1,af⟩,λt x j=>(h.spec t x j).2.1,λt z q n m new j=>(h.spec t _ j).2.2 _ _ _ _ _ rfl⟩
theorem Trim.keep {g:aK}{l:List (Nat × ab)}(h:Trim false g (get l) l):hx g (get l) :=
 ⟨λt x j=>by obtain ⟨⟨y,h1,_,aJ⟩,_⟩:=h.spec t x j; rw [<- aJ rfl]; exact h1,λt x j=>(h.spec t x j).2.1,λt z q n m new j=>(h.spec t _ j).2.2 _ _ _ _ _ rfl⟩
section
variable {P:Program}{N:cS}{ops:Array Oper}{g:aK}{K:aK->Prop}{l:List Oper}{d:Nat}{op:Op}{ty:TypeId}{pos:String}{after:Array Edge}{x:ab}{gd:Option (Nat × Bool)}
def jz (P:Program) (N:cS) (c:Code) (G G1:List (Nat × ab)):Prop:=W P N c (get G) λe g'=>e=.normal/\kj g' (get G1)
theorem W.bJ {A B:Code}{G G1:List (Nat × ab)}{Φ:Exit->aK->Prop}(h1:jz P N A G G1) (af:W P N B (get G1) Φ):W P N (.seq A B) (get G) Φ:=by
 refine W.seq (W.out h1 λe g' h=>⟨get G1,h.2,?_⟩);obtain ⟨rfl,_⟩:=h;exact af
theorem W.bP {A B:Code}{G:List (Nat × ab)}{Φ:Exit->aK->Prop}(h:W P N A (get G) (o0 (λg1=>W P N B g1 Φ) Φ)):W P N (.seq A B) (get G) Φ:=W.seq h
theorem jz.rg {id:Nat}{l:List Oper}{G G1:List (Nat × ab)}(h:aC P N l.toArray l (get G) λg'=>kj g' (get G1)):jz P N (.region id l.toArray false) G G1 :=
 W.Aa (λi hi=>by obtain ⟨g',h1,af⟩:=h i hi; exact ⟨g',h1,rfl,af⟩)
theorem aC.fin {G1:List (Nat × ab)}(h:Trim true g (get G1) G1):aC P N ops [] g λg'=>kj g' (get G1):=.nil h.eB
theorem aC.C5 {G1:List (Nat × ab)}(h:Trim false g (get G1) G1) (hk:aC P N ops l (get G1) K):aC P N ops l g K:=.forget h.keep hk
theorem aC.v (au:b7 P g op ty x) (a_:N.ok d=true) (aS:g d=none) (aN:e7 g ops gd) (hk:aC P N ops l (cK g d x) K):aC P N ops (⟨some d,op,ty,pos,after,gd⟩::l) g K:=.Z7 au a_ aS aN hk
theorem aC.c (au:cV P g op x) (a_:N.ok d=true) (aS:g d=none) (aN:e7 g ops gd) (hk:aC P N ops l (cK g d x) K):aC P N ops (⟨some d,op,ty,pos,after,gd⟩::l) g K:=.call au a_ aS aN hk
theorem e7.iD {J t:Nat}{b c:Bool}(h:(ops[J]?).bind (·.dst)=some t) (aN:g t=some (.lit (.bool c))) (av:c=b):e7 g ops (some (J,b)):=by subst av; exact .yes h aN
theorem aC.ps {J t':Nat}{b c:Bool}(h:(ops[J]?).bind (·.dst)=some t') (aN:g t'=some (.lit (.bool c))) (av:c=!b) (a_:N.ok d=true) (aS:g d=none) (hk:aC P N ops l (cK g d (.bQ [])) K):aC P N ops (⟨some d,op,ty,pos,after,some (J,b)⟩::l) g K:=by
 subst av; exact .Ag rfl a_ aS (r:=some (.bQ [])) (.inr (.inl ⟨⟨t',h,.inl ⟨_,aN,by cases b <;> rfl⟩⟩,rfl⟩)) hk
theorem aC.pu {J t':Nat}{b:Bool}(h:(ops[J]?).bind (·.dst)=some t') (aN:g t'=some (.bQ [])) (a_:N.ok d=true) (aS:g d=none) (hk:aC P N ops l (cK g d (.bQ [])) K):aC P N ops (⟨some d,op,ty,pos,after,some (J,b)⟩::l) g K :=
 .Ag rfl a_ aS (r:=some (.bQ [])) (.inr (.inl ⟨⟨t',h,.inr ⟨aN,rfl⟩⟩,rfl⟩)) hk
theorem jz.skip {G G1:List (Nat × ab)}(h:Trim true (get G) (get G1) G1):jz P N .skip G G1:=W.skip ⟨rfl,h.eB⟩
theorem jz.gB {t:Nat}{A B:Code}{b:Bool}{G G1:List (Nat × ab)}(aa:get G t=some (bc b)) (dk:b=true->jz P N A G G1) (aH:b=false->jz P N B G G1):jz P N (.cond (.tmp t) A B) G G1:=W.Mc (.lit aa) dk aH
theorem W.gB {t:Nat}{A B:Code}{b:Bool}{G:List (Nat × ab)}{Φ:Exit->aK->Prop}(aa:get G t=some (bc b)) (dk:b=true->W P N A (get G) Φ) (aH:b=false->W P N B (get G) Φ):W P N (.cond (.tmp t) A B) (get G) Φ:=W.Mc (.lit aa) dk aH
theorem jz.bJ {A B:Code}{G G1 G2:List (Nat × ab)}(h1:jz P N A G G1) (af:jz P N B G1 G2):jz P N (.seq A B) G G2:=W.bJ h1 af
theorem jz.yV {id:Nat}{c:Code}{G G1:List (Nat × ab)}(h:W P N c (get G) λe g'=>(e=.normal\/e=.exit id)/\kj g' (get G1)):jz P N (.block id c) G G1:=by
 refine W.block (h.mono ?_);rintro e g' ⟨rfl | rfl,h⟩
 ·exact ⟨rfl,h⟩
 ·show if id=id then _ else _
  grind
end
end Go.Own
namespace Go.Own
open Go
set_option linter.unusedSectionVars false
variable [cI]
variable {α β:Type}
def gN (s:ByteArray) (m:Int):Option Int:=if 0<=m/\m<s.size then some (iT s m) else none
def iU (s:ByteArray) (m n:Int):Option ByteArray:=if 0<=m/\m<=n/\n<=s.size then some (nc s m n) else none
def e' (s u:ByteArray):Option ByteArray:=if s.size+u.size<=4611686018427387904 then some (s++u) else none
def FB (m n:Int):Option Int:=if n=0 then none else some (aG (m.tdiv n))
def q_ (m n:Int):Option Int:=if n=0 then none else some (m.tmod n)
def mS (l:List α) (m n:Int):Option (List α):=if 0<=m/\m<=n/\n<=l.length then some ((l.drop m.toNat).take (n - m).toNat) else none
def lO:ab->Bool
 | .lit _ | .aQ | .bm .. | .cO _ | .dj .. | .ptr .. | .bg .. | .sub .. | .hr .. | .imp ..=>true
 | _=>false
theorem TM {d:Nat}{p:Place}{x:ab}(h:lO x=true):fD d p x=x:=by
 cases x <;> simp [lO] at h <;> cases d <;> rfl
theorem TN {t:Nat}{x:ab}(h:lO x=true):n_ t x=x:=by
 cases x <;> simp [lO] at h <;> rfl
theorem A_ {d:Nat}{q:Nat->Place}{cs:List ab}(h:cs.all lO=true):(cs.mapIdx λi x=>fD d (q i) x)=cs:=by
 apply List.ext_getElem?;intro k;rw [List.getElem?_mapIdx];cases hk:cs[k]? with
 | none=>rfl
 | some x=>simp only [Option.map_some,TM (List.all_eq_true.1 h x (List.mem_of_getElem? hk))]
section
variable {P:Program}{N:cS}{ops:Array Oper}{g:aK}{K:aK->Prop}{l:List Oper}{d:Nat}{ty t t2:TypeId}{a b c:Operand}{k kJ:IntKind}{m n:Int}{s u:ByteArray}{p q e:Bool}
theorem Rd.f {t:Nat}{x:ab}(h:g t=some x) (aS:lO x=true):Own.bo g (.tmp t)=some x:=by simp only [Own.bo,h,Option.map_some,TN aS]
theorem Rd.dV {t:Nat}{cs:List ab}(h:g t=some (.agg cs)) (aS:cs.all lO=true):Rd g (.tmp t) (.agg cs):=.agg h (A_ aS)
theorem Rd.KA {t:Nat}{cs:List ab}(h:g t=some (.bQ cs)) (aS:cs.all lO=true):Rd g (.tmp t) (.bQ cs):=.bQ h (A_ aS)
namespace O
theorem aZ {y:ab}(h:Rd g a y):b7 P g (.move a) ty y:=.eD (.move h.bo)
theorem dy {y:ab}(h:Rd g a y):b7 P g (.assign a) ty y:=.eD (.assign h.bo)
theorem js {y:ab}(aa:Rd g c (bc p)) (av:p=true) (h:Rd g a y):b7 P g (.pick c a b) ty y:=by subst av; exact .eD (.Yt aa h)
theorem jI {y:ab}(aa:Rd g c (bc p)) (av:p=false) (h:Rd g b y):b7 P g (.pick c a b) ty y:=by subst av; exact .eD (.Ys aa h)
theorem add (j:Rd g a (.lit (.int k m))) (al:Rd g b (.lit (.int k n))):b7 P g (.binOp .add t a b t2) ty (.lit (.int k (k.wrap (m+n)))):=.eD (.add j al)
theorem sub (j:Rd g a (.lit (.int k m))) (al:Rd g b (.lit (.int k n))):b7 P g (.binOp .sub t a b t2) ty (.lit (.int k (k.wrap (m - n)))):=.eD (.Zz j al)
theorem mul (j:Rd g a (.lit (.int k m))) (al:Rd g b (.lit (.int k n))):b7 P g (.binOp .mul t a b t2) ty (.lit (.int k (k.wrap (m * n)))):=.eD (.mul j al)
theorem quo {r:Int}(j:Rd g a (ae m)) (al:Rd g b (ae n)) (h:FB m n=some r):b7 P g (.binOp .quo t a b t2) ty (ae r):=by
 unfold FB at h
 split at h
 ·cases h
 ·cases h; exact .eD (.quo j al (by assumption))
theorem rem {r:Int}(j:Rd g a (ae m)) (al:Rd g b (ae n)) (h:q_ m n=some r):b7 P g (.binOp .rem t a b t2) ty (ae r):=by
 unfold q_ at h
 split at h
 ·cases h
 ·cases h; exact .eD (.rem j al (by assumption))
theorem lss (j:Rd g a (.lit (.int k m))) (al:Rd g b (.lit (.int k n))):b7 P g (.binOp .lss t a b t2) ty (bc (decide (m<n))):=.eD (.lss j al (by simp))
theorem leq (j:Rd g a (.lit (.int k m))) (al:Rd g b (.lit (.int k n))):b7 P g (.binOp .leq t a b t2) ty (bc (decide (m<=n))):=.eD (.leq j al (by simp))
theorem gtr (j:Rd g a (.lit (.int k m))) (al:Rd g b (.lit (.int k n))):b7 P g (.binOp .gtr t a b t2) ty (bc (decide (n<m))):=.eD (.gtr j al (by simp))
theorem geq (j:Rd g a (.lit (.int k m))) (al:Rd g b (.lit (.int k n))):b7 P g (.binOp .geq t a b t2) ty (bc (decide (n<=m))):=.eD (.geq j al (by simp))
theorem eql (j:Rd g a (.lit (.int k m))) (al:Rd g b (.lit (.int k n))):b7 P g (.binOp .eql t a b t2) ty (bc (decide (m=n))):=.eD (.eql j al (by simp))
theorem neq (j:Rd g a (.lit (.int k m))) (al:Rd g b (.lit (.int k n))):b7 P g (.binOp .neq t a b t2) ty (bc (!decide (m=n))):=.eD (.neq j al (by simp))
theorem nS (j:Rd g a (aw s)) (al:Rd g b (aw u)):b7 P g (.binOp .eql t a b t2) ty (bc (decide (s=u))):=.eD (.nS j al (by simp))
theorem nE (j:Rd g a (aw s)) (al:Rd g b (aw u)):b7 P g (.binOp .neq t a b t2) ty (bc (!decide (s=u))):=.eD (.nE j al (by simp))
theorem A3 (j:Rd g a (bc p)) (al:Rd g b (bc q)) (aq:DV P t=true):b7 P g (.binOp .eql t a b t2) ty (bc (p == q)):=.eD (.bin j.bo al.bo rfl λw=>Y8 (Se aq) w)
theorem neg (j:Rd g a (.lit (.int k m))):b7 P g (.unOp .neg t a) ty (.lit (.int k (k.wrap (-m)))):=.eD (.un j.bo rfl λw=>by simp [Op.unary,Op.intArith])
theorem not (j:Rd g a (bc p)):b7 P g (.unOp .not t a) ty (bc (!p)):=.eD (.not j)
theorem Tl (j:Rd g a (.lit (.int k m))) (ay:xn P t k=true) (aP:xn P t2 kJ=true):b7 P g (.convert t t2 a) ty (.lit (.int kJ (kJ.wrap m))):=.eD (.Tc j ay aP)
theorem cat {r:ByteArray}(j:Rd g a (aw s)) (al:Rd g b (aw u)) (h:e' s u=some r):b7 P g (.binOp .add t a b t2) ty (aw r):=by
 unfold e' at h
 split at h
 ·cases h; exact .eD (.cat j al (by omega))
 ·cases h
theorem oR (j:Rd g a (aw s)) (aq:oc P t=true):b7 P g (.call { callee:=.builtin .len,args:=#[a],argTypes:=#[t] }) ty (ae s.size):=.eD (.oR j aq)
theorem at' {r:Int}(j:Rd g a (aw s)) (al:Rd g b (.lit (.int k m))) (aq:oc P t=true) (h:gN s m=some r):b7 P g (.index t a b) ty (qL r):=by
 unfold gN at h
 split at h
 ·cases h; exact .eD (.R2 j al aq (by assumption))
 ·cases h
theorem s' {r:ByteArray}{py:IntKind}(j:Rd g a (aw s)) (aj:Rd g b (.lit (.int k m))) (bG:Rd g c (.lit (.int py n))) (aq:oc P t=true) (h:iU s m n=some r):b7 P g (.slice t a (some b) (some c) none) ty (aw r):=by
 unfold iU at h
 split at h
 ·cases h; exact .eD (.Qa j aj bG aq (by assumption))
 ·cases h
theorem Db {r:ByteArray}(j:Rd g a (aw s)) (bG:Rd g c (.lit (.int k n))) (aq:oc P t=true) (h:iU s 0 n=some r):b7 P g (.slice t a none (some c) none) ty (aw r):=by
 unfold iU at h
 split at h
 ·rename_i aa; cases h; exact .eD (.Zr j bG aq ⟨aa.2.1,aa.2.2⟩)
 ·cases h
theorem Dc {r:ByteArray}(j:Rd g a (aw s)) (aj:Rd g b (.lit (.int k m))) (aq:oc P t=true) (h:iU s m s.size=some r):b7 P g (.slice t a (some b) none none) ty (aw r):=by
 unfold iU at h
 split at h
 ·rename_i aa; cases h; exact .eD (.Zs j aj aq ⟨aa.1,aa.2.1⟩)
 ·cases h
theorem jr {z bs n:Nat}{cs:List ab}{e:TypeId}(j:Rd g a (.bm z n cs)) (aq:fb P t e bs=true):b7 P g (.call { callee:=.builtin .len,args:=#[a],argTypes:=#[t] }) ty (ae n):=.eD (.Ce j.bo aq)
theorem qX {en:bz α}{L:List α}{y:α}{e:TypeId}(j:Rd g a (.bm en.z L.length (bq en L))) (al:Rd g b (.lit (.int k m))) (aq:fb P t e en.z=true) (h:idx L m=some y):b7 P g (.indexAddr t a b) ty (.cO (en.cells y++bq en (L.drop (m.toNat+1)))):=by
 rw [<- Ki en h];obtain ⟨aO,h1,_⟩:=r4 h;obtain ⟨J,rfl⟩:=Int.eq_ofNat_of_zero_le aO;exact .eD (.EY j.bo al.bo aq (by omega))
theorem Zo {en:bz α}{L r:List α}{e:TypeId}{py:IntKind}(j:Rd g a (.bm en.z L.length (bq en L))) (aj:Rd g b (.lit (.int k m))) (bG:Rd g c (.lit (.int py n))) (aq:fb P t e en.z=true) (h:mS L m n=some r):b7 P g (.slice t a (some b) (some c) none) ty (ak en r):=by
 unfold mS at h
 split at h
 ·rename_i aa;obtain ⟨aO,h1,af⟩:=aa;cases h;obtain ⟨i,rfl⟩:=Int.eq_ofNat_of_zero_le aO;obtain ⟨J,rfl⟩:=Int.eq_ofNat_of_zero_le (show 0<=n by omega);have:=cU.Ae (P:=P) (ty:=ty) (t:=t) (l:=i) (h:=J) (lo:=some b) (hi:=some c) j.bo ⟨_,aj.bo⟩ ⟨_,bG.bo⟩ aq (by omega) (by omega);rw [Ab,x8] at this;have cr:(((L.drop i).take (J - i)).length)=J - i:=by rw [List.length_take,List.length_drop]; omega
  have b9:((J:Int) - (i:Int)).toNat=J - i:=by omega
  rw [Int.toNat_natCast,b9];unfold ak;rw [cr];exact .eD this
 ·cases h
theorem Zp {en:bz α}{L r:List α}{e:TypeId}(j:Rd g a (.bm en.z L.length (bq en L))) (bG:Rd g c (.lit (.int k n))) (aq:fb P t e en.z=true) (h:mS L 0 n=some r):b7 P g (.slice t a none (some c) none) ty (ak en r):=by
 unfold mS at h
 split at h
 ·rename_i aa;obtain ⟨_,h1,af⟩:=aa;cases h;obtain ⟨J,rfl⟩:=Int.eq_ofNat_of_zero_le h1;have:=cU.Ae (P:=P) (ty:=ty) (t:=t) (l:=0) (h:=J) (lo:=none) (hi:=some c) j.bo rfl ⟨_,bG.bo⟩ aq (by omega) (by omega);rw [Ab,x8] at this;have cr:(((L.drop 0).take (J - 0)).length)=J - 0:=by rw [List.length_take,List.length_drop]; omega
  have b9:((J:Int) - 0).toNat=J - 0:=by omega
  rw [b9];unfold ak;have fi:(0:Int).toNat=0:=rfl;rw [fi,cr];exact .eD this
 ·cases h
theorem Zq {en:bz α}{L r:List α}{e:TypeId}(j:Rd g a (.bm en.z L.length (bq en L))) (aj:Rd g b (.lit (.int k m))) (aq:fb P t e en.z=true) (h:mS L m L.length=some r):b7 P g (.slice t a (some b) none none) ty (ak en r):=by
 unfold mS at h
 split at h
 ·rename_i aa;obtain ⟨aO,h1,af⟩:=aa;cases h;obtain ⟨i,rfl⟩:=Int.eq_ofNat_of_zero_le aO;have:=cU.Ae (P:=P) (ty:=ty) (t:=t) (l:=i) (h:=L.length) (lo:=some b) (hi:=none) j.bo ⟨_,aj.bo⟩ rfl aq (by omega) (by omega);rw [Ab,x8] at this;have cr:(((L.drop i).take (L.length - i)).length)=L.length - i:=by rw [List.length_take,List.length_drop]; omega
  have b9:((L.length:Int) - (i:Int)).toNat=L.length - i:=by omega
  rw [Int.toNat_natCast,b9];unfold ak;rw [cr];exact .eD this
 ·cases h
theorem A6 {cp f off:Nat}{cs:List ab}(j:Rd g a (.cO cs)) (aS:iV P cp f off t=true):b7 P g (.fieldAddr cp a f) ty (.cO (cs.drop off)):=.eD (.Eb j.bo aS)
theorem Cc {x:ab}{cs:List ab}(j:Rd g a (.cO cs)) (aq:j9 P t=true) (aa:cs.head?=some x):b7 P g (.load t a) ty x:=by
 cases cs with
 | nil=>cases aa
 | cons y cs=>cases aa; exact .eD (.Fa j.bo aq)
theorem sT {z:Nat}{cs cs':List ab}(j:Rd g a (.cO cs)) (aq:iH P t z=true) (aa:cs.take z=cs') (aW:cs'.length=z):b7 P g (.load t a) ty (.agg cs'):=by
 subst aa;exact .eD (.Fb j.bo aq (by rw [List.length_take] at aW; omega))
theorem xF {cs:List ab}(j:Rd g a (.cO cs)):b7 P g (.nilCheck a) ty (.cO cs):=.eD (.qh j.bo)
theorem ev {p:Place}{k:Nat}(j:Rd g a (.ptr p k)):b7 P g (.nilCheck a) ty (.ptr p k):=.eD (.Fk j.bo)
theorem fd {cp f off:Nat}{cs:List ab}{x:ab}(j:Rd g a (.agg cs)) (aS:iV P cp f off t=true) (aq:j9 P t=true) (al:cs[off]?=some x):b7 P g (.field cp a f) ty x:=.eD (.Ea j.bo aS aq al)
theorem ex {p i:Nat}{cs:List ab}{x y:ab}(j:g p=some (.bQ cs)) (al:cs[i]?=some x) (ah:fD 1 (Place.push ⟨p,[]⟩ i) x=y):b7 P g (.extract (.tmp p) i) ty y :=
 .eD (.D9 (cs:=cs.mapIdx λi x=>fD 1 (Place.push ⟨p,[]⟩ i) x) (by simp [bo,j,n_,fD]) (by simp [al,ah]))
theorem box {e:TypeId}{y:ab}{cs:List ab}(j:Rd g a y) (aa:jf y=some cs):b7 P g (.box e a) ty (.obj cs):=.qj (.box j.bo aa)
theorem ng {cp f off k r:Nat}{cs:List ab}(ay:g r=some (.obj cs)) (j:Rd g a (.ptr ⟨r,[]⟩ k)) (aS:iV P cp f off t=true) (aT:Nat.blt (k+off) cs.length=true):b7 P g (.fieldAddr cp a f) ty (.ptr ⟨r,[]⟩ (k+off)) :=
 .eD (.A8 j.bo aS ⟨.obj cs,by simp [bu,ay,ab.at],0,0,cs,.inr rfl,by simpa using aT⟩)
theorem xz {k r:Nat}{cs:List ab}{x y:ab}(ay:g r=some (.obj cs)) (j:Rd g a (.ptr ⟨r,[]⟩ k)) (aq:j9 P t=true) (aa:cs[k]?=some x) (al:fD 0 ⟨r,[k]⟩ x=y):b7 P g (.load t a) ty y:=by
 subst al;exact .eD (.Ci (p:=⟨r,[]⟩) j.bo aq (by simp [bu,ay,ab.at,Place.push,ab.kids,aa]))
theorem eZ {k r z:Nat}{cs cs':List ab}(ay:g r=some (.obj cs)) (j:Rd g a (.ptr ⟨r,[]⟩ k)) (aq:iH P t z=true) (hk:Nat.ble (k+z) cs.length=true) (aa:(((cs.drop k).take z).mapIdx λi x=>fD 0 ⟨r,[k+i]⟩ x)=cs'):b7 P g (.load t a) ty (.agg cs'):=by
 subst aa;exact .eD (.xB (p:=⟨r,[]⟩) (n:=0) (z:=0) j.bo aq (by simp [bu,ay,ab.at]) (.inr rfl) (Nat.le_of_ble_eq_true hk))
end O
theorem ru.cZ {x:Operand}{y:ab}{xs:List Operand}{ys:List ab}(h:Rd g x y) [aA:b4 y] (aq:ru g xs ys):ru g (x::xs) (y::ys):=.cons h aA.bl aq
theorem cV.go {xs:List Operand}{ga:Array TypeId}{f:FuncId}{ys:List ab}{outs:List (Option ab)}{res:ab}(j:ru g xs ys) (hb:b1 P f ys outs res) (aS:jB P f=true) (aU:sW outs=true) [ah:b4 res] :
  cV P g (.call { callee:=.value (.func f),args:=xs.toArray,argTypes:=ga }) res:=.Tv hb aS j aU ah.bl
inductive u2 (P:Program) (g:aK):List ResultVar->List ab->Prop
 | nil:u2 P g [] []
 | f {t:Nat}{x:ab}{rs:List ResultVar}{xs:List ab}(h:g t=some x) (aS:lO x=true) [aA:b4 x] (aq:u2 P g rs xs):u2 P g (.tmp t::rs) (x::xs)
 | c {a:Nat}{t:TypeId}{z:Nat}{cs:List ab}{rs:List ResultVar}{xs:List ab}(h:g a=some (.obj cs)) (aq:iH P t z=true) (aW:cs.length=z) (aS:(0<z&&cs.all lO)=true) [aA:dh cs] (ah:u2 P g rs xs):u2 P g (.cell a t::rs) (.agg cs::xs)
theorem u2.spec {rs:List ResultVar}{xs:List ab}(h:u2 P g rs xs):rv P g rs xs/\∀ x∈xs,cE x:=by
 induction h with
 | nil=>exact ⟨.nil,by simp⟩
 | @f t x rs xs h aS aA _ aM=>exact ⟨.cons (.tmp (Rd.f h aS)) aM.1,pC aA.bl aM.2⟩
 | @c a t z cs rs xs h aq aW aS aA _ aM =>
  simp only [Bool.and_eq_true,decide_eq_true_eq] at aS;refine ⟨.cons ?_ aM.1,pC (.agg aA.bl) aM.2⟩;have j:Own.bo g (.tmp a)=some (.ptr ⟨a,[]⟩ 0):=by
   cases cs with
   | nil=>simp at aW; omega
   | cons c cs=>simp [Own.bo,h,n_,fD]
  have:=cU.xB (P:=P) (ty:=t) (p:=⟨a,[]⟩) (n:=0) (z:=0) j aq (by simp only [bu,h,ab.at]) (.inr rfl) (show 0+z<=cs.length by omega);have hj:((cs.drop 0).take z).mapIdx (λi x=>fD 0 (Place.push ⟨a,[]⟩ (0+i)) x)=cs:=by
   rw [List.drop_zero,List.take_of_length_le (by omega)];exact A_ aS.2
  rw [hj] at this;exact .cell this
theorem Fin.rt {rs:List ResultVar}{xs:List ab}{res:ab}{outs:List (Option ab)}{n:Nat}(h:u2 P g rs xs) (he:oV xs=res) (aU:sW outs=true) (aj:outs.length=n):Fin P N rs n outs res .ret g :=
 ⟨.inr rfl,⟨xs,xs,g,h.spec.1,.bl h.spec.2,he.symm,λk x hk=>absurd hk (Fm aU k x)⟩,aj⟩
end
def xI:Nat->List ab->List (Nat × ab)
 | _,[]=>[]
 | i,x::l=>(i,x)::xI (i+1) l
theorem MT:∀ (l:List ab) (i t:Nat),get (xI i l) t=if i<=t then l[t - i]? else none
 | [],i,t=>by simp [xI,get]
 | x::l,i,t=>by
  simp only [xI,get];by_cases h:t=i
  ·subst h; simp
  ·rw [if_neg h,MT l (i+1) t];by_cases h1:i+1<=t
   ·rw [if_pos h1,if_pos (by omega)];have:t - i=(t - (i+1))+1:=by omega
    rw [this,List.getElem?_cons_succ]
   ·rw [if_neg h1,if_neg (by omega)]
theorem RP (args:List ab):pf args=get (xI 0 args):=funext λt=>by rw [MT]; simp [pf]
theorem b1.go {P:Program}{f:FuncId}{fn:Func}{c:Code}{args:List ab}{outs:List (Option ab)}{res:ab}{N:cS}(aS:P.funcs[f]?=some fn) (av:fn.body=some c) (a_:fn.ntmps=N.size) (aR:Nat.ble args.length N.size=true) (hlen:outs.length=args.length)
  (hw:W P N c (get (xI 0 args)) (Fin P N fn.results.toList args.length outs res)):b1 P f args outs res :=
 .fin aS av a_ aR hlen (by rw [RP]; exact hw)
end Go.Own
namespace Go.Own
open Go
set_option linter.unusedSectionVars false
variable [cI]
section
variable {P:Program}{N:cS}{Φ og:Exit->aK->Prop}{Ψ:aK->Prop}{G G1:List (Nat × ab)}{A B c:Code}{id k:Nat}{e:Exit}{S R:Type}
theorem jz.dv (h:Trim true (get G) (get G1) G1):jz P N .skip G G1:=.skip h
inductive ia:aK->List (Nat × ab)->Prop
 | hS {G:List (Nat × ab)}:ia (get G) G
 | eB {g g1:aK}{G:List (Nat × ab)}(h:kj g g1) (av:ia g1 G):ia g G
theorem ia.trans {g:aK}{G G1:List (Nat × ab)}(h:ia g G) (h1:ia (get G) G1):ia g G1:=by
 induction h with
 | hS=>exact h1
 | eB h _ aM=>exact .eB h (aM h1)
inductive As (P:Program) (N:cS):aK->Exit->(Exit->aK->Prop)->Prop
 | hS {g:aK}{e:Exit}{Φ:Exit->aK->Prop}(h:Φ e g):As P N g e Φ
 | eB {g g1:aK}{e:Exit}{Φ:Exit->aK->Prop}(hw:kj g g1) (h:As P N g1 e Φ):As P N g e Φ
theorem W.outs {g:aK}(h:W P N c g Φ) (nw:∀ e g',Φ e g'->As P N g' e og):W P N c g og:=by
 intro a w I Fs Q bn a_ dA;refine h bn a_ λe g' bZ w' au aA=>?_;have rM:=nw e g' au;clear au nw;revert aA
 induction rM with
 | hS h=>exact λaA=>dA _ _ _ _ h aA
 | eB hw _ aM =>
  intro aA;refine aM dA ?_;obtain ⟨h1,af,I',b2,dZ,bT⟩:=aA;obtain ⟨iQ,h7,gx⟩:=dZ.eB hw;exact ⟨h1,af,I',iQ,h7,bT.dF,bT.more,bT.new,λc ⟨t,aa⟩=>bT.own c ⟨t,gx t c aa⟩⟩
def aE (e:Exit) (Φ:Exit->aK->Prop) (G:List (Nat × ab)):Prop:=∀ g,ia g G->Φ e g
theorem W.be {g:aK}(h:W P N c (get G) Φ) (av:ia g G):W P N c g Φ:=by
 induction av with
 | hS=>exact h
 | eB hw _ aM=>exact (aM h).weaken hw
theorem pd.be {g:aK}(h:pd P N c (get G) Φ) (av:ia g G):pd P N c g Φ:=by
 induction av with
 | hS=>exact h
 | eB hw _ aM=>exact (aM h).weaken hw
theorem aE.bJ (h:W P N B (get G) Φ):aE .normal (o0 (λg1=>W P N B g1 Φ) og) G:=λ_ av=>ZR (h.be av)
theorem aE.gE (h:aE (.exit k) og G):aE (.exit k) (o0 Ψ og) G:=λg av=>ZQ (h g av)
theorem aE.jJ (h:aE .ret og G):aE .ret (o0 Ψ og) G:=λg av=>ZS (h g av)
theorem aE.cH (h:aE .normal Φ G):aE .normal (lX id Φ) G:=λg av=>Xj (h g av)
theorem aE.gA (h:aE .normal Φ G):aE (.exit id) (lX id Φ) G:=λg av=>Xh (h g av)
theorem aE.GR (hk:Nat.beq k id=false) (h:aE (.exit k) Φ G):aE (.exit k) (lX id Φ) G:=λg av=>Xi hk (h g av)
theorem aE.pg (h:aE .ret Φ G):aE .ret (lX id Φ) G:=λg av=>Xk (h g av)
theorem W.gI (h:aE (.exit k) Φ G):W P N (.exit k) (get G) Φ:=W.exit (h _ .hS)
theorem W.dv (h:aE .normal Φ G):W P N .skip (get G) Φ:=W.skip (h _ .hS)
theorem W.rt (h:aE .ret Φ G):W P N .ret (get G) Φ:=W.ret (h _ .hS)
theorem W.rx {id:Nat}{l:List Oper}(G1:List (Nat × ab)) (h:aC P N l.toArray l (get G) λg'=>kj g' (get G1)) (hk:aE .normal Φ G1):W P N (.region id l.toArray false) (get G) Φ :=
 W.Aa (λi hi=>by obtain ⟨g',h1,af⟩:=h i hi; exact ⟨g',h1,hk g' (.eB af .hS)⟩)
theorem W.ds {G1:List (Nat × ab)}(h:Trim true (get G) (get G1) G1) (hw:W P N c (get G1) Φ):W P N c (get G) Φ:=hw.weaken h.eB
theorem W.st {G:List (Nat × ab)}(G1:List (Nat × ab)) (h:W P N c (get G1) Φ) (e:G1=G:=by rfl):W P N c (get G) Φ:=by subst e; exact h
theorem W.cH (h:W P N c (get G) (lX id Φ)):W P N (.block id c) (get G) Φ:=W.block h
theorem W.b6 (G1:List (Nat × ab)) (h:W P N c (get G) λe g=>e=.normal/\ia g G1) (hk:aE .normal Φ G1):W P N c (get G) Φ :=
 h.mono λe g ⟨he,av⟩=>by subst he; exact hk g av
theorem aE.b6 (h:Trim true (get G) (get G1) G1):aE .normal (λe g=>e=.normal/\ia g G1) G:=λ_ av=>⟨rfl,av.trans (.eB h.eB .hS)⟩
def kV (G:S->List (Nat × ab)) (Ψ:R->Exit->aK->Prop):S ⊕ R->Exit->aK->Prop
 | .inl s,e,g=>e=.normal/\ia g (G s)
 | .inr r,e,g=>e≠.normal/\Ψ r e g
theorem pd.it {f:S->Option (S ⊕ R)}{G:S->List (Nat × ab)}{Ψ:R->Exit->aK->Prop}(av:∀ s o,f s=some o->W P N c (get (G s)) (kV G Ψ o)) :
  ∀ (n:Nat) (s:S) (r:R),Own.iter f n s=some r->pd P N c (get (G s)) (Ψ r)
 | 0,_,_,h=>by simp [Own.iter] at h
 | n+1,s,r,h=>by
  simp only [Own.iter] at h;cases aS:f s with
  | none=>rw [aS] at h; cases h
  | some o =>
   rw [aS] at h;refine .step ((av s o aS).mono λe g' ah=>?_);cases o with
   | inl cp =>
    obtain ⟨rfl,hw⟩:=ah;exact (pd.it av n cp r h).be hw
   | inr ck =>
    cases h;obtain ⟨aA,hw⟩:=ah;cases e with
    | normal=>exact absurd rfl aA
    | _=>exact hw
theorem W.er {f:S->Option (S ⊕ R)}{s:S}{r:R}(G:S->List (Nat × ab)) (Ψ:R->Exit->aK->Prop) (h:b5 f s=some r) (av:∀ s o,f s=some o->W P N c (get (G s)) (kV G Ψ o)) (hk:∀ e g,Ψ r e g->Φ e g):W P N (.loop c) (get (G s)) Φ :=
 (W.loop (pd.it av fuel s r h)).mono hk
theorem W.OC {f:S->Option (S ⊕ R)}{s:S}{r:R}(G:S->List (Nat × ab)) (id:Nat) (l7:R->List (Nat × ab)) (h:b5 f s=some r) (av:∀ s o,f s=some o->W P N c (get (G s)) (kV G (λr e g=>e=.exit id/\ia g (l7 r)) o)) (hk:aE (.exit id) Φ (l7 r)):W P N (.loop c) (get (G s)) Φ :=
 .er G _ h av λe g ⟨he,aN⟩=>by subst he; exact hk g aN
theorem W.JE {gp:Type}{f:S->Option (S ⊕ (R ⊕ gp))}{s:S}{r:R ⊕ gp}(G:S->List (Nat × ab)) (id:Nat) (l7:R->List (Nat × ab)) (h0:gp->List (Nat × ab)) (h:b5 f s=some r)
  (av:∀ s o,f s=some o->W P N c (get (G s)) (kV G (λ(r:R ⊕ gp) e g=>match r with | .inl r=>e=.exit id/\ia g (l7 r) | .inr r=>e=.ret/\ia g (h0 r)) o))
  (j:∀ x,r=.inl x->aE (.exit id) Φ (l7 x)) (ah:∀ x,r=.inr x->aE .ret Φ (h0 x)):W P N (.loop c) (get (G s)) Φ:=by
 refine .er G _ h av λe g h=>?_;cases r with
 | inl r=>obtain ⟨rfl,aN⟩:=h; exact j r rfl g aN
 | inr r=>obtain ⟨rfl,aN⟩:=h; exact ah r rfl g aN
theorem aE.go {s:S}{F:S->List (Nat × ab)}{Ψ:R->Exit->aK->Prop}(h:Trim true (get G) (get (F s)) (F s)):aE .normal (kV F Ψ (.inl s)) G:=λ_ av=>⟨rfl,av.trans (.eB h.eB .hS)⟩
theorem aE.a6 {r:R}{F:S->List (Nat × ab)}{l7:R->List (Nat × ab)}(h:Trim true (get G) (get (l7 r)) (l7 r)):aE (.exit id) (kV F (λr e g=>e=.exit id/\ia g (l7 r)) (.inr r)) G:=λ_ av=>⟨by simp,rfl,av.trans (.eB h.eB .hS)⟩
theorem aE.x2 {gp:Type}{r:R}{F:S->List (Nat × ab)}{l7:R->List (Nat × ab)}{h0:gp->List (Nat × ab)}(h:Trim true (get G) (get (l7 r)) (l7 r)) :
  aE (.exit id) (kV F (λ(r:R ⊕ gp) e g=>match r with | .inl r=>e=.exit id/\ia g (l7 r) | .inr r=>e=.ret/\ia g (h0 r)) (.inr (.inl r))) G:=λ_ av=>⟨by simp,rfl,av.trans (.eB h.eB .hS)⟩
theorem aE.jt {gp:Type}{r:gp}{F:S->List (Nat × ab)}{l7:R->List (Nat × ab)}{h0:gp->List (Nat × ab)}(h:Trim true (get G) (get (h0 r)) (h0 r)) :
  aE .ret (kV F (λ(r:R ⊕ gp) e g=>match r with | .inl r=>e=.exit id/\ia g (l7 r) | .inr r=>e=.ret/\ia g (h0 r)) (.inr (.inr r))) G:=λ_ av=>⟨by simp,rfl,av.trans (.eB h.eB .hS)⟩
def pS (P:Program) (N:cS) (rs:List ResultVar) (n:Nat) (outs:List (Option ab)) (res:ab) (e:Exit) (g:aK):Prop:=∃ G,ia g G/\Fin P N rs n outs res e (get G)
theorem W.fin {rs:List ResultVar}{n:Nat}{outs:List (Option ab)}{res:ab}{g:aK}(h:W P N c g (pS P N rs n outs res)):W P N c g (Fin P N rs n outs res):=by
 have key:∀ e g,pS P N rs n outs res e g->As P N g e (Fin P N rs n outs res):=by
  rintro e g ⟨G,av,aS⟩
  induction av with
  | hS=>exact .hS aS
  | eB hw _ aM=>exact .eB hw (aM aS)
 exact W.outs h key
theorem aE.fin {rs:List ResultVar}{n:Nat}{outs:List (Option ab)}{res:ab}(h:Fin P N rs n outs res e (get G)):aE e (pS P N rs n outs res) G:=λ_ av=>⟨G,av,h⟩
end
end Go.Own
namespace Go.Own
open Go
set_option linter.unusedSectionVars false
variable [cI]
section
variable {P:Program}{N:cS}{ops:Array Oper}{a':List (List Nat)}{g0:aK}{K:aK->Prop}{l:List Oper}{acc:Acc}{d i:Nat}{op:Op}{ty:TypeId}{pos:String}{after:Array Edge}{x:ab}{gd:Option (Nat × Bool)}
abbrev jv (a':List (List Nat)) (g0:aK) (J:Nat) (acc:Acc):aK:=c3 g0 (λm=>(a'.getD J []).contains m) acc
def bE (P:Program) (N:cS) (ops:Array Oper) (a':List (List Nat)) (g0:aK) (i:Nat) (acc:Acc) (l:List Oper) (K:aK->Prop):Prop:=∀ dK J,mC P N ops a' g0 i dK->iG P N ops a' g0 i dK J acc->ops.toList.drop J=l->∃ g',sl P N ops a' i dK g0 g'/\K g'
theorem y7 {J bw:Nat}{o:Oper}(h:ops.toList.drop J=o::l) (ai:Nat.beq ops.size (bw+l.length+1)=true):J=bw:=by
 grind [List.length_cons,Nat.eq_of_beq_eq_true]
theorem Rt (aA:acc.all (λe=>!Nat.beq e.2.1 d)=true):∀ e∈acc,e.2.1≠d:=by
 intro e he h;have:=List.all_eq_true.1 aA e he
 simp_all
theorem bE.st (bw:Nat) {r:Option ab}{o:Oper}(aP:o.dst=some d) (ay:pV P (jv a' g0 bw acc) ops o r) (ai:Nat.beq ops.size (bw+l.length+1)=true) (aS:g0 d=none) (aA:acc.all (λe=>!Nat.beq e.2.1 d)=true) (a_:N.ok d=true)
  (hk:bE P N ops a' g0 i ((bw,d,r)::acc) l K):bE P N ops a' g0 i acc (o::l) K:=by
 intro dK J cb kH kE;have:=y7 kE ai;subst this;obtain ⟨h1,af⟩:=drop_cons kE;exact hk dK (J+1) cb (.step kH h1 aP aS (Rt aA) a_ ay) af
theorem bE.v (bw:Nat) (au:b7 P (jv a' g0 bw acc) op ty x) (ai:Nat.beq ops.size (bw+l.length+1)=true) (aS:g0 d=none) (aA:acc.all (λe=>!Nat.beq e.2.1 d)=true) (a_:N.ok d=true) (aN:e7 (jv a' g0 bw acc) ops gd)
  (hk:bE P N ops a' g0 i ((bw,d,some x)::acc) l K):bE P N ops a' g0 i acc (⟨some d,op,ty,pos,after,gd⟩::l) K :=
 .st bw (r:=some x) rfl (.inl ⟨aN.wanted,.inl au⟩) ai aS aA a_ hk
theorem bE.c (bw:Nat) (au:cV P (jv a' g0 bw acc) op x) (ai:Nat.beq ops.size (bw+l.length+1)=true) (aS:g0 d=none) (aA:acc.all (λe=>!Nat.beq e.2.1 d)=true) (a_:N.ok d=true) (aN:e7 (jv a' g0 bw acc) ops gd)
  (hk:bE P N ops a' g0 i ((bw,d,some x)::acc) l K):bE P N ops a' g0 i acc (⟨some d,op,ty,pos,after,gd⟩::l) K :=
 .st bw (r:=some x) rfl (.inl ⟨aN.wanted,.inr au⟩) ai aS aA a_ hk
theorem bE.ps (bw:Nat) {vH t':Nat}{b c:Bool}(h:(ops[vH]?).bind (·.dst)=some t') (aN:jv a' g0 bw acc t'=some (bc c)) (av:c=!b) (ai:Nat.beq ops.size (bw+l.length+1)=true) (aS:g0 d=none) (aA:acc.all (λe=>!Nat.beq e.2.1 d)=true) (a_:N.ok d=true)
  (hk:bE P N ops a' g0 i ((bw,d,some (.bQ []))::acc) l K):bE P N ops a' g0 i acc (⟨some d,op,ty,pos,after,some (vH,b)⟩::l) K :=
 .st bw (r:=some (.bQ [])) rfl (.inr (.inl ⟨⟨t',h,.inl ⟨c,aN,by subst av; cases b <;> rfl⟩⟩,rfl⟩)) ai aS aA a_ hk
theorem bE.pu (bw:Nat) {vH t':Nat}{b:Bool}(h:(ops[vH]?).bind (·.dst)=some t') (aN:jv a' g0 bw acc t'=some (.bQ [])) (ai:Nat.beq ops.size (bw+l.length+1)=true) (aS:g0 d=none) (aA:acc.all (λe=>!Nat.beq e.2.1 d)=true) (a_:N.ok d=true)
  (hk:bE P N ops a' g0 i ((bw,d,some (.bQ []))::acc) l K):bE P N ops a' g0 i acc (⟨some d,op,ty,pos,after,some (vH,b)⟩::l) K :=
 .st bw (r:=some (.bQ [])) rfl (.inr (.inl ⟨⟨t',h,.inr ⟨aN,rfl⟩⟩,rfl⟩)) ai aS aA a_ hk
def lY (G:List (Nat × ab)):Bool:=G.all λp=>match p.2 with | .bB ..=>false | _=>true
theorem vO {G:List (Nat × ab)}(h:lY G=true):∀ t z q n m new,get G t≠some (.bB z q n m new):=by
 induction G with
 | nil=>intro t z q n m new j; cases j
 | cons p G aM =>
  grind [lY,get]
def xD:List Place->Bool
 | []=>true
 | p::l=>l.all (λq=>!(Nat.beq p.root q.root&&decide (p.path=q.path)))&&xD l
omit [cI] in
theorem JP:∀ {l:List Place},xD l=true->l.Nodup
 | [],_=>List.nodup_nil
 | p::l,h=>by
  simp only [xD,Bool.and_eq_true,List.all_eq_true] at h;refine List.nodup_cons.2 ⟨λhm=>?_,JP h.2⟩;have:=h.1 p hm;simp at this
theorem bE.fin {G G1:List (Nat × ab)}(aW:xD (acc.filterMap jV)=true) (fB:lY G=true) (hi:Nat.ble i ops.size=true) (h:Trim true (c3 (get G) (λ_=>true) acc) (get G1) G1):bE P N ops a' (get G) i acc [] λg'=>kj g' (get G1):=by
 intro dK J cb kH kE;have ai:J=ops.size:=by
  have h1:ops.size<=J:=by
   have:=congrArg List.length kE;rw [List.length_drop,List.length_nil,Array.length_toList] at this;omega
  have aJ:J<=ops.size:=by
   cases kH with
   | nil=>exact Nat.le_of_ble_eq_true hi
   | step _ aU=>have:=(Array.getElem?_eq_some_iff.1 aU).1; omega
  omega
 subst ai;exact ⟨_,.fin kH (JP aW) (vO fB),h.eB⟩
theorem sl.LP {g g1 g':aK}{i J:Nat}{dK:Acc}{o:Oper}(cb:mC P N ops a' g i dK) (ay:iG P N ops a' g i dK J acc) (gw:(acc.filterMap jV).Nodup) (fB:∀ t z q n m new,g t≠some (.bB z q n m new)) (aU:ops[J]?=some o) (hw:ir (c3 g (λ_=>true) acc) ops o true)
  (he:br P N (c3 g (λ_=>true) acc) o g1) (aR:(List.range J).all (λk=>(a'.getD J []).contains k)=true) (av:(List.range ops.size).all (λk=>decide (k<=J)||(a'.getD k []).contains J)=true) (ah:sl P N ops a' (J+1) [] g1 g'):sl P N ops a' i dK g g':=by
 have dQ:∀ e∈acc,(a'.getD J []).contains e.1=true:=λe h=>List.all_eq_true.1 aR e.1 (List.mem_range.2 ((ay.le cb).2 e h));have e:c3 g (λm=>(a'.getD J []).contains m) acc=c3 g (λ_=>true) acc:=funext λt=>Dj λe h _=>dQ e h;have fy:[]=acc.filter λe=>!(a'.getD J []).contains e.1:=by
  grind [List.filter_eq_nil_iff]
 exact .wG (rs:=sc []) ay gw fB aU (by rw [e]; exact hw) (by rw [e]; exact he.kn.v) (λp au=>by simp [sc] at au) fy (by simp) (by simp) (by simp) av ah
theorem W.rd {id:Nat}{l:List Oper}{G:List (Nat × ab)}{Φ:Exit->aK->Prop}(a':List (List Nat)) (G1:List (Nat × ab)) (hm:P.follows .mixedOrders=true) (dQ:pe l.toArray a'=true)
  (h:bE P N l.toArray a' (get G) 0 [] l λg'=>kj g' (get G1)) (hk:aE .normal Φ G1):W P N (.region id l.toArray true) (get G) Φ:=by
 obtain ⟨g',h1,af⟩:=h [] 0 .nil .nil (by simp);exact (fN.draw hm dQ h1).w (hk g' (.eB af .hS))
end
end Go.Own
namespace Go.Own
open Go
set_option linter.unusedSectionVars false
variable [cI]
variable {α:Type}
section
variable {P:Program}{N:cS}{ops:Array Oper}{g g2:aK}{K:aK->Prop}{l:List Oper}{d r:Nat}{ty t t2:TypeId}{pos:String}{after:Array Edge}{a b c:Operand}{k kJ:IntKind}{m n:Int}{s u:ByteArray}
namespace O
theorem gz {e:TypeId}{z:Value}{cs:List ab}(aW:(P.info? e).bind (·.zero)=some z) (h1:z.cells.toList.all Value.oneCell'=true) (aa:z.cells.toList.map kd=cs):b7 P g (.alloc e) ty (.obj cs):=by
 subst aa; exact .qj (.alloc aW (by rw [<- Array.all_toList]; exact h1))
theorem eW {t:TypeId}{parts:Array (Nat × Operand)}{pl:List (Nat × Nat)}{df:Value}{ps:List (Nat × List ab)}{cs:List ab}(aq:kq P t pl=true) (aW:(P.info? t).bind (·.zero)=some df) (h1:df.cells.toList.all Value.oneCell'=true)
  (au:q3 g parts.toList=some ps) (aa:vb (λi=>pl[i]?) (df.cells.toList.map kd) ps=some cs):b7 P g (.build t parts) ty (.agg cs):=.Cx (.build aq aW (by rw [<- Array.all_toList]; exact h1) au aa)
end O
inductive pU (g g2:aK):ab->Prop
 | n {x:ab}(h:cE x):pU g g2 x
 | p {r k:Nat}{cs cs2:List ab}(h:g r=some (.obj cs)) (hk:k<cs.length) (af:g2 r=some (.obj cs2)) (fK:k<cs2.length):pU g g2 (.ptr ⟨r,[]⟩ k)
 | r {z n N Li q:Nat}{cs cs2:List ab}(h:g q=some (.own z N cs)) (aA:n<=N) (af:g2 q=some (.own z Li cs2)) (oI:n<=Li):pU g g2 (.bg z ⟨q,[]⟩ n)
theorem v' {r k:Nat}{cs:List ab}(h:g r=some (.obj cs)) (hk:k<cs.length):gZ g (.ptr ⟨r,[]⟩ k):=⟨.obj cs,by simp [bu,h,ab.at],0,0,cs,.inr rfl,hk⟩
theorem C6 {z n N q:Nat}{cs:List ab}(h:g q=some (.own z N cs)) (aA:n<=N):gZ g (.bg z ⟨q,[]⟩ n):=.inl ⟨N,cs,by simp [bu,h,ab.at],aA⟩
theorem pU.b' {x:ab}(h:pU g g2 x):ej g2 x:=by
 cases h with
 | n h=>exact .bl h
 | p _ _ af fK=>exact .ref rfl (v' af fK)
 | r _ _ af oI=>exact .ref rfl (C6 af oI)
theorem pU.C8 {x:ab}{z8 k0 m0:Nat}(h:pU g g2 x):ki (λr=>gZ g r/\Clear ⟨z8,[]⟩ k0 m0 r/\gZ g2 r) x:=by
 cases h with
 | n h=>exact .bl h
 | p h hk af fK =>
  refine .ref rfl ⟨v' h hk,?_,v' af fK⟩;intro q a7 _ J ck e
  grind [z']
 | r h hk af fK =>
  refine .ref rfl ⟨C6 h hk,?_,C6 af fK⟩;intro q a7 _ J ck e
  grind [z']
theorem pU.fk {x:ab}(h:pU g g2 x):∀ z p n m new,x≠.bB z p n m new:=by
 rintro z p n m new rfl;cases h with
 | n h=>cases h
inductive ln (g g2:aK) (r:Nat) (cs2:List ab):List (Nat × ab)->Prop
 | nil:ln g g2 r cs2 []
 | n {s:Nat}{x:ab}{l:List (Nat × ab)}(cA:Nat.beq s r=false) (h:g s=some x) [aA:b4 x] (t:ln g g2 r cs2 l):ln g g2 r cs2 ((s,x)::l)
 | p {s q k:Nat}{l:List (Nat × ab)}{cs km:List ab}(cA:Nat.beq s r=false) (h:g s=some (.ptr ⟨q,[]⟩ k)) (h1:g q=some (.obj cs)) (hk:Nat.blt k cs.length=true) (af:g2 q=some (.obj km)) (fK:Nat.blt k km.length=true) (t:ln g g2 r cs2 l):ln g g2 r cs2 ((s,.ptr ⟨q,[]⟩ k)::l)
 | w {α:Type}{s q:Nat}{en:bz α}{L:List α}{l:List (Nat × ab)}(cA:Nat.beq s r=false) (h:g s=some (.bg en.z ⟨q,[]⟩ L.length)) (h1:g q=some (ao en L)) (af:g2 q=some (ao en L)) (t:ln g g2 r cs2 l):ln g g2 r cs2 ((s,.bg en.z ⟨q,[]⟩ L.length)::l)
 | b {l:List (Nat × ab)}{x:ab}(e:x=.obj cs2) [aA:dh cs2] (t:ln g g2 r cs2 l):ln g g2 r cs2 ((r,x)::l)
theorem ln.spec {cs2:List ab}{l:List (Nat × ab)}(h:ln g g2 r cs2 l):∀ t x,get l t=some x->(t≠r/\g t=some x/\pU g g2 x)\/(t=r/\x=.obj cs2/\cE x):=by
 induction h with
 | nil=>intro t x j; cases j
 | @n s x l cA h aA _ aM =>
  intro t y al; simp only [get] at al
  split at al
  ·rename_i e; subst e; cases al; exact .inl ⟨Nat.ne_of_beq_eq_false cA,h,.n aA.bl⟩
  ·exact aM t y al
 | @p s q k l cs km cA h h1 hk af fK _ aM =>
  intro t y al; simp only [get] at al
  split at al
  ·rename_i e; subst e; cases al; exact .inl ⟨Nat.ne_of_beq_eq_false cA,h,.p h1 (by simpa using hk) af (by simpa using fK)⟩
  ·exact aM t y al
 | @w α s q en L l cA h h1 af _ aM =>
  intro t y al; simp only [get] at al
  split at al
  ·rename_i e; subst e; cases al; exact .inl ⟨Nat.ne_of_beq_eq_false cA,h,.r h1 (Nat.le_refl _) af (Nat.le_refl _)⟩
  ·exact aM t y al
 | @b l x e aA _ aM =>
  intro t y al; simp only [get] at al
  split at al
  ·rename_i b_; subst b_; cases al; subst e; exact .inr ⟨rfl,rfl,.obj aA.bl⟩
  ·exact aM t y al
theorem br.box {o:Oper}{k0:Nat}{cs cs' cs2:List ab}{y:ab}{G2:List (Nat × ab)}(aU:o.op=.store t a b) (aP:o.dst=none) (ay:g r=some (.obj cs)) (aR:Rd g a (.ptr ⟨r,[]⟩ k0)) (av:Rd g b y) (aA:cE y) (aa:nQ y=some cs') (aW:hs P t cs'.length=true)
  (hk:k0+cs'.length<=cs.length) (aO:0<cs'.length) (he:eK cs k0 cs'=cs2) [e6:dh cs] (ah:get G2 r≠none) (c_:ln g (get G2) r cs2 G2):br P N g o (get G2):=by
 subst he;have mN:g r≠none:=by rw [ay]; simp
 refine .store aU aP aR.bo av.bo (.bl (by simpa using aA)) .refl aa aW (p:=⟨r,[]⟩) (nd:=.obj cs) (z:=0) (n:=0) (by simp [bu,ay,ab.at]) (.inr rfl) hk aO (λt x j=>?_) (λt x j y al=>?_) (λt z q n m new j=>?_) ah
 ·rcases c_.spec t x j with ⟨h1,af,_⟩ | ⟨h1,af,_⟩
  all_goals grind [cj,ab.setAt,ab.eK]
 ·rcases c_.spec t x j with ⟨h1,af,aJ⟩ | ⟨h1,af,aJ⟩
  ·rw [af] at al;cases al;exact aJ.C8
  ·subst h1;rw [ay] at al;cases al;exact .bl (.obj e6.bl)
 ·rcases c_.spec t _ j with ⟨_,_,aJ⟩ | ⟨_,af,_⟩
  ·exact aJ.fk _ _ _ _ _ rfl
  grind
theorem Trim.q {GO:Bool}{s' q k0:Nat}{cs:List ab}{Ow:List (Nat × ab)}(h:g s'=some (.ptr ⟨q,[]⟩ k0)) (af:g2 q=some (.obj cs)) (hk:Nat.blt k0 cs.length=true) (gV:Trim GO g g2 Ow):Trim GO g g2 ((s',.ptr ⟨q,[]⟩ k0)::Ow) :=
 .r h (.ref rfl (v' af (by simpa using hk))) (by simp) gV
theorem aC.nR {o:Oper}{G2:List (Nat × ab)}(aN:o.guard=none) (he:br P N g o (get G2)) (hk:aC P N ops l (get G2) K):aC P N ops (o::l) g K:=by
 intro i hi;obtain ⟨h1,af⟩:=drop_cons hi;obtain ⟨g',ah,c6⟩:=hk (i+1) af;refine ⟨g',.kn h1 ?_ he ah,c6⟩
 grind [ir]
theorem aC.ij {k0:Nat}{cs cs' cs2:List ab}{y:ab}{G2:List (Nat × ab)}(ay:g r=some (.obj cs)) (aR:Rd g a (.ptr ⟨r,[]⟩ k0)) (av:Rd g b y) [aA:b4 y] (aa:nQ y=some cs') (aW:hs P t cs'.length=true)
  (hk:Nat.ble (k0+cs'.length) cs.length=true) (aO:Nat.blt 0 cs'.length=true) (he:eK cs k0 cs'=cs2) [e6:dh cs] (ah:(get G2 r).isSome=true) (c_:ln g (get G2) r cs2 G2) (BB:aC P N ops l (get G2) K):aC P N ops (⟨none,.store t a b,ty,pos,after,none⟩::l) g K :=
 .nR rfl (.box rfl rfl ay aR av aA.bl aa aW (Nat.le_of_ble_eq_true hk) (by simpa using aO) he (by intro e; rw [e] at ah; cases ah) c_) BB
variable {a':List (List Nat)}{acc:Acc}{i:Nat}
theorem bE.wG (bw:Nat) {G G2:List (Nat × ab)}{o:Oper}(he:br P N (c3 (get G) (λ_=>true) acc) o (get G2)) (aN:o.guard=none) (aW:acc.filterMap jV=[]) (fB:lY G=true) (ai:Nat.beq ops.size (bw+l.length+1)=true)
  (aR:(List.range bw).all (λk=>(a'.getD bw []).contains k)=true) (av:(List.range ops.size).all (λk=>Nat.ble k bw||(a'.getD k []).contains bw)=true) (hk:bE P N ops a' (get G2) (bw+1) [] l K):bE P N ops a' (get G) i acc (o::l) K:=by
 intro dK J cb kH kE;have:=y7 kE ai;subst this;obtain ⟨h1,af⟩:=drop_cons kE;obtain ⟨g',ah,c6⟩:=hk [] (J+1) .nil .nil af;refine ⟨g',.LP cb kH (by rw [aW]; exact List.nodup_nil) (vO fB) h1 ?_ he aR ?_ ah,c6⟩
 ·grind [ir]
 simp_all
theorem bE.ij (bw:Nat) {G:List (Nat × ab)}{k0:Nat}{cs cs' cs2:List ab}{y:ab}{G2:List (Nat × ab)}(ai:Nat.beq ops.size (bw+l.length+1)=true) (tT:(List.range bw).all (λk=>(a'.getD bw []).contains k)=true) (zc:(List.range ops.size).all (λk=>Nat.ble k bw||(a'.getD k []).contains bw)=true) (B6:acc.filterMap jV=[]) (fB:lY G=true)
  (ay:c3 (get G) (λ_=>true) acc r=some (.obj cs)) (aR:Rd (c3 (get G) (λ_=>true) acc) a (.ptr ⟨r,[]⟩ k0)) (av:Rd (c3 (get G) (λ_=>true) acc) b y) [aA:b4 y] (aa:nQ y=some cs') (aW:hs P t cs'.length=true)
  (hk:Nat.ble (k0+cs'.length) cs.length=true) (aO:Nat.blt 0 cs'.length=true) (he:eK cs k0 cs'=cs2) [e6:dh cs] (ah:(get G2 r).isSome=true) (c_:ln (c3 (get G) (λ_=>true) acc) (get G2) r cs2 G2) (BB:bE P N ops a' (get G2) (bw+1) [] l K):bE P N ops a' (get G) i acc (⟨none,.store t a b,ty,pos,after,none⟩::l) K :=
 .wG bw (.box rfl rfl ay aR av aA.bl aa aW (Nat.le_of_ble_eq_true hk) (by simpa using aO) he (by intro e; rw [e] at ah; cases ah) c_) rfl B6 fB ai tT zc BB
end
end Go.Own
namespace Go.Own
open Go
set_option linter.unusedSectionVars false
variable [cI]
variable {α β:Type}
def nC (m:Int) (z:α):Option (List α):=if 0<=m/\m<=lim then some (List.replicate m.toNat z) else none
def da (l m:List α):Option (List α):=if l.length+m.length<=lim then some (l++m) else none
class Flat (e:bz α):Prop where sy:∀ a,(e.cells a).all lO=true
instance:Flat az:=⟨λ_=>rfl⟩
instance:Flat p0:=⟨λ_=>rfl⟩
instance:Flat cg:=⟨λ_=>rfl⟩
instance:Flat cJ:=⟨λ_=>rfl⟩
instance {e:bz α}:Flat (bM e):=⟨λ_=>rfl⟩
theorem Y2 (e:bz α) [h:Flat e] (l:List α):(bq e l).all lO=true:=by
 refine List.all_eq_true.2 λx j=>?_;obtain ⟨a,_,aR⟩:=List.mem_flatMap.1 j;exact List.all_eq_true.1 (h.sy a) x aR
theorem oT (e:bz α) (l m:List α):(.own e.z (l.length+m.length) (bq e l++bq e m):ab)=ao e (l++m):=by
 grind [FI]
theorem x9 (e:bz α) (l:List α):(bq e l).take (l.length * e.z)=bq e l:=by grind [oW]
theorem PC:∀ L:List Int,bq p0 L=L.map λb=>.lit (.int .u8 b)
 | []=>rfl
 | x::L=>by
  have:bq p0 (x::L)=qL x::bq p0 L:=rfl;rw [this,List.map_cons,PC L]
section
variable {P:Program}{N:cS}{ops:Array Oper}{g g1 g2:aK}{K:aK->Prop}{l:List Oper}{d r:Nat}{ty t t2:TypeId}{pos:String}{after:Array Edge}{gd:Option (Nat × Bool)}{a b c:Operand}{k kJ:IntKind}{m n:Int}{s u:ByteArray}{p q:Place}
namespace O
theorem dq {e de:Nat}{parts:Array (Nat × Operand)}{ys:List ab}(en:bz α) (L:List α) (aq:fb P t e en.z=true) (j:fC g (parts.toList.map (·.2))=some ys) (aa:ma ys=some (bq en L)) (aW:ys.all (λy=>match jf y with | some c=>Nat.beq c.length en.z | none=>false)=true)
  (au:parts.toList=(parts.toList.map (·.2)).mapIdx (λi x=>(i,x))) (aA:(parts.toList.map (·.2)).length=de) (aj:L.length=de) (hzero:il P e en.z=true) (av:Nat.ble (de * en.z) 16777216=true) (fo:Nat.ble de 16777216=true):b7 P g (.buildSlice t de parts) ty (ao en L):=by
 subst aA;have:=pa.buildSlice (P:=P) (ty:=ty) aq au j (λy al=>by
  grind [Nat.eq_of_beq_eq_true]) aa (Nat.le_of_ble_eq_true av) (Nat.le_of_ble_eq_true fo) (.inr (KZ hzero))
 unfold ao;rw [aj];exact .qj this
theorem nA {z bs n:Nat}{e:TypeId}(j:Rd g a (.bg z p n)) (aq:fb P t e bs=true):b7 P g (.call { callee:=.builtin .len,args:=#[a],argTypes:=#[t] }) ty (ae n):=.eD (.Cd j.bo aq)
theorem gT {en:bz α}{L:List α}{y:α}{e:TypeId}(au:bu g p=some (ao en L)) (j:Rd g a (.bg en.z p L.length)) (hi:Rd g b (.lit (.int k m))) (aq:fb P t e en.z=true) (h:idx L m=some y) (aW:Nat.blt 0 en.z=true):b7 P g (.indexAddr t a b) ty (.ptr p (m.toNat * en.z+0)):=by
 obtain ⟨aO,h1,_⟩:=r4 h;obtain ⟨J,rfl⟩:=Int.eq_ofNat_of_zero_le aO;have Oe:0<en.z:=by simpa using aW
 have ai:J<L.length:=by omega
 refine .eD (.EX j.bo hi.bo aq ai ⟨_,au,_,_,_,.inl rfl,?_⟩)
 simp_all [oW]
theorem YX {en:bz α}{L:List α}{y:α}{o:Nat}(h:idx L m=some y) (aU:o<en.z):m.toNat * en.z+o<(bq en L).length:=by
 obtain ⟨aO,h1,_⟩:=r4 h;rw [oW];have af:m.toNat+1<=L.length:=by omega
 calc m.toNat * en.z+o<m.toNat * en.z+en.z:=by omega
  _=(m.toNat+1) * en.z:=by rw [Nat.add_mul]; omega
  _<=L.length * en.z:=Nat.mul_le_mul_right _ af
theorem j_ {en:bz α}{L:List α}{y:α}{cp f off o hn:Nat}(au:bu g p=some (ao en L)) (j:Rd g a (.ptr p (m.toNat * en.z+o))) (aS:iV P cp f off t=true) (h:idx L m=some y) (aU:o+off=hn) (aT:Nat.blt hn en.z=true):b7 P g (.fieldAddr cp a f) ty (.ptr p (m.toNat * en.z+hn)):=by
 subst aU;rw [<- Nat.add_assoc];refine .eD (.A8 j.bo aS ⟨_,au,_,_,_,.inl rfl,?_⟩)
 simp_all [Nat.add_assoc,YX]
theorem u7 {en:bz α}{L:List α}{y:α}{o:Nat}{x:ab}(au:bu g p=some (ao en L)) (h:idx L m=some y) (aa:(en.cells y)[o]?=some x):bu g (p.push (m.toNat * en.z+o))=some x:=by
 rw [tD,au];exact PB en h aa
theorem jS {en:bz α}{L:List α}{y:α}{o:Nat}{x x':ab}(au:bu g p=some (ao en L)) (j:Rd g a (.ptr p (m.toNat * en.z+o))) (aq:j9 P t=true) (h:idx L m=some y) (aa:(en.cells y)[o]?=some x) (ah:fD 0 (p.push (m.toNat * en.z+o)) x=x'):b7 P g (.load t a) ty x':=by
 subst ah;exact .eD (.Ci j.bo aq (u7 au h aa))
theorem XA {en:bz α}{L:List α}{y:α}{o z:Nat}{cs':List ab}(au:bu g p=some (ao en L)) (j:Rd g a (.ptr p (m.toNat * en.z+o))) (aq:iH P t z=true) (h:idx L m=some y) (aW:Nat.ble (o+z) en.z=true)
  (aa:(((en.cells y).drop o).take z).mapIdx (λi x=>fD 0 (p.push (m.toNat * en.z+o+i)) x)=cs'):b7 P g (.load t a) ty (.agg cs'):=by
 have Oe:=Nat.le_of_ble_eq_true aW;have kE:((bq en L).drop (m.toNat * en.z+o)).take z=((en.cells y).drop o).take z:=by
  rw [<- List.drop_drop,Ki en h,List.drop_append_of_le_length (by rw [en.len]; omega),List.take_append_of_le_length (by rw [List.length_drop,en.len]; omega)]
 subst aa;rw [<- kE];refine .eD (.xB j.bo aq au (.inl rfl) ?_);obtain ⟨aO,h1,_⟩:=r4 h;rw [oW];have af:m.toNat+1<=L.length:=by omega
 calc m.toNat * en.z+o+z<=m.toNat * en.z+en.z:=by omega
  _=(m.toNat+1) * en.z:=by rw [Nat.add_mul]; omega
  _<=L.length * en.z:=Nat.mul_le_mul_right _ af
end O
class qG (g:aK):Prop where fk:∀ t z q n m new,g t≠some (.bB z q n m new)
class mW (x:ab):Prop where fk:∀ z q n m new,x≠.bB z q n m new
instance {x:ab} [h:b4 x]:mW x:=⟨by rintro z q n m new rfl; cases h.bl⟩
instance {p:Place}{k:Nat}:mW (.ptr p k):=⟨by simp⟩
instance {p:Place}{z n:Nat}:mW (.bg z p n):=⟨by simp⟩
instance {p:Place}{z lo n:Nat}:mW (.sub z p lo n):=⟨by simp⟩
instance {cs:List ab}:mW (.agg cs):=⟨by simp⟩
instance {cs:List ab}:mW (.bQ cs):=⟨by simp⟩
instance {cs:List ab}:mW (.obj cs):=⟨by simp⟩
instance {g:aK}{d:Nat}{x:ab} [h:qG g] [j:mW x]:qG (cK g d x):=⟨λt z q n m new e=>by
 unfold cK at e
 split at e
 ·cases e; exact j.fk _ _ _ _ _ rfl
 ·exact h.fk _ _ _ _ _ _ e⟩
instance:qG (get []):=⟨λ_ _ _ _ _ _ e=>by cases e⟩
instance {t:Nat}{x:ab}{G:List (Nat × ab)} [j:mW x] [h:qG (get G)]:qG (get ((t,x)::G)):=⟨λs z q n m new e=>by
 simp only [get] at e
 split at e
 ·cases e; exact j.fk _ _ _ _ _ rfl
 ·exact h.fk _ _ _ _ _ _ e⟩
class DE (acc:Acc):Prop where fk:∀ e∈acc,∀ z q n m new,e.2.2≠some (.bB z q n m new)
instance:DE []:=⟨by simp⟩
instance {J d:Nat}{x:ab}{acc:Acc} [j:mW x] [h:DE acc]:DE ((J,d,some x)::acc):=⟨λe he z q n m new bG=>by
 rcases List.mem_cons.1 he with rfl | he
 ·exact j.fk z q n m new (Option.some.inj bG)
 ·exact h.fk e he z q n m new bG⟩
instance {G:List (Nat × ab)}{A:Nat->Bool}{acc:Acc} [aN:qG (get G)] [h:DE acc]:qG (c3 (get G) A acc):=⟨λt z q n m new e=>by
 rcases uS e with ⟨b_,he,_,_,af⟩ | ⟨_,af⟩
 ·exact h.fk b_ he _ _ _ _ _ af
 ·exact aN.fk _ _ _ _ _ _ af⟩
theorem yR {L M:List α}{r:List α}{b:Nat}(h:da L M=some r) (av:Nat.ble b 128=true):L.length+M.length<=4611686018427387904/\(L.length+M.length) * b<=140737488355328/\r=L++M:=by
 unfold da at h
 split at h
 ·rename_i aj;have hD:=Nat.le_of_ble_eq_true av;have sH:lim=1099511627776:=rfl;refine ⟨by omega,?_,(Option.some.inj h).symm⟩
  calc (L.length+M.length) * b<=1099511627776 * 128:=Nat.mul_le_mul aj hD
   _=140737488355328:=by decide
 ·cases h
inductive nL (g:aK) (en:bz α):ab->List α->Prop
 | i {M:List α}:nL g en (.bm en.z M.length (bq en M)) M
 | n:nL g en .aQ []
 | o {q:Place}{M:List α}(a7:bu g q=some (ao en M)) (aS:(bq en M).all lO=true):nL g en (.bg en.z q M.length) M
theorem nL.src {en:bz α}{y:ab}{M:List α}(h:nL g en y M):Src g y en.z M.length (bq en M):=by
 cases h with
 | i=>exact .bm
 | n=>exact .aQ
 | o a7 aS =>
  have:=Src.bg (g:=g) (m:=M.length) a7 (Nat.le_refl _)
  simp_all [x9,A_]
theorem nL.flat (en:bz α) [Flat en] {q:Place}{M:List α}(a7:bu g q=some (ao en M)):nL g en (.bg en.z q M.length) M:=.o a7 (Y2 en M)
namespace O
theorem ap {en:bz α}{L M r:List α}{y:ab}{e gr:Nat}(ay:Rd g a (.bg en.z p L.length)) (au:bu g p=some (ao en L)) (j:Rd g b y) (hm:nL g en y M) (aq:jM P t e en.z gr=true) (av:Nat.ble gr 128=true) (h:da L M=some r) [e6:qG g] :
  b7 P g (.call { callee:=.builtin .append,args:=#[a,b],argTypes:=#[t,t] }) ty (.bB en.z p L.length M.length (bq en M)):=by
 obtain ⟨h1,af,_⟩:=yR h av;exact .lE (.grow ay.bo (.inl ⟨_,au⟩) (λt bs ch bh cQ e=>e6.fk _ _ _ _ _ _ e) j.bo hm.src aq h1 af)
theorem RK {en:bz α}{M r:List α}{y:ab}{e gr:Nat}(ay:Rd g a .aQ) (j:Rd g b y) (hm:nL g en y M) (aq:jM P t e en.z gr=true) (av:Nat.ble gr 128=true) (h:da [] M=some r) :
  b7 P g (.call { callee:=.builtin .append,args:=#[a,b],argTypes:=#[t,t] }) ty (ao en M):=by
 obtain ⟨h1,af,_⟩:=yR h av;simp only [List.length_nil,Nat.zero_add] at h1 af;exact .lE (.nil ay.bo j.bo hm.src aq h1 af)
end O
inductive mD (ex:List Nat) (g g2:aK):List (Nat × ab)->Prop
 | nil:mD ex g g2 []
 | n {s:Nat}{x:ab}{l:List (Nat × ab)}(cA:ex.elem s=false) (h:g s=some x) [aA:b4 x] (t:mD ex g g2 l):mD ex g g2 ((s,x)::l)
 | p {s q k:Nat}{l:List (Nat × ab)}{km:List ab}(cA:ex.elem s=false) (h:g s=some (.ptr ⟨q,[]⟩ k)) (af:g2 q=some (.obj km)) (fK:Nat.blt k km.length=true) (t:mD ex g g2 l):mD ex g g2 ((s,.ptr ⟨q,[]⟩ k)::l)
 | w {α:Type}{s q:Nat}{en:bz α}{L:List α}{l:List (Nat × ab)}(cA:ex.elem s=false) (h:g s=some (.bg en.z ⟨q,[]⟩ L.length)) (af:g2 q=some (ao en L)) (t:mD ex g g2 l):mD ex g g2 ((s,.bg en.z ⟨q,[]⟩ L.length)::l)
theorem mD.spec {ex:List Nat}{l:List (Nat × ab)}(h:mD ex g g2 l):∀ t x,get l t=some x->ex.elem t=false/\g t=some x/\ej g2 x/\∀ z p n m new,x≠.bB z p n m new:=by
 induction h with
 | nil=>intro t x j; cases j
 | @n s x l cA h aA _ aM =>
  intro t y al; simp only [get] at al
  split at al
  ·rename_i e; subst e; cases al; exact ⟨cA,h,.bl aA.bl,by rintro z p n m new rfl; cases aA.bl⟩
  ·exact aM t y al
 | @p s q k l km cA h af fK _ aM =>
  intro t y al; simp only [get] at al
  split at al
  ·rename_i e; subst e; cases al; exact ⟨cA,h,.ref rfl (v' af (by simpa using fK)),by simp⟩
  ·exact aM t y al
 | @w α s q en L l cA h af _ aM =>
  intro t y al; simp only [get] at al
  split at al
  ·rename_i e; subst e; cases al; exact ⟨cA,h,.ref rfl (.inl ⟨_,_,(by simp [bu,af,ab.at]:bu g2 ⟨q,[]⟩=some (ao en L)),Nat.le_refl _⟩),by simp⟩
  ·exact aM t y al
theorem mD.keep {ex:List Nat}{G2:List (Nat × ab)}(h:mD ex g (get G2) G2) (aN:∀ t,ex.elem t=false->g1 t=g t):hx g1 (get G2) :=
 ⟨λt x j=>by obtain ⟨h1,af,_⟩:=h.spec t x j; rw [aN t h1]; exact af,λt x j=>(h.spec t x j).2.2.1,λt z q n m new j=>(h.spec t _ j).2.2.2 _ _ _ _ _ rfl⟩
theorem Take.row {en:bz α}{L:List α}(au:bu g p=some (ao en L)):Take g [.bg en.z p L.length] [ao en L] (cj g p .dead):=by
 have h1:Take (cj g p .dead) ((bq en L).take (L.length * en.z)) (bq en L) (cj g p .dead):=by
  rw [x9]; exact .bl (pJ en L)
 exact .bg au (Nat.le_refl _) h1 (.bl (by simp))
theorem Take.YZ {en:bz α}{L M:List α}{s:Nat}(ay:g s=some (.bB en.z q L.length M.length (bq en M))) (au:bu g q=some (ao en L)) (a7:q.root≠s):Take g [.bg en.z ⟨s,[]⟩ (L.length+M.length)] [ao en (L++M)] (cj (cj g ⟨s,[]⟩ .dead) q .dead):=by
 rw [<- oT];exact .bB ay au a7 (.bl λx j=>(List.mem_append.1 j).elim (pJ en L x) (pJ en M x)) (.bl (by simp))
theorem Take.Y0 {en:bz α}{L M M2:List α}{s s2:Nat}(ay:g s=some (.bB en.z ⟨s2,[]⟩ (L.length+M2.length) M.length (bq en M))) (kG:g s2=some (.bB en.z q L.length M2.length (bq en M2))) (au:bu g q=some (ao en L)) (a7:q.root≠s) (qT:q.root≠s2) (BQ:s≠s2) :
  Take g [.bg en.z ⟨s,[]⟩ (L.length+M2.length+M.length)] [ao en (L++M2++M)] (cj (cj (cj g ⟨s,[]⟩ .dead) ⟨s2,[]⟩ .dead) q .dead):=by
 have:=Take.zJ (g:=g) (xs:=[]) (xs':=[]) ay kG rfl au a7 qT BQ (.bl (xs:=bq en L++bq en M2++bq en M) λx j=>by
  grind [pJ]) (.bl (by simp))
 grind [FI]
theorem wc {t:Nat}{y:ab}(h:t≠p.root):cj g p y t=g t:=by
 grind [cj]
theorem y8 {ex:List Nat}{t s:Nat}(h:ex.elem t=false) (ay:ex.elem s=true):t≠s:=by
 grind
theorem br.yQ {o:Oper}{en:bz α}{L:List α}{x:Operand}{G2:List (Nat × ab)}(aU:o.op=.assign x) (aP:o.dst=some d) (j:Rd g x (.bg en.z p L.length)) (au:bu g p=some (ao en L)) (c_:mD [p.root] g (get G2) G2) (aN:get G2 d=none) (a_:N.ok d=true):br P N g o (cK (get G2) d (ao en L)) :=
 .assign aU aP j.bo (.row au) .refl (c_.keep λt aq=>wc (y8 aq (by simp))) aN a_
theorem br.Lt {o:Oper}{en:bz α}{L M:List α}{s:Nat}{x:Operand}{G2:List (Nat × ab)}(aU:o.op=.assign x) (aP:o.dst=some d) (j:Rd g x (.bg en.z ⟨s,[]⟩ (L.length+M.length))) (ay:g s=some (.bB en.z q L.length M.length (bq en M))) (au:bu g q=some (ao en L)) (a7:Nat.beq q.root s=false)
  (c_:mD [s,q.root] g (get G2) G2) (aN:get G2 d=none) (a_:N.ok d=true):br P N g o (cK (get G2) d (ao en (L++M))) :=
 .assign aU aP j.bo (.YZ ay au (Nat.ne_of_beq_eq_false a7)) .refl (c_.keep λt aq=>by rw [wc (y8 aq (by simp)),wc (y8 aq (by simp))]) aN a_
theorem br.Rr {o:Oper}{en:bz α}{L M M2:List α}{s s2:Nat}{x:Operand}{G2:List (Nat × ab)}(aU:o.op=.assign x) (aP:o.dst=some d) (j:Rd g x (.bg en.z ⟨s,[]⟩ (L.length+M2.length+M.length))) (ay:g s=some (.bB en.z ⟨s2,[]⟩ (L.length+M2.length) M.length (bq en M)))
  (kG:g s2=some (.bB en.z q L.length M2.length (bq en M2))) (au:bu g q=some (ao en L)) (a7:Nat.beq q.root s=false) (qT:Nat.beq q.root s2=false) (BQ:Nat.beq s s2=false)
  (c_:mD [s,s2,q.root] g (get G2) G2) (aN:get G2 d=none) (a_:N.ok d=true):br P N g o (cK (get G2) d (ao en (L++M2++M))) :=
 .assign aU aP j.bo (.Y0 ay kG au (Nat.ne_of_beq_eq_false a7) (Nat.ne_of_beq_eq_false qT) (Nat.ne_of_beq_eq_false BQ)) .refl (c_.keep λt aq=>by rw [wc (y8 aq (by simp)),wc (y8 aq (by simp)),wc (y8 aq (by simp))]) aN a_
theorem aC.u' {o:Oper}{x:ab}{G2:List (Nat × ab)}(aN:o.guard=none) (he:br P N g o (cK (get G2) d x)) (hk:aC P N ops l (cK (get G2) d x) K):aC P N ops (o::l) g K:=by
 intro i hi;obtain ⟨h1,af⟩:=drop_cons hi;obtain ⟨g',ah,c6⟩:=hk (i+1) af;refine ⟨g',.kn h1 ?_ he ah,c6⟩
 grind [ir]
theorem sz {x:ab}{G:List (Nat × ab)}:cK (get G) d x=get ((d,x)::G):=by
 grind [cK,get]
variable {a':List (List Nat)}{acc:Acc}{i:Nat}
inductive AG (P:Program):aK->List ResultVar->List ab->List ab->aK->Prop
 | nil {g:aK}:AG P g [] [] [] g
 | f {g g':aK}{t:Nat}{x:ab}{rs:List ResultVar}{ys xs:List ab}(h:g t=some x) (aS:lO x=true) [aA:b4 x] (aq:AG P g rs ys xs g'):AG P g (.tmp t::rs) (x::ys) (x::xs) g'
 | o {g g':aK}{t:Nat}{en:bz α}{L:List α}{rs:List ResultVar}{ys xs:List ab}(h:g t=some (ao en L)) (aq:AG P (cj g ⟨t,[]⟩ .dead) rs ys xs g'):AG P g (.tmp t::rs) (.bg en.z ⟨t,[]⟩ L.length::ys) (ao en L::xs) g'
end
end Go.Own
namespace Go.Own
open Go
set_option linter.unusedSectionVars false
variable [cI]
variable {α β:Type}
section
variable {P:Program}{N:cS}{ops:Array Oper}{g g' g1 g2:aK}{K:aK->Prop}{l:List Oper}{d r:Nat}{ty t t2:TypeId}{pos:String}{after:Array Edge}{a b c:Operand}{p q:Place}{e:Exit}
inductive mX (s:Nat):aK->Nat->List ab->List ab->aK->Prop
 | nil {g:aK}{i:Nat}:mX s g i [] [] g
 | f {g g':aK}{i:Nat}{x:ab}{ys xs:List ab}(aS:lO x=true) [aA:b4 x] (aq:mX s g (i+1) ys xs g'):mX s g i (x::ys) (x::xs) g'
 | o {α:Type}{g g':aK}{i:Nat}{en:bz α}{L:List α}{ys xs:List ab}(au:bu g ⟨s,[i]⟩=some (ao en L)) (aq:mX s (cj g ⟨s,[i]⟩ .dead) (i+1) ys xs g'):mX s g i (.bg en.z ⟨s,[i]⟩ L.length::ys) (ao en L::xs) g'
theorem mX.take {s i:Nat}{ys xs:List ab}(h:mX s g i ys xs g'):Take g ys xs g':=by
 induction h with
 | nil=>exact .bl (by simp)
 | @f g g' i x ys xs aS aA _ aM=>exact .cons aA.bl aM
 | @o α g g' i en L ys xs au _ aM =>
  refine .bg au (Nat.le_refl _) ?_ aM;rw [x9]; exact .bl (pJ en L)
inductive j1 (P:Program):aK->List ResultVar->List ab->List ab->aK->Prop
 | nil {g:aK}:j1 P g [] [] [] g
 | f {g g':aK}{t:Nat}{x:ab}{rs:List ResultVar}{ys xs:List ab}(h:g t=some x) (aS:lO x=true) [aA:b4 x] (aq:j1 P g rs ys xs g'):j1 P g (.tmp t::rs) (x::ys) (x::xs) g'
 | o {α:Type}{g g':aK}{t:Nat}{en:bz α}{L:List α}{rs:List ResultVar}{ys xs:List ab}(h:g t=some (ao en L)) (aq:j1 P (cj g ⟨t,[]⟩ .dead) rs ys xs g'):j1 P g (.tmp t::rs) (.bg en.z ⟨t,[]⟩ L.length::ys) (ao en L::xs) g'
 | c {g g' wX:aK}{t z:Nat}{ty:TypeId}{cs ys0:List ab}{rs:List ResultVar}{ys xs:List ab}(h:g t=some (.obj cs)) (aq:iH P ty z=true) (aW:cs.length=z) (aO:Nat.blt 0 z=true) (al:(cs.mapIdx λi x=>fD 0 ⟨t,[i]⟩ x)=ys0) (hk:mX t g 0 ys0 cs wX) (ah:j1 P wX rs ys xs g'):j1 P g (.cell t ty::rs) (.agg ys0::ys) (.agg cs::xs) g'
def yw (g0 g:aK):Prop:=∀ t x,g t=some x->(lO x=true\/(∃ z n cs,x=.own z n cs))->g0 t=some x
theorem yw.set {g0:aK}{t:Nat}{pp:List Nat}(h:yw g0 g) (aU:pp=[]\/∃ cs,g t=some (.obj cs)):yw g0 (cj g ⟨t,pp⟩ .dead):=by
 intro s x j aS;unfold cj at j
 split at j
 ·rename_i ay;simp only at ay j;subst ay;exfalso;cases aN:g s with
  | none=>rw [aN] at j; cases j
  | some y =>
   rw [aN] at j;simp only [Option.map_some,Option.some.injEq] at j;rcases aU with rfl | ⟨cs,aa⟩
   ·simp only [ab.setAt] at j;subst j;rcases aS with aS | ⟨_,_,_,aS⟩ <;> cases aS
   ·rw [aN] at aa;cases aa;have:∃ cs',x=.obj cs':=by
     subst j;cases pp with
     | nil=>simp only [ab.setAt] at aS; rcases aS with aS | ⟨_,_,_,aS⟩ <;> cases aS
     | cons k pp =>
      simp only [ab.setAt,ab.kids];split
      ·exact ⟨_,rfl⟩
      ·exact ⟨_,rfl⟩
    obtain ⟨cs',rfl⟩:=this;rcases aS with aS | ⟨_,_,_,aS⟩ <;> cases aS
 ·exact h s x j aS
theorem mX.dies {g0:aK}{s i:Nat}{ys xs:List ab}(h:mX s g i ys xs g'):(∃ cs,g s=some (.obj cs))->yw g0 g->yw g0 g':=by
 induction h with
 | nil=>exact λ_ h=>h
 | f _ _ aM=>exact aM
 | @o α g g' i en L ys xs au _ aM =>
  intro aU aP;refine aM ?_ (aP.set (.inr aU));obtain ⟨cs,aa⟩:=aU;unfold cj;simp only [if_pos,aa,Option.map_some,ab.setAt,ab.kids];split
  ·exact ⟨_,rfl⟩
  ·exact ⟨_,rfl⟩
theorem mX.out {s i:Nat}{ys xs:List ab}(h:mX s g i ys xs g'):∀ t,t≠s->g' t=g t:=by
 induction h with
 | nil=>exact λ_ _=>rfl
 | f _ _ aM=>exact aM
 | o _ _ aM=>exact λt aq=>by rw [aM t aq,wc aq]
theorem j1.take {rs:List ResultVar}{ys xs:List ab}(h:j1 P g rs ys xs g'):Take g ys xs g':=by
 induction h with
 | nil=>exact .bl (by simp)
 | @f g g' t x rs ys xs h aS aA _ aM=>exact .cons aA.bl aM
 | @o α g g' t en L rs ys xs h _ aM =>
  have au:bu g ⟨t,[]⟩=some (ao en L):=by simp [bu,h,ab.at]
  refine .bg au (Nat.le_refl _) ?_ aM;rw [x9]; exact .bl (pJ en L)
 | @c g g' wX t z ty cs ys0 rs ys xs h aq aW aO al hk _ aM=>exact .agg hk.take aM
theorem j1.vs {rs:List ResultVar}{ys xs:List ab}(h:j1 P g rs ys xs g'):∀ g0:aK,yw g0 g->(∀ t ty,ResultVar.cell t ty∈rs->∀ cs,g t=some (.obj cs)->g0 t=some (.obj cs))->(rs.filterMap fun | .cell t _=>some t | _=>none).Nodup->rv P g0 rs ys:=by
 induction h with
 | nil=>exact λ_ _ _ _=>.nil
 | @f g g' t x rs ys xs h aS aA _ aM =>
  intro g0 aP av fj;exact .cons (.tmp (Rd.f (aP t x h (.inl aS)) aS)) (aM g0 aP (λt ty hm=>av t ty (List.mem_cons_of_mem _ hm)) (by simpa using fj))
 | @o α g g' t en L rs ys xs h _ aM =>
  intro g0 aP av fj;refine .cons (.tmp ?_) (aM g0 (aP.set (.inl rfl)) (λs ty hm cs aa=>?_) (by simpa using fj))
  ·have:=aP t _ h (.inr ⟨_,_,_,rfl⟩);simp [Own.bo,this,n_,fD]
  ·by_cases ay:s=t
   ·subst ay; simp [cj,h,ab.setAt] at aa
   ·rw [wc ay] at aa; exact av s ty (List.mem_cons_of_mem _ hm) cs aa
 | @c g g' wX t z ty cs ys0 rs ys xs h aq aW aO al hk _ aM =>
  intro g0 aP av fj;have h1:=av t ty (by simp) cs h;simp only [List.filterMap_cons,List.nodup_cons] at fj;refine .cons ?_ (aM g0 (hk.dies ⟨cs,h⟩ aP) (λs yh hm cs' aa=>?_) fj.2)
  ·have Oe:0<z:=by simpa using aO
   have j:Own.bo g0 (.tmp t)=some (.ptr ⟨t,[]⟩ 0):=by
    cases cs with
    | nil=>simp at aW; omega
    | cons c cs=>simp [Own.bo,h1,n_,fD]
   have:=cU.xB (P:=P) (ty:=ty) (p:=⟨t,[]⟩) (n:=0) (z:=0) j aq (by simp only [bu,h1,ab.at]) (.inr rfl) (show 0+z<=cs.length by omega);have hj:((cs.drop 0).take z).mapIdx (λi x=>fD 0 (Place.push ⟨t,[]⟩ (0+i)) x)=ys0:=by
    rw [List.drop_zero,List.take_of_length_le (by omega),<- al];congr 1;funext i x;simp [Place.push]
   rw [hj] at this;exact .cell this
  ·have bT:s≠t:=by
    rintro rfl;exact fj.1 (List.mem_filterMap.2 ⟨.cell s yh,hm,rfl⟩)
   have:=hk.out s bT;rw [this] at aa;exact av s yh (List.mem_cons_of_mem _ hm) cs' aa
inductive qI (g:aK) (pins:List Nat):Nat->List (Option ab)->Prop
 | nil {i:Nat}:qI g pins i []
 | no {i:Nat}{os:List (Option ab)}(t:qI g pins (i+1) os):qI g pins i (none::os)
 | ag {i:Nat}{x:ab}{os:List (Option ab)}(h:g i=some x) [aA:b4 x] (au:pins.elem i=true) (t:qI g pins (i+1) os):qI g pins i (some x::os)
theorem qI.spec {pins:List Nat}{i:Nat}{os:List (Option ab)}(h:qI g pins i os):∀ k x,os[k]?=some (some x)->g (i+k)=some x/\cE x/\i+k∈pins:=by
 induction h with
 | nil=>intro k x hk; simp at hk
 | no _ aM =>
  intro k x hk;cases k with
  | zero=>simp at hk
  | succ k=>have:=aM k x (by simpa using hk); rw [Nat.add_assoc,Nat.add_comm 1 k] at this; exact this
 | @ag i y os h aA au _ aM =>
  intro k x hk;cases k with
  | zero=>simp at hk; subst hk; exact ⟨h,aA.bl,by simpa using au⟩
  | succ k=>have:=aM k x (by simpa using hk); rw [Nat.add_assoc,Nat.add_comm 1 k] at this; exact this
theorem Fin.ro {rs:List ResultVar}{ys xs:List ab}{res:ab}{outs:List (Option ab)}{n:Nat}(h:j1 P g rs ys xs g') (he:oV xs=res) (fj:(rs.filterMap fun | .cell t _=>some t | _=>none).Nodup) (aU:qI g' N.pins 0 outs) (aj:outs.length=n) (j:e=.normal\/e=.ret):Fin P N rs n outs res e g :=
 ⟨j,⟨ys,xs,g',h.vs g (λ_ _ h _=>h) (λ_ _ _ _ h=>h) fj,h.take,he.symm,λk x hk=>by have:=aU.spec k x hk; rw [Nat.zero_add] at this; exact this⟩,aj⟩
class iS (x y:ab):Prop where v:∀ g,View g x y
class c8 (xs ys:List ab):Prop where
 l:ys.length=xs.length
 v:∀ (g:aK) (k:Nat) (x y:ab),xs[k]?=some x->ys[k]?=some y->View g x y
class gq (e b_:bz α):Prop where
 z:e.z=b_.z
 v:∀ a,c8 (e.cells a) (b_.cells a)
instance {v:Value}:iS (.lit v) (.lit v):=⟨λ_=>.self .lit (by simp) (by simp) (by simp) (by simp) (by simp)⟩
instance:iS .aQ .aQ:=⟨λ_=>.self .aQ (by simp) (by simp) (by simp) (by simp) (by simp)⟩
instance {z n:Nat}{cs:List ab} [h:dh cs]:iS (.bm z n cs) (.bm z n cs):=⟨λ_=>.self (.bm h.bl) (by simp) (by simp) (by simp) (by simp) (by simp)⟩
instance {cs:List ab} [h:dh cs]:iS (.cO cs) (.cO cs):=⟨λ_=>.self (.cO h.bl) (by simp) (by simp) (by simp) (by simp) (by simp)⟩
instance {e:bz α}:iS .aQ (ak e []):=⟨λ_=>.qh⟩
instance:c8 [] []:=⟨rfl,by simp⟩
instance {x y:ab}{xs ys:List ab} [h:iS x y] [aI:c8 xs ys]:c8 (x::xs) (y::ys):=⟨by simp [aI.l],λg k a b aR av=>by
 cases k with
 | zero=>simp at aR av; subst aR av; exact h.v g
 | succ k=>exact aI.v g k a b (by simpa using aR) (by simpa using av)⟩
theorem Dl (e b_:bz α) [h:gq e b_]:∀ L:List α,(bq b_ L).length=(bq e L).length/\∀ (g:aK) (k:Nat) (x y:ab),(bq e L)[k]?=some x->(bq b_ L)[k]?=some y->View g x y
 | []=>⟨rfl,by simp [bq]⟩
 | a::L=>by
  obtain ⟨h1,af⟩:=Dl e b_ L;have Tw:∀ e:bz α,bq e (a::L)=e.cells a++bq e L:=λe=>by simp [bq]
  refine ⟨by rw [oW,oW,h.z],λg k x y j al=>?_⟩;rw [Tw] at j al;by_cases hk:k<e.z
  ·rw [List.getElem?_append_left (by rw [e.len]; exact hk)] at j;rw [List.getElem?_append_left (by rw [b_.len,<- h.z]; exact hk)] at al;exact (h.v a).v g k x y j al
  ·rw [List.getElem?_append_right (by rw [e.len]; omega),e.len] at j;rw [List.getElem?_append_right (by rw [b_.len,<- h.z]; omega),b_.len,<- h.z] at al;exact af g _ x y j al
instance {e b_:bz α}{L:List α} [h:gq e b_]:iS (ao e L) (ak b_ L):=⟨λg=>by
 have:=Dl e b_ L;show View g (.own e.z L.length (bq e L)) (.bm b_.z L.length (bq b_ L));rw [<- h.z];exact .own this.1 (this.2 g)⟩
instance:gq az az:=⟨rfl,λa=>(inferInstance:c8 [ae a] [ae a])⟩
instance:gq p0 p0:=⟨rfl,λa=>(inferInstance:c8 [qL a] [qL a])⟩
instance:gq cg cg:=⟨rfl,λa=>(inferInstance:c8 [bc a] [bc a])⟩
instance:gq cJ cJ:=⟨rfl,λa=>(inferInstance:c8 [aw a] [aw a])⟩
instance {e b_:bz α} [h:gq e b_]:gq (Mt e) (bM b_):=⟨rfl,λa=>(inferInstance:c8 [ao e a] [ak b_ a])⟩
instance {e:bz α}:gq (bM e) (bM e):=⟨rfl,λa=>(inferInstance:c8 [ak e a] [ak e a])⟩
theorem View.row {e b_:bz α}{L:List α} [h:gq e b_] (au:bu g p=some (ao e L)):View g (.bg e.z p L.length) (ak b_ L):=by
 have:=Dl e b_ L;show View g _ (.bm b_.z L.length (bq b_ L));rw [<- h.z];refine .bg au (Nat.le_refl _) (by rw [x9]; exact this.1) (λk x y j al=>?_);rw [x9] at j;exact this.2 g k x y j al
inductive ot (g:aK):List ab->List ab->Prop
 | nil:ot g [] []
 | s {x y:ab}{xs ys:List ab} [h:iS x y] (t:ot g xs ys):ot g (x::xs) (y::ys)
 | c {x y:ab}{xs ys:List ab}(h:View g x y) (t:ot g xs ys):ot g (x::xs) (y::ys)
theorem ot.len {xs ys:List ab}(h:ot g xs ys):ys.length=xs.length:=by
 induction h with
 | nil=>rfl
 | s _ aM=>simp [aM]
 | c _ _ aM=>simp [aM]
theorem ot.get {xs ys:List ab}(h:ot g xs ys):∀ (k:Nat) (x y:ab),xs[k]?=some x->ys[k]?=some y->View g x y:=by
 induction h with
 | nil=>intro k x y j; simp at j
 | @s x y xs ys h _ aM =>
  intro k a b aR av;cases k with
  | zero=>simp at aR av; subst aR av; exact h.v g
  | succ k=>exact aM k a b (by simpa using aR) (by simpa using av)
 | @c x y xs ys h _ aM =>
  intro k a b aR av;cases k with
  | zero=>simp at aR av; subst aR av; exact h
  | succ k=>exact aM k a b (by simpa using aR) (by simpa using av)
theorem View.ou {xs ys:List ab}(h:ot g xs ys):View g (.agg xs) (.agg ys):=.agg h.len h.get
class oj (x:ab):Prop where k':j0 x
class jc (cs:List ab):Prop where k':∀ x∈cs,j0 x
class ll (e:bz α):Prop where k':∀ a,jc (e.cells a)
instance {v:Value}:oj (.lit v):=⟨.lit⟩
instance:oj .aQ:=⟨.aQ⟩
instance {k:Nat × Nat}:oj (.self k):=⟨.self⟩
instance {t:Nat}{us:List Value}:oj (.eR t us):=⟨.eR⟩
instance:jc []:=⟨by simp⟩
instance {x:ab}{xs:List ab} [h:oj x] [aI:jc xs]:jc (x::xs):=⟨λy al=>by
 rcases List.mem_cons.1 al with rfl | al
 ·exact h.k'
 ·exact aI.k' y al⟩
instance {e:bz α}{L:List α} [h:ll e]:jc (bq e L):=⟨λx j=>by
 obtain ⟨a,_,aR⟩:=List.mem_flatMap.1 j;exact (h.k' a).k' x aR⟩
instance {z n:Nat}{cs:List ab} [h:jc cs]:oj (.own z n cs):=⟨.own h.k'⟩
instance {cs:List ab} [h:jc cs]:oj (.obj cs):=⟨.obj h.k'⟩
instance {cs:List ab} [h:jc cs]:oj (.agg cs):=⟨.agg h.k'⟩
instance {cs:List ab} [h:jc cs]:oj (.bQ cs):=⟨.bQ h.k'⟩
instance {e:bz α}{a:α} [h:ll e]:jc (e.cells a):=h.k' a
instance:ll az:=⟨λa=>(inferInstance:jc [ae a])⟩
instance:ll p0:=⟨λa=>(inferInstance:jc [qL a])⟩
instance:ll cg:=⟨λa=>(inferInstance:jc [bc a])⟩
instance:ll cJ:=⟨λa=>(inferInstance:jc [aw a])⟩
instance {e:bz α} [h:ll e]:ll (Mt e):=⟨λa=>(inferInstance:jc [ao e a])⟩
theorem XW {outs:List (Option ab)}{args:List ab}(aU:sW outs=true) (aj:outs.length=args.length):outs=args.map λ_=>none:=by
 apply List.ext_getElem?;intro k;rw [List.getElem?_map];cases al:args[k]? with
 | none=>rw [List.getElem?_eq_none (by rw [aj]; exact List.getElem?_eq_none_iff.1 al)]; rfl
 | some y =>
  have hk:k<outs.length:=by rw [aj]; exact (List.getElem?_eq_some_iff.1 al).1
  have h1:=List.getElem?_eq_getElem hk;rw [h1];cases af:outs[k] with
  | none=>rfl
  | some x=>rw [af] at h1; exact absurd h1 (Fm aU k x)
theorem cV.vw {xs:List Operand}{ga:Array TypeId}{f:FuncId}{ys args:List ab}{outs:List (Option ab)}{res:ab}(j:fC g xs=some ys) (hv:ot g ys args) (hb:b1 P f args outs res) (aS:jB P f=true) (aU:sW outs=true) [ah:oj res] :
  cV P g (.call { callee:=.value (.func f),args:=xs.toArray,argTypes:=ga }) res:=by
 have e:=XW aU hb.1;refine .E9 (first:=[]) (caps:=[]) (ys:=ys) (args:=args) rfl (by simpa using j) aS (by simpa using hv.len) (λk x y j al=>hv.get k x y (by simpa using j) al) ?_ ah.k';rw [<- e]; exact hb
end
end Go.Own
namespace Go.Own
open Go
set_option linter.unusedSectionVars false
variable [cI]
variable {α β:Type}
section
variable {P:Program}{N:cS}{ops:Array Oper}{g g' g1 g2:aK}{K:aK->Prop}{l:List Oper}{d r:Nat}{op:Op}{ty t t2:TypeId}{pos:String}{after:Array Edge}{gd:Option (Nat × Bool)}{a b c:Operand}{p q:Place}{x y:ab}
variable {a':List (List Nat)}{g0:aK}{acc:Acc}{i:Nat}
instance {cs cs':List ab} [h:c8 cs cs']:iS (.obj cs) (.cO cs'):=⟨λg=>.obj h.l (h.v g)⟩
instance {cs cs':List ab} [h:c8 cs cs']:iS (.agg cs) (.agg cs'):=⟨λg=>.agg h.l (h.v g)⟩
instance {z n:Nat}{cs cs':List ab} [h:c8 cs cs']:iS (.own z n cs) (.bm z n cs'):=⟨λg=>.own h.l (h.v g)⟩
theorem aC.gG (au:b7 P g op ty y) [aA:b4 y] [hv:iS y x] (a_:N.ok d=true) (aS:g d=none) (aN:e7 g ops gd) (hk:aC P N ops l (cK g d x) K):aC P N ops (⟨some d,op,ty,pos,after,gd⟩::l) g K :=
 .Ag rfl a_ aS (r:=some x) (.inr (.inr ⟨aN.wanted,y,.inl au,aA.bl,hv.v _⟩)) hk
theorem bE.gG (bw:Nat) (au:b7 P (jv a' g0 bw acc) op ty y) [aA:b4 y] [hv:iS y x] (ai:Nat.beq ops.size (bw+l.length+1)=true) (aS:g0 d=none) (k6:acc.all (λe=>!Nat.beq e.2.1 d)=true) (a_:N.ok d=true) (aN:e7 (jv a' g0 bw acc) ops gd)
  (hk:bE P N ops a' g0 i ((bw,d,some x)::acc) l K):bE P N ops a' g0 i acc (⟨some d,op,ty,pos,after,gd⟩::l) K :=
 .st bw (r:=some x) rfl (.inr (.inr ⟨aN.wanted,y,.inl au,aA.bl,hv.v _⟩)) ai aS k6 a_ hk
inductive nO (ex:List Nat) (g g2:aK):List (Nat × ab)->Prop
 | nil:nO ex g g2 []
 | n {s:Nat}{x:ab}{l:List (Nat × ab)}(cA:ex.elem s=false) (h:g s=some x) [aA:b4 x] (t:nO ex g g2 l):nO ex g g2 ((s,x)::l)
 | p {s q k:Nat}{l:List (Nat × ab)}{km:List ab}(cA:ex.elem s=false) (h:g s=some (.ptr ⟨q,[]⟩ k)) (af:g2 q=some (.obj km)) (fK:Nat.blt k km.length=true) (t:nO ex g g2 l):nO ex g g2 ((s,.ptr ⟨q,[]⟩ k)::l)
 | z {s:Nat}{x y:ab}{l:List (Nat × ab)}(he:ex.elem s=true) (h:g s=some y) [aA:b4 y] (hv:gY y x) [j:mW x] (t:nO ex g g2 l):nO ex g g2 ((s,x)::l)
theorem nO.spec {ex:List Nat}{l:List (Nat × ab)}(h:nO ex g g2 l):∀ t x,get l t=some x->((ex.elem t=false/\g t=some x/\ej g2 x)\/(ex.elem t=true/\∃ y,g t=some y/\cE y/\gY y x))/\∀ z p n m new,x≠.bB z p n m new:=by
 induction h with
 | nil=>intro t x j; cases j
 | @n s x l cA h aA _ aM =>
  intro t y al; simp only [get] at al
  split at al
  ·rename_i e; subst e; cases al; exact ⟨.inl ⟨cA,h,.bl aA.bl⟩,by rintro z p n m new rfl; cases aA.bl⟩
  ·exact aM t y al
 | @p s q k l km cA h af fK _ aM =>
  intro t y al; simp only [get] at al
  split at al
  ·rename_i e; subst e; cases al; exact ⟨.inl ⟨cA,h,.ref rfl (v' af (by simpa using fK))⟩,by simp⟩
  ·exact aM t y al
 | @z s x y l he h aA hv j _ aM =>
  intro t y' al; simp only [get] at al
  split at al
  ·rename_i e; subst e; cases al; exact ⟨.inr ⟨he,y,h,aA.bl,hv⟩,j.fk⟩
  ·exact aM t y' al
theorem nO.vc {ex:List Nat}{G2:List (Nat × ab)}(h:nO ex g (get G2) G2):Gw (λt=>ex.elem t) g (get G2):=by
 refine ⟨λt x j aq=>?_,λt x j aq=>?_,λt z q n m new j=>(h.spec t _ j).2 _ _ _ _ _ rfl⟩
 ·rcases (h.spec t x j).1 with ⟨_,h1,af⟩ | ⟨h1,_⟩
  ·grind
  grind
 ·rcases (h.spec t x j).1 with ⟨h1,_⟩ | ⟨_,af⟩
  ·grind
  grind
theorem W.dS {bk:Code}{G G1:List (Nat × ab)}{Φ:Exit->aK->Prop}(ex:List Nat) (h:nO ex (get G) (get G1) G1) (hw:W P N bk (get G1) Φ):W P N bk (get G) Φ:=by
 intro Q a w I Fs bn a_ dA;obtain ⟨I',b2,dZ,bT⟩:=bn.vc h.vc;exact hw dZ a_ λe g' bZ w' he aA=>dA e g' bZ w' he (h2.trans rfl hA.refl bT aA)
theorem aC.dS {G1:List (Nat × ab)}(ex:List Nat) (h:nO ex g (get G1) G1) (hk:aC P N ops l (get G1) K):aC P N ops l g K:=by
 intro i hi;obtain ⟨g',ah,c6⟩:=hk i hi;exact ⟨g',.vc h.vc ah,c6⟩
theorem Take.pre {xs xs':List ab}:∀ {ps:List ab},(∀ x∈ps,cE x)->Take g xs xs' g'->Take g (ps++xs) (ps++xs') g'
 | [],_,h=>h
 | x::ps,aA,h=>.cons (aA x (by simp)) (Take.pre (ps:=ps) (λy al=>aA y (List.mem_cons_of_mem _ al)) h)
inductive eV:aK->List ab->List ab->aK->Prop
 | nil {g:aK}:eV g [] [] g
 | iJ {g:aK}{xs:List ab} [aA:dh xs]:eV g xs xs g
 | f {g g':aK}{x:ab}{xs xs':List ab} [aA:b4 x] (t:eV g xs xs' g'):eV g (x::xs) (x::xs') g'
 | r {α:Type}{g g':aK}{p:Place}{en:bz α}{L:List α}{xs xs':List ab}(au:bu g p=some (ao en L)) (t:eV (cj g p .dead) xs xs' g'):eV g (.bg en.z p L.length::xs) (ao en L::xs') g'
 | l {g g1 g':aK}{p:Place}{z n:Nat}{cs cs' xs xs':List ab}(au:bu g p=some (.own z n cs)) (aj:cs.length=n * z) (h1:eV (cj g p .dead) cs cs' g1) (t:eV g1 xs xs' g'):eV g (.bg z p n::xs) (.own z n cs'::xs') g'
 | ih {α:Type}{g g1 g':aK}{q:Place}{s m:Nat}{en:bz α}{L:List α}{new cQ xs xs':List ab}(ay:g s=some (.bB en.z q L.length m new)) (au:bu g q=some (ao en L)) (a7:Nat.beq q.root s=false) (h1:eV (cj (cj g ⟨s,[]⟩ .dead) q .dead) new cQ g1) (t:eV g1 xs xs' g') :
   eV g (.bg en.z ⟨s,[]⟩ (L.length+m)::xs) (.own en.z (L.length+m) (bq en L++cQ)::xs') g'
 | ou {g g1 g':aK}{cs cs' xs xs':List ab}(h1:eV g cs cs' g1) (t:eV g1 xs xs' g'):eV g (.agg cs::xs) (.agg cs'::xs') g'
 | m {g g':aK}{p:Place}{q:Array MapEntry->Nat->Prop}{xs xs':List ab}(au:bu g p=some (.mp q)) (t:eV (cj g p .dead) xs xs' g'):eV g (.hr p::xs) (.mp q::xs') g'
 | b {g g1 g':aK}{p:Place}{cs cs' xs xs':List ab}(au:bu g p=some (.obj cs)) (h1:eV (cj g p .dead) cs cs' g1) (t:eV g1 xs xs' g'):eV g (.ptr p 0::xs) (.obj cs'::xs') g'
theorem eV.take {xs xs':List ab}(h:eV g xs xs' g'):Take g xs xs' g':=by
 induction h with
 | m au _ aM=>exact .mp au (.bl (by simp)) aM
 | nil=>exact .bl (by simp)
 | @iJ g xs aA=>exact .bl aA.bl
 | @f g g' x xs xs' aA _ aM=>exact .cons aA.bl aM
 | @r α g g' p en L xs xs' au _ aM =>
  refine .bg au (Nat.le_refl _) ?_ aM;rw [x9];exact .bl (pJ en L)
 | @l g g1 g' p z n cs cs' xs xs' au aj _ _ fZ fQ =>
  refine .bg au (Nat.le_refl _) ?_ fQ
  grind
 | @ih α g g1 g' q s m en L new cQ xs xs' ay au a7 _ _ fZ fQ=>exact .bB ay au (Nat.ne_of_beq_eq_false a7) (.pre (pJ en L) fZ) fQ
 | @ou g g1 g' cs cs' xs xs' _ _ fZ fQ=>exact .agg fZ fQ
 | @b g g1 g' p cs cs' xs xs' au _ _ fZ fQ=>exact .obj au fZ fQ
inductive fG:List ab->List ab->Prop
 | nil:fG [] []
 | hS {xs:List ab}:fG xs xs
 | f {x:ab}{xs ys:List ab}(t:fG xs ys):fG (x::xs) (x::ys)
 | o {z:Nat}{xs ys:List ab}(t:fG xs ys):fG (.aQ::xs) (.own z 0 []::ys)
 | z {x y:ab}{xs ys:List ab} [aA:b4 x] [hv:iS x y] (t:fG xs ys):fG (x::xs) (y::ys)
 | g {x y:ab}{xs ys:List ab}(h:gY x y) (t:fG xs ys):fG (x::xs) (y::ys)
theorem fG.len {xs ys:List ab}(h:fG xs ys):ys.length=xs.length:=by
 induction h with
 | nil=>rfl
 | hS=>rfl
 | f _ aM=>simp [aM]
 | o _ aM=>simp [aM]
 | z _ aM=>simp [aM]
 | g _ _ aM=>simp [aM]
theorem fG.get {xs ys:List ab}(h:fG xs ys):∀ (k:Nat) (x y:ab),xs[k]?=some x->ys[k]?=some y->gY x y:=by
 induction h with
 | nil=>intro k x y j; simp at j
 | hS=>intro k x y j al; rw [j] at al; cases al; exact .refl
 | @f x xs ys _ aM =>
  intro k a b aR av;cases k with
  | zero=>simp at aR av; subst aR av; exact .refl
  | succ k=>exact aM k a b (by simpa using aR) (by simpa using av)
 | @o z xs ys _ aM =>
  intro k a b aR av;cases k with
  | zero=>simp at aR av; subst aR av; exact .Cp
  | succ k=>exact aM k a b (by simpa using aR) (by simpa using av)
 | @z x y xs ys aA hv _ aM =>
  intro k a b aR av;cases k with
  | zero=>simp at aR av; subst aR av; exact .oP aA.bl (hv.v _)
  | succ k=>exact aM k a b (by simpa using aR) (by simpa using av)
 | @g x y xs ys h _ aM =>
  grind
theorem fG.pre {xs ys:List ab}(h:fG xs ys):∀ ps:List ab,fG (ps++xs) (ps++ys)
 | []=>h
 | _::ps=>.f (fG.pre h ps)
theorem fG.own {z n:Nat}{xs ys:List ab}(h:fG xs ys):gY (.own z n xs) (.own z n ys):=.own h.len h.get
theorem fG.obj {xs ys:List ab}(h:fG xs ys):gY (.obj xs) (.obj ys):=.obj h.len h.get
theorem fG.agg {xs ys:List ab}(h:fG xs ys):gY (.agg xs) (.agg ys):=.agg h.len h.get
theorem gY.jY [aA:b4 x] [hv:iS x y]:gY x y:=.oP aA.bl (hv.v _)
theorem br.AI {o:Oper}{x:Operand}{y bN y':ab}{G2:List (Nat × ab)}(aU:o.op=.assign x) (aP:o.dst=some d) (j:Rd g x y) (aq:eV g [y] [bN] g1) (aW:gY bN y') (c_:Trim false g1 (get G2) G2) (aN:get G2 d=none) (a_:N.ok d=true):br P N g o (cK (get G2) d y') :=
 .assign aU aP j.bo aq.take aW c_.keep aN a_
theorem br.LF {o:Oper}{x:Operand}{en:bz α}{L M R:List α}{s m:Nat}{new cQ:List ab}{G2:List (Nat × ab)}(aU:o.op=.assign x) (aP:o.dst=some d) (j:Rd g x (.bg en.z ⟨s,[]⟩ (L.length+m))) (ay:g s=some (.bB en.z q L.length m new)) (au:bu g q=some (ao en L)) (a7:Nat.beq q.root s=false)
  (h1:eV (cj (cj g ⟨s,[]⟩ .dead) q .dead) new cQ g1) (aW:fG cQ (bq en M)) (hm:M.length=m) (ah:L++M=R) (c_:Trim false g1 (get G2) G2) (aN:get G2 d=none) (a_:N.ok d=true):br P N g o (cK (get G2) d (ao en R)):=by
 subst hm ah;have aq:=eV.ih (xs:=[]) (xs':=[]) ay au a7 h1 .nil;rw [<- oT];exact .assign aU aP j.bo aq.take (aW.pre _).own c_.keep aN a_
theorem br.wg {o:Oper}{k0:Nat}{jh cs' cs2:List ab}{y bN y':ab}{G2:List (Nat × ab)}(aU:o.op=.store t a b) (aP:o.dst=none) (aR:Rd g a (.ptr ⟨r,[]⟩ k0)) (av:Rd g b y) (aq:eV g [y] [bN] g1) (nV:gY bN y') (aa:nQ y'=some cs') (aW:hs P t cs'.length=true)
  (ay:g1 r=some (.obj jh)) (hk:Nat.ble (k0+cs'.length) jh.length=true) (aO:Nat.blt 0 cs'.length=true) (he:eK jh k0 cs'=cs2) [e6:dh jh] (ah:(get G2 r).isSome=true) (c_:ln g1 (get G2) r cs2 G2):br P N g o (get G2):=by
 subst he;refine .store aU aP aR.bo av.bo aq.take nV aa aW (p:=⟨r,[]⟩) (nd:=.obj jh) (z:=0) (n:=0) (by simp [bu,ay,ab.at]) (.inr rfl) (Nat.le_of_ble_eq_true hk) (by simpa using aO) (λt x j=>?_) (λt x j y al=>?_) (λt z q n m new j=>?_) (by intro e; rw [e] at ah; cases ah)
 ·rcases c_.spec t x j with ⟨h1,af,_⟩ | ⟨h1,af,_⟩
  all_goals grind [cj,ab.setAt,ab.eK]
 ·rcases c_.spec t x j with ⟨h1,af,aJ⟩ | ⟨h1,af,aJ⟩
  ·rw [af] at al;cases al;exact aJ.C8
  ·subst h1;rw [ay] at al;cases al;exact .bl (.obj e6.bl)
 ·rcases c_.spec t _ j with ⟨_,_,aJ⟩ | ⟨_,af,_⟩
  ·exact aJ.fk _ _ _ _ _ rfl
  grind
theorem br.FT {o:Oper}{k0 s m:Nat}{en:bz α}{L M R:List α}{new cQ:List ab}{jh cs2:List ab}{G2:List (Nat × ab)}(aU:o.op=.store t a b) (aP:o.dst=none) (aR:Rd g a (.ptr ⟨r,[]⟩ k0)) (av:Rd g b (.bg en.z ⟨s,[]⟩ (L.length+m))) (p_:g s=some (.bB en.z q L.length m new)) (au:bu g q=some (ao en L)) (a7:Nat.beq q.root s=false)
  (h1:eV (cj (cj g ⟨s,[]⟩ .dead) q .dead) new cQ g1) (nV:fG cQ (bq en M)) (hm:M.length=m) (aY:L++M=R) (aW:hs P t 1=true)
  (ay:g1 r=some (.obj jh)) (hk:Nat.ble (k0+1) jh.length=true) (he:eK jh k0 [ao en R]=cs2) [e6:dh jh] (ah:(get G2 r).isSome=true) (c_:ln g1 (get G2) r cs2 G2):br P N g o (get G2):=by
 subst hm aY;have aq:=eV.ih (xs:=[]) (xs':=[]) p_ au a7 h1 .nil;refine .wg (y':=ao en (L++M)) aU aP aR av aq ?_ rfl aW ay hk rfl he ah c_;rw [<- oT]; exact (nV.pre _).own
inductive mV (r:Nat) (cs:List ab) (k0:Nat):Nat->List ab->List ab->Prop
 | nil {i:Nat}:mV r cs k0 i [] []
 | b {i:Nat}{xs ys:List ab}(hi:Nat.beq i k0=true) (t:mV r cs k0 (i+1) xs ys):mV r cs k0 i (.ptr ⟨r,[]⟩ 0::xs) (.obj cs::ys)
 | n {i:Nat}{x:ab}{xs ys:List ab}(hi:Nat.beq i k0=false) [aA:b4 x] (t:mV r cs k0 (i+1) xs ys):mV r cs k0 i (x::xs) (x::ys)
theorem mV.len {cs:List ab}{k0 i:Nat}{xs ys:List ab}(h:mV r cs k0 i xs ys):ys.length=xs.length:=by
 induction h with
 | nil=>rfl
 | b _ _ aM=>simp [aM]
 | n _ _ aM=>simp [aM]
theorem mV.XX {cs:List ab}{k0 i:Nat}{xs ys:List ab}(h:mV r cs k0 i xs ys) (hi:k0<i):xs=ys/\∀ x∈xs,cE x:=by
 induction h with
 | nil=>exact ⟨rfl,by simp⟩
 | @b i _ _ h _ _=>have:=Nat.eq_of_beq_eq_true h; omega
 | @n i x xs ys _ aA _ aM =>
  obtain ⟨h1,af⟩:=aM (by omega);exact ⟨by rw [h1],pC aA.bl af⟩
theorem mV.take {cs:List ab}{k0 i:Nat}{xs ys:List ab}(h:mV r cs k0 i xs ys) (ay:g r=some (.obj cs)) (aA:∀ x∈cs,cE x):i<=k0->k0<i+xs.length->Take g xs ys (cj g ⟨r,[]⟩ .dead):=by
 induction h with
 | nil=>intro h1 af; simp at af; omega
 | @b i xs ys hi t _ =>
  intro h1 af;have:=Nat.eq_of_beq_eq_true hi;obtain ⟨e,mK⟩:=t.XX (by omega);subst e;exact .obj (by simp [bu,ay,ab.at]) (.bl aA) (.bl mK)
 | @n i x xs ys hi j _ aM =>
  intro h1 af;have:=Nat.ne_of_beq_eq_false hi;simp only [List.length_cons] at af;exact .cons j.bl (aM (by omega) (by omega))
theorem mV.RT {cs:List ab}{k0 i:Nat}{xs ys:List ab}(h:mV r cs k0 i xs ys):i<=k0->k0<i+xs.length->xs[k0 - i]?=some (.ptr ⟨r,[]⟩ 0):=by
 induction h with
 | nil=>intro h1 af; simp at af; omega
 | @b i xs ys hi _ _=>intro _ _; have:=Nat.eq_of_beq_eq_true hi; subst this; simp
 | @n i x xs ys hi _ _ aM =>
  grind [Nat.ne_of_beq_eq_false]
def uB (n k0:Nat) (x:ab):List (Option ab):=(List.range n).map λi=>if i=k0 then some x else none
inductive yu (g:aK) (d r:Nat) (n:Nat) (G4:List (Nat × ab)):List (Nat × ab)->Prop
 | nil:yu g d r n G4 []
 | c {s k:Nat}{l:List (Nat × ab)}(h:g s=some (.ptr ⟨r,[]⟩ k)) (hk:Nat.blt k n=true) (aP:Nat.beq s d=false) (bx:get G4 s=none) (t:yu g d r n G4 l):yu g d r n G4 ((s,.ptr ⟨r,[]⟩ k)::l)
theorem Ed {A B:List (Nat × ab)}{t:Nat}:get (A++B) t=match get A t with | some x=>some x | none=>get B t:=by
 induction A with
 | nil=>rfl
 | cons p A aM =>
  grind [get]
theorem yu.spec {n:Nat}{G4 A:List (Nat × ab)}(h:yu g d r n G4 A):∀ t x,get A t=some x->get G4 t=none/\t≠d/\g t=some x/\∃ k,x=.ptr ⟨r,[]⟩ k/\k<n:=by
 induction h with
 | nil=>intro t x j; cases j
 | @c s k l h hk aP bx _ aM =>
  intro t x j;simp only [get] at j
  split at j
  ·rename_i e;subst e;cases j
   simp_all [Nat.ne_of_beq_eq_false]
  grind
theorem hY.lD {o:Oper}{xs:List Operand}{ga:Array TypeId}{f:FuncId}{ys args:List ab}{res:ab}{cs cs':List ab}{k0:Nat}{G2 A:List (Nat × ab)}(aU:o.op=.call { callee:=.value (.func f),args:=xs.toArray,argTypes:=ga }) (aP:o.dst=some d) (j:Own.fC g xs=some ys)
  (ay:g r=some (.obj cs)) [e6:dh cs] (aR:mV r cs k0 0 ys args) (mj:Nat.blt k0 ys.length=true) (hb:b1 P f args (uB args.length k0 (.obj cs')) res) (aS:jB P f=true) [ah:b4 res] [BG:dh cs']
  (c_:Trim false (cj g ⟨r,[]⟩ .dead) (get ((r,.dead)::G2)) G2) (aN:get G2 d=none) (rR:Nat.beq r d=false) (Bh:Trim false (get ((r,.obj cs')::G2)) (get ((r,.obj cs')::G2)) G2) (dQ:yu g d r cs'.length ((r,.obj cs')::G2) A) (a_:N.ok d=true) :
  hY P N g o d (get (A++(d,res)::(r,.obj cs')::G2)):=by
 have acU:k0<ys.length:=by simpa using mj
 have BN:r≠d:=Nat.ne_of_beq_eq_false rR;have tU:args.length=ys.length:=aR.len;have oJ:(uB args.length k0 (.obj cs'))[k0]?=some (some (.obj cs')):=by
  unfold uB;rw [List.getElem?_map,List.getElem?_range (by omega)];simp
 have V_:∀ (k:Nat) (x:ab),(uB args.length k0 (.obj cs'))[k]?=some (some x)->x=.obj cs':=by
  intro k x h;unfold uB at h;rw [List.getElem?_map] at h;cases hk:(List.range args.length)[k]? with
  | none=>rw [hk] at h; cases h
  | some J =>
   rw [hk] at h;simp only [Option.map_some,Option.some.injEq] at h
   split at h
   ·exact (Option.some.inj h).symm
   ·cases h
 have Hj:get ((r,ab.dead)::G2) r=some .dead:=by simp [get]
 have xv:hx (cj g ⟨r,[]⟩ .dead) (get ((r,.dead)::G2)):=by
  refine ⟨λt x h=>?_,λt x h=>?_,λt z q n m new h=>?_⟩
  all_goals
   simp only [get] at h
   split at h
  ·rename_i e; subst e; cases h; simp [cj,ay,ab.setAt]
  ·obtain ⟨⟨y,h1,_,aJ⟩,_⟩:=c_.spec t x h; rw [<- aJ rfl]; exact h1
  ·cases h; exact .bl .dead
  ·exact (c_.spec t x h).2.1
  ·cases h
  ·exact (c_.spec t _ h).2.2 _ _ _ _ _ rfl
 have put:qp (get ((r,.dead)::G2)) [(⟨r,[]⟩,.obj cs')]=get ((r,.obj cs')::G2):=by
  funext t;simp only [qp,cj,get];by_cases h:t=r
  ·simp [h,ab.setAt]
  ·simp [h]
 have xw:hx (get ((r,.obj cs')::G2)) (get ((r,.obj cs')::G2)):=by
  refine ⟨λt x h=>h,λt x h=>?_,λt z q n m new h=>?_⟩
  all_goals
   simp only [get] at h
   split at h
  ·cases h; exact .bl (.obj BG.bl)
  ·exact (Bh.spec t x h).2.1
  ·cases h
  ·exact (Bh.spec t _ h).2.2 _ _ _ _ _ rfl
 refine yx.ok (first:=[]) (caps:=[]) (ys:=ys) (tk:=λ_=>true) (vw:=false) (outs:=uB args.length k0 (.obj cs')) (g1:=cj g ⟨r,[]⟩ .dead) (g2:=get ((r,.dead)::G2)) (g4:=get ((r,.obj cs')::G2)) (l:=[(⟨r,[]⟩,.obj cs')]) (ks:=λ_=>k0) (xs0:=ys) (xs1:=args) (args:=args) (res:=res) aU aP rfl (by simpa using j)
  ⟨aS,by simp,by simpa using tU,λk x h=>.inl (by simpa using h),aR.take ay e6.bl (Nat.zero_le _) (by omega),xv,λk x y _ al=>by simpa using al,hb,by simpa using ah.bl,λk x h=>by rw [V_ k x h]; simpa using cE.obj BG.bl,λJ p x ai=>?_,by simp,λi J hi ai _=>by simp at hi ai; omega,by rw [put]; exact xw⟩ ?_ a_ ?_
 ·cases J with
  | succ J=>simp at ai
  | zero =>
   simp only [List.getElem?_cons_zero,Option.some.injEq,Prod.mk.injEq] at ai;obtain ⟨rfl,rfl⟩:=ai;refine ⟨oJ,by simp [bu,Hj,ab.at],.inr ⟨cs,?_,by simp [bu,ay,ab.at]⟩,λ_ h=>by cases h⟩;have:=aR.RT (Nat.zero_le _) (by omega);simpa using this
 ·simp only [get,if_neg (Ne.symm BN)]; exact aN
 ·refine ⟨λt x h=>?_,λt x h=>?_⟩
  ·rw [sz] at h;rw [Ed];cases rI:get A t with
   | none=>exact h
   | some y =>
    obtain ⟨h1,af,_⟩:=dQ.spec t y rI;simp only [get,if_neg af] at h;simp only [get] at h1;rw [h1] at h; cases h
  ·rw [sz];rw [Ed] at h;cases rI:get A t with
   | none=>rw [rI] at h; exact .inl h
   | some y =>
    rw [rI] at h;cases h;obtain ⟨h1,af,aJ,k,rfl,hk⟩:=dQ.spec t x rI;refine .inr ⟨?_,af,aJ,r,k,cs',rfl,BN,?_,hk⟩
    ·simp only [get,if_neg af]; exact h1
    ·simp only [get,if_neg BN,if_true]
end
end Go.Own
namespace Go.Own
open Go
set_option linter.unusedSectionVars false
variable [cI]
variable {α β:Type}
def D6 (k:IntKind):bz Int:=.one (λn=>.lit (.int k n)) λ_=>.lit
instance {k:IntKind}:Flat (D6 k):=⟨λ_=>rfl⟩
instance {k:IntKind}:gq (D6 k) (D6 k):=⟨rfl,λa=>(inferInstance:c8 [.lit (.int k a)] [.lit (.int k a)])⟩
instance {k:IntKind}:ll (D6 k):=⟨λa=>(inferInstance:jc [.lit (.int k a)])⟩
instance {cs:List ab}{n:Nat}{x:ab} [h:dh cs] [j:b4 x]:dh (cs.set n x):=⟨λy al=>by
 rcases List.mem_or_eq_of_mem_set al with aI | aI
 ·exact h.bl y aI
 ·rw [aI]; exact j.bl⟩
instance {x y:ab} [h:b4 y]:b4 (x.setAt [] y):=⟨by simpa [ab.setAt] using h.bl⟩
def pH (m n:Int):Option Int:=if n=0 then none else some (IntKind.u64.wrap (m.tdiv n))
def pI (m n:Int):Option Int:=if n=0 then none else some (m.tmod n)
inductive j5:List ab->List ab->Prop
 | nil:j5 [] []
 | f {x:ab}{xs ys:List ab}(t:j5 xs ys):j5 (x::xs) (x::ys)
 | o {z:Nat}{xs ys:List ab}(t:j5 xs ys):j5 (.aQ::xs) (.own z 0 []::ys)
 | i {z:Nat}{xs ys:List ab}(t:j5 xs ys):j5 (.aQ::xs) (.bm z 0 []::ys)
theorem j5.len {xs ys:List ab}(h:j5 xs ys):ys.length=xs.length:=by
 induction h with
 | nil=>rfl
 | f _ aM=>simp [aM]
 | o _ aM=>simp [aM]
 | i _ aM=>simp [aM]
theorem j5.get {xs ys:List ab}(h:j5 xs ys):∀ (k:Nat) (x y:ab),xs[k]?=some x->ys[k]?=some y->mY x y:=by
 induction h with
 | nil=>intro k x y j; simp at j
 | f _ aM =>
  intro k a b aR av;cases k with
  | zero=>simp at aR av; subst aR av; exact .refl
  | succ k=>exact aM k a b (by simpa using aR) (by simpa using av)
 | o _ aM =>
  intro k a b aR av;cases k with
  | zero=>simp at aR av; subst aR av; exact .pB
  | succ k=>exact aM k a b (by simpa using aR) (by simpa using av)
 | i _ aM =>
  intro k a b aR av;cases k with
  | zero=>simp at aR av; subst aR av; exact .pA
  | succ k=>exact aM k a b (by simpa using aR) (by simpa using av)
theorem j5.obj {xs ys:List ab}(h:j5 xs ys):mY (.obj xs) (.obj ys):=.obj h.len h.get
section
variable {P:Program}{N:cS}{ops:Array Oper}{g g' g1 g2:aK}{K:aK->Prop}{l:List Oper}{d r:Nat}{op:Op}{ty t t2:TypeId}{pos:String}{after:Array Edge}{gd:Option (Nat × Bool)}{a b c:Operand}{p q:Place}{x y:ab}{k:IntKind}{m n:Int}
variable {a':List (List Nat)}{g0:aK}{acc:Acc}{i:Nat}
def q2:List Nat->Bool
 | []=>true
 | x::l=>l.all (λy=>!Nat.beq x y)&&q2 l
theorem Fe:∀ {l:List Place},q2 (l.map Place.root)=true->l.Nodup
 | [],_=>List.nodup_nil
 | p::l,h=>by
  simp only [List.map_cons,q2,Bool.and_eq_true,List.all_eq_true] at h;refine List.nodup_cons.2 ⟨λhm=>?_,Fe h.2⟩;have:=h.1 p.root (List.mem_map.2 ⟨p,hm,rfl⟩);simp at this
theorem bE.wI (bw:Nat) {G G2:List (Nat × ab)}{o:Oper}(he:br P N (c3 (get G) (λ_=>true) acc) o (get G2)) (aN:o.guard=none) (gw:q2 ((acc.filterMap jV).map Place.root)=true) (fB:lY G=true) (ai:Nat.beq ops.size (bw+l.length+1)=true)
  (aR:(List.range bw).all (λk=>(a'.getD bw []).contains k)=true) (av:(List.range ops.size).all (λk=>Nat.ble k bw||(a'.getD k []).contains bw)=true) (hk:bE P N ops a' (get G2) (bw+1) [] l K):bE P N ops a' (get G) i acc (o::l) K:=by
 intro dK J cb kH kE;have:=y7 kE ai;subst this;obtain ⟨h1,af⟩:=drop_cons kE;obtain ⟨g',ah,c6⟩:=hk [] (J+1) .nil .nil af;refine ⟨g',.LP cb kH (Fe gw) (vO fB) h1 ?_ he aR ?_ ah,c6⟩
 ·grind [ir]
 simp_all
theorem bE.bv (bw:Nat) {G G2:List (Nat × ab)}{o:Oper}{x:ab}(he:br P N (c3 (get G) (λ_=>true) acc) o (cK (get G2) d x)) (aN:o.guard=none) (gw:q2 ((acc.filterMap jV).map Place.root)=true) (fB:lY G=true) (ai:Nat.beq ops.size (bw+l.length+1)=true)
  (aR:(List.range bw).all (λk=>(a'.getD bw []).contains k)=true) (av:(List.range ops.size).all (λk=>Nat.ble k bw||(a'.getD k []).contains bw)=true) (hk:bE P N ops a' (get ((d,x)::G2)) (bw+1) [] l K):bE P N ops a' (get G) i acc (o::l) K :=
 .wI bw (sz ▸ he) aN gw fB ai aR av hk
class o' (s:Nat) (g:aK):Prop where fk:∀ t,t≠s->∀ z q n m new,g t≠some (.bB z q n m new)
instance (priority:=low) {s:Nat}{g:aK} [h:qG g]:o' s g:=⟨λt _=>h.fk t⟩
instance {s:Nat}{g:aK}{x:ab} [h:o' s g]:o' s (cK g s x):=⟨λt aq z q n m new e=>by
 unfold cK at e;rw [if_neg aq] at e;exact h.fk t aq _ _ _ _ _ e⟩
instance {s d:Nat}{g:aK}{x:ab} [h:o' s g] [j:mW x]:o' s (cK g d x):=⟨λt aq z q n m new e=>by
 unfold cK at e
 split at e
 ·cases e; exact j.fk _ _ _ _ _ rfl
 ·exact h.fk t aq _ _ _ _ _ e⟩
class yI (s:Nat) (acc:Acc):Prop where fk:∀ e∈acc,e.2.1≠s->∀ z q n m new,e.2.2≠some (.bB z q n m new)
instance {s:Nat}:yI s []:=⟨by simp⟩
instance {s J d:Nat}{x:ab}{acc:Acc} [j:mW x] [h:yI s acc]:yI s ((J,d,some x)::acc):=⟨λe he ay z q n m new bG=>by
 rcases List.mem_cons.1 he with rfl | he
 ·exact j.fk z q n m new (Option.some.inj bG)
 ·exact h.fk e he ay z q n m new bG⟩
instance {s J:Nat}{x:Option ab}{acc:Acc} [h:yI s acc]:yI s ((J,s,x)::acc):=⟨λe he ay z q n m new bG=>by
 rcases List.mem_cons.1 he with rfl | he
 ·exact absurd rfl ay
 ·exact h.fk e he ay z q n m new bG⟩
instance {s:Nat}{G:List (Nat × ab)}{A:Nat->Bool}{acc:Acc} [aN:qG (get G)] [h:yI s acc]:o' s (c3 (get G) A acc):=⟨λt aq z q n m new e=>by
 rcases uS e with ⟨b_,he,h1,_,af⟩ | ⟨_,af⟩
 ·exact h.fk b_ he (by rw [h1]; exact aq) _ _ _ _ _ af
 ·exact aN.fk _ _ _ _ _ _ af⟩
namespace O
theorem pH {r:Int}(j:Rd g a (.lit (.int .u64 m))) (al:Rd g b (.lit (.int .u64 n))) (h:Own.pH m n=some r):b7 P g (.binOp .quo t a b t2) ty (.lit (.int .u64 r)):=by
 unfold Own.pH at h
 split at h
 ·cases h
 ·cases h; exact .eD (.quo j al (by assumption))
theorem pI {r:Int}(j:Rd g a (.lit (.int .u64 m))) (al:Rd g b (.lit (.int .u64 n))) (h:Own.pI m n=some r):b7 P g (.binOp .rem t a b t2) ty (.lit (.int .u64 r)):=by
 unfold Own.pI at h
 split at h
 ·cases h
 ·cases h; exact .eD (.rem j al (by assumption))
theorem Tk {L:List Int}(j:Rd g a (.bm p0.z L.length (bq p0 L))) (aq:wK P t t2=true):b7 P g (.convert t t2 a) ty (aw (strOfNums L)):=by
 have h:=j.bo;rw [PC] at h;exact .eD (.D4 h aq)
theorem u_ {e de:Nat}{parts:Array (Nat × Operand)}{ys cs:List ab}{z:Nat}(aq:fb P t e z=true) (j:fC g (parts.toList.map (·.2))=some ys) (aa:ma ys=some cs) (aW:ys.all (λy=>match jf y with | some c=>Nat.beq c.length z | none=>false)=true)
  (au:parts.toList=(parts.toList.map (·.2)).mapIdx (λi x=>(i,x))) (aA:(parts.toList.map (·.2)).length=de) (hzero:il P e z=true) (av:Nat.ble (de * z) 16777216=true) (fo:Nat.ble de 16777216=true):b7 P g (.buildSlice t de parts) ty (.own z de cs):=by
 subst aA;exact .qj (.buildSlice aq au j (λy al=>by
  grind [Nat.eq_of_beq_eq_true]) aa (Nat.le_of_ble_eq_true av) (Nat.le_of_ble_eq_true fo) (.inr (KZ hzero)))
theorem Qe {z m:Nat}{cs:List ab}(a7:bu g q=some (.own z m cs)) (aj:cs.length=m * z) (aS:cs.all lO=true):Src g (.bg z q m) z m cs:=by
 have:=Src.bg (g:=g) (m:=m) a7 (Nat.le_refl _)
 simp_all [List.take_of_length_le,A_]
theorem GJ {en:bz α}{L M r:List α}{e gr m:Nat}{cs:List ab}(ay:Rd g a (.bg en.z p L.length)) (au:bu g p=some (ao en L)) (j:Rd g b (.bg en.z q m)) (a7:bu g q=some (.own en.z m cs)) (aj:cs.length=m * en.z) (aS:cs.all lO=true) (hm:M.length=m) (aq:jM P t e en.z gr=true) (av:Nat.ble gr 128=true) (h:da L M=some r) [e6:qG g] :
  b7 P g (.call { callee:=.builtin .append,args:=#[a,b],argTypes:=#[t,t] }) ty (.bB en.z p L.length m cs):=by
 subst hm;obtain ⟨h1,af,_⟩:=yR h av;exact .lE (.grow ay.bo (.inl ⟨_,au⟩) (λt bs ch bh cQ e=>e6.fk _ _ _ _ _ _ e) j.bo (Qe a7 aj aS) aq h1 af)
theorem DR {en:bz α}{L M M2 r:List α}{y:ab}{e gr s:Nat}(ay:Rd g a (.bg en.z ⟨s,[]⟩ (L.length+M.length))) (p_:g s=some (.bB en.z q L.length M.length (bq en M))) (au:bu g q=some (ao en L)) (j:Rd g b y) (hm:nL g en y M2) (aq:jM P t e en.z gr=true) (av:Nat.ble gr 128=true) (h:da (L++M) M2=some r) [e6:o' s g] :
  b7 P g (.call { callee:=.builtin .append,args:=#[a,b],argTypes:=#[t,t] }) ty (.bB en.z ⟨s,[]⟩ (L.length+M.length) M2.length (bq en M2)):=by
 obtain ⟨h1,af,_⟩:=yR h av;rw [List.length_append] at h1 af;refine .lE (.grow ay.bo (.inr ⟨rfl,q,L.length,M.length,bq en M,_,p_,rfl,au⟩) (λt bs ch bh cQ e=>?_) j.bo hm.src aq h1 af);by_cases N2:t=s
 ·grind [bu,ab.at]
 ·exact e6.fk t N2 _ _ _ _ _ e
theorem OH {en:bz α}{z0:α}{r:List α}{e gr:Nat}{df:Value}(aq:fb P t e en.z=true) (j:Rd g a (.lit (.int k m))) (al:Rd g b (.lit (.int .i64 m))) (hzero:(P.info? e).bind (·.zero)=some df) (h1:df.cells.toList.all Value.oneCell'=true) (hF:(en.cells z0).length=df.cells.size) (Vp:∀ (k:Nat) (u:Value) (x:ab),df.cells[k]?=some u->(en.cells z0)[k]?=some x->x=kd u\/(kd u=.aQ/\∃ bs,x=.bm bs 0 [])) (h:nC m z0=some r) (jm:(P.info? e).map (·.bytes)=some gr) (av:Nat.ble gr 128=true) :
  b7 P g (.makeSlice t a b) ty (ao en r):=by
 unfold nC at h
 split at h
 ·rename_i hm;have sH:lim=1099511627776:=rfl;have hD:=Nat.le_of_ble_eq_true av;obtain ⟨J,rfl⟩:=Int.eq_ofNat_of_zero_le hm.1;cases h;have ai:J<=1099511627776:=by omega
  have eM:df.cells.size=en.z:=by rw [<- hF,en.len]
  have:=pa.makeSlice (P:=P) (ty:=ty) aq j.bo al.bo hzero (by rw [<- Array.all_toList]; exact h1) eM jm (by
   calc J * gr<=1099511627776 * 128:=Nat.mul_le_mul ai hD
    _=140737488355328:=by decide) (by omega) hF Vp
  have cr:(List.replicate J (en.cells z0)).flatten=bq en (List.replicate J z0):=by simp [bq,List.flatMap_def]
  unfold ao;rw [Int.toNat_natCast,List.length_replicate,<- cr];exact .qj this
 ·cases h
theorem mk {en:bz α}{z0:α}{r:List α}{e gr:Nat}{df:Value}(aq:fb P t e en.z=true) (j:Rd g a (.lit (.int k m))) (al:Rd g b (.lit (.int .i64 m))) (hzero:(P.info? e).bind (·.zero)=some df) (h1:df.cells.toList.all Value.oneCell'=true) (aa:df.cells.toList.map kd=en.cells z0) (h:nC m z0=some r) (jm:(P.info? e).map (·.bytes)=some gr) (av:Nat.ble gr 128=true) :
  b7 P g (.makeSlice t a b) ty (ao en r):=by
 grind [OH]
theorem XO {e:bz β}{r:List (List β)}{m:Int}{k:IntKind}{a b:Operand}{t ty:TypeId}{A5 gr:Nat}{df:Value}(aq:fb P t A5 (bM e).z=true) (j:Rd g a (.lit (.int k m))) (al:Rd g b (.lit (.int .i64 m))) (hzero:(P.info? A5).bind (·.zero)=some df) (h1:df.cells.toList.all Value.oneCell'=true) (aa:df.cells.toList.map kd=[.aQ]) (h:nC m ([]:List β)=some r) (jm:(P.info? A5).map (·.bytes)=some gr) (av:Nat.ble gr 128=true) :
  b7 P g (.makeSlice t a b) ty (ao (bM e) r):=by
 refine OH aq j al hzero h1 ?_ (λk u x hu j=>.inr ?_) h jm av
 ·grind [List.length_map,bM]
 ·have aj:=congrArg List.length aa;rw [List.length_map] at aj;have hk:k=0:=by
   grind
  subst hk;have hP:df.cells.toList[0]?=some u:=by simpa using hu
  have af:=congrArg (λl=>l[0]?) aa;simp only [List.getElem?_map,hP,Option.map_some] at af;have af:=Option.some.inj af;refine ⟨af,e.z,?_⟩;have j:([ak e []]:List ab)[0]?=some x:=j;have:x=ak e []:=(Option.some.inj j).symm;rw [this];rfl
end O
theorem PA (en:bz α) {L:List α}{y y2:α}{o:Nat}{cs':List ab}(h:idx L m=some y) (he:eK (en.cells y) o cs'=en.cells y2) (hlen:o+cs'.length<=en.z):eK (bq en L) (m.toNat * en.z+o) cs'=bq en (L.set m.toNat y2):=by
 obtain ⟨aO,h1,af⟩:=r4 h;have aT:m.toNat<L.length:=(List.getElem?_eq_some_iff.1 af).1;have al:L[m.toNat]=y:=(List.getElem?_eq_some_iff.1 af).2;have cr:bq en L=bq en (L.take m.toNat)++(en.cells y++bq en (L.drop (m.toNat+1))):=by
  grind [bq,List.take_append_drop,List.drop_eq_getElem_cons]
 have b9:bq en (L.set m.toNat y2)=bq en (L.take m.toNat)++(en.cells y2++bq en (L.drop (m.toNat+1))):=by
  grind [List.set_eq_take_append_cons_drop,bq]
 have aj:(bq en (L.take m.toNat)).length=m.toNat * en.z:=by rw [oW,List.length_take]; congr 1; omega
 rw [cr,b9,<- he];unfold eK;generalize bq en (L.take m.toNat)=A at *;generalize bq en (L.drop (m.toNat+1))=B at *;rw [<- aj];have EU:=en.len y;rw [List.take_append,List.take_of_length_le (by omega),show A.length+o - A.length=o by omega,List.take_append_of_le_length (by omega)];rw [List.drop_append,List.drop_eq_nil_of_le (by omega),show A.length+o+cs'.length - A.length=o+cs'.length by omega,List.drop_append_of_le_length (by omega)];simp
theorem Hs {en:bz α}{L:List α}{i:Int}{off:Nat}{y:α}(h:idx L i=some y) (aU:Nat.blt off en.z=true):i.toNat * en.z+off<(bq en L).length:=by
 obtain ⟨C1,kN,_⟩:=r4 h;have mL:off<en.z:=by simpa using aU
 rw [oW];have af:i.toNat+1<=L.length:=by omega
 calc i.toNat * en.z+off<i.toNat * en.z+en.z:=by omega
  _=(i.toNat+1) * en.z:=by rw [Nat.add_mul]; omega
  _<=L.length * en.z:=Nat.mul_le_mul_right _ af
theorem n2 {L:List α}{i:Int}{y y2:α}(h:idx L i=some y):idx (L.set i.toNat y2) i=some y2:=by
 grind [idx]
inductive o8 (g g2:aK):ab->Prop
 | mk {α:Type}{en:bz α}{L Ld:List α}{r J off:Nat}{i:Int}{y y2:α}(h1:bu g ⟨r,[J]⟩=some (ao en L)) (hi:idx L i=some y) (af:bu g2 ⟨r,[J]⟩=some (ao en Ld)) (Bz:idx Ld i=some y2) (aU:Nat.blt off en.z=true):o8 g g2 (.ptr ⟨r,[J]⟩ (i.toNat * en.z+off))
theorem o8.O3 {x:ab}(h:o8 g g2 x):gZ g x:=by
 cases h with
 | mk h1 hi af Bz aU=>exact ⟨_,h1,_,_,_,.inl rfl,Hs hi aU⟩
theorem o8.JW {x:ab}(h:o8 g g2 x):gZ g2 x:=by
 cases h with
 | mk h1 hi af Bz aU=>exact ⟨_,af,_,_,_,.inl rfl,Hs Bz aU⟩
theorem o8.b' {x:ab}(h:o8 g g2 x):ej g2 x:=by
 have:=h.JW;cases h with
 | mk=>exact .ref rfl this
theorem o8.fk {x:ab}(h:o8 g g2 x):∀ z p n m new,x≠.bB z p n m new:=by
 cases h with
 | mk=>simp
theorem o8.clear {x:ab}{k0 m0:Nat}(h:o8 g g2 x) (au:p.path≠[]):Clear p k0 m0 x:=by
 cases h with
 | mk =>
  intro q a7 _ J ck e;simp only [z',Option.some.injEq] at a7;subst a7;cases EF:p.path with
  | nil=>exact absurd EF au
  | cons a b=>rw [EF] at e; simp at e
inductive lp (g g2:aK) (r:Nat) (x2:ab):List (Nat × ab)->Prop
 | nil:lp g g2 r x2 []
 | n {s:Nat}{x:ab}{l:List (Nat × ab)}(cA:Nat.beq s r=false) (h:g s=some x) [aA:b4 x] (t:lp g g2 r x2 l):lp g g2 r x2 ((s,x)::l)
 | p {s q k:Nat}{l:List (Nat × ab)}{cs km:List ab}(cA:Nat.beq s r=false) (h:g s=some (.ptr ⟨q,[]⟩ k)) (h1:g q=some (.obj cs)) (hk:Nat.blt k cs.length=true) (af:g2 q=some (.obj km)) (fK:Nat.blt k km.length=true) (t:lp g g2 r x2 l):lp g g2 r x2 ((s,.ptr ⟨q,[]⟩ k)::l)
 | e {s:Nat}{x:ab}{c2:List ab}{l:List (Nat × ab)}(cA:Nat.beq s r=false) (h:g s=some x) (he:o8 g g2 x) (kc:x2=.obj c2) (t:lp g g2 r x2 l):lp g g2 r x2 ((s,x)::l)
 | w {α:Type}{s q:Nat}{en:bz α}{L:List α}{l:List (Nat × ab)}(cA:Nat.beq s r=false) (h:g s=some (.bg en.z ⟨q,[]⟩ L.length)) (h1:g q=some (ao en L)) (af:g2 q=some (ao en L)) (t:lp g g2 r x2 l):lp g g2 r x2 ((s,.bg en.z ⟨q,[]⟩ L.length)::l)
 | b {l:List (Nat × ab)}{x:ab}(e:x=x2) [aA:b4 x2] (t:lp g g2 r x2 l):lp g g2 r x2 ((r,x)::l)
theorem lp.spec {x2:ab}{l:List (Nat × ab)}(h:lp g g2 r x2 l):∀ t x,get l t=some x->(t≠r/\g t=some x/\(pU g g2 x\/o8 g g2 x/\∃ c2,x2=.obj c2))\/(t=r/\x=x2/\cE x):=by
 induction h with
 | nil=>intro t x j; cases j
 | @n s x l cA h aA _ aM =>
  intro t y al;simp only [get] at al
  split at al
  ·rename_i e;subst e;cases al;exact .inl ⟨Nat.ne_of_beq_eq_false cA,h,.inl (.n aA.bl)⟩
  grind
 | @p s q k l cs km cA h h1 hk af fK _ aM =>
  intro t y al;simp only [get] at al
  split at al
  ·rename_i e;subst e;cases al;exact .inl ⟨Nat.ne_of_beq_eq_false cA,h,.inl (.p h1 (by simpa using hk) af (by simpa using fK))⟩
  grind
 | @e s x c2 l cA h he kc _ aM =>
  grind [get,Nat.ne_of_beq_eq_false]
 | @w α s q en L l cA h h1 af _ aM =>
  intro t y al;simp only [get] at al
  split at al
  ·rename_i e;subst e;cases al;exact .inl ⟨Nat.ne_of_beq_eq_false cA,h,.inl (.r h1 (Nat.le_refl _) af (Nat.le_refl _))⟩
  grind
 | @b l x e aA _ aM =>
  intro t y al;simp only [get] at al
  split at al
  ·rename_i b_;subst b_;cases al;subst e;exact .inr ⟨rfl,rfl,aA.bl⟩
  grind
theorem pU.Kg {x:ab}{k0 m0:Nat}(h:pU g g2 x):ki (λr=>gZ g r/\Clear p k0 m0 r/\gZ g2 r) x:=by
 cases h with
 | n h=>exact .bl h
 | p h hk af fK =>
  refine .ref rfl ⟨v' h hk,?_,v' af fK⟩;intro q a7 _ J ck e;simp only [z',Option.some.injEq] at a7;subst a7;simp at e
 | r h hk af fK =>
  refine .ref rfl ⟨C6 h hk,?_,C6 af fK⟩;intro q a7 _ J ck e;simp only [z',Option.some.injEq] at a7;subst a7;simp at e
theorem br.ye {hn:Oper}{en:bz α}{L:List α}{iM y2:α}{o:Nat}{cs':List ab}{x2:ab}{G2:List (Nat × ab)}(aU:hn.op=.store t a b) (aP:hn.dst=none) (aR:Rd g a (.ptr p (m.toNat * en.z+o))) (av:Rd g b y) (au:bu g p=some (ao en L)) (h:idx L m=some iM) (aW:hs P t cs'.length=true)
  (aa:nQ y=some cs') (he:eK (en.cells iM) o cs'=en.cells y2) (hlen:Nat.ble (o+cs'.length) en.z=true) (aO:Nat.blt 0 cs'.length=true) (kc:cj g p (ao en (L.set m.toNat y2)) p.root=some x2) (ah:(get G2 p.root).isSome=true) [aA:b4 y] {y0:ab}(vE:g p.root=some y0) [e6:b4 y0] (c_:lp g (get G2) p.root x2 G2):br P N g hn (get G2):=by
 have BC:=Nat.le_of_ble_eq_true hlen;have mm:=PA en h he BC;have rO:(L.set m.toNat y2).length=L.length:=List.length_set;refine .store aU aP aR.bo av.bo (.bl (by simpa using aA.bl)) .refl aa aW (p:=p) (nd:=ao en L) (z:=en.z) (n:=L.length) (cs:=bq en L) au (.inl rfl) ?_ (by simpa using aO) (λt x j=>?_) (λt x j y al=>?_) (λt z q n m new j=>?_) (by intro e; rw [e] at ah; cases ah)
 ·obtain ⟨C1,kN,_⟩:=r4 h;rw [oW];have af:m.toNat+1<=L.length:=by omega
  calc m.toNat * en.z+o+cs'.length<=m.toNat * en.z+en.z:=by omega
   _=(m.toNat+1) * en.z:=by rw [Nat.add_mul]; omega
   _<=L.length * en.z:=Nat.mul_le_mul_right _ af
 ·have fj:(ao en L).eK (m.toNat * en.z+o) cs'=ao en (L.set m.toNat y2):=by
   show ab.own en.z L.length (eK (bq en L) (m.toNat * en.z+o) cs')=_
   grind
  rw [fj];rcases c_.spec t x j with ⟨h1,af,_⟩ | ⟨h1,af,_⟩
  ·grind [ya]
  grind
 ·rcases c_.spec t x j with ⟨h1,af,aJ⟩ | ⟨h1,af,aJ⟩
  ·rw [af] at al;cases al;rcases aJ with aJ | ⟨aJ,c2,rfl⟩
   ·exact aJ.Kg
   ·refine ki.ref (by cases aJ; rfl) ⟨aJ.O3,aJ.clear ?_,aJ.JW⟩
    grind [cj,ab.setAt]
  ·subst h1;rw [vE] at al;cases al;exact .bl e6.bl
 ·rcases c_.spec t _ j with ⟨_,_,aJ | ⟨aJ,_⟩⟩ | ⟨_,_,aJ⟩
  ·exact aJ.fk _ _ _ _ _ rfl
  ·exact aJ.fk _ _ _ _ _ rfl
  ·cases aJ
end
end Go.Own
namespace Go.Own
open Go
set_option linter.unusedSectionVars false
variable [cI]
theorem Sc (a b:ByteArray):(a == b)=decide (a=b):=by
 obtain ⟨a⟩:=a;obtain ⟨b⟩:=b;have:(({ data:=a }:ByteArray) == { data:=b })=(a == b):=rfl;rw [this,Bool.eq_iff_iff];simp
inductive nK where
 | b | s | i (k:IntKind)
 deriving DecidableEq
def l2:Value->Option nK
 | .bool _=>some .b
 | .string _=>some .s
 | .int k _=>some (.i k)
 | _=>none
def A4 (P:Program) (rc:TypeId->List nK->Bool):List Field->Nat->List nK->Bool
 | [],_,et=>et.isEmpty
 | f :: fs, o, et => f.name != "_" && f.offset == o && (match P.info? f.type with
   | some i=>i.size<=et.length&&rc f.type (et.take i.size)&&A4 P rc fs (o+i.size) (et.drop i.size)
   | none=>false)
def tN (P:Program):Nat->TypeId->List nK->Bool
 | 0,_,_=>false
 | d+1,t,et=>match P.underlying t with
  | some .bool=>et == [.b]&&j9 P t
  | some (.int k)=>et == [.i k]&&j9 P t
  | some .string=>et == [.s]&&j9 P t
  | some (.struct fs)=>iH P t et.length&&!P.stoodInHeld t&&A4 P (tN P d) fs.toList 0 et
  | _=>false
def MA:Value->Value->Bool
 | .bool a,.bool b=>a == b
 | .int _ a,.int _ b=>decide (a=b)
 | .string a,.string b=>decide (a=b)
 | _,_=>false
def lu:List Value->List Value->Bool
 | a::dy,b::dq=>MA a b&&lu dy dq
 | _,_=>true
theorem MB:∀ (dy dq cs jC:List Value),dy.length=dq.length->lu (dy++cs) (dq++jC)=(lu dy dq&&lu cs jC)
 | [],[],cs,jC,_=>by simp [lu]
 | [],_::_,_,_,h=>by simp at h
 | _::_,[],_,_,h=>by simp at h
 | a::dy,b::dq,cs,jC,h=>by
  simp only [List.cons_append,lu,MB dy dq cs jC (by simpa using h),Bool.and_assoc]
def pack (P:Program) (t:TypeId) (vs:List Value):Value :=
 match P.underlying t,vs with
 | some (.struct _),_=>.agg vs.toArray
 | _,v::_=>v
 | _,[]=>.agg #[]
theorem PL {P:Program}{w:World}{t:TypeId}{d:Nat}{et:List nK}(h:tN P (d+1) t et=true) {cs:List Value}{o:Nat}{vs:List Value}(hv:(cs.drop o).take et.length=vs) (aj:vs.length=et.length) :
  (part t cs.toArray o).run P w=.ok (pack P t vs) w:=by
 unfold tN at h
 split at h
 case h_4 fs hu =>
  simp only [Bool.and_eq_true] at h;obtain ⟨h1,af⟩:=DP (w:=w) h.1.1;simp [part,h1,af,pack,hu,<- hv,List.take_drop]
 case h_5=>cases h
 all_goals
  rename_i hu;simp only [Bool.and_eq_true,beq_iff_eq] at h;obtain ⟨rfl,aa⟩:=h;obtain ⟨h1,af⟩:=Hd (w:=w) aa;obtain ⟨v,rfl⟩:∃ v,vs=[v]:=by
   rcases vs with _ | ⟨v,_ | _⟩ <;> simp at aj;exact ⟨v,rfl⟩
  have:cs[o]?=some v:=by
   have:=congrArg List.head? hv;simpa [List.head?_take] using this
  simp [part,h1,pack,hu,this]
theorem Kl {P:Program}(w:World):∀ (d:Nat) (t:TypeId) (et:List nK),tN P d t et=true->∀ (D:Nat),d<=D->∀ (dy dq:List Value),dy.map l2=et.map some->dq.map l2=et.map some ->
  (Op.equalIn D t (pack P t dy) (pack P t dq)).run P w=.ok (lu dy dq) w
 | 0,_,_,h,_,_,_,_,_,_=>by simp [tN] at h
 | d+1,t,et,h,D,h6,dy,dq,aR,av=>by
  obtain ⟨D,rfl⟩:∃ E,D=E+1:=⟨D - 1,by omega⟩;have aO:=h;unfold tN at h
  split at h
  case h_5=>cases h
  case h_4 fs hu =>
   simp only [Bool.and_eq_true,Bool.not_eq_true'] at h;obtain ⟨⟨h1,af⟩,aJ⟩:=h;have key:∀ (fs:List Field) (o:Nat) (et:List nK) (mZ m_:List Value),A4 P (tN P d) fs o et=true->dy.drop o=mZ->dq.drop o=m_->mZ.map l2=et.map some->m_.map l2=et.map some ->
     (forIn (m:=Sem) (β:=Option Bool × Unit) fs (none,()) λf _ =>
      if f.name = "_" then pure (.yield (none, ()))
      else do
       let x <- part f.type dy.toArray f.offset
       let y <- part f.type dq.toArray f.offset
       let c <- Op.equalIn D f.type x y
       if c=false then pure (.done (some false,())) else pure (.yield (none,()))).run P w=.ok (if lu mZ m_ then (none,()) else (some false,())) w:=by
    intro fs
    induction fs with
    | nil =>
     intro o et mZ m_ aN _ _ aR av;have ay:et=[]:=by simpa [A4] using aN
     subst ay;have h1:mZ=[]:=by simpa using aR
     have af:m_=[]:=by simpa using av
     subst h1 af;simp [lu]
    | cons f fs aM =>
     intro o et mZ m_ aN Ns Nt aR av;unfold A4 at aN;cases hi:P.info? f.type with
     | none=>simp [hi] at aN
     | some i =>
      simp only [hi,Bool.and_eq_true,bne_iff_ne,beq_iff_eq,decide_eq_true_eq] at aN;obtain ⟨⟨aA,rfl⟩,⟨hle,he⟩,NA⟩:=aN;obtain ⟨e,rfl⟩:∃ e,d=e+1:=by
       cases d with
       | zero=>simp [tN] at he
       | succ e=>exact ⟨e,rfl⟩
      have xy:mZ.length=et.length:=by simpa using congrArg List.length aR
      have adh:m_.length=et.length:=by simpa using congrArg List.length av
      have ZM:(mZ.take i.size).map l2=(et.take i.size).map some:=by rw [List.map_take,List.map_take,aR]
      have hV:(m_.take i.size).map l2=(et.take i.size).map some:=by rw [List.map_take,List.map_take,av]
      have Tm:(mZ.drop i.size).map l2=(et.drop i.size).map some:=by rw [List.map_drop,List.map_drop,aR]
      have Tn:(m_.drop i.size).map l2=(et.drop i.size).map some:=by rw [List.map_drop,List.map_drop,av]
      have lt:(et.take i.size).length=i.size:=by simp; omega
      have lE:=PL (w:=w) he (cs:=dy) (o:=f.offset) (vs:=mZ.take i.size) (by rw [Ns,lt]) (by simp; omega);have Pj:=PL (w:=w) he (cs:=dq) (o:=f.offset) (vs:=m_.take i.size) (by rw [Nt,lt]) (by simp; omega);have Hr:=Kl w (e+1) f.type _ he D (by omega) _ _ ZM hV;have aM:=aM (f.offset+i.size) (et.drop i.size) (mZ.drop i.size) (m_.drop i.size) NA (by rw [<- Ns,List.drop_drop]) (by rw [<- Nt,List.drop_drop]) Tm Tn;have sp:lu mZ m_=(lu (mZ.take i.size) (m_.take i.size)&&lu (mZ.drop i.size) (m_.drop i.size)):=by
       have:=MB (mZ.take i.size) (m_.take i.size) (mZ.drop i.size) (m_.drop i.size) (by simp; omega)
       rwa [List.take_append_drop,List.take_append_drop] at this
      rw [List.forIn_cons];cases aa:lu (mZ.take i.size) (m_.take i.size) with
      | false=>simp [aA,lE,Pj,Hr,aa,sp]
      | true =>
       simp only [aa] at Hr;simp [aA,lE,Pj,Hr,aa,sp];simpa using aM
   have hk:=key fs.toList 0 et dy dq aJ rfl rfl aR av;unfold Op.equalIn;simp [pack,hu,run_underlying hu,af];rw [<- Array.forIn_toList,hk];cases lu dy dq <;> simp
  all_goals
   rename_i hu;simp only [Bool.and_eq_true,beq_iff_eq] at h;obtain ⟨rfl,aa⟩:=h;obtain ⟨a,rfl⟩:∃ v,dy=[v]:=by
    rcases dy with _ | ⟨v,_ | _⟩ <;> simp at aR;exact ⟨v,rfl⟩
   obtain ⟨b,rfl⟩:∃ v,dq=[v]:=by
    rcases dq with _ | ⟨v,_ | _⟩ <;> simp at av;exact ⟨v,rfl⟩
   cases a <;> simp [l2] at aR <;> cases b <;> simp [l2] at av;simp [Op.equalIn,pack,hu,run_underlying hu,lu,MA,aR,av,Sc] <;> rfl
end Go.Own
namespace Go.Own
open Go
set_option linter.unusedSectionVars false
variable [cI]
def va (P:Program) (t:TypeId) (et:List nK):Bool :=
 tN P 100 t et&&(match P.underlying t with | some (.struct _)=>true | _=>false)&&!P.eqGuardType P.depth t
section
variable {P:Program}{g:aK}{t t2:TypeId}{ty:TypeId}{a b:Operand}
theorem Y7 {dy dq:List Value}{et:List nK}(aR:dy.map l2=et.map some) (av:dq.map l2=et.map some) (aq:va P t et=true) (w:World) :
  (do eqGuard .eql t a b (.agg dy.toArray) (.agg dq.toArray); binOp .eql t (.agg dy.toArray) (.agg dq.toArray):Sem Value).run P w=.ok (.bool (lu dy dq)) w:=by
 simp only [va,Bool.and_eq_true,Bool.not_eq_true'] at aq;obtain ⟨⟨h1,af⟩,aJ⟩:=aq;have h:=Kl w 100 t et h1 Op.maxDepth (by decide) dy dq aR av
 split at af
 ·rename_i fs hu;simp only [pack,hu] at h;simp [eqGuard,binOp,aJ,Op.equal,h]
 ·cases af
theorem Y9 {dy dq:List Value}{et:List nK}(aR:dy.map l2=et.map some) (av:dq.map l2=et.map some) (aq:va P t et=true) (w:World) :
  (do eqGuard .neq t a b (.agg dy.toArray) (.agg dq.toArray); binOp .neq t (.agg dy.toArray) (.agg dq.toArray):Sem Value).run P w=.ok (.bool (!lu dy dq)) w:=by
 simp only [va,Bool.and_eq_true,Bool.not_eq_true'] at aq;obtain ⟨⟨h1,af⟩,aJ⟩:=aq;have h:=Kl w 100 t et h1 Op.maxDepth (by decide) dy dq aR av
 split at af
 ·rename_i fs hu;simp only [pack,hu] at h;simp [eqGuard,binOp,aJ,Op.equal,h]
 ·cases af
namespace O
theorem Ty {nH o2:List Value}{et:List nK}(j:Rd g a (.agg (nH.map .lit))) (al:Rd g b (.agg (o2.map .lit))) (aR:nH.map l2=et.map some) (av:o2.map l2=et.map some) (aq:va P t et=true) :
  b7 P g (.binOp .eql t a b t2) ty (bc (lu nH o2)):=.eD (.AM j.bo al.bo rfl λw=>Y7 aR av aq w)
theorem XS {nH o2:List Value}{et:List nK}(j:Rd g a (.agg (nH.map .lit))) (al:Rd g b (.agg (o2.map .lit))) (aR:nH.map l2=et.map some) (av:o2.map l2=et.map some) (aq:va P t et=true) :
  b7 P g (.binOp .neq t a b t2) ty (bc (!lu nH o2)):=.eD (.AM j.bo al.bo rfl λw=>Y9 aR av aq w)
end O
end
end Go.Own
namespace Go.Own
open Go
set_option linter.unusedSectionVars false
variable [cI]
section
variable {P:Program}{N:cS}{g g2:aK}{d r k0:Nat}{α:Type}
theorem View.pE {p:Place}{cs cs':List ab}(au:bu g p=some (.obj cs)) (hk:Nat.blt 0 cs.length=true) [h:c8 cs cs']:View g (.ptr p 0) (.cO cs') :=
 .ptr au (z:=0) (n:=0) (.inr rfl) (by simpa using hk) (by simpa using h.l) λk x y j al=>h.v g k x y (by simpa using j) al
theorem ej.el {en:bz α}{L:List α}{J off:Nat}{i:Int}{y:α}(af:bu g2 ⟨r,[J]⟩=some (ao en L)) (hi:idx L i=some y) (aU:Nat.blt off en.z=true):ej g2 (.ptr ⟨r,[J]⟩ (i.toNat * en.z+off)) :=
 (o8.mk (g:=g2) af hi af hi aU).b'
theorem jG {p:Place}{k:Nat}:∀ z q n m new,ab.ptr p k≠.bB z q n m new:=by simp
inductive yt (g:aK) (d r k0:Nat) (G4:List (Nat × ab)):List (Nat × ab)->Prop
 | nil:yt g d r k0 G4 []
 | c {α:Type}{en:bz α}{L:List α}{s off:Nat}{i:Int}{y:α}{l:List (Nat × ab)}(h:g s=some (.ptr ⟨r,[k0]⟩ (i.toNat * en.z+off))) (au:bu (get G4) ⟨r,[k0]⟩=some (ao en L)) (hi:idx L i=some y) (aU:Nat.blt off en.z=true) (aP:Nat.beq s d=false) (bx:get G4 s=none) (t:yt g d r k0 G4 l):yt g d r k0 G4 ((s,.ptr ⟨r,[k0]⟩ (i.toNat * en.z+off))::l)
theorem yt.spec {G4 l:List (Nat × ab)}(h:yt g d r k0 G4 l):∀ t x,get l t=some x->get G4 t=none/\t≠d/\g t=some x/\∃ m z n cs,x=.ptr ⟨r,[k0]⟩ m/\bu (get G4) ⟨r,[k0]⟩=some (.own z n cs)/\m<cs.length:=by
 induction h with
 | nil=>intro t x j; cases j
 | @c α en L s off i y l h au hi aU aP bx _ aM =>
  intro t x j; simp only [get] at j
  split at j
  ·rename_i e; subst e; cases j; exact ⟨bx,Nat.ne_of_beq_eq_false aP,h,_,_,_,_,rfl,au,Hs hi aU⟩
  ·exact aM t x j
theorem lp.keep {g':aK}{x2:ab}{G2:List (Nat × ab)}(c_:lp g (get G2) r x2 G2) (h1:∀ t,t≠r->g' t=g t) (af:g' r=some x2):hx g' (get G2):=by
 refine ⟨λt x j=>?_,λt x j=>?_,λt z q n m new j=>?_⟩
 ·rcases c_.spec t x j with ⟨a,b,_⟩ | ⟨rfl,rfl,_⟩
  ·grind
  grind
 ·rcases c_.spec t x j with ⟨_,_,aJ | ⟨aJ,_⟩⟩ | ⟨_,_,aJ⟩
  ·exact aJ.b'
  ·exact aJ.b'
  ·exact .bl aJ
 ·rcases c_.spec t _ j with ⟨_,_,aJ | ⟨aJ,_⟩⟩ | ⟨_,_,aJ⟩
  ·exact aJ.fk _ _ _ _ _ rfl
  ·exact aJ.fk _ _ _ _ _ rfl
  ·cases aJ
theorem P1 {cs:List ab}{y x:ab}(h:g r=some (.obj cs)) (hk:cs[k0]?=some x):cj g ⟨r,[k0]⟩ y r=some (.obj (cs.set k0 y)):=by
 grind [cj,ab.setAt,ab.kids,ab.uM]
theorem br.dF {o:Oper}{y:ab}{cs cs5:List ab}{G1 G4:Value->List (Nat × ab)}{c4:Value->List ab}{G5 A:List (Nat × ab)}(aP:o.dst=some d) (a_:N.ok d=true) (ah:g r=some (.obj cs)) (al:cs[k0]?=some y) [xm:b4 y]
  (h1:∀ v,lp g (get (G1 v)) r (.obj (cs.set k0 (.lit v))) (G1 v)) (aa:∀ v,hY P N (get (G1 v)) o d (get (G4 v))) (MY:∀ v,get (G4 v) r=some (.obj (c4 v))) (MX:∀ v,(c4 v)[k0]?=some (.lit v)) (T0:∀ v,(c4 v).set k0 y=cs5)
  (cu:∀ v,lp (get (G4 v)) (get G5) r (.obj cs5) G5) (T5:bu (get G5) ⟨r,[k0]⟩=some y) (dQ:yt g d r k0 G5 A) (lS:∀ i,y≠.self i:=by exact λ_ h=>by cases h):br P N g o (get (A++G5)):=by
 refine .call aP a_ (hY.TP ah al xm.bl lS λv hv=>⟨get (G1 v),get (G4 v),get G5,?_,aa v,?_,?_,T5,?_⟩)
 ·exact (h1 v).keep (λt aq=>ya aq) (P1 ah al)
 ·have:=MY v;simp only [bu,this,ab.at,ab.kids,MX v]
 ·refine (cu v).keep (λt aq=>ya aq) ?_;rw [P1 (MY v) (MX v),T0 v]
 ·refine ⟨λt x h=>?_,λt x h=>?_⟩
  ·rw [Ed];cases rI:get A t with
   | none=>exact h
   | some z =>
    obtain ⟨kN,_⟩:=dQ.spec t z rI;rw [kN] at h; cases h
  ·rw [Ed] at h;cases rI:get A t with
   | none=>rw [rI] at h; exact .inl h
   | some z =>
    rw [rI] at h;cases h;exact .inr (dQ.spec t x rI)
end
end Go.Own
namespace Go.Own
open Go
set_option linter.unusedSectionVars false
variable [cI]
section
variable {P:Program}{N:cS}{ops:Array Oper}{g g1 mG:aK}{K:aK->Prop}{l:List Oper}{d r:Nat}{t:TypeId}{a b:Operand}{x y:ab}
variable {a':List (List Nat)}{acc:Acc}{i:Nat}
theorem iK {a b:Nat}(h:Nat.blt a b=true):a<b:=by simpa using h
def Ff:Option Nat->Nat->Bool
 | none,_=>true
 | some a,d=>!Nat.beq a d
theorem OL {o:Option Nat}{d:Nat}(h:Ff o d=true):o≠some d:=by
 rintro rfl;simp [Ff] at h
inductive wA (P:Program) (N:cS) (ops:Array Oper) (a':List (List Nat)) (rs:Place->Prop) (mG g1:aK) (o:Oper) (U:Acc):Acc->Prop
 | nil:wA P N ops a' rs mG g1 o U []
 | c {k d:Nat}{x:ab}{hn:Oper}{V:Acc}(bT:AH rs mG g1 o x) (h1:g1 d=none) (cA:Ff o.dst d=true) (aU:ops[k]?=some hn) (ED:hn.dst=some d) (a_:N.ok d=true) (hw:ir (c3 g1 (λm=>(a'.getD k []).contains m) U) ops hn true)
   (ay:b7 P (c3 g1 (λm=>(a'.getD k []).contains m) U) hn.op hn.type x) (t:wA P N ops a' rs mG g1 o U V):wA P N ops a' rs mG g1 o U ((k,d,some x)::V)
theorem wA.spec {o:Oper}{U V:Acc}{rs:Place->Prop}(h:wA P N ops a' rs mG g1 o U V):∀ e∈V,(∃ x,e.2.2=some x/\AH rs mG g1 o x)/\(g1 e.2.1=none/\o.dst≠some e.2.1)/\∃ hn,ops[e.1]?=some hn/\hn.dst=some e.2.1/\N.ok e.2.1=true/\pV P (c3 g1 (λm=>(a'.getD e.1 []).contains m) U) ops hn e.2.2:=by
 induction h with
 | nil=>intro e he; cases he
 | c bT h1 cA aU ED a_ hw ay _ aM =>
  intro e he;rcases List.mem_cons.1 he with rfl | he
  ·exact ⟨⟨_,rfl,bT⟩,⟨h1,OL cA⟩,_,aU,ED,a_,.inl ⟨hw,.inl ay⟩⟩
  ·exact aM e he
theorem bE.eW (bw:Nat) {G G2:List (Nat × ab)}{U:Acc}{o:Oper}{rs:List Nat}(he:o7 P N (sc rs) (c3 (get G) (λm=>(a'.getD bw []).contains m) acc) o (get G2)) (lU:rs.all (λr=>(get G r).isSome)=true) (aN:o.guard=none) (gw:q2 ((acc.filterMap jV).map Place.root)=true) (fB:lY G=true) (ai:Nat.beq ops.size (bw+l.length+1)=true)
  (fy:acc.filter (λe=>!(a'.getD bw []).contains e.1)=U) (n0:wA P N ops a' (sc rs) (c3 (get G) (λm=>(a'.getD bw []).contains m) acc) (get G2) o U U)
  (av:(List.range ops.size).all (λk=>Nat.ble k bw||(a'.getD k []).contains bw)=true) (hk:bE P N ops a' (get G2) (bw+1) U l K):bE P N ops a' (get G) i acc (o::l) K:=by
 intro dK J cb kH kE;have:=y7 kE ai;subst this;obtain ⟨h1,af⟩:=drop_cons kE;have nn:∀ e∈U,e∈acc:=λe he=>by rw [<- fy] at he; exact (List.mem_filter.1 he).1
 have Bj:mC P N ops a' (get G2) (J+1) U:=⟨λe he=>by have:=(kH.le cb).2 e (nn e he); omega,λe he=>(n0.spec e he).2.1.1,by rw [<- fy]; exact (List.filter_sublist.map _).nodup (kH.nodup cb),λe he b_ h8 h=>kH.uniq cb (nn e he) (nn b_ h8) h,λe he=>(n0.spec e he).2.2⟩;obtain ⟨g',ah,c6⟩:=hk U (J+1) Bj .nil af;refine ⟨g',.wG kH (Fe gw) (vO fB) h1 ?_ he (λr ah e=>by have:=List.all_eq_true.1 lU r.root ah; rw [e] at this; cases this) fy.symm (λe h=>(n0.spec e h).1) (λe h=>(n0.spec e h).2.1) (λe h=>(n0.spec e h).2.2) ?_ ah,c6⟩
 ·unfold ir; rw [aN]
 ·refine List.all_eq_true.2 λk hk=>?_;have:=List.all_eq_true.1 av k hk;simp only [Bool.or_eq_true,decide_eq_true_eq,Nat.ble_eq] at this ⊢;exact this
theorem bE.Sm (bw:Nat) {G G2:List (Nat × ab)}{U:Acc}{o:Oper}{ps:List Place}(he:o7 P N (λp=>p∈ps) (c3 (get G) (λm=>(a'.getD bw []).contains m) acc) o (get G2)) (lU:ps.all (λr=>(get G r.root).isSome)=true) (aN:o.guard=none) (gw:q2 ((acc.filterMap jV).map Place.root)=true) (fB:lY G=true) (ai:Nat.beq ops.size (bw+l.length+1)=true)
  (fy:acc.filter (λe=>!(a'.getD bw []).contains e.1)=U) (n0:wA P N ops a' (λp=>p∈ps) (c3 (get G) (λm=>(a'.getD bw []).contains m) acc) (get G2) o U U)
  (av:(List.range ops.size).all (λk=>Nat.ble k bw||(a'.getD k []).contains bw)=true) (hk:bE P N ops a' (get G2) (bw+1) U l K):bE P N ops a' (get G) i acc (o::l) K:=by
 intro dK J cb kH kE;have:=y7 kE ai;subst this;obtain ⟨h1,af⟩:=drop_cons kE;have nn:∀ e∈U,e∈acc:=λe he=>by rw [<- fy] at he; exact (List.mem_filter.1 he).1
 have Bj:mC P N ops a' (get G2) (J+1) U:=⟨λe he=>by have:=(kH.le cb).2 e (nn e he); omega,λe he=>(n0.spec e he).2.1.1,by rw [<- fy]; exact (List.filter_sublist.map _).nodup (kH.nodup cb),λe he b_ h8 h=>kH.uniq cb (nn e he) (nn b_ h8) h,λe he=>(n0.spec e he).2.2⟩;obtain ⟨g',ah,c6⟩:=hk U (J+1) Bj .nil af;refine ⟨g',.wG kH (Fe gw) (vO fB) h1 ?_ he (λr ah e=>by have:=List.all_eq_true.1 lU r ah; rw [e] at this; cases this) fy.symm (λe h=>(n0.spec e h).1) (λe h=>(n0.spec e h).2.1) (λe h=>(n0.spec e h).2.2) ?_ ah,c6⟩
 ·unfold ir; rw [aN]
 ·refine List.all_eq_true.2 λk hk=>?_;have:=List.all_eq_true.1 av k hk;simp only [Bool.or_eq_true,decide_eq_true_eq,Nat.ble_eq] at this ⊢;exact this
theorem o7.box {o:Oper}{r:Nat}{x:ab}{G1 G2:List (Nat × ab)}(he:br P N (get G1) o (get G2)) (ah:g r=some x) [j:b4 x] (hk:Trim false g (get G1) G1) (aO:get G1 r=none) (h1:get G2 r=none) (aP:Ff o.dst r=true):o7 P N (sc [r]) g o (get ((r,x)::G2)):=by
 rw [<- sz];exact he.kn.frame ah j.bl hk.keep aO h1 (OL aP)
theorem br.ij {o:Oper}{k0:Nat}{cs cs' cs2:List ab}{G2:List (Nat × ab)}(aU:o.op=.store t a b) (aP:o.dst=none) (ay:g r=some (.obj cs)) (aR:Rd g a (.ptr ⟨r,[]⟩ k0)) (av:Rd g b y) [aA:b4 y] (aa:nQ y=some cs') (aW:hs P t cs'.length=true)
  (hk:Nat.ble (k0+cs'.length) cs.length=true) (aO:Nat.blt 0 cs'.length=true) (he:eK cs k0 cs'=cs2) [e6:dh cs] (ah:(get G2 r).isSome=true) (c_:ln g (get G2) r cs2 G2):br P N g o (get G2) :=
 .box aU aP ay aR av aA.bl aa aW (Nat.le_of_ble_eq_true hk) (by simpa using aO) he (by intro e; rw [e] at ah; cases ah) c_
end
end Go.Own
namespace Go.Own
open Go
set_option linter.unusedSectionVars false
variable [cI]
section
variable {α:Type}
theorem c8.app {xs ys xs' Dt:List ab}(h:c8 xs ys) (aI:c8 xs' Dt):c8 (xs++xs') (ys++Dt):=⟨by simp [h.l,aI.l],λg k a b aR av=>by
 by_cases hk:k<xs.length
 ·rw [List.getElem?_append_left hk] at aR;rw [List.getElem?_append_left (by rw [h.l]; exact hk)] at av;exact h.v g k a b aR av
 ·rw [List.getElem?_append_right (by omega)] at aR;rw [List.getElem?_append_right (by rw [h.l]; omega),h.l] at av;exact aI.v g _ a b aR av⟩
instance {e b_:bz α}{L:List α} [h:gq e b_]:c8 (bq e L) (bq b_ L):=⟨(Dl e b_ L).1,(Dl e b_ L).2⟩
theorem iS.Kh {en:bz α}{L:List α}{n:Nat}{cs cs':List ab}(h:bq en L=cs') (aj:L.length=n) [hv:c8 cs cs']:iS (.own en.z n cs) (ak en L):=⟨λg=>by
 subst h aj;exact .own hv.l (hv.v g)⟩
theorem iS.ih {en tM:bz α}{L M:List α}{m:Nat}{new cQ:List ab} [h:gq en tM] (aA:bq tM M=cQ) (hm:M.length=m) [aI:c8 new cQ]:iS (.own en.z (L.length+m) (bq en L++new)) (ak tM (L++M)):=⟨λg=>by
 subst aA hm;have hv:=c8.app (inferInstance:c8 (bq en L) (bq tM L)) aI;show View g (.own en.z (L.length+M.length) (bq en L++new)) (.bm tM.z (L++M).length (bq tM (L++M)));have e:bq tM (L++M)=bq tM L++bq tM M:=by simp [bq]
 rw [e,List.length_append,<- h.z];exact .own hv.l (hv.v g)⟩
end
end Go.Own
namespace Go.Own
open Go
set_option linter.unusedSectionVars false
variable [cI]
section
variable {α:Type}{g g2:aK}{p q:Place}{P:Program}{a b:Operand}{t:TypeId}{ty:TypeId}
theorem ej.bg {en:bz α}{L:List α}(h:bu g2 p=some (ao en L)):ej g2 (.bg en.z p L.length):=.ref rfl (.inl ⟨_,_,h,Nat.le_refl _⟩)
namespace O
theorem RJ {en:bz α}{L M r:List α}{e gr m:Nat}{cs:List ab}(ay:Rd g a (.bg en.z p L.length)) (au:bu g p=some (ao en L)) (j:Rd g b (.bg en.z q m)) (a7:bu g q=some (.own en.z m cs)) (aj:cs.length=m * en.z) (aS:cs.all lO=true) (hm:M.length=m) (aq:jM P t e en.z gr=true) (av:Nat.ble gr 128=true) (h:da L M=some r)
  (e6:∀ t z n m new,g t≠some (.bB z p n m new)):b7 P g (.call { callee:=.builtin .append,args:=#[a,b],argTypes:=#[t,t] }) ty (.bB en.z p L.length m cs):=by
 subst hm;obtain ⟨h1,af,_⟩:=yR h av;exact .lE (.grow ay.bo (.inl ⟨_,au⟩) (λt bs ch bh cQ e=>e6 _ _ _ _ _ e) j.bo (Qe a7 aj aS) aq h1 af)
end O
end
end Go.Own
