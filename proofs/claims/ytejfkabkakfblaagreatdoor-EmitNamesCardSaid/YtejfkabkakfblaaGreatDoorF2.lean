/- Parts of the proof that the last text states. -/
import Derived.RowKit3
import Derived.Test.YtejfkabkakfblaaGreatDoorF1
namespace Go.Own
open Go
set_option linter.unusedSectionVars false
variable [cE]
structure hh (g1 g2:aI):Prop where
 sub:∀ t x,g2 t=some x->g1 t=some x
 ca:∀ t x,g2 t=some x->et g2 x
 fk:∀ t z q n m new,g2 t≠some (.bC z q n m new)
structure cP where
 size:Nat
 pins:List Nat
def cP.ok (N:cP) (d:Nat):Bool:=Nat.blt d N.size&&!N.pins.elem d
def hr (N:cP) (T T':Array Value):Prop:=T'.size=T.size/\∀ t∈N.pins,T'[t]?=T[t]?
theorem hr.refl {N:cP}{T:Array Value}:hr N T T:=⟨rfl,λ_ _=>rfl⟩
theorem hr.trans {N:cP}{T K6 K7:Array Value}(h:hr N T K6) (h1:hr N K6 K7):hr N T K7:=⟨h1.1.trans h.1,λt al=>(h1.2 t al).trans (h.2 t al)⟩
theorem cP.lt {N:cP}{d:Nat}(h:N.ok d=true):d<N.size:=by
 simp_all [cP.ok]
theorem hr.put {N:cP}{d:Nat}(h:N.ok d=true) (T:Array Value) (v:Value):hr N T (T.setIfInBounds d v):=by
 refine ⟨by simp,λt al=>?_⟩
 grind [cP.ok]
def hR (N:cP) (a:Act) (w:World) (I:a_) (Fs:Nat->a_) (g':aI) (b0:Act) (w':World):Prop :=
 b0.defers=a.defers/\hr N a.tmps b0.tmps/\∃ I' b1,cB w' I' b0.tmps g' b1/\kR w I (λc=>∃ t,Fs t c) w' I' (λc=>∃ t,b1 t c)
theorem v' {b1:Nat->a_}{d:Nat}{F:a_}{c:Nat}(h:∃ t,uW b1 d F t c):(∃ t,b1 t c)\/F c:=by
 obtain ⟨t,h⟩:=h;unfold uW at h
 grind
structure x_ (P:Program) (g:aI) (f:FuncId) (all xs0 xs1 args:List ab) (tk:Nat->Bool) (vw:Bool) (g1 g2:aI) (outs:List (Option ab)) (res:ab) (l:List (Place × ab)) (ks:Nat->Nat) (g4:aI):Prop where
 aS:ju P f=true
 BZ:xs0.length=all.length
 xi:args.length=all.length
 aO:∀ (k:Nat) (x:ab),all[k]?=some x->xs0[k]?=some x\/xs0[k]?=some .dead
 al:Take g xs0 xs1 g1
 hk:hh g1 g2
 aQ:∀ (k:Nat) (x y:ab),all[k]?=some x->args[k]?=some y->if tk k then xs1[k]?=some y else vw=true/\View g2 x y
 gS:b7 P f args outs res
 ah:if vw then jP res else cA res
 nt:∀ (k:Nat) (x:ab),outs[k]?=some (some x)->if vw then jP x else cA x
 ai:∀ (J:Nat) (p:Place) (x:ab),l[J]?=some (p,x)->QZ g g2 all outs (ks J) p x
 nd:(l.map (·.1)).Nodup
 inj:∀ i J,i<l.length->J<l.length->ks i=ks J->i=J
 Xv:hh (qy g2 l) g4
section
variable {P:Program}{w:World}{I:a_}{T:Array Value}{g:aI}{Fs:Nat->a_}
theorem jr.keep (h:jr w I T g Fs) {g2:aI}(hk:hh g g2):cB w I T g2 (λt c=>g2 t≠none/\Fs t c) :=
 h.Z4 hk.sub hk.ca λ_ _ _ _ _ _ _ _ _ _ _ h1=>absurd h1 (hk.fk _ _ _ _ _ _)
structure wg (g:aI) (d:Nat) (g4 g5:aI):Prop where
 sub:∀ t x,g4 t=some x->g5 t=some x
 new:∀ t x,g5 t=some x->g4 t=some x\/(g4 t=none/\t≠d/\g t=some x/\∃ r k cs,x=.ptr ⟨r,[]⟩ k/\r≠d/\g4 r=some (.obj cs)/\k<cs.length)
theorem wg.refl {d:Nat}{g4:aI}:wg g d g4 g4:=⟨λ_ _ h=>h,λ_ _ h=>.inl h⟩
theorem cB.back (h:cB w I T g Fs) {w':World}{I':a_}{d:Nat}{v:Value}{g4 g5:aI}{KR:Nat->a_}(bu:cB w' I' (T.setIfInBounds d v) g4 KR) (av:wg g d g4 g5):cB w' I' (T.setIfInBounds d v) g5 KR:=by
 refine ⟨λt x j=>?_,λt al c aa=>?_,bu.eB,bu.bk,bu.lt,λt t' z p n m new br cf bd cO h1 af=>?_,bu.gl⟩
 ·rcases av.new t x j with aH | ⟨h1,af,aF,r,k,cs,rfl,ct,dJ,kV⟩
  ·obtain ⟨u,hu,aY⟩:=bu.rel t x aH;exact ⟨u,hu,bu.wL (λ_ _=>rfl) (λ_ _ _=>rfl) (λ_ _=>rfl) (λ_ h=>h) av.sub aY λ_ _=>rfl⟩
  ·obtain ⟨u,hu,aY⟩:=h.rel t _ aF;obtain ⟨⟨C3,ad,aB,a2,rfl⟩,_⟩:=(aY.gV (by simp)).ny;have cX:∀ s,s≠d->(T.setIfInBounds d v)[s]?=T[s]?:=λs aw=>by rw [Array.getElem?_setIfInBounds_ne (Ne.symm aw)]
   refine ⟨_,by rw [cX t af]; exact hu,.tree (.ref rfl ⟨⟨C3,ad,?_,a2,rfl⟩,?_⟩ (bu.kE t h1))⟩
   ·have:dS w T ⟨r,[]⟩=T[r]?:=by
     unfold dS; simp only; cases T[r]? <;> rfl
    rw [this] at aB;unfold dS;simp only [cX r ct,aB,walk]
   ·exact ⟨.obj cs,by simp [bx,av.sub r _ dJ,ab.at],0,0,cs,.inr rfl,kV⟩
 ·cases aH:g4 t with
  | none=>exact bu.kE t aH c aa
  | some y=>rw [av.sub t y aH] at al; cases al
 ·have:∀ {t z p n m new},g5 t=some (.bC z p n m new)->g4 t=some (.bC z p n m new):=by
   intro t z p n m new j;rcases av.new t _ j with aH | ⟨_,_,_,r,k,cs,e,_⟩
   ·exact aH
   ·cases e
  exact bu.ra t t' z p n m new br cf bd cO (this h1) (this af)
def hN (P:Program) (N:cP) (g:aI) (o:Oper) (d:Nat) (g5:aI):Prop :=
 ∀ (w:World) (I:a_) (T:Array Value) (Fs:Nat->a_),cB w I T g Fs->∀ (a:Act),a.tmps=T->a.tmps.size=N.size->∀ (K:Act->World->Prop) (Q:Exit->Act->World->Prop),
  (∀ (b0:Act) (w':World) (v:Value) (I':a_) (b1:Nat->a_),b0.defers=a.defers->b0.tmps=T.setIfInBounds d v->cB w' I' (T.setIfInBounds d v) g5 b1->kR w I (λc=>∃ t,Fs t c) w' I' (λc=>∃ t,b1 t c)->K b0 w')->o.wp P a w K Q
theorem hN.sound {N:cP}{o:Oper}{d:Nat}{g5:aI}(aa:hN P N g o d g5) (jw:N.ok d=true) (h:cB w I T g Fs) {a:Act}(aQ:a.tmps=T) (a7:a.tmps.size=N.size) {K:Act->World->Prop}{Q:Exit->Act->World->Prop}
  (c5:∀ b0 w',hR N a w I Fs g5 b0 w'->K b0 w'):o.wp P a w K Q :=
 aa w I T Fs h a aQ a7 K Q λb0 w' v I' b1 h1 af aF bu=>c5 b0 w' ⟨h1,by rw [af,<- aQ]; exact hr.put jw _ _,I',b1,by rw [af]; exact aF,bu⟩
theorem x_.ok {N:cP}{o:Oper}{c:Operand}{xs:Array Operand}{gh:Array TypeId}{d:Nat}{f:FuncId}{first caps ys xs0 xs1 args:List ab}{tk:Nat->Bool}{vw:Bool}{g1 g2 g4 g5:aI}{outs:List (Option ab)}{res:ab}{l:List (Place × ab)}{ks:Nat->Nat}
  (aV:o.op=.call { callee:=.value c,args:=xs,argTypes:=gh }) (aP:o.dst=some d) (aa:bm g c=some (.di (.func f) first caps)) (j:fB g xs.toList=some ys)
  (he:x_ P g f (first++ys++caps) xs0 xs1 args tk vw g1 g2 outs res l ks g4) (aK:g4 d=none) (jw:N.ok d=true) (Bd:wg g d (cH g4 d res) g5):hN P N g o d g5:=by
 intro w I T Fs h a aQ a7 K Q c5;obtain ⟨v1,v2,vl,ai,oH⟩:=GM h aQ aa j;have h0:(execOp a.eval o).run P w=.ok (.enter f (v1++xs.map a.eval++v2)) w:=by
  simp [execOp,aV,resolve,Deferred.ofValue,vl,invoke,GN he.aS]
 generalize IJ:(v1++xs.map a.eval++v2).toList=vs at *;generalize HK:first++ys++caps=all at *
 -- what is taken
 have vh:Hand w I (fI w T) Fs xs0 vs (λ_=>cr):=by
  refine ⟨by rw [he.BZ,ai],λk x u j hu=>?_,λ_ _ _ _ _ h=>h.elim,λ_ _ _ _ h=>h.elim,λ_ _ _ h=>h.elim⟩;have hk:k<all.length:=by rw [<- he.BZ]; exact (List.getElem?_eq_some_iff.1 j).1
  have A7:=List.getElem?_eq_getElem hk;rcases he.aO k _ A7 with aO | aO
  ·rw [aO] at j; cases j;exact (oH k _ u A7 hu).frame (λ_ _=>rfl) (λ_ h=>h) (λ_ _ h=>h.1) λ_ _=>rfl
  ·rw [aO] at j; cases j;exact .dead λ_ h=>h
 obtain ⟨fH,H1,iO,ih,g_⟩:=he.al.sound h.mo vh;have MQ:∀ c,la fH xs1.length H1 c->∃ t,Fs t c:=by
  intro c aa;rcases g_ c aa with aH | ⟨_,_,aH⟩
  ·exact aH
  ·exact aH.elim
 have hY:=iO.keep he.hk;generalize Ui:(λt c=>g2 t≠none/\fH t c)=iJ at hY;have MC:∀ t c,iJ t c->fH t c:=by intro t c aa; rw [<- Ui] at aa; exact aa.2
 have Ip:xs1.length=all.length:=by rw [he.al.length,he.BZ]
 -- what the callee sees
 let Dg:a_:=λc=>I c\/(vw=true/\∃ t,iJ t c)
 let yb:Nat->a_:=λt c=>t<all.length/\tk t=true/\H1 t c;have tX:∀ t c,yb t c->(∀ s,¬ iJ s c)/\¬ I c/\∃ t,Fs t c:=by
  rintro t c ⟨h1,af,aF⟩;exact ⟨λs aw=>ih.off t s c (by omega) aF (MC s c aw),ih.bk t c (by omega) aF,MQ c (.inr ⟨t,by omega,aF⟩)⟩
 have Nq:∀ (ρ':ab->Value->Prop) (k:Nat) (y:ab) (u:Value),args[k]?=some y->vs[k]?=some u->R w Dg ρ' y u (yb k):=by
  intro ρ' k y u ak hu;have hk:k<all.length:=by rw [<- he.xi]; exact (List.getElem?_eq_some_iff.1 ak).1
  have A7:=List.getElem?_eq_getElem hk;have:=he.aQ k _ y A7 ak
  split at this
  ·rename_i al;have mJ:cA y:=he.al.Ce y (List.mem_of_getElem? this);exact (((ih.rel k y u this hu).bg mJ).nC λc aa=>.inl aa).yJ λc=>⟨λaa=>⟨hk,al,aa⟩,λaa=>aa.2.2⟩
  ·rename_i al;obtain ⟨hv,WC⟩:=this;have fQ:R w I (fI w T) all[k] u cr:=(oH k _ u A7 hu).frame (λ_ _=>rfl) (λ_ h=>h) (λ_ _ h=>h.1) λ_ _=>rfl;have:=View.PN hY.mo WC fQ (λ_ h=>h.elim) ρ';refine (this.nC (I':=Dg) λc aa=>?_).yJ λc=>⟨λh=>h.elim,λaa=>absurd aa.2.1 al⟩;rcases aa with aH | aH
   ·exact .inl aH
   ·exact .inr ⟨hv,aH⟩
 have UI:cB w Dg vs.toArray (pg args) yb:=by
  refine ⟨λt x j=>?_,λt al c aa=>?_,λt t' c aa e7=>ih.eB t t' c (by have:=aa.1; omega) (by have:=e7.1; omega) aa.2.2 e7.2.2,λt c aa hi=>?_,λc aa=>?_,λt t' z p n m new br cf bd cO h1 af=>?_,cE.keep h.gl (λ_ _=>rfl) λ_ h=>.inl h⟩
  ·have al:t<args.length:=(List.getElem?_eq_some_iff.1 j).1;have hu:vs[t]?=some (vs[t]'(by rw [<- ai,<- he.xi]; exact al)):=List.getElem?_eq_getElem _;exact ⟨_,by rw [List.getElem?_toArray]; exact hu,.tree (Nq _ t x _ j hu)⟩
  ·have hle:args.length<=t:=by simpa [pg] using al
   have:=aa.1; have:=he.xi; omega
  ·obtain ⟨h1,af,_⟩:=tX t c aa;rcases hi with aH | ⟨_,s,aH⟩
   ·exact af aH
   ·exact h1 s aH
  ·rcases aa with aH | ⟨_,s,aH⟩
   ·exact h.lt c aH
   ·exact hY.jJ s c aH
  ·have al:t<args.length:=(List.getElem?_eq_some_iff.1 h1).1;have hu:vs[t]?=some (vs[t]'(by rw [<- ai,<- he.xi]; exact al)):=List.getElem?_eq_getElem _;exact (Nq (λ_ _=>False) t _ _ h1 hu).k4.elim
 have vj:=he.gS.2 w Dg vs yb (by rw [<- ai,he.xi]) UI;unfold Oper.wp Oper.upon;simp only [h0];rw [<- IJ,Array.toArray_toList] at vj;refine Calls.mono vj ?_;rintro e w' ⟨v,I',b1,rfl,dX,bL⟩;rw [IJ] at dX;have ly:outs.length=all.length:=by rw [he.gS.1,he.xi]
 have oM:vs.length=all.length:=ai.symm
 -- the blocks behind the call
 have Pn:∀ t c,iJ t c->w'.heap[c]?=w.heap[c]?:=λt c aa=>bL.ek.block c (hY.jJ t c aa) λ⟨s,aw⟩=>(tX s c aw).1 t aa;have rj:∀ c,I c->w'.heap[c]?=w.heap[c]?:=λc aa=>bL.ek.block c (h.lt c aa) λ⟨s,aw⟩=>(tX s c aw).2.1 aa
 let If:a_:=λc=>if vw then I c else I' c
 have JI:∀ t c,b1 t c->(∃ s,yb s c)\/w.heap.size<=c:=λt c aa=>bL.own c ⟨t,aa⟩;have Ov:∀ t c,b1 t c->∀ s,¬ iJ s c:=by
  intro t c aa s aw;rcases JI t c aa with ⟨cu,aH⟩ | aH
  ·exact (tX cu c aH).1 s aw
  ·have:=hY.jJ s c aw; omega
 have Ow:∀ t c,b1 t c->¬ If c:=by
  intro t c aa hi;cases vw with
  | true =>
   simp only [If,if_true] at hi;rcases JI t c aa with ⟨cu,aH⟩ | aH
   ·exact (tX cu c aH).2.1 hi
   ·have:=h.lt c hi; omega
  | false =>
   simp only [If,Bool.false_eq_true,if_false] at hi;exact dX.bk t c aa hi
 have MH:∀ c,If c->I c\/(∃ s,yb s c)\/w.heap.size<=c:=by
  intro c aa;cases vw with
  | true=>simp only [If,if_true] at aa; exact .inl aa
  | false =>
   simp only [If,Bool.false_eq_true,if_false] at aa;rcases bL.new c aa with aH | aH | aH
   ·rcases aH with aH | ⟨aH,_⟩
    ·exact .inl aH
    ·cases aH
   ·exact .inr (.inl aH)
   ·exact .inr (.inr aH)
 have Hy:∀ c,I c->If c:=by
  intro c aa;cases vw with
  | true=>simp only [If,if_true]; exact aa
  | false=>simp only [If,Bool.false_eq_true,if_false]; exact bL.more c (.inl aa)
 have UE:cB w' If T g2 iJ:=by
  have:=hY.world (w':=w') Pn rj bL.ek.size;refine ⟨λt x j=>?_,this.kE,this.eB,λt c aa hi=>?_,λc aa=>?_,this.ra,cE.keep h.gl rj Hy⟩
  ·obtain ⟨v,hv,aY⟩:=this.rel t x j;exact ⟨v,hv,aY.frame (λ_ _=>rfl) Hy (λ_ _ h=>h) (λ_ _ _ _ _ _ _=>rfl) λ_ _=>rfl⟩
  ·rcases MH c hi with aH | ⟨s,aH⟩ | aH
   ·exact hY.bk t c aa aH
   ·exact (tX s c aH).1 t aa
   ·have:=hY.jJ t c aa; omega
  ·cases vw with
   | true=>simp only [If,if_true] at aa; exact Nat.lt_of_lt_of_le (h.lt c aa) bL.ek.size
   | false=>simp only [If,Bool.false_eq_true,if_false] at aa; exact dX.lt c aa
 -- what comes back in the arguments, and the result
 have Lr:∀ {x:ab}{u:Value}{F:a_}{ρ ρ':ab->Value->Prop},R w' I' ρ x u F->(if vw then jP x else cA x)->R w' If ρ' x u F:=by
  intro x u F ρ ρ' aY j;cases vw with
  | true=>simp only [if_true] at j; exact aY.k6 j
  | false =>
   simp only [Bool.false_eq_true,if_false] at j;refine (aY.bg j).nC λc aa=>?_;simpa [If] using aa
 have Cd:∀ {x:ab},(if vw then jP x else cA x)->∀ z p n m new,x≠.bC z p n m new:=by
  rintro x j z p n m new rfl;cases vw with
  | true=>simp only [if_true] at j; cases j
  | false=>simp only [Bool.false_eq_true,if_false] at j; cases j
 have X':∀ (k:Nat) (x:ab) (u:Value),outs[k]?=some (some x)->vs[k]?=some u->R w' If (fI w' T) x u (b1 k):=by
  intro k x u j hu;have hk:k<outs.length:=(List.getElem?_eq_some_iff.1 j).1;obtain ⟨v_,hG,aY⟩:=dX.rel k x (by simp only [lX,if_neg (Nat.ne_of_lt hk),j]; rfl);have:v_=u:=by
   rw [List.getElem?_toArray,List.getElem?_append_left (by rw [oM,<- ly]; exact hk),hu] at hG;exact (Option.some.inj hG).symm
  subst this;exact Lr (aY.gV (Cd (he.nt k x j))) (he.nt k x j)
 obtain ⟨Ko,Ev,pn⟩:=dX.rel outs.length res (by simp [lX]);have Wy:Ko=v:=by
  have e:outs.length=vs.length:=by omega
  rw [e] at Ev;simpa using Ev.symm
 subst Wy
 -- back into the places
 obtain ⟨yc,HH,D3⟩:=jr.qy (w:=w') (I:=If) (T:=T) l (λJ=>b1 (ks J)) (λJ=>vs.getD (ks J) undef) UE.mo he.nd (λJ p x aj=>by
   have L:=he.ai J p x aj;have hk:ks J<outs.length:=(List.getElem?_eq_some_iff.1 L.out).1;have hu:vs[ks J]?=some (vs[ks J]'(by rw [oM,<- ly]; exact hk)):=List.getElem?_eq_getElem _;have sP:vs.getD (ks J) undef=vs[ks J]'(by rw [oM,<- ly]; exact hk):=by simp [List.getD,hu]
   refine ⟨L.Ll,?_,?_,λi e=>?_⟩
   ·rw [sP,hY.xZ (w':=w') (λ_ _=>rfl) Pn L.Ll];rcases L.arg with ⟨z,n,cs,h1,af⟩ | ⟨cs,h1,af⟩
    ·exact RB h (oH _ _ _ h1 hu) af
    ·exact RA h (oH _ _ _ h1 hu) af
   ·rw [sP]; exact X' _ x _ L.out hu
   ·exact L.jz i e)
  (λJ t c aj aa=>Ov _ c aa t) (λJ c aj aa=>Ow _ c aa) (λi J c hi aj h1 af=>he.inj i J hi aj (dX.eB _ _ c h1 af))
 have UF:=HH.keep he.Xv;have X7:∀ t c,b1 outs.length c->¬ (g4 t≠none/\yc t c):=by
  rintro t c aa ⟨_,bu⟩;rcases D3 t c bu with aH | ⟨J,aj,aH⟩
  ·exact Ov _ c aa t aH
  ·have hk:ks J<outs.length:=by
    have vp:=List.getElem?_eq_getElem aj;exact (List.getElem?_eq_some_iff.1 (he.ai J _ _ vp).out).1
   have:=dX.eB _ _ c aa aH;omega
 have ns:=UF.uO (d:=d) (x:=res) (v:=Ko) (F:=b1 outs.length) aK (by rw [<- aQ,a7]; exact cP.lt jw) (.tree (Lr (pn.gV (Cd he.ah)) he.ah)) X7 (λc aa=>Ow _ c aa) (λz p n m new e=>absurd e (Cd he.ah z p n m new));refine c5 _ _ Ko If _ (by rw [aP]; rfl) (by rw [aP]; simp [Act.put,aQ]) (h.back ns Bd) ⟨?_,Hy,λc aa=>?_,λc aa=>?_⟩
 ·exact bL.ek.mono λb _ ⟨s,aw⟩=>(tX s b aw).2.2
 ·rcases MH c aa with aH | ⟨s,aH⟩ | aH
  ·exact .inl aH
  ·exact .inr (.inl (tX s c aH).2.2)
  ·exact .inr (.inr aH)
 ·have fin:∀ t,b1 t c->(∃ s,Fs s c)\/w.heap.size<=c:=by
   intro t al;rcases JI t c al with ⟨s,aH⟩ | aH
   ·exact .inl (tX s c aH).2.2
   ·exact .inr aH
  rcases v' aa with ⟨t,_,aH⟩ | aH
  ·rcases D3 t c aH with fW | ⟨J,_,fW⟩
   ·exact .inl (MQ c (.inl ⟨t,MC t c fW⟩))
   ·exact fin _ fW
  ·exact fin _ aH
structure QF (g:aI) (d r k0:Nat) (g4 g5:aI):Prop where
 sub:∀ t x,g4 t=some x->g5 t=some x
 new:∀ t x,g5 t=some x->g4 t=some x\/(g4 t=none/\t≠d/\g t=some x/\∃ m z n cs,x=.ptr ⟨r,[k0]⟩ m/\bx g4 ⟨r,[k0]⟩=some (.own z n cs)/\m<cs.length)
theorem hh.bx {g1 g2:aI}(h:hh g1 g2) {p:Place}{y:ab}(ar:bx g2 p=some y):bx g1 p=some y:=by
 unfold Own.bx at *;cases j:g2 p.root with
 | none=>rw [j] at ar; cases ar
 | some x=>rw [j] at ar; rw [h.sub _ _ j]; exact ar
theorem hN.TJ {N:cP}{o:Oper}{r k0 d:Nat}{y:ab}{cs:List ab}{g5:aI}(ah:g r=some (.obj cs)) (ak:cs[k0]?=some y) (w9:cA y) (lP:∀ i,y≠.self i)
  (vv:∀ v:Value,v.oneCell'=true->∃ g1 g4 ve,hh (ch g ⟨r,[k0]⟩ (.lit v)) g1/\hN P N g1 o d g4/\bx g4 ⟨r,[k0]⟩=some (.lit v)/\hh (ch g4 ⟨r,[k0]⟩ y) ve/\bx ve ⟨r,[k0]⟩=some y/\QF g d r k0 ve g5):hN P N g o d g5:=by
 intro w I T Fs h a aQ a7 K Q c5;have mg:∀ z q n m new,y≠.bC z q n m new:=by rintro z q n m new rfl; cases w9
 have fx:bx g ⟨r,[k0]⟩=some y:=by simp [bx,ah,ab.at,ab.kids,ak]
 obtain ⟨v,cj,hv,dz,df,put⟩:=h.mo.part fx mg;have rV:v.oneCell'=true:=by
  obtain ⟨u,hu,mH⟩:=h.rel r _ ah;obtain ⟨b,v_,h1,af,aF,bu,_⟩:=R.node (z:=0) (n:=0) (mH.gV (by simp)) (.inr rfl) ak;have:dS w T ⟨r,[k0]⟩=child w u k0:=by
   unfold dS;simp only [hu,walk];cases child w u k0 <;> rfl
  rw [this,aF] at hv;cases hv;exact bu
 obtain ⟨fH,iO,AX,AY⟩:=put (.lit v) cr (.lit rV λ_ h=>h) (λ_ h=>h.elim) (λ_ h=>h.elim) (λ_ _ _ h=>h.elim) (λ_ h=>by cases h);obtain ⟨g1,g4,ve,gj,cY,HL,Ik,acI,av⟩:=vv v rV;have sh:∀ t c,fH t c->Fs t c/\¬ cj c:=by
  intro t c aa;by_cases al:t=r
  ·subst al;rcases (AX c).1 aa with aH | aH
   ·exact aH
   ·exact aH.elim
  ·rw [AY t al] at aa;exact ⟨aa,λaS=>al (h.eB t r c aa (df c aS))⟩
 have HG:=iO.keep gj;refine cY w I T _ HG a aQ a7 K Q λb0 w' eg I' b1 G9 AR dX bL=>?_;obtain ⟨v2,iG,za,ma,Uh,JU⟩:=dX.mo.part HL (by simp);have IG:v2=v:=ma.h2.1;subst IG;have Hw:∀ c,cj c->¬ I c:=λc aa=>h.bk r c (df c aa);have wR:∀ c,cj c->c<w.heap.size:=λc aa=>h.jJ r c (df c aa);have xu:∀ c,cj c->¬ ∃ t,(g1 t≠none/\fH t c):=λc aa ⟨t,_,aH⟩=>(sh t c aH).2 aa;have Ch:∀ t c,b1 t c->¬ cj c:=by
  intro t c aa aS;rcases bL.own c ⟨t,aa⟩ with aH | aH
  ·exact xu c aS aH
  ·have:=wR c aS; omega
 have JE:∀ c,cj c->¬ I' c:=by
  intro c aa hi;rcases bL.new c hi with aH | aH | aH
  ·exact Hw c aa aH
  ·exact xu c aa aH
  ·have:=wR c aa; omega
 have J6:∀ c,cj c->w'.heap[c]?=w.heap[c]?:=λc aa=>bL.ek.block c (wR c aa) (xu c aa);have rj:∀ c,I c->w'.heap[c]?=w.heap[c]?:=λc aa=>bL.ek.block c (h.lt c aa) λ⟨t,_,aH⟩=>h.bk t c (sh t c aH).1 aa;have A5:R w' I' (fI w' (T.setIfInBounds d eg)) y v2 cj :=
  ((dz.bg w9).frame rj bL.more (λ_ _ h=>h) J6)
 obtain ⟨KS,HI,Hr,Hs⟩:=JU y cj A5 (λc aa aS=>(Ch _ c aS aa).elim) (λc aa=>JE c aa) (λt c _ aa aS=>Ch t c aS aa) (λi e=>absurd e (lP i));have sM:=HI.keep Ik;have WA:dS w' (T.setIfInBounds d eg) ⟨r,[k0]⟩=some v2:=za;have UG:cB w' I' (T.setIfInBounds d eg) g5 (λt c=>ve t≠none/\KS t c):=by
  refine ⟨λt x j=>?_,λt al c aa=>?_,sM.eB,sM.bk,sM.lt,λt t' z p n m new br cf bd cO h1 af=>?_,sM.gl⟩
  ·rcases av.new t x j with aH | ⟨h1,af,aF,m,z,n,cs2,rfl,ct,dJ⟩
   ·obtain ⟨u,hu,aY⟩:=sM.rel t x aH;exact ⟨u,hu,sM.wL (λ_ _=>rfl) (λ_ _ _=>rfl) (λ_ _=>rfl) (λ_ h=>h) av.sub aY λ_ _=>rfl⟩
   ·obtain ⟨u,hu,aY⟩:=h.rel t _ aF;obtain ⟨⟨C3,ad,aB,a2,rfl⟩,_⟩:=(aY.gV (by simp)).ny;rw [hv] at aB;cases aB;refine ⟨_,by rw [Array.getElem?_setIfInBounds_ne (Ne.symm af)]; exact hu,.tree (.ref rfl ⟨⟨v2,ad,WA,a2,rfl⟩,?_⟩ (sM.kE t h1))⟩;refine ⟨.own z n cs2,?_,z,n,cs2,.inl rfl,dJ⟩;unfold Own.bx at ct ⊢;cases fM:ve r with
    | none=>simp only [fM] at ct; cases ct
    | some x'=>simp only [fM] at ct; simp only [av.sub r x' fM]; exact ct
  ·cases aH:ve t with
   | none=>exact aa.1 aH
   | some y=>rw [av.sub t y aH] at al; cases al
  ·have:∀ {t z p n m new},g5 t=some (.bC z p n m new)->ve t=some (.bC z p n m new):=by
    intro t z p n m new j;rcases av.new t _ j with aH | ⟨_,_,_,m,z,n,cs2,e,_⟩
    ·exact aH
    ·cases e
   exact sM.ra t t' z p n m new br cf bd cO (this h1) (this af)
 refine c5 b0 w' eg I' _ G9 AR UG ⟨?_,bL.more,λc aa=>?_,λc aa=>?_⟩
 ·exact bL.ek.mono λb _ ⟨t,_,aH⟩=>⟨t,(sh t b aH).1⟩
 ·rcases bL.new c aa with aH | ⟨t,_,aH⟩ | aH
  ·exact .inl aH
  ·exact .inr (.inl ⟨t,(sh t c aH).1⟩)
  ·exact .inr (.inr aH)
 ·obtain ⟨t,_,aa⟩:=aa;have:(∃ t,b1 t c)\/cj c:=by
   by_cases al:t=r
   ·subst al;rcases (Hr c).1 aa with ⟨aH,_⟩ | aH
    ·exact .inl ⟨_,aH⟩
    ·exact .inr aH
   ·rw [Hs t al] at aa; exact .inl ⟨t,aa⟩
  rcases this with aH | aH
  ·rcases bL.own c aH with ⟨t,_,fW⟩ | fW
   ·exact .inl ⟨t,(sh t c fW).1⟩
   ·exact .inr fW
  ·exact .inl ⟨r,df c aH⟩
end
end Go.Own
namespace Go.Own
open Go
set_option linter.unusedSectionVars false
variable [cE]
def nS:ab->Option (List ab)
 | .agg cs=>some cs
 | .lit v=>some [.lit v]
 | .aU=>some [.aU]
 | .bk z n cs=>some [.bk z n cs]
 | .own z n cs=>some [.own z n cs]
 | .obj cs=>some [.obj cs]
 | .cJ cs=>some [.cJ cs]
 | .di f a b=>some [.di f a b]
 | _=>none
def hL (P:Program) (t:TypeId) (m:Nat):Bool :=
 match P.info? t with
 | some i=>i.size == m
 | none=>false
def iv (P:Program) (N:cP) (g:aI) (o:Oper) (g':aI):Prop :=
 ∀ (w:World) (I:a_) (T:Array Value) (Fs:Nat->a_),cB w I T g Fs->∀ (a:Act),a.tmps=T->a.tmps.size=N.size->∀ (K:Act->World->Prop) (Q:Exit->Act->World->Prop),
  (∀ (b0:Act) (w':World),hR N a w I Fs g' b0 w'->(∀ t,o.dst≠some t->b0.tmps[t]?=a.tmps[t]?)->K b0 w')->o.wp P a w K Q
inductive bt (P:Program) (N:cP) (g:aI):Oper->aI->Prop
 | assign {o:Oper}{d:Nat}{x:Operand}{y bT y':ab}{g1 g2:aI}(aV:o.op=.assign x) (aP:o.dst=some d) (j:bm g x=some y) (al:Take g [y] [bT] g1) (aT:gO bT y') (hk:hh g1 g2) (aK:g2 d=none) (a7:N.ok d=true):bt P N g o (cH g2 d y')
 | RF {o:Oper}{d:Nat}{x:Operand}{y:ab}{g2:aI}(aV:o.op=.assign x) (aP:o.dst=some d) (j:bm g x=some y) (hk:hh g g2) (ak:et g2 y) (aK:g2 d=none) (a7:N.ok d=true):bt P N g o (cH g2 d y)
 | store {o:Oper}{t:TypeId}{ad val:Operand}{p:Place}{k z n:Nat}{y bT y' nd:ab}{cs cs':List ab}{g1 g2:aI}(aV:o.op=.store t ad val) (aP:o.dst=none) (fo:bm g ad=some (.ptr p k)) (sW:bm g val=some y) (al:Take g [y] [bT] g1) (nX:gO bT y')
   (aa:nS y'=some cs') (aw:hL P t cs'.length=true) (ar:bx g1 p=some nd) (fj:nd=.own z n cs\/nd=.obj cs) (hk:k+cs'.length<=cs.length) (aO:0<cs'.length)
   (Ea:∀ t x,g2 t=some x->ch g1 p (nd.eP k cs') t=some x) (sS:∀ t x,g2 t=some x->∀ y,g1 t=some y->j_ (λr=>gP g1 r/\Clear p k cs'.length r/\gP g2 r) y) (mg:∀ t z q n m new,g2 t≠some (.bC z q n m new)) (mM:g2 p.root≠none):bt P N g o g2
 | call {o:Oper}{d:Nat}{g5:aI}(aP:o.dst=some d) (a7:N.ok d=true) (h:hN P N g o d g5):bt P N g o g5
 | Pu {o:Oper}{g2:aI}(h:iv P N g o g2):bt P N g o g2
theorem SE {y:ab}{cs:List ab}(h:sw y) (aa:nS y=some cs):qN cs:=by
 have one:∀ {x:ab},(∀ J,x≠.self J)->qN [x]:=λj k J e=>by
  cases k with
  | zero=>simp only [List.getElem?_cons_zero,Option.some.injEq] at e; exact j J e
  | succ k=>simp at e
 cases y <;> simp only [Go.Own.nS,Option.some.injEq,reduceCtorEq] at aa <;> subst aa
 all_goals first | exact h _ rfl | exact one (by simp)
theorem View.xv {g:aI}{x y:ab}(h:View g x y) (j:sw x):sw y:=by
 intro cs e k J hk;cases h with
 | self=>exact j _ e k J hk
 | agg ai h=>cases e; exact j _ rfl k J (E6 ai h (λ_ _ _=>View.jz) k J hk)
 | _=>cases e
theorem gO.xv {x y:ab}(h:gO x y) (j:sw x):sw y:=by
 intro cs e k J hk;cases h with
 | refl=>exact j _ e k J hk
 | oS _ h=>exact h.xv j _ e k J hk
 | agg ai h=>cases e; exact j _ rfl k J (E6 ai h (λ_ _ _=>gO.jz) k J hk)
 | _=>cases e
section
variable {P:Program}{w:World}{I:a_}{T:Array Value}{g:aI}{Fs:Nat->a_}
theorem Hand.one {y:ab}{v:Value}(aY:R w I (dP w T g) y v cr):Hand w I (fI w T) Fs [y] [v] (λ_=>cr) :=
 ⟨rfl,λk x u j hu=>by
  cases k with
  | zero=>simp at j hu; subst j hu; exact aY.frame (λ_ _=>rfl) (λ_ h=>h) (λ_ _ h=>h.1) λ_ _=>rfl
  | succ k=>simp at j,λ_ _ _ _ _ h=>h.elim,λ_ _ _ _ h=>h.elim,λ_ _ _ h=>h.elim⟩
theorem Hand.JX {ρ:ab->Value->Prop}{y:ab}{v:Value}{dm:Nat->a_}(h:Hand w I ρ Fs [y] [v] dm):R w I ρ y v (dm 0):=h.rel 0 y v rfl rfl
theorem Hand.cells {y:ab}{v:Value}{dm:Nat->a_}(h:Hand w I (fI w T) Fs [y] [v] dm) (aA:cA y) {cs:List ab}(aa:nS y=some cs) :
  ∃ yd,Hand w I (fI w T) Fs cs v.cells.toList yd/\(∀ x∈cs,cA x)/\(∀ (J:Nat) (u:Value),v.cells.toList[J]?=some u->u.oneCell'=true)/\∀ J c,J<cs.length->yd J c->dm 0 c:=by
 have aY:=h.JX;have single:∀ {x:ab},y=x->v.oneCell'=true->∃ yd,Hand w I (fI w T) Fs [x] v.cells.toList yd/\(∀ z∈[x],cA z)/\(∀ (J:Nat) (u:Value),v.cells.toList[J]?=some u->u.oneCell'=true)/\∀ J c,J<[x].length->yd J c->dm 0 c:=by
  rintro x rfl h1;have D7:v.cells=#[v]:=by cases v <;> first | rfl | (simp [Value.oneCell'] at h1)
  grind
 cases y <;> simp only [nS,Option.some.injEq,reduceCtorEq] at aa
 case agg l =>
  subst aa;cases aY with
  | ref j=>simp [ab.isRef] at j
  | @agg _ vs bV _ ai h1 ah aP aG =>
   have e0:∀ k c,k<l.length->bV k c->dm 0 c:=λk c hk aa=>(aG c).2 ⟨k,hk,aa⟩;refine ⟨bV,⟨by simp [Value.cells,ai],λk x u j hu=>ah k x u j (by simpa [Value.cells] using hu),aP,λk t c hk aa=>h.off 0 t c (by simp) (e0 k c hk aa),λk c hk aa=>h.bk 0 c (by simp) (e0 k c hk aa)⟩,?_,λJ u hu=>h1 J u (by simpa [Value.cells] using hu),e0⟩;cases aA with | agg h=>exact h
 case lit a=>subst aa; exact single rfl (by obtain ⟨rfl,h1⟩:=aY.h2; exact h1)
 case aU=>subst aa; exact single rfl (by rw [aY.r2]; rfl)
 case bk z n l=>subst aa; exact single rfl (by obtain ⟨a,cap,rfl,_⟩:=aY.zc; rfl)
 case own z n l=>subst aa; exact single rfl (by obtain ⟨a,cap,rfl,_⟩:=aY.mO; rfl)
 case cJ l=>subst aa; exact single rfl (by obtain ⟨ad,us,rfl,_⟩:=aY.w_; rfl)
 case obj l =>
  subst aa;refine single rfl ?_;cases aY with
  | ref j=>simp [ab.isRef] at j
  | obj=>rfl
 case di f a b =>
  subst aa;refine single rfl ?_;cases aY with
  | ref j=>simp [ab.isRef] at j
  | di=>rfl
theorem jq.nC {I':a_}{ρ:ab->Value->Prop}{x:ab}{v:Value}{F:a_}(h:jq w I ρ x v F) (ba:∀ c,I c->I' c):jq w I' ρ x v F:=by
 cases h with
 | tree h=>exact .tree (h.nC ba)
 | bC h=>exact .bC ⟨h.kf,h.iQ,h.nq,h.ai,h.h1,λk x u j hu=>(h.ah k x u j hu).nC ba,h.aG⟩
theorem Mn {g1:aI}{fH:Nat->a_}{H1:Nat->a_}{bT y':ab}{v:Value}(bh:jr w I T g1 fH) (hH:Hand w I (fI w T) fH [bT] [v] H1) (aA:cA bT) (aT:gO bT y') :
  ∃ (I':a_) (tz:a_),(∀ c,I c->I' c)/\(∀ c,I' c->I c\/H1 0 c)/\jr w I' T g1 fH/\Hand w I' (fI w T) fH [y'] [v] (λ_=>tz)/\∀ c,tz c->H1 0 c:=by
 have aY:=hH.JX;obtain ⟨tz,gw,ku⟩:=R.dN aT aY aA (λc aa=>hH.bk 0 c (by simp) aa) bh.lt bh.gl;refine ⟨λc=>I c\/(H1 0 c/\¬ tz c),tz,λc aa=>.inl aa,λc aa=>aa.elim .inl λh=>.inr h.1,⟨λt x j=>?_,bh.kE,bh.eB,λt c aa hi=>?_,λc aa=>?_,cE.keep bh.gl (λ_ _=>rfl) λ_ h=>.inl h⟩,⟨rfl,λk x u j hu=>?_,λJ k c aj hk _ _=>by simp at aj hk; omega,λk t c hk aa aS=>hH.off 0 t c (by simp) (gw c aa) aS,λk c hk aa hi=>?_⟩,gw⟩
 ·obtain ⟨u,hu,mH⟩:=bh.rel t x j;exact ⟨u,hu,mH.nC λc aa=>.inl aa⟩
 ·rcases hi with h | ⟨h,_⟩
  ·exact bh.bk t c aa h
  ·exact hH.off 0 t c (by simp) h aa
 ·rcases aa with h | ⟨h,_⟩
  ·exact bh.lt c h
  ·exact aY.lt c h
 ·cases k with
  | zero=>simp at j hu; subst j hu; exact ku
  | succ k=>simp at j
 ·rcases hi with h | ⟨_,h⟩
  ·exact hH.bk 0 c (by simp) (gw c aa) h
  ·exact h aa
theorem bt.kd {N:cP}{o:Oper}{g':aI}(he:bt P N g o g'):iv P N g o g':=by
 intro w I T Fs h a aQ a7 K Q c5;cases he with
 | Pu he=>exact he w I T Fs h a aQ a7 K Q c5
 | @call d _ aP jw aa =>
  refine aa w I T Fs h a aQ a7 K Q λb0 w' v I' b1 h1 af aF bu=>c5 b0 w' ⟨h1,by rw [af,<- aQ]; exact hr.put jw _ _,I',b1,by rw [af]; exact aF,bu⟩ λt al=>?_;rw [af,aQ,Array.getElem?_setIfInBounds_ne];rintro rfl;exact al aP
 | @assign d x y bT y' g1 g2 aV aP j al aT hk aK jw =>
  have aY:=k7 h j aQ;obtain ⟨fH,H1,sL,vh,g_⟩:=al.sound h.mo (Hand.one aY);have Bq:cA bT:=al.Ce bT (by simp);obtain ⟨I',tz,nV,Hx,iO,ih,gw⟩:=Mn sL vh Bq aT;have mJ:cA y':=aT.bg Bq;have hY:=iO.keep hk;have ns:=hY.uO (d:=d) (x:=y') (v:=a.eval x) (F:=tz) aK (by rw [<- aQ,a7]; exact cP.lt jw) (.tree (ih.JX.bg mJ)) (λt c aa aS=>ih.off 0 t c (by simp) aa aS.2) (λc aa=>ih.bk 0 c (by simp) aa) (by rintro z p n m new rfl; cases mJ);have h0:(execOp a.eval o).run P w=.ok (.value (a.eval x)) w:=by simp [execOp,aV]
  unfold Oper.wp Oper.upon;simp only [h0];have fw:∀ c,H1 0 c->∃ t,Fs t c:=λc aa=>by
   rcases g_ c (.inr ⟨0,by simp,aa⟩) with fW | ⟨_,_,fW⟩
   ·exact fW
   ·exact fW.elim
  refine c5 _ _ ⟨by rw [aP]; rfl,by rw [aP]; exact hr.put jw _ _,I',_,by rw [aP]; simpa [Act.put,aQ] using ns,⟨Fr.refl _ _,nV,λc aa=>(Hx c aa).elim .inl λh=>.inr (.inl (fw c h)),λc aa=>?_⟩⟩ λt al=>by rw [aP]; simp only [Act.put]; rw [Array.getElem?_setIfInBounds_ne]; rintro rfl; exact al aP
  rcases v' aa with ⟨t,_,aH⟩ | aH
  ·rcases g_ c (.inl ⟨t,aH⟩) with fW | ⟨_,_,fW⟩
   ·exact .inl fW
   ·exact fW.elim
  ·exact .inl (fw c (gw c aH))
 | @RF d x y g2 aV aP j hk ak aK jw =>
  have aY:=k7 h j aQ;have hY:=h.mo.keep hk;have ku:R w I (dP w T g2) y (a.eval x) cr:=(aY.frame (ρ':=fI w T) (λ_ _=>rfl) (λ_ h=>h) (λ_ _ h=>h.1) λ_ _=>rfl).ca ak;have ns:=hY.uO (d:=d) (x:=y) (v:=a.eval x) (F:=cr) aK (by rw [<- aQ,a7]; exact cP.lt jw) (.tree ku) (λ_ _ h=>h.elim) (λ_ h=>h.elim) (by rintro z p n m new rfl; exact ku.k4.elim);have h0:(execOp a.eval o).run P w=.ok (.value (a.eval x)) w:=by simp [execOp,aV]
  unfold Oper.wp Oper.upon;simp only [h0];refine c5 _ _ ⟨by rw [aP]; rfl,by rw [aP]; exact hr.put jw _ _,I,_,by rw [aP]; simpa [Act.put,aQ] using ns,⟨Fr.refl _ _,λ_ h=>h,λ_ h=>.inl h,λc aa=>?_⟩⟩ λt al=>by rw [aP]; simp only [Act.put]; rw [Array.getElem?_setIfInBounds_ne]; rintro rfl; exact al aP
  rcases v' aa with ⟨t,_,aH⟩ | aH
  ·exact .inl ⟨t,aH⟩
  ·exact aH.elim
 | @store t ad val p k z n y bT y' nd cs cs' g1 _ aV aP fo sW al nX aa aw ar fj hk aO Ea sS mg mM =>
  have pn:=k7 h sW aQ;obtain ⟨⟨u,aaJ,hu,vi,nk⟩,_⟩:=(k7 h fo aQ).ny;obtain ⟨fH,H0,sL,vh,HK⟩:=al.sound h.mo (Hand.one pn);have Bq:cA bT:=al.Ce bT (by simp);obtain ⟨I',tz,nV,Hx,iO,ih,Wr⟩:=Mn sL vh Bq nX;have mJ:cA y':=nX.bg Bq;have fw:∀ c,H0 0 c->∃ t,Fs t c:=λc aa=>by
   rcases HK c (.inr ⟨0,by simp,aa⟩) with fW | ⟨_,_,fW⟩
   ·exact fW
   ·exact fW.elim
  have g_:∀ c,la fH 1 (λ_=>tz) c->la Fs [y].length (λ_=>cr) c:=by
   rintro c (⟨t,aa⟩ | ⟨_,_,aa⟩)
   ·exact HK c (.inl ⟨t,aa⟩)
   ·exact .inl (fw c (Wr c aa))
  obtain ⟨yd,MG,H7,gu,Uo⟩:=ih.cells mJ aa;have k4:∀ z q n m new,nd≠.bC z q n m new:=by rcases fj with rfl | rfl <;> simp
  obtain ⟨v,cj,hv,dz,df,_⟩:=iO.part ar k4;rw [hu] at hv;cases hv;obtain ⟨b,gD,av,_⟩:=dz.node fj (List.getElem?_eq_getElem (show k<cs.length by omega));rw [vi] at av;cases av;have lu:∃ e arr,w.heap[b]?=some (.cells arr e (0,0))/\cs.length<=arr.size:=by
   rcases fj with rfl | rfl
   ·cases dz with
    | ref j=>simp [ab.isRef] at j
    | own lQ ai =>
     obtain ⟨kZ,bD⟩:=lQ;rcases bD with ⟨rfl,_⟩ | ⟨dV,cap,cur,rfl,_,j2,xI,vW,zM,xJ⟩
     ·simp [addrOf] at vi
     ·simp only [addrOf,Option.some.injEq,Addr.mk.injEq,and_true] at vi;subst vi;refine ⟨_,cur,j2,?_⟩;rw [ai,<- xJ,List.length_take]; simp; omega
   ·cases dz with
    | ref j=>simp [ab.isRef] at j
    | obj lQ ai =>
     simp only [addrOf,Option.some.injEq,Addr.mk.injEq,and_true] at vi;subst vi;exact ⟨_,_,lQ,by omega⟩
  obtain ⟨e,arr,lu,hle⟩:=lu;obtain ⟨iJ,hY,gw⟩:=iO.store ar fj hk MG H7 (λ_=>SE (nX.xv (al.xv (by simpa using OC sW) bT (by simp))) aa) gu Ea sS mg mM hu vi lu;have ht:(a.eval val).cells.toList.length=cs'.length:=MG.len.symm;have bL:=run_storeCells_at P b k e (a.eval val).cells.toList 0 arr w lu (by omega) (λu hu=>by
   obtain ⟨J,aj,rfl⟩:=List.mem_iff_getElem.1 hu;exact gu J _ (List.getElem?_eq_getElem aj))
  simp only [Nat.add_zero] at bL;have eF:(sizeOf t).run P w=.ok cs'.length w:=by
   unfold hL at aw;cases hi:P.info? t with
   | none=>simp [hi] at aw
   | some i=>simp [hi] at aw; simp [sizeOf,typeInfo,hi,aw]
  have h0:(execOp a.eval o).run P w=.ok .skip (w.setRow b (eP arr.toList k (a.eval val).cells.toList).toArray):=by
   have gT:(a.eval val).cells.size=cs'.length:=by rw [<- Array.length_toList]; exact ht
   simp only [Nat.zero_add] at nk;simp [execOp,aV,nk,Instr.storeAt,Instr.sureAddr,storeVar,eF,gT,bL,eP]
  unfold Oper.wp Oper.upon;simp only [h0];have HW:∃ t,Fs t b:=by
   rcases g_ b (.inl ⟨_,df b (dz.E4 fj (ad:=⟨b,0,none⟩) vi)⟩) with aH | ⟨_,_,aH⟩
   ·exact aH
   ·exact aH.elim
  refine c5 _ _ ⟨by rw [aP]; rfl,by rw [aP]; exact hr.refl,I',iJ,by rw [aP]; simpa [Act.put,aQ] using hY,⟨⟨rfl,rfl,rfl,by simp,λc _ aa=>setRow_other w b c _ (λe=>aa (e ▸ HW)),λa _ _=>DX w b _ a,Nat.le_refl _⟩,nV,λc aa=>(Hx c aa).elim .inl λh=>.inr (.inl (fw c h)),λc ⟨t,aa⟩=>?_⟩⟩ λt _=>by rw [aP]; rfl
  rcases gw t c aa with aH | ⟨J,aj,aH⟩
  ·rcases g_ c (.inl ⟨t,aH⟩) with fW | ⟨_,_,fW⟩
   ·exact .inl fW
   ·exact fW.elim
  ·rcases g_ c (.inr ⟨0,by simp,Uo J c aj aH⟩) with fW | ⟨_,_,fW⟩
   ·exact .inl fW
   ·exact fW.elim
theorem bt.sound (h:cB w I T g Fs) {a:Act}(aQ:a.tmps=T) {N:cP}(a7:a.tmps.size=N.size) {o:Oper}{g':aI}(he:bt P N g o g') {K:Act->World->Prop}{Q:Exit->Act->World->Prop}
  (c5:∀ b0 w',hR N a w I Fs g' b0 w'->K b0 w'):o.wp P a w K Q:=he.kd w I T Fs h a aQ a7 K Q λb0 w' h _=>c5 b0 w' h
end
end Go.Own
namespace Go.Own
open Go
set_option linter.unusedSectionVars false
variable [cE]
def ov (g g':aI):Prop:=∀ t x,g t=some x->g' t=some x
section
variable {P:Program}{g g':aI}
theorem eO (h:ov g g') {x:Operand}{y:ab}(ak:bm g x=some y):bm g' x=some y:=by
 cases x <;> simp only [bm] at ak ⊢
 case tmp t =>
  cases j:g t with
  | none=>rw [j] at ak; cases ak
  | some z=>rw [j] at ak; rw [h t z j]; exact ak
 case const v=>exact ak
 case global n=>exact ak
 case func f=>exact ak
theorem zo (h:ov g g'):∀ {xs:List Operand}{ys:List ab},fB g xs=some ys->fB g' xs=some ys
 | [],_,ak=>ak
 | x::xs,ys,ak=>by
  simp only [fB] at ak ⊢;cases j:bm g x with
  | none=>simp [j] at ak
  | some y =>
   cases q1:fB g xs with
   | none=>simp [j,q1] at ak
   | some C'=>simp only [j,q1] at ak; simp only [eO h j,zo h q1]; exact ak
theorem OP (h:ov g g'):∀ {l:List (Nat × Operand)}{ps:List (Nat × List ab)},q7 g l=some ps->q7 g' l=some ps
 | [],_,ak=>ak
 | (i,x)::l,ps,ak=>by
  simp only [q7] at ak ⊢;cases j:bm g x with
  | none=>simp [j] at ak
  | some y =>
   cases q1:q7 g l with
   | none=>simp [j,q1] at ak
   | some C'=>simp only [j,q1] at ak; simp only [eO h j,OP h q1]; exact ak
theorem pY.mono (h:ov g g') {d:Nat}{x:Option Operand}{J:Nat}(av:pY g d x J):pY g' d x J:=by
 cases x with
 | none=>exact av
 | some o=>obtain ⟨k,hk⟩:=av; exact ⟨k,eO h hk⟩
theorem cR.mono (h:ov g g') {op:Op}{ty:TypeId}{x:ab}(ar:cR P g op ty x):cR P g' op ty x:=by
 cases ar with
 | move j=>exact .move (eO h j)
 | assign j=>exact .assign (eO h j)
 | pick aa ah=>exact .pick (eO h aa) (eO h ah)
 | E3 j=>exact .E3 (eO h j)
 | qt j=>exact .qt (eO h j)
 | AT j aS cY=>exact .AT (eO h j) aS (cY.mono h)
 | DW j aS=>exact .DW (eO h j) aS
 | DV j aS al ak=>exact .DV (eO h j) aS al ak
 | He j aS al hk=>exact .He (eO h j) aS al hk
 | EF j hi al aj=>exact .EF (eO h j) (eO h hi) al aj
 | EE j hi al aj cY=>exact .EE (eO h j) (eO h hi) al aj (cY.mono h)
 | I6 j hi al aj cY=>exact .I6 (eO h j) (eO h hi) al aj (cY.mono h)
 | I5 j hi al aj cY=>exact .I5 (eO h j) (eO h hi) al aj (cY.mono h)
 | I4 j hi al aj=>exact .I4 (eO h j) (eO h hi) al aj
 | ES j al=>exact .ES (eO h j) al
 | ET j al hk=>exact .ET (eO h j) al hk
 | B5 j al ak=>exact .B5 (eO h j) al (kp h ak)
 | xl j al ak aa hm=>exact .xl (eO h j) al (kp h ak) aa hm
 | EG j hi al av=>exact .EG (eO h j) (eO h hi) al av
 | bin j ak hv ah=>exact .bin (eO h j) (eO h ak) hv ah
 | Az j ak hv ah=>exact .Az (eO h j) (eO h ak) hv ah
 | un j hv ah=>exact .un (eO h j) hv ah
 | conv j hv ah=>exact .conv (eO h j) hv ah
 | DJ j ar aA gT al=>exact .DJ (eO h j) (kp h ar) aA gT al
 | DK j al=>exact .DK (eO h j) al
 | @Hb xs gh _ f vs v j hv ah =>
  refine .Hb (vs:=vs) ?_ hv ah;apply List.ext_getElem?;intro k;have:=congrArg (·[k]?) j;simp only [List.getElem?_map] at this ⊢;rw [<- this];cases hk:xs.toList[k]? with
  | none=>rfl
  | some o =>
   rw [hk] at this;cases hv:vs[k]? with
   | none=>rw [hv] at this; cases this
   | some v =>
    rw [hv] at this;simp only [Option.map_some,Option.some.injEq] at this ⊢;rw [this,eO h this]
 | DP j ak=>exact .DP (eO h j) ak
 | zR j ai bD al h1 af=>exact .zR (eO h j) (ai.mono h) (bD.mono h) al h1 af
 | Kd j ai bD al aA cY=>exact .Kd (eO h j) (ai.mono h) (bD.mono h) al aA (cY.mono h)
 | FB j ai bD al h1 af cY=>exact .FB (eO h j) (ai.mono h) (bD.mono h) al h1 af (cY.mono h)
 | zS j ai bD al h1 af=>exact .zS (eO h j) (ai.mono h) (bD.mono h) al h1 af
 | B2 j al=>exact .B2 (eO h j) al
 | B1 j al=>exact .B1 (eO h j) al
 | Jl j al=>exact .Jl (eO h j) al
 | Jk j al=>exact .Jk (eO h j) al
 | Jn j ar ak c5 aY ah=>exact .Jn (eO h j) (kp h ar) (eO h ak) c5 aY ah
 | B4 j ak c5 aY ah=>exact .B4 (eO h j) (eO h ak) c5 aY ah
 | @lits b xs gh _ vs v j hv ah =>
  refine .lits (vs:=vs) ?_ hv ah;clear ah;generalize xs.toList=l at j
  induction l generalizing vs with
  | nil=>exact j
  | cons x l aL =>
   cases vs with
   | nil=>simp at j
   | cons v vs =>
    simp only [List.map_cons,List.cons.injEq] at j ⊢;exact ⟨eO h j.1,aL j.2⟩
theorem o'.mono (h:ov g g') {op:Op}{ty:TypeId}{x:ab}(ar:o' P g op ty x):o' P g' op ty x:=by
 cases ar with
 | box j aa=>exact .box (eO h j) aa
 | alloc aT h1=>exact .alloc aT h1
 | Dx aT aa=>exact .Dx aT aa
 | makeMap a6=>exact .makeMap a6
 | buildSlice al ar j aT aa av aA hzero=>exact .buildSlice al ar (zo h j) aT aa av aA hzero
 | makeSlice al j ak hzero h1 oR av aA oN uz ED=>exact .makeSlice al (eO h j) (eO h ak) hzero h1 oR av aA oN uz ED
theorem u4.mono (h:ov g g') {op:Op}{ty:TypeId}{x:ab}(ar:u4 P g op ty x):u4 P g' op ty x:=by
 cases ar with
 | build al aT h1 ar aa=>exact .build al aT h1 (OP h ar) aa
 | makeFunc aQ av=>exact .makeFunc (zo h aQ) (zo h av)
theorem Src.mono (h:ov g g') {y:ab}{z m:Nat}{cells:List ab}(aw:Src g y z m cells):Src g' y z m cells:=by
 cases aw with
 | bk=>exact .bk
 | aU=>exact .aU
 | bl a6 hm=>exact .bl (kp h a6) hm
 | sub a6 hm=>exact .sub (kp h a6) hm
theorem b5.mono (h:ov g g') {op:Op}{ty:TypeId}{x:ab}(ar:b5 P g op ty x) (e8:∀ z p n m new,x=.bC z p n m new->∀ t br cf bd cO,g' t≠some (.bC br p cf bd cO)):b5 P g' op ty x:=by
 cases ar with
 | eJ ar=>exact .eJ (ar.mono h)
 | q6 ar=>exact .q6 (ar.mono h)
 | Cj ar=>exact .Cj (ar.mono h)
 | lD ar =>
  cases ar with
  | grow aw cY _ j rU al nc av=>exact .lD (.grow (eO h aw) (cY.mono h) (e8 _ _ _ _ _ rfl) (eO h j) (rU.mono h) al nc av)
  | nil aw j rU al nc av=>exact .lD (.nil (eO h aw) (eO h j) (rU.mono h) al nc av)
theorem View.mono (h:ov g g') {x y:ab}(hv:View g x y):View g' x y:=by
 induction hv with
 | qt=>exact .qt
 | self h1 af aF bu ct dJ=>exact .self h1 af aF bu ct dJ
 | mp=>exact .mp
 | hf ar=>exact .hf (kp h ar)
 | agg ai _ aL=>exact .agg ai aL
 | own ai _ aL=>exact .own ai aL
 | obj ai _ aL=>exact .obj ai aL
 | di ai _ aL=>exact .di ai aL
 | bl ar aA ai _ aL=>exact .bl (kp h ar) aA ai aL
 | sub ar aA ai _ aL=>exact .sub (kp h ar) aA ai aL
 | ptr ar ak hk ai _ aL=>exact .ptr (kp h ar) ak hk ai aL
 | rows ar ai _ aL=>exact .rows (ar.mono (λar=>kp h ar) h) ai aL
theorem dd.mono (h:ov g g') {op:Op}{x:ab}(ar:dd P g op x):dd P g' op x:=by
 cases ar with
 | plain aa j aS aA gS ah=>exact .plain (eO h aa) (zo h j) aS aA gS ah
 | EO aa j aS ai hv gS ah=>exact .EO (eO h aa) (zo h j) aS ai (λk x y j ak=>(hv k x y j ak).mono h) gS ah
def ic (g:aI) (ops:Array Oper) (o:Oper) (b:Bool):Prop :=
 match o.guard with
 | none=>b=true
 | some (J,want)=>∃ t,(ops[J]?).bind (·.dst)=some t/\((∃ c,g t=some (.lit (.bool c))/\b=(c == want))\/(g t=some (.bJ [])/\b=false))
theorem ic.mono (h:ov g g') {ops:Array Oper}{o:Oper}{b:Bool}(hw:ic g ops o b):ic g' ops o b:=by
 unfold ic at *;split
 ·rename_i aK; rw [aK] at hw; exact hw
 ·rename_i J want aK;rw [aK] at hw;obtain ⟨t,h1,⟨c,af,aF⟩ | ⟨af,aF⟩⟩:=hw
  ·exact ⟨t,h1,.inl ⟨c,h t _ af,aF⟩⟩
  ·exact ⟨t,h1,.inr ⟨h t _ af,aF⟩⟩
theorem ic.sound {w:World}{I:a_}{T:Array Value}{Fs:Nat->a_}(bh:cB w I T g Fs) {ops:Array Oper}{o:Oper}{b:Bool}(hw:ic g ops o b):Region.wanted o (yielded ops T)=b:=by
 unfold ic at hw;unfold Region.wanted
 split at hw
 ·rename_i aK; rw [aK]; exact hw.symm
 ·rename_i J want aK;rw [aK];obtain ⟨t,h1,⟨c,af,aF⟩ | ⟨af,aF⟩⟩:=hw
  ·obtain ⟨v,hv,aY⟩:=bh.rel _ _ af;have:=(aY.gV (by simp)).h2.1;subst this;subst aF;simp only [yielded,h1,Option.bind_some,hv];cases c <;> cases want <;> rfl
  ·obtain ⟨v,hv,aY⟩:=bh.rel _ _ af;have:∃ vs,v=.tuple vs:=by
    cases aY.gV (by simp) with
    | bJ=>exact ⟨_,rfl⟩
    | ref j=>simp [ab.isRef] at j
   obtain ⟨vs,rfl⟩:=this;subst aF;simp only [yielded,h1,Option.bind_some,hv];cases want <;> rfl
def p2 (P:Program) (g:aI) (ops:Array Oper) (o:Oper):Option ab->Prop
 | none=>ic g ops o false
 | some x=>(ic g ops o true/\(b5 P g o.op o.type x\/dd P g o.op x))\/(ic g ops o false/\x=.bJ [])\/(ic g ops o true/\∃ y,(b5 P g o.op o.type y\/dd P g o.op y)/\cA y/\View (λ_=>none) y x)
theorem p2.mono (h:ov g g') {ops:Array Oper}{o:Oper}{r:Option ab}(aw:p2 P g ops o r) (e8:∀ z p n m new,r=some (.bC z p n m new)->∀ t br cf bd cO,g' t≠some (.bC br p cf bd cO)):p2 P g' ops o r:=by
 cases r with
 | none=>exact ic.mono h aw
 | some x =>
  rcases aw with aw | ⟨aw,j⟩ | ⟨aw,y,ar,aA,hv⟩
  ·refine .inl ⟨aw.1.mono h,?_⟩;rcases aw.2 with ar | ar
   ·exact .inl (ar.mono h λz p n m new e=>e8 z p n m new (by rw [e]))
   ·exact .inr (ar.mono h)
  ·exact .inr (.inl ⟨aw.mono h,j⟩)
  ·refine .inr (.inr ⟨aw.mono h,y,?_,aA,hv⟩);rcases ar with ar | ar
   ·exact .inl (ar.mono h λz p n m new e=>by subst e; cases aA)
   ·exact .inr (ar.mono h)
def leaf:ab->Bool
 | .own .. | .obj .. | .agg .. | .bJ .. | .bC .. | .mp .. | .eY ..=>false
 | _=>true
def del (g:aI) (d:Nat):aI:=λt=>if t=d then none else g t
theorem XE {x y:ab}(h:leaf x=true):∀ {q:List Nat},x.at q=some y->y=x
 | [],ak=>by simpa [ab.at] using ak.symm
 | k::q,ak=>by
  have:x.kids=[]:=by cases x <;> first | rfl | simp [leaf] at h
  simp [ab.at,this] at ak
theorem yA {d:Nat}{x:ab}(aP:g d=some x) (ai:leaf x=true) {p:Place}{y:ab}(ar:bx g p=some y) (ak:leaf y=false):bx (del g d) p=some y:=by
 have ah:p.root≠d:=by
  intro e;unfold bx at ar;rw [e,aP] at ar;rw [XE ai ar,ai] at ak;cases ak
 simp only [bx,del,if_neg ah] at ar ⊢;exact ar
theorem gP.del {d:Nat}{x:ab}(aP:g d=some x) (ai:leaf x=true) {r:ab}(h:gP g r):gP (del g d) r:=by
 have root:∀ {t:Nat}{y:ab},g t=some y->leaf y=false->Own.del g d t=some y:=by
  intro t y al ak;have:t≠d:=by
   rintro rfl;rw [aP] at al;cases al;rw [ai] at ak; cases ak
  simp only [Own.del,if_neg this,al]
 cases r <;> simp only [gP] at h ⊢
 case ptr p k =>
  obtain ⟨y,ak,z,n,cs,ew,hk⟩:=h;exact ⟨y,yA aP ai ak (by rcases ew with rfl | rfl <;> rfl),z,n,cs,ew,hk⟩
 case bl z p n =>
  rcases h with ⟨N,cs,ak,aA⟩ | ⟨h1,q,gL,m,new,af,aF⟩
  ·exact .inl ⟨N,cs,yA aP ai ak rfl,aA⟩
  ·exact .inr ⟨h1,q,gL,m,new,root af rfl,aF⟩
 case sub z p lo n =>
  obtain ⟨N,cs,ak,aA⟩:=h;exact ⟨N,cs,yA aP ai ak rfl,aA⟩
 case hf p=>obtain ⟨q,h⟩:=h; exact ⟨q,yA aP ai h rfl⟩
 case bC z p n m new =>
  rcases h with ⟨cs,ak⟩ | ⟨h1,q,gL,m,new,cs,af,aF,bu⟩
  ·exact .inl ⟨cs,yA aP ai ak rfl⟩
  ·exact .inr ⟨h1,q,gL,m,new,cs,root af rfl,aF,yA aP ai bu rfl⟩
theorem R.XD {w:World}{I:a_}{ρ:ab->Value->Prop}{x:ab}{v:Value}{F:a_}(h:R w I ρ x v F) (ai:leaf x=true):∀ c,¬ F c:=by
 cases h with
 | own | obj | agg | bJ | mp | eY=>simp [leaf] at ai
 | lit _ aG | aU aG | dead aG | l1 aG | ref _ _ aG | hn aG | bk aG | cJ aG | di aG | imp aG=>exact aG
theorem cB.drop {w:World}{I:a_}{T:Array Value}{Fs:Nat->a_}(h:cB w I T g Fs) {d:Nat}{x:ab}(aP:g d=some x) (ai:leaf x=true):cB w I T (del g d) Fs:=by
 refine ⟨λt y ak=>?_,λt al c aa=>?_,h.eB,h.bk,h.lt,λt t' z p n m new br cf bd cO h1 af=>?_,h.gl⟩
 ·have nw:g t=some y:=by
   unfold del at ak
   split at ak
   ·cases ak
   ·exact ak
  obtain ⟨v,hv,aY⟩:=h.rel t y nw;exact ⟨v,hv,aY.frame (λ_ _=>rfl) (λ_ h=>h) (λ_ _ ah=>⟨ah.1,ah.2.del aP ai⟩) (λ_ _ _ _ _ _ _=>rfl) λ_ _=>rfl⟩
 ·unfold del at al
  split at al
  ·rename_i e;subst e;obtain ⟨v,hv,aY⟩:=h.rel t x aP;exact (aY.gV (by rintro z p n m new rfl; simp [leaf] at ai)).XD ai c aa
  ·exact h.kE t al c aa
 ·have key:∀ {t:Nat}{y:ab},del g d t=some y->g t=some y:=by
   intro t y ak;unfold del at ak
   split at ak
   ·cases ak
   ·exact ak
  exact h.ra _ _ _ _ _ _ _ _ _ _ _ (key h1) (key af)
end
end Go.Own
namespace Go.Own
open Go
set_option linter.unusedSectionVars false
variable [cE]
def xH (g:aI) (d:Nat):Option ab->aI
 | some x=>cH g d x
 | none=>g
section
variable {P:Program}{w:World}{I:a_}{T:Array Value}{g:aI}{Fs:Nat->a_}{N:cP}{ops:Array Oper}
theorem kR.refl (w:World) (I U:a_):kR w I U w I U:=⟨Fr.refl _ _,λ_ h=>h,λ_ h=>.inl h,λ_ h=>.inl h⟩
theorem kR.trans {w gm fi:World}{I Ai Df U yw K9:a_}(h:kR w I U gm Ai yw) (h1:kR gm Ai yw fi Df K9):kR w I U fi Df K9:=by
 have jA:∀ c,c<w.heap.size->yw c->U c:=λc aa hu=>by
  rcases h.own c hu with aH | aH
  ·exact aH
  ·omega
 refine ⟨h.ek.trans h1.ek jA,λc aa=>h1.more c (h.more c aa),λc aa=>?_,λc aa=>?_⟩
 ·rcases h1.new c aa with aH | aH | aH
  ·exact h.new c aH
  ·rcases h.own c aH with fW | fW
   ·exact .inr (.inl fW)
   ·exact .inr (.inr fW)
  ·exact .inr (.inr (Nat.le_trans h.ek.size aH))
 ·rcases h1.own c aa with aH | aH
  ·exact h.own c aH
  ·exact .inr (Nat.le_trans h.ek.size aH)
theorem hR.trans {N:cP}{a aB a2:Act}{gm fi:World}{Ai:a_}{fH:Nat->a_}{g2:aI}(h1:aB.defers=a.defers) (af:hr N a.tmps aB.tmps) (bL:kR w I (λc=>∃ t,Fs t c) gm Ai (λc=>∃ t,fH t c)) (h:hR N aB gm Ai fH g2 a2 fi):hR N a w I Fs g2 a2 fi:=by
 obtain ⟨b2,bZ,Df,iJ,bh,oP⟩:=h;exact ⟨b2.trans h1,af.trans bZ,Df,iJ,bh,bL.trans oP⟩
theorem cB.YN (h:cB w I T g Fs) {d:Nat}(aP:g d=none) (v:Value):cB w I (T.setIfInBounds d v) g Fs:=by
 have cX:∀ t,g t≠none->(T.setIfInBounds d v)[t]?=T[t]?:=by
  intro t al;rw [Array.getElem?_setIfInBounds_ne];rintro rfl; exact al aP
 refine ⟨λt x j=>?_,h.kE,h.eB,h.bk,h.lt,h.ra,h.gl⟩;obtain ⟨u,hu,aY⟩:=h.rel t x j;exact ⟨u,by rw [cX t (by rw [j]; simp)]; exact hu,h.wL cX (λ_ _ _=>rfl) (λ_ _=>rfl) (λ_ h=>h) (λ_ _ h=>h) aY λ_ _=>rfl⟩
structure Ge (dN:Nat->Bool) (g g2:aI):Prop where
 jA:∀ t x,g2 t=some x->dN t=false->g t=some x/\et g2 x
 oS:∀ t x,g2 t=some x->dN t=true->∃ y,g t=some y/\cA y/\gO y x
 fk:∀ t z q n m new,g2 t≠some (.bC z q n m new)
theorem cB.vd (h:cB w I T g Fs) {dN:Nat->Bool}{g2:aI}(aT:Ge dN g g2):∃ I' b1,cB w I' T g2 b1/\kR w I (λc=>∃ t,Fs t c) w I' (λc=>∃ t,b1 t c):=by
 have qU:=h.mo;have Cd:∀ t x,g2 t=some x->∀ z p n m new,x≠.bC z p n m new:=by
  rintro t x j z p n m new rfl;exact aT.fk _ _ _ _ _ _ j
 -- of each slot what it owns from now on
 have:∀ t,∃ cV:a_,(∀ c,cV c->Fs t c/\g2 t≠none)/\∀ x,g2 t=some x->(dN t=false->∀ c,Fs t c->cV c)/\∃ v,T[t]?=some v/\R w (λc=>I c\/(Fs t c/\¬ cV c)) (dP w T g2) x v cV:=by
  intro t;cases j:g2 t with
  | none=>exact ⟨cr,λ_ h=>h.elim,λx h=>by cases h⟩
  | some x =>
   cases al:dN t with
   | false =>
    obtain ⟨h1,af⟩:=aT.jA t x j al;obtain ⟨v,hv,aY⟩:=qU.rel t x h1;refine ⟨Fs t,λc aa=>⟨aa,by simp⟩,λy ak=>?_⟩;cases ak;exact ⟨λ_ _ h=>h,v,hv,((aY.gV (Cd t x j)).ca af).nC λc aa=>.inl aa⟩
   | true =>
    obtain ⟨y,h1,af,aF⟩:=aT.oS t x j al;obtain ⟨v,hv,aY⟩:=qU.rel t y h1;have ku:=aY.gV (by rintro z p n m new rfl; cases af);obtain ⟨cV,aw,UD⟩:=R.dN aF ku af (λc aa=>qU.bk t c aa) qU.lt qU.gl;refine ⟨cV,λc aa=>⟨aw c aa,by simp⟩,λz aT=>?_⟩;cases aT;exact ⟨λh=>absurd h (by simp),v,hv,UD.bg (aF.bg af)⟩
 obtain ⟨b1,jg⟩:=Classical.axiomOfChoice this;refine ⟨λc=>I c\/∃ t,Fs t c/\g2 t≠none/\¬ b1 t c,b1,⟨λt x j=>?_,λt al c aa=>((jg t).1 c aa).2 al,λt t' c aa e7=>h.eB t t' c ((jg t).1 c aa).1 ((jg t').1 c e7).1,λt c aa hi=>?_,λc aa=>?_,λt t' z p n m new br cf bd cO h1 _=>absurd h1 (aT.fk _ _ _ _ _ _),cE.keep h.gl (λ_ _=>rfl) λ_ h=>.inl h⟩,Fr.refl _ _,λ_ h=>.inl h,λc aa=>?_,λc ⟨t,aa⟩=>.inl ⟨t,((jg t).1 c aa).1⟩⟩
 ·obtain ⟨_,v,hv,aY⟩:=(jg t).2 x j;exact ⟨v,hv,.tree (aY.nC λc aa=>aa.elim .inl λaa=>.inr ⟨t,aa.1,by rw [j]; simp,aa.2⟩)⟩
 ·rcases hi with aH | ⟨s,h1,_,af⟩
  ·exact h.bk t c ((jg t).1 c aa).1 aH
  ·have:=h.eB t s c ((jg t).1 c aa).1 h1;subst this;exact af aa
 ·rcases aa with aH | ⟨s,aH,_⟩
  ·exact h.lt c aH
  ·exact h.jJ s c aH
 ·rcases aa with aH | ⟨s,aH,_⟩
  ·exact .inl aH
  ·exact .inr (.inl ⟨s,aH⟩)
theorem p2.sound (h:cB w I T g Fs) {a:Act}(aQ:a.tmps=T) (a7:a.tmps.size=N.size) {o:Oper}{r:Option ab}{d:Nat}(aw:p2 P g ops o r) (aP:o.dst=some d) (aK:g d=none) (jw:N.ok d=true) {K:Act->World->Prop}{Q:Exit->Act->World->Prop}
  (c5:∀ b0 w',hR N a w I Fs (xH g d r) b0 w'->K b0 w') :
  if Region.wanted o (yielded ops a.tmps) then o.wp P a w K Q\/(o.asks P a w/\LetsOut Q) else K (a.put o.dst undef) w:=by
 subst aQ;cases r with
 | none =>
  rw [ic.sound h aw];simp only [Bool.false_eq_true,if_false];refine c5 _ _ ⟨by rw [aP]; rfl,by rw [aP]; exact hr.put jw _ _,I,Fs,by rw [aP]; exact h.YN aK _,kR.refl _ _ _⟩
 | some x =>
  have fin:∀ x v w',u2 w I a.tmps g Fs x v w'->(∀ b0 w',hR N a w I Fs (cH g d x) b0 w'->K b0 w')->K (a.put o.dst v) w':=by
   rintro x v w' ⟨F,I',bh,aY,h1,af,aF,bu,ct,dJ⟩ c5;refine c5 _ _ ⟨by rw [aP]; rfl,by rw [aP]; exact hr.put jw _ _,I',_,by rw [aP]; exact bh.uO aK (by rw [a7]; exact cP.lt jw) aY (λt c aa aS=>h1 t c aa aS) (λc aa=>(af c aa).2) dJ,⟨ct,aF,λc aa=>?_,λc aa=>?_⟩⟩
   ·rcases bu c aa with aH | aH
    ·exact .inl aH
    ·exact .inr (.inr aH)
   ·rcases v' aa with aH | aH
    ·exact .inl aH
    ·exact .inr (af c aH).1
  have oS:∀ y v w',cA y->View (λ_=>none) y x->u2 w I a.tmps g Fs y v w'->u2 w I a.tmps g Fs x v w':=by
   rintro y v w' aA hv ⟨F,I',bh,aY,h1,af,aF,bu,ct,dJ⟩;have dz:=aY.gV (by rintro z p n m new rfl; cases aA);refine ⟨cr,λc=>I' c\/F c,⟨λt z aT=>?_,bh.kE,bh.eB,λt c aa hi=>?_,λc aa=>?_,bh.ra,cE.keep bh.gl (λ_ _=>rfl) λ_ h=>.inl h⟩,.tree (dz.oS aA hv (λc aa=>(af c aa).2) bh.lt bh.gl),λ_ _ h=>h.elim,λ_ h=>h.elim,λc aa=>.inl (aF c aa),λc aa=>?_,ct,?_⟩
   ·obtain ⟨u,hu,mH⟩:=bh.rel t z aT;exact ⟨u,hu,mH.nC λc aa=>.inl aa⟩
   ·rcases hi with h | h
    ·exact bh.bk t c aa h
    ·exact h1 t c h aa
   ·rcases aa with h | h
    ·exact bh.lt c h
    ·exact dz.lt c h
   ·rcases aa with h | h
    ·exact bu c h
    ·exact .inr (af c h).1
   ·rintro z p n m new rfl;cases hv with
    | self h=>cases h
  rcases aw with aw | ⟨aw,rfl⟩ | ⟨aw,y,ar,aA,hv⟩
  rotate_left
  rotate_left
  ·rw [ic.sound h aw];simp only [if_true];refine .inl ?_;have Ml:∀ v w',u2 w I a.tmps g Fs y v w'->K (a.put o.dst v) w':=λv w' c9=>fin x v w' (oS y v w' aA hv c9) c5;rcases ar with ar | ar
   ·obtain ⟨v,w',h0,c9⟩:=ar.sound h rfl;unfold Oper.wp Oper.upon;simp only [h0];exact Ml v w' c9
   ·exact ar.sound h rfl Ml
  rotate_left
  ·rw [ic.sound h aw];simp only [Bool.false_eq_true,if_false];refine c5 _ _ ⟨by rw [aP]; rfl,by rw [aP]; exact hr.put jw _ _,I,_,by rw [aP]; exact h.uO aK (by rw [a7]; exact cP.lt jw) (.tree (.bJ (Fs:=λ_=>cr) (F:=cr) rfl (λk x u j _=>by simp at j) (λ_ _ _ _ _ h=>h.elim) (λc=>⟨λh=>h.elim,λ⟨_,_,h⟩=>h⟩))) (λ_ _ h=>h.elim) (λ_ h=>h.elim) (λ_ _ _ _ _ e=>by cases e),⟨Fr.refl _ _,λ_ h=>h,λ_ h=>.inl h,λc aa=>?_⟩⟩;rcases v' aa with aH | aH
   ·exact .inl aH
   ·exact aH.elim
  rw [ic.sound h aw.1];simp only [if_true];refine .inl ?_;have fin:∀ v w',u2 w I a.tmps g Fs x v w'->K (a.put o.dst v) w':=by
   rintro v w' ⟨F,I',bh,aY,h1,af,aF,bu,ct,dJ⟩;refine c5 _ _ ⟨by rw [aP]; rfl,by rw [aP]; exact hr.put jw _ _,I',_,by rw [aP]; exact bh.uO aK (by rw [a7]; exact cP.lt jw) aY (λt c aa aS=>h1 t c aa aS) (λc aa=>(af c aa).2) dJ,⟨ct,aF,λc aa=>?_,λc aa=>?_⟩⟩
   ·rcases bu c aa with aH | aH
    ·exact .inl aH
    ·exact .inr (.inr aH)
   ·rcases v' aa with aH | aH
    ·exact .inl aH
    ·exact .inr (af c aH).1
  rcases aw.2 with ar | ar
  ·obtain ⟨v,w',h0,c9⟩:=ar.sound h rfl;unfold Oper.wp Oper.upon;simp only [h0];exact fin v w' c9
  ·exact ar.sound h rfl fin
inductive ox (P:Program) (N:cP) (ops:Array Oper):List Nat->aI->aI->Prop
 | nil {g:aI}:ox P N ops [] g g
 | step {i:Nat}{rest:List Nat}{g g':aI}{o:Oper}{d:Nat}{r:Option ab}(aV:ops[i]?=some o) (aP:o.dst=some d) (aK:g d=none) (jw:N.ok d=true) (aw:p2 P g ops o r)
   (ah:ox P N ops rest (xH g d r) g'):ox P N ops (i::rest) g g'
 | kd {i:Nat}{rest:List Nat}{g g1 g':aI}{o:Oper}(aV:ops[i]?=some o) (hw:ic g ops o true) (he:bt P N g o g1) (ah:ox P N ops rest g1 g'):ox P N ops (i::rest) g g'
 | drop {is:List Nat}{g g':aI}{d:Nat}{x:ab}(aP:g d=some x) (ai:leaf x=true) (ah:ox P N ops is (del g d) g'):ox P N ops is g g'
 | forget {is:List Nat}{g g1 g':aI}(hk:hh g g1) (ah:ox P N ops is g1 g'):ox P N ops is g g'
 | vd {is:List Nat}{g g1 g':aI}{dN:Nat->Bool}(hk:Ge dN g g1) (ah:ox P N ops is g1 g'):ox P N ops is g g'
theorem ox.sound {is:List Nat}{g':aI}(ah:ox P N ops is g g'):∀ {a:Act}{w:World}{I:a_}{Fs:Nat->a_}{Q:Exit->Act->World->Prop},cB w I a.tmps g Fs->a.tmps.size=N.size ->
  (∀ b0 w',hR N a w I Fs g' b0 w'->Q .normal b0 w')->wpOps P ops Q is a w:=by
 induction ah with
 | nil=>exact λbh a7 dy=>dy _ _ ⟨rfl,hr.refl,_,_,bh,kR.refl _ _ _⟩
 | @step i rest g g' o d r aV aP aK jw aw _ aL =>
  intro a w I Fs Q bh a7 dy;simp only [wpOps,aV];refine aw.sound bh rfl a7 aP aK jw λb0 w' aA=>?_;obtain ⟨b2,bZ,I',b1,dX,bL⟩:=aA;exact aL dX (bZ.1.trans a7) λa2 fi af=>dy _ _ (hR.trans b2 bZ bL af)
 | @kd i rest g g1 g' o aV hw he _ aL =>
  intro a w I Fs Q bh a7 dy;simp only [wpOps,aV,hw.sound bh,if_true];refine .inl (he.sound bh rfl a7 λb0 w' aA=>?_);obtain ⟨b2,bZ,I',b1,dX,bL⟩:=aA;exact aL dX (bZ.1.trans a7) λa2 fi af=>dy _ _ (hR.trans b2 bZ bL af)
 | @drop is g g' d x aP ai _ aL=>exact λbh a7 dy=>aL (bh.drop aP ai) a7 dy
 | @vd is g g1 g' dN hk _ aL =>
  intro a w I Fs Q bh a7 dy;obtain ⟨I',b1,dX,bL⟩:=bh.vd hk;exact aL dX a7 λa2 fi af=>dy _ _ (hR.trans rfl hr.refl bL af)
 | @forget is g g1 g' hk _ aL =>
  intro a w I Fs Q bh a7 dy;have dX:=bh.mo.keep hk;refine aL dX a7 λa2 fi af=>dy _ _ (hR.trans rfl hr.refl ⟨Fr.refl _ _,λ_ h=>h,λ_ h=>.inl h,λc aa=>?_⟩ af);obtain ⟨t,_,aa⟩:=aa;exact .inl ⟨t,aa⟩
end
end Go.Own
namespace Go.Own
open Go
set_option linter.unusedSectionVars false
variable [cE]
def se (rs:List Nat):Place->Prop:=λp=>p.root∈rs
def o6 (P:Program) (N:cP) (rs:Place->Prop) (g:aI) (o:Oper) (g':aI):Prop :=
 ∀ (w:World) (I:a_) (T:Array Value) (Fs:Nat->a_),cB w I T g Fs->∀ (a:Act),a.tmps=T->a.tmps.size=N.size->∀ (K:Act->World->Prop) (Q:Exit->Act->World->Prop),
  (∀ (b0:Act) (w':World),hR N a w I Fs g' b0 w'->(∀ t,o.dst≠some t->b0.tmps[t]?=a.tmps[t]?)->(∀ r path,rs ⟨r,path⟩->∀ y,bx g ⟨r,path⟩=some y->(∀ z q n m new,y≠.bC z q n m new)->dS w' b0.tmps ⟨r,path⟩=dS w T ⟨r,path⟩)->K b0 w')->o.wp P a w K Q
theorem iv.v {P:Program}{N:cP}{g g':aI}{o:Oper}(h:iv P N g o g'):o6 P N (se []) g o g' :=
 λw I T Fs bh a aQ a7 K Q c5=>h w I T Fs bh a aQ a7 K Q λb0 w' h1 af=>c5 b0 w' h1 af λ_ _ h=>by simp [se] at h
inductive Pl:ab->Prop
 | lit {v:Value}:Pl (.lit v)
 | aU:Pl .aU
 | bk {z n:Nat}{cs:List ab}(h:∀ x∈cs,cA x):Pl (.bk z n cs)
 | agg {cs:List ab}(h:∀ x∈cs,Pl x):Pl (.agg cs)
theorem Pl.bg {x:ab}(h:Pl x):cA x:=by
 induction h with
 | lit=>exact .lit
 | aU=>exact .aU
 | bk h=>exact .bk h
 | agg _ aL=>exact .agg aL
theorem Pl.kE {w:World}{I:a_}{ρ:ab->Value->Prop}{x:ab}(h:Pl x):∀ {v:Value}{F:a_},R w I ρ x v F->∀ c,¬ F c:=by
 induction h with
 | lit =>
  intro v F aY;cases aY with
  | lit _ aG=>exact aG
  | ref j=>simp [ab.isRef] at j
 | aU =>
  intro v F aY;cases aY with
  | aU aG=>exact aG
  | ref j=>simp [ab.isRef] at j
 | bk =>
  intro v F aY;cases aY with
  | ref j=>simp [ab.isRef] at j
  | hn aG=>exact aG
  | bk aG=>exact aG
 | @agg cs _ aL =>
  intro v F aY c aa;cases aY with
  | ref j=>simp [ab.isRef] at j
  | @agg _ vs bV _ ai h1 ah aP lN =>
   obtain ⟨k,hk,af⟩:=(lN c).1 aa;have hu:vs[k]?=some (vs[k]'(by omega)):=Array.getElem?_eq_getElem (by omega);exact aL _ (List.getElem_mem hk) (ah k _ _ (List.getElem?_eq_getElem hk) hu) c af
structure F_ (g:aI):Prop where
 ca:∀ t x,g t=some x->et g x
 fk:∀ t z q n m new,g t≠some (.bC z q n m new)
def Ap (rs:Place->Prop) (g g1:aI) (o:Oper) (x:ab):Prop:=(∃ r path z n N cs,x=.bl z ⟨r,path⟩ n/\rs ⟨r,path⟩/\bx g ⟨r,path⟩=some (.own z N cs)/\bx g1 ⟨r,path⟩=some (.own z N cs)/\n<=N)\/(∃ v,x=.lit v)\/(∃ s p k,x=.ptr p k/\g s=some x/\g1 s=some x/\o.dst≠some s)\/(∃ r k cs,x=.ptr ⟨r,[]⟩ k/\g1 r=some (.obj cs)/\k<cs.length/\o.dst≠some r/\∃ cs',g r=some (.obj cs')/\k<cs'.length)\/(∃ z n cs,x=.bk z n cs/\cA x)\/(∃ cs,x=.agg cs/\Pl x/\F_ g)
section
variable {P:Program}{N:cP}{g g1:aI}{o:Oper}
theorem PA {T:Array Value}{t:Nat}{v:Value}(h:T[t]?=some v):T.setIfInBounds t v=T:=by
 apply Array.ext (by simp);intro i h1 af;rw [Array.getElem_setIfInBounds];split
 ·rename_i e;subst e;have:=(Array.getElem?_eq_some_iff.1 h);exact this.2.symm
 ·rfl
theorem cB.Te {w:World}{I:a_}{T:Array Value}{Fs:Nat->a_}{t:Nat}{x:ab}(h:cB w I T (cH g t x) Fs) (aK:g t=none) (aa:F_ g) (ke:∀ c,¬ Fs t c):cB w I T g Fs:=by
 have gw:∀ s y,g s=some y->cH g t x s=some y:=λs y aw=>by
  unfold cH;rw [if_neg (λe=>by rw [e,aK] at aw; cases aw)]; exact aw
 have af:=h.mo.keep (g2:=g) ⟨gw,aa.ca,aa.fk⟩;have e:(λs c=>g s≠none/\Fs s c)=Fs:=by
  funext s c;apply propext;refine ⟨λh=>h.2,λaS=>⟨λaA=>?_,aS⟩⟩;by_cases aw:s=t
  ·subst aw; exact ke c aS
  ·exact h.kE s (by unfold cH; rw [if_neg aw]; exact aA) c aS
 rw [e] at af;exact af
theorem o6.extra {rs:Place->Prop}(h:o6 P N rs g o g1) {t:Nat}{x:ab}(lR:∀ p,rs p->g p.root≠none) (aK:g t=none) (VA:g1 t=none) (al:o.dst≠some t) (j:Ap rs g g1 o x):o6 P N rs (cH g t x) o (cH g1 t x):=by
 intro w I T Fs bh a aQ a7 K Q c5;have IF:cH g t x t=some x:=by simp [cH]
 have mg:∀ z q n m new,x≠.bC z q n m new:=by
  rcases j with ⟨r,path,z,n,N,cs,rfl,_⟩ | ⟨v,rfl⟩ | ⟨s,p,k,rfl,_⟩ | ⟨r,k,cs,rfl,_⟩ | ⟨z,n,cs,rfl,_⟩ | ⟨cs,rfl,_⟩ <;> simp
 have sL:cB w I T g Fs:=by
  have AA:leaf x=true->cB w I T g Fs:=λvt=>by
   have:=bh.drop IF vt;have e:del (cH g t x) t=g:=by
    funext s;unfold del cH;by_cases aw:s=t
    ·subst aw; simp [aK]
    ·simp [aw]
   rwa [e] at this
  rcases j with ⟨r,path,z,n,N,cs,rfl,_⟩ | ⟨v,rfl⟩ | ⟨s,p,k,rfl,_⟩ | ⟨r,k,cs,rfl,_⟩ | ⟨z,n,cs,rfl,_⟩ | ⟨cs,rfl,y4,ht⟩
  ·exact AA rfl
  ·exact AA rfl
  ·exact AA rfl
  ·exact AA rfl
  ·exact AA rfl
  ·obtain ⟨v,_,pn⟩:=bh.rel t _ IF;exact bh.Te aK ht (y4.kE (pn.gV (by simp)))
 obtain ⟨v,hv,pn⟩:=bh.rel t x IF;refine h w I T Fs sL a aQ a7 K Q λb0 w' aA sV NF=>c5 b0 w' ?_ sV λr path ah y ak mg=>?_
 rotate_left
 ·by_cases Nt:r=t
  ·subst Nt;exact absurd aK (lR _ ah)
  ·exact NF r path ah y (by simpa [bx,cH,Nt] using ak) mg
 obtain ⟨b2,bZ,I',b1,dX,bL⟩:=aA;have iS:b0.tmps[t]?=some v:=by rw [sV t al,aQ]; exact hv
 have ku:jq w' I' (dP w' b0.tmps g1) x v cr:=by
  rcases j with ⟨r,path,z,n,u3,cs,rfl,ah,y6,iR,VZ⟩ | ⟨u,rfl⟩ | ⟨s,p,k,rfl,aw,y8,Wk⟩ | ⟨r,k,cs,rfl,iR,hk,rT,_⟩ | ⟨z,n,cs,rfl,mJ⟩ | ⟨cs,rfl,y4,ht⟩
  ·obtain ⟨⟨aB,iK,cap,gZ,rfl,kq⟩,_⟩:=(pn.gV (by simp)).mN;exact .tree (.ref rfl ⟨⟨aB,iK,cap,by rw [NF r path ah _ y6 (by simp)]; exact gZ,rfl,kq⟩,.inl ⟨u3,cs,iR,VZ⟩⟩ λ_ h=>h)
  ·obtain ⟨rfl,aa⟩:=(pn.gV (by simp)).h2;exact .tree (.lit aa λ_ h=>h)
  ·obtain ⟨⟨C3,ad,aB,a2,rfl⟩,_⟩:=(pn.gV (by simp)).ny;have bL:s≠t:=by rintro rfl; rw [aK] at aw; cases aw
   obtain ⟨u,hu,mH⟩:=sL.rel s _ aw;obtain ⟨⟨Qb,aaI,gZ,hV,rfl⟩,_⟩:=(mH.gV (by simp)).ny;rw [aB] at gZ;cases gZ;rw [a2] at hV;cases hV;obtain ⟨v_,hG,HF⟩:=dX.rel s _ y8;have:b0.tmps[s]?=T[s]?:=by rw [sV s Wk,aQ]
   rw [this,hu] at hG;cases hG;exact .tree (.ref rfl (HF.gV (by simp)).ny λ_ h=>h)
  ·obtain ⟨⟨C3,ad,aB,a2,rfl⟩,_⟩:=(pn.gV (by simp)).ny;have cX:b0.tmps[r]?=T[r]?:=by rw [sV r rT,aQ]
   have sW:∀ (w:World) (T:Array Value),dS w T ⟨r,[]⟩=T[r]?:=λw T=>by
    unfold dS; simp only; cases T[r]? <;> rfl
   exact .tree (.ref rfl ⟨⟨C3,ad,by rw [sW,cX,<- sW w T]; exact aB,a2,rfl⟩,⟨.obj cs,by simp [bx,iR,ab.at],0,0,cs,.inr rfl,hk⟩⟩ λ_ h=>h)
  ·have rj:∀ c,I c->w'.heap[c]?=w.heap[c]?:=λc aa=>bL.ek.block c (bh.lt c aa) λ⟨t',aH⟩=>sL.bk t' c aH aa;have HC:=(pn.gV (by simp)).bg mJ (ρ':=dP w' b0.tmps g1);have ke:∀ c,¬ Fs t c:=by
    cases pn.gV (by simp) with
    | ref j=>simp [ab.isRef] at j
    | hn aG=>exact aG
    | bk aG=>exact aG
   exact .tree ((HC.frame rj bL.more (λ_ _ h=>h) λc aa=>absurd aa (ke c)).empty ke)
  ·have rj:∀ c,I c->w'.heap[c]?=w.heap[c]?:=λc aa=>bL.ek.block c (bh.lt c aa) λ⟨t',aH⟩=>sL.bk t' c aH aa;have ke:=y4.kE (pn.gV (by simp));have HC:=(pn.gV (by simp)).bg y4.bg (ρ':=dP w' b0.tmps g1);exact .tree ((HC.frame rj bL.more (λ_ _ h=>h) λc aa=>absurd aa (ke c)).empty ke)
 have ns:=dX.uO (d:=t) (x:=x) (v:=v) (F:=cr) VA (Array.getElem?_eq_some_iff.1 iS).1 ku (λ_ _ h=>h.elim) (λ_ h=>h.elim) (λz p n m new e=>absurd e (mg _ _ _ _ _));rw [PA iS] at ns;refine ⟨b2,bZ,I',_,ns,⟨bL.ek,bL.more,bL.new,λc aa=>?_⟩⟩;rcases v' aa with aH | aH
 ·exact bL.own c aH
 ·exact aH.elim
theorem iv.frame {g0 Hh:aI}{r:Nat}{x:ab}(h:iv P N g0 o Hh) (ah:g r=some x) (j:cA x) (hk:hh g g0) (aO:g0 r=none) (h1:Hh r=none) (aP:o.dst≠some r):o6 P N (se [r]) g o (cH Hh r x):=by
 intro w I T Fs bh a aQ a7 K Q c5;have sL:=bh.mo.keep hk;refine h w I T _ sL a aQ a7 K Q λb0 w' aA sV=>?_;obtain ⟨b2,bZ,I',b1,dX,bL⟩:=aA;obtain ⟨u,hu,aY⟩:=bh.rel r x ah;have hG:b0.tmps[r]?=some u:=by rw [sV r aP,aQ]; exact hu
 have mg:∀ z q n m new,x≠.bC z q n m new:=by rintro z q n m new rfl; cases j
 have off:∀ c,Fs r c->¬ ∃ t,(g0 t≠none/\Fs t c):=by
  rintro c aa ⟨t,kF,af⟩;have:=bh.eB t r c af aa;subst this;exact kF aO
 have same:∀ c,Fs r c->w'.heap[c]?=w.heap[c]?:=λc aa=>bL.ek.block c (bh.jJ r c aa) (off c aa);have rj:∀ c,I c->w'.heap[c]?=w.heap[c]?:=λc aa=>bL.ek.block c (bh.lt c aa) λ⟨t,_,aH⟩=>bh.bk t c aH aa;have ns:=dX.uO (d:=r) (x:=x) (v:=u) (F:=Fs r) h1 (Array.getElem?_eq_some_iff.1 hG).1 (.tree (((aY.gV mg).bg j).frame rj bL.more (λ_ _ h=>h) same)) (λt c aa aS=>by
   rcases bL.own c ⟨t,aS⟩ with aH | aH
   ·exact off c aa aH
   ·have:=bh.jJ r c aa; omega) (λc aa hi=>by
   rcases bL.new c hi with aH | aH | aH
   ·exact bh.bk r c aa aH
   ·exact off c aa aH
   ·have:=bh.jJ r c aa; omega) (λz p n m new e=>absurd e (mg _ _ _ _ _))
 rw [PA hG] at ns;refine c5 b0 w' ⟨b2,bZ,I',_,ns,⟨bL.ek.mono λb _ ⟨t,_,aH⟩=>⟨t,aH⟩,bL.more,λc aa=>?_,λc aa=>?_⟩⟩ sV λcK path dK y ak hyp=>?_
 ·rcases bL.new c aa with aH | ⟨t,_,aH⟩ | aH
  ·exact .inl aH
  ·exact .inr (.inl ⟨t,aH⟩)
  ·exact .inr (.inr aH)
 ·rcases v' aa with aH | aH
  ·rcases bL.own c aH with ⟨t,_,fW⟩ | fW
   ·exact .inl ⟨t,fW⟩
   ·exact .inr fW
  ·exact .inl ⟨r,aH⟩
 ·have dK:cK∈[r]:=dK;simp only [List.mem_singleton] at dK;subst dK;have gj:hh g (λt=>if t=cK then some x else none):=by
   refine ⟨λt y gQ=>?_,λt y gQ=>?_,λt z q n m new gQ=>?_⟩
   all_goals
    by_cases e:t=cK
    case neg=>simp [e] at gQ
   ·subst e; simp at gQ; subst gQ; exact ah
   ·subst e; simp at gQ; subst gQ; exact .bg j
   ·subst e; simp at gQ; exact mg _ _ _ _ _ gQ
  refine (bh.mo.keep gj).xZ (T':=b0.tmps) (λt al=>?_) (λt c aa=>?_) (p:=⟨cK,path⟩) (y:=y) ?_
  ·by_cases e:t=cK
   ·subst e; rw [sV t aP,aQ]
   ·simp [e] at al
  ·by_cases e:t=cK
   ·subst e; exact same c aa.2
   ·simp [e] at aa
  ·simp only [bx,if_true];simpa [bx,ah] using ak
end
end Go.Own
namespace Go.Own
open Go
set_option linter.unusedSectionVars false
variable [cE]
abbrev Acc:=List (Nat × Nat × Option ab)
def c0 (g0:aI) (A:Nat->Bool):Acc->aI
 | [],t=>g0 t
 | (k,d,r)::acc,t=>if d=t then (if A k then r else none) else c0 g0 A acc t
def jL:Nat × Nat × Option ab->Option Place
 | (_,_,some (.bC _ p _ _ _))=>some p
 | _=>none
def pf (ops:Array Oper) (a':List (List Nat)):Bool :=
 (List.range ops.size).all λk =>
  match ops[k]? with
  | none=>true
  | some o=>(o.after.all λe=>!Region.binds .any e||decide (e.on<k))&&(a'.getD k []).all λm=>decide (m<k)&&o.after.any λe=>Region.binds .any e&&(e.on == m||(a'.getD e.on []).contains m)
inductive ix (P:Program) (N:cP) (ops:Array Oper) (a':List (List Nat)) (g0:aI) (i:Nat) (dI:Acc):Nat->Acc->Prop
 | nil:ix P N ops a' g0 i dI i dI
 | step {J:Nat}{acc:Acc}{o:Oper}{d:Nat}{r:Option ab}(h:ix P N ops a' g0 i dI J acc) (aV:ops[J]?=some o) (aP:o.dst=some d) (aK:g0 d=none) (aA:∀ e∈acc,e.2.1≠d) (jw:N.ok d=true)
   (aw:p2 P (c0 g0 (λm=>(a'.getD J []).contains m) acc) ops o r):ix P N ops a' g0 i dI (J+1) ((J,d,r)::acc)
structure mw (P:Program) (N:cP) (ops:Array Oper) (a':List (List Nat)) (g0:aI) (i:Nat) (dI:Acc):Prop where
 lt:∀ e∈dI,e.1<i
 free:∀ e∈dI,g0 e.2.1=none
 nd:(dI.map (·.2.1)).Nodup
 Qf:∀ e∈dI,∀ b8∈dI,(e.1=b8.1\/e.2.1=b8.2.1)->e=b8
 st:∀ e∈dI,∃ ha,ops[e.1]?=some ha/\ha.dst=some e.2.1/\N.ok e.2.1=true/\p2 P (c0 g0 (λm=>(a'.getD e.1 []).contains m) dI) ops ha e.2.2
theorem mw.nil {P:Program}{N:cP}{ops:Array Oper}{a':List (List Nat)}{g0:aI}{i:Nat}:mw P N ops a' g0 i []:=⟨by simp,by simp,by simp,by simp,by simp⟩
inductive sv (P:Program) (N:cP) (ops:Array Oper) (a':List (List Nat)):Nat->Acc->aI->aI->Prop
 | fin {i:Nat}{dI:Acc}{g:aI}{acc:Acc}(aw:ix P N ops a' g i dI ops.size acc) (gv:(acc.filterMap jL).Nodup) (fA:∀ t z q n m new,g t≠some (.bC z q n m new)):sv P N ops a' i dI g (c0 g (λ_=>true) acc)
 | wv {i J:Nat}{g g1 g':aI}{dI acc U:Acc}{o:Oper}{rs:Place->Prop}(aw:ix P N ops a' g i dI J acc) (gv:(acc.filterMap jL).Nodup) (fA:∀ t z q n m new,g t≠some (.bC z q n m new)) (aV:ops[J]?=some o) (hw:ic (c0 g (λm=>(a'.getD J []).contains m) acc) ops o true)
   (he:o6 P N rs (c0 g (λm=>(a'.getD J []).contains m) acc) o g1) (lR:∀ p,rs p->g p.root≠none) (fw:U=acc.filter λe=>!(a'.getD J []).contains e.1) (j:∀ e∈U,∃ x,e.2.2=some x/\Ap rs (c0 g (λm=>(a'.getD J []).contains m) acc) g1 o x) (h1:∀ e∈U,g1 e.2.1=none/\o.dst≠some e.2.1)
   (af:∀ e∈U,∃ ha,ops[e.1]?=some ha/\ha.dst=some e.2.1/\N.ok e.2.1=true/\p2 P (c0 g1 (λm=>(a'.getD e.1 []).contains m) U) ops ha e.2.2)
   (av:(List.range ops.size).all (λk=>decide (k<=J)||(a'.getD k []).contains J)=true) (ah:sv P N ops a' (J+1) U g1 g'):sv P N ops a' i dI g g'
theorem mq {g0:aI}{A:Nat->Bool}{acc:Acc}{t:Nat}(h:∀ e∈acc,e.2.1≠t):c0 g0 A acc t=g0 t:=by
 induction acc with
 | nil=>rfl
 | cons e acc aL =>
  grind [c0]
theorem uX {g0:aI}{A:Nat->Bool}{acc:Acc}{t:Nat}{x:ab}(h:c0 g0 A acc t=some x):(∃ e∈acc,e.2.1=t/\A e.1=true/\e.2.2=some x)\/((∀ e∈acc,e.2.1≠t)/\g0 t=some x):=by
 induction acc with
 | nil=>exact .inr ⟨by simp,h⟩
 | cons e acc aL =>
  grind [c0]
theorem Kr {g:aI}{A:Nat->Bool}{acc:Acc}(hu:∀ e∈acc,∀ b8∈acc,e.2.1=b8.2.1->e=b8) {e:Nat × Nat × Option ab}(he:e∈acc):c0 g A acc e.2.1=if A e.1 then e.2.2 else none:=by
 induction acc with
 | nil=>cases he
 | cons a acc aL =>
  grind [c0]
section
variable {P:Program}{N:cP}{ops:Array Oper}{a':List (List Nat)}{g0:aI}{i:Nat}
variable {dI:Acc}
theorem ix.le {J:Nat}{acc:Acc}(h:ix P N ops a' g0 i dI J acc) (fw:mw P N ops a' g0 i dI):i<=J/\∀ e∈acc,e.1<J:=by
 induction h with
 | nil=>exact ⟨Nat.le_refl _,fw.lt⟩
 | step _ _ _ _ _ _ _ aL =>
  grind
theorem ix.ge {J:Nat}{acc:Acc}(h:ix P N ops a' g0 i dI J acc) (fw:mw P N ops a' g0 i dI):∀ e∈acc,e∈dI\/i<=e.1:=by
 induction h with
 | nil=>exact λe he=>.inl he
 | step aw _ _ _ _ _ _ aL =>
  intro e he;rcases List.mem_cons.1 he with rfl | he
  ·exact .inr (aw.le fw).1
  grind
theorem ix.Kh {J:Nat}{acc:Acc}(h:ix P N ops a' g0 i dI J acc):∀ e∈dI,e∈acc:=by
 induction h with
 | nil=>exact λe he=>he
 | step _ _ _ _ _ _ _ aL=>exact λe he=>by simp [aL e he]
theorem ix.fresh {J:Nat}{acc:Acc}(h:ix P N ops a' g0 i dI J acc) (fw:mw P N ops a' g0 i dI):∀ e∈acc,g0 e.2.1=none:=by
 induction h with
 | nil=>exact fw.free
 | step _ _ _ aK _ _ _ aL =>
  grind
theorem ix.nodup {J:Nat}{acc:Acc}(h:ix P N ops a' g0 i dI J acc) (fw:mw P N ops a' g0 i dI):(acc.map (·.2.1)).Nodup:=by
 induction h with
 | nil=>exact fw.nd
 | step _ _ _ _ aA _ _ aL =>
  grind
theorem ix.uniq {J:Nat}{acc:Acc}(h:ix P N ops a' g0 i dI J acc) (fw:mw P N ops a' g0 i dI):∀ {e b8:Nat × Nat × Option ab},e∈acc->b8∈acc->(e.1=b8.1\/e.2.1=b8.2.1)->e=b8:=by
 induction h with
 | nil=>exact λ{e b8} he hZ bD=>fw.Qf e he b8 hZ bD
 | @step J acc o d r aw _ _ _ aA _ _ aL =>
  intro e b8 he hZ bD;rcases List.mem_cons.1 he with rfl | he <;> rcases List.mem_cons.1 hZ with rfl | hZ
  ·rfl
  ·rcases bD with bD | bD
   ·have:=(aw.le fw).2 b8 hZ
    grind
   grind
  ·rcases bD with bD | bD
   ·have:=(aw.le fw).2 e he
    grind
   grind
  grind
theorem ix.at_mem {J:Nat}{acc:Acc}(h:ix P N ops a' g0 i dI J acc) (fw:mw P N ops a' g0 i dI) {A:Nat->Bool}{e:Nat × Nat × Option ab}(he:e∈acc):c0 g0 A acc e.2.1=if A e.1 then e.2.2 else none :=
 Kr (λ_ j _ ak aH=>h.uniq fw j ak (.inr aH)) he
theorem ix.get {J:Nat}{acc:Acc}(h:ix P N ops a' g0 i dI J acc) (fw:mw P N ops a' g0 i dI):∀ e∈acc,∃ o Dv,ops[e.1]?=some o/\o.dst=some e.2.1/\N.ok e.2.1=true/\p2 P (c0 g0 (λm=>(a'.getD e.1 []).contains m) Dv) ops o e.2.2/\∀ e∈Dv,e∈acc:=by
 induction h with
 | nil =>
  intro e he;obtain ⟨ha,h1,af,aF,bu⟩:=fw.st e he
  grind
 | @step J acc o d r aw aV aP aK aA jw bL aL =>
  intro e he;rcases List.mem_cons.1 he with rfl | he
  ·grind
  grind
theorem ix.has {J:Nat}{acc:Acc}(h:ix P N ops a' g0 i dI J acc):∀ k,i<=k->k<J->∃ e∈acc,e.1=k:=by
 induction h with
 | nil=>intro k h1 af; omega
 | @step J acc o d r aw aV aP aK aA jw bL aL =>
  grind [List.mem_cons_self]
theorem Yy {acc:Acc}(gv:(acc.filterMap jL).Nodup) {e b8:Nat × Nat × Option ab}{p:Place}(he:e∈acc) (hZ:b8∈acc) (h:jL e=some p) (aH:jL b8=some p):e=b8:=by
 induction acc with
 | nil=>simp at he
 | cons a acc aL =>
  grind
def dv (listed:Array Bool) (k:Nat):Bool:=listed.getD k false
def hc (ops:Array Oper) (listed:Array Bool):Nat:=((List.range ops.size).filter λk=>!dv listed k).length
theorem wD {listed:Array Bool}{k:Nat}(hk:k<ops.size) (ai:dv listed k=false) (eF:listed.size=ops.size):hc ops (listed.setIfInBounds k true)+1<=hc ops listed:=by
 unfold hc;have key:∀ l:List Nat,l.Nodup->((l.filter λJ=>!dv (listed.setIfInBounds k true) J).length+if k∈l then 1 else 0)=(l.filter λJ=>!dv listed J).length:=by
  intro l
  induction l with
  | nil=>intro _; simp
  | cons J l aL =>
   intro fj;have V0:=List.nodup_cons.1 fj;have adl:=aL V0.2;by_cases fz:J=k
   ·simp_all [dv]
   ·have h1:dv (listed.setIfInBounds k true) J=dv listed J:=by simp [dv,Array.getElem?_setIfInBounds_ne (Ne.symm fz)]
    grind
 grind
end
end Go.Own
namespace Go.Own
open Go
set_option linter.unusedSectionVars false
variable [cE]
section
variable {P:Program}{N:cP}{ops:Array Oper}{a':List (List Nat)}
def Down (a':List (List Nat)) (listed:Array Bool):Prop:=∀ k,dv listed k=true->∀ m∈a'.getD k [],dv listed m=true
theorem Lf (h:pf ops a'=true) {k:Nat}{o:Oper}(aV:ops[k]?=some o) :
  (∀ e∈o.after,Region.binds .any e=true->e.on<k)/\∀ m∈a'.getD k [],m<k/\∃ e∈o.after,Region.binds .any e=true/\(e.on=m\/m∈a'.getD e.on []):=by
 grind [pf,Array.all_eq_true_iff_forall_mem]
theorem xK {listed:Array Bool}{k:Nat}(h:k∈Region.ready .any ops listed):dv listed k=false/\∃ o,ops[k]?=some o/\∀ e∈o.after,Region.binds .any e=true->dv listed e.on=true:=by
 grind [mem_ready,dv]
theorem JW (dp:pf ops a'=true) {listed:Array Bool}(aP:Down a' listed) {k:Nat}(h:k∈Region.ready .any ops listed):∀ m∈a'.getD k [],dv listed m=true:=by
 obtain ⟨_,o,aV,af⟩:=xK h;intro m hm;obtain ⟨_,e,he,av,aF⟩:=(Lf dp aV).2 m hm;rcases aF with rfl | aF
 ·grind
 ·exact aP e.on (af e he av) m aF
theorem O2 (dp:pf ops a'=true) {listed:Array Bool}(eF:listed.size=ops.size):∀ k,k<ops.size->dv listed k=false->Region.ready .any ops listed≠[]:=by
 intro k
 induction k using Nat.strongRecOn with
 | _ k aL =>
  intro hk ai;by_cases hex:∃ J,J<k/\dv listed J=false
  ·grind
  ·have np:k∈Region.ready .any ops listed:=by
    refine mem_ready.2 ⟨?_,ops[k],Array.getElem?_eq_getElem hk,λe he av=>?_⟩
    ·grind [dv]
    ·have aR:=(Lf dp (Array.getElem?_eq_getElem hk)).1 e he av
     grind [dv]
   grind
theorem C4 {g0:aI}{A B:Nat->Bool}{acc:Acc}{t:Nat}(h:∀ e∈acc,e.2.1=t->A e.1=B e.1):c0 g0 A acc t=c0 g0 B acc t:=by
 induction acc with
 | nil=>rfl
 | cons e acc aL =>
  grind [c0]
theorem Dj {listed:Array Bool}{k J:Nat}(hk:k<listed.size):dv (listed.setIfInBounds k true) J=if J=k then true else dv listed J:=by
 by_cases fz:J=k
 all_goals simp_all [dv,Ne.symm]
theorem aam {g0:aI}{i J:Nat}{acc U dI:Acc}(aw:ix P N ops a' g0 i dI J acc) (ck:mw P N ops a' g0 i dI) {A S:Nat->Bool}(fw:U=acc.filter λe=>!A e.1) (T9:∀ e∈acc,A e.1=true->S e.1=true):c0 g0 S acc=c0 (c0 g0 A acc) S U:=by
 subst fw;funext t;by_cases hex:∃ e∈acc,e.2.1=t
 ·obtain ⟨e,he,rfl⟩:=hex;rw [aw.at_mem ck he];by_cases dp:A e.1=true
  ·rw [mq,aw.at_mem ck he,if_pos dp,if_pos (T9 e he dp)];intro b8 hZ h;obtain ⟨h1,af⟩:=List.mem_filter.1 hZ;have:=aw.uniq ck h1 he (.inr h)
   grind
  ·rw [Kr (λx j y ak h=>aw.uniq ck (List.mem_filter.1 j).1 (List.mem_filter.1 ak).1 (.inr h)) (List.mem_filter.2 ⟨he,by simpa using dp⟩)]
 grind [mq]
theorem et.mono {g g':aI}(aK:∀ t x,g t=some x->g' t=some x) {x:ab}(h:et g x):et g' x:=by
 induction h with
 | bg h=>exact .bg h
 | ref j h=>exact .ref j (h.mono aK)
 | own _ aL=>exact .own aL
 | obj _ aL=>exact .obj aL
 | agg _ aL=>exact .agg aL
 | bJ _ aL=>exact .bJ aL
 | di _ _ gb fR=>exact .di gb fR
 | bC ar _ aL=>exact .bC (ar.mono aK) aL
theorem L8 {mE g1:aI}{o:Oper}{S:Nat->Bool}{rs:Place->Prop}(h:o6 P N rs mE o g1) (lR:∀ p,rs p->mE p.root≠none):∀ (U:Acc),(∀ e∈U,∃ x,e.2.2=some x/\Ap rs mE g1 o x)->(∀ e∈U,mE e.2.1=none/\g1 e.2.1=none/\o.dst≠some e.2.1)->(U.map (·.2.1)).Nodup->o6 P N rs (c0 mE S U) o (c0 g1 S U)
 | [],_,_,_=>h
 | (k,d,r)::U,j,h1,fj=>by
  simp only [List.map_cons,List.nodup_cons] at fj;have aL:=L8 (S:=S) h lR U (λe he=>j e (by simp [he])) (λe he=>h1 e (by simp [he])) fj.2;obtain ⟨x,e,bL⟩:=j (k,d,r) (by simp);simp only at e;subst e;obtain ⟨aB,a2,a3⟩:=h1 (k,d,some x) (by simp);simp only at aB a2 a3;have oO:∀ e∈U,e.2.1≠d:=λe he aH=>fj.1 (List.mem_map.2 ⟨e,he,aH⟩);cases bh:S k with
  | true =>
   have e:∀ g:aI,c0 g S ((k,d,some x)::U)=cH (c0 g S U) d x:=λg=>by
    funext t;simp only [c0,cH,bh,if_true];by_cases aP:d=t
    ·rw [if_pos aP,if_pos aP.symm]
    ·rw [if_neg aP,if_neg (Ne.symm aP)]
   rw [e,e];have E':∀ r,mE r≠none->∀ e∈U,e.2.1≠r:=λr ah e he aH=>by
    have:=(h1 e (by simp [he])).1;rw [aH] at this;exact ah this
   have Ya:∀ r,g1 r≠none->∀ e∈U,e.2.1≠r:=λr ah e he aH=>by
    have:=(h1 e (by simp [he])).2.1;rw [aH] at this;exact ah this
   refine aL.extra (λr ah=>by rw [mq (E' r.root (lR r ah))]; exact lR r ah) (by rw [mq oO]; exact aB) (by rw [mq oO]; exact a2) a3 ?_;rcases bL with ⟨r,path,z,n,u3,cs,rfl,gZ,hV,kq,yB⟩ | ⟨v,rfl⟩ | ⟨s,p,m,rfl,gZ,hV,kq⟩ | ⟨s,m,cs,rfl,gZ,hV,kq,cs',yB,Gv⟩ | ⟨z,n,cs,rfl,gZ⟩ | ⟨cs,rfl,gZ,hV⟩
   ·refine .inl ⟨r,path,z,n,u3,cs,rfl,gZ,?_,?_,yB⟩
    ·have:mE r≠none:=lR _ gZ;simpa [bx,mq (E' r this)] using hV
    ·have:g1 r≠none:=λe=>by simp [bx,e] at kq
     simpa [bx,mq (Ya r this)] using kq
   ·exact .inr (.inl ⟨v,rfl⟩)
   ·refine .inr (.inr (.inl ⟨s,p,m,rfl,?_,?_,kq⟩))
    ·rw [mq]; exact gZ;intro e he aH;have:=(h1 e (by simp [he])).1;rw [aH,gZ] at this; cases this
    ·rw [mq]; exact hV;intro e he aH;have:=(h1 e (by simp [he])).2.1;rw [aH,hV] at this; cases this
   ·refine .inr (.inr (.inr (.inl ⟨s,m,cs,rfl,?_,hV,kq,cs',?_,Gv⟩)))
    ·rw [mq]; exact gZ;intro e he aH;have:=(h1 e (by simp [he])).2.1;rw [aH,gZ] at this; cases this
    ·rw [mq (E' s (by rw [yB]; simp))]; exact yB
   ·exact .inr (.inr (.inr (.inr (.inl ⟨z,n,cs,rfl,gZ⟩))))
   ·refine .inr (.inr (.inr (.inr (.inr ⟨cs,rfl,gZ,?_⟩))));have hle:∀ t y,mE t=some y->c0 mE S U t=some y:=λt y ak=>by rw [mq (E' t (by rw [ak]; simp))]; exact ak
    refine ⟨λt y ak=>?_,λt z q n m new ak=>?_⟩
    ·rcases uX ak with ⟨b8,hZ,_,_,H'⟩ | ⟨_,ak⟩
     ·obtain ⟨y',wK,BC⟩:=j b8 (by simp [hZ]);rw [H'] at wK; cases wK;rcases BC with ⟨r,path,z,n,u3,cs,rfl,c1,c2,jt,c4⟩ | ⟨v,rfl⟩ | ⟨s,p,m,rfl,c1,_⟩ | ⟨s,m,cs,rfl,_,_,_,cs',c4,oC⟩ | ⟨z,n,cs,rfl,c1⟩ | ⟨cs,rfl,c1,_⟩
      ·exact .ref rfl (.inl ⟨u3,cs,kp hle c2,c4⟩)
      ·exact .bg .lit
      ·exact et.mono hle (hV.ca s _ c1)
      ·exact .ref rfl ⟨.obj cs',by simp [bx,hle s _ c4,ab.at],0,0,cs',.inr rfl,oC⟩
      ·exact .bg c1
      ·exact .bg c1.bg
     ·exact et.mono hle (hV.ca t y ak)
    ·rcases uX ak with ⟨b8,hZ,_,_,H'⟩ | ⟨_,ak⟩
     ·obtain ⟨y',wK,BC⟩:=j b8 (by simp [hZ]);rw [H'] at wK; cases wK;rcases BC with ⟨r,path,z,n,u3,cs,h,_⟩ | ⟨v,h⟩ | ⟨s,p,m,h,_⟩ | ⟨s,m,cs,h,_⟩ | ⟨z,n,cs,h,_⟩ | ⟨cs,h,_⟩ <;> cases h
     ·exact hV.fk _ _ _ _ _ _ ak
  | false =>
   have e:∀ g:aI,g d=none->c0 g S ((k,d,some x)::U)=c0 g S U:=λg aK=>by
    funext t;simp only [c0,bh];by_cases aP:d=t
    ·subst aP; rw [if_pos rfl,mq oO,aK]; rfl
    ·rw [if_neg aP]
   rw [e mE aB,e g1 a2];exact aL
theorem OZ (dp:pf ops a'=true) {g0:aI}{i J:Nat}{acc dI:Acc}(aw:ix P N ops a' g0 i dI J acc) (ck:mw P N ops a' g0 i dI) (gv:(acc.filterMap jL).Nodup) (fA:∀ t z q n m new,g0 t≠some (.bC z q n m new)) {listed:Array Bool}(eF:listed.size=ops.size) (aP:Down a' listed)
  {a:Act}{w:World}{I:a_}{Fs:Nat->a_}(bh:cB w I a.tmps (c0 g0 (dv listed) acc) Fs) (a7:a.tmps.size=N.size) {e:Nat × Nat × Option ab}(he:e∈acc) (hk:e.1∈Region.ready .any ops listed) {K:Act->World->Prop}{Q:Exit->Act->World->Prop}
  (c5:∀ b0 w' I' b1,b0.defers=a.defers->hr N a.tmps b0.tmps->cB w' I' b0.tmps (c0 g0 (dv (listed.setIfInBounds e.1 true)) acc) b1->kR w I (λc=>∃ t,Fs t c) w' I' (λc=>∃ t,b1 t c)->K b0 w'):wpOp P ops Q e.1 K a w:=by
 obtain ⟨dR,k6,w3,_⟩:=xK hk;have yZ:=(Array.getElem?_eq_some_iff.1 w3).1;have A9:=JW dp aP hk;obtain ⟨o,Dv,aV,Ek,jw,bL,gw⟩:=aw.get ck e he;obtain ⟨k,d,r⟩:=e;simp only at *;have hle:ov (c0 g0 (λm=>(a'.getD k []).contains m) Dv) (c0 g0 (dv listed) acc):=by
  intro t x j;rcases uX j with ⟨e,he,rfl,D1,hex⟩ | ⟨oO,aK⟩
  ·rw [aw.at_mem ck (gw e he),A9 e.1 (by simpa using D1)];exact hex
  ·rw [mq λe he acN=>?_]
   ·exact aK
   ·have:=aw.fresh ck e he
    grind
 have e8:∀ z p n m new,r=some (.bC z p n m new)->∀ t br cf bd cO,c0 g0 (dv listed) acc t≠some (.bC br p cf bd cO):=by
  intro z p n m new ah t br cf bd cO al;rcases uX al with ⟨e,hZ,_,D1,hex⟩ | ⟨_,aK⟩
  ·obtain ⟨kD,S9,cK⟩:=e;have:=Yy gv (p:=p) he hZ (by rw [ah]; rfl) (by simp only at hex; rw [hex]; rfl)
   grind
  grind
 have BC:=bL.mono hle e8;have sP:c0 g0 (dv listed) acc d=none:=by
  have:=aw.at_mem ck (A:=dv listed) he
  grind
 unfold wpOp;simp only [aV];refine BC.sound bh rfl a7 Ek sP jw λb0 w' aA=>?_;obtain ⟨b2,bZ,I',b1,dX,oP⟩:=aA;have gR:∀ J,dv (listed.setIfInBounds k true) J=if J=k then true else dv listed J:=λJ=>Dj (by omega)
 have c9:c0 g0 (dv (listed.setIfInBounds k true)) acc=xH (c0 g0 (dv listed) acc) d r:=by
  funext t;by_cases vD:t=d
  ·subst vD;have h1:=aw.at_mem ck (A:=dv (listed.setIfInBounds k true)) he;simp only [gR k,if_true] at h1;rw [h1];cases r with
   | none=>simp only [xH]; exact sP.symm
   | some x=>simp [xH,cH]
  ·have h1:c0 g0 (dv (listed.setIfInBounds k true)) acc t=c0 g0 (dv listed) acc t:=C4 λe hZ het=>by
    rw [gR e.1,if_neg];intro Vv;have:=aw.uniq ck hZ he (.inl Vv)
    grind
   rw [h1];cases r with
   | none=>rfl
   | some x=>simp [xH,cH,vD]
 grind
theorem G3 (dp:pf ops a'=true) {listed:Array Bool}(eF:listed.size=ops.size) (aP:Down a' listed) {k:Nat}(hk:k∈Region.ready .any ops listed):Down a' (listed.setIfInBounds k true):=by
 obtain ⟨dR,k6,w3,_⟩:=xK hk;have yZ:=(Array.getElem?_eq_some_iff.1 w3).1;have A9:=JW dp aP hk;have gR:∀ q,dv (listed.setIfInBounds k true) q=if q=k then true else dv listed q:=λq=>Dj (by omega)
 intro m hm q a6;rw [gR] at hm ⊢;split
 ·rfl
 ·split at hm
  ·grind
  ·exact aP m hm q a6
theorem ix.entry {g0:aI}{i J:Nat}{acc dI:Acc}(aw:ix P N ops a' g0 i dI J acc) {listed:Array Bool}(aR:∀ k,k<i->(∀ e∈dI,e.1≠k)->dv listed k=true) {k:Nat}(Ef:k<J) (dR:dv listed k=false):∃ e∈acc,e.1=k:=by
 rcases Nat.lt_or_ge k i with h | h
 ·rcases Classical.em (∃ e∈dI,e.1=k) with ⟨e,he,aH⟩ | aH
  ·exact ⟨e,aw.Kh e he,aH⟩
  grind
 ·exact aw.has k h Ef
theorem sv.sound (dp:pf ops a'=true) {i:Nat}{dI:Acc}{g g':aI}(h:sv P N ops a' i dI g g'):mw P N ops a' g i dI->∀ {Q:Exit->Act->World->Prop}(fuel:Nat) (listed:Array Bool) (a:Act) (w:World) (I:a_) (Fs:Nat->a_),hc ops listed<=fuel->listed.size=ops.size->(∀ k,k<i->(∀ e∈dI,e.1≠k)->dv listed k=true)->(∀ k,i<=k->dv listed k=false)->Down a' listed ->
  cB w I a.tmps (c0 g (dv listed) dI) Fs->a.tmps.size=N.size->(∀ b0 w',hR N a w I Fs g' b0 w'->Q .normal b0 w')->wpAny P .any ops Q fuel listed a w:=by
 have start:∀ {g:aI}{i J:Nat}{acc dI:Acc}{listed:Array Bool},ix P N ops a' g i dI J acc->mw P N ops a' g i dI->(∀ k,i<=k->dv listed k=false)->c0 g (dv listed) acc=c0 g (dv listed) dI:=by
  intro g i J acc dI listed aw ck dq;funext t;by_cases hex:∃ e∈acc,e.2.1=t
  ·obtain ⟨e,he,rfl⟩:=hex;rw [aw.at_mem ck he];rcases aw.ge ck e he with h | h
   ·rw [Kr (λx j y ak aH=>ck.Qf x j y ak (.inr aH)) h]
   ·rw [dq e.1 h];by_cases M5:∃ b8∈dI,b8.2.1=e.2.1
    ·obtain ⟨b8,hZ,aH⟩:=M5;have:=aw.uniq ck (aw.Kh b8 hZ) he (.inr aH);subst this;have:=ck.lt b8 hZ;omega
    ·rw [mq λb8 hZ aH=>M5 ⟨b8,hZ,aH⟩,aw.fresh ck e he]; rfl
  ·rw [mq λe he h=>hex ⟨e,he,h⟩,mq λe he h=>hex ⟨e,aw.Kh e he,h⟩]
 induction h with
 | @fin i dI g acc aw gv fA =>
  intro ck Q fuel listed a w I Fs aa eF aR dq aP bh a7 dy;rw [<- start aw ck dq] at bh;clear dq;revert listed a w I Fs
  induction fuel with
  | zero =>
   intro listed a w I Fs aa eF aR aP bh a7 dy;have g_:∀ k,k<ops.size->dv listed k=true:=λk hk=>by
    cases ai:dv listed k with
    | true=>rfl
    | false=>have:=wD (ops:=ops) (listed:=listed) (k:=k) hk ai eF; omega
   refine wpAny_done ?_ (dy _ _ ⟨rfl,hr.refl,I,Fs,?_,kR.refl _ _ _⟩) 0
   ·cases ah:Region.ready .any ops listed with
    | nil=>rfl
    | cons k l =>
     have hk:k∈Region.ready .any ops listed:=by rw [ah]; simp
     obtain ⟨dR,o,aV,_⟩:=xK hk
     grind
   ·have:c0 g (dv listed) acc=c0 g (λ_=>true) acc:=funext λt=>C4 λe he _=>g_ e.1 ((aw.le ck).2 e he)
    grind
  | succ fuel aL =>
   intro listed a w I Fs aa eF aR aP bh a7 dy;by_cases g_:∀ k,k<ops.size->dv listed k=true
   ·refine wpAny_done ?_ (dy _ _ ⟨rfl,hr.refl,I,Fs,?_,kR.refl _ _ _⟩) _
    ·cases ah:Region.ready .any ops listed with
     | nil=>rfl
     | cons k l =>
      have hk:k∈Region.ready .any ops listed:=by rw [ah]; simp
      obtain ⟨dR,o,aV,_⟩:=xK hk
      grind
    ·have:c0 g (dv listed) acc=c0 g (λ_=>true) acc:=funext λt=>C4 λe he _=>g_ e.1 ((aw.le ck).2 e he)
     grind
   ·obtain ⟨k0,mf⟩:=Classical.not_forall.1 g_;obtain ⟨VK,VL⟩:=Classical.not_imp.1 mf;refine ⟨λah=>absurd ah (O2 dp eF k0 VK (by simpa using VL)),λk hk=>?_⟩;obtain ⟨dR,k6,w3,_⟩:=xK hk;have yZ:=(Array.getElem?_eq_some_iff.1 w3).1;obtain ⟨e,he,rfl⟩:=aw.entry aR yZ dR;have Vk:=wD (ops:=ops) (listed:=listed) (k:=e.1) yZ dR eF;refine OZ dp aw ck gv fA eF aP bh a7 he hk λb0 w' I' b1 b2 bZ dX oP=>?_;refine aL _ b0 w' I' b1 (by omega) (by simpa using eF) (λm hm cy=>?_) (G3 dp eF aP hk) dX (bZ.1.trans a7) λa2 fi af=>dy _ _ (hR.trans b2 bZ oP af)
    grind [Dj]
 | @wv i J g g1 g' dI acc U o rs aw gv fA aV hw he lR fw j h1 af av _ Xi =>
  intro ck Q fuel listed a w I Fs aa eF aR dq aP bh a7 dy;have yY:J<ops.size:=(Array.getElem?_eq_some_iff.1 aV).1;have HZ:∀ k,J<k->k<ops.size->J∈a'.getD k []:=λk hk yZ=>by
   grind
  have Bn:∀ e∈U,e∈acc/\(a'.getD J []).contains e.1=false:=λe he=>by
   grind
  have fj:(U.map (·.2.1)).Nodup:=by
   rw [fw];exact (List.filter_sublist.map _).nodup (aw.nodup ck)
  have VB:∀ e∈U,c0 g (λm=>(a'.getD J []).contains m) acc e.2.1=none:=λe he=>by
   rw [aw.at_mem ck (Bn e he).1,(Bn e he).2];rfl
  have A2:mw P N ops a' g1 (J+1) U:=⟨λe he=>by have:=(aw.le ck).2 e (Bn e he).1; omega,λe he=>(h1 e he).1,fj,λe he b8 hZ h=>aw.uniq ck (Bn e he).1 (Bn b8 hZ).1 h,af⟩;have acR:∀ k,J<=k->dv listed k=false:=λk hk=>dq k (Nat.le_trans (aw.le ck).1 hk);rw [<- start aw ck dq] at bh;clear dq;revert listed a w I Fs
  induction fuel with
  | zero =>
   intro listed a w I Fs aa eF aR aP bh a7 dy dq;have:=wD (ops:=ops) (listed:=listed) (k:=J) yY (dq J (Nat.le_refl _)) eF;omega
  | succ fuel Xh =>
   intro listed a w I Fs aa eF aR aP bh a7 dy dq;have eN:=dq J (Nat.le_refl _);refine ⟨λah=>absurd ah (O2 dp eF J yY eN),λk hk=>?_⟩;obtain ⟨dR,k6,w3,_⟩:=xK hk;have yZ:=(Array.getElem?_eq_some_iff.1 w3).1;have A9:=JW dp aP hk;have gR:∀ q,dv (listed.setIfInBounds k true) q=if q=k then true else dv listed q:=λq=>Dj (by omega)
   have Vk:=wD (ops:=ops) (listed:=listed) (k:=k) (by omega) dR eF;rcases Nat.lt_trichotomy k J with Ef | rfl | Ef
   ·obtain ⟨e,M4,rfl⟩:=aw.entry aR Ef dR;refine OZ dp aw ck gv fA eF aP bh a7 M4 hk λb0 w' I' b1 b2 bZ dX oP=>?_;refine Xh _ b0 w' I' b1 (by omega) (by simpa using eF) (λm hm cy=>?_) (G3 dp eF aP hk) dX (bZ.1.trans a7) (λa2 fi af=>dy _ _ (hR.trans b2 bZ oP af)) λm hm=>?_
    ·grind
    grind
   ·have Tr:=aam (A:=λm=>(a'.getD k []).contains m) (S:=dv listed) aw ck fw λe he dp=>A9 e.1 (by simpa using dp);have Wf:∀ r:Place,rs r->c0 g (λm=>(a'.getD k []).contains m) acc r.root≠none:=λr ah=>by
     rw [mq]
     ·grind
     ·intro e he aH;have:=aw.fresh ck e he
      grind
    have Vu:=L8 (S:=dv listed) he Wf U j (λe he=>⟨VB e he,h1 e he⟩) fj;have hle:ov (c0 g (λm=>(a'.getD k []).contains m) acc) (c0 g (dv listed) acc):=by
     intro t x j;rcases uX j with ⟨e,he,rfl,D1,hex⟩ | ⟨oO,aK⟩
     ·rw [aw.at_mem ck he,A9 e.1 (by simpa using D1)]; exact hex
     grind [mq]
    unfold wpOp;simp only [aV,(ic.mono hle hw).sound bh,if_true];refine .inl (Vu w I a.tmps Fs (by rw [<- Tr]; exact bh) a rfl a7 _ _ λb0 w' aA _ _=>?_);obtain ⟨b2,bZ,I',b1,dX,oP⟩:=aA;refine Xi A2 fuel (listed.setIfInBounds k true) b0 w' I' b1 (by omega) (by simpa using eF) (λm hm cy=>?_) (λm hm=>?_) (G3 dp eF aP hk) ?_ (bZ.1.trans a7) λa2 fi af=>dy _ _ (hR.trans b2 bZ oP af)
    ·rw [gR];split
     ·rfl
     ·rename_i ac7;cases Bo:dv listed m with
      | true=>rfl
      | false =>
       exfalso;obtain ⟨e,M4,rfl⟩:=aw.entry aR (show m<k by omega) Bo
       grind
    ·grind
    ·have:c0 g1 (dv (listed.setIfInBounds k true)) U=c0 g1 (dv listed) U:=funext λt=>C4 λe he _=>by
      grind
     grind
   grind
end
end Go.Own
namespace Go.Own
open Go
set_option linter.unusedSectionVars false
variable [cE]
section
variable {P:Program}{N:cP}
def fP (P:Program) (N:cP) (c:Code) (g:aI) (e:Exit) (g':aI):Prop :=
 ∀ ⦃Q:Exit->Act->World->Prop⦄ ⦃a:Act⦄ ⦃w:World⦄ ⦃I:a_⦄ ⦃Fs:Nat->a_⦄,cB w I a.tmps g Fs->a.tmps.size=N.size->(∀ b0 w',hR N a w I Fs g' b0 w'->Q e b0 w')->c.wp P Q a w
theorem fP.skip {g:aI}:fP P N .skip g .normal g:=λ_ _ _ _ _ bh _ dy=>wp_skip (dy _ _ ⟨rfl,hr.refl,_,_,bh,kR.refl _ _ _⟩)
theorem fP.ret {g:aI}:fP P N .ret g .ret g:=λ_ _ _ _ _ bh _ dy=>wp_ret (dy _ _ ⟨rfl,hr.refl,_,_,bh,kR.refl _ _ _⟩)
theorem fP.exit {g:aI}{id:Nat}:fP P N (.exit id) g (.exit id) g:=λ_ _ _ _ _ bh _ dy=>wp_exit (dy _ _ ⟨rfl,hr.refl,_,_,bh,kR.refl _ _ _⟩)
theorem fP.seq {x y:Code}{g g1 g':aI}{e:Exit}(h1:fP P N x g .normal g1) (af:fP P N y g1 e g'):fP P N (.seq x y) g e g':=by
 intro Q a w I Fs bh a7 dy;refine wp_seq (h1 bh a7 λaB gm aA=>?_);obtain ⟨b2,bZ,I',b1,dX,bL⟩:=aA;exact af dX (bZ.1.trans a7) λa2 fi oN=>dy _ _ (hR.trans b2 bZ bL oN)
theorem fP.cond {c:Operand}{x y:Code}{g g':aI}{e:Exit}{b:Bool}(aa:bm g c=some (.lit (.bool b))) (h:fP P N (if b then x else y) g e g'):fP P N (.cond c x y) g e g':=by
 intro Q a w I Fs bh a7 dy;exact wp_cond (t:=b) (k7 bh aa rfl).h2.1 (h bh a7 dy)
theorem fP.LQ {c:Operand}{x y:Code}{g g':aI}{e:Exit}(aa:bm g c=some (.lit (.bool true))) (h:fP P N x g e g'):fP P N (.cond c x y) g e g':=fP.cond aa h
theorem fP.LO {c:Operand}{x y:Code}{g g':aI}{e:Exit}(aa:bm g c=some (.lit (.bool false))) (h:fP P N y g e g'):fP P N (.cond c x y) g e g':=fP.cond aa h
theorem fP.block {id:Nat}{c:Code}{g g':aI}(h:fP P N c g .normal g'):fP P N (.block id c) g .normal g' :=
 λ_ _ _ _ _ bh a7 dy=>wp_block (h bh a7 λaB gm aA=>dy aB gm aA)
def Di (P:Program) (c:Code) (Q:Exit->Act->World->Prop) (a:Act) (w:World):Prop :=
 ∀ (b:Frame) (k:List Item) (cs:List Frame),∃ e b0 w',Q e b0 w'/\Arrives P (lone (b.at a (.code c::.inLoop c::k)) cs w) b k cs e b0 w'
def tv (P:Program) (N:cP) (c:Code) (g:aI) (e:Exit) (g':aI):Prop :=
 ∀ ⦃Q:Exit->Act->World->Prop⦄ ⦃a:Act⦄ ⦃w:World⦄ ⦃I:a_⦄ ⦃Fs:Nat->a_⦄,cB w I a.tmps g Fs->a.tmps.size=N.size->(∀ b0 w',hR N a w I Fs g' b0 w'->Q e b0 w')->Di P c Q a w
theorem Jo {c:Code}{Q:Exit->Act->World->Prop}{a:Act}{w:World}(h:c.wp P (Exit.then (Di P c Q) Q) a w):Di P c Q a w:=by
 intro b k cs;obtain ⟨e,Ay,C8,a6,lu⟩:=h b (.inLoop c::k) cs;cases e with
 | normal =>
  obtain ⟨Tx,RO,aat,Wc,UO⟩:=a6 b k cs;exact ⟨Tx,RO,aat,Wc,.of_steps (Steps.trans lu (.one step_inLoop)) UO⟩
 | exit id=>exact ⟨_,Ay,C8,a6,.pass (x:=.inLoop c) rfl (λ_ _=>.inl (by simp)) lu⟩
 | goto l=>exact ⟨_,Ay,C8,a6,.pass (x:=.inLoop c) rfl (λ_ _=>.inl (by simp)) lu⟩
 | ret=>exact ⟨_,Ay,C8,a6,.pass (x:=.inLoop c) rfl (λ_ _=>.inl (by simp)) lu⟩
 | panic cd=>exact ⟨_,Ay,C8,a6,.pass (x:=.inLoop c) rfl (λ_ _=>.inl (by simp)) lu⟩
 | outgrown=>exact ⟨_,Ay,C8,a6,.pass (x:=.inLoop c) rfl (λ_ _=>.inl (by simp)) lu⟩
theorem fP.loop {c:Code}{g g':aI}{e:Exit}(h:tv P N c g e g'):fP P N (.loop c) g e g':=by
 intro Q a w I Fs bh a7 dy b k cs;obtain ⟨e,b0,w',a6,lu⟩:=h bh a7 dy b k cs;exact ⟨e,b0,w',a6,.of_steps (.one step_loop) lu⟩
theorem tv.step {c:Code}{g g1 g':aI}{e:Exit}(h1:fP P N c g .normal g1) (af:tv P N c g1 e g'):tv P N c g e g':=by
 intro Q a w I Fs bh a7 dy;refine Jo (h1 bh a7 λaB gm aA=>?_);obtain ⟨b2,bZ,I',b1,dX,bL⟩:=aA;exact af dX (bZ.1.trans a7) λa2 fi oN=>dy _ _ (hR.trans b2 bZ bL oN)
theorem tv.out {c:Code}{g g':aI}{e:Exit}(h:fP P N c g e g') (he:e≠.normal):tv P N c g e g':=by
 intro Q a w I Fs bh a7 dy;refine Jo (h bh a7 λaB gm aA=>?_);cases e with
 | normal=>exact absurd rfl he
 | _=>exact dy _ _ aA
theorem fP.region {id:Nat}{ops:Array Oper}{g g':aI}(h:ox P N ops (List.range ops.size) g g'):fP P N (.region id ops false) g .normal g' :=
 λ_ _ _ _ _ bh a7 dy=>wp_region (h.sound bh a7 dy)
theorem fP.draw {id:Nat}{ops:Array Oper}{a':List (List Nat)}{g g':aI}(hm:P.follows .mixedOrders=true) (dp:pf ops a'=true) (h:sv P N ops a' 0 [] g g'):fP P N (.region id ops true) g .normal g':=by
 intro Q a w I Fs bh a7 dy;refine wp_region_any hm ?_;have dX:cB w.drew I a.tmps g Fs:=bh.world (λ_ _ _=>rfl) (λ_ _=>rfl) (Nat.le_refl _);have g_:∀ k,dv (Array.replicate ops.size false) k=false:=by
  intro k;unfold dv;rcases Nat.lt_or_ge k ops.size with h | h
  ·simp [h]
  grind
 refine h.sound dp .nil ops.size (Array.replicate ops.size false) a w.drew I Fs ?_ (by simp) (λk hk=>by omega) (λk _=>g_ k) (λk hk=>by rw [g_] at hk; cases hk) dX a7 λb0 w' aA=>dy _ _ ?_
 ·grind [hc]
 ·obtain ⟨b2,bZ,I',b1,hY,bL⟩:=aA;exact ⟨b2,bZ,I',b1,hY,⟨⟨bL.ek.os,bL.ek.tape,bL.ek.output,bL.ek.size,bL.ek.block,bL.ek.dN,Nat.le_trans (Nat.le_succ _) bL.ek.wG⟩,bL.more,bL.new,bL.own⟩⟩
inductive mV:ab->ab->Prop
 | refl {x:ab}:mV x x
 | dead {x:ab}(h:jP x\/cA x):mV x .dead
 | pF {z:Nat}:mV .aU (.own z 0 [])
 | pE {z:Nat}:mV .aU (.bk z 0 [])
 | obj {cs cs':List ab}(ai:cs'.length=cs.length) (h:∀ (k:Nat) (x y:ab),cs[k]?=some x->cs'[k]?=some y->mV x y):mV (.obj cs) (.obj cs')
 | own {z n:Nat}{cs cs':List ab}(ai:cs'.length=cs.length) (h:∀ (k:Nat) (x y:ab),cs[k]?=some x->cs'[k]?=some y->mV x y):mV (.own z n cs) (.own z n cs')
theorem mV.jz {x y:ab}{J:Nat × Nat}(h:mV x y) (e:y=.self J):x=.self J:=by
 cases h <;> first | exact e | cases e
theorem R.eH {w:World}{I:a_}{ρ:ab->Value->Prop}{x x':ab}(h:mV x x'):∀ {v:Value}{F:a_},R w I ρ x v F->∃ cV,R w I ρ x' v cV/\∀ c,cV c->F c:=by
 induction h with
 | refl=>exact λaY=>⟨_,aY,λ_ h=>h⟩
 | dead=>exact λaY=>⟨cr,.dead λ_ h=>h,λ_ h=>h.elim⟩
 | pF =>
  intro v F aY;rw [aY.r2];exact ⟨cr,.own (e:=0) (us:=[]) (Fs:=λ_=>cr) ⟨by simp,.inl ⟨rfl,rfl⟩⟩ rfl (by simp) (by simp) (λ_ _ _ _ _ h=>h.elim) (λ_ _ _ h=>h.elim) λc=>⟨λh=>h.elim,λh=>h.elim (λh=>by simp [Value.ownBlock] at h) λ⟨_,_,h⟩=>h⟩,λ_ h=>h.elim⟩
 | pE=>intro v F aY; rw [aY.r2]; exact ⟨cr,.hn λ_ h=>h,λ_ h=>h.elim⟩
 | @obj cs cs' ai uu aL =>
  intro v F aY;cases aY with
  | ref j=>simp [ab.isRef] at j
  | @obj _ b e arr bV _ aV hF h1 ah aP av aG aw =>
   have:∀ k,∃ tw:a_,k<cs.length->(∀ (x:ab) (u:Value),cs'[k]?=some x->arr[k]?=some u->R w I ρ x u tw)/\∀ c,tw c->bV k c:=by
    intro k;by_cases hk:k<cs.length
    ·have j:=List.getElem?_eq_getElem hk;have ak:cs'[k]?=some (cs'[k]'(by omega)):=List.getElem?_eq_getElem (by omega);have hu:arr[k]?=some (arr[k]'(by omega)):=Array.getElem?_eq_getElem (by omega);obtain ⟨cV,h1,af⟩:=aL k _ _ j ak (ah k _ _ j hu);refine ⟨cV,λ_=>⟨λx u fM hG=>?_,af⟩⟩;rw [ak] at fM; rw [hu] at hG;cases fM; cases hG;exact h1
    ·exact ⟨cr,λh=>absurd h hk⟩
   obtain ⟨tw,rN⟩:=Classical.axiomOfChoice this;refine ⟨_,.obj (Fs:=tw) aV (by omega) h1 (λk x u j hu=>(rN k (by rw [<- ai]; exact (List.getElem?_eq_some_iff.1 j).1)).1 x u j hu) (λJ k c aj hk h aH=>aP J k c (by omega) (by omega) ((rN J (by omega)).2 c h) ((rN k (by omega)).2 c aH)) (λk hk h=>av k (by omega) ((rN k (by omega)).2 b h)) (λc=>Iff.rfl) (λk J u hk=>aw k J u (E6 ai uu (λ_ _ _=>mV.jz) k J hk)),λc aa=>?_⟩;rcases aa with rfl | ⟨k,hk,h⟩
   ·exact (aG _).2 (.inl rfl)
   ·exact (aG c).2 (.inr ⟨k,by omega,(rN k (by omega)).2 c h⟩)
 | @own z n cs cs' ai _ aL =>
  intro v F aY;cases aY with
  | ref j=>simp [ab.isRef] at j
  | @own _ _ _ _ e us bV _ aV hF h1 ah aP av aG =>
   have:∀ k,∃ tw:a_,k<cs.length->(∀ (x:ab) (u:Value),cs'[k]?=some x->us[k]?=some u->R w I ρ x u tw)/\∀ c,tw c->bV k c:=by
    intro k;by_cases hk:k<cs.length
    ·have j:=List.getElem?_eq_getElem hk;have ak:cs'[k]?=some (cs'[k]'(by omega)):=List.getElem?_eq_getElem (by omega);have hu:us[k]?=some (us[k]'(by omega)):=List.getElem?_eq_getElem (by omega);obtain ⟨cV,h1,af⟩:=aL k _ _ j ak (ah k _ _ j hu);refine ⟨cV,λ_=>⟨λx u fM hG=>?_,af⟩⟩;rw [ak] at fM; rw [hu] at hG;cases fM; cases hG;exact h1
    ·exact ⟨cr,λh=>absurd h hk⟩
   obtain ⟨tw,rN⟩:=Classical.axiomOfChoice this;refine ⟨_,.own (Fs:=tw) aV (by omega) h1 (λk x u j hu=>(rN k (by rw [<- ai]; exact (List.getElem?_eq_some_iff.1 j).1)).1 x u j hu) (λJ k c aj hk h aH=>aP J k c (by omega) (by omega) ((rN J (by omega)).2 c h) ((rN k (by omega)).2 c aH)) (λk c hk h=>av k c (by omega) ((rN k (by omega)).2 c h)) (λc=>Iff.rfl),λc aa=>?_⟩;rcases aa with aa | ⟨k,hk,h⟩
   ·exact (aG _).2 (.inl aa)
   ·exact (aG c).2 (.inr ⟨k,by omega,(rN k (by omega)).2 c h⟩)
structure j' (g1 g2:aI):Prop where
 sub:∀ t x,g2 t=some x->∃ y,g1 t=some y/\mV y x
 ca:∀ t x,g2 t=some x->et g2 x
 fk:∀ t z q n m new,g2 t≠some (.bC z q n m new)
theorem cB.eH {w:World}{I:a_}{T:Array Value}{g1 g2:aI}{Fs:Nat->a_}(h:cB w I T g1 Fs) (hk:j' g1 g2):∃ b1,cB w I T g2 b1/\∀ t c,b1 t c->Fs t c:=by
 have:∀ t,∃ cV:a_,(∀ x,g2 t=some x->∃ v,T[t]?=some v/\R w I (dP w T g2) x v cV)/\(∀ c,cV c->Fs t c)/\(g2 t=none->∀ c,¬ cV c):=by
  intro t;cases j:g2 t with
  | none=>exact ⟨cr,by simp,λ_ h=>h.elim,λ_ _ h=>h⟩
  | some x =>
   obtain ⟨y,ak,hw⟩:=hk.sub t x j;obtain ⟨v,hv,aY⟩:=h.mo.rel t y ak;have mg:∀ z q n m new,y≠.bC z q n m new:=by
    rintro z q n m new rfl;cases hw with
    | refl=>exact hk.fk _ _ _ _ _ _ j
    | dead bD=>rcases bD with bD | bD <;> cases bD
   obtain ⟨cV,ku,pk⟩:=R.eH hw (aY.gV mg);exact ⟨cV,λx' fM=>by cases fM; exact ⟨v,hv,ku.ca (hk.ca t x j)⟩,pk,by simp⟩
 obtain ⟨b1,tY⟩:=Classical.axiomOfChoice this;refine ⟨b1,⟨λt x j=>?_,λt al=>(tY t).2.2 al,λt t' c h1 af=>h.eB _ _ _ ((tY t).2.1 c h1) ((tY t').2.1 c af),λt c aa=>h.bk _ _ ((tY t).2.1 c aa),h.lt,λt t' z p n m new _ _ _ _ h1=>absurd h1 (hk.fk _ _ _ _ _ _),h.gl⟩,λt=>(tY t).2.1⟩;obtain ⟨v,hv,aY⟩:=(tY t).1 x j;exact ⟨v,hv,.tree aY⟩
theorem fP.weaken {c:Code}{g g1 g':aI}{e:Exit}(hk:j' g g1) (h:fP P N c g1 e g'):fP P N c g e g':=by
 intro Q a w I Fs bh a7 dy;obtain ⟨b1,dX,gw⟩:=bh.eH hk;exact h dX a7 λb0 w' aA=>dy _ _ (hR.trans rfl hr.refl ⟨Fr.refl _ _,λ_ h=>h,λ_ h=>.inl h,λc ⟨t,aa⟩=>.inl ⟨t,gw t c aa⟩⟩ aA)
theorem tv.weaken {c:Code}{g g1 g':aI}{e:Exit}(hk:j' g g1) (h:tv P N c g1 e g'):tv P N c g e g':=by
 intro Q a w I Fs bh a7 dy;obtain ⟨b1,dX,gw⟩:=bh.eH hk;exact h dX a7 λb0 w' aA=>dy _ _ (hR.trans rfl hr.refl ⟨Fr.refl _ _,λ_ h=>h,λ_ h=>.inl h,λc ⟨t,aa⟩=>.inl ⟨t,gw t c aa⟩⟩ aA)
end
end Go.Own
namespace Go.Own
open Go
set_option linter.unusedSectionVars false
variable [cE]
inductive An (P:Program) (g:aI):ResultVar->ab->Prop
 | tmp {t:Nat}{y:ab}(h:bm g (.tmp t)=some y):An P g (.tmp t) y
 | cell {a:Nat}{t ty:TypeId}{y:ab}(h:cR P g (.load t (.tmp a)) ty y):An P g (.cell a t) y
inductive ry (P:Program) (g:aI):List ResultVar->List ab->Prop
 | nil:ry P g [] []
 | cons {r:ResultVar}{rs:List ResultVar}{y:ab}{ys:List ab}(h:An P g r y) (al:ry P g rs ys):ry P g (r::rs) (y::ys)
def oX:List ab->ab
 | [x]=>x
 | l=>.bJ l
def xL:List Value->Value
 | [x]=>x
 | l=>.tuple l.toArray
def vY (tmps:Array Value):ResultVar->Sem Value
 | .tmp t=>pure (tmps.getD t undef)
 | .cell a t=>do loadVar t (<- asAddr (tmps.getD a undef))
section
variable {P:Program}{w:World}{I:a_}{g:aI}{Fs:Nat->a_}
theorem An.run {a:Act}(h:cB w I a.tmps g Fs) {r:ResultVar}{y:ab}(ah:An P g r y):∃ v,(vY a.tmps r).run P w=.ok v w/\R w I (dP w a.tmps g) y v cr:=by
 cases ah with
 | @tmp t y h1=>exact ⟨_,rfl,k7 h h1 rfl⟩
 | @cell a0 t ty y h1 =>
  obtain ⟨v, hv, aY⟩ := cR.sound h rfl (o := { dst := none, op := .load t (.tmp a0), type := ty, pos := "", after := #[], guard := none }) h1;refine ⟨v,?_,aY⟩;have he:a.eval (.tmp a0)=a.tmps.getD a0 undef:=rfl;simp only [execOp,he] at hv;cases aa:a.tmps.getD a0 undef with
  | pointer ad =>
   cases ad with
   | some ad =>
    rw [aa] at hv;simp only [Instr.loadAt,Instr.sureAddr] at hv;simp only [vY,aa,asAddr];have ar:(pure ad >>= λx=>loadVar t x:Sem Value)=loadVar t ad:=by simp
    rw [ar];revert hv;generalize a6:loadVar t ad=q;intro hv;simp [a6] at hv;cases Eo:q.run P w with
    | ok x fi=>rw [Eo] at hv; simp at hv; rw [hv.1,hv.2]
    | halt e fi=>rw [Eo] at hv; simp at hv
   | none=>rw [aa] at hv; simp [Instr.loadAt,Instr.sureAddr] at hv
  | _=>rw [aa] at hv; simp [Instr.loadAt,Instr.sureAddr] at hv
theorem Pj {f:ResultVar->Sem Value}:∀ (l:List ResultVar) (vs:List Value),l.length=vs.length->(∀ (k:Nat) (r:ResultVar) (v:Value),l[k]?=some r->vs[k]?=some v->(f r).run P w=.ok v w)->(l.mapM f).run P w=.ok vs w
 | [],[],_,_=>rfl
 | r::l,v::vs,ai,h=>by
  have aO:=h 0 r v rfl rfl;have h1:=Pj l vs (by simpa using ai) λk r v ah hv=>h (k+1) r v (by simpa using ah) (by simpa using hv);simp [List.mapM_cons,aO,h1]
 | [],_::_,ai,_=>by simp at ai
 | _::_,[],ai,_=>by simp at ai
theorem Ze {fn:Func}{tmps:Array Value}{vs:List Value}(ai:fn.results.toList.length=vs.length) (h:∀ (k:Nat) (r:ResultVar) (v:Value),fn.results.toList[k]?=some r->vs[k]?=some v->(vY tmps r).run P w=.ok v w):(results fn tmps).run P w=.ok (xL vs) w:=by
 have h1:=Pj fn.results.toList vs ai h;have af:fn.results.mapM (vY tmps)=List.toArray <$> fn.results.toList.mapM (vY tmps):=Array.mapM_eq_mapM_toList;have aF:(fn.results.mapM (vY tmps)).run P w=.ok vs.toArray w:=by rw [af]; simp [h1]
 have bu:results fn tmps=(do let vs <- fn.results.mapM (vY tmps); pure (if h:vs.size=1 then vs[0] else .tuple vs)):=by
  unfold results;congr 1
 rw [bu];simp only [Sem.run_bind,aF]
 match vs with
 | []=>rfl
 | [x]=>rfl
 | x::y::l=>simp [xL]
theorem ry.length {g:aI}{rs:List ResultVar}{ys:List ab}(h:ry P g rs ys):rs.length=ys.length:=by
 induction h with
 | nil=>rfl
 | cons _ _ aL=>simp [aL]
theorem ry.run {a:Act}(h:cB w I a.tmps g Fs) {rs:List ResultVar}{ys:List ab}(ah:ry P g rs ys):∃ vs:List Value,rs.length=vs.length/\(∀ (k:Nat) (r:ResultVar) (v:Value),rs[k]?=some r->vs[k]?=some v->(vY a.tmps r).run P w=.ok v w) /\
  ∀ (k:Nat) (y:ab) (v:Value),ys[k]?=some y->vs[k]?=some v->R w I (dP w a.tmps g) y v cr:=by
 induction ah with
 | nil=>exact ⟨[],rfl,by simp,by simp⟩
 | cons h1 _ aL =>
  obtain ⟨v,hv,aY⟩:=h1.run h;obtain ⟨vs,ai,af,aF⟩:=aL;refine ⟨v::vs,by simp [ai],λk r u ah hu=>?_,λk y u ak hu=>?_⟩
  ·cases k with
   | zero=>simp at ah hu; subst ah hu; exact hv
   | succ k=>exact af k r u (by simpa using ah) (by simpa using hu)
  ·cases k with
   | zero=>simp at ak hu; subst ak hu; exact aY
   | succ k=>exact aF k y u (by simpa using ak) (by simpa using hu)
theorem Hand.oX {ρ:ab->Value->Prop}{Fs:Nat->a_}{xs:List ab}{vs:List Value}{dm:Nat->a_}(h:Hand w I ρ Fs xs vs dm) (aA:∀ x∈xs,cA x) (ρ':ab->Value->Prop):R w I ρ' (oX xs) (xL vs) (λc=>∃ k,k<xs.length/\dm k c)/\cA (oX xs):=by
 have bJ:R w I ρ' (.bJ xs) (.tuple vs.toArray) (λc=>∃ k,k<xs.length/\dm k c) :=
  .bJ (by simpa using h.len) (λk x u j hu=>(h.rel k x u j (by simpa using hu)).bg (aA x (List.mem_of_getElem? j))) h.eB λc=>Iff.rfl
 match xs,vs,h,aA,bJ with
 | [],[],_,_,bJ=>exact ⟨bJ,.bJ (by simp)⟩
 | [x],[v],h,aA,_ =>
  refine ⟨((h.rel 0 x v rfl rfl).bg (aA x (by simp))).yJ λc=>⟨λaa=>⟨0,by simp,aa⟩,λ⟨k,hk,aa⟩=>?_⟩,aA x (by simp)⟩;have:k=0:=by simpa using hk
  subst this; exact aa
 | x::y::l,v::u::m,_,aA,bJ=>exact ⟨bJ,.bJ aA⟩
 | [],_::_,h,_,_=>have:=h.len; simp at this
 | _::_,[],h,_,_=>have:=h.len; simp at this
 | [_],_::_::_,h,_,_=>have:=h.len; simp at this
 | _::_::_,[_],h,_,_=>have:=h.len; simp at this
structure Leaves (P:Program) (N:cP) (rs:List ResultVar) (g':aI) (n:Nat) (outs:List (Option ab)) (res:ab):Prop where
 ex:∃ ys xs g1,ry P g' rs ys/\Take g' ys xs g1/\res=oX xs/\∀ (k:Nat) (x:ab),outs[k]?=some (some x)->g1 k=some x/\cA x/\k∈N.pins
 len:outs.length=n
theorem cB.more {T:Array Value}(h:cB w I T g Fs) {T':Array Value}(cX:∀ t,g t≠none->T'[t]?=T[t]?):cB w I T' g Fs:=by
 refine ⟨λt x j=>?_,h.kE,h.eB,h.bk,h.lt,h.ra,h.gl⟩;obtain ⟨u,hu,aY⟩:=h.rel t x j;exact ⟨u,by rw [cX t (by rw [j]; simp)]; exact hu,h.wL cX (λ_ _ _=>rfl) (λ_ _=>rfl) (λ_ h=>h) (λ_ _ h=>h) aY λ_ _=>rfl⟩
end
end Go.Own
namespace Go.Own
open Go
set_option linter.unusedSectionVars false
variable [cE]
section
variable {P:Program}{N:cP}
def W (P:Program) (N:cP) (c:Code) (g:aI) (Φ:Exit->aI->Prop):Prop :=
 ∀ ⦃Q:Exit->Act->World->Prop⦄ ⦃a:Act⦄ ⦃w:World⦄ ⦃I:a_⦄ ⦃Fs:Nat->a_⦄,cB w I a.tmps g Fs->a.tmps.size=N.size->(∀ e g' b0 w',Φ e g'->hR N a w I Fs g' b0 w'->Q e b0 w')->c.wp P Q a w
def o1 (Ψ:aI->Prop) (Φ:Exit->aI->Prop):Exit->aI->Prop
 | .normal,g=>Ψ g
 | e,g=>Φ e g
def lS (id:Nat) (Φ:Exit->aI->Prop):Exit->aI->Prop
 | .exit k,g=>if k=id then Φ .normal g else Φ (.exit k) g
 | e,g=>Φ e g
theorem hR.refl {a:Act}{w:World}{I:a_}{g:aI}{Fs:Nat->a_}(h:cB w I a.tmps g Fs):hR N a w I Fs g a w:=⟨rfl,hr.refl,_,_,h,kR.refl _ _ _⟩
theorem fP.w {c:Code}{g g':aI}{e:Exit}{Φ:Exit->aI->Prop}(h:fP P N c g e g') (nx:Φ e g'):W P N c g Φ :=
 λ_ _ _ _ _ bh a7 dy=>h bh a7 λb0 w' aA=>dy _ _ b0 w' nx aA
theorem W.mono {c:Code}{g:aI}{Φ oq:Exit->aI->Prop}(h:W P N c g Φ) (nx:∀ e g',Φ e g'->oq e g'):W P N c g oq :=
 λ_ _ _ _ _ bh a7 dy=>h bh a7 λ_ _ b0 w' h1 aA=>dy _ _ b0 w' (nx _ _ h1) aA
theorem W.skip {g:aI}{Φ:Exit->aI->Prop}(h:Φ .normal g):W P N .skip g Φ:=fP.skip.w h
theorem W.ret {g:aI}{Φ:Exit->aI->Prop}(h:Φ .ret g):W P N .ret g Φ:=fP.ret.w h
theorem W.exit {g:aI}{id:Nat}{Φ:Exit->aI->Prop}(h:Φ (.exit id) g):W P N (.exit id) g Φ:=fP.exit.w h
theorem W.seq {x y:Code}{g:aI}{Φ:Exit->aI->Prop}(h:W P N x g (o1 (λg1=>W P N y g1 Φ) Φ)):W P N (.seq x y) g Φ:=by
 intro Q a w I Fs bh a7 dy;refine wp_seq (h bh a7 λe g1 aB gm h1 aA=>?_);cases e with
 | normal =>
  obtain ⟨b2,bZ,I',b1,dX,bL⟩:=aA;exact h1 dX (bZ.1.trans a7) λtT g2 a2 fi af oN=>dy _ _ _ _ af (hR.trans b2 bZ bL oN)
 | _=>exact dy _ _ _ _ h1 aA
theorem W.cond {c:Operand}{x y:Code}{g:aI}{Φ:Exit->aI->Prop}{b:Bool}(aa:bm g c=some (.lit (.bool b))) (h:W P N (if b then x else y) g Φ):W P N (.cond c x y) g Φ :=
 λ_ _ _ _ _ bh a7 dy=>wp_cond (t:=b) (k7 bh aa rfl).h2.1 (h bh a7 dy)
theorem W.LQ {c:Operand}{x y:Code}{g:aI}{Φ:Exit->aI->Prop}(aa:bm g c=some (.lit (.bool true))) (h:W P N x g Φ):W P N (.cond c x y) g Φ:=W.cond aa h
theorem W.LO {c:Operand}{x y:Code}{g:aI}{Φ:Exit->aI->Prop}(aa:bm g c=some (.lit (.bool false))) (h:W P N y g Φ):W P N (.cond c x y) g Φ:=W.cond aa h
theorem W.block {id:Nat}{c:Code}{g:aI}{Φ:Exit->aI->Prop}(h:W P N c g (lS id Φ)):W P N (.block id c) g Φ:=by
 intro Q a w I Fs bh a7 dy;refine wp_block (h bh a7 λe g1 aB gm h1 aA=>?_);cases e with
 | exit k =>
  have af:if k=id then Φ .normal g1 else Φ (.exit k) g1:=h1
  grind [Exit.inBlock]
 | _=>exact dy _ _ _ _ h1 aA
def pe (P:Program) (N:cP) (c:Code) (g:aI) (Φ:Exit->aI->Prop):Prop :=
 ∀ ⦃Q:Exit->Act->World->Prop⦄ ⦃a:Act⦄ ⦃w:World⦄ ⦃I:a_⦄ ⦃Fs:Nat->a_⦄,cB w I a.tmps g Fs->a.tmps.size=N.size->(∀ e g' b0 w',Φ e g'->hR N a w I Fs g' b0 w'->Q e b0 w')->Di P c Q a w
theorem W.loop {c:Code}{g:aI}{Φ:Exit->aI->Prop}(h:pe P N c g Φ):W P N (.loop c) g Φ:=by
 intro Q a w I Fs bh a7 dy b k cs;obtain ⟨e,b0,w',a6,lu⟩:=h bh a7 dy b k cs;exact ⟨e,b0,w',a6,.of_steps (.one step_loop) lu⟩
theorem pe.step {c:Code}{g:aI}{Φ:Exit->aI->Prop}(h:W P N c g (o1 (λg1=>pe P N c g1 Φ) Φ)):pe P N c g Φ:=by
 intro Q a w I Fs bh a7 dy;refine Jo (h bh a7 λe g1 aB gm h1 aA=>?_);cases e with
 | normal =>
  obtain ⟨b2,bZ,I',b1,dX,bL⟩:=aA;exact h1 dX (bZ.1.trans a7) λtT g2 a2 fi af oN=>dy _ _ _ _ af (hR.trans b2 bZ bL oN)
 | _=>exact dy _ _ _ _ h1 aA
theorem W.weaken {c:Code}{g g1:aI}{Φ:Exit->aI->Prop}(hk:j' g g1) (h:W P N c g1 Φ):W P N c g Φ:=by
 intro Q a w I Fs bh a7 dy;obtain ⟨b1,dX,gw⟩:=bh.eH hk;exact h dX a7 λe g' b0 w' h1 aA=>dy _ _ _ _ h1 (hR.trans rfl hr.refl ⟨Fr.refl _ _,λ_ h=>h,λ_ h=>.inl h,λc ⟨t,aa⟩=>.inl ⟨t,gw t c aa⟩⟩ aA)
theorem pe.weaken {c:Code}{g g1:aI}{Φ:Exit->aI->Prop}(hk:j' g g1) (h:pe P N c g1 Φ):pe P N c g Φ:=by
 intro Q a w I Fs bh a7 dy;obtain ⟨b1,dX,gw⟩:=bh.eH hk;exact h dX a7 λe g' b0 w' h1 aA=>dy _ _ _ _ h1 (hR.trans rfl hr.refl ⟨Fr.refl _ _,λ_ h=>h,λ_ h=>.inl h,λc ⟨t,aa⟩=>.inl ⟨t,gw t c aa⟩⟩ aA)
theorem W.out {c:Code}{g:aI}{Φ oq:Exit->aI->Prop}(h:W P N c g Φ) (nx:∀ e g',Φ e g'->∃ g2,j' g' g2/\oq e g2):W P N c g oq:=by
 intro Q a w I Fs bh a7 dy;refine h bh a7 λe g' b0 w' h1 aA=>?_;obtain ⟨g2,hk,af⟩:=nx e g' h1;obtain ⟨b2,bZ,I',b1,dX,bL⟩:=aA;obtain ⟨iJ,hY,gw⟩:=dX.eH hk;exact dy _ _ _ _ af ⟨b2,bZ,I',iJ,hY,bL.trans ⟨Fr.refl _ _,λ_ h=>h,λ_ h=>.inl h,λc ⟨t,aa⟩=>.inl ⟨t,gw t c aa⟩⟩⟩
def K3 (P:Program) (N:cP) (ops:Array Oper) (is:List Nat) (g:aI) (K:aI->Prop):Prop:=∃ g',ox P N ops is g g'/\K g'
theorem W.region {id:Nat}{ops:Array Oper}{g:aI}{Φ:Exit->aI->Prop}(h:K3 P N ops (List.range ops.size) g (Φ .normal)):W P N (.region id ops false) g Φ:=by
 obtain ⟨g',ah,nx⟩:=h;exact (fP.region ah).w nx
theorem b7.X5 {f:FuncId}{fn:Func}{c:Code}{args:List ab}{outs:List (Option ab)}{res:ab}{N:cP}(aS:P.funcs[f]?=some fn) (av:fn.body=some c) (a7:fn.ntmps=N.size) (aQ:args.length<=N.size)
  (hlen:outs.length=args.length) (hw:W P N c (pg args) λe g'=>(e=.normal\/e=.ret)/\Leaves P N fn.results.toList g' args.length outs res):b7 P f args outs res:=by
 refine ⟨hlen,λw I vs Fs II bh=>calls_of_wp aS av ?_⟩;have eF:({ tmps:=vs.toArray++Array.replicate (fn.ntmps - vs.toArray.size) undef,defers:=[] }:Act).tmps.size=N.size:=by
  simp; omega
 have nY:∀ t,t<vs.length->(vs.toArray++Array.replicate (fn.ntmps - vs.toArray.size) undef)[t]?=vs.toArray[t]?:=by
  intro t al;rw [Array.getElem?_append_left (by simpa using al)]
 refine hw (bh.more (T':=vs.toArray++Array.replicate (fn.ntmps - vs.toArray.size) undef) λt al=>nY t ?_) eF λe g' b0 w' ⟨he,aV⟩ aA=>?_
 ·unfold pg at al;rw [II];rcases Nat.lt_or_ge t args.length with h | h
  ·exact h
  ·exact absurd (List.getElem?_eq_none h) al
 obtain ⟨aP,hold,I',b1,dX,bL⟩:=aA;obtain ⟨ys,xs,g1,Nu,al,rfl,oO⟩:=aV.ex;obtain ⟨us,n3,h0,mH⟩:=Nu.run dX;have EB:ys.length=us.length:=by rw [<- Nu.length,n3]
 obtain ⟨fH,dm,iO,ih,g_⟩:=al.sound dX.mo (⟨EB,λk x u j hu=>(mH k x u j hu).frame (λ_ _=>rfl) (λ_ h=>h) (λ_ _ h=>h.1) λ_ _=>rfl,λ_ _ _ _ _ h=>h.elim,λ_ _ _ _ h=>h.elim,λ_ _ _ h=>h.elim⟩:Hand w' I' (fI w' b0.tmps) b1 ys us λ_=>cr);have gw:∀ c,la fH xs.length dm c->∃ t,b1 t c:=by
  intro c aa;rcases g_ c aa with h | ⟨_,_,h⟩
  ·exact h
  ·exact h.elim
 have Vx:∃ iJ,cB w' I' (vs++[xL us]).toArray (lX outs (oX xs)) iJ/\∀ t c,iJ t c->∃ t,b1 t c:=by
  classical
  refine ⟨λt=>if t=outs.length then (λc=>∃ k,k<xs.length/\dm k c) else if ∃ x,outs[t]?=some (some x) then fH t else cr,⟨λt x j=>?_,λt sT c aa=>?_,λt t' c h1 af=>?_,λt c aa=>?_,dX.lt,λt t' z p n m new br cf bd cO h1 af=>?_,dX.gl⟩,λt c aa=>?_⟩
  ·unfold lX at j;by_cases aO:t=outs.length
   ·rw [if_pos aO] at j;cases j;subst aO;refine ⟨xL us,?_,.tree ?_⟩
    ·rw [aV.len,<- II]; simp
    ·simpa using (ih.oX al.Ce _).1
   ·rw [if_neg aO] at j;have fM:outs[t]?=some (some x):=by
     cases bD:outs[t]? with
     | none=>rw [bD] at j; cases j
     | some y=>rw [bD] at j; simpa using j
    obtain ⟨h1,af,aF⟩:=oO t x fM;have IE:t<vs.length:=by
     have:=(List.getElem?_eq_some_iff.1 fM).1;rw [II,<- aV.len]; exact this
    obtain ⟨v,hv,aY⟩:=iO.rel t x h1;refine ⟨v,?_,?_⟩
    ·rw [hold.2 t aF] at hv;simp only at hv;rw [nY t IE] at hv;simp only [List.getElem?_toArray] at hv ⊢;rw [List.getElem?_append_left IE]; exact hv
    ·simp only [aO,if_false];rw [if_pos ⟨x,fM⟩];exact .tree ((aY.gV (by rintro z p n m new rfl; cases af)).bg af)
  ·unfold lX at sT;by_cases aO:t=outs.length
   ·rw [if_pos aO] at sT; cases sT
   ·rw [if_neg aO] at sT;simp only [aO,if_false] at aa;rw [if_neg] at aa
    ·exact aa
    ·rintro ⟨x,j⟩;rw [j] at sT; cases sT
  ·by_cases aO:t=outs.length <;> by_cases DZ:t'=outs.length <;> simp only [aO,DZ,if_true,if_false] at h1 af
   ·rw [aO,DZ]
   ·split at af
    ·obtain ⟨k,hk,aa⟩:=h1;exact absurd af (ih.off k t' c hk aa)
    ·exact af.elim
   ·split at h1
    ·obtain ⟨k,hk,aa⟩:=af;exact absurd h1 (ih.off k t c hk aa)
    ·exact h1.elim
   ·split at h1
    ·split at af
     ·exact iO.eB _ _ _ h1 af
     ·exact af.elim
    ·exact h1.elim
  ·by_cases aO:t=outs.length <;> simp only [aO,if_true,if_false] at aa
   ·obtain ⟨k,hk,aa⟩:=aa;exact ih.bk k c hk aa
   ·split at aa
    ·exact iO.bk _ _ aa
    ·exact aa.elim
  ·have key:∀ t x,lX outs (oX xs) t=some x->cA x:=by
    intro t x j;unfold lX at j
    split at j
    ·cases j; exact (ih.oX al.Ce (λ_ _=>False)).2
    ·cases bD:outs[t]? with
     | none=>rw [bD] at j; cases j
     | some y=>rw [bD] at j; exact (oO t x (by rw [bD]; simpa using j)).2.1
   have:=key t _ h1;cases this
  ·by_cases aO:t=outs.length <;> simp only [aO,if_true,if_false] at aa
   ·obtain ⟨k,hk,aa⟩:=aa;exact gw c (.inr ⟨k,hk,aa⟩)
   ·split at aa
    ·exact gw c (.inl ⟨t,aa⟩)
    ·exact aa.elim
 obtain ⟨iJ,hY,Wq⟩:=Vx;have V':b0.defers=[]/\∃ v,(results fn b0.tmps).run P w'=.ok v w'/\∃ eg I' b1,Ending.returned v=.returned eg/\cB w' I' (vs++[eg]).toArray (lX outs (oX xs)) b1/\kR w I (λc=>∃ t,Fs t c) w' I' (λc=>∃ t,b1 t c) :=
  ⟨aP,xL us,Ze n3 h0,xL us,I',iJ,rfl,hY,bL.trans ⟨Fr.refl _ _,λ_ h=>h,λ_ h=>.inl h,λc ⟨t,aa⟩=>.inl (Wq t c aa)⟩⟩
 rcases he with rfl | rfl <;> exact V'
end
end Go.Own
namespace Go.Own
open Go
set_option linter.unusedSectionVars false
variable [cE]
def get:List (Nat × ab)->aI
 | [],_=>none
 | (s,x)::l,t=>if t=s then some x else get l t
inductive Rd (g:aI):Operand->ab->Prop
 | lit {t:Nat}{v:Value}(h:g t=some (.lit v)):Rd g (.tmp t) (.lit v)
 | k {v:Value}(h:ofConst v=.lit v):Rd g (.const v) (.lit v)
 | zf:Rd g (.const (.slice none 0 0)) .aU
 | Jg {v:Value}{cs:List ab}(h:ofConst v=.agg cs):Rd g (.const v) (.agg cs)
 | aU {t:Nat}(h:g t=some .aU):Rd g (.tmp t) .aU
 | bk {t z n:Nat}{cs:List ab}(h:g t=some (.bk z n cs)):Rd g (.tmp t) (.bk z n cs)
 | own {t z n:Nat}{cs:List ab}(h:g t=some (.own z n cs)):Rd g (.tmp t) (.bl z ⟨t,[]⟩ n)
 | obj {t:Nat}{c:ab}{cs:List ab}(h:g t=some (.obj (c::cs))):Rd g (.tmp t) (.ptr ⟨t,[]⟩ 0)
 | cJ {t:Nat}{cs:List ab}(h:g t=some (.cJ cs)):Rd g (.tmp t) (.cJ cs)
 | ptr {t k:Nat}{p:Place}(h:g t=some (.ptr p k)):Rd g (.tmp t) (.ptr p k)
 | bl {t z n:Nat}{p:Place}(h:g t=some (.bl z p n)):Rd g (.tmp t) (.bl z p n)
 | sub {t z lo n:Nat}{p:Place}(h:g t=some (.sub z p lo n)):Rd g (.tmp t) (.sub z p lo n)
 | bC {t z n m:Nat}{p:Place}{new:List ab}(h:g t=some (.bC z p n m new)):Rd g (.tmp t) (.bl z ⟨t,[]⟩ (n+m))
 | agg {t:Nat}{cs cs':List ab}(h:g t=some (.agg cs)) (aa:(cs.mapIdx λi x=>fC 1 (Place.push ⟨t,[]⟩ i) x)=cs'):Rd g (.tmp t) (.agg cs')
 | bJ {t:Nat}{cs cs':List ab}(h:g t=some (.bJ cs)) (aa:(cs.mapIdx λi x=>fC 1 (Place.push ⟨t,[]⟩ i) x)=cs'):Rd g (.tmp t) (.bJ cs')
 | func {f:FuncId}:Rd g (.func f) (.di (.func f) [] [])
 | di {t:Nat}{fn:Fn}{cs:List ab}(h:g t=some (.di fn [] cs)):Rd g (.tmp t) (.di fn [] cs)
 | mp {t:Nat}{q:Array MapEntry->Nat->Prop}(h:g t=some (.mp q)):Rd g (.tmp t) (.hf ⟨t,[]⟩)
 | hf {t:Nat}{p:Place}(h:g t=some (.hf p)):Rd g (.tmp t) (.hf p)
 | imp {t:Nat}{q:Array MapEntry->Nat->Prop}(h:g t=some (.imp q)):Rd g (.tmp t) (.imp q)
theorem Rd.bm {g:aI}{x:Operand}{y:ab}(h:Rd g x y):bm g x=some y:=by
 cases h with
 | agg h aa=>subst aa; simp [Own.bm,h,od,fC]
 | bJ h aa=>subst aa; simp [Own.bm,h,od,fC]
 | k h=>simp [Own.bm,h]
 | zf=>rfl
 | Jg h=>simp [Own.bm,h]
 | func=>rfl
 | _ h=>simp [Own.bm,h,od,fC]
section
variable {P:Program}{N:cP}{ops:Array Oper}{g:aI}{K:aI->Prop}{l:List Oper}
def aC (P:Program) (N:cP) (ops:Array Oper) (l:List Oper) (g:aI) (K:aI->Prop):Prop:=∀ i,ops.toList.drop i=l->K3 P N ops (List.range' i l.length) g K
theorem W.zO {id:Nat}{l:List Oper}{g:aI}{Φ:Exit->aI->Prop}(h:aC P N l.toArray l g (Φ .normal)):W P N (.region id l.toArray false) g Φ:=by
 refine W.region ?_;have:=h 0 (by simp)
 grind [List.range_eq_range']
theorem aC.nil (h:K g):aC P N ops [] g K:=λ_ _=>⟨g,.nil,h⟩
theorem drop_cons {i:Nat}{o:Oper}(h:ops.toList.drop i=o::l):ops[i]?=some o/\ops.toList.drop (i+1)=l:=by
 have h1:(ops.toList.drop i)[0]?=some o:=by rw [h]; rfl
 rw [List.getElem?_drop] at h1;refine ⟨by simpa using h1,?_⟩;rw [<- List.drop_drop,h];rfl
variable {d:Nat}{op:Op}{ty:TypeId}{pos:String}{after:Array Edge}{x:ab}
theorem aC.zT {r:Option ab}{o:Oper}(aP:o.dst=some d) (a7:N.ok d=true) (aS:g d=none) (aw:p2 P g ops o r) (hk:aC P N ops l (xH g d r) K):aC P N ops (o::l) g K:=by
 intro i hi;obtain ⟨h1,af⟩:=drop_cons hi;obtain ⟨g',ah,c5⟩:=hk (i+1) af;exact ⟨g',.step h1 aP aS a7 aw ah,c5⟩
inductive KQ (g:aI) (d:Nat):aI->Prop
 | new (h:g d=none):KQ g d g
 | jA {y:ab}(h:g d=some y) (ai:leaf y=true):KQ g d (del g d)
inductive Gd (g:aI) (ops:Array Oper):Option (Nat × Bool)->Prop
 | none:Gd g ops none
 | yes {J t:Nat}{b:Bool}(h:(ops[J]?).bind (·.dst)=some t) (aK:g t=some (.lit (.bool b))):Gd g ops (some (J,b))
variable {gd:Option (Nat × Bool)}{g1:aI}
theorem Gd.del {y:ab}(h:Gd g ops gd) (aP:g d=some y) (av:∀ b,y≠.lit (.bool b)):ic (del g d) ops ⟨some d,op,ty,pos,after,gd⟩ true:=by
 cases h with
 | none=>rfl
 | @yes J t b h aK =>
  have:t≠d:=by
   grind
  exact ⟨t,h,.inl ⟨b,by simp only [Own.del,if_neg this,aK],by simp⟩⟩
theorem Gd.wanted (h:Gd g ops gd):ic g ops ⟨some d,op,ty,pos,after,gd⟩ true:=by
 cases h with
 | none=>rfl
 | @yes J t b h aK=>exact ⟨t,h,.inl ⟨b,aK,by simp⟩⟩
theorem aC.Kq (ar:b5 P g op ty x) (a7:N.ok d=true) (aS:g d=none) (hw:ic g ops ⟨some d,op,ty,pos,after,gd⟩ true) (hk:aC P N ops l (cH g d x) K):aC P N ops (⟨some d,op,ty,pos,after,gd⟩::l) g K :=
 .zT rfl a7 aS (r:=some x) (.inl ⟨hw,.inl ar⟩) hk
theorem aah:cH (del g d) d x=cH g d x:=by
 grind [cH,del]
theorem aC.val (ar:cR P g op ty x) (a7:N.ok d=true) (aS:g d=none) (aK:Gd g ops gd) (hk:aC P N ops l (cH g d x) K):aC P N ops (⟨some d,op,ty,pos,after,gd⟩::l) g K :=
 .Kq (.eJ ar) a7 aS aK.wanted hk
theorem aC.over {y:ab}(ar:cR P (del g d) op ty x) (a7:N.ok d=true) (aS:g d=some y) (ai:leaf y=true) (hk:aC P N ops l (cH g d x) K):aC P N ops (⟨some d,op,ty,pos,after,none⟩::l) g K:=by
 intro i hi;obtain ⟨g',ah,c5⟩:=aC.Kq (pos:=pos) (after:=after) (gd:=Option.none) (.eJ ar) a7 (by simp [del]) (Gd.wanted .none) (by rw [aah]; exact hk) i hi;exact ⟨g',.drop aS ai ah,c5⟩
theorem aC.aal (ar:b5 P g op ty x) (a7:N.ok d=true) (aS:g d=none) (aK:Gd g ops gd) (hk:aC P N ops l (cH g d x) K):aC P N ops (⟨some d,op,ty,pos,after,gd⟩::l) g K :=
 .Kq ar a7 aS aK.wanted hk
theorem aC.call (ar:dd P g op x) (a7:N.ok d=true) (aS:g d=none) (aK:Gd g ops gd) (hk:aC P N ops l (cH g d x) K):aC P N ops (⟨some d,op,ty,pos,after,gd⟩::l) g K :=
 .zT rfl a7 aS (r:=some x) (.inl ⟨aK.wanted,.inr ar⟩) hk
theorem aC.pass {J t':Nat}{b:Bool}(h:(ops[J]?).bind (·.dst)=some t') (aK:g t'=some (.lit (.bool (!b)))) (a7:N.ok d=true) (aS:g d=none) (hk:aC P N ops l g K):aC P N ops (⟨some d,op,ty,pos,after,some (J,b)⟩::l) g K :=
 .zT rfl a7 aS (r:=Option.none) ⟨t',h,.inl ⟨!b,aK,by cases b <;> rfl⟩⟩ hk
variable {ds:Option Nat}
theorem aC.forget {g1:aI}(hk:hh g g1) (h:aC P N ops l g1 K):aC P N ops l g K:=by
 intro i hi;obtain ⟨g',ah,c5⟩:=h i hi;exact ⟨g',.forget hk ah,c5⟩
variable {a b:Operand}{t t2:TypeId}{k:IntKind}{m n:Int}
theorem cR.add (j:Rd g a (.lit (.int k m))) (ak:Rd g b (.lit (.int k n))):cR P g (.binOp .add t a b t2) ty (.lit (.int k (k.wrap (m+n)))) :=
 .bin j.bm ak.bm rfl λw=>by simp [eqGuard,binOp,Op.intArith]
theorem cR.ZG (j:Rd g a (.lit (.int k m))) (ak:Rd g b (.lit (.int k n))):cR P g (.binOp .sub t a b t2) ty (.lit (.int k (k.wrap (m - n)))) :=
 .bin j.bm ak.bm rfl λw=>by simp [eqGuard,binOp,Op.intArith]
theorem cR.mul (j:Rd g a (.lit (.int k m))) (ak:Rd g b (.lit (.int k n))):cR P g (.binOp .mul t a b t2) ty (.lit (.int k (k.wrap (m * n)))) :=
 .bin j.bm ak.bm rfl λw=>by simp [eqGuard,binOp,Op.intArith]
theorem cR.quo (j:Rd g a (.lit (.int k m))) (ak:Rd g b (.lit (.int k n))) (h:n≠0):cR P g (.binOp .quo t a b t2) ty (.lit (.int k (k.wrap (m.tdiv n)))) :=
 .bin j.bm ak.bm rfl λw=>by simp [eqGuard,binOp,Op.intDiv,h]
theorem cR.rem (j:Rd g a (.lit (.int k m))) (ak:Rd g b (.lit (.int k n))) (h:n≠0):cR P g (.binOp .rem t a b t2) ty (.lit (.int k (m.tmod n))) :=
 .bin j.bm ak.bm rfl λw=>by simp [eqGuard,binOp,Op.intDiv,h]
theorem cR.cat {s u:ByteArray}(j:Rd g a (.lit (.string s))) (ak:Rd g b (.lit (.string u))) (h:s.size+u.size<=9223372036854775807):cR P g (.binOp .add t a b t2) ty (.lit (.string (s++u))) :=
 .bin j.bm ak.bm rfl λw=>by
  have:¬ ((s.size+u.size:Nat):Int) > IntKind.i64.max:=by
   have:IntKind.i64.max=9223372036854775807:=by decide
   omega
  simp only [eqGuard,binOp,Op.stringOp,if_neg this];simp
theorem LB {s u:ByteArray}(h:s.toList=u.toList):s=u:=by
 have h1:s.data.toList=u.data.toList:=by
  grind [ByteArray.toList_eq]
 cases s
 simp_all
theorem cR.nU {s u:ByteArray}(j:Rd g a (.lit (.string s))) (ak:Rd g b (.lit (.string u))) {c:Bool}(aa:c=true↔s=u):cR P g (.binOp .eql t a b t2) ty (.lit (.bool c)) :=
 .bin j.bm ak.bm rfl λw=>by
  have:(s.toList == u.toList)=c:=by
   rw [Bool.eq_iff_iff,aa];simp only [beq_iff_eq];exact ⟨LB,λh=>by rw [h]⟩
  simp [eqGuard,binOp,Op.stringOp,this]
theorem cR.n' {s u:ByteArray}(j:Rd g a (.lit (.string s))) (ak:Rd g b (.lit (.string u))) {c:Bool}(aa:c=true↔s≠u):cR P g (.binOp .neq t a b t2) ty (.lit (.bool c)) :=
 .bin j.bm ak.bm rfl λw=>by
  have:(s.toList == u.toList)=!c:=by
   rw [Bool.eq_iff_iff];simp only [beq_iff_eq,Bool.not_eq_true'];cases c with
   | true=>simp only [true_iff] at aa; simp only [Bool.true_eq_false,iff_false]; exact λh=>aa (LB h)
   | false =>
    simp only [Bool.false_eq_true,false_iff,Decidable.not_not] at aa;simp [aa]
  simp [eqGuard,binOp,Op.stringOp,this]
theorem cR.lss (j:Rd g a (.lit (.int k m))) (ak:Rd g b (.lit (.int k n))) {c:Bool}(aa:c=true↔m<n):cR P g (.binOp .lss t a b t2) ty (.lit (.bool c)) :=
 .bin j.bm ak.bm rfl λw=>by
  have:decide (m<n)=c:=by rw [Bool.eq_iff_iff,aa]; simp
  simp [eqGuard,binOp,Op.intCmp,this]
theorem cR.leq (j:Rd g a (.lit (.int k m))) (ak:Rd g b (.lit (.int k n))) {c:Bool}(aa:c=true↔m<=n):cR P g (.binOp .leq t a b t2) ty (.lit (.bool c)) :=
 .bin j.bm ak.bm rfl λw=>by
  have:decide (m<=n)=c:=by rw [Bool.eq_iff_iff,aa]; simp
  simp [eqGuard,binOp,Op.intCmp,this]
theorem cR.gtr (j:Rd g a (.lit (.int k m))) (ak:Rd g b (.lit (.int k n))) {c:Bool}(aa:c=true↔n<m):cR P g (.binOp .gtr t a b t2) ty (.lit (.bool c)) :=
 .bin j.bm ak.bm rfl λw=>by
  have:decide (n<m)=c:=by rw [Bool.eq_iff_iff,aa]; simp
  simp [eqGuard,binOp,Op.intCmp,this]
theorem cR.geq (j:Rd g a (.lit (.int k m))) (ak:Rd g b (.lit (.int k n))) {c:Bool}(aa:c=true↔n<=m):cR P g (.binOp .geq t a b t2) ty (.lit (.bool c)) :=
 .bin j.bm ak.bm rfl λw=>by
  have:decide (n<=m)=c:=by rw [Bool.eq_iff_iff,aa]; simp
  simp [eqGuard,binOp,Op.intCmp,this]
theorem cR.eql (j:Rd g a (.lit (.int k m))) (ak:Rd g b (.lit (.int k n))) {c:Bool}(aa:c=true↔m=n):cR P g (.binOp .eql t a b t2) ty (.lit (.bool c)) :=
 .bin j.bm ak.bm rfl λw=>by
  have:(m == n)=c:=by rw [Bool.eq_iff_iff,aa]; simp
  simp [eqGuard,binOp,Op.intCmp,this]
theorem cR.neq (j:Rd g a (.lit (.int k m))) (ak:Rd g b (.lit (.int k n))) {c:Bool}(aa:c=true↔m≠n):cR P g (.binOp .neq t a b t2) ty (.lit (.bool c)) :=
 .bin j.bm ak.bm rfl λw=>by
  have:(m != n)=c:=by rw [Bool.eq_iff_iff,aa]; simp
  simp [eqGuard,binOp,Op.intCmp,this]
theorem cR.not {c:Bool}(j:Rd g a (.lit (.bool c))):cR P g (.unOp .not t a) ty (.lit (.bool (!c))) :=
 .un j.bm rfl λw=>by simp [Op.unary]
theorem cR.YF {c a b:Operand}{y:ab}(aa:Rd g c (.lit (.bool true))) (ah:Rd g a y):cR P g (.pick c a b) ty y:=.pick aa.bm ah.bm
theorem cR.YE {c a b:Operand}{y:ab}(aa:Rd g c (.lit (.bool false))) (ah:Rd g b y):cR P g (.pick c a b) ty y:=.pick aa.bm ah.bm
theorem cR.oU {s:ByteArray}(j:Rd g a (.lit (.string s))) (al:oh P t=true):cR P g (.call { callee:=.builtin .len,args:=#[a],argTypes:=#[t] }) ty (.lit (.int .i64 s.size)) :=
 .lits (vs:=[.string s]) (by simp [j.bm]) rfl λw cs=>by
  simp [builtin,Builtin.len_,run_underlying (Kg al),goInt]
section
variable {Ψ:aI->Prop}{Φ:Exit->aI->Prop}{id k:Nat}
theorem ZY (h:Ψ g):o1 Ψ Φ .normal g:=h
theorem ZZ (h:Φ .ret g):o1 Ψ Φ .ret g:=h
theorem ZX (h:Φ (.exit k) g):o1 Ψ Φ (.exit k) g:=h
theorem Xl (h:Φ .normal g):lS id Φ .normal g:=h
theorem Xm (h:Φ .ret g):lS id Φ .ret g:=h
theorem Xj (h:Φ .normal g):lS id Φ (.exit id) g:=by
 show if id=id then Φ .normal g else Φ (.exit id) g
 grind
theorem Xk (hk:Nat.beq k id=false) (h:Φ (.exit k) g):lS id Φ (.exit k) g:=by
 show if k=id then Φ .normal g else Φ (.exit k) g
 grind [Nat.ne_of_beq_eq_false]
end
def Fin (P:Program) (N:cP) (rs:List ResultVar) (n:Nat) (outs:List (Option ab)) (res:ab) (e:Exit) (g':aI):Prop:=(e=.normal\/e=.ret)/\Leaves P N rs g' n outs res
theorem b7.fin {f:FuncId}{fn:Func}{c:Code}{args:List ab}{outs:List (Option ab)}{res:ab}{N:cP}(aS:P.funcs[f]?=some fn) (av:fn.body=some c) (a7:fn.ntmps=N.size) (aQ:Nat.ble args.length N.size=true) (hlen:outs.length=args.length)
  (hw:W P N c (pg args) (Fin P N fn.results.toList args.length outs res)):b7 P f args outs res:=.X5 aS av a7 (Nat.le_of_ble_eq_true aQ) hlen hw
def s_ (outs:List (Option ab)):Bool:=outs.all λx=>x.isNone
theorem E5 {outs:List (Option ab)}(h:s_ outs=true) (k:Nat) (x:ab):outs[k]?≠some (some x):=by
 intro e;have:=List.all_eq_true.1 h _ (List.mem_of_getElem? e)
 grind
theorem Fin.one {t:Nat}{y res:ab}{outs:List (Option ab)}{n:Nat}(ak:Rd g (.tmp t) y) (aA:cA y) (aV:s_ outs=true) (ai:outs.length=n) (he:y=res):Fin P N [.tmp t] n outs res .ret g :=
 ⟨.inr rfl,⟨[y],[y],g,.cons (.tmp ak.bm) .nil,.bg (by simpa using aA),he.symm,λk x hk=>absurd hk (E5 aV k x)⟩,ai⟩
inductive Am (g:aI):List ResultVar->List ab->Prop
 | nil:Am g [] []
 | cons {t:Nat}{y:ab}{rs:List ResultVar}{ys:List ab}(h:Rd g (.tmp t) y) (aA:cA y) (al:Am g rs ys):Am g (.tmp t::rs) (y::ys)
theorem Am.spec {rs:List ResultVar}{ys:List ab}(h:Am g rs ys):ry P g rs ys/\∀ y∈ys,cA y:=by
 induction h with
 | nil=>exact ⟨.nil,by simp⟩
 | cons h aA _ aL=>exact ⟨.cons (.tmp h.bm) aL.1,pG aA aL.2⟩
inductive rv (g:aI):List Operand->List ab->Prop
 | nil:rv g [] []
 | cons {x:Operand}{y:ab}{xs:List Operand}{ys:List ab}(h:Rd g x y) (aA:cA y) (al:rv g xs ys):rv g (x::xs) (y::ys)
theorem rv.spec {xs:List Operand}{ys:List ab}(h:rv g xs ys):fB g xs=some ys/\∀ y∈ys,cA y:=by
 induction h with
 | nil=>exact ⟨rfl,by simp⟩
 | cons h aA _ aL=>exact ⟨by simp only [fB,h.bm,aL.1],pG aA aL.2⟩
theorem dd.Tk {xs:List Operand}{gh:Array TypeId}{f:FuncId}{ys:List ab}{outs:List (Option ab)}{res:ab}(gS:b7 P f ys outs res) (aS:ju P f=true) (j:rv g xs ys) (aV:s_ outs=true) (ah:cA res) :
  dd P g (.call { callee:=.value (.func f),args:=xs.toArray,argTypes:=gh }) res:=by
 have oO:outs=ys.map λ_=>Option.none:=by
  apply List.ext_getElem?;intro k;rw [List.getElem?_map];cases ak:ys[k]? with
  | none=>rw [List.getElem?_eq_none (by rw [gS.1]; exact List.getElem?_eq_none_iff.1 ak)]; rfl
  | some y =>
   have hk:k<outs.length:=by rw [gS.1]; exact (List.getElem?_eq_some_iff.1 ak).1
   have h1:=List.getElem?_eq_getElem hk;rw [h1];cases af:outs[k] with
   | none=>rfl
   | some x=>rw [af] at h1; exact absurd h1 (E5 aV k x)
 exact .plain (first:=[]) (caps:=[]) (ys:=ys) rfl (by simpa using j.spec.1) aS (by simpa using j.spec.2) (by simpa [<- oO] using gS) ah
end
end Go.Own
namespace Go.Own
open Go
set_option linter.unusedSectionVars false
variable [cE]
def ll (s:ByteArray) (m:Int):Int:=((s[m.toNat]?.getD 0).toNat:Nat)
def p6 (s:ByteArray) (m n:Int):ByteArray:=s.extract m.toNat n.toNat
section
variable {P:Program}{N:cP}{ops:Array Oper}{g:aI}{K:aI->Prop}{l:List Oper}
variable {d:Nat}{op:Op}{ty:TypeId}{pos:String}{after:Array Edge}{x:ab}{a b:Operand}{t t2:TypeId}{k:IntKind}{m n:Int}{gd:Option (Nat × Bool)}
theorem cR.RN {s:ByteArray}{i:Operand}(j:Rd g a (.lit (.string s))) (hi:Rd g i (.lit (.int k m))) (al:oh P t=true) (h:0<=m/\m<s.size):cR P g (.index t a i) ty (.lit (.int .u8 (ll s m))):=by
 obtain ⟨J,rfl⟩:=Int.eq_ofNat_of_zero_le h.1;have aj:J<s.size:=by omega
 have av:s[J]?=some s[J]:=getElem?_pos s J aj;have:ll s (J:Int)=(s[J].toNat:Nat):=by simp [ll,av]
 rw [this];exact .EG j.bm hi.bm al av
theorem cR.PK {s:ByteArray}{lo hi:Operand}{qp:IntKind}(j:Rd g a (.lit (.string s))) (ai:Rd g lo (.lit (.int k m))) (bD:Rd g hi (.lit (.int qp n))) (al:oh P t=true) (h:0<=m/\m<=n/\n<=s.size) :
  cR P g (.slice t a (some lo) (some hi) none) ty (.lit (.string (p6 s m n))):=by
 obtain ⟨i,rfl⟩:=Int.eq_ofNat_of_zero_le h.1;obtain ⟨J,rfl⟩:=Int.eq_ofNat_of_zero_le (show 0<=n by omega);exact .zS j.bm ⟨_,ai.bm⟩ ⟨_,bD.bm⟩ al (by omega) (by omega)
theorem cR.Zy {s:ByteArray}{hi:Operand}{qp:IntKind}(j:Rd g a (.lit (.string s))) (bD:Rd g hi (.lit (.int qp n))) (al:oh P t=true) (h:0<=n/\n<=s.size) :
  cR P g (.slice t a none (some hi) none) ty (.lit (.string (p6 s 0 n))):=by
 obtain ⟨J,rfl⟩:=Int.eq_ofNat_of_zero_le h.1;exact .zS (l:=0) j.bm rfl ⟨_,bD.bm⟩ al (by omega) (by omega)
theorem cR.Zz {s:ByteArray}{lo:Operand}(j:Rd g a (.lit (.string s))) (ai:Rd g lo (.lit (.int k m))) (al:oh P t=true) (h:0<=m/\m<=s.size) :
  cR P g (.slice t a (some lo) none none) ty (.lit (.string (p6 s m s.size))):=by
 obtain ⟨J,rfl⟩:=Int.eq_ofNat_of_zero_le h.1;exact .zS (h:=s.size) j.bm ⟨_,ai.bm⟩ rfl al (by omega) (by omega)
theorem cR.bytes {z p iK:Nat}{cs:List ab}{xs:List Int}(j:g p=some (.own 1 iK cs)) (gT:cs=xs.map λb=>.lit (.int .u8 b)) (ai:cs.length=iK) (al:u' P t t2=true) (_hz:z=0):cR P g (.convert t t2 (.tmp p)) ty (.lit (.string (strOfNums xs))) :=
 .DJ (p:=⟨p,[]⟩) (n:=iK) (N:=iK) (cs:=cs) (by simp [bm,j,od,fC]) (by simp [bx,j,ab.at]) (Nat.le_refl _) (by rw [List.take_of_length_le (by omega)]; exact gT) al
def h5 (P:Program) (e:TypeId) (z:Nat):Bool :=
 match (P.info? e).bind (·.zero) with
 | some v=>v.cells.size == z
 | none=>false
theorem KE {e:TypeId}{z:Nat}(h:h5 P e z=true):∃ v,(P.info? e).bind (·.zero)=some v/\v.cells.size=z:=by
 grind [h5]
inductive tA (g:aI):List Operand->List Value->Prop
 | nil:tA g [] []
 | cons {x:Operand}{v:Value}{xs:List Operand}{vs:List Value}(h:Rd g x (.lit v)) (al:tA g xs vs):tA g (x::xs) (v::vs)
theorem tA.fB {xs:List Operand}{vs:List Value}(h:tA g xs vs):fB g xs=some (vs.map .lit):=by
 induction h with
 | nil=>rfl
 | cons h _ aL=>simp only [Own.fB,h.bm,aL]; rfl
theorem tA.map {xs:List Operand}{vs:List Value}(h:tA g xs vs):xs.map (bm g)=vs.map λv=>some (.lit v):=by
 induction h with
 | nil=>rfl
 | cons h _ aL=>simp only [List.map_cons,h.bm,aL]
theorem b5.row {e:TypeId}{xs:List Operand}{vs:List Value}{parts:Array (Nat × Operand)}{de:Nat}(j:tA g xs vs) (ar:parts.toList=xs.mapIdx (λi x=>(i,x))) (aA:xs.length=de) (al:fa P t e 1=true) (aT:h5 P e 1=true) (av:Nat.ble de 1000=true) :
  b5 P g (.buildSlice t de parts) ty (.own 1 de (vs.map .lit)):=by
 subst aA;have h9:=Nat.le_of_ble_eq_true av;refine .q6 (.buildSlice al ar j.fB (λy ak=>?_) ?_ (by omega) (by omega) (.inr (KE aT)))
 ·obtain ⟨v,_,rfl⟩:=List.mem_map.1 ak;exact ⟨[.lit v],rfl,rfl⟩
 ·generalize vs=l
  induction l with
  | nil=>rfl
  | cons v l aL=>simp only [List.map_cons,l8,jc,aL]; rfl
inductive tE (g:aI):List Nat->List (Nat × ab)->Prop
 | nil:tE g [] []
 | some {s:Nat}{x:ab}{tj:List Nat}{l:List (Nat × ab)}(h:g s=some x) (aA:cA x) (al:tE g tj l):tE g (s::tj) ((s,x)::l)
 | none {s:Nat}{tj:List Nat}{l:List (Nat × ab)}(al:tE g tj l):tE g (s::tj) l
theorem tE.spec {g:aI}{tj:List Nat}{l:List (Nat × ab)}(h:tE g tj l):∀ t x,get l t=Option.some x->g t=Option.some x/\cA x:=by
 induction h with
 | nil=>intro t x j; cases j
 | @some s y tj l h aA _ aL =>
  grind [get]
 | none _ aL=>exact aL
theorem tE.eH {g:aI}{tj:List Nat}{l:List (Nat × ab)}(h:tE g tj l):j' g (get l) :=
 ⟨λt x j=>⟨x,(h.spec t x j).1,.refl⟩,λt x j=>.bg (h.spec t x j).2,λt z q n m new j=>by have:=(h.spec t _ j).2; cases this⟩
end
end Go.Own
namespace Go.Own
open Go
set_option linter.unusedSectionVars false
variable [cE]
def oy (s:ByteArray) (n:Nat):Prop:=s.size<=n
theorem oy.app {s u:ByteArray}{a b:Nat}(h:oy s a) (aH:oy u b):oy (s++u) (a+b):=by
 unfold oy at *;rw [ByteArray.size_append]; omega
theorem oy.cut {s:ByteArray}{a:Nat}{m n:Int}(h:oy s a):oy (p6 s m n) a:=by
 unfold oy p6 at *;rw [ByteArray.size_extract]; omega
theorem oy.const {xs:Array UInt8}:oy ⟨xs⟩ xs.size:=Nat.le_refl _
theorem oy.of {s:ByteArray}{n:Nat}(h:s.size<=n):oy s n:=h
theorem oy.self {s:ByteArray}:oy s s.size:=Nat.le_refl _
section
variable {P:Program}{g:aI}{ty:TypeId}{a b:Operand}{t t2:TypeId}{N:cP}{ops:Array Oper}{K:aI->Prop}{l:List Oper}{d:Nat}{pos:String}{after:Array Edge}{gd:Option (Nat × Bool)}
theorem W.LP {c:Operand}{x y:Code}{Φ:Exit->aI->Prop}{b:Bool}(aa:Rd g c (.lit (.bool b))) (cX:b=true->W P N x g Φ) (aG:b=false->W P N y g Φ):W P N (.cond c x y) g Φ:=by
 cases b with
 | true=>exact .LQ aa.bm (cX rfl)
 | false=>exact .LO aa.bm (aG rfl)
theorem Zc {c e:Bool}(al:P.underlying t=some .bool) (w:World):(do eqGuard .eql t a b (.bool c) (.bool e); binOp .eql t (.bool c) (.bool e):Sem Value).run P w=.ok (.bool (c == e)) w:=by
 have h:=run_equal_bool w t c e al;simp [eqGuard,binOp,h]
def Gz (P:Program) (t:TypeId):Bool :=
 match P.underlying t with
 | some .bool=>true
 | _=>false
theorem R0 (h:Gz P t=true):P.underlying t=some .bool:=by
 unfold Gz at h
 split at h
 ·assumption
 ·cases h
def uB (P:Program) (t:TypeId) (k:IntKind):Bool :=
 match P.underlying t with
 | some (.int kD)=>kD == k
 | _=>false
theorem NP {k:IntKind}(h:uB P t k=true):P.underlying t=some (.int k):=by
 unfold uB at h
 split at h
 ·rename_i kD hk; rw [hk]; have:kD=k:=by simpa using h
  rw [this]
 ·cases h
theorem cR.S3 {k kD:IntKind}{m:Int}(j:Rd g a (.lit (.int k m))) (aw:uB P t k=true) (aP:uB P t2 kD=true):cR P g (.convert t t2 a) ty (.lit (.int kD (kD.wrap m))) :=
 .conv j.bm rfl λw=>by simp [convert,run_underlying (NP aw),run_underlying (NP aP),Conv.intToInt]
inductive Bytes (g:aI):List Operand->List Int->Prop
 | nil:Bytes g [] []
 | cons {x:Operand}{v:Int}{xs:List Operand}{vs:List Int}(h:Rd g x (.lit (.int .u8 v))) (al:Bytes g xs vs):Bytes g (x::xs) (v::vs)
theorem Bytes.lits {xs:List Operand}{vs:List Int}(h:Bytes g xs vs):tA g xs (vs.map λb=>.int .u8 b):=by
 induction h with
 | nil=>exact .nil
 | cons h _ aL=>exact .cons h aL
end
end Go.Own
namespace Go.Own
open Go Go.RowKit
set_option linter.unusedSectionVars false
variable [cE]
theorem cB.lits {w:World}(vs:List Value) (h:∀ v∈vs,v.oneCell'=true) (iB:cE.q w λ_=>False):cB w (λ_=>False) vs.toArray (pg (vs.map .lit)) (λ_=>cr):=by
 refine ⟨λt x j=>?_,λ_ _ _ h=>h,λ_ _ _ h=>h.elim,λ_ _ h=>h.elim,λ_ h=>h.elim,λt t' z p n m new br cf bd cO h1 _=>?_,iB⟩
 ·simp only [pg,List.getElem?_map] at j;cases hv:vs[t]? with
  | none=>rw [hv] at j; cases j
  | some v =>
   rw [hv] at j;simp only [Option.map_some,Option.some.injEq] at j;subst j;exact ⟨v,by simpa using hv,.tree (.lit (h v (List.mem_of_getElem? hv)) λ_ h=>h)⟩
 ·simp only [pg,List.getElem?_map] at h1;cases hv:vs[t]? with
  | none=>rw [hv] at h1; cases h1
  | some v=>rw [hv] at h1; cases h1
end Go.Own
namespace Go.Own
open Go
set_option linter.unusedSectionVars false
variable [cE]
section
variable {P:Program}{g:aI}{ty:TypeId}{a b:Operand}{t t2:TypeId}{N:cP}{ops:Array Oper}{K:aI->Prop}{l:List Oper}{d:Nat}{pos:String}{after:Array Edge}{gd:Option (Nat × Bool)}
theorem cR.n_ {z n br:Nat}{p:Place}{e:TypeId}(j:Rd g a (.bl z p n)) (al:fa P t e br=true):cR P g (.call { callee:=.builtin .len,args:=#[a],argTypes:=#[t] }) ty (.lit (.int .i64 n)):=.B1 j.bm al
theorem cR.jk {z n br:Nat}{cs:List ab}{e:TypeId}(j:Rd g a (.bk z n cs)) (al:fa P t e br=true):cR P g (.call { callee:=.builtin .len,args:=#[a],argTypes:=#[t] }) ty (.lit (.int .i64 n)):=.B2 j.bm al
end
end Go.Own
namespace Go.Own
open Go
set_option linter.unusedSectionVars false
variable [cE]
end Go.Own
namespace Go.Own
open Go
set_option linter.unusedSectionVars false
variable [cE]
structure bA (α:Type) where
 z:Nat
 cells:α->List ab
 len:∀ a,(cells a).length=z
 bg:∀ a,∀ x∈cells a,cA x
variable {α β S R:Type}
def bp (e:bA α) (l:List α):List ab:=l.flatMap e.cells
abbrev aq (e:bA α) (l:List α):ab:=.own e.z l.length (bp e l)
abbrev ao (e:bA α) (l:List α):ab:=.bk e.z l.length (bp e l)
abbrev ae (n:Int):ab:=.lit (.int .i64 n)
abbrev pc (n:Int):ab:=.lit (.int .u8 n)
abbrev bf (b:Bool):ab:=.lit (.bool b)
abbrev ax (s:ByteArray):ab:=.lit (.string s)
abbrev aE (n:Int):Int:=IntKind.i64.wrap n
abbrev gE (n:Int):Int:=IntKind.u8.wrap n
theorem oY (e:bA α) (l:List α):(bp e l).length=l.length * e.z:=by
 induction l with
 | nil=>simp [bp]
 | cons a l aL =>
  have:bp e (a::l)=e.cells a++bp e l:=by simp [bp]
  rw [this,List.length_append,e.len,aL,List.length_cons,Nat.add_mul]; omega
theorem pQ (e:bA α) (l:List α):∀ x∈bp e l,cA x:=by
 intro x j;obtain ⟨a,_,h⟩:=List.mem_flatMap.1 j;exact e.bg a x h
theorem Fq (e:bA α) (l m:List α):bp e (l++m)=bp e l++bp e m:=by simp [bp]
theorem zP (e:bA α):∀ (l:List α) (i:Nat),(bp e l).drop (i * e.z)=bp e (l.drop i)
 | l,0=>by simp
 | [],i+1=>by simp [bp]
 | a::l,i+1=>by
  have h:bp e (a::l)=e.cells a++bp e l:=by simp [bp]
  rw [h,List.drop_append,e.len,List.drop_eq_nil_of_le (by rw [e.len,Nat.add_mul]; omega)];have:(i+1) * e.z - e.z=i * e.z:=by rw [Nat.add_mul]; omega
  rw [this,List.nil_append,zP e l i]; rfl
theorem xN (e:bA α):∀ (l:List α) (i:Nat),(bp e l).take (i * e.z)=bp e (l.take i)
 | l,0=>by simp [bp]
 | [],i+1=>by simp [bp]
 | a::l,i+1=>by
  have h:bp e (a::l)=e.cells a++bp e l:=by simp [bp]
  rw [h,List.take_append,e.len,List.take_of_length_le (by rw [e.len,Nat.add_mul]; omega)];have:(i+1) * e.z - e.z=i * e.z:=by rw [Nat.add_mul]; omega
  rw [this,xN e l i]; simp [bp]
def idx (l:List α) (i:Int):Option α:=if 0<=i then l[i.toNat]? else none
theorem r1 {l:List α}{i:Int}{y:α}(h:idx l i=some y):0<=i/\i<l.length/\l[i.toNat]?=some y:=by
 grind [idx]
theorem J1 (e:bA α) {l:List α}{i:Int}{y:α}(h:idx l i=some y):(bp e l).drop (i.toNat * e.z)=e.cells y++bp e (l.drop (i.toNat+1)):=by
 obtain ⟨aO,h1,af⟩:=r1 h
 grind [zP,List.drop_eq_getElem_cons,bp]
theorem O_ (e:bA α) {l:List α}{i:Int}{y:α}(h:idx l i=some y) {k:Nat}{x:ab}(hk:(e.cells y)[k]?=some x):(bp e l)[i.toNat * e.z+k]?=some x:=by
 have aR:=(List.getElem?_eq_some_iff.1 hk).1;rw [<- List.getElem?_drop,J1 e h,List.getElem?_append_left aR]; exact hk
abbrev lim:Nat:=1099511627776
def fuel:Nat:=1000000000000000000
def iter (f:S->Option (S ⊕ R)):Nat->S->Option R
 | 0,_=>none
 | n+1,s=>match f s with
  | none=>none
  | some (.inl cu)=>iter f n cu
  | some (.inr r)=>some r
def b6 (f:S->Option (S ⊕ R)) (s:S):Option R:=iter f fuel s
theorem oA {o:Option α}{f:α->Option β}{r:β}(h:o.bind f=some r):∃ y,o=some y/\f y=some r:=Option.bind_eq_some_iff.1 h
theorem SG {b:Bool}{x y o:α}(av:b=true) (h:cond b x y=o):x=o:=by
 grind
theorem SF {b:Bool}{x y o:α}(av:b=false) (h:cond b x y=o):y=o:=by
 grind
theorem jE {b:Bool}{x y o:α}(h:cond b x y=o):(b=true/\x=o)\/(b=false/\y=o):=by
 grind
theorem sm {a b:α}(h:some a=some b):a=b:=by grind
class b3 (x:ab):Prop where bg:cA x
class dh (cs:List ab):Prop where bg:∀ x∈cs,cA x
instance {v:Value}:b3 (.lit v):=⟨.lit⟩
instance:b3 .aU:=⟨.aU⟩
instance:b3 .dead:=⟨.dead⟩
instance {k:Nat × Nat}:b3 (.self k):=⟨.self⟩
instance {t:Nat}{us:List Value}:b3 (.eY t us):=⟨.eY⟩
instance {z n:Nat}{cs:List ab} [h:dh cs]:b3 (.bk z n cs):=⟨.bk h.bg⟩
instance {z n:Nat}{cs:List ab} [h:dh cs]:b3 (.own z n cs):=⟨.own h.bg⟩
instance {cs:List ab} [h:dh cs]:b3 (.obj cs):=⟨.obj h.bg⟩
instance {cs:List ab} [h:dh cs]:b3 (.agg cs):=⟨.agg h.bg⟩
instance {cs:List ab} [h:dh cs]:b3 (.bJ cs):=⟨.bJ h.bg⟩
instance {cs:List ab} [h:dh cs]:b3 (.cJ cs):=⟨.cJ h.bg⟩
instance {f:Fn}{a b:List ab} [h:dh a] [aH:dh b]:b3 (.di f a b):=⟨.di h.bg aH.bg⟩
instance:dh []:=⟨by simp⟩
instance {x:ab}{cs:List ab} [h:b3 x] [aH:dh cs]:dh (x::cs):=⟨pG h.bg aH.bg⟩
instance {e:bA α}{l:List α}:dh (bp e l):=⟨pQ e l⟩
instance {e:bA α}{a:α}:dh (e.cells a):=⟨e.bg a⟩
instance {a b:List ab} [h:dh a] [aH:dh b]:dh (a++b):=⟨λx j=>(List.mem_append.1 j).elim (h.bg x) (aH.bg x)⟩
instance {a:List ab}{n:Nat} [h:dh a]:dh (a.drop n):=⟨λx j=>h.bg x (List.mem_of_mem_drop j)⟩
instance {a:List ab}{n:Nat} [h:dh a]:dh (a.take n):=⟨λx j=>h.bg x (List.mem_of_mem_take j)⟩
instance {v:Value}{n:Nat}:dh (List.replicate n (.lit v)):=⟨λx j=>by rw [(List.mem_replicate.1 j).2]; exact .lit⟩
abbrev bA.one (f:α->ab) (h:∀ a,cA (f a)):bA α:=⟨1,λa=>[f a],λ_=>rfl,λa x j=>by rw [List.mem_singleton.1 j]; exact h a⟩
def az:bA Int:=.one (λn=>ae n) λ_=>.lit
def m':bA Int:=.one (λn=>pc n) λ_=>.lit
def cn:bA Bool:=.one (λb=>bf b) λ_=>.lit
def cL:bA ByteArray:=.one (λs=>ax s) λ_=>.lit
def L5 (e:bA α):bA (List α):=.one (λl=>aq e l) λl=>.own (pQ e l)
def bI (e:bA α):bA (List α):=.one (λl=>ao e l) λl=>.bk (pQ e l)
inductive Trim (b:Bool) (g g2:aI):List (Nat × ab)->Prop
 | nil:Trim b g g2 []
 | n {s:Nat}{x:ab}{l:List (Nat × ab)}(h:g s=some x) [aA:b3 x] (t:Trim b g g2 l):Trim b g g2 ((s,x)::l)
 | r {s:Nat}{x:ab}{l:List (Nat × ab)}(h:g s=some x) (aA:et g2 x) (ar:∀ z p n m new,x≠.bC z p n m new) (t:Trim b g g2 l):Trim b g g2 ((s,x)::l)
 | e {s:Nat}{x y:ab}{l:List (Nat × ab)}(h:g s=some y) (he:y=x) [aA:b3 x] (t:Trim b g g2 l):Trim b g g2 ((s,x)::l)
 | w {s:Nat}{x y:ab}{l:List (Nat × ab)}(av:b=true) (h:g s=some y) (hw:mV y x) [aA:b3 x] (t:Trim b g g2 l):Trim b g g2 ((s,x)::l)
theorem Trim.spec {b:Bool}{g g2:aI}{l:List (Nat × ab)}(h:Trim b g g2 l):∀ t x,get l t=some x->(∃ y,g t=some y/\mV y x/\(b=false->y=x))/\et g2 x/\∀ z p n m new,x≠.bC z p n m new:=by
 have fk:∀ {x:ab},cA x->∀ z p n m new,x≠.bC z p n m new:=by rintro x h z p n m new rfl; cases h
 induction h with
 | nil=>intro t x j; cases j
 | @n _ _ _ h aA _ aL =>
  intro t x j; simp only [get] at j
  split at j
  ·rename_i e; subst e; cases j; exact ⟨⟨_,h,.refl,λ_=>rfl⟩,.bg aA.bg,fk aA.bg⟩
  ·exact aL t x j
 | r h aA ar _ aL =>
  intro t x j; simp only [get] at j
  split at j
  ·rename_i e; subst e; cases j; exact ⟨⟨_,h,.refl,λ_=>rfl⟩,aA,ar⟩
  ·exact aL t x j
 | @e _ _ _ _ h he aA _ aL =>
  intro t x j; simp only [get] at j
  split at j
  ·rename_i e; subst e he; cases j; exact ⟨⟨_,h,.refl,λ_=>rfl⟩,.bg aA.bg,fk aA.bg⟩
  ·exact aL t x j
 | @w _ _ _ _ av h hw aA _ aL =>
  intro t x j; simp only [get] at j
  split at j
  ·rename_i e; subst e; cases j; exact ⟨⟨_,h,hw,λh=>by rw [av] at h; cases h⟩,.bg aA.bg,fk aA.bg⟩
  ·exact aL t x j
theorem Trim.eH {b:Bool}{g:aI}{l:List (Nat × ab)}(h:Trim b g (get l) l):j' g (get l) :=
 ⟨λt x j=>by obtain ⟨⟨y,h1,af,_⟩,_⟩:=h.spec t x j; exact ⟨y,h1,af⟩,λt x j=>(h.spec t x j).2.1,λt z q n m new j=>(h.spec t _ j).2.2 _ _ _ _ _ rfl⟩
theorem Trim.keep {g:aI}{l:List (Nat × ab)}(h:Trim false g (get l) l):hh g (get l) :=
 ⟨λt x j=>by obtain ⟨⟨y,h1,_,aF⟩,_⟩:=h.spec t x j; rw [<- aF rfl]; exact h1,λt x j=>(h.spec t x j).2.1,λt z q n m new j=>(h.spec t _ j).2.2 _ _ _ _ _ rfl⟩
section
variable {P:Program}{N:cP}{ops:Array Oper}{g:aI}{K:aI->Prop}{l:List Oper}{d:Nat}{op:Op}{ty:TypeId}{pos:String}{after:Array Edge}{x:ab}{gd:Option (Nat × Bool)}
def js (P:Program) (N:cP) (c:Code) (G G1:List (Nat × ab)):Prop:=W P N c (get G) λe g'=>e=.normal/\j' g' (get G1)
theorem W.bY {A B:Code}{G G1:List (Nat × ab)}{Φ:Exit->aI->Prop}(h1:js P N A G G1) (af:W P N B (get G1) Φ):W P N (.seq A B) (get G) Φ:=by
 refine W.seq (W.out h1 λe g' h=>⟨get G1,h.2,?_⟩);obtain ⟨rfl,_⟩:=h;exact af
theorem W.b4 {A B:Code}{G:List (Nat × ab)}{Φ:Exit->aI->Prop}(h:W P N A (get G) (o1 (λg1=>W P N B g1 Φ) Φ)):W P N (.seq A B) (get G) Φ:=W.seq h
theorem js.rg {id:Nat}{l:List Oper}{G G1:List (Nat × ab)}(h:aC P N l.toArray l (get G) λg'=>j' g' (get G1)):js P N (.region id l.toArray false) G G1 :=
 W.zO (λi hi=>by obtain ⟨g',h1,af⟩:=h i hi; exact ⟨g',h1,rfl,af⟩)
theorem aC.fin {G1:List (Nat × ab)}(h:Trim true g (get G1) G1):aC P N ops [] g λg'=>j' g' (get G1):=.nil h.eH
theorem aC.JV {G1:List (Nat × ab)}(h:Trim false g (get G1) G1) (hk:aC P N ops l (get G1) K):aC P N ops l g K:=.forget h.keep hk
theorem aC.v (ar:b5 P g op ty x) (a7:N.ok d=true) (aS:g d=none) (aK:Gd g ops gd) (hk:aC P N ops l (cH g d x) K):aC P N ops (⟨some d,op,ty,pos,after,gd⟩::l) g K:=.aal ar a7 aS aK hk
theorem aC.c (ar:dd P g op x) (a7:N.ok d=true) (aS:g d=none) (aK:Gd g ops gd) (hk:aC P N ops l (cH g d x) K):aC P N ops (⟨some d,op,ty,pos,after,gd⟩::l) g K:=.call ar a7 aS aK hk
theorem Gd.j8 {J t:Nat}{b c:Bool}(h:(ops[J]?).bind (·.dst)=some t) (aK:g t=some (.lit (.bool c))) (av:c=b):Gd g ops (some (J,b)):=by subst av; exact .yes h aK
theorem aC.ps {J t':Nat}{b c:Bool}(h:(ops[J]?).bind (·.dst)=some t') (aK:g t'=some (.lit (.bool c))) (av:c=!b) (a7:N.ok d=true) (aS:g d=none) (hk:aC P N ops l (cH g d (.bJ [])) K):aC P N ops (⟨some d,op,ty,pos,after,some (J,b)⟩::l) g K:=by
 subst av; exact .zT rfl a7 aS (r:=some (.bJ [])) (.inr (.inl ⟨⟨t',h,.inl ⟨_,aK,by cases b <;> rfl⟩⟩,rfl⟩)) hk
theorem aC.pu {J t':Nat}{b:Bool}(h:(ops[J]?).bind (·.dst)=some t') (aK:g t'=some (.bJ [])) (a7:N.ok d=true) (aS:g d=none) (hk:aC P N ops l (cH g d (.bJ [])) K):aC P N ops (⟨some d,op,ty,pos,after,some (J,b)⟩::l) g K :=
 .zT rfl a7 aS (r:=some (.bJ [])) (.inr (.inl ⟨⟨t',h,.inr ⟨aK,rfl⟩⟩,rfl⟩)) hk
theorem js.skip {G G1:List (Nat × ab)}(h:Trim true (get G) (get G1) G1):js P N .skip G G1:=W.skip ⟨rfl,h.eH⟩
theorem js.jE {t:Nat}{A B:Code}{b:Bool}{G G1:List (Nat × ab)}(aa:get G t=some (bf b)) (cX:b=true->js P N A G G1) (aG:b=false->js P N B G G1):js P N (.cond (.tmp t) A B) G G1:=W.LP (.lit aa) cX aG
theorem W.jE {t:Nat}{A B:Code}{b:Bool}{G:List (Nat × ab)}{Φ:Exit->aI->Prop}(aa:get G t=some (bf b)) (cX:b=true->W P N A (get G) Φ) (aG:b=false->W P N B (get G) Φ):W P N (.cond (.tmp t) A B) (get G) Φ:=W.LP (.lit aa) cX aG
theorem js.bY {A B:Code}{G G1 G2:List (Nat × ab)}(h1:js P N A G G1) (af:js P N B G1 G2):js P N (.seq A B) G G2:=W.bY h1 af
theorem js.yC {id:Nat}{c:Code}{G G1:List (Nat × ab)}(h:W P N c (get G) λe g'=>(e=.normal\/e=.exit id)/\j' g' (get G1)):js P N (.block id c) G G1:=by
 refine W.block (h.mono ?_);rintro e g' ⟨rfl | rfl,h⟩
 ·exact ⟨rfl,h⟩
 ·show if id=id then _ else _
  grind
end
end Go.Own
namespace Go.Own
open Go
set_option linter.unusedSectionVars false
variable [cE]
variable {α β:Type}
def gz (s:ByteArray) (m:Int):Option Int:=if 0<=m/\m<s.size then some (ll s m) else none
def lK (s:ByteArray) (m n:Int):Option ByteArray:=if 0<=m/\m<=n/\n<=s.size then some (p6 s m n) else none
def eS (s u:ByteArray):Option ByteArray:=if s.size+u.size<=4611686018427387904 then some (s++u) else none
def Fh (m n:Int):Option Int:=if n=0 then none else some (aE (m.tdiv n))
def Fp (m n:Int):Option Int:=if n=0 then none else some (m.tmod n)
def nE (l:List α) (m n:Int):Option (List α):=if 0<=m/\m<=n/\n<=l.length then some ((l.drop m.toNat).take (n - m).toNat) else none
def lL:ab->Bool
 | .lit _ | .aU | .bk .. | .cJ _ | .di .. | .ptr .. | .bl .. | .sub .. | .hf .. | .imp ..=>true
 | _=>false
theorem TG {d:Nat}{p:Place}{x:ab}(h:lL x=true):fC d p x=x:=by
 cases x <;> simp [lL] at h <;> cases d <;> rfl
theorem TH {t:Nat}{x:ab}(h:lL x=true):od t x=x:=by
 cases x <;> simp [lL] at h <;> rfl
theorem AV {d:Nat}{q:Nat->Place}{cs:List ab}(h:cs.all lL=true):(cs.mapIdx λi x=>fC d (q i) x)=cs:=by
 apply List.ext_getElem?;intro k;rw [List.getElem?_mapIdx];cases hk:cs[k]? with
 | none=>rfl
 | some x=>simp only [Option.map_some,TG (List.all_eq_true.1 h x (List.mem_of_getElem? hk))]
section
variable {P:Program}{N:cP}{ops:Array Oper}{g:aI}{K:aI->Prop}{l:List Oper}{d:Nat}{ty t t2:TypeId}{a b c:Operand}{k kD:IntKind}{m n:Int}{s u:ByteArray}{p q e:Bool}
theorem Rd.f {t:Nat}{x:ab}(h:g t=some x) (aS:lL x=true):Own.bm g (.tmp t)=some x:=by simp only [Own.bm,h,Option.map_some,TH aS]
theorem Rd.eA {t:Nat}{cs:List ab}(h:g t=some (.agg cs)) (aS:cs.all lL=true):Rd g (.tmp t) (.agg cs):=.agg h (AV aS)
theorem Rd.Kj {t:Nat}{cs:List ab}(h:g t=some (.bJ cs)) (aS:cs.all lL=true):Rd g (.tmp t) (.bJ cs):=.bJ h (AV aS)
namespace O
theorem a8 {y:ab}(h:Rd g a y):b5 P g (.move a) ty y:=.eJ (.move h.bm)
theorem dG {y:ab}(h:Rd g a y):b5 P g (.assign a) ty y:=.eJ (.assign h.bm)
theorem ki {y:ab}(aa:Rd g c (bf p)) (av:p=true) (h:Rd g a y):b5 P g (.pick c a b) ty y:=by subst av; exact .eJ (.YF aa h)
theorem jl {y:ab}(aa:Rd g c (bf p)) (av:p=false) (h:Rd g b y):b5 P g (.pick c a b) ty y:=by subst av; exact .eJ (.YE aa h)
theorem add (j:Rd g a (.lit (.int k m))) (ak:Rd g b (.lit (.int k n))):b5 P g (.binOp .add t a b t2) ty (.lit (.int k (k.wrap (m+n)))):=.eJ (.add j ak)
theorem sub (j:Rd g a (.lit (.int k m))) (ak:Rd g b (.lit (.int k n))):b5 P g (.binOp .sub t a b t2) ty (.lit (.int k (k.wrap (m - n)))):=.eJ (.ZG j ak)
theorem mul (j:Rd g a (.lit (.int k m))) (ak:Rd g b (.lit (.int k n))):b5 P g (.binOp .mul t a b t2) ty (.lit (.int k (k.wrap (m * n)))):=.eJ (.mul j ak)
theorem quo {r:Int}(j:Rd g a (ae m)) (ak:Rd g b (ae n)) (h:Fh m n=some r):b5 P g (.binOp .quo t a b t2) ty (ae r):=by
 unfold Fh at h
 split at h
 ·cases h
 ·cases h; exact .eJ (.quo j ak (by assumption))
theorem rem {r:Int}(j:Rd g a (ae m)) (ak:Rd g b (ae n)) (h:Fp m n=some r):b5 P g (.binOp .rem t a b t2) ty (ae r):=by
 unfold Fp at h
 split at h
 ·cases h
 ·cases h; exact .eJ (.rem j ak (by assumption))
theorem lss (j:Rd g a (.lit (.int k m))) (ak:Rd g b (.lit (.int k n))):b5 P g (.binOp .lss t a b t2) ty (bf (decide (m<n))):=.eJ (.lss j ak (by simp))
theorem leq (j:Rd g a (.lit (.int k m))) (ak:Rd g b (.lit (.int k n))):b5 P g (.binOp .leq t a b t2) ty (bf (decide (m<=n))):=.eJ (.leq j ak (by simp))
theorem gtr (j:Rd g a (.lit (.int k m))) (ak:Rd g b (.lit (.int k n))):b5 P g (.binOp .gtr t a b t2) ty (bf (decide (n<m))):=.eJ (.gtr j ak (by simp))
theorem geq (j:Rd g a (.lit (.int k m))) (ak:Rd g b (.lit (.int k n))):b5 P g (.binOp .geq t a b t2) ty (bf (decide (n<=m))):=.eJ (.geq j ak (by simp))
theorem eql (j:Rd g a (.lit (.int k m))) (ak:Rd g b (.lit (.int k n))):b5 P g (.binOp .eql t a b t2) ty (bf (decide (m=n))):=.eJ (.eql j ak (by simp))
theorem neq (j:Rd g a (.lit (.int k m))) (ak:Rd g b (.lit (.int k n))):b5 P g (.binOp .neq t a b t2) ty (bf (!decide (m=n))):=.eJ (.neq j ak (by simp))
theorem nU (j:Rd g a (ax s)) (ak:Rd g b (ax u)):b5 P g (.binOp .eql t a b t2) ty (bf (decide (s=u))):=.eJ (.nU j ak (by simp))
theorem n' (j:Rd g a (ax s)) (ak:Rd g b (ax u)):b5 P g (.binOp .neq t a b t2) ty (bf (!decide (s=u))):=.eJ (.n' j ak (by simp))
theorem DO (j:Rd g a (bf p)) (ak:Rd g b (bf q)) (al:Gz P t=true):b5 P g (.binOp .eql t a b t2) ty (bf (p == q)):=.eJ (.bin j.bm ak.bm rfl λw=>Zc (R0 al) w)
theorem neg (j:Rd g a (.lit (.int k m))):b5 P g (.unOp .neg t a) ty (.lit (.int k (k.wrap (-m)))):=.eJ (.un j.bm rfl λw=>by simp [Op.unary,Op.intArith])
theorem not (j:Rd g a (bf p)):b5 P g (.unOp .not t a) ty (bf (!p)):=.eJ (.not j)
theorem GX (j:Rd g a (.lit (.int k m))) (aw:uB P t k=true) (aP:uB P t2 kD=true):b5 P g (.convert t t2 a) ty (.lit (.int kD (kD.wrap m))):=.eJ (.S3 j aw aP)
theorem cat {r:ByteArray}(j:Rd g a (ax s)) (ak:Rd g b (ax u)) (h:eS s u=some r):b5 P g (.binOp .add t a b t2) ty (ax r):=by
 unfold eS at h
 split at h
 ·cases h; exact .eJ (.cat j ak (by omega))
 ·cases h
theorem oU (j:Rd g a (ax s)) (al:oh P t=true):b5 P g (.call { callee:=.builtin .len,args:=#[a],argTypes:=#[t] }) ty (ae s.size):=.eJ (.oU j al)
theorem at' {r:Int}(j:Rd g a (ax s)) (ak:Rd g b (.lit (.int k m))) (al:oh P t=true) (h:gz s m=some r):b5 P g (.index t a b) ty (pc r):=by
 unfold gz at h
 split at h
 ·cases h; exact .eJ (.RN j ak al (by assumption))
 ·cases h
theorem ti {r:ByteArray}{qp:IntKind}(j:Rd g a (ax s)) (ai:Rd g b (.lit (.int k m))) (bD:Rd g c (.lit (.int qp n))) (al:oh P t=true) (h:lK s m n=some r):b5 P g (.slice t a (some b) (some c) none) ty (ax r):=by
 unfold lK at h
 split at h
 ·cases h; exact .eJ (.PK j ai bD al (by assumption))
 ·cases h
theorem CX {r:ByteArray}(j:Rd g a (ax s)) (bD:Rd g c (.lit (.int k n))) (al:oh P t=true) (h:lK s 0 n=some r):b5 P g (.slice t a none (some c) none) ty (ax r):=by
 unfold lK at h
 split at h
 ·rename_i aa; cases h; exact .eJ (.Zy j bD al ⟨aa.2.1,aa.2.2⟩)
 ·cases h
theorem CY {r:ByteArray}(j:Rd g a (ax s)) (ai:Rd g b (.lit (.int k m))) (al:oh P t=true) (h:lK s m s.size=some r):b5 P g (.slice t a (some b) none none) ty (ax r):=by
 unfold lK at h
 split at h
 ·rename_i aa; cases h; exact .eJ (.Zz j ai al ⟨aa.1,aa.2.1⟩)
 ·cases h
theorem jk {z br n:Nat}{cs:List ab}{e:TypeId}(j:Rd g a (.bk z n cs)) (al:fa P t e br=true):b5 P g (.call { callee:=.builtin .len,args:=#[a],argTypes:=#[t] }) ty (ae n):=.eJ (.B2 j.bm al)
theorem r3 {en:bA α}{L:List α}{y:α}{e:TypeId}(j:Rd g a (.bk en.z L.length (bp en L))) (ak:Rd g b (.lit (.int k m))) (al:fa P t e en.z=true) (h:idx L m=some y):b5 P g (.indexAddr t a b) ty (.cJ (en.cells y++bp en (L.drop (m.toNat+1)))):=by
 rw [<- J1 en h];obtain ⟨aO,h1,_⟩:=r1 h;obtain ⟨J,rfl⟩:=Int.eq_ofNat_of_zero_le aO;exact .eJ (.EF j.bm ak.bm al (by omega))
theorem Zv {en:bA α}{L r:List α}{e:TypeId}{qp:IntKind}(j:Rd g a (.bk en.z L.length (bp en L))) (ai:Rd g b (.lit (.int k m))) (bD:Rd g c (.lit (.int qp n))) (al:fa P t e en.z=true) (h:nE L m n=some r):b5 P g (.slice t a (some b) (some c) none) ty (ao en r):=by
 unfold nE at h
 split at h
 ·rename_i aa;obtain ⟨aO,h1,af⟩:=aa;cases h;obtain ⟨i,rfl⟩:=Int.eq_ofNat_of_zero_le aO;obtain ⟨J,rfl⟩:=Int.eq_ofNat_of_zero_le (show 0<=n by omega);have:=cR.zR (P:=P) (ty:=ty) (t:=t) (l:=i) (h:=J) (lo:=some b) (hi:=some c) j.bm ⟨_,ai.bm⟩ ⟨_,bD.bm⟩ al (by omega) (by omega);rw [zP,xN] at this;have b2:(((L.drop i).take (J - i)).length)=J - i:=by rw [List.length_take,List.length_drop]; omega
  have bZ:((J:Int) - (i:Int)).toNat=J - i:=by omega
  rw [Int.toNat_natCast,bZ];unfold ao;rw [b2];exact .eJ this
 ·cases h
theorem Zw {en:bA α}{L r:List α}{e:TypeId}(j:Rd g a (.bk en.z L.length (bp en L))) (bD:Rd g c (.lit (.int k n))) (al:fa P t e en.z=true) (h:nE L 0 n=some r):b5 P g (.slice t a none (some c) none) ty (ao en r):=by
 unfold nE at h
 split at h
 ·rename_i aa;obtain ⟨_,h1,af⟩:=aa;cases h;obtain ⟨J,rfl⟩:=Int.eq_ofNat_of_zero_le h1;have:=cR.zR (P:=P) (ty:=ty) (t:=t) (l:=0) (h:=J) (lo:=none) (hi:=some c) j.bm rfl ⟨_,bD.bm⟩ al (by omega) (by omega);rw [zP,xN] at this;have b2:(((L.drop 0).take (J - 0)).length)=J - 0:=by rw [List.length_take,List.length_drop]; omega
  have bZ:((J:Int) - 0).toNat=J - 0:=by omega
  rw [bZ];unfold ao;have e':(0:Int).toNat=0:=rfl;rw [e',b2];exact .eJ this
 ·cases h
theorem Zx {en:bA α}{L r:List α}{e:TypeId}(j:Rd g a (.bk en.z L.length (bp en L))) (ai:Rd g b (.lit (.int k m))) (al:fa P t e en.z=true) (h:nE L m L.length=some r):b5 P g (.slice t a (some b) none none) ty (ao en r):=by
 unfold nE at h
 split at h
 ·rename_i aa;obtain ⟨aO,h1,af⟩:=aa;cases h;obtain ⟨i,rfl⟩:=Int.eq_ofNat_of_zero_le aO;have:=cR.zR (P:=P) (ty:=ty) (t:=t) (l:=i) (h:=L.length) (lo:=some b) (hi:=none) j.bm ⟨_,ai.bm⟩ rfl al (by omega) (by omega);rw [zP,xN] at this;have b2:(((L.drop i).take (L.length - i)).length)=L.length - i:=by rw [List.length_take,List.length_drop]; omega
  have bZ:((L.length:Int) - (i:Int)).toNat=L.length - i:=by omega
  rw [Int.toNat_natCast,bZ];unfold ao;rw [b2];exact .eJ this
 ·cases h
theorem AS {cu f off:Nat}{cs:List ab}(j:Rd g a (.cJ cs)) (aS:jv P cu f off t=true):b5 P g (.fieldAddr cu a f) ty (.cJ (cs.drop off)):=.eJ (.DW j.bm aS)
theorem B0 {x:ab}{cs:List ab}(j:Rd g a (.cJ cs)) (al:kt P t=true) (aa:cs.head?=some x):b5 P g (.load t a) ty x:=by
 cases cs with
 | nil=>cases aa
 | cons y cs=>cases aa; exact .eJ (.ES j.bm al)
theorem s7 {z:Nat}{cs cs':List ab}(j:Rd g a (.cJ cs)) (al:iN P t z=true) (aa:cs.take z=cs') (aT:cs'.length=z):b5 P g (.load t a) ty (.agg cs'):=by
 subst aa;exact .eJ (.ET j.bm al (by rw [List.length_take] at aT; omega))
theorem xp {cs:List ab}(j:Rd g a (.cJ cs)):b5 P g (.nilCheck a) ty (.cJ cs):=.eJ (.qt j.bm)
theorem eC {p:Place}{k:Nat}(j:Rd g a (.ptr p k)):b5 P g (.nilCheck a) ty (.ptr p k):=.eJ (.E3 j.bm)
theorem fd {cu f off:Nat}{cs:List ab}{x:ab}(j:Rd g a (.agg cs)) (aS:jv P cu f off t=true) (al:kt P t=true) (ak:cs[off]?=some x):b5 P g (.field cu a f) ty x:=.eJ (.DV j.bm aS al ak)
theorem ex {p i:Nat}{cs:List ab}{x y:ab}(j:g p=some (.bJ cs)) (ak:cs[i]?=some x) (ah:fC 1 (Place.push ⟨p,[]⟩ i) x=y):b5 P g (.extract (.tmp p) i) ty y :=
 .eJ (.DP (cs:=cs.mapIdx λi x=>fC 1 (Place.push ⟨p,[]⟩ i) x) (by simp [bm,j,od,fC]) (by simp [ak,ah]))
theorem box {e:TypeId}{y:ab}{cs:List ab}(j:Rd g a y) (aa:jc y=some cs):b5 P g (.box e a) ty (.obj cs):=.q6 (.box j.bm aa)
theorem nb {cu f off k r:Nat}{cs:List ab}(aw:g r=some (.obj cs)) (j:Rd g a (.ptr ⟨r,[]⟩ k)) (aS:jv P cu f off t=true) (aR:Nat.blt (k+off) cs.length=true):b5 P g (.fieldAddr cu a f) ty (.ptr ⟨r,[]⟩ (k+off)) :=
 .eJ (.AT j.bm aS ⟨.obj cs,by simp [bx,aw,ab.at],0,0,cs,.inr rfl,by simpa using aR⟩)
theorem xj {k r:Nat}{cs:List ab}{x y:ab}(aw:g r=some (.obj cs)) (j:Rd g a (.ptr ⟨r,[]⟩ k)) (al:kt P t=true) (aa:cs[k]?=some x) (ak:fC 0 ⟨r,[k]⟩ x=y):b5 P g (.load t a) ty y:=by
 subst ak;exact .eJ (.B5 (p:=⟨r,[]⟩) j.bm al (by simp [bx,aw,ab.at,Place.push,ab.kids,aa]))
theorem fh {k r z:Nat}{cs cs':List ab}(aw:g r=some (.obj cs)) (j:Rd g a (.ptr ⟨r,[]⟩ k)) (al:iN P t z=true) (hk:Nat.ble (k+z) cs.length=true) (aa:(((cs.drop k).take z).mapIdx λi x=>fC 0 ⟨r,[k+i]⟩ x)=cs'):b5 P g (.load t a) ty (.agg cs'):=by
 subst aa;exact .eJ (.xl (p:=⟨r,[]⟩) (n:=0) (z:=0) j.bm al (by simp [bx,aw,ab.at]) (.inr rfl) (Nat.le_of_ble_eq_true hk))
end O
theorem rv.dx {x:Operand}{y:ab}{xs:List Operand}{ys:List ab}(h:Rd g x y) [aA:b3 y] (al:rv g xs ys):rv g (x::xs) (y::ys):=.cons h aA.bg al
theorem dd.go {xs:List Operand}{gh:Array TypeId}{f:FuncId}{ys:List ab}{outs:List (Option ab)}{res:ab}(j:rv g xs ys) (gS:b7 P f ys outs res) (aS:ju P f=true) (aV:s_ outs=true) [ah:b3 res] :
  dd P g (.call { callee:=.value (.func f),args:=xs.toArray,argTypes:=gh }) res:=.Tk gS aS j aV ah.bg
inductive u6 (P:Program) (g:aI):List ResultVar->List ab->Prop
 | nil:u6 P g [] []
 | f {t:Nat}{x:ab}{rs:List ResultVar}{xs:List ab}(h:g t=some x) (aS:lL x=true) [aA:b3 x] (al:u6 P g rs xs):u6 P g (.tmp t::rs) (x::xs)
 | c {a:Nat}{t:TypeId}{z:Nat}{cs:List ab}{rs:List ResultVar}{xs:List ab}(h:g a=some (.obj cs)) (al:iN P t z=true) (aT:cs.length=z) (aS:(0<z&&cs.all lL)=true) [aA:dh cs] (ah:u6 P g rs xs):u6 P g (.cell a t::rs) (.agg cs::xs)
theorem u6.spec {rs:List ResultVar}{xs:List ab}(h:u6 P g rs xs):ry P g rs xs/\∀ x∈xs,cA x:=by
 induction h with
 | nil=>exact ⟨.nil,by simp⟩
 | @f t x rs xs h aS aA _ aL=>exact ⟨.cons (.tmp (Rd.f h aS)) aL.1,pG aA.bg aL.2⟩
 | @c a t z cs rs xs h al aT aS aA _ aL =>
  simp only [Bool.and_eq_true,decide_eq_true_eq] at aS;refine ⟨.cons ?_ aL.1,pG (.agg aA.bg) aL.2⟩;have j:Own.bm g (.tmp a)=some (.ptr ⟨a,[]⟩ 0):=by
   cases cs with
   | nil=>simp at aT; omega
   | cons c cs=>simp [Own.bm,h,od,fC]
  have:=cR.xl (P:=P) (ty:=t) (p:=⟨a,[]⟩) (n:=0) (z:=0) j al (by simp only [bx,h,ab.at]) (.inr rfl) (show 0+z<=cs.length by omega);have g_:((cs.drop 0).take z).mapIdx (λi x=>fC 0 (Place.push ⟨a,[]⟩ (0+i)) x)=cs:=by
   rw [List.drop_zero,List.take_of_length_le (by omega)];exact AV aS.2
  rw [g_] at this;exact .cell this
theorem Fin.rt {rs:List ResultVar}{xs:List ab}{res:ab}{outs:List (Option ab)}{n:Nat}(h:u6 P g rs xs) (he:oX xs=res) (aV:s_ outs=true) (ai:outs.length=n):Fin P N rs n outs res .ret g :=
 ⟨.inr rfl,⟨xs,xs,g,h.spec.1,.bg h.spec.2,he.symm,λk x hk=>absurd hk (E5 aV k x)⟩,ai⟩
end
def xt:Nat->List ab->List (Nat × ab)
 | _,[]=>[]
 | i,x::l=>(i,x)::xt (i+1) l
theorem Mr:∀ (l:List ab) (i t:Nat),get (xt i l) t=if i<=t then l[t - i]? else none
 | [],i,t=>by simp [xt,get]
 | x::l,i,t=>by
  simp only [xt,get];by_cases h:t=i
  ·subst h; simp
  ·rw [if_neg h,Mr l (i+1) t];by_cases h1:i+1<=t
   ·rw [if_pos h1,if_pos (by omega)];have:t - i=(t - (i+1))+1:=by omega
    rw [this,List.getElem?_cons_succ]
   ·rw [if_neg h1,if_neg (by omega)]
theorem RC (args:List ab):pg args=get (xt 0 args):=funext λt=>by rw [Mr]; simp [pg]
theorem b7.go {P:Program}{f:FuncId}{fn:Func}{c:Code}{args:List ab}{outs:List (Option ab)}{res:ab}{N:cP}(aS:P.funcs[f]?=some fn) (av:fn.body=some c) (a7:fn.ntmps=N.size) (aQ:Nat.ble args.length N.size=true) (hlen:outs.length=args.length)
  (hw:W P N c (get (xt 0 args)) (Fin P N fn.results.toList args.length outs res)):b7 P f args outs res :=
 .fin aS av a7 aQ hlen (by rw [RC]; exact hw)
end Go.Own
namespace Go.Own
open Go
set_option linter.unusedSectionVars false
variable [cE]
section
variable {P:Program}{N:cP}{Φ oq:Exit->aI->Prop}{Ψ:aI->Prop}{G G1:List (Nat × ab)}{A B c:Code}{id k:Nat}{e:Exit}{S R:Type}
theorem js.dO (h:Trim true (get G) (get G1) G1):js P N .skip G G1:=.skip h
inductive h6:aI->List (Nat × ab)->Prop
 | iq {G:List (Nat × ab)}:h6 (get G) G
 | eH {g g1:aI}{G:List (Nat × ab)}(h:j' g g1) (av:h6 g1 G):h6 g G
theorem h6.trans {g:aI}{G G1:List (Nat × ab)}(h:h6 g G) (h1:h6 (get G) G1):h6 g G1:=by
 induction h with
 | iq=>exact h1
 | eH h _ aL=>exact .eH h (aL h1)
inductive Ad (P:Program) (N:cP):aI->Exit->(Exit->aI->Prop)->Prop
 | iq {g:aI}{e:Exit}{Φ:Exit->aI->Prop}(h:Φ e g):Ad P N g e Φ
 | eH {g g1:aI}{e:Exit}{Φ:Exit->aI->Prop}(hw:j' g g1) (h:Ad P N g1 e Φ):Ad P N g e Φ
theorem W.outs {g:aI}(h:W P N c g Φ) (nx:∀ e g',Φ e g'->Ad P N g' e oq):W P N c g oq:=by
 intro a w I Fs Q bh a7 dy;refine h bh a7 λe g' b0 w' ar aA=>?_;have nk:=nx e g' ar;clear ar nx;revert aA
 induction nk with
 | iq h=>exact λaA=>dy _ _ _ _ h aA
 | eH hw _ aL =>
  intro aA;refine aL dy ?_;obtain ⟨h1,af,I',b1,dX,bL⟩:=aA;obtain ⟨iJ,hY,gw⟩:=dX.eH hw;exact ⟨h1,af,I',iJ,hY,bL.ek,bL.more,bL.new,λc ⟨t,aa⟩=>bL.own c ⟨t,gw t c aa⟩⟩
def aJ (e:Exit) (Φ:Exit->aI->Prop) (G:List (Nat × ab)):Prop:=∀ g,h6 g G->Φ e g
theorem W.be {g:aI}(h:W P N c (get G) Φ) (av:h6 g G):W P N c g Φ:=by
 induction av with
 | iq=>exact h
 | eH hw _ aL=>exact (aL h).weaken hw
theorem pe.be {g:aI}(h:pe P N c (get G) Φ) (av:h6 g G):pe P N c g Φ:=by
 induction av with
 | iq=>exact h
 | eH hw _ aL=>exact (aL h).weaken hw
theorem aJ.bY (h:W P N B (get G) Φ):aJ .normal (o1 (λg1=>W P N B g1 Φ) oq) G:=λ_ av=>ZY (h.be av)
theorem aJ.hy (h:aJ (.exit k) oq G):aJ (.exit k) (o1 Ψ oq) G:=λg av=>ZX (h g av)
theorem aJ.kH (h:aJ .ret oq G):aJ .ret (o1 Ψ oq) G:=λg av=>ZZ (h g av)
theorem aJ.cT (h:aJ .normal Φ G):aJ .normal (lS id Φ) G:=λg av=>Xl (h g av)
theorem aJ.hs (h:aJ .normal Φ G):aJ (.exit id) (lS id Φ) G:=λg av=>Xj (h g av)
theorem aJ.Gy (hk:Nat.beq k id=false) (h:aJ (.exit k) Φ G):aJ (.exit k) (lS id Φ) G:=λg av=>Xk hk (h g av)
theorem aJ.qS (h:aJ .ret Φ G):aJ .ret (lS id Φ) G:=λg av=>Xm (h g av)
theorem W.hA (h:aJ (.exit k) Φ G):W P N (.exit k) (get G) Φ:=W.exit (h _ .iq)
theorem W.dO (h:aJ .normal Φ G):W P N .skip (get G) Φ:=W.skip (h _ .iq)
theorem W.rt (h:aJ .ret Φ G):W P N .ret (get G) Φ:=W.ret (h _ .iq)
theorem W.rx {id:Nat}{l:List Oper}(G1:List (Nat × ab)) (h:aC P N l.toArray l (get G) λg'=>j' g' (get G1)) (hk:aJ .normal Φ G1):W P N (.region id l.toArray false) (get G) Φ :=
 W.zO (λi hi=>by obtain ⟨g',h1,af⟩:=h i hi; exact ⟨g',h1,hk g' (.eH af .iq)⟩)
theorem W.du {G1:List (Nat × ab)}(h:Trim true (get G) (get G1) G1) (hw:W P N c (get G1) Φ):W P N c (get G) Φ:=hw.weaken h.eH
theorem W.st {G:List (Nat × ab)}(G1:List (Nat × ab)) (h:W P N c (get G1) Φ) (e:G1=G:=by rfl):W P N c (get G) Φ:=by subst e; exact h
theorem W.cT (h:W P N c (get G) (lS id Φ)):W P N (.block id c) (get G) Φ:=W.block h
theorem W.cN (G1:List (Nat × ab)) (h:W P N c (get G) λe g=>e=.normal/\h6 g G1) (hk:aJ .normal Φ G1):W P N c (get G) Φ :=
 h.mono λe g ⟨he,av⟩=>by subst he; exact hk g av
theorem aJ.cN (h:Trim true (get G) (get G1) G1):aJ .normal (λe g=>e=.normal/\h6 g G1) G:=λ_ av=>⟨rfl,av.trans (.eH h.eH .iq)⟩
def kP (G:S->List (Nat × ab)) (Ψ:R->Exit->aI->Prop):S ⊕ R->Exit->aI->Prop
 | .inl s,e,g=>e=.normal/\h6 g (G s)
 | .inr r,e,g=>e≠.normal/\Ψ r e g
theorem pe.it {f:S->Option (S ⊕ R)}{G:S->List (Nat × ab)}{Ψ:R->Exit->aI->Prop}(av:∀ s o,f s=some o->W P N c (get (G s)) (kP G Ψ o)) :
  ∀ (n:Nat) (s:S) (r:R),Own.iter f n s=some r->pe P N c (get (G s)) (Ψ r)
 | 0,_,_,h=>by simp [Own.iter] at h
 | n+1,s,r,h=>by
  simp only [Own.iter] at h;cases aS:f s with
  | none=>rw [aS] at h; cases h
  | some o =>
   rw [aS] at h;refine .step ((av s o aS).mono λe g' ah=>?_);cases o with
   | inl cu =>
    obtain ⟨rfl,hw⟩:=ah;exact (pe.it av n cu r h).be hw
   | inr cK =>
    cases h;obtain ⟨aA,hw⟩:=ah;cases e with
    | normal=>exact absurd rfl aA
    | _=>exact hw
theorem W.ey {f:S->Option (S ⊕ R)}{s:S}{r:R}(G:S->List (Nat × ab)) (Ψ:R->Exit->aI->Prop) (h:b6 f s=some r) (av:∀ s o,f s=some o->W P N c (get (G s)) (kP G Ψ o)) (hk:∀ e g,Ψ r e g->Φ e g):W P N (.loop c) (get (G s)) Φ :=
 (W.loop (pe.it av fuel s r h)).mono hk
theorem W.EU {f:S->Option (S ⊕ R)}{s:S}{r:R}(G:S->List (Nat × ab)) (id:Nat) (l4:R->List (Nat × ab)) (h:b6 f s=some r) (av:∀ s o,f s=some o->W P N c (get (G s)) (kP G (λr e g=>e=.exit id/\h6 g (l4 r)) o)) (hk:aJ (.exit id) Φ (l4 r)):W P N (.loop c) (get (G s)) Φ :=
 .ey G _ h av λe g ⟨he,aK⟩=>by subst he; exact hk g aK
theorem W.EV {gG:Type}{f:S->Option (S ⊕ (R ⊕ gG))}{s:S}{r:R ⊕ gG}(G:S->List (Nat × ab)) (id:Nat) (l4:R->List (Nat × ab)) (hQ:gG->List (Nat × ab)) (h:b6 f s=some r)
  (av:∀ s o,f s=some o->W P N c (get (G s)) (kP G (λ(r:R ⊕ gG) e g=>match r with | .inl r=>e=.exit id/\h6 g (l4 r) | .inr r=>e=.ret/\h6 g (hQ r)) o))
  (j:∀ x,r=.inl x->aJ (.exit id) Φ (l4 x)) (ah:∀ x,r=.inr x->aJ .ret Φ (hQ x)):W P N (.loop c) (get (G s)) Φ:=by
 refine .ey G _ h av λe g h=>?_;cases r with
 | inl r=>obtain ⟨rfl,aK⟩:=h; exact j r rfl g aK
 | inr r=>obtain ⟨rfl,aK⟩:=h; exact ah r rfl g aK
theorem aJ.go {s:S}{F:S->List (Nat × ab)}{Ψ:R->Exit->aI->Prop}(h:Trim true (get G) (get (F s)) (F s)):aJ .normal (kP F Ψ (.inl s)) G:=λ_ av=>⟨rfl,av.trans (.eH h.eH .iq)⟩
theorem aJ.bc {r:R}{F:S->List (Nat × ab)}{l4:R->List (Nat × ab)}(h:Trim true (get G) (get (l4 r)) (l4 r)):aJ (.exit id) (kP F (λr e g=>e=.exit id/\h6 g (l4 r)) (.inr r)) G:=λ_ av=>⟨by simp,rfl,av.trans (.eH h.eH .iq)⟩
theorem aJ.x2 {gG:Type}{r:R}{F:S->List (Nat × ab)}{l4:R->List (Nat × ab)}{hQ:gG->List (Nat × ab)}(h:Trim true (get G) (get (l4 r)) (l4 r)) :
  aJ (.exit id) (kP F (λ(r:R ⊕ gG) e g=>match r with | .inl r=>e=.exit id/\h6 g (l4 r) | .inr r=>e=.ret/\h6 g (hQ r)) (.inr (.inl r))) G:=λ_ av=>⟨by simp,rfl,av.trans (.eH h.eH .iq)⟩
theorem aJ.j2 {gG:Type}{r:gG}{F:S->List (Nat × ab)}{l4:R->List (Nat × ab)}{hQ:gG->List (Nat × ab)}(h:Trim true (get G) (get (hQ r)) (hQ r)) :
  aJ .ret (kP F (λ(r:R ⊕ gG) e g=>match r with | .inl r=>e=.exit id/\h6 g (l4 r) | .inr r=>e=.ret/\h6 g (hQ r)) (.inr (.inr r))) G:=λ_ av=>⟨by simp,rfl,av.trans (.eH h.eH .iq)⟩
def pZ (P:Program) (N:cP) (rs:List ResultVar) (n:Nat) (outs:List (Option ab)) (res:ab) (e:Exit) (g:aI):Prop:=∃ G,h6 g G/\Fin P N rs n outs res e (get G)
theorem W.fin {rs:List ResultVar}{n:Nat}{outs:List (Option ab)}{res:ab}{g:aI}(h:W P N c g (pZ P N rs n outs res)):W P N c g (Fin P N rs n outs res):=by
 have key:∀ e g,pZ P N rs n outs res e g->Ad P N g e (Fin P N rs n outs res):=by
  rintro e g ⟨G,av,aS⟩
  induction av with
  | iq=>exact .iq aS
  | eH hw _ aL=>exact .eH hw (aL aS)
 exact W.outs h key
theorem aJ.fin {rs:List ResultVar}{n:Nat}{outs:List (Option ab)}{res:ab}(h:Fin P N rs n outs res e (get G)):aJ e (pZ P N rs n outs res) G:=λ_ av=>⟨G,av,h⟩
end
end Go.Own
namespace Go.Own
open Go
set_option linter.unusedSectionVars false
variable [cE]
section
variable {P:Program}{N:cP}{ops:Array Oper}{a':List (List Nat)}{g0:aI}{K:aI->Prop}{l:List Oper}{acc:Acc}{d i:Nat}{op:Op}{ty:TypeId}{pos:String}{after:Array Edge}{x:ab}{gd:Option (Nat × Bool)}
abbrev jn (a':List (List Nat)) (g0:aI) (J:Nat) (acc:Acc):aI:=c0 g0 (λm=>(a'.getD J []).contains m) acc
def bH (P:Program) (N:cP) (ops:Array Oper) (a':List (List Nat)) (g0:aI) (i:Nat) (acc:Acc) (l:List Oper) (K:aI->Prop):Prop:=∀ dI J,mw P N ops a' g0 i dI->ix P N ops a' g0 i dI J acc->ops.toList.drop J=l->∃ g',sv P N ops a' i dI g0 g'/\K g'
theorem yM {J bw:Nat}{o:Oper}(h:ops.toList.drop J=o::l) (aj:Nat.beq ops.size (bw+l.length+1)=true):J=bw:=by
 grind [List.length_cons,Nat.eq_of_beq_eq_true]
theorem Rf (aA:acc.all (λe=>!Nat.beq e.2.1 d)=true):∀ e∈acc,e.2.1≠d:=by
 intro e he h;have:=List.all_eq_true.1 aA e he
 simp_all
theorem bH.st (bw:Nat) {r:Option ab}{o:Oper}(aP:o.dst=some d) (aw:p2 P (jn a' g0 bw acc) ops o r) (aj:Nat.beq ops.size (bw+l.length+1)=true) (aS:g0 d=none) (aA:acc.all (λe=>!Nat.beq e.2.1 d)=true) (a7:N.ok d=true)
  (hk:bH P N ops a' g0 i ((bw,d,r)::acc) l K):bH P N ops a' g0 i acc (o::l) K:=by
 intro dI J ck kz kv;have:=yM kv aj;subst this;obtain ⟨h1,af⟩:=drop_cons kv;exact hk dI (J+1) ck (.step kz h1 aP aS (Rf aA) a7 aw) af
theorem bH.v (bw:Nat) (ar:b5 P (jn a' g0 bw acc) op ty x) (aj:Nat.beq ops.size (bw+l.length+1)=true) (aS:g0 d=none) (aA:acc.all (λe=>!Nat.beq e.2.1 d)=true) (a7:N.ok d=true) (aK:Gd (jn a' g0 bw acc) ops gd)
  (hk:bH P N ops a' g0 i ((bw,d,some x)::acc) l K):bH P N ops a' g0 i acc (⟨some d,op,ty,pos,after,gd⟩::l) K :=
 .st bw (r:=some x) rfl (.inl ⟨aK.wanted,.inl ar⟩) aj aS aA a7 hk
theorem bH.c (bw:Nat) (ar:dd P (jn a' g0 bw acc) op x) (aj:Nat.beq ops.size (bw+l.length+1)=true) (aS:g0 d=none) (aA:acc.all (λe=>!Nat.beq e.2.1 d)=true) (a7:N.ok d=true) (aK:Gd (jn a' g0 bw acc) ops gd)
  (hk:bH P N ops a' g0 i ((bw,d,some x)::acc) l K):bH P N ops a' g0 i acc (⟨some d,op,ty,pos,after,gd⟩::l) K :=
 .st bw (r:=some x) rfl (.inl ⟨aK.wanted,.inr ar⟩) aj aS aA a7 hk
theorem bH.ps (bw:Nat) {vK t':Nat}{b c:Bool}(h:(ops[vK]?).bind (·.dst)=some t') (aK:jn a' g0 bw acc t'=some (bf c)) (av:c=!b) (aj:Nat.beq ops.size (bw+l.length+1)=true) (aS:g0 d=none) (aA:acc.all (λe=>!Nat.beq e.2.1 d)=true) (a7:N.ok d=true)
  (hk:bH P N ops a' g0 i ((bw,d,some (.bJ []))::acc) l K):bH P N ops a' g0 i acc (⟨some d,op,ty,pos,after,some (vK,b)⟩::l) K :=
 .st bw (r:=some (.bJ [])) rfl (.inr (.inl ⟨⟨t',h,.inl ⟨c,aK,by subst av; cases b <;> rfl⟩⟩,rfl⟩)) aj aS aA a7 hk
theorem bH.pu (bw:Nat) {vK t':Nat}{b:Bool}(h:(ops[vK]?).bind (·.dst)=some t') (aK:jn a' g0 bw acc t'=some (.bJ [])) (aj:Nat.beq ops.size (bw+l.length+1)=true) (aS:g0 d=none) (aA:acc.all (λe=>!Nat.beq e.2.1 d)=true) (a7:N.ok d=true)
  (hk:bH P N ops a' g0 i ((bw,d,some (.bJ []))::acc) l K):bH P N ops a' g0 i acc (⟨some d,op,ty,pos,after,some (vK,b)⟩::l) K :=
 .st bw (r:=some (.bJ [])) rfl (.inr (.inl ⟨⟨t',h,.inr ⟨aK,rfl⟩⟩,rfl⟩)) aj aS aA a7 hk
def lW (G:List (Nat × ab)):Bool:=G.all λp=>match p.2 with | .bC ..=>false | _=>true
theorem vP {G:List (Nat × ab)}(h:lW G=true):∀ t z q n m new,get G t≠some (.bC z q n m new):=by
 induction G with
 | nil=>intro t z q n m new j; cases j
 | cons p G aL =>
  grind [lW,get]
def xn:List Place->Bool
 | []=>true
 | p::l=>l.all (λq=>!(Nat.beq p.root q.root&&decide (p.path=q.path)))&&xn l
omit [cE] in
theorem Jz:∀ {l:List Place},xn l=true->l.Nodup
 | [],_=>List.nodup_nil
 | p::l,h=>by
  simp only [xn,Bool.and_eq_true,List.all_eq_true] at h;refine List.nodup_cons.2 ⟨λhm=>?_,Jz h.2⟩;have:=h.1 p hm;simp at this
theorem bH.fin {G G1:List (Nat × ab)}(aT:xn (acc.filterMap jL)=true) (fA:lW G=true) (hi:Nat.ble i ops.size=true) (h:Trim true (c0 (get G) (λ_=>true) acc) (get G1) G1):bH P N ops a' (get G) i acc [] λg'=>j' g' (get G1):=by
 intro dI J ck kz kv;have aj:J=ops.size:=by
  have h1:ops.size<=J:=by
   have:=congrArg List.length kv;rw [List.length_drop,List.length_nil,Array.length_toList] at this;omega
  have aF:J<=ops.size:=by
   cases kz with
   | nil=>exact Nat.le_of_ble_eq_true hi
   | step _ aV=>have:=(Array.getElem?_eq_some_iff.1 aV).1; omega
  omega
 subst aj;exact ⟨_,.fin kz (Jz aT) (vP fA),h.eH⟩
theorem sv.Ls {g g1 g':aI}{i J:Nat}{dI:Acc}{o:Oper}(ck:mw P N ops a' g i dI) (aw:ix P N ops a' g i dI J acc) (gv:(acc.filterMap jL).Nodup) (fA:∀ t z q n m new,g t≠some (.bC z q n m new)) (aV:ops[J]?=some o) (hw:ic (c0 g (λ_=>true) acc) ops o true)
  (he:bt P N (c0 g (λ_=>true) acc) o g1) (aQ:(List.range J).all (λk=>(a'.getD J []).contains k)=true) (av:(List.range ops.size).all (λk=>decide (k<=J)||(a'.getD k []).contains J)=true) (ah:sv P N ops a' (J+1) [] g1 g'):sv P N ops a' i dI g g':=by
 have dp:∀ e∈acc,(a'.getD J []).contains e.1=true:=λe h=>List.all_eq_true.1 aQ e.1 (List.mem_range.2 ((aw.le ck).2 e h));have e:c0 g (λm=>(a'.getD J []).contains m) acc=c0 g (λ_=>true) acc:=funext λt=>C4 λe h _=>dp e h;have fw:[]=acc.filter λe=>!(a'.getD J []).contains e.1:=by
  grind [List.filter_eq_nil_iff]
 exact .wv (rs:=se []) aw gv fA aV (by rw [e]; exact hw) (by rw [e]; exact he.kd.v) (λp ar=>by simp [se] at ar) fw (by simp) (by simp) (by simp) av ah
theorem W.rd {id:Nat}{l:List Oper}{G:List (Nat × ab)}{Φ:Exit->aI->Prop}(a':List (List Nat)) (G1:List (Nat × ab)) (hm:P.follows .mixedOrders=true) (dp:pf l.toArray a'=true)
  (h:bH P N l.toArray a' (get G) 0 [] l λg'=>j' g' (get G1)) (hk:aJ .normal Φ G1):W P N (.region id l.toArray true) (get G) Φ:=by
 obtain ⟨g',h1,af⟩:=h [] 0 .nil .nil (by simp);exact (fP.draw hm dp h1).w (hk g' (.eH af .iq))
end
end Go.Own
namespace Go.Own
open Go
set_option linter.unusedSectionVars false
variable [cE]
variable {α:Type}
section
variable {P:Program}{N:cP}{ops:Array Oper}{g g2:aI}{K:aI->Prop}{l:List Oper}{d r:Nat}{ty t t2:TypeId}{pos:String}{after:Array Edge}{a b c:Operand}{k kD:IntKind}{m n:Int}{s u:ByteArray}
namespace O
theorem gY {e:TypeId}{z:Value}{cs:List ab}(aT:(P.info? e).bind (·.zero)=some z) (h1:z.cells.toList.all Value.oneCell'=true) (aa:z.cells.toList.map j1=cs):b5 P g (.alloc e) ty (.obj cs):=by
 subst aa; exact .q6 (.alloc aT (by rw [<- Array.all_toList]; exact h1))
theorem eR {t:TypeId}{parts:Array (Nat × Operand)}{pl:List (Nat × Nat)}{c':Value}{ps:List (Nat × List ab)}{cs:List ab}(al:kj P t pl=true) (aT:(P.info? t).bind (·.zero)=some c') (h1:c'.cells.toList.all Value.oneCell'=true)
  (ar:q7 g parts.toList=some ps) (aa:vc (λi=>pl[i]?) (c'.cells.toList.map j1) ps=some cs):b5 P g (.build t parts) ty (.agg cs):=.Cj (.build al aT (by rw [<- Array.all_toList]; exact h1) ar aa)
end O
inductive p1 (g g2:aI):ab->Prop
 | n {x:ab}(h:cA x):p1 g g2 x
 | p {r k:Nat}{cs cs2:List ab}(h:g r=some (.obj cs)) (hk:k<cs.length) (af:g2 r=some (.obj cs2)) (fL:k<cs2.length):p1 g g2 (.ptr ⟨r,[]⟩ k)
 | r {z n N K1 q:Nat}{cs cs2:List ab}(h:g q=some (.own z N cs)) (aA:n<=N) (af:g2 q=some (.own z K1 cs2)) (oN:n<=K1):p1 g g2 (.bl z ⟨q,[]⟩ n)
theorem vX {r k:Nat}{cs:List ab}(h:g r=some (.obj cs)) (hk:k<cs.length):gP g (.ptr ⟨r,[]⟩ k):=⟨.obj cs,by simp [bx,h,ab.at],0,0,cs,.inr rfl,hk⟩
theorem CO {z n N q:Nat}{cs:List ab}(h:g q=some (.own z N cs)) (aA:n<=N):gP g (.bl z ⟨q,[]⟩ n):=.inl ⟨N,cs,by simp [bx,h,ab.at],aA⟩
theorem p1.ca {x:ab}(h:p1 g g2 x):et g2 x:=by
 cases h with
 | n h=>exact .bg h
 | p _ _ af fL=>exact .ref rfl (vX af fL)
 | r _ _ af oN=>exact .ref rfl (CO af oN)
theorem p1.CQ {x:ab}{zL k0 m0:Nat}(h:p1 g g2 x):j_ (λr=>gP g r/\Clear ⟨zL,[]⟩ k0 m0 r/\gP g2 r) x:=by
 cases h with
 | n h=>exact .bg h
 | p h hk af fL =>
  refine .ref rfl ⟨vX h hk,?_,vX af fL⟩;intro q a6 _ J cK e
  grind [zN]
 | r h hk af fL =>
  refine .ref rfl ⟨CO h hk,?_,CO af fL⟩;intro q a6 _ J cK e
  grind [zN]
theorem p1.fk {x:ab}(h:p1 g g2 x):∀ z p n m new,x≠.bC z p n m new:=by
 rintro z p n m new rfl;cases h with
 | n h=>cases h
inductive lg (g g2:aI) (r:Nat) (cs2:List ab):List (Nat × ab)->Prop
 | nil:lg g g2 r cs2 []
 | n {s:Nat}{x:ab}{l:List (Nat × ab)}(cy:Nat.beq s r=false) (h:g s=some x) [aA:b3 x] (t:lg g g2 r cs2 l):lg g g2 r cs2 ((s,x)::l)
 | p {s q k:Nat}{l:List (Nat × ab)}{cs kc:List ab}(cy:Nat.beq s r=false) (h:g s=some (.ptr ⟨q,[]⟩ k)) (h1:g q=some (.obj cs)) (hk:Nat.blt k cs.length=true) (af:g2 q=some (.obj kc)) (fL:Nat.blt k kc.length=true) (t:lg g g2 r cs2 l):lg g g2 r cs2 ((s,.ptr ⟨q,[]⟩ k)::l)
 | w {α:Type}{s q:Nat}{en:bA α}{L:List α}{l:List (Nat × ab)}(cy:Nat.beq s r=false) (h:g s=some (.bl en.z ⟨q,[]⟩ L.length)) (h1:g q=some (aq en L)) (af:g2 q=some (aq en L)) (t:lg g g2 r cs2 l):lg g g2 r cs2 ((s,.bl en.z ⟨q,[]⟩ L.length)::l)
 | b {l:List (Nat × ab)}{x:ab}(e:x=.obj cs2) [aA:dh cs2] (t:lg g g2 r cs2 l):lg g g2 r cs2 ((r,x)::l)
theorem lg.spec {cs2:List ab}{l:List (Nat × ab)}(h:lg g g2 r cs2 l):∀ t x,get l t=some x->(t≠r/\g t=some x/\p1 g g2 x)\/(t=r/\x=.obj cs2/\cA x):=by
 induction h with
 | nil=>intro t x j; cases j
 | @n s x l cy h aA _ aL =>
  intro t y ak; simp only [get] at ak
  split at ak
  ·rename_i e; subst e; cases ak; exact .inl ⟨Nat.ne_of_beq_eq_false cy,h,.n aA.bg⟩
  ·exact aL t y ak
 | @p s q k l cs kc cy h h1 hk af fL _ aL =>
  intro t y ak; simp only [get] at ak
  split at ak
  ·rename_i e; subst e; cases ak; exact .inl ⟨Nat.ne_of_beq_eq_false cy,h,.p h1 (by simpa using hk) af (by simpa using fL)⟩
  ·exact aL t y ak
 | @w α s q en L l cy h h1 af _ aL =>
  intro t y ak; simp only [get] at ak
  split at ak
  ·rename_i e; subst e; cases ak; exact .inl ⟨Nat.ne_of_beq_eq_false cy,h,.r h1 (Nat.le_refl _) af (Nat.le_refl _)⟩
  ·exact aL t y ak
 | @b l x e aA _ aL =>
  intro t y ak; simp only [get] at ak
  split at ak
  ·rename_i b8; subst b8; cases ak; subst e; exact .inr ⟨rfl,rfl,.obj aA.bg⟩
  ·exact aL t y ak
theorem bt.box {o:Oper}{k0:Nat}{cs cs' cs2:List ab}{y:ab}{G2:List (Nat × ab)}(aV:o.op=.store t a b) (aP:o.dst=none) (aw:g r=some (.obj cs)) (aQ:Rd g a (.ptr ⟨r,[]⟩ k0)) (av:Rd g b y) (aA:cA y) (aa:nS y=some cs') (aT:hL P t cs'.length=true)
  (hk:k0+cs'.length<=cs.length) (aO:0<cs'.length) (he:eP cs k0 cs'=cs2) [e8:dh cs] (ah:get G2 r≠none) (c9:lg g (get G2) r cs2 G2):bt P N g o (get G2):=by
 subst he;have mM:g r≠none:=by rw [aw]; simp
 refine .store aV aP aQ.bm av.bm (.bg (by simpa using aA)) .refl aa aT (p:=⟨r,[]⟩) (nd:=.obj cs) (z:=0) (n:=0) (by simp [bx,aw,ab.at]) (.inr rfl) hk aO (λt x j=>?_) (λt x j y ak=>?_) (λt z q n m new j=>?_) ah
 ·rcases c9.spec t x j with ⟨h1,af,_⟩ | ⟨h1,af,_⟩
  all_goals grind [ch,ab.setAt,ab.eP]
 ·rcases c9.spec t x j with ⟨h1,af,aF⟩ | ⟨h1,af,aF⟩
  ·rw [af] at ak;cases ak;exact aF.CQ
  ·subst h1;rw [aw] at ak;cases ak;exact .bg (.obj e8.bg)
 ·rcases c9.spec t _ j with ⟨_,_,aF⟩ | ⟨_,af,_⟩
  ·exact aF.fk _ _ _ _ _ rfl
  grind
theorem Trim.q {Gw:Bool}{ti q k0:Nat}{cs:List ab}{N0:List (Nat × ab)}(h:g ti=some (.ptr ⟨q,[]⟩ k0)) (af:g2 q=some (.obj cs)) (hk:Nat.blt k0 cs.length=true) (gM:Trim Gw g g2 N0):Trim Gw g g2 ((ti,.ptr ⟨q,[]⟩ k0)::N0) :=
 .r h (.ref rfl (vX af (by simpa using hk))) (by simp) gM
theorem aC.na {o:Oper}{G2:List (Nat × ab)}(aK:o.guard=none) (he:bt P N g o (get G2)) (hk:aC P N ops l (get G2) K):aC P N ops (o::l) g K:=by
 intro i hi;obtain ⟨h1,af⟩:=drop_cons hi;obtain ⟨g',ah,c5⟩:=hk (i+1) af;refine ⟨g',.kd h1 ?_ he ah,c5⟩
 grind [ic]
theorem aC.j4 {k0:Nat}{cs cs' cs2:List ab}{y:ab}{G2:List (Nat × ab)}(aw:g r=some (.obj cs)) (aQ:Rd g a (.ptr ⟨r,[]⟩ k0)) (av:Rd g b y) [aA:b3 y] (aa:nS y=some cs') (aT:hL P t cs'.length=true)
  (hk:Nat.ble (k0+cs'.length) cs.length=true) (aO:Nat.blt 0 cs'.length=true) (he:eP cs k0 cs'=cs2) [e8:dh cs] (ah:(get G2 r).isSome=true) (c9:lg g (get G2) r cs2 G2) (vr:aC P N ops l (get G2) K):aC P N ops (⟨none,.store t a b,ty,pos,after,none⟩::l) g K :=
 .na rfl (.box rfl rfl aw aQ av aA.bg aa aT (Nat.le_of_ble_eq_true hk) (by simpa using aO) he (by intro e; rw [e] at ah; cases ah) c9) vr
variable {a':List (List Nat)}{acc:Acc}{i:Nat}
theorem bH.wv (bw:Nat) {G G2:List (Nat × ab)}{o:Oper}(he:bt P N (c0 (get G) (λ_=>true) acc) o (get G2)) (aK:o.guard=none) (aT:acc.filterMap jL=[]) (fA:lW G=true) (aj:Nat.beq ops.size (bw+l.length+1)=true)
  (aQ:(List.range bw).all (λk=>(a'.getD bw []).contains k)=true) (av:(List.range ops.size).all (λk=>Nat.ble k bw||(a'.getD k []).contains bw)=true) (hk:bH P N ops a' (get G2) (bw+1) [] l K):bH P N ops a' (get G) i acc (o::l) K:=by
 intro dI J ck kz kv;have:=yM kv aj;subst this;obtain ⟨h1,af⟩:=drop_cons kv;obtain ⟨g',ah,c5⟩:=hk [] (J+1) .nil .nil af;refine ⟨g',.Ls ck kz (by rw [aT]; exact List.nodup_nil) (vP fA) h1 ?_ he aQ ?_ ah,c5⟩
 ·grind [ic]
 simp_all
theorem bH.j4 (bw:Nat) {G:List (Nat × ab)}{k0:Nat}{cs cs' cs2:List ab}{y:ab}{G2:List (Nat × ab)}(aj:Nat.beq ops.size (bw+l.length+1)=true) (wS:(List.range bw).all (λk=>(a'.getD bw []).contains k)=true) (A':(List.range ops.size).all (λk=>Nat.ble k bw||(a'.getD k []).contains bw)=true) (BQ:acc.filterMap jL=[]) (fA:lW G=true)
  (aw:c0 (get G) (λ_=>true) acc r=some (.obj cs)) (aQ:Rd (c0 (get G) (λ_=>true) acc) a (.ptr ⟨r,[]⟩ k0)) (av:Rd (c0 (get G) (λ_=>true) acc) b y) [aA:b3 y] (aa:nS y=some cs') (aT:hL P t cs'.length=true)
  (hk:Nat.ble (k0+cs'.length) cs.length=true) (aO:Nat.blt 0 cs'.length=true) (he:eP cs k0 cs'=cs2) [e8:dh cs] (ah:(get G2 r).isSome=true) (c9:lg (c0 (get G) (λ_=>true) acc) (get G2) r cs2 G2) (vr:bH P N ops a' (get G2) (bw+1) [] l K):bH P N ops a' (get G) i acc (⟨none,.store t a b,ty,pos,after,none⟩::l) K :=
 .wv bw (.box rfl rfl aw aQ av aA.bg aa aT (Nat.le_of_ble_eq_true hk) (by simpa using aO) he (by intro e; rw [e] at ah; cases ah) c9) rfl BQ fA aj wS A' vr
end
end Go.Own
namespace Go.Own
open Go
set_option linter.unusedSectionVars false
variable [cE]
variable {α β:Type}
def nB (m:Int) (z:α):Option (List α):=if 0<=m/\m<=lim then some (List.replicate m.toNat z) else none
def dj (l m:List α):Option (List α):=if l.length+m.length<=lim then some (l++m) else none
class Flat (e:bA α):Prop where sH:∀ a,(e.cells a).all lL=true
instance:Flat az:=⟨λ_=>rfl⟩
instance:Flat m':=⟨λ_=>rfl⟩
instance:Flat cn:=⟨λ_=>rfl⟩
instance:Flat cL:=⟨λ_=>rfl⟩
instance {e:bA α}:Flat (bI e):=⟨λ_=>rfl⟩
theorem Y8 (e:bA α) [h:Flat e] (l:List α):(bp e l).all lL=true:=by
 refine List.all_eq_true.2 λx j=>?_;obtain ⟨a,_,aQ⟩:=List.mem_flatMap.1 j;exact List.all_eq_true.1 (h.sH a) x aQ
theorem oV (e:bA α) (l m:List α):(.own e.z (l.length+m.length) (bp e l++bp e m):ab)=aq e (l++m):=by
 grind [Fq]
theorem xO (e:bA α) (l:List α):(bp e l).take (l.length * e.z)=bp e l:=by grind [oY]
theorem O':∀ L:List Int,bp m' L=L.map λb=>.lit (.int .u8 b)
 | []=>rfl
 | x::L=>by
  have:bp m' (x::L)=pc x::bp m' L:=rfl;rw [this,List.map_cons,O' L]
section
variable {P:Program}{N:cP}{ops:Array Oper}{g g1 g2:aI}{K:aI->Prop}{l:List Oper}{d r:Nat}{ty t t2:TypeId}{pos:String}{after:Array Edge}{gd:Option (Nat × Bool)}{a b c:Operand}{k kD:IntKind}{m n:Int}{s u:ByteArray}{p q:Place}
namespace O
theorem bn {e de:Nat}{parts:Array (Nat × Operand)}{ys:List ab}(en:bA α) (L:List α) (al:fa P t e en.z=true) (j:fB g (parts.toList.map (·.2))=some ys) (aa:l8 ys=some (bp en L)) (aT:ys.all (λy=>match jc y with | some c=>Nat.beq c.length en.z | none=>false)=true)
  (ar:parts.toList=(parts.toList.map (·.2)).mapIdx (λi x=>(i,x))) (aA:(parts.toList.map (·.2)).length=de) (ai:L.length=de) (hzero:h5 P e en.z=true) (av:Nat.ble (de * en.z) 16777216=true) (fy:Nat.ble de 16777216=true):b5 P g (.buildSlice t de parts) ty (aq en L):=by
 subst aA;have:=o'.buildSlice (P:=P) (ty:=ty) al ar j (λy ak=>by
  grind [Nat.eq_of_beq_eq_true]) aa (Nat.le_of_ble_eq_true av) (Nat.le_of_ble_eq_true fy) (.inr (KE hzero))
 unfold aq;rw [ai];exact .q6 this
theorem n_ {z br n:Nat}{e:TypeId}(j:Rd g a (.bl z p n)) (al:fa P t e br=true):b5 P g (.call { callee:=.builtin .len,args:=#[a],argTypes:=#[t] }) ty (ae n):=.eJ (.B1 j.bm al)
theorem iU {en:bA α}{L:List α}{y:α}{e:TypeId}(ar:bx g p=some (aq en L)) (j:Rd g a (.bl en.z p L.length)) (hi:Rd g b (.lit (.int k m))) (al:fa P t e en.z=true) (h:idx L m=some y) (aT:Nat.blt 0 en.z=true):b5 P g (.indexAddr t a b) ty (.ptr p (m.toNat * en.z+0)):=by
 obtain ⟨aO,h1,_⟩:=r1 h;obtain ⟨J,rfl⟩:=Int.eq_ofNat_of_zero_le aO;have NL:0<en.z:=by simpa using aT
 have aj:J<L.length:=by omega
 refine .eJ (.EE j.bm hi.bm al aj ⟨_,ar,_,_,_,.inl rfl,?_⟩)
 simp_all [oY]
theorem Y3 {en:bA α}{L:List α}{y:α}{o:Nat}(h:idx L m=some y) (aV:o<en.z):m.toNat * en.z+o<(bp en L).length:=by
 obtain ⟨aO,h1,_⟩:=r1 h;rw [oY];have af:m.toNat+1<=L.length:=by omega
 calc m.toNat * en.z+o<m.toNat * en.z+en.z:=by omega
  _=(m.toNat+1) * en.z:=by rw [Nat.add_mul]; omega
  _<=L.length * en.z:=Nat.mul_le_mul_right _ af
theorem mD {en:bA α}{L:List α}{y:α}{cu f off o ha:Nat}(ar:bx g p=some (aq en L)) (j:Rd g a (.ptr p (m.toNat * en.z+o))) (aS:jv P cu f off t=true) (h:idx L m=some y) (aV:o+off=ha) (aR:Nat.blt ha en.z=true):b5 P g (.fieldAddr cu a f) ty (.ptr p (m.toNat * en.z+ha)):=by
 subst aV;rw [<- Nat.add_assoc];refine .eJ (.AT j.bm aS ⟨_,ar,_,_,_,.inl rfl,?_⟩)
 simp_all [Nat.add_assoc,Y3]
theorem Ax {en:bA α}{L:List α}{y:α}{o:Nat}{x:ab}(ar:bx g p=some (aq en L)) (h:idx L m=some y) (aa:(en.cells y)[o]?=some x):bx g (p.push (m.toNat * en.z+o))=some x:=by
 rw [tM,ar];exact O_ en h aa
theorem lT {en:bA α}{L:List α}{y:α}{o:Nat}{x x':ab}(ar:bx g p=some (aq en L)) (j:Rd g a (.ptr p (m.toNat * en.z+o))) (al:kt P t=true) (h:idx L m=some y) (aa:(en.cells y)[o]?=some x) (ah:fC 0 (p.push (m.toNat * en.z+o)) x=x'):b5 P g (.load t a) ty x':=by
 subst ah;exact .eJ (.B5 j.bm al (Ax ar h aa))
theorem XC {en:bA α}{L:List α}{y:α}{o z:Nat}{cs':List ab}(ar:bx g p=some (aq en L)) (j:Rd g a (.ptr p (m.toNat * en.z+o))) (al:iN P t z=true) (h:idx L m=some y) (aT:Nat.ble (o+z) en.z=true)
  (aa:(((en.cells y).drop o).take z).mapIdx (λi x=>fC 0 (p.push (m.toNat * en.z+o+i)) x)=cs'):b5 P g (.load t a) ty (.agg cs'):=by
 have NL:=Nat.le_of_ble_eq_true aT;have kv:((bp en L).drop (m.toNat * en.z+o)).take z=((en.cells y).drop o).take z:=by
  rw [<- List.drop_drop,J1 en h,List.drop_append_of_le_length (by rw [en.len]; omega),List.take_append_of_le_length (by rw [List.length_drop,en.len]; omega)]
 subst aa;rw [<- kv];refine .eJ (.xl j.bm al ar (.inl rfl) ?_);obtain ⟨aO,h1,_⟩:=r1 h;rw [oY];have af:m.toNat+1<=L.length:=by omega
 calc m.toNat * en.z+o+z<=m.toNat * en.z+en.z:=by omega
  _=(m.toNat+1) * en.z:=by rw [Nat.add_mul]; omega
  _<=L.length * en.z:=Nat.mul_le_mul_right _ af
end O
class qM (g:aI):Prop where fk:∀ t z q n m new,g t≠some (.bC z q n m new)
class mS (x:ab):Prop where fk:∀ z q n m new,x≠.bC z q n m new
instance {x:ab} [h:b3 x]:mS x:=⟨by rintro z q n m new rfl; cases h.bg⟩
instance {p:Place}{k:Nat}:mS (.ptr p k):=⟨by simp⟩
instance {p:Place}{z n:Nat}:mS (.bl z p n):=⟨by simp⟩
instance {p:Place}{z lo n:Nat}:mS (.sub z p lo n):=⟨by simp⟩
instance {cs:List ab}:mS (.agg cs):=⟨by simp⟩
instance {cs:List ab}:mS (.bJ cs):=⟨by simp⟩
instance {cs:List ab}:mS (.obj cs):=⟨by simp⟩
instance {g:aI}{d:Nat}{x:ab} [h:qM g] [j:mS x]:qM (cH g d x):=⟨λt z q n m new e=>by
 unfold cH at e
 split at e
 ·cases e; exact j.fk _ _ _ _ _ rfl
 ·exact h.fk _ _ _ _ _ _ e⟩
instance:qM (get []):=⟨λ_ _ _ _ _ _ e=>by cases e⟩
instance {t:Nat}{x:ab}{G:List (Nat × ab)} [j:mS x] [h:qM (get G)]:qM (get ((t,x)::G)):=⟨λs z q n m new e=>by
 simp only [get] at e
 split at e
 ·cases e; exact j.fk _ _ _ _ _ rfl
 ·exact h.fk _ _ _ _ _ _ e⟩
class Dk (acc:Acc):Prop where fk:∀ e∈acc,∀ z q n m new,e.2.2≠some (.bC z q n m new)
instance:Dk []:=⟨by simp⟩
instance {J d:Nat}{x:ab}{acc:Acc} [j:mS x] [h:Dk acc]:Dk ((J,d,some x)::acc):=⟨λe he z q n m new bD=>by
 rcases List.mem_cons.1 he with rfl | he
 ·exact j.fk z q n m new (Option.some.inj bD)
 ·exact h.fk e he z q n m new bD⟩
instance {G:List (Nat × ab)}{A:Nat->Bool}{acc:Acc} [aK:qM (get G)] [h:Dk acc]:qM (c0 (get G) A acc):=⟨λt z q n m new e=>by
 rcases uX e with ⟨b8,he,_,_,af⟩ | ⟨_,af⟩
 ·exact h.fk b8 he _ _ _ _ _ af
 ·exact aK.fk _ _ _ _ _ _ af⟩
theorem yy {L M:List α}{r:List α}{b:Nat}(h:dj L M=some r) (av:Nat.ble b 128=true):L.length+M.length<=4611686018427387904/\(L.length+M.length) * b<=140737488355328/\r=L++M:=by
 unfold dj at h
 split at h
 ·rename_i ai;have h9:=Nat.le_of_ble_eq_true av;have qW:lim=1099511627776:=rfl;refine ⟨by omega,?_,(Option.some.inj h).symm⟩
  calc (L.length+M.length) * b<=1099511627776 * 128:=Nat.mul_le_mul ai h9
   _=140737488355328:=by decide
 ·cases h
inductive nN (g:aI) (en:bA α):ab->List α->Prop
 | i {M:List α}:nN g en (.bk en.z M.length (bp en M)) M
 | n:nN g en .aU []
 | o {q:Place}{M:List α}(a6:bx g q=some (aq en M)) (aS:(bp en M).all lL=true):nN g en (.bl en.z q M.length) M
theorem nN.src {en:bA α}{y:ab}{M:List α}(h:nN g en y M):Src g y en.z M.length (bp en M):=by
 cases h with
 | i=>exact .bk
 | n=>exact .aU
 | o a6 aS =>
  have:=Src.bl (g:=g) (m:=M.length) a6 (Nat.le_refl _)
  simp_all [xO,AV]
theorem nN.flat (en:bA α) [Flat en] {q:Place}{M:List α}(a6:bx g q=some (aq en M)):nN g en (.bl en.z q M.length) M:=.o a6 (Y8 en M)
namespace O
theorem ap {en:bA α}{L M r:List α}{y:ab}{e gp:Nat}(aw:Rd g a (.bl en.z p L.length)) (ar:bx g p=some (aq en L)) (j:Rd g b y) (hm:nN g en y M) (al:ka P t e en.z gp=true) (av:Nat.ble gp 128=true) (h:dj L M=some r) [e8:qM g] :
  b5 P g (.call { callee:=.builtin .append,args:=#[a,b],argTypes:=#[t,t] }) ty (.bC en.z p L.length M.length (bp en M)):=by
 obtain ⟨h1,af,_⟩:=yy h av;exact .lD (.grow aw.bm (.inl ⟨_,ar⟩) (λt br cf bd cO e=>e8.fk _ _ _ _ _ _ e) j.bm hm.src al h1 af)
theorem Rx {en:bA α}{M r:List α}{y:ab}{e gp:Nat}(aw:Rd g a .aU) (j:Rd g b y) (hm:nN g en y M) (al:ka P t e en.z gp=true) (av:Nat.ble gp 128=true) (h:dj [] M=some r) :
  b5 P g (.call { callee:=.builtin .append,args:=#[a,b],argTypes:=#[t,t] }) ty (aq en M):=by
 obtain ⟨h1,af,_⟩:=yy h av;simp only [List.length_nil,Nat.zero_add] at h1 af;exact .lD (.nil aw.bm j.bm hm.src al h1 af)
end O
inductive mx (ex:List Nat) (g g2:aI):List (Nat × ab)->Prop
 | nil:mx ex g g2 []
 | n {s:Nat}{x:ab}{l:List (Nat × ab)}(cy:ex.elem s=false) (h:g s=some x) [aA:b3 x] (t:mx ex g g2 l):mx ex g g2 ((s,x)::l)
 | p {s q k:Nat}{l:List (Nat × ab)}{kc:List ab}(cy:ex.elem s=false) (h:g s=some (.ptr ⟨q,[]⟩ k)) (af:g2 q=some (.obj kc)) (fL:Nat.blt k kc.length=true) (t:mx ex g g2 l):mx ex g g2 ((s,.ptr ⟨q,[]⟩ k)::l)
 | w {α:Type}{s q:Nat}{en:bA α}{L:List α}{l:List (Nat × ab)}(cy:ex.elem s=false) (h:g s=some (.bl en.z ⟨q,[]⟩ L.length)) (af:g2 q=some (aq en L)) (t:mx ex g g2 l):mx ex g g2 ((s,.bl en.z ⟨q,[]⟩ L.length)::l)
theorem mx.spec {ex:List Nat}{l:List (Nat × ab)}(h:mx ex g g2 l):∀ t x,get l t=some x->ex.elem t=false/\g t=some x/\et g2 x/\∀ z p n m new,x≠.bC z p n m new:=by
 induction h with
 | nil=>intro t x j; cases j
 | @n s x l cy h aA _ aL =>
  intro t y ak; simp only [get] at ak
  split at ak
  ·rename_i e; subst e; cases ak; exact ⟨cy,h,.bg aA.bg,by rintro z p n m new rfl; cases aA.bg⟩
  ·exact aL t y ak
 | @p s q k l kc cy h af fL _ aL =>
  intro t y ak; simp only [get] at ak
  split at ak
  ·rename_i e; subst e; cases ak; exact ⟨cy,h,.ref rfl (vX af (by simpa using fL)),by simp⟩
  ·exact aL t y ak
 | @w α s q en L l cy h af _ aL =>
  intro t y ak; simp only [get] at ak
  split at ak
  ·rename_i e; subst e; cases ak; exact ⟨cy,h,.ref rfl (.inl ⟨_,_,(by simp [bx,af,ab.at]:bx g2 ⟨q,[]⟩=some (aq en L)),Nat.le_refl _⟩),by simp⟩
  ·exact aL t y ak
theorem mx.keep {ex:List Nat}{G2:List (Nat × ab)}(h:mx ex g (get G2) G2) (aK:∀ t,ex.elem t=false->g1 t=g t):hh g1 (get G2) :=
 ⟨λt x j=>by obtain ⟨h1,af,_⟩:=h.spec t x j; rw [aK t h1]; exact af,λt x j=>(h.spec t x j).2.2.1,λt z q n m new j=>(h.spec t _ j).2.2.2 _ _ _ _ _ rfl⟩
theorem Take.row {en:bA α}{L:List α}(ar:bx g p=some (aq en L)):Take g [.bl en.z p L.length] [aq en L] (ch g p .dead):=by
 have h1:Take (ch g p .dead) ((bp en L).take (L.length * en.z)) (bp en L) (ch g p .dead):=by
  rw [xO]; exact .bg (pQ en L)
 exact .bl ar (Nat.le_refl _) h1 (.bg (by simp))
theorem Take.Y5 {en:bA α}{L M:List α}{s:Nat}(aw:g s=some (.bC en.z q L.length M.length (bp en M))) (ar:bx g q=some (aq en L)) (a6:q.root≠s):Take g [.bl en.z ⟨s,[]⟩ (L.length+M.length)] [aq en (L++M)] (ch (ch g ⟨s,[]⟩ .dead) q .dead):=by
 rw [<- oV];exact .bC aw ar a6 (.bg λx j=>(List.mem_append.1 j).elim (pQ en L x) (pQ en M x)) (.bg (by simp))
theorem Take.Y6 {en:bA α}{L M M2:List α}{s s2:Nat}(aw:g s=some (.bC en.z ⟨s2,[]⟩ (L.length+M2.length) M.length (bp en M))) (ky:g s2=some (.bC en.z q L.length M2.length (bp en M2))) (ar:bx g q=some (aq en L)) (a6:q.root≠s) (qZ:q.root≠s2) (BB:s≠s2) :
  Take g [.bl en.z ⟨s,[]⟩ (L.length+M2.length+M.length)] [aq en (L++M2++M)] (ch (ch (ch g ⟨s,[]⟩ .dead) ⟨s2,[]⟩ .dead) q .dead):=by
 have:=Take.zr (g:=g) (xs:=[]) (xs':=[]) aw ky rfl ar a6 qZ BB (.bg (xs:=bp en L++bp en M2++bp en M) λx j=>by
  grind [pQ]) (.bg (by simp))
 grind [Fq]
theorem v7 {t:Nat}{y:ab}(h:t≠p.root):ch g p y t=g t:=by
 grind [ch]
theorem yN {ex:List Nat}{t s:Nat}(h:ex.elem t=false) (aw:ex.elem s=true):t≠s:=by
 grind
theorem bt.yx {o:Oper}{en:bA α}{L:List α}{x:Operand}{G2:List (Nat × ab)}(aV:o.op=.assign x) (aP:o.dst=some d) (j:Rd g x (.bl en.z p L.length)) (ar:bx g p=some (aq en L)) (c9:mx [p.root] g (get G2) G2) (aK:get G2 d=none) (a7:N.ok d=true):bt P N g o (cH (get G2) d (aq en L)) :=
 .assign aV aP j.bm (.row ar) .refl (c9.keep λt al=>v7 (yN al (by simp))) aK a7
theorem bt.Lc {o:Oper}{en:bA α}{L M:List α}{s:Nat}{x:Operand}{G2:List (Nat × ab)}(aV:o.op=.assign x) (aP:o.dst=some d) (j:Rd g x (.bl en.z ⟨s,[]⟩ (L.length+M.length))) (aw:g s=some (.bC en.z q L.length M.length (bp en M))) (ar:bx g q=some (aq en L)) (a6:Nat.beq q.root s=false)
  (c9:mx [s,q.root] g (get G2) G2) (aK:get G2 d=none) (a7:N.ok d=true):bt P N g o (cH (get G2) d (aq en (L++M))) :=
 .assign aV aP j.bm (.Y5 aw ar (Nat.ne_of_beq_eq_false a6)) .refl (c9.keep λt al=>by rw [v7 (yN al (by simp)),v7 (yN al (by simp))]) aK a7
theorem bt.Ra {o:Oper}{en:bA α}{L M M2:List α}{s s2:Nat}{x:Operand}{G2:List (Nat × ab)}(aV:o.op=.assign x) (aP:o.dst=some d) (j:Rd g x (.bl en.z ⟨s,[]⟩ (L.length+M2.length+M.length))) (aw:g s=some (.bC en.z ⟨s2,[]⟩ (L.length+M2.length) M.length (bp en M)))
  (ky:g s2=some (.bC en.z q L.length M2.length (bp en M2))) (ar:bx g q=some (aq en L)) (a6:Nat.beq q.root s=false) (qZ:Nat.beq q.root s2=false) (BB:Nat.beq s s2=false)
  (c9:mx [s,s2,q.root] g (get G2) G2) (aK:get G2 d=none) (a7:N.ok d=true):bt P N g o (cH (get G2) d (aq en (L++M2++M))) :=
 .assign aV aP j.bm (.Y6 aw ky ar (Nat.ne_of_beq_eq_false a6) (Nat.ne_of_beq_eq_false qZ) (Nat.ne_of_beq_eq_false BB)) .refl (c9.keep λt al=>by rw [v7 (yN al (by simp)),v7 (yN al (by simp)),v7 (yN al (by simp))]) aK a7
theorem aC.wI {o:Oper}{x:ab}{G2:List (Nat × ab)}(aK:o.guard=none) (he:bt P N g o (cH (get G2) d x)) (hk:aC P N ops l (cH (get G2) d x) K):aC P N ops (o::l) g K:=by
 intro i hi;obtain ⟨h1,af⟩:=drop_cons hi;obtain ⟨g',ah,c5⟩:=hk (i+1) af;refine ⟨g',.kd h1 ?_ he ah,c5⟩
 grind [ic]
theorem sI {x:ab}{G:List (Nat × ab)}:cH (get G) d x=get ((d,x)::G):=by
 grind [cH,get]
variable {a':List (List Nat)}{acc:Acc}{i:Nat}
inductive Ao (P:Program):aI->List ResultVar->List ab->List ab->aI->Prop
 | nil {g:aI}:Ao P g [] [] [] g
 | f {g g':aI}{t:Nat}{x:ab}{rs:List ResultVar}{ys xs:List ab}(h:g t=some x) (aS:lL x=true) [aA:b3 x] (al:Ao P g rs ys xs g'):Ao P g (.tmp t::rs) (x::ys) (x::xs) g'
 | o {g g':aI}{t:Nat}{en:bA α}{L:List α}{rs:List ResultVar}{ys xs:List ab}(h:g t=some (aq en L)) (al:Ao P (ch g ⟨t,[]⟩ .dead) rs ys xs g'):Ao P g (.tmp t::rs) (.bl en.z ⟨t,[]⟩ L.length::ys) (aq en L::xs) g'
end
end Go.Own
namespace Go.Own
open Go
set_option linter.unusedSectionVars false
variable [cE]
variable {α β:Type}
section
variable {P:Program}{N:cP}{ops:Array Oper}{g g' g1 g2:aI}{K:aI->Prop}{l:List Oper}{d r:Nat}{ty t t2:TypeId}{pos:String}{after:Array Edge}{a b c:Operand}{p q:Place}{e:Exit}
inductive mU (s:Nat):aI->Nat->List ab->List ab->aI->Prop
 | nil {g:aI}{i:Nat}:mU s g i [] [] g
 | f {g g':aI}{i:Nat}{x:ab}{ys xs:List ab}(aS:lL x=true) [aA:b3 x] (al:mU s g (i+1) ys xs g'):mU s g i (x::ys) (x::xs) g'
 | o {α:Type}{g g':aI}{i:Nat}{en:bA α}{L:List α}{ys xs:List ab}(ar:bx g ⟨s,[i]⟩=some (aq en L)) (al:mU s (ch g ⟨s,[i]⟩ .dead) (i+1) ys xs g'):mU s g i (.bl en.z ⟨s,[i]⟩ L.length::ys) (aq en L::xs) g'
theorem mU.take {s i:Nat}{ys xs:List ab}(h:mU s g i ys xs g'):Take g ys xs g':=by
 induction h with
 | nil=>exact .bg (by simp)
 | @f g g' i x ys xs aS aA _ aL=>exact .cons aA.bg aL
 | @o α g g' i en L ys xs ar _ aL =>
  refine .bl ar (Nat.le_refl _) ?_ aL;rw [xO]; exact .bg (pQ en L)
inductive jR (P:Program):aI->List ResultVar->List ab->List ab->aI->Prop
 | nil {g:aI}:jR P g [] [] [] g
 | f {g g':aI}{t:Nat}{x:ab}{rs:List ResultVar}{ys xs:List ab}(h:g t=some x) (aS:lL x=true) [aA:b3 x] (al:jR P g rs ys xs g'):jR P g (.tmp t::rs) (x::ys) (x::xs) g'
 | o {α:Type}{g g':aI}{t:Nat}{en:bA α}{L:List α}{rs:List ResultVar}{ys xs:List ab}(h:g t=some (aq en L)) (al:jR P (ch g ⟨t,[]⟩ .dead) rs ys xs g'):jR P g (.tmp t::rs) (.bl en.z ⟨t,[]⟩ L.length::ys) (aq en L::xs) g'
 | c {g g' wM:aI}{t z:Nat}{ty:TypeId}{cs ys0:List ab}{rs:List ResultVar}{ys xs:List ab}(h:g t=some (.obj cs)) (al:iN P ty z=true) (aT:cs.length=z) (aO:Nat.blt 0 z=true) (ak:(cs.mapIdx λi x=>fC 0 ⟨t,[i]⟩ x)=ys0) (hk:mU t g 0 ys0 cs wM) (ah:jR P wM rs ys xs g'):jR P g (.cell t ty::rs) (.agg ys0::ys) (.agg cs::xs) g'
def x9 (g0 g:aI):Prop:=∀ t x,g t=some x->(lL x=true\/(∃ z n cs,x=.own z n cs))->g0 t=some x
theorem x9.set {g0:aI}{t:Nat}{pp:List Nat}(h:x9 g0 g) (aV:pp=[]\/∃ cs,g t=some (.obj cs)):x9 g0 (ch g ⟨t,pp⟩ .dead):=by
 intro s x j aS;unfold ch at j
 split at j
 ·rename_i aw;simp only at aw j;subst aw;exfalso;cases aK:g s with
  | none=>rw [aK] at j; cases j
  | some y =>
   rw [aK] at j;simp only [Option.map_some,Option.some.injEq] at j;rcases aV with rfl | ⟨cs,aa⟩
   ·simp only [ab.setAt] at j;subst j;rcases aS with aS | ⟨_,_,_,aS⟩ <;> cases aS
   ·rw [aK] at aa;cases aa;have:∃ cs',x=.obj cs':=by
     subst j;cases pp with
     | nil=>simp only [ab.setAt] at aS; rcases aS with aS | ⟨_,_,_,aS⟩ <;> cases aS
     | cons k pp =>
      simp only [ab.setAt,ab.kids];split
      ·exact ⟨_,rfl⟩
      ·exact ⟨_,rfl⟩
    obtain ⟨cs',rfl⟩:=this;rcases aS with aS | ⟨_,_,_,aS⟩ <;> cases aS
 ·exact h s x j aS
theorem mU.dies {g0:aI}{s i:Nat}{ys xs:List ab}(h:mU s g i ys xs g'):(∃ cs,g s=some (.obj cs))->x9 g0 g->x9 g0 g':=by
 induction h with
 | nil=>exact λ_ h=>h
 | f _ _ aL=>exact aL
 | @o α g g' i en L ys xs ar _ aL =>
  intro aV aP;refine aL ?_ (aP.set (.inr aV));obtain ⟨cs,aa⟩:=aV;unfold ch;simp only [if_pos,aa,Option.map_some,ab.setAt,ab.kids];split
  ·exact ⟨_,rfl⟩
  ·exact ⟨_,rfl⟩
theorem mU.out {s i:Nat}{ys xs:List ab}(h:mU s g i ys xs g'):∀ t,t≠s->g' t=g t:=by
 induction h with
 | nil=>exact λ_ _=>rfl
 | f _ _ aL=>exact aL
 | o _ _ aL=>exact λt al=>by rw [aL t al,v7 al]
theorem jR.take {rs:List ResultVar}{ys xs:List ab}(h:jR P g rs ys xs g'):Take g ys xs g':=by
 induction h with
 | nil=>exact .bg (by simp)
 | @f g g' t x rs ys xs h aS aA _ aL=>exact .cons aA.bg aL
 | @o α g g' t en L rs ys xs h _ aL =>
  have ar:bx g ⟨t,[]⟩=some (aq en L):=by simp [bx,h,ab.at]
  refine .bl ar (Nat.le_refl _) ?_ aL;rw [xO]; exact .bg (pQ en L)
 | @c g g' wM t z ty cs ys0 rs ys xs h al aT aO ak hk _ aL=>exact .agg hk.take aL
theorem jR.vs {rs:List ResultVar}{ys xs:List ab}(h:jR P g rs ys xs g'):∀ g0:aI,x9 g0 g->(∀ t ty,ResultVar.cell t ty∈rs->∀ cs,g t=some (.obj cs)->g0 t=some (.obj cs))->(rs.filterMap fun | .cell t _=>some t | _=>none).Nodup->ry P g0 rs ys:=by
 induction h with
 | nil=>exact λ_ _ _ _=>.nil
 | @f g g' t x rs ys xs h aS aA _ aL =>
  intro g0 aP av fj;exact .cons (.tmp (Rd.f (aP t x h (.inl aS)) aS)) (aL g0 aP (λt ty hm=>av t ty (List.mem_cons_of_mem _ hm)) (by simpa using fj))
 | @o α g g' t en L rs ys xs h _ aL =>
  intro g0 aP av fj;refine .cons (.tmp ?_) (aL g0 (aP.set (.inl rfl)) (λs ty hm cs aa=>?_) (by simpa using fj))
  ·have:=aP t _ h (.inr ⟨_,_,_,rfl⟩);simp [Own.bm,this,od,fC]
  ·by_cases aw:s=t
   ·subst aw; simp [ch,h,ab.setAt] at aa
   ·rw [v7 aw] at aa; exact av s ty (List.mem_cons_of_mem _ hm) cs aa
 | @c g g' wM t z ty cs ys0 rs ys xs h al aT aO ak hk _ aL =>
  intro g0 aP av fj;have h1:=av t ty (by simp) cs h;simp only [List.filterMap_cons,List.nodup_cons] at fj;refine .cons ?_ (aL g0 (hk.dies ⟨cs,h⟩ aP) (λs xX hm cs' aa=>?_) fj.2)
  ·have NL:0<z:=by simpa using aO
   have j:Own.bm g0 (.tmp t)=some (.ptr ⟨t,[]⟩ 0):=by
    cases cs with
    | nil=>simp at aT; omega
    | cons c cs=>simp [Own.bm,h1,od,fC]
   have:=cR.xl (P:=P) (ty:=ty) (p:=⟨t,[]⟩) (n:=0) (z:=0) j al (by simp only [bx,h1,ab.at]) (.inr rfl) (show 0+z<=cs.length by omega);have g_:((cs.drop 0).take z).mapIdx (λi x=>fC 0 (Place.push ⟨t,[]⟩ (0+i)) x)=ys0:=by
    rw [List.drop_zero,List.take_of_length_le (by omega),<- ak];congr 1;funext i x;simp [Place.push]
   rw [g_] at this;exact .cell this
  ·have bL:s≠t:=by
    rintro rfl;exact fj.1 (List.mem_filterMap.2 ⟨.cell s xX,hm,rfl⟩)
   have:=hk.out s bL;rw [this] at aa;exact av s xX (List.mem_cons_of_mem _ hm) cs' aa
inductive qO (g:aI) (pins:List Nat):Nat->List (Option ab)->Prop
 | nil {i:Nat}:qO g pins i []
 | no {i:Nat}{os:List (Option ab)}(t:qO g pins (i+1) os):qO g pins i (none::os)
 | ag {i:Nat}{x:ab}{os:List (Option ab)}(h:g i=some x) [aA:b3 x] (ar:pins.elem i=true) (t:qO g pins (i+1) os):qO g pins i (some x::os)
theorem qO.spec {pins:List Nat}{i:Nat}{os:List (Option ab)}(h:qO g pins i os):∀ k x,os[k]?=some (some x)->g (i+k)=some x/\cA x/\i+k∈pins:=by
 induction h with
 | nil=>intro k x hk; simp at hk
 | no _ aL =>
  intro k x hk;cases k with
  | zero=>simp at hk
  | succ k=>have:=aL k x (by simpa using hk); rw [Nat.add_assoc,Nat.add_comm 1 k] at this; exact this
 | @ag i y os h aA ar _ aL =>
  intro k x hk;cases k with
  | zero=>simp at hk; subst hk; exact ⟨h,aA.bg,by simpa using ar⟩
  | succ k=>have:=aL k x (by simpa using hk); rw [Nat.add_assoc,Nat.add_comm 1 k] at this; exact this
theorem Fin.ro {rs:List ResultVar}{ys xs:List ab}{res:ab}{outs:List (Option ab)}{n:Nat}(h:jR P g rs ys xs g') (he:oX xs=res) (fj:(rs.filterMap fun | .cell t _=>some t | _=>none).Nodup) (aV:qO g' N.pins 0 outs) (ai:outs.length=n) (j:e=.normal\/e=.ret):Fin P N rs n outs res e g :=
 ⟨j,⟨ys,xs,g',h.vs g (λ_ _ h _=>h) (λ_ _ _ _ h=>h) fj,h.take,he.symm,λk x hk=>by have:=aV.spec k x hk; rw [Nat.zero_add] at this; exact this⟩,ai⟩
class iM (x y:ab):Prop where v:∀ g,View g x y
class c6 (xs ys:List ab):Prop where
 l:ys.length=xs.length
 v:∀ (g:aI) (k:Nat) (x y:ab),xs[k]?=some x->ys[k]?=some y->View g x y
class gn (e b8:bA α):Prop where
 z:e.z=b8.z
 v:∀ a,c6 (e.cells a) (b8.cells a)
instance {v:Value}:iM (.lit v) (.lit v):=⟨λ_=>.self .lit (by simp) (by simp) (by simp) (by simp) (by simp)⟩
instance:iM .aU .aU:=⟨λ_=>.self .aU (by simp) (by simp) (by simp) (by simp) (by simp)⟩
instance {z n:Nat}{cs:List ab} [h:dh cs]:iM (.bk z n cs) (.bk z n cs):=⟨λ_=>.self (.bk h.bg) (by simp) (by simp) (by simp) (by simp) (by simp)⟩
instance {cs:List ab} [h:dh cs]:iM (.cJ cs) (.cJ cs):=⟨λ_=>.self (.cJ h.bg) (by simp) (by simp) (by simp) (by simp) (by simp)⟩
instance {e:bA α}:iM .aU (ao e []):=⟨λ_=>.qt⟩
instance:c6 [] []:=⟨rfl,by simp⟩
instance {x y:ab}{xs ys:List ab} [h:iM x y] [aH:c6 xs ys]:c6 (x::xs) (y::ys):=⟨by simp [aH.l],λg k a b aQ av=>by
 cases k with
 | zero=>simp at aQ av; subst aQ av; exact h.v g
 | succ k=>exact aH.v g k a b (by simpa using aQ) (by simpa using av)⟩
theorem C6 (e b8:bA α) [h:gn e b8]:∀ L:List α,(bp b8 L).length=(bp e L).length/\∀ (g:aI) (k:Nat) (x y:ab),(bp e L)[k]?=some x->(bp b8 L)[k]?=some y->View g x y
 | []=>⟨rfl,by simp [bp]⟩
 | a::L=>by
  obtain ⟨h1,af⟩:=C6 e b8 L;have Tm:∀ e:bA α,bp e (a::L)=e.cells a++bp e L:=λe=>by simp [bp]
  refine ⟨by rw [oY,oY,h.z],λg k x y j ak=>?_⟩;rw [Tm] at j ak;by_cases hk:k<e.z
  ·rw [List.getElem?_append_left (by rw [e.len]; exact hk)] at j;rw [List.getElem?_append_left (by rw [b8.len,<- h.z]; exact hk)] at ak;exact (h.v a).v g k x y j ak
  ·rw [List.getElem?_append_right (by rw [e.len]; omega),e.len] at j;rw [List.getElem?_append_right (by rw [b8.len,<- h.z]; omega),b8.len,<- h.z] at ak;exact af g _ x y j ak
instance {e b8:bA α}{L:List α} [h:gn e b8]:iM (aq e L) (ao b8 L):=⟨λg=>by
 have:=C6 e b8 L;show View g (.own e.z L.length (bp e L)) (.bk b8.z L.length (bp b8 L));rw [<- h.z];exact .own this.1 (this.2 g)⟩
instance:gn az az:=⟨rfl,λa=>(inferInstance:c6 [ae a] [ae a])⟩
instance:gn m' m':=⟨rfl,λa=>(inferInstance:c6 [pc a] [pc a])⟩
instance:gn cn cn:=⟨rfl,λa=>(inferInstance:c6 [bf a] [bf a])⟩
instance:gn cL cL:=⟨rfl,λa=>(inferInstance:c6 [ax a] [ax a])⟩
instance {e b8:bA α} [h:gn e b8]:gn (L5 e) (bI b8):=⟨rfl,λa=>(inferInstance:c6 [aq e a] [ao b8 a])⟩
instance {e:bA α}:gn (bI e) (bI e):=⟨rfl,λa=>(inferInstance:c6 [ao e a] [ao e a])⟩
theorem View.row {e b8:bA α}{L:List α} [h:gn e b8] (ar:bx g p=some (aq e L)):View g (.bl e.z p L.length) (ao b8 L):=by
 have:=C6 e b8 L;show View g _ (.bk b8.z L.length (bp b8 L));rw [<- h.z];refine .bl ar (Nat.le_refl _) (by rw [xO]; exact this.1) (λk x y j ak=>?_);rw [xO] at j;exact this.2 g k x y j ak
inductive oz (g:aI):List ab->List ab->Prop
 | nil:oz g [] []
 | s {x y:ab}{xs ys:List ab} [h:iM x y] (t:oz g xs ys):oz g (x::xs) (y::ys)
 | c {x y:ab}{xs ys:List ab}(h:View g x y) (t:oz g xs ys):oz g (x::xs) (y::ys)
theorem oz.len {xs ys:List ab}(h:oz g xs ys):ys.length=xs.length:=by
 induction h with
 | nil=>rfl
 | s _ aL=>simp [aL]
 | c _ _ aL=>simp [aL]
theorem oz.get {xs ys:List ab}(h:oz g xs ys):∀ (k:Nat) (x y:ab),xs[k]?=some x->ys[k]?=some y->View g x y:=by
 induction h with
 | nil=>intro k x y j; simp at j
 | @s x y xs ys h _ aL =>
  intro k a b aQ av;cases k with
  | zero=>simp at aQ av; subst aQ av; exact h.v g
  | succ k=>exact aL k a b (by simpa using aQ) (by simpa using av)
 | @c x y xs ys h _ aL =>
  intro k a b aQ av;cases k with
  | zero=>simp at aQ av; subst aQ av; exact h
  | succ k=>exact aL k a b (by simpa using aQ) (by simpa using av)
theorem View.nR {xs ys:List ab}(h:oz g xs ys):View g (.agg xs) (.agg ys):=.agg h.len h.get
class ow (x:ab):Prop where k6:jP x
class i' (cs:List ab):Prop where k6:∀ x∈cs,jP x
class lf (e:bA α):Prop where k6:∀ a,i' (e.cells a)
instance {v:Value}:ow (.lit v):=⟨.lit⟩
instance:ow .aU:=⟨.aU⟩
instance {k:Nat × Nat}:ow (.self k):=⟨.self⟩
instance {t:Nat}{us:List Value}:ow (.eY t us):=⟨.eY⟩
instance:i' []:=⟨by simp⟩
instance {x:ab}{xs:List ab} [h:ow x] [aH:i' xs]:i' (x::xs):=⟨λy ak=>by
 rcases List.mem_cons.1 ak with rfl | ak
 ·exact h.k6
 ·exact aH.k6 y ak⟩
instance {e:bA α}{L:List α} [h:lf e]:i' (bp e L):=⟨λx j=>by
 obtain ⟨a,_,aQ⟩:=List.mem_flatMap.1 j;exact (h.k6 a).k6 x aQ⟩
instance {z n:Nat}{cs:List ab} [h:i' cs]:ow (.own z n cs):=⟨.own h.k6⟩
instance {cs:List ab} [h:i' cs]:ow (.obj cs):=⟨.obj h.k6⟩
instance {cs:List ab} [h:i' cs]:ow (.agg cs):=⟨.agg h.k6⟩
instance {cs:List ab} [h:i' cs]:ow (.bJ cs):=⟨.bJ h.k6⟩
instance {e:bA α}{a:α} [h:lf e]:i' (e.cells a):=h.k6 a
instance:lf az:=⟨λa=>(inferInstance:i' [ae a])⟩
instance:lf m':=⟨λa=>(inferInstance:i' [pc a])⟩
instance:lf cn:=⟨λa=>(inferInstance:i' [bf a])⟩
instance:lf cL:=⟨λa=>(inferInstance:i' [ax a])⟩
instance {e:bA α} [h:lf e]:lf (L5 e):=⟨λa=>(inferInstance:i' [aq e a])⟩
theorem XY {outs:List (Option ab)}{args:List ab}(aV:s_ outs=true) (ai:outs.length=args.length):outs=args.map λ_=>none:=by
 apply List.ext_getElem?;intro k;rw [List.getElem?_map];cases ak:args[k]? with
 | none=>rw [List.getElem?_eq_none (by rw [ai]; exact List.getElem?_eq_none_iff.1 ak)]; rfl
 | some y =>
  have hk:k<outs.length:=by rw [ai]; exact (List.getElem?_eq_some_iff.1 ak).1
  have h1:=List.getElem?_eq_getElem hk;rw [h1];cases af:outs[k] with
  | none=>rfl
  | some x=>rw [af] at h1; exact absurd h1 (E5 aV k x)
theorem dd.vw {xs:List Operand}{gh:Array TypeId}{f:FuncId}{ys args:List ab}{outs:List (Option ab)}{res:ab}(j:fB g xs=some ys) (hv:oz g ys args) (gS:b7 P f args outs res) (aS:ju P f=true) (aV:s_ outs=true) [ah:ow res] :
  dd P g (.call { callee:=.value (.func f),args:=xs.toArray,argTypes:=gh }) res:=by
 have e:=XY aV gS.1;refine .EO (first:=[]) (caps:=[]) (ys:=ys) (args:=args) rfl (by simpa using j) aS (by simpa using hv.len) (λk x y j ak=>hv.get k x y (by simpa using j) ak) ?_ ah.k6;rw [<- e]; exact gS
end
end Go.Own
namespace Go.Own
open Go
set_option linter.unusedSectionVars false
variable [cE]
variable {α β:Type}
section
variable {P:Program}{N:cP}{ops:Array Oper}{g g' g1 g2:aI}{K:aI->Prop}{l:List Oper}{d r:Nat}{op:Op}{ty t t2:TypeId}{pos:String}{after:Array Edge}{gd:Option (Nat × Bool)}{a b c:Operand}{p q:Place}{x y:ab}
variable {a':List (List Nat)}{g0:aI}{acc:Acc}{i:Nat}
instance {cs cs':List ab} [h:c6 cs cs']:iM (.obj cs) (.cJ cs'):=⟨λg=>.obj h.l (h.v g)⟩
instance {cs cs':List ab} [h:c6 cs cs']:iM (.agg cs) (.agg cs'):=⟨λg=>.agg h.l (h.v g)⟩
instance {z n:Nat}{cs cs':List ab} [h:c6 cs cs']:iM (.own z n cs) (.bk z n cs'):=⟨λg=>.own h.l (h.v g)⟩
theorem aC.gy (ar:b5 P g op ty y) [aA:b3 y] [hv:iM y x] (a7:N.ok d=true) (aS:g d=none) (aK:Gd g ops gd) (hk:aC P N ops l (cH g d x) K):aC P N ops (⟨some d,op,ty,pos,after,gd⟩::l) g K :=
 .zT rfl a7 aS (r:=some x) (.inr (.inr ⟨aK.wanted,y,.inl ar,aA.bg,hv.v _⟩)) hk
theorem bH.gy (bw:Nat) (ar:b5 P (jn a' g0 bw acc) op ty y) [aA:b3 y] [hv:iM y x] (aj:Nat.beq ops.size (bw+l.length+1)=true) (aS:g0 d=none) (ji:acc.all (λe=>!Nat.beq e.2.1 d)=true) (a7:N.ok d=true) (aK:Gd (jn a' g0 bw acc) ops gd)
  (hk:bH P N ops a' g0 i ((bw,d,some x)::acc) l K):bH P N ops a' g0 i acc (⟨some d,op,ty,pos,after,gd⟩::l) K :=
 .st bw (r:=some x) rfl (.inr (.inr ⟨aK.wanted,y,.inl ar,aA.bg,hv.v _⟩)) aj aS ji a7 hk
inductive nQ (ex:List Nat) (g g2:aI):List (Nat × ab)->Prop
 | nil:nQ ex g g2 []
 | n {s:Nat}{x:ab}{l:List (Nat × ab)}(cy:ex.elem s=false) (h:g s=some x) [aA:b3 x] (t:nQ ex g g2 l):nQ ex g g2 ((s,x)::l)
 | p {s q k:Nat}{l:List (Nat × ab)}{kc:List ab}(cy:ex.elem s=false) (h:g s=some (.ptr ⟨q,[]⟩ k)) (af:g2 q=some (.obj kc)) (fL:Nat.blt k kc.length=true) (t:nQ ex g g2 l):nQ ex g g2 ((s,.ptr ⟨q,[]⟩ k)::l)
 | z {s:Nat}{x y:ab}{l:List (Nat × ab)}(he:ex.elem s=true) (h:g s=some y) [aA:b3 y] (hv:gO y x) [j:mS x] (t:nQ ex g g2 l):nQ ex g g2 ((s,x)::l)
theorem nQ.spec {ex:List Nat}{l:List (Nat × ab)}(h:nQ ex g g2 l):∀ t x,get l t=some x->((ex.elem t=false/\g t=some x/\et g2 x)\/(ex.elem t=true/\∃ y,g t=some y/\cA y/\gO y x))/\∀ z p n m new,x≠.bC z p n m new:=by
 induction h with
 | nil=>intro t x j; cases j
 | @n s x l cy h aA _ aL =>
  intro t y ak; simp only [get] at ak
  split at ak
  ·rename_i e; subst e; cases ak; exact ⟨.inl ⟨cy,h,.bg aA.bg⟩,by rintro z p n m new rfl; cases aA.bg⟩
  ·exact aL t y ak
 | @p s q k l kc cy h af fL _ aL =>
  intro t y ak; simp only [get] at ak
  split at ak
  ·rename_i e; subst e; cases ak; exact ⟨.inl ⟨cy,h,.ref rfl (vX af (by simpa using fL))⟩,by simp⟩
  ·exact aL t y ak
 | @z s x y l he h aA hv j _ aL =>
  intro t y' ak; simp only [get] at ak
  split at ak
  ·rename_i e; subst e; cases ak; exact ⟨.inr ⟨he,y,h,aA.bg,hv⟩,j.fk⟩
  ·exact aL t y' ak
theorem nQ.vd {ex:List Nat}{G2:List (Nat × ab)}(h:nQ ex g (get G2) G2):Ge (λt=>ex.elem t) g (get G2):=by
 refine ⟨λt x j al=>?_,λt x j al=>?_,λt z q n m new j=>(h.spec t _ j).2 _ _ _ _ _ rfl⟩
 ·rcases (h.spec t x j).1 with ⟨_,h1,af⟩ | ⟨h1,_⟩
  ·grind
  grind
 ·rcases (h.spec t x j).1 with ⟨h1,_⟩ | ⟨_,af⟩
  ·grind
  grind
theorem W.dN {bj:Code}{G G1:List (Nat × ab)}{Φ:Exit->aI->Prop}(ex:List Nat) (h:nQ ex (get G) (get G1) G1) (hw:W P N bj (get G1) Φ):W P N bj (get G) Φ:=by
 intro Q a w I Fs bh a7 dy;obtain ⟨I',b1,dX,bL⟩:=bh.vd h.vd;exact hw dX a7 λe g' b0 w' he aA=>dy e g' b0 w' he (hR.trans rfl hr.refl bL aA)
theorem aC.dN {G1:List (Nat × ab)}(ex:List Nat) (h:nQ ex g (get G1) G1) (hk:aC P N ops l (get G1) K):aC P N ops l g K:=by
 intro i hi;obtain ⟨g',ah,c5⟩:=hk i hi;exact ⟨g',.vd h.vd ah,c5⟩
theorem Take.pre {xs xs':List ab}:∀ {ps:List ab},(∀ x∈ps,cA x)->Take g xs xs' g'->Take g (ps++xs) (ps++xs') g'
 | [],_,h=>h
 | x::ps,aA,h=>.cons (aA x (by simp)) (Take.pre (ps:=ps) (λy ak=>aA y (List.mem_cons_of_mem _ ak)) h)
inductive e2:aI->List ab->List ab->aI->Prop
 | nil {g:aI}:e2 g [] [] g
 | jz {g:aI}{xs:List ab} [aA:dh xs]:e2 g xs xs g
 | f {g g':aI}{x:ab}{xs xs':List ab} [aA:b3 x] (t:e2 g xs xs' g'):e2 g (x::xs) (x::xs') g'
 | r {α:Type}{g g':aI}{p:Place}{en:bA α}{L:List α}{xs xs':List ab}(ar:bx g p=some (aq en L)) (t:e2 (ch g p .dead) xs xs' g'):e2 g (.bl en.z p L.length::xs) (aq en L::xs') g'
 | l {g g1 g':aI}{p:Place}{z n:Nat}{cs cs' xs xs':List ab}(ar:bx g p=some (.own z n cs)) (ai:cs.length=n * z) (h1:e2 (ch g p .dead) cs cs' g1) (t:e2 g1 xs xs' g'):e2 g (.bl z p n::xs) (.own z n cs'::xs') g'
 | hb {α:Type}{g g1 g':aI}{q:Place}{s m:Nat}{en:bA α}{L:List α}{new cO xs xs':List ab}(aw:g s=some (.bC en.z q L.length m new)) (ar:bx g q=some (aq en L)) (a6:Nat.beq q.root s=false) (h1:e2 (ch (ch g ⟨s,[]⟩ .dead) q .dead) new cO g1) (t:e2 g1 xs xs' g') :
   e2 g (.bl en.z ⟨s,[]⟩ (L.length+m)::xs) (.own en.z (L.length+m) (bp en L++cO)::xs') g'
 | nR {g g1 g':aI}{cs cs' xs xs':List ab}(h1:e2 g cs cs' g1) (t:e2 g1 xs xs' g'):e2 g (.agg cs::xs) (.agg cs'::xs') g'
 | m {g g':aI}{p:Place}{q:Array MapEntry->Nat->Prop}{xs xs':List ab}(ar:bx g p=some (.mp q)) (t:e2 (ch g p .dead) xs xs' g'):e2 g (.hf p::xs) (.mp q::xs') g'
 | b {g g1 g':aI}{p:Place}{cs cs' xs xs':List ab}(ar:bx g p=some (.obj cs)) (h1:e2 (ch g p .dead) cs cs' g1) (t:e2 g1 xs xs' g'):e2 g (.ptr p 0::xs) (.obj cs'::xs') g'
theorem e2.take {xs xs':List ab}(h:e2 g xs xs' g'):Take g xs xs' g':=by
 induction h with
 | m ar _ aL=>exact .mp ar (.bg (by simp)) aL
 | nil=>exact .bg (by simp)
 | @jz g xs aA=>exact .bg aA.bg
 | @f g g' x xs xs' aA _ aL=>exact .cons aA.bg aL
 | @r α g g' p en L xs xs' ar _ aL =>
  refine .bl ar (Nat.le_refl _) ?_ aL;rw [xO];exact .bg (pQ en L)
 | @l g g1 g' p z n cs cs' xs xs' ar ai _ _ gb fR =>
  refine .bl ar (Nat.le_refl _) ?_ fR
  grind
 | @hb α g g1 g' q s m en L new cO xs xs' aw ar a6 _ _ gb fR=>exact .bC aw ar (Nat.ne_of_beq_eq_false a6) (.pre (pQ en L) gb) fR
 | @nR g g1 g' cs cs' xs xs' _ _ gb fR=>exact .agg gb fR
 | @b g g1 g' p cs cs' xs xs' ar _ _ gb fR=>exact .obj ar gb fR
inductive fm:List ab->List ab->Prop
 | nil:fm [] []
 | iq {xs:List ab}:fm xs xs
 | f {x:ab}{xs ys:List ab}(t:fm xs ys):fm (x::xs) (x::ys)
 | o {z:Nat}{xs ys:List ab}(t:fm xs ys):fm (.aU::xs) (.own z 0 []::ys)
 | z {x y:ab}{xs ys:List ab} [aA:b3 x] [hv:iM x y] (t:fm xs ys):fm (x::xs) (y::ys)
 | g {x y:ab}{xs ys:List ab}(h:gO x y) (t:fm xs ys):fm (x::xs) (y::ys)
theorem fm.len {xs ys:List ab}(h:fm xs ys):ys.length=xs.length:=by
 induction h with
 | nil=>rfl
 | iq=>rfl
 | f _ aL=>simp [aL]
 | o _ aL=>simp [aL]
 | z _ aL=>simp [aL]
 | g _ _ aL=>simp [aL]
theorem fm.get {xs ys:List ab}(h:fm xs ys):∀ (k:Nat) (x y:ab),xs[k]?=some x->ys[k]?=some y->gO x y:=by
 induction h with
 | nil=>intro k x y j; simp at j
 | iq=>intro k x y j ak; rw [j] at ak; cases ak; exact .refl
 | @f x xs ys _ aL =>
  intro k a b aQ av;cases k with
  | zero=>simp at aQ av; subst aQ av; exact .refl
  | succ k=>exact aL k a b (by simpa using aQ) (by simpa using av)
 | @o z xs ys _ aL =>
  intro k a b aQ av;cases k with
  | zero=>simp at aQ av; subst aQ av; exact .Ca
  | succ k=>exact aL k a b (by simpa using aQ) (by simpa using av)
 | @z x y xs ys aA hv _ aL =>
  intro k a b aQ av;cases k with
  | zero=>simp at aQ av; subst aQ av; exact .oS aA.bg (hv.v _)
  | succ k=>exact aL k a b (by simpa using aQ) (by simpa using av)
 | @g x y xs ys h _ aL =>
  grind
theorem fm.pre {xs ys:List ab}(h:fm xs ys):∀ ps:List ab,fm (ps++xs) (ps++ys)
 | []=>h
 | _::ps=>.f (fm.pre h ps)
theorem fm.own {z n:Nat}{xs ys:List ab}(h:fm xs ys):gO (.own z n xs) (.own z n ys):=.own h.len h.get
theorem fm.obj {xs ys:List ab}(h:fm xs ys):gO (.obj xs) (.obj ys):=.obj h.len h.get
theorem fm.agg {xs ys:List ab}(h:fm xs ys):gO (.agg xs) (.agg ys):=.agg h.len h.get
theorem gO.j9 [aA:b3 x] [hv:iM x y]:gO x y:=.oS aA.bg (hv.v _)
theorem bt.Aq {o:Oper}{x:Operand}{y bT y':ab}{G2:List (Nat × ab)}(aV:o.op=.assign x) (aP:o.dst=some d) (j:Rd g x y) (al:e2 g [y] [bT] g1) (aT:gO bT y') (c9:Trim false g1 (get G2) G2) (aK:get G2 d=none) (a7:N.ok d=true):bt P N g o (cH (get G2) d y') :=
 .assign aV aP j.bm al.take aT c9.keep aK a7
theorem bt.Ru {o:Oper}{x:Operand}{en:bA α}{L M R:List α}{s m:Nat}{new cO:List ab}{G2:List (Nat × ab)}(aV:o.op=.assign x) (aP:o.dst=some d) (j:Rd g x (.bl en.z ⟨s,[]⟩ (L.length+m))) (aw:g s=some (.bC en.z q L.length m new)) (ar:bx g q=some (aq en L)) (a6:Nat.beq q.root s=false)
  (h1:e2 (ch (ch g ⟨s,[]⟩ .dead) q .dead) new cO g1) (aT:fm cO (bp en M)) (hm:M.length=m) (ah:L++M=R) (c9:Trim false g1 (get G2) G2) (aK:get G2 d=none) (a7:N.ok d=true):bt P N g o (cH (get G2) d (aq en R)):=by
 subst hm ah;have al:=e2.hb (xs:=[]) (xs':=[]) aw ar a6 h1 .nil;rw [<- oV];exact .assign aV aP j.bm al.take (aT.pre _).own c9.keep aK a7
theorem bt.uV {o:Oper}{k0:Nat}{jd cs' cs2:List ab}{y bT y':ab}{G2:List (Nat × ab)}(aV:o.op=.store t a b) (aP:o.dst=none) (aQ:Rd g a (.ptr ⟨r,[]⟩ k0)) (av:Rd g b y) (al:e2 g [y] [bT] g1) (nX:gO bT y') (aa:nS y'=some cs') (aT:hL P t cs'.length=true)
  (aw:g1 r=some (.obj jd)) (hk:Nat.ble (k0+cs'.length) jd.length=true) (aO:Nat.blt 0 cs'.length=true) (he:eP jd k0 cs'=cs2) [e8:dh jd] (ah:(get G2 r).isSome=true) (c9:lg g1 (get G2) r cs2 G2):bt P N g o (get G2):=by
 subst he;refine .store aV aP aQ.bm av.bm al.take nX aa aT (p:=⟨r,[]⟩) (nd:=.obj jd) (z:=0) (n:=0) (by simp [bx,aw,ab.at]) (.inr rfl) (Nat.le_of_ble_eq_true hk) (by simpa using aO) (λt x j=>?_) (λt x j y ak=>?_) (λt z q n m new j=>?_) (by intro e; rw [e] at ah; cases ah)
 ·rcases c9.spec t x j with ⟨h1,af,_⟩ | ⟨h1,af,_⟩
  all_goals grind [ch,ab.setAt,ab.eP]
 ·rcases c9.spec t x j with ⟨h1,af,aF⟩ | ⟨h1,af,aF⟩
  ·rw [af] at ak;cases ak;exact aF.CQ
  ·subst h1;rw [aw] at ak;cases ak;exact .bg (.obj e8.bg)
 ·rcases c9.spec t _ j with ⟨_,_,aF⟩ | ⟨_,af,_⟩
  ·exact aF.fk _ _ _ _ _ rfl
  grind
theorem bt.Kf {o:Oper}{k0 s m:Nat}{en:bA α}{L M R:List α}{new cO:List ab}{jd cs2:List ab}{G2:List (Nat × ab)}(aV:o.op=.store t a b) (aP:o.dst=none) (aQ:Rd g a (.ptr ⟨r,[]⟩ k0)) (av:Rd g b (.bl en.z ⟨s,[]⟩ (L.length+m))) (qh:g s=some (.bC en.z q L.length m new)) (ar:bx g q=some (aq en L)) (a6:Nat.beq q.root s=false)
  (h1:e2 (ch (ch g ⟨s,[]⟩ .dead) q .dead) new cO g1) (nX:fm cO (bp en M)) (hm:M.length=m) (aY:L++M=R) (aT:hL P t 1=true)
  (aw:g1 r=some (.obj jd)) (hk:Nat.ble (k0+1) jd.length=true) (he:eP jd k0 [aq en R]=cs2) [e8:dh jd] (ah:(get G2 r).isSome=true) (c9:lg g1 (get G2) r cs2 G2):bt P N g o (get G2):=by
 subst hm aY;have al:=e2.hb (xs:=[]) (xs':=[]) qh ar a6 h1 .nil;refine .uV (y':=aq en (L++M)) aV aP aQ av al ?_ rfl aT aw hk rfl he ah c9;rw [<- oV]; exact (nX.pre _).own
inductive mR (r:Nat) (cs:List ab) (k0:Nat):Nat->List ab->List ab->Prop
 | nil {i:Nat}:mR r cs k0 i [] []
 | b {i:Nat}{xs ys:List ab}(hi:Nat.beq i k0=true) (t:mR r cs k0 (i+1) xs ys):mR r cs k0 i (.ptr ⟨r,[]⟩ 0::xs) (.obj cs::ys)
 | n {i:Nat}{x:ab}{xs ys:List ab}(hi:Nat.beq i k0=false) [aA:b3 x] (t:mR r cs k0 (i+1) xs ys):mR r cs k0 i (x::xs) (x::ys)
theorem mR.len {cs:List ab}{k0 i:Nat}{xs ys:List ab}(h:mR r cs k0 i xs ys):ys.length=xs.length:=by
 induction h with
 | nil=>rfl
 | b _ _ aL=>simp [aL]
 | n _ _ aL=>simp [aL]
theorem mR.XZ {cs:List ab}{k0 i:Nat}{xs ys:List ab}(h:mR r cs k0 i xs ys) (hi:k0<i):xs=ys/\∀ x∈xs,cA x:=by
 induction h with
 | nil=>exact ⟨rfl,by simp⟩
 | @b i _ _ h _ _=>have:=Nat.eq_of_beq_eq_true h; omega
 | @n i x xs ys _ aA _ aL =>
  obtain ⟨h1,af⟩:=aL (by omega);exact ⟨by rw [h1],pG aA.bg af⟩
theorem mR.take {cs:List ab}{k0 i:Nat}{xs ys:List ab}(h:mR r cs k0 i xs ys) (aw:g r=some (.obj cs)) (aA:∀ x∈cs,cA x):i<=k0->k0<i+xs.length->Take g xs ys (ch g ⟨r,[]⟩ .dead):=by
 induction h with
 | nil=>intro h1 af; simp at af; omega
 | @b i xs ys hi t _ =>
  intro h1 af;have:=Nat.eq_of_beq_eq_true hi;obtain ⟨e,mJ⟩:=t.XZ (by omega);subst e;exact .obj (by simp [bx,aw,ab.at]) (.bg aA) (.bg mJ)
 | @n i x xs ys hi j _ aL =>
  intro h1 af;have:=Nat.ne_of_beq_eq_false hi;simp only [List.length_cons] at af;exact .cons j.bg (aL (by omega) (by omega))
theorem mR.RG {cs:List ab}{k0 i:Nat}{xs ys:List ab}(h:mR r cs k0 i xs ys):i<=k0->k0<i+xs.length->xs[k0 - i]?=some (.ptr ⟨r,[]⟩ 0):=by
 induction h with
 | nil=>intro h1 af; simp at af; omega
 | @b i xs ys hi _ _=>intro _ _; have:=Nat.eq_of_beq_eq_true hi; subst this; simp
 | @n i x xs ys hi _ _ aL =>
  grind [Nat.ne_of_beq_eq_false]
def uF (n k0:Nat) (x:ab):List (Option ab):=(List.range n).map λi=>if i=k0 then some x else none
inductive x7 (g:aI) (d r:Nat) (n:Nat) (G4:List (Nat × ab)):List (Nat × ab)->Prop
 | nil:x7 g d r n G4 []
 | c {s k:Nat}{l:List (Nat × ab)}(h:g s=some (.ptr ⟨r,[]⟩ k)) (hk:Nat.blt k n=true) (aP:Nat.beq s d=false) (bu:get G4 s=none) (t:x7 g d r n G4 l):x7 g d r n G4 ((s,.ptr ⟨r,[]⟩ k)::l)
theorem DY {A B:List (Nat × ab)}{t:Nat}:get (A++B) t=match get A t with | some x=>some x | none=>get B t:=by
 induction A with
 | nil=>rfl
 | cons p A aL =>
  grind [get]
theorem x7.spec {n:Nat}{G4 A:List (Nat × ab)}(h:x7 g d r n G4 A):∀ t x,get A t=some x->get G4 t=none/\t≠d/\g t=some x/\∃ k,x=.ptr ⟨r,[]⟩ k/\k<n:=by
 induction h with
 | nil=>intro t x j; cases j
 | @c s k l h hk aP bu _ aL =>
  intro t x j;simp only [get] at j
  split at j
  ·rename_i e;subst e;cases j
   simp_all [Nat.ne_of_beq_eq_false]
  grind
theorem hN.lC {o:Oper}{xs:List Operand}{gh:Array TypeId}{f:FuncId}{ys args:List ab}{res:ab}{cs cs':List ab}{k0:Nat}{G2 A:List (Nat × ab)}(aV:o.op=.call { callee:=.value (.func f),args:=xs.toArray,argTypes:=gh }) (aP:o.dst=some d) (j:Own.fB g xs=some ys)
  (aw:g r=some (.obj cs)) [e8:dh cs] (aQ:mR r cs k0 0 ys args) (mf:Nat.blt k0 ys.length=true) (gS:b7 P f args (uF args.length k0 (.obj cs')) res) (aS:ju P f=true) [ah:b3 res] [Bp:dh cs']
  (c9:Trim false (ch g ⟨r,[]⟩ .dead) (get ((r,.dead)::G2)) G2) (aK:get G2 d=none) (rT:Nat.beq r d=false) (A1:Trim false (get ((r,.obj cs')::G2)) (get ((r,.obj cs')::G2)) G2) (dp:x7 g d r cs'.length ((r,.obj cs')::G2) A) (a7:N.ok d=true) :
  hN P N g o d (get (A++(d,res)::(r,.obj cs')::G2)):=by
 have acY:k0<ys.length:=by simpa using mf
 have By:r≠d:=Nat.ne_of_beq_eq_false rT;have oG:args.length=ys.length:=aQ.len;have oO:(uF args.length k0 (.obj cs'))[k0]?=some (some (.obj cs')):=by
  unfold uF;rw [List.getElem?_map,List.getElem?_range (by omega)];simp
 have V5:∀ (k:Nat) (x:ab),(uF args.length k0 (.obj cs'))[k]?=some (some x)->x=.obj cs':=by
  intro k x h;unfold uF at h;rw [List.getElem?_map] at h;cases hk:(List.range args.length)[k]? with
  | none=>rw [hk] at h; cases h
  | some J =>
   rw [hk] at h;simp only [Option.map_some,Option.some.injEq] at h
   split at h
   ·exact (Option.some.inj h).symm
   ·cases h
 have GY:get ((r,ab.dead)::G2) r=some .dead:=by simp [get]
 have xe:hh (ch g ⟨r,[]⟩ .dead) (get ((r,.dead)::G2)):=by
  refine ⟨λt x h=>?_,λt x h=>?_,λt z q n m new h=>?_⟩
  all_goals
   simp only [get] at h
   split at h
  ·rename_i e; subst e; cases h; simp [ch,aw,ab.setAt]
  ·obtain ⟨⟨y,h1,_,aF⟩,_⟩:=c9.spec t x h; rw [<- aF rfl]; exact h1
  ·cases h; exact .bg .dead
  ·exact (c9.spec t x h).2.1
  ·cases h
  ·exact (c9.spec t _ h).2.2 _ _ _ _ _ rfl
 have put:qy (get ((r,.dead)::G2)) [(⟨r,[]⟩,.obj cs')]=get ((r,.obj cs')::G2):=by
  funext t;simp only [qy,ch,get];by_cases h:t=r
  ·simp [h,ab.setAt]
  ·simp [h]
 have xf:hh (get ((r,.obj cs')::G2)) (get ((r,.obj cs')::G2)):=by
  refine ⟨λt x h=>h,λt x h=>?_,λt z q n m new h=>?_⟩
  all_goals
   simp only [get] at h
   split at h
  ·cases h; exact .bg (.obj Bp.bg)
  ·exact (A1.spec t x h).2.1
  ·cases h
  ·exact (A1.spec t _ h).2.2 _ _ _ _ _ rfl
 refine x_.ok (first:=[]) (caps:=[]) (ys:=ys) (tk:=λ_=>true) (vw:=false) (outs:=uF args.length k0 (.obj cs')) (g1:=ch g ⟨r,[]⟩ .dead) (g2:=get ((r,.dead)::G2)) (g4:=get ((r,.obj cs')::G2)) (l:=[(⟨r,[]⟩,.obj cs')]) (ks:=λ_=>k0) (xs0:=ys) (xs1:=args) (args:=args) (res:=res) aV aP rfl (by simpa using j)
  ⟨aS,by simp,by simpa using oG,λk x h=>.inl (by simpa using h),aQ.take aw e8.bg (Nat.zero_le _) (by omega),xe,λk x y _ ak=>by simpa using ak,gS,by simpa using ah.bg,λk x h=>by rw [V5 k x h]; simpa using cA.obj Bp.bg,λJ p x aj=>?_,by simp,λi J hi aj _=>by simp at hi aj; omega,by rw [put]; exact xf⟩ ?_ a7 ?_
 ·cases J with
  | succ J=>simp at aj
  | zero =>
   simp only [List.getElem?_cons_zero,Option.some.injEq,Prod.mk.injEq] at aj;obtain ⟨rfl,rfl⟩:=aj;refine ⟨oO,by simp [bx,GY,ab.at],.inr ⟨cs,?_,by simp [bx,aw,ab.at]⟩,λ_ h=>by cases h⟩;have:=aQ.RG (Nat.zero_le _) (by omega);simpa using this
 ·simp only [get,if_neg (Ne.symm By)]; exact aK
 ·refine ⟨λt x h=>?_,λt x h=>?_⟩
  ·rw [sI] at h;rw [DY];cases rM:get A t with
   | none=>exact h
   | some y =>
    obtain ⟨h1,af,_⟩:=dp.spec t y rM;simp only [get,if_neg af] at h;simp only [get] at h1;rw [h1] at h; cases h
  ·rw [sI];rw [DY] at h;cases rM:get A t with
   | none=>rw [rM] at h; exact .inl h
   | some y =>
    rw [rM] at h;cases h;obtain ⟨h1,af,aF,k,rfl,hk⟩:=dp.spec t x rM;refine .inr ⟨?_,af,aF,r,k,cs',rfl,By,?_,hk⟩
    ·simp only [get,if_neg af]; exact h1
    ·simp only [get,if_neg By,if_true]
end
end Go.Own
namespace Go.Own
open Go
set_option linter.unusedSectionVars false
variable [cE]
variable {α β:Type}
def DM (k:IntKind):bA Int:=.one (λn=>.lit (.int k n)) λ_=>.lit
instance {k:IntKind}:Flat (DM k):=⟨λ_=>rfl⟩
instance {k:IntKind}:gn (DM k) (DM k):=⟨rfl,λa=>(inferInstance:c6 [.lit (.int k a)] [.lit (.int k a)])⟩
instance {k:IntKind}:lf (DM k):=⟨λa=>(inferInstance:i' [.lit (.int k a)])⟩
instance {cs:List ab}{n:Nat}{x:ab} [h:dh cs] [j:b3 x]:dh (cs.set n x):=⟨λy ak=>by
 rcases List.mem_or_eq_of_mem_set ak with aH | aH
 ·exact h.bg y aH
 ·rw [aH]; exact j.bg⟩
instance {x y:ab} [h:b3 y]:b3 (x.setAt [] y):=⟨by simpa [ab.setAt] using h.bg⟩
def pO (m n:Int):Option Int:=if n=0 then none else some (IntKind.u64.wrap (m.tdiv n))
def pP (m n:Int):Option Int:=if n=0 then none else some (m.tmod n)
inductive jD:List ab->List ab->Prop
 | nil:jD [] []
 | f {x:ab}{xs ys:List ab}(t:jD xs ys):jD (x::xs) (x::ys)
 | o {z:Nat}{xs ys:List ab}(t:jD xs ys):jD (.aU::xs) (.own z 0 []::ys)
 | i {z:Nat}{xs ys:List ab}(t:jD xs ys):jD (.aU::xs) (.bk z 0 []::ys)
theorem jD.len {xs ys:List ab}(h:jD xs ys):ys.length=xs.length:=by
 induction h with
 | nil=>rfl
 | f _ aL=>simp [aL]
 | o _ aL=>simp [aL]
 | i _ aL=>simp [aL]
theorem jD.get {xs ys:List ab}(h:jD xs ys):∀ (k:Nat) (x y:ab),xs[k]?=some x->ys[k]?=some y->mV x y:=by
 induction h with
 | nil=>intro k x y j; simp at j
 | f _ aL =>
  intro k a b aQ av;cases k with
  | zero=>simp at aQ av; subst aQ av; exact .refl
  | succ k=>exact aL k a b (by simpa using aQ) (by simpa using av)
 | o _ aL =>
  intro k a b aQ av;cases k with
  | zero=>simp at aQ av; subst aQ av; exact .pF
  | succ k=>exact aL k a b (by simpa using aQ) (by simpa using av)
 | i _ aL =>
  intro k a b aQ av;cases k with
  | zero=>simp at aQ av; subst aQ av; exact .pE
  | succ k=>exact aL k a b (by simpa using aQ) (by simpa using av)
theorem jD.obj {xs ys:List ab}(h:jD xs ys):mV (.obj xs) (.obj ys):=.obj h.len h.get
section
variable {P:Program}{N:cP}{ops:Array Oper}{g g' g1 g2:aI}{K:aI->Prop}{l:List Oper}{d r:Nat}{op:Op}{ty t t2:TypeId}{pos:String}{after:Array Edge}{gd:Option (Nat × Bool)}{a b c:Operand}{p q:Place}{x y:ab}{k:IntKind}{m n:Int}
variable {a':List (List Nat)}{g0:aI}{acc:Acc}{i:Nat}
def q5:List Nat->Bool
 | []=>true
 | x::l=>l.all (λy=>!Nat.beq x y)&&q5 l
theorem EX:∀ {l:List Place},q5 (l.map Place.root)=true->l.Nodup
 | [],_=>List.nodup_nil
 | p::l,h=>by
  simp only [List.map_cons,q5,Bool.and_eq_true,List.all_eq_true] at h;refine List.nodup_cons.2 ⟨λhm=>?_,EX h.2⟩;have:=h.1 p.root (List.mem_map.2 ⟨p,hm,rfl⟩);simp at this
theorem bH.wy (bw:Nat) {G G2:List (Nat × ab)}{o:Oper}(he:bt P N (c0 (get G) (λ_=>true) acc) o (get G2)) (aK:o.guard=none) (gv:q5 ((acc.filterMap jL).map Place.root)=true) (fA:lW G=true) (aj:Nat.beq ops.size (bw+l.length+1)=true)
  (aQ:(List.range bw).all (λk=>(a'.getD bw []).contains k)=true) (av:(List.range ops.size).all (λk=>Nat.ble k bw||(a'.getD k []).contains bw)=true) (hk:bH P N ops a' (get G2) (bw+1) [] l K):bH P N ops a' (get G) i acc (o::l) K:=by
 intro dI J ck kz kv;have:=yM kv aj;subst this;obtain ⟨h1,af⟩:=drop_cons kv;obtain ⟨g',ah,c5⟩:=hk [] (J+1) .nil .nil af;refine ⟨g',.Ls ck kz (EX gv) (vP fA) h1 ?_ he aQ ?_ ah,c5⟩
 ·grind [ic]
 simp_all
theorem bH.bv (bw:Nat) {G G2:List (Nat × ab)}{o:Oper}{x:ab}(he:bt P N (c0 (get G) (λ_=>true) acc) o (cH (get G2) d x)) (aK:o.guard=none) (gv:q5 ((acc.filterMap jL).map Place.root)=true) (fA:lW G=true) (aj:Nat.beq ops.size (bw+l.length+1)=true)
  (aQ:(List.range bw).all (λk=>(a'.getD bw []).contains k)=true) (av:(List.range ops.size).all (λk=>Nat.ble k bw||(a'.getD k []).contains bw)=true) (hk:bH P N ops a' (get ((d,x)::G2)) (bw+1) [] l K):bH P N ops a' (get G) i acc (o::l) K :=
 .wy bw (sI ▸ he) aK gv fA aj aQ av hk
class o_ (s:Nat) (g:aI):Prop where fk:∀ t,t≠s->∀ z q n m new,g t≠some (.bC z q n m new)
instance (priority:=low) {s:Nat}{g:aI} [h:qM g]:o_ s g:=⟨λt _=>h.fk t⟩
instance {s:Nat}{g:aI}{x:ab} [h:o_ s g]:o_ s (cH g s x):=⟨λt al z q n m new e=>by
 unfold cH at e;rw [if_neg al] at e;exact h.fk t al _ _ _ _ _ e⟩
instance {s d:Nat}{g:aI}{x:ab} [h:o_ s g] [j:mS x]:o_ s (cH g d x):=⟨λt al z q n m new e=>by
 unfold cH at e
 split at e
 ·cases e; exact j.fk _ _ _ _ _ rfl
 ·exact h.fk t al _ _ _ _ _ e⟩
class ym (s:Nat) (acc:Acc):Prop where fk:∀ e∈acc,e.2.1≠s->∀ z q n m new,e.2.2≠some (.bC z q n m new)
instance {s:Nat}:ym s []:=⟨by simp⟩
instance {s J d:Nat}{x:ab}{acc:Acc} [j:mS x] [h:ym s acc]:ym s ((J,d,some x)::acc):=⟨λe he aw z q n m new bD=>by
 rcases List.mem_cons.1 he with rfl | he
 ·exact j.fk z q n m new (Option.some.inj bD)
 ·exact h.fk e he aw z q n m new bD⟩
instance {s J:Nat}{x:Option ab}{acc:Acc} [h:ym s acc]:ym s ((J,s,x)::acc):=⟨λe he aw z q n m new bD=>by
 rcases List.mem_cons.1 he with rfl | he
 ·exact absurd rfl aw
 ·exact h.fk e he aw z q n m new bD⟩
instance {s:Nat}{G:List (Nat × ab)}{A:Nat->Bool}{acc:Acc} [aK:qM (get G)] [h:ym s acc]:o_ s (c0 (get G) A acc):=⟨λt al z q n m new e=>by
 rcases uX e with ⟨b8,he,h1,_,af⟩ | ⟨_,af⟩
 ·exact h.fk b8 he (by rw [h1]; exact al) _ _ _ _ _ af
 ·exact aK.fk _ _ _ _ _ _ af⟩
namespace O
theorem pO {r:Int}(j:Rd g a (.lit (.int .u64 m))) (ak:Rd g b (.lit (.int .u64 n))) (h:Own.pO m n=some r):b5 P g (.binOp .quo t a b t2) ty (.lit (.int .u64 r)):=by
 unfold Own.pO at h
 split at h
 ·cases h
 ·cases h; exact .eJ (.quo j ak (by assumption))
theorem pP {r:Int}(j:Rd g a (.lit (.int .u64 m))) (ak:Rd g b (.lit (.int .u64 n))) (h:Own.pP m n=some r):b5 P g (.binOp .rem t a b t2) ty (.lit (.int .u64 r)):=by
 unfold Own.pP at h
 split at h
 ·cases h
 ·cases h; exact .eJ (.rem j ak (by assumption))
theorem GW {L:List Int}(j:Rd g a (.bk m'.z L.length (bp m' L))) (al:u' P t t2=true):b5 P g (.convert t t2 a) ty (ax (strOfNums L)):=by
 have h:=j.bm;rw [O'] at h;exact .eJ (.DK h al)
theorem yF {e de:Nat}{parts:Array (Nat × Operand)}{ys cs:List ab}{z:Nat}(al:fa P t e z=true) (j:fB g (parts.toList.map (·.2))=some ys) (aa:l8 ys=some cs) (aT:ys.all (λy=>match jc y with | some c=>Nat.beq c.length z | none=>false)=true)
  (ar:parts.toList=(parts.toList.map (·.2)).mapIdx (λi x=>(i,x))) (aA:(parts.toList.map (·.2)).length=de) (hzero:h5 P e z=true) (av:Nat.ble (de * z) 16777216=true) (fy:Nat.ble de 16777216=true):b5 P g (.buildSlice t de parts) ty (.own z de cs):=by
 subst aA;exact .q6 (.buildSlice al ar j (λy ak=>by
  grind [Nat.eq_of_beq_eq_true]) aa (Nat.le_of_ble_eq_true av) (Nat.le_of_ble_eq_true fy) (.inr (KE hzero)))
theorem PO {z m:Nat}{cs:List ab}(a6:bx g q=some (.own z m cs)) (ai:cs.length=m * z) (aS:cs.all lL=true):Src g (.bl z q m) z m cs:=by
 have:=Src.bl (g:=g) (m:=m) a6 (Nat.le_refl _)
 simp_all [List.take_of_length_le,AV]
theorem Rv {en:bA α}{L M r:List α}{e gp m:Nat}{cs:List ab}(aw:Rd g a (.bl en.z p L.length)) (ar:bx g p=some (aq en L)) (j:Rd g b (.bl en.z q m)) (a6:bx g q=some (.own en.z m cs)) (ai:cs.length=m * en.z) (aS:cs.all lL=true) (hm:M.length=m) (al:ka P t e en.z gp=true) (av:Nat.ble gp 128=true) (h:dj L M=some r) [e8:qM g] :
  b5 P g (.call { callee:=.builtin .append,args:=#[a,b],argTypes:=#[t,t] }) ty (.bC en.z p L.length m cs):=by
 subst hm;obtain ⟨h1,af,_⟩:=yy h av;exact .lD (.grow aw.bm (.inl ⟨_,ar⟩) (λt br cf bd cO e=>e8.fk _ _ _ _ _ _ e) j.bm (PO a6 ai aS) al h1 af)
theorem Dy {en:bA α}{L M M2 r:List α}{y:ab}{e gp s:Nat}(aw:Rd g a (.bl en.z ⟨s,[]⟩ (L.length+M.length))) (qh:g s=some (.bC en.z q L.length M.length (bp en M))) (ar:bx g q=some (aq en L)) (j:Rd g b y) (hm:nN g en y M2) (al:ka P t e en.z gp=true) (av:Nat.ble gp 128=true) (h:dj (L++M) M2=some r) [e8:o_ s g] :
  b5 P g (.call { callee:=.builtin .append,args:=#[a,b],argTypes:=#[t,t] }) ty (.bC en.z ⟨s,[]⟩ (L.length+M.length) M2.length (bp en M2)):=by
 obtain ⟨h1,af,_⟩:=yy h av;rw [List.length_append] at h1 af;refine .lD (.grow aw.bm (.inr ⟨rfl,q,L.length,M.length,bp en M,_,qh,rfl,ar⟩) (λt br cf bd cO e=>?_) j.bm hm.src al h1 af);by_cases Nx:t=s
 ·grind [bx,ab.at]
 ·exact e8.fk t Nx _ _ _ _ _ e
theorem N' {en:bA α}{z0:α}{r:List α}{e gp:Nat}{c':Value}(al:fa P t e en.z=true) (j:Rd g a (.lit (.int k m))) (ak:Rd g b (.lit (.int .i64 m))) (hzero:(P.info? e).bind (·.zero)=some c') (h1:c'.cells.toList.all Value.oneCell'=true) (ht:(en.cells z0).length=c'.cells.size) (Vl:∀ (k:Nat) (u:Value) (x:ab),c'.cells[k]?=some u->(en.cells z0)[k]?=some x->x=j1 u\/(j1 u=.aU/\∃ br,x=.bk br 0 [])) (h:nB m z0=some r) (jh:(P.info? e).map (·.bytes)=some gp) (av:Nat.ble gp 128=true) :
  b5 P g (.makeSlice t a b) ty (aq en r):=by
 unfold nB at h
 split at h
 ·rename_i hm;have qW:lim=1099511627776:=rfl;have h9:=Nat.le_of_ble_eq_true av;obtain ⟨J,rfl⟩:=Int.eq_ofNat_of_zero_le hm.1;cases h;have aj:J<=1099511627776:=by omega
  have eF:c'.cells.size=en.z:=by rw [<- ht,en.len]
  have:=o'.makeSlice (P:=P) (ty:=ty) al j.bm ak.bm hzero (by rw [<- Array.all_toList]; exact h1) eF jh (by
   calc J * gp<=1099511627776 * 128:=Nat.mul_le_mul aj h9
    _=140737488355328:=by decide) (by omega) ht Vl
  have b2:(List.replicate J (en.cells z0)).flatten=bp en (List.replicate J z0):=by simp [bp,List.flatMap_def]
  unfold aq;rw [Int.toNat_natCast,List.length_replicate,<- b2];exact .q6 this
 ·cases h
theorem mk {en:bA α}{z0:α}{r:List α}{e gp:Nat}{c':Value}(al:fa P t e en.z=true) (j:Rd g a (.lit (.int k m))) (ak:Rd g b (.lit (.int .i64 m))) (hzero:(P.info? e).bind (·.zero)=some c') (h1:c'.cells.toList.all Value.oneCell'=true) (aa:c'.cells.toList.map j1=en.cells z0) (h:nB m z0=some r) (jh:(P.info? e).map (·.bytes)=some gp) (av:Nat.ble gp 128=true) :
  b5 P g (.makeSlice t a b) ty (aq en r):=by
 grind [N']
theorem XQ {e:bA β}{r:List (List β)}{m:Int}{k:IntKind}{a b:Operand}{t ty:TypeId}{AR gp:Nat}{c':Value}(al:fa P t AR (bI e).z=true) (j:Rd g a (.lit (.int k m))) (ak:Rd g b (.lit (.int .i64 m))) (hzero:(P.info? AR).bind (·.zero)=some c') (h1:c'.cells.toList.all Value.oneCell'=true) (aa:c'.cells.toList.map j1=[.aU]) (h:nB m ([]:List β)=some r) (jh:(P.info? AR).map (·.bytes)=some gp) (av:Nat.ble gp 128=true) :
  b5 P g (.makeSlice t a b) ty (aq (bI e) r):=by
 refine N' al j ak hzero h1 ?_ (λk u x hu j=>.inr ?_) h jh av
 ·grind [List.length_map,bI]
 ·have ai:=congrArg List.length aa;rw [List.length_map] at ai;have hk:k=0:=by
   grind
  subst hk;have hG:c'.cells.toList[0]?=some u:=by simpa using hu
  have af:=congrArg (λl=>l[0]?) aa;simp only [List.getElem?_map,hG,Option.map_some] at af;have af:=Option.some.inj af;refine ⟨af,e.z,?_⟩;have j:([ao e []]:List ab)[0]?=some x:=j;have:x=ao e []:=(Option.some.inj j).symm;rw [this];rfl
end O
theorem O9 (en:bA α) {L:List α}{y y2:α}{o:Nat}{cs':List ab}(h:idx L m=some y) (he:eP (en.cells y) o cs'=en.cells y2) (hlen:o+cs'.length<=en.z):eP (bp en L) (m.toNat * en.z+o) cs'=bp en (L.set m.toNat y2):=by
 obtain ⟨aO,h1,af⟩:=r1 h;have aR:m.toNat<L.length:=(List.getElem?_eq_some_iff.1 af).1;have ak:L[m.toNat]=y:=(List.getElem?_eq_some_iff.1 af).2;have b2:bp en L=bp en (L.take m.toNat)++(en.cells y++bp en (L.drop (m.toNat+1))):=by
  grind [bp,List.take_append_drop,List.drop_eq_getElem_cons]
 have bZ:bp en (L.set m.toNat y2)=bp en (L.take m.toNat)++(en.cells y2++bp en (L.drop (m.toNat+1))):=by
  grind [List.set_eq_take_append_cons_drop,bp]
 have ai:(bp en (L.take m.toNat)).length=m.toNat * en.z:=by rw [oY,List.length_take]; congr 1; omega
 rw [b2,bZ,<- he];unfold eP;generalize bp en (L.take m.toNat)=A at *;generalize bp en (L.drop (m.toNat+1))=B at *;rw [<- ai];have EB:=en.len y;rw [List.take_append,List.take_of_length_le (by omega),show A.length+o - A.length=o by omega,List.take_append_of_le_length (by omega)];rw [List.drop_append,List.drop_eq_nil_of_le (by omega),show A.length+o+cs'.length - A.length=o+cs'.length by omega,List.drop_append_of_le_length (by omega)];simp
theorem G' {en:bA α}{L:List α}{i:Int}{off:Nat}{y:α}(h:idx L i=some y) (aV:Nat.blt off en.z=true):i.toNat * en.z+off<(bp en L).length:=by
 obtain ⟨CL,kF,_⟩:=r1 h;have mK:off<en.z:=by simpa using aV
 rw [oY];have af:i.toNat+1<=L.length:=by omega
 calc i.toNat * en.z+off<i.toNat * en.z+en.z:=by omega
  _=(i.toNat+1) * en.z:=by rw [Nat.add_mul]; omega
  _<=L.length * en.z:=Nat.mul_le_mul_right _ af
theorem n5 {L:List α}{i:Int}{y y2:α}(h:idx L i=some y):idx (L.set i.toNat y2) i=some y2:=by
 grind [idx]
inductive o7 (g g2:aI):ab->Prop
 | mk {α:Type}{en:bA α}{L KW:List α}{r J off:Nat}{i:Int}{y y2:α}(h1:bx g ⟨r,[J]⟩=some (aq en L)) (hi:idx L i=some y) (af:bx g2 ⟨r,[J]⟩=some (aq en KW)) (Bk:idx KW i=some y2) (aV:Nat.blt off en.z=true):o7 g g2 (.ptr ⟨r,[J]⟩ (i.toNat * en.z+off))
theorem o7.Oy {x:ab}(h:o7 g g2 x):gP g x:=by
 cases h with
 | mk h1 hi af Bk aV=>exact ⟨_,h1,_,_,_,.inl rfl,G' hi aV⟩
theorem o7.JG {x:ab}(h:o7 g g2 x):gP g2 x:=by
 cases h with
 | mk h1 hi af Bk aV=>exact ⟨_,af,_,_,_,.inl rfl,G' Bk aV⟩
theorem o7.ca {x:ab}(h:o7 g g2 x):et g2 x:=by
 have:=h.JG;cases h with
 | mk=>exact .ref rfl this
theorem o7.fk {x:ab}(h:o7 g g2 x):∀ z p n m new,x≠.bC z p n m new:=by
 cases h with
 | mk=>simp
theorem o7.clear {x:ab}{k0 m0:Nat}(h:o7 g g2 x) (ar:p.path≠[]):Clear p k0 m0 x:=by
 cases h with
 | mk =>
  intro q a6 _ J cK e;simp only [zN,Option.some.injEq] at a6;subst a6;cases Em:p.path with
  | nil=>exact absurd Em ar
  | cons a b=>rw [Em] at e; simp at e
inductive lh (g g2:aI) (r:Nat) (x2:ab):List (Nat × ab)->Prop
 | nil:lh g g2 r x2 []
 | n {s:Nat}{x:ab}{l:List (Nat × ab)}(cy:Nat.beq s r=false) (h:g s=some x) [aA:b3 x] (t:lh g g2 r x2 l):lh g g2 r x2 ((s,x)::l)
 | p {s q k:Nat}{l:List (Nat × ab)}{cs kc:List ab}(cy:Nat.beq s r=false) (h:g s=some (.ptr ⟨q,[]⟩ k)) (h1:g q=some (.obj cs)) (hk:Nat.blt k cs.length=true) (af:g2 q=some (.obj kc)) (fL:Nat.blt k kc.length=true) (t:lh g g2 r x2 l):lh g g2 r x2 ((s,.ptr ⟨q,[]⟩ k)::l)
 | e {s:Nat}{x:ab}{c2:List ab}{l:List (Nat × ab)}(cy:Nat.beq s r=false) (h:g s=some x) (he:o7 g g2 x) (kA:x2=.obj c2) (t:lh g g2 r x2 l):lh g g2 r x2 ((s,x)::l)
 | w {α:Type}{s q:Nat}{en:bA α}{L:List α}{l:List (Nat × ab)}(cy:Nat.beq s r=false) (h:g s=some (.bl en.z ⟨q,[]⟩ L.length)) (h1:g q=some (aq en L)) (af:g2 q=some (aq en L)) (t:lh g g2 r x2 l):lh g g2 r x2 ((s,.bl en.z ⟨q,[]⟩ L.length)::l)
 | b {l:List (Nat × ab)}{x:ab}(e:x=x2) [aA:b3 x2] (t:lh g g2 r x2 l):lh g g2 r x2 ((r,x)::l)
theorem lh.spec {x2:ab}{l:List (Nat × ab)}(h:lh g g2 r x2 l):∀ t x,get l t=some x->(t≠r/\g t=some x/\(p1 g g2 x\/o7 g g2 x/\∃ c2,x2=.obj c2))\/(t=r/\x=x2/\cA x):=by
 induction h with
 | nil=>intro t x j; cases j
 | @n s x l cy h aA _ aL =>
  intro t y ak;simp only [get] at ak
  split at ak
  ·rename_i e;subst e;cases ak;exact .inl ⟨Nat.ne_of_beq_eq_false cy,h,.inl (.n aA.bg)⟩
  grind
 | @p s q k l cs kc cy h h1 hk af fL _ aL =>
  intro t y ak;simp only [get] at ak
  split at ak
  ·rename_i e;subst e;cases ak;exact .inl ⟨Nat.ne_of_beq_eq_false cy,h,.inl (.p h1 (by simpa using hk) af (by simpa using fL))⟩
  grind
 | @e s x c2 l cy h he kA _ aL =>
  grind [get,Nat.ne_of_beq_eq_false]
 | @w α s q en L l cy h h1 af _ aL =>
  intro t y ak;simp only [get] at ak
  split at ak
  ·rename_i e;subst e;cases ak;exact .inl ⟨Nat.ne_of_beq_eq_false cy,h,.inl (.r h1 (Nat.le_refl _) af (Nat.le_refl _))⟩
  grind
 | @b l x e aA _ aL =>
  intro t y ak;simp only [get] at ak
  split at ak
  ·rename_i b8;subst b8;cases ak;subst e;exact .inr ⟨rfl,rfl,aA.bg⟩
  grind
theorem p1.JZ {x:ab}{k0 m0:Nat}(h:p1 g g2 x):j_ (λr=>gP g r/\Clear p k0 m0 r/\gP g2 r) x:=by
 cases h with
 | n h=>exact .bg h
 | p h hk af fL =>
  refine .ref rfl ⟨vX h hk,?_,vX af fL⟩;intro q a6 _ J cK e;simp only [zN,Option.some.injEq] at a6;subst a6;simp at e
 | r h hk af fL =>
  refine .ref rfl ⟨CO h hk,?_,CO af fL⟩;intro q a6 _ J cK e;simp only [zN,Option.some.injEq] at a6;subst a6;simp at e
theorem bt.xV {ha:Oper}{en:bA α}{L:List α}{iE y2:α}{o:Nat}{cs':List ab}{x2:ab}{G2:List (Nat × ab)}(aV:ha.op=.store t a b) (aP:ha.dst=none) (aQ:Rd g a (.ptr p (m.toNat * en.z+o))) (av:Rd g b y) (ar:bx g p=some (aq en L)) (h:idx L m=some iE) (aT:hL P t cs'.length=true)
  (aa:nS y=some cs') (he:eP (en.cells iE) o cs'=en.cells y2) (hlen:Nat.ble (o+cs'.length) en.z=true) (aO:Nat.blt 0 cs'.length=true) (kA:ch g p (aq en (L.set m.toNat y2)) p.root=some x2) (ah:(get G2 p.root).isSome=true) [aA:b3 y] {y0:ab}(vI:g p.root=some y0) [e8:b3 y0] (c9:lh g (get G2) p.root x2 G2):bt P N g ha (get G2):=by
 have Bl:=Nat.le_of_ble_eq_true hlen;have mh:=O9 en h he Bl;have pr:(L.set m.toNat y2).length=L.length:=List.length_set;refine .store aV aP aQ.bm av.bm (.bg (by simpa using aA.bg)) .refl aa aT (p:=p) (nd:=aq en L) (z:=en.z) (n:=L.length) (cs:=bp en L) ar (.inl rfl) ?_ (by simpa using aO) (λt x j=>?_) (λt x j y ak=>?_) (λt z q n m new j=>?_) (by intro e; rw [e] at ah; cases ah)
 ·obtain ⟨CL,kF,_⟩:=r1 h;rw [oY];have af:m.toNat+1<=L.length:=by omega
  calc m.toNat * en.z+o+cs'.length<=m.toNat * en.z+en.z:=by omega
   _=(m.toNat+1) * en.z:=by rw [Nat.add_mul]; omega
   _<=L.length * en.z:=Nat.mul_le_mul_right _ af
 ·have fj:(aq en L).eP (m.toNat * en.z+o) cs'=aq en (L.set m.toNat y2):=by
   show ab.own en.z L.length (eP (bp en L) (m.toNat * en.z+o) cs')=_
   grind
  rw [fj];rcases c9.spec t x j with ⟨h1,af,_⟩ | ⟨h1,af,_⟩
  ·grind [xQ]
  grind
 ·rcases c9.spec t x j with ⟨h1,af,aF⟩ | ⟨h1,af,aF⟩
  ·rw [af] at ak;cases ak;rcases aF with aF | ⟨aF,c2,rfl⟩
   ·exact aF.JZ
   ·refine j_.ref (by cases aF; rfl) ⟨aF.Oy,aF.clear ?_,aF.JG⟩
    grind [ch,ab.setAt]
  ·subst h1;rw [vI] at ak;cases ak;exact .bg e8.bg
 ·rcases c9.spec t _ j with ⟨_,_,aF | ⟨aF,_⟩⟩ | ⟨_,_,aF⟩
  ·exact aF.fk _ _ _ _ _ rfl
  ·exact aF.fk _ _ _ _ _ rfl
  ·cases aF
end
end Go.Own
namespace Go.Own
open Go
set_option linter.unusedSectionVars false
variable [cE]
theorem RY (a b:ByteArray):(a == b)=decide (a=b):=by
 obtain ⟨a⟩:=a;obtain ⟨b⟩:=b;have:(({ data:=a }:ByteArray) == { data:=b })=(a == b):=rfl;rw [this,Bool.eq_iff_iff];simp
inductive nM where
 | b | s | i (k:IntKind)
 deriving DecidableEq
def l0:Value->Option nM
 | .bool _=>some .b
 | .string _=>some .s
 | .int k _=>some (.i k)
 | _=>none
def AQ (P:Program) (rc:TypeId->List nM->Bool):List Field->Nat->List nM->Bool
 | [],_,ez=>ez.isEmpty
 | f :: fs, o, ez => f.name != "_" && f.offset == o && (match P.info? f.type with
   | some i=>i.size<=ez.length&&rc f.type (ez.take i.size)&&AQ P rc fs (o+i.size) (ez.drop i.size)
   | none=>false)
def tV (P:Program):Nat->TypeId->List nM->Bool
 | 0,_,_=>false
 | d+1,t,ez=>match P.underlying t with
  | some .bool=>ez == [.b]&&kt P t
  | some (.int k)=>ez == [.i k]&&kt P t
  | some .string=>ez == [.s]&&kt P t
  | some (.struct fs)=>iN P t ez.length&&!P.stoodInHeld t&&AQ P (tV P d) fs.toList 0 ez
  | _=>false
def L':Value->Value->Bool
 | .bool a,.bool b=>a == b
 | .int _ a,.int _ b=>decide (a=b)
 | .string a,.string b=>decide (a=b)
 | _,_=>false
def lp:List Value->List Value->Bool
 | a::dG,b::bn=>L' a b&&lp dG bn
 | _,_=>true
theorem Ma:∀ (dG bn cs ds:List Value),dG.length=bn.length->lp (dG++cs) (bn++ds)=(lp dG bn&&lp cs ds)
 | [],[],cs,ds,_=>by simp [lp]
 | [],_::_,_,_,h=>by simp at h
 | _::_,[],_,_,h=>by simp at h
 | a::dG,b::bn,cs,ds,h=>by
  simp only [List.cons_append,lp,Ma dG bn cs ds (by simpa using h),Bool.and_assoc]
def pack (P:Program) (t:TypeId) (vs:List Value):Value :=
 match P.underlying t,vs with
 | some (.struct _),_=>.agg vs.toArray
 | _,v::_=>v
 | _,[]=>.agg #[]
theorem Pk {P:Program}{w:World}{t:TypeId}{d:Nat}{ez:List nM}(h:tV P (d+1) t ez=true) {cs:List Value}{o:Nat}{vs:List Value}(hv:(cs.drop o).take ez.length=vs) (ai:vs.length=ez.length) :
  (part t cs.toArray o).run P w=.ok (pack P t vs) w:=by
 unfold tV at h
 split at h
 case h_4 fs hu =>
  simp only [Bool.and_eq_true] at h;obtain ⟨h1,af⟩:=Dw (w:=w) h.1.1;simp [part,h1,af,pack,hu,<- hv,List.take_drop]
 case h_5=>cases h
 all_goals
  rename_i hu;simp only [Bool.and_eq_true,beq_iff_eq] at h;obtain ⟨rfl,aa⟩:=h;obtain ⟨h1,af⟩:=GP (w:=w) aa;obtain ⟨v,rfl⟩:∃ v,vs=[v]:=by
   rcases vs with _ | ⟨v,_ | _⟩ <;> simp at ai;exact ⟨v,rfl⟩
  have:cs[o]?=some v:=by
   have:=congrArg List.head? hv;simpa [List.head?_take] using this
  simp [part,h1,pack,hu,this]
theorem J4 {P:Program}(w:World):∀ (d:Nat) (t:TypeId) (ez:List nM),tV P d t ez=true->∀ (D:Nat),d<=D->∀ (dG bn:List Value),dG.map l0=ez.map some->bn.map l0=ez.map some ->
  (Op.equalIn D t (pack P t dG) (pack P t bn)).run P w=.ok (lp dG bn) w
 | 0,_,_,h,_,_,_,_,_,_=>by simp [tV] at h
 | d+1,t,ez,h,D,hd,dG,bn,aQ,av=>by
  obtain ⟨D,rfl⟩:∃ E,D=E+1:=⟨D - 1,by omega⟩;have aO:=h;unfold tV at h
  split at h
  case h_5=>cases h
  case h_4 fs hu =>
   simp only [Bool.and_eq_true,Bool.not_eq_true'] at h;obtain ⟨⟨h1,af⟩,aF⟩:=h;have key:∀ (fs:List Field) (o:Nat) (ez:List nM) (mW mX:List Value),AQ P (tV P d) fs o ez=true->dG.drop o=mW->bn.drop o=mX->mW.map l0=ez.map some->mX.map l0=ez.map some ->
     (forIn (m:=Sem) (β:=Option Bool × Unit) fs (none,()) λf _ =>
      if f.name = "_" then pure (.yield (none, ()))
      else do
       let x <- part f.type dG.toArray f.offset
       let y <- part f.type bn.toArray f.offset
       let c <- Op.equalIn D f.type x y
       if c=false then pure (.done (some false,())) else pure (.yield (none,()))).run P w=.ok (if lp mW mX then (none,()) else (some false,())) w:=by
    intro fs
    induction fs with
    | nil =>
     intro o ez mW mX aK _ _ aQ av;have aw:ez=[]:=by simpa [AQ] using aK
     subst aw;have h1:mW=[]:=by simpa using aQ
     have af:mX=[]:=by simpa using av
     subst h1 af;simp [lp]
    | cons f fs aL =>
     intro o ez mW mX aK MZ M0 aQ av;unfold AQ at aK;cases hi:P.info? f.type with
     | none=>simp [hi] at aK
     | some i =>
      simp only [hi,Bool.and_eq_true,bne_iff_ne,beq_iff_eq,decide_eq_true_eq] at aK;obtain ⟨⟨aA,rfl⟩,⟨hle,he⟩,M7⟩:=aK;obtain ⟨e,rfl⟩:∃ e,d=e+1:=by
       cases d with
       | zero=>simp [tV] at he
       | succ e=>exact ⟨e,rfl⟩
      have xi:mW.length=ez.length:=by simpa using congrArg List.length aQ
      have zh:mX.length=ez.length:=by simpa using congrArg List.length av
      have ZS:(mW.take i.size).map l0=(ez.take i.size).map some:=by rw [List.map_take,List.map_take,aQ]
      have gl:(mX.take i.size).map l0=(ez.take i.size).map some:=by rw [List.map_take,List.map_take,av]
      have S_:(mW.drop i.size).map l0=(ez.drop i.size).map some:=by rw [List.map_drop,List.map_drop,aQ]
      have S':(mX.drop i.size).map l0=(ez.drop i.size).map some:=by rw [List.map_drop,List.map_drop,av]
      have lt:(ez.take i.size).length=i.size:=by simp; omega
      have lD:=Pk (w:=w) he (cs:=dG) (o:=f.offset) (vs:=mW.take i.size) (by rw [MZ,lt]) (by simp; omega);have OR:=Pk (w:=w) he (cs:=bn) (o:=f.offset) (vs:=mX.take i.size) (by rw [M0,lt]) (by simp; omega);have G_:=J4 w (e+1) f.type _ he D (by omega) _ _ ZS gl;have aL:=aL (f.offset+i.size) (ez.drop i.size) (mW.drop i.size) (mX.drop i.size) M7 (by rw [<- MZ,List.drop_drop]) (by rw [<- M0,List.drop_drop]) S_ S';have sp:lp mW mX=(lp (mW.take i.size) (mX.take i.size)&&lp (mW.drop i.size) (mX.drop i.size)):=by
       have:=Ma (mW.take i.size) (mX.take i.size) (mW.drop i.size) (mX.drop i.size) (by simp; omega)
       rwa [List.take_append_drop,List.take_append_drop] at this
      rw [List.forIn_cons];cases aa:lp (mW.take i.size) (mX.take i.size) with
      | false=>simp [aA,lD,OR,G_,aa,sp]
      | true =>
       simp only [aa] at G_;simp [aA,lD,OR,G_,aa,sp];simpa using aL
   have hk:=key fs.toList 0 ez dG bn aF rfl rfl aQ av;unfold Op.equalIn;simp [pack,hu,run_underlying hu,af];rw [<- Array.forIn_toList,hk];cases lp dG bn <;> simp
  all_goals
   rename_i hu;simp only [Bool.and_eq_true,beq_iff_eq] at h;obtain ⟨rfl,aa⟩:=h;obtain ⟨a,rfl⟩:∃ v,dG=[v]:=by
    rcases dG with _ | ⟨v,_ | _⟩ <;> simp at aQ;exact ⟨v,rfl⟩
   obtain ⟨b,rfl⟩:∃ v,bn=[v]:=by
    rcases bn with _ | ⟨v,_ | _⟩ <;> simp at av;exact ⟨v,rfl⟩
   cases a <;> simp [l0] at aQ <;> cases b <;> simp [l0] at av;simp [Op.equalIn,pack,hu,run_underlying hu,lp,L',aQ,av,RY] <;> rfl
end Go.Own
namespace Go.Own
open Go
set_option linter.unusedSectionVars false
variable [cE]
def vb (P:Program) (t:TypeId) (ez:List nM):Bool :=
 tV P 100 t ez&&(match P.underlying t with | some (.struct _)=>true | _=>false)&&!P.eqGuardType P.depth t
section
variable {P:Program}{g:aI}{t t2:TypeId}{ty:TypeId}{a b:Operand}
theorem Zb {dG bn:List Value}{ez:List nM}(aQ:dG.map l0=ez.map some) (av:bn.map l0=ez.map some) (al:vb P t ez=true) (w:World) :
  (do eqGuard .eql t a b (.agg dG.toArray) (.agg bn.toArray); binOp .eql t (.agg dG.toArray) (.agg bn.toArray):Sem Value).run P w=.ok (.bool (lp dG bn)) w:=by
 simp only [vb,Bool.and_eq_true,Bool.not_eq_true'] at al;obtain ⟨⟨h1,af⟩,aF⟩:=al;have h:=J4 w 100 t ez h1 Op.maxDepth (by decide) dG bn aQ av
 split at af
 ·rename_i fs hu;simp only [pack,hu] at h;simp [eqGuard,binOp,aF,Op.equal,h]
 ·cases af
theorem Zd {dG bn:List Value}{ez:List nM}(aQ:dG.map l0=ez.map some) (av:bn.map l0=ez.map some) (al:vb P t ez=true) (w:World) :
  (do eqGuard .neq t a b (.agg dG.toArray) (.agg bn.toArray); binOp .neq t (.agg dG.toArray) (.agg bn.toArray):Sem Value).run P w=.ok (.bool (!lp dG bn)) w:=by
 simp only [vb,Bool.and_eq_true,Bool.not_eq_true'] at al;obtain ⟨⟨h1,af⟩,aF⟩:=al;have h:=J4 w 100 t ez h1 Op.maxDepth (by decide) dG bn aQ av
 split at af
 ·rename_i fs hu;simp only [pack,hu] at h;simp [eqGuard,binOp,aF,Op.equal,h]
 ·cases af
namespace O
theorem Tq {nG o3:List Value}{ez:List nM}(j:Rd g a (.agg (nG.map .lit))) (ak:Rd g b (.agg (o3.map .lit))) (aQ:nG.map l0=ez.map some) (av:o3.map l0=ez.map some) (al:vb P t ez=true) :
  b5 P g (.binOp .eql t a b t2) ty (bf (lp nG o3)):=.eJ (.Az j.bm ak.bm rfl λw=>Zb aQ av al w)
theorem XU {nG o3:List Value}{ez:List nM}(j:Rd g a (.agg (nG.map .lit))) (ak:Rd g b (.agg (o3.map .lit))) (aQ:nG.map l0=ez.map some) (av:o3.map l0=ez.map some) (al:vb P t ez=true) :
  b5 P g (.binOp .neq t a b t2) ty (bf (!lp nG o3)):=.eJ (.Az j.bm ak.bm rfl λw=>Zd aQ av al w)
end O
end
end Go.Own
namespace Go.Own
open Go
set_option linter.unusedSectionVars false
variable [cE]
section
variable {P:Program}{N:cP}{g g2:aI}{d r k0:Nat}{α:Type}
theorem View.pJ {p:Place}{cs cs':List ab}(ar:bx g p=some (.obj cs)) (hk:Nat.blt 0 cs.length=true) [h:c6 cs cs']:View g (.ptr p 0) (.cJ cs') :=
 .ptr ar (z:=0) (n:=0) (.inr rfl) (by simpa using hk) (by simpa using h.l) λk x y j ak=>h.v g k x y (by simpa using j) ak
theorem et.el {en:bA α}{L:List α}{J off:Nat}{i:Int}{y:α}(af:bx g2 ⟨r,[J]⟩=some (aq en L)) (hi:idx L i=some y) (aV:Nat.blt off en.z=true):et g2 (.ptr ⟨r,[J]⟩ (i.toNat * en.z+off)) :=
 (o7.mk (g:=g2) af hi af hi aV).ca
theorem jy {p:Place}{k:Nat}:∀ z q n m new,ab.ptr p k≠.bC z q n m new:=by simp
inductive x6 (g:aI) (d r k0:Nat) (G4:List (Nat × ab)):List (Nat × ab)->Prop
 | nil:x6 g d r k0 G4 []
 | c {α:Type}{en:bA α}{L:List α}{s off:Nat}{i:Int}{y:α}{l:List (Nat × ab)}(h:g s=some (.ptr ⟨r,[k0]⟩ (i.toNat * en.z+off))) (ar:bx (get G4) ⟨r,[k0]⟩=some (aq en L)) (hi:idx L i=some y) (aV:Nat.blt off en.z=true) (aP:Nat.beq s d=false) (bu:get G4 s=none) (t:x6 g d r k0 G4 l):x6 g d r k0 G4 ((s,.ptr ⟨r,[k0]⟩ (i.toNat * en.z+off))::l)
theorem x6.spec {G4 l:List (Nat × ab)}(h:x6 g d r k0 G4 l):∀ t x,get l t=some x->get G4 t=none/\t≠d/\g t=some x/\∃ m z n cs,x=.ptr ⟨r,[k0]⟩ m/\bx (get G4) ⟨r,[k0]⟩=some (.own z n cs)/\m<cs.length:=by
 induction h with
 | nil=>intro t x j; cases j
 | @c α en L s off i y l h ar hi aV aP bu _ aL =>
  intro t x j; simp only [get] at j
  split at j
  ·rename_i e; subst e; cases j; exact ⟨bu,Nat.ne_of_beq_eq_false aP,h,_,_,_,_,rfl,ar,G' hi aV⟩
  ·exact aL t x j
theorem lh.keep {g':aI}{x2:ab}{G2:List (Nat × ab)}(c9:lh g (get G2) r x2 G2) (h1:∀ t,t≠r->g' t=g t) (af:g' r=some x2):hh g' (get G2):=by
 refine ⟨λt x j=>?_,λt x j=>?_,λt z q n m new j=>?_⟩
 ·rcases c9.spec t x j with ⟨a,b,_⟩ | ⟨rfl,rfl,_⟩
  ·grind
  grind
 ·rcases c9.spec t x j with ⟨_,_,aF | ⟨aF,_⟩⟩ | ⟨_,_,aF⟩
  ·exact aF.ca
  ·exact aF.ca
  ·exact .bg aF
 ·rcases c9.spec t _ j with ⟨_,_,aF | ⟨aF,_⟩⟩ | ⟨_,_,aF⟩
  ·exact aF.fk _ _ _ _ _ rfl
  ·exact aF.fk _ _ _ _ _ rfl
  ·cases aF
theorem Px {cs:List ab}{y x:ab}(h:g r=some (.obj cs)) (hk:cs[k0]?=some x):ch g ⟨r,[k0]⟩ y r=some (.obj (cs.set k0 y)):=by
 grind [ch,ab.setAt,ab.kids,ab.uS]
theorem bt.ek {o:Oper}{y:ab}{cs cs5:List ab}{G1 G4:Value->List (Nat × ab)}{c4:Value->List ab}{G5 A:List (Nat × ab)}(aP:o.dst=some d) (a7:N.ok d=true) (ah:g r=some (.obj cs)) (ak:cs[k0]?=some y) [w9:b3 y]
  (h1:∀ v,lh g (get (G1 v)) r (.obj (cs.set k0 (.lit v))) (G1 v)) (aa:∀ v,hN P N (get (G1 v)) o d (get (G4 v))) (Mx:∀ v,get (G4 v) r=some (.obj (c4 v))) (Mw:∀ v,(c4 v)[k0]?=some (.lit v)) (TW:∀ v,(c4 v).set k0 y=cs5)
  (ct:∀ v,lh (get (G4 v)) (get G5) r (.obj cs5) G5) (TY:bx (get G5) ⟨r,[k0]⟩=some y) (dp:x6 g d r k0 G5 A) (lP:∀ i,y≠.self i:=by exact λ_ h=>by cases h):bt P N g o (get (A++G5)):=by
 refine .call aP a7 (hN.TJ ah ak w9.bg lP λv hv=>⟨get (G1 v),get (G4 v),get G5,?_,aa v,?_,?_,TY,?_⟩)
 ·exact (h1 v).keep (λt al=>xQ al) (Px ah ak)
 ·have:=Mx v;simp only [bx,this,ab.at,ab.kids,Mw v]
 ·refine (ct v).keep (λt al=>xQ al) ?_;rw [Px (Mx v) (Mw v),TW v]
 ·refine ⟨λt x h=>?_,λt x h=>?_⟩
  ·rw [DY];cases rM:get A t with
   | none=>exact h
   | some z =>
    obtain ⟨kF,_⟩:=dp.spec t z rM;rw [kF] at h; cases h
  ·rw [DY] at h;cases rM:get A t with
   | none=>rw [rM] at h; exact .inl h
   | some z =>
    rw [rM] at h;cases h;exact .inr (dp.spec t x rM)
end
end Go.Own
namespace Go.Own
open Go
set_option linter.unusedSectionVars false
variable [cE]
section
variable {P:Program}{N:cP}{ops:Array Oper}{g g1 mE:aI}{K:aI->Prop}{l:List Oper}{d r:Nat}{t:TypeId}{a b:Operand}{x y:ab}
variable {a':List (List Nat)}{acc:Acc}{i:Nat}
theorem iC {a b:Nat}(h:Nat.blt a b=true):a<b:=by simpa using h
def EY:Option Nat->Nat->Bool
 | none,_=>true
 | some a,d=>!Nat.beq a d
theorem Od {o:Option Nat}{d:Nat}(h:EY o d=true):o≠some d:=by
 rintro rfl;simp [EY] at h
inductive wm (P:Program) (N:cP) (ops:Array Oper) (a':List (List Nat)) (rs:Place->Prop) (mE g1:aI) (o:Oper) (U:Acc):Acc->Prop
 | nil:wm P N ops a' rs mE g1 o U []
 | c {k d:Nat}{x:ab}{ha:Oper}{V:Acc}(bL:Ap rs mE g1 o x) (h1:g1 d=none) (cy:EY o.dst d=true) (aV:ops[k]?=some ha) (Ek:ha.dst=some d) (a7:N.ok d=true) (hw:ic (c0 g1 (λm=>(a'.getD k []).contains m) U) ops ha true)
   (aw:b5 P (c0 g1 (λm=>(a'.getD k []).contains m) U) ha.op ha.type x) (t:wm P N ops a' rs mE g1 o U V):wm P N ops a' rs mE g1 o U ((k,d,some x)::V)
theorem wm.spec {o:Oper}{U V:Acc}{rs:Place->Prop}(h:wm P N ops a' rs mE g1 o U V):∀ e∈V,(∃ x,e.2.2=some x/\Ap rs mE g1 o x)/\(g1 e.2.1=none/\o.dst≠some e.2.1)/\∃ ha,ops[e.1]?=some ha/\ha.dst=some e.2.1/\N.ok e.2.1=true/\p2 P (c0 g1 (λm=>(a'.getD e.1 []).contains m) U) ops ha e.2.2:=by
 induction h with
 | nil=>intro e he; cases he
 | c bL h1 cy aV Ek a7 hw aw _ aL =>
  intro e he;rcases List.mem_cons.1 he with rfl | he
  ·exact ⟨⟨_,rfl,bL⟩,⟨h1,Od cy⟩,_,aV,Ek,a7,.inl ⟨hw,.inl aw⟩⟩
  ·exact aL e he
theorem bH.eR (bw:Nat) {G G2:List (Nat × ab)}{U:Acc}{o:Oper}{rs:List Nat}(he:o6 P N (se rs) (c0 (get G) (λm=>(a'.getD bw []).contains m) acc) o (get G2)) (lR:rs.all (λr=>(get G r).isSome)=true) (aK:o.guard=none) (gv:q5 ((acc.filterMap jL).map Place.root)=true) (fA:lW G=true) (aj:Nat.beq ops.size (bw+l.length+1)=true)
  (fw:acc.filter (λe=>!(a'.getD bw []).contains e.1)=U) (n3:wm P N ops a' (se rs) (c0 (get G) (λm=>(a'.getD bw []).contains m) acc) (get G2) o U U)
  (av:(List.range ops.size).all (λk=>Nat.ble k bw||(a'.getD k []).contains bw)=true) (hk:bH P N ops a' (get G2) (bw+1) U l K):bH P N ops a' (get G) i acc (o::l) K:=by
 intro dI J ck kz kv;have:=yM kv aj;subst this;obtain ⟨h1,af⟩:=drop_cons kv;have np:∀ e∈U,e∈acc:=λe he=>by rw [<- fw] at he; exact (List.mem_filter.1 he).1
 have A2:mw P N ops a' (get G2) (J+1) U:=⟨λe he=>by have:=(kz.le ck).2 e (np e he); omega,λe he=>(n3.spec e he).2.1.1,by rw [<- fw]; exact (List.filter_sublist.map _).nodup (kz.nodup ck),λe he b8 hZ h=>kz.uniq ck (np e he) (np b8 hZ) h,λe he=>(n3.spec e he).2.2⟩;obtain ⟨g',ah,c5⟩:=hk U (J+1) A2 .nil af;refine ⟨g',.wv kz (EX gv) (vP fA) h1 ?_ he (λr ah e=>by have:=List.all_eq_true.1 lR r.root ah; rw [e] at this; cases this) fw.symm (λe h=>(n3.spec e h).1) (λe h=>(n3.spec e h).2.1) (λe h=>(n3.spec e h).2.2) ?_ ah,c5⟩
 ·unfold ic; rw [aK]
 ·refine List.all_eq_true.2 λk hk=>?_;have:=List.all_eq_true.1 av k hk;simp only [Bool.or_eq_true,decide_eq_true_eq,Nat.ble_eq] at this ⊢;exact this
theorem bH.R7 (bw:Nat) {G G2:List (Nat × ab)}{U:Acc}{o:Oper}{ps:List Place}(he:o6 P N (λp=>p∈ps) (c0 (get G) (λm=>(a'.getD bw []).contains m) acc) o (get G2)) (lR:ps.all (λr=>(get G r.root).isSome)=true) (aK:o.guard=none) (gv:q5 ((acc.filterMap jL).map Place.root)=true) (fA:lW G=true) (aj:Nat.beq ops.size (bw+l.length+1)=true)
  (fw:acc.filter (λe=>!(a'.getD bw []).contains e.1)=U) (n3:wm P N ops a' (λp=>p∈ps) (c0 (get G) (λm=>(a'.getD bw []).contains m) acc) (get G2) o U U)
  (av:(List.range ops.size).all (λk=>Nat.ble k bw||(a'.getD k []).contains bw)=true) (hk:bH P N ops a' (get G2) (bw+1) U l K):bH P N ops a' (get G) i acc (o::l) K:=by
 intro dI J ck kz kv;have:=yM kv aj;subst this;obtain ⟨h1,af⟩:=drop_cons kv;have np:∀ e∈U,e∈acc:=λe he=>by rw [<- fw] at he; exact (List.mem_filter.1 he).1
 have A2:mw P N ops a' (get G2) (J+1) U:=⟨λe he=>by have:=(kz.le ck).2 e (np e he); omega,λe he=>(n3.spec e he).2.1.1,by rw [<- fw]; exact (List.filter_sublist.map _).nodup (kz.nodup ck),λe he b8 hZ h=>kz.uniq ck (np e he) (np b8 hZ) h,λe he=>(n3.spec e he).2.2⟩;obtain ⟨g',ah,c5⟩:=hk U (J+1) A2 .nil af;refine ⟨g',.wv kz (EX gv) (vP fA) h1 ?_ he (λr ah e=>by have:=List.all_eq_true.1 lR r ah; rw [e] at this; cases this) fw.symm (λe h=>(n3.spec e h).1) (λe h=>(n3.spec e h).2.1) (λe h=>(n3.spec e h).2.2) ?_ ah,c5⟩
 ·unfold ic; rw [aK]
 ·refine List.all_eq_true.2 λk hk=>?_;have:=List.all_eq_true.1 av k hk;simp only [Bool.or_eq_true,decide_eq_true_eq,Nat.ble_eq] at this ⊢;exact this
theorem o6.box {o:Oper}{r:Nat}{x:ab}{G1 G2:List (Nat × ab)}(he:bt P N (get G1) o (get G2)) (ah:g r=some x) [j:b3 x] (hk:Trim false g (get G1) G1) (aO:get G1 r=none) (h1:get G2 r=none) (aP:EY o.dst r=true):o6 P N (se [r]) g o (get ((r,x)::G2)):=by
 rw [<- sI];exact he.kd.frame ah j.bg hk.keep aO h1 (Od aP)
theorem bt.j4 {o:Oper}{k0:Nat}{cs cs' cs2:List ab}{G2:List (Nat × ab)}(aV:o.op=.store t a b) (aP:o.dst=none) (aw:g r=some (.obj cs)) (aQ:Rd g a (.ptr ⟨r,[]⟩ k0)) (av:Rd g b y) [aA:b3 y] (aa:nS y=some cs') (aT:hL P t cs'.length=true)
  (hk:Nat.ble (k0+cs'.length) cs.length=true) (aO:Nat.blt 0 cs'.length=true) (he:eP cs k0 cs'=cs2) [e8:dh cs] (ah:(get G2 r).isSome=true) (c9:lg g (get G2) r cs2 G2):bt P N g o (get G2) :=
 .box aV aP aw aQ av aA.bg aa aT (Nat.le_of_ble_eq_true hk) (by simpa using aO) he (by intro e; rw [e] at ah; cases ah) c9
end
end Go.Own
namespace Go.Own
open Go
set_option linter.unusedSectionVars false
variable [cE]
section
variable {α:Type}
theorem c6.app {xs ys xs' C':List ab}(h:c6 xs ys) (aH:c6 xs' C'):c6 (xs++xs') (ys++C'):=⟨by simp [h.l,aH.l],λg k a b aQ av=>by
 by_cases hk:k<xs.length
 ·rw [List.getElem?_append_left hk] at aQ;rw [List.getElem?_append_left (by rw [h.l]; exact hk)] at av;exact h.v g k a b aQ av
 ·rw [List.getElem?_append_right (by omega)] at aQ;rw [List.getElem?_append_right (by rw [h.l]; omega),h.l] at av;exact aH.v g _ a b aQ av⟩
instance {e b8:bA α}{L:List α} [h:gn e b8]:c6 (bp e L) (bp b8 L):=⟨(C6 e b8 L).1,(C6 e b8 L).2⟩
theorem iM.J0 {en:bA α}{L:List α}{n:Nat}{cs cs':List ab}(h:bp en L=cs') (ai:L.length=n) [hv:c6 cs cs']:iM (.own en.z n cs) (ao en L):=⟨λg=>by
 subst h ai;exact .own hv.l (hv.v g)⟩
theorem iM.hb {en tU:bA α}{L M:List α}{m:Nat}{new cO:List ab} [h:gn en tU] (aA:bp tU M=cO) (hm:M.length=m) [aH:c6 new cO]:iM (.own en.z (L.length+m) (bp en L++new)) (ao tU (L++M)):=⟨λg=>by
 subst aA hm;have hv:=c6.app (inferInstance:c6 (bp en L) (bp tU L)) aH;show View g (.own en.z (L.length+M.length) (bp en L++new)) (.bk tU.z (L++M).length (bp tU (L++M)));have e:bp tU (L++M)=bp tU L++bp tU M:=by simp [bp]
 rw [e,List.length_append,<- h.z];exact .own hv.l (hv.v g)⟩
end
end Go.Own
namespace Go.Own
open Go
set_option linter.unusedSectionVars false
variable [cE]
section
variable {α:Type}{g g2:aI}{p q:Place}{P:Program}{a b:Operand}{t:TypeId}{ty:TypeId}
theorem et.bl {en:bA α}{L:List α}(h:bx g2 p=some (aq en L)):et g2 (.bl en.z p L.length):=.ref rfl (.inl ⟨_,_,h,Nat.le_refl _⟩)
namespace O
theorem Rw {en:bA α}{L M r:List α}{e gp m:Nat}{cs:List ab}(aw:Rd g a (.bl en.z p L.length)) (ar:bx g p=some (aq en L)) (j:Rd g b (.bl en.z q m)) (a6:bx g q=some (.own en.z m cs)) (ai:cs.length=m * en.z) (aS:cs.all lL=true) (hm:M.length=m) (al:ka P t e en.z gp=true) (av:Nat.ble gp 128=true) (h:dj L M=some r)
  (e8:∀ t z n m new,g t≠some (.bC z p n m new)):b5 P g (.call { callee:=.builtin .append,args:=#[a,b],argTypes:=#[t,t] }) ty (.bC en.z p L.length m cs):=by
 subst hm;obtain ⟨h1,af,_⟩:=yy h av;exact .lD (.grow aw.bm (.inl ⟨_,ar⟩) (λt br cf bd cO e=>e8 _ _ _ _ _ e) j.bm (PO a6 ai aS) al h1 af)
end O
end
end Go.Own
