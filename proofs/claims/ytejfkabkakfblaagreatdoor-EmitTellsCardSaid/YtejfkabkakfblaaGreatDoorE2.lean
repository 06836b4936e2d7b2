/- Parts of the proof that the last text states. -/
import Derived.RowKit3
import Derived.Test.YtejfkabkakfblaaGreatDoorE1
namespace Go.Own
open Go
set_option linter.unusedSectionVars false
variable [cH]
structure hy (g1 g2:aL):Prop where
 sub:∀ t x,g2 t=some x->g1 t=some x
 b6:∀ t x,g2 t=some x->eo g2 x
 fr:∀ t z q n m new,g2 t≠some (.bC z q n m new)
structure cQ where
 size:Nat
 pins:List Nat
def cQ.ok (N:cQ) (d:Nat):Bool:=Nat.blt d N.size&&!N.pins.elem d
def hE (N:cQ) (T T':Array Value):Prop:=T'.size=T.size/\∀ t∈N.pins,T'[t]?=T[t]?
theorem hE.refl {N:cQ}{T:Array Value}:hE N T T:=⟨rfl,λ_ _=>rfl⟩
theorem hE.trans {N:cQ}{T Lr Ls:Array Value}(h:hE N T Lr) (h1:hE N Lr Ls):hE N T Ls:=⟨h1.1.trans h.1,λt ar=>(h1.2 t ar).trans (h.2 t ar)⟩
theorem cQ.lt {N:cQ}{d:Nat}(h:N.ok d=true):d<N.size:=by
 simp_all [cQ.ok]
theorem hE.put {N:cQ}{d:Nat}(h:N.ok d=true) (T:Array Value) (v:Value):hE N T (T.setIfInBounds d v):=by
 refine ⟨by simp,λt ar=>?_⟩
 grind [cQ.ok]
def h4 (N:cQ) (a:Act) (w:World) (I:a8) (Fs:Nat->a8) (g':aL) (b1:Act) (w':World):Prop :=
 b1.defers=a.defers/\hE N a.tmps b1.tmps/\∃ I' b3,cG w' I' b1.tmps g' b3/\k1 w I (λc=>∃ t,Fs t c) w' I' (λc=>∃ t,b3 t c)
theorem wb {b3:Nat->a8}{d:Nat}{F:a8}{c:Nat}(h:∃ t,uR b3 d F t c):(∃ t,b3 t c)\/F c:=by
 obtain ⟨t,h⟩:=h;unfold uR at h
 grind
structure yn (P:Program) (g:aL) (f:FuncId) (all xs0 xs1 args:List ab) (tk:Nat->Bool) (vw:Bool) (g1 g2:aL) (outs:List (Option ab)) (res:ab) (l:List (Place × ab)) (ks:Nat->Nat) (g4:aL):Prop where
 aS:iI P f=true
 B_:xs0.length=all.length
 xo:args.length=all.length
 aO:∀ (k:Nat) (x:ab),all[k]?=some x->xs0[k]?=some x\/xs0[k]?=some .dead
 ar:Take g xs0 xs1 g1
 hk:hy g1 g2
 aR:∀ (k:Nat) (x y:ab),all[k]?=some x->args[k]?=some y->if tk k then xs1[k]?=some y else vw=true/\View g2 x y
 g_:bY P f args outs res
 ah:if vw then j2 res else cF res
 nx:∀ (k:Nat) (x:ab),outs[k]?=some (some x)->if vw then j2 x else cF x
 ai:∀ (J:Nat) (p:Place) (x:ab),l[J]?=some (p,x)->Q8 g g2 all outs (ks J) p x
 nd:(l.map (·.1)).Nodup
 inj:∀ i J,i<l.length->J<l.length->ks i=ks J->i=J
 Xx:hy (qq g2 l) g4
section
variable {P:Program}{w:World}{I:a8}{T:Array Value}{g:aL}{Fs:Nat->a8}
theorem jz.keep (h:jz w I T g Fs) {g2:aL}(hk:hy g g2):cG w I T g2 (λt c=>g2 t≠none/\Fs t c) :=
 h.ZP hk.sub hk.b6 λ_ _ _ _ _ _ _ _ _ _ _ h1=>absurd h1 (hk.fr _ _ _ _ _ _)
structure wj (g:aL) (d:Nat) (g4 g5:aL):Prop where
 sub:∀ t x,g4 t=some x->g5 t=some x
 new:∀ t x,g5 t=some x->g4 t=some x\/(g4 t=none/\t≠d/\g t=some x/\∃ r k cs,x=.ptr ⟨r,[]⟩ k/\r≠d/\g4 r=some (.obj cs)/\k<cs.length)
theorem wj.refl {d:Nat}{g4:aL}:wj g d g4 g4:=⟨λ_ _ h=>h,λ_ _ h=>.inl h⟩
theorem cG.back (h:cG w I T g Fs) {w':World}{I':a8}{d:Nat}{v:Value}{g4 g5:aL}{Lb:Nat->a8}(bu:cG w' I' (T.setIfInBounds d v) g4 Lb) (av:wj g d g4 g5):cG w' I' (T.setIfInBounds d v) g5 Lb:=by
 refine ⟨λt x j=>?_,λt ar c aa=>?_,bu.eC,bu.bk,bu.lt,λt t' z p n m new br cm bh cO h1 af=>?_,bu.hN⟩
 ·rcases av.new t x j with aJ | ⟨h1,af,aK,r,k,cs,rfl,cu,dM,k4⟩
  ·obtain ⟨u,hu,a1⟩:=bu.rel t x aJ;exact ⟨u,hu,bu.wP (λ_ _=>rfl) (λ_ _ _=>rfl) (λ_ _=>rfl) (λ_ h=>h) av.sub a1 λ_ _=>rfl⟩
  ·obtain ⟨u,hu,a1⟩:=h.rel t _ aK;obtain ⟨⟨De,ad,aB,a2,rfl⟩,_⟩:=(a1.hb (by simp)).nB;have dt:∀ s,s≠d->(T.setIfInBounds d v)[s]?=T[s]?:=λs az=>by rw [Array.getElem?_setIfInBounds_ne (Ne.symm az)]
   refine ⟨_,by rw [dt t af]; exact hu,.tree (.ref rfl ⟨⟨De,ad,?_,a2,rfl⟩,?_⟩ (bu.kM t h1))⟩
   ·have:dW w T ⟨r,[]⟩=T[r]?:=by
     unfold dW; simp only; cases T[r]? <;> rfl
    rw [this] at aB;unfold dW;simp only [dt r cu,aB,walk]
   ·exact ⟨.obj cs,by simp [bt,av.sub r _ dM,ab.at],0,0,cs,.inr rfl,k4⟩
 ·cases aJ:g4 t with
  | none=>exact bu.kM t aJ c aa
  | some y=>rw [av.sub t y aJ] at ar; cases ar
 ·have:∀ {t z p n m new},g5 t=some (.bC z p n m new)->g4 t=some (.bC z p n m new):=by
   intro t z p n m new j;rcases av.new t _ j with aJ | ⟨_,_,_,r,k,cs,e,_⟩
   ·exact aJ
   ·cases e
  exact bu.q8 t t' z p n m new br cm bh cO (this h1) (this af)
def h0 (P:Program) (N:cQ) (g:aL) (o:Oper) (d:Nat) (g5:aL):Prop :=
 ∀ (w:World) (I:a8) (T:Array Value) (Fs:Nat->a8),cG w I T g Fs->∀ (a:Act),a.tmps=T->a.tmps.size=N.size->∀ (K:Act->World->Prop) (Q:Exit->Act->World->Prop),
  (∀ (b1:Act) (w':World) (v:Value) (I':a8) (b3:Nat->a8),b1.defers=a.defers->b1.tmps=T.setIfInBounds d v->cG w' I' (T.setIfInBounds d v) g5 b3->k1 w I (λc=>∃ t,Fs t c) w' I' (λc=>∃ t,b3 t c)->K b1 w')->o.wp P a w K Q
theorem h0.sound {N:cQ}{o:Oper}{d:Nat}{g5:aL}(aa:h0 P N g o d g5) (jE:N.ok d=true) (h:cG w I T g Fs) {a:Act}(aR:a.tmps=T) (a_:a.tmps.size=N.size) {K:Act->World->Prop}{Q:Exit->Act->World->Prop}
  (c7:∀ b1 w',h4 N a w I Fs g5 b1 w'->K b1 w'):o.wp P a w K Q :=
 aa w I T Fs h a aR a_ K Q λb1 w' v I' b3 h1 af aK bu=>c7 b1 w' ⟨h1,by rw [af,<- aR]; exact hE.put jE _ _,I',b3,by rw [af]; exact aK,bu⟩
theorem yn.ok {N:cQ}{o:Oper}{c:Operand}{xs:Array Operand}{gl:Array TypeId}{d:Nat}{f:FuncId}{first caps ys xs0 xs1 args:List ab}{tk:Nat->Bool}{vw:Bool}{g1 g2 g4 g5:aL}{outs:List (Option ab)}{res:ab}{l:List (Place × ab)}{ks:Nat->Nat}
  (aV:o.op=.call { callee:=.value c,args:=xs,argTypes:=gl }) (aP:o.dst=some d) (aa:bn g c=some (.ds (.func f) first caps)) (j:fK g xs.toList=some ys)
  (he:yn P g f (first++ys++caps) xs0 xs1 args tk vw g1 g2 outs res l ks g4) (aN:g4 d=none) (jE:N.ok d=true) (Bs:wj g d (cJ g4 d res) g5):h0 P N g o d g5:=by
 intro w I T Fs h a aR a_ K Q c7;obtain ⟨v1,v2,vf,ai,oD⟩:=GZ h aR aa j;have h9:(execOp a.eval o).run P w=.ok (.enter f (v1++xs.map a.eval++v2)) w:=by
  simp [execOp,aV,resolve,Deferred.ofValue,vf,invoke,G0 he.aS]
 generalize I0:(v1++xs.map a.eval++v2).toList=vs at *;generalize HW:first++ys++caps=all at *
 -- what is taken
 have vc:Hand w I (fP w T) Fs xs0 vs (λ_=>ct):=by
  refine ⟨by rw [he.B_,ai],λk x u j hu=>?_,λ_ _ _ _ _ h=>h.elim,λ_ _ _ _ h=>h.elim,λ_ _ _ h=>h.elim⟩;have hk:k<all.length:=by rw [<- he.B_]; exact (List.getElem?_eq_some_iff.1 j).1
  have Bi:=List.getElem?_eq_getElem hk;rcases he.aO k _ Bi with aO | aO
  ·rw [aO] at j; cases j;exact (oD k _ u Bi hu).frame (λ_ _=>rfl) (λ_ h=>h) (λ_ _ h=>h.1) λ_ _=>rfl
  ·rw [aO] at j; cases j;exact .dead λ_ h=>h
 obtain ⟨fO,H1,iY,iw,hh⟩:=he.ar.sound h.mD vc;have Na:∀ c,ln fO xs1.length H1 c->∃ t,Fs t c:=by
  intro c aa;rcases hh c aa with aJ | ⟨_,_,aJ⟩
  ·exact aJ
  ·exact aJ.elim
 have h7:=iY.keep he.hk;generalize Uv:(λt c=>g2 t≠none/\fO t c)=iT at h7;have MX:∀ t c,iT t c->fO t c:=by intro t c aa; rw [<- Uv] at aa; exact aa.2
 have Iy:xs1.length=all.length:=by rw [he.ar.length,he.B_]
 -- what the callee sees
 let Dw:a8:=λc=>I c\/(vw=true/\∃ t,iT t c)
 let yq:Nat->a8:=λt c=>t<all.length/\tk t=true/\H1 t c;have tQ:∀ t c,yq t c->(∀ s,¬ iT s c)/\¬ I c/\∃ t,Fs t c:=by
  rintro t c ⟨h1,af,aK⟩;exact ⟨λs az=>iw.off t s c (by omega) aK (MX s c az),iw.bk t c (by omega) aK,Na c (.inr ⟨t,by omega,aK⟩)⟩
 have NL:∀ (ρ':ab->Value->Prop) (k:Nat) (y:ab) (u:Value),args[k]?=some y->vs[k]?=some u->R w Dw ρ' y u (yq k):=by
  intro ρ' k y u al hu;have hk:k<all.length:=by rw [<- he.xo]; exact (List.getElem?_eq_some_iff.1 al).1
  have Bi:=List.getElem?_eq_getElem hk;have:=he.aR k _ y Bi al
  split at this
  ·rename_i ar;have mS:cF y:=he.ar.Cp y (List.mem_of_getElem? this);exact (((iw.rel k y u this hu).bj mS).nI λc aa=>.inl aa).yY λc=>⟨λaa=>⟨hk,ar,aa⟩,λaa=>aa.2.2⟩
  ·rename_i ar;obtain ⟨hv,WJ⟩:=this;have fW:R w I (fP w T) all[k] u ct:=(oD k _ u Bi hu).frame (λ_ _=>rfl) (λ_ h=>h) (λ_ _ h=>h.1) λ_ _=>rfl;have:=View.P_ h7.mD WJ fW (λ_ h=>h.elim) ρ';refine (this.nI (I':=Dw) λc aa=>?_).yY λc=>⟨λh=>h.elim,λaa=>absurd aa.2.1 ar⟩;rcases aa with aJ | aJ
   ·exact .inl aJ
   ·exact .inr ⟨hv,aJ⟩
 have UT:cG w Dw vs.toArray (pg args) yq:=by
  refine ⟨λt x j=>?_,λt ar c aa=>?_,λt t' c aa e_=>iw.eC t t' c (by have:=aa.1; omega) (by have:=e_.1; omega) aa.2.2 e_.2.2,λt c aa hi=>?_,λc aa=>?_,λt t' z p n m new br cm bh cO h1 af=>?_,cH.keep h.hN (λ_ _=>rfl) λ_ h=>.inl h⟩
  ·have ar:t<args.length:=(List.getElem?_eq_some_iff.1 j).1;have hu:vs[t]?=some (vs[t]'(by rw [<- ai,<- he.xo]; exact ar)):=List.getElem?_eq_getElem _;exact ⟨_,by rw [List.getElem?_toArray]; exact hu,.tree (NL _ t x _ j hu)⟩
  ·have hle:args.length<=t:=by simpa [pg] using ar
   have:=aa.1; have:=he.xo; omega
  ·obtain ⟨h1,af,_⟩:=tQ t c aa;rcases hi with aJ | ⟨_,s,aJ⟩
   ·exact af aJ
   ·exact h1 s aJ
  ·rcases aa with aJ | ⟨_,s,aJ⟩
   ·exact h.lt c aJ
   ·exact h7.jU s c aJ
  ·have ar:t<args.length:=(List.getElem?_eq_some_iff.1 h1).1;have hu:vs[t]?=some (vs[t]'(by rw [<- ai,<- he.xo]; exact ar)):=List.getElem?_eq_getElem _;exact (NL (λ_ _=>False) t _ _ h1 hu).lb.elim
 have ve:=he.g_.2 w Dw vs yq (by rw [<- ai,he.xo]) UT;unfold Oper.wp Oper.upon;simp only [h9];rw [<- I0,Array.toArray_toList] at ve;refine Calls.mono ve ?_;rintro e w' ⟨v,I',b3,rfl,d_,bR⟩;rw [I0] at d_;have lF:outs.length=all.length:=by rw [he.g_.1,he.xo]
 have oJ:vs.length=all.length:=ai.symm
 -- the blocks behind the call
 have PJ:∀ t c,iT t c->w'.heap[c]?=w.heap[c]?:=λt c aa=>bR.ep.block c (h7.jU t c aa) λ⟨s,az⟩=>(tQ s c az).1 t aa;have re:∀ c,I c->w'.heap[c]?=w.heap[c]?:=λc aa=>bR.ep.block c (h.lt c aa) λ⟨s,az⟩=>(tQ s c az).2.1 aa
 let If:a8:=λc=>if vw then I c else I' c
 have J5:∀ t c,b3 t c->(∃ s,yq s c)\/w.heap.size<=c:=λt c aa=>bR.own c ⟨t,aa⟩;have OU:∀ t c,b3 t c->∀ s,¬ iT s c:=by
  intro t c aa s az;rcases J5 t c aa with ⟨cn,aJ⟩ | aJ
  ·exact (tQ cn c aJ).1 s az
  ·have:=h7.jU s c az; omega
 have OV:∀ t c,b3 t c->¬ If c:=by
  intro t c aa hi;cases vw with
  | true =>
   simp only [If,if_true] at hi;rcases J5 t c aa with ⟨cn,aJ⟩ | aJ
   ·exact (tQ cn c aJ).2.1 hi
   ·have:=h.lt c hi; omega
  | false =>
   simp only [If,Bool.false_eq_true,if_false] at hi;exact d_.bk t c aa hi
 have M3:∀ c,If c->I c\/(∃ s,yq s c)\/w.heap.size<=c:=by
  intro c aa;cases vw with
  | true=>simp only [If,if_true] at aa; exact .inl aa
  | false =>
   simp only [If,Bool.false_eq_true,if_false] at aa;rcases bR.new c aa with aJ | aJ | aJ
   ·rcases aJ with aJ | ⟨aJ,_⟩
    ·exact .inl aJ
    ·cases aJ
   ·exact .inr (.inl aJ)
   ·exact .inr (.inr aJ)
 have HJ:∀ c,I c->If c:=by
  intro c aa;cases vw with
  | true=>simp only [If,if_true]; exact aa
  | false=>simp only [If,Bool.false_eq_true,if_false]; exact bR.more c (.inl aa)
 have UP:cG w' If T g2 iT:=by
  have:=h7.world (w':=w') PJ re bR.ep.size;refine ⟨λt x j=>?_,this.kM,this.eC,λt c aa hi=>?_,λc aa=>?_,this.q8,cH.keep h.hN re HJ⟩
  ·obtain ⟨v,hv,a1⟩:=this.rel t x j;exact ⟨v,hv,a1.frame (λ_ _=>rfl) HJ (λ_ _ h=>h) (λ_ _ _ _ _ _ _=>rfl) λ_ _=>rfl⟩
  ·rcases M3 c hi with aJ | ⟨s,aJ⟩ | aJ
   ·exact h7.bk t c aa aJ
   ·exact (tQ s c aJ).1 t aa
   ·have:=h7.jU t c aa; omega
  ·cases vw with
   | true=>simp only [If,if_true] at aa; exact Nat.lt_of_lt_of_le (h.lt c aa) bR.ep.size
   | false=>simp only [If,Bool.false_eq_true,if_false] at aa; exact d_.lt c aa
 -- what comes back in the arguments, and the result
 have LR:∀ {x:ab}{u:Value}{F:a8}{ρ ρ':ab->Value->Prop},R w' I' ρ x u F->(if vw then j2 x else cF x)->R w' If ρ' x u F:=by
  intro x u F ρ ρ' a1 j;cases vw with
  | true=>simp only [if_true] at j; exact a1.lg j
  | false =>
   simp only [Bool.false_eq_true,if_false] at j;refine (a1.bj j).nI λc aa=>?_;simpa [If] using aa
 have Co:∀ {x:ab},(if vw then j2 x else cF x)->∀ z p n m new,x≠.bC z p n m new:=by
  rintro x j z p n m new rfl;cases vw with
  | true=>simp only [if_true] at j; cases j
  | false=>simp only [Bool.false_eq_true,if_false] at j; cases j
 have X8:∀ (k:Nat) (x:ab) (u:Value),outs[k]?=some (some x)->vs[k]?=some u->R w' If (fP w' T) x u (b3 k):=by
  intro k x u j hu;have hk:k<outs.length:=(List.getElem?_eq_some_iff.1 j).1;obtain ⟨wa,hT,a1⟩:=d_.rel k x (by simp only [l2,if_neg (Nat.ne_of_lt hk),j]; rfl);have:wa=u:=by
   rw [List.getElem?_toArray,List.getElem?_append_left (by rw [oJ,<- lF]; exact hk),hu] at hT;exact (Option.some.inj hT).symm
  subst this;exact LR (a1.hb (Co (he.nx k x j))) (he.nx k x j)
 obtain ⟨KL,EE,pr⟩:=d_.rel outs.length res (by simp [l2]);have WE:KL=v:=by
  have e:outs.length=vs.length:=by omega
  rw [e] at EE;simpa using EE.symm
 subst WE
 -- back into the places
 obtain ⟨yr,HS,Ef⟩:=jz.qq (w:=w') (I:=If) (T:=T) l (λJ=>b3 (ks J)) (λJ=>vs.getD (ks J) undef) UP.mD he.nd (λJ p x aj=>by
   have L:=he.ai J p x aj;have hk:ks J<outs.length:=(List.getElem?_eq_some_iff.1 L.out).1;have hu:vs[ks J]?=some (vs[ks J]'(by rw [oJ,<- lF]; exact hk)):=List.getElem?_eq_getElem _;have sA:vs.getD (ks J) undef=vs[ks J]'(by rw [oJ,<- lF]; exact hk):=by simp [List.getD,hu]
   refine ⟨L.LL,?_,?_,λi e=>?_⟩
   ·rw [sA,h7.yc (w':=w') (λ_ _=>rfl) PJ L.LL];rcases L.arg with ⟨z,n,cs,h1,af⟩ | ⟨cs,h1,af⟩
    ·exact RS h (oD _ _ _ h1 hu) af
    ·exact RR h (oD _ _ _ h1 hu) af
   ·rw [sA]; exact X8 _ x _ L.out hu
   ·exact L.ij i e)
  (λJ t c aj aa=>OU _ c aa t) (λJ c aj aa=>OV _ c aa) (λi J c hi aj h1 af=>he.inj i J hi aj (d_.eC _ _ c h1 af))
 have UQ:=HS.keep he.Xx;have X3:∀ t c,b3 outs.length c->¬ (g4 t≠none/\yr t c):=by
  rintro t c aa ⟨_,bu⟩;rcases Ef t c bu with aJ | ⟨J,aj,aJ⟩
  ·exact OU _ c aa t aJ
  ·have hk:ks J<outs.length:=by
    have vi:=List.getElem?_eq_getElem aj;exact (List.getElem?_eq_some_iff.1 (he.ai J _ _ vi).out).1
   have:=d_.eC _ _ c aa aJ;omega
 have nw:=UQ.uI (d:=d) (x:=res) (v:=KL) (F:=b3 outs.length) aN (by rw [<- aR,a_]; exact cQ.lt jE) (.tree (LR (pr.hb (Co he.ah)) he.ah)) X3 (λc aa=>OV _ c aa) (λz p n m new e=>absurd e (Co he.ah z p n m new));refine c7 _ _ KL If _ (by rw [aP]; rfl) (by rw [aP]; simp [Act.put,aR]) (h.back nw Bs) ⟨?_,HJ,λc aa=>?_,λc aa=>?_⟩
 ·exact bR.ep.mono λb _ ⟨s,az⟩=>(tQ s b az).2.2
 ·rcases M3 c aa with aJ | ⟨s,aJ⟩ | aJ
  ·exact .inl aJ
  ·exact .inr (.inl (tQ s c aJ).2.2)
  ·exact .inr (.inr aJ)
 ·have fin:∀ t,b3 t c->(∃ s,Fs s c)\/w.heap.size<=c:=by
   intro t ar;rcases J5 t c ar with ⟨s,aJ⟩ | aJ
   ·exact .inl (tQ s c aJ).2.2
   ·exact .inr aJ
  rcases wb aa with ⟨t,_,aJ⟩ | aJ
  ·rcases Ef t c aJ with f' | ⟨J,_,f'⟩
   ·exact .inl (Na c (.inl ⟨t,MX t c f'⟩))
   ·exact fin _ f'
  ·exact fin _ aJ
structure QO (g:aL) (d r k0:Nat) (g4 g5:aL):Prop where
 sub:∀ t x,g4 t=some x->g5 t=some x
 new:∀ t x,g5 t=some x->g4 t=some x\/(g4 t=none/\t≠d/\g t=some x/\∃ m z n cs,x=.ptr ⟨r,[k0]⟩ m/\bt g4 ⟨r,[k0]⟩=some (.own z n cs)/\m<cs.length)
theorem hy.bt {g1 g2:aL}(h:hy g1 g2) {p:Place}{y:ab}(au:bt g2 p=some y):bt g1 p=some y:=by
 unfold Own.bt at *;cases j:g2 p.root with
 | none=>rw [j] at au; cases au
 | some x=>rw [j] at au; rw [h.sub _ _ j]; exact au
theorem h0.TX {N:cQ}{o:Oper}{r k0 d:Nat}{y:ab}{cs:List ab}{g5:aL}(ah:g r=some (.obj cs)) (al:cs[k0]?=some y) (xf:cF y) (lU:∀ i,y≠.self i)
  (vn:∀ v:Value,v.oneCell'=true->∃ g1 g4 vb,hy (cp g ⟨r,[k0]⟩ (.lit v)) g1/\h0 P N g1 o d g4/\bt g4 ⟨r,[k0]⟩=some (.lit v)/\hy (cp g4 ⟨r,[k0]⟩ y) vb/\bt vb ⟨r,[k0]⟩=some y/\QO g d r k0 vb g5):h0 P N g o d g5:=by
 intro w I T Fs h a aR a_ K Q c7;have mv:∀ z q n m new,y≠.bC z q n m new:=by rintro z q n m new rfl; cases xf
 have fG:bt g ⟨r,[k0]⟩=some y:=by simp [bt,ah,ab.at,ab.kids,al]
 obtain ⟨v,cq,hv,dE,dq,put⟩:=h.mD.part fG mv;have rW:v.oneCell'=true:=by
  obtain ⟨u,hu,mQ⟩:=h.rel r _ ah;obtain ⟨b,wa,h1,af,aK,bu,_⟩:=R.node (z:=0) (n:=0) (mQ.hb (by simp)) (.inr rfl) al;have:dW w T ⟨r,[k0]⟩=child w u k0:=by
   unfold dW;simp only [hu,walk];cases child w u k0 <;> rfl
  rw [this,aK] at hv;cases hv;exact bu
 obtain ⟨fO,iY,A',Ba⟩:=put (.lit v) ct (.lit rW λ_ h=>h) (λ_ h=>h.elim) (λ_ h=>h.elim) (λ_ _ _ h=>h.elim) (λ_ h=>by cases h);obtain ⟨g1,g4,vb,gn,da,HX,It,acF,av⟩:=vn v rW;have sb:∀ t c,fO t c->Fs t c/\¬ cq c:=by
  intro t c aa;by_cases ar:t=r
  ·subst ar;rcases (A' c).1 aa with aJ | aJ
   ·exact aJ
   ·exact aJ.elim
  ·rw [Ba t ar] at aa;exact ⟨aa,λaS=>ar (h.eC t r c aa (dq c aS))⟩
 have HR:=iY.keep gn;refine da w I T _ HR a aR a_ K Q λb1 w' eh I' b3 Hh A2 d_ bR=>?_;obtain ⟨v2,iR,zs,mm,Uu,Kh⟩:=d_.mD.part HX (by simp);have IX:v2=v:=mm.h_.1;subst IX;have HH:∀ c,cq c->¬ I c:=λc aa=>h.bk r c (dq c aa);have wT:∀ c,cq c->c<w.heap.size:=λc aa=>h.jU r c (dq c aa);have xB:∀ c,cq c->¬ ∃ t,(g1 t≠none/\fO t c):=λc aa ⟨t,_,aJ⟩=>(sb t c aJ).2 aa;have Cs:∀ t c,b3 t c->¬ cq c:=by
  intro t c aa aS;rcases bR.own c ⟨t,aa⟩ with aJ | aJ
  ·exact xB c aS aJ
  ·have:=wT c aS; omega
 have JX:∀ c,cq c->¬ I' c:=by
  intro c aa hi;rcases bR.new c hi with aJ | aJ | aJ
  ·exact HH c aa aJ
  ·exact xB c aa aJ
  ·have:=wT c aa; omega
 have Kt:∀ c,cq c->w'.heap[c]?=w.heap[c]?:=λc aa=>bR.ep.block c (wT c aa) (xB c aa);have re:∀ c,I c->w'.heap[c]?=w.heap[c]?:=λc aa=>bR.ep.block c (h.lt c aa) λ⟨t,_,aJ⟩=>h.bk t c (sb t c aJ).1 aa;have Bh:R w' I' (fP w' (T.setIfInBounds d eh)) y v2 cq :=
  ((dE.bj xf).frame re bR.more (λ_ _ h=>h) Kt)
 obtain ⟨Lc,HT,HC,HD⟩:=Kh y cq Bh (λc aa aS=>(Cs _ c aS aa).elim) (λc aa=>JX c aa) (λt c _ aa aS=>Cs t c aS aa) (λi e=>absurd e (lU i));have sz:=HT.keep It;have WH:dW w' (T.setIfInBounds d eh) ⟨r,[k0]⟩=some v2:=zs;have UR:cG w' I' (T.setIfInBounds d eh) g5 (λt c=>vb t≠none/\Lc t c):=by
  refine ⟨λt x j=>?_,λt ar c aa=>?_,sz.eC,sz.bk,sz.lt,λt t' z p n m new br cm bh cO h1 af=>?_,sz.hN⟩
  ·rcases av.new t x j with aJ | ⟨h1,af,aK,m,z,n,cs2,rfl,cu,dM⟩
   ·obtain ⟨u,hu,a1⟩:=sz.rel t x aJ;exact ⟨u,hu,sz.wP (λ_ _=>rfl) (λ_ _ _=>rfl) (λ_ _=>rfl) (λ_ h=>h) av.sub a1 λ_ _=>rfl⟩
   ·obtain ⟨u,hu,a1⟩:=h.rel t _ aK;obtain ⟨⟨De,ad,aB,a2,rfl⟩,_⟩:=(a1.hb (by simp)).nB;rw [hv] at aB;cases aB;refine ⟨_,by rw [Array.getElem?_setIfInBounds_ne (Ne.symm af)]; exact hu,.tree (.ref rfl ⟨⟨v2,ad,WH,a2,rfl⟩,?_⟩ (sz.kM t h1))⟩;refine ⟨.own z n cs2,?_,z,n,cs2,.inl rfl,dM⟩;unfold Own.bt at cu ⊢;cases fT:vb r with
    | none=>simp only [fT] at cu; cases cu
    | some x'=>simp only [fT] at cu; simp only [av.sub r x' fT]; exact cu
  ·cases aJ:vb t with
   | none=>exact aa.1 aJ
   | some y=>rw [av.sub t y aJ] at ar; cases ar
  ·have:∀ {t z p n m new},g5 t=some (.bC z p n m new)->vb t=some (.bC z p n m new):=by
    intro t z p n m new j;rcases av.new t _ j with aJ | ⟨_,_,_,m,z,n,cs2,e,_⟩
    ·exact aJ
    ·cases e
   exact sz.q8 t t' z p n m new br cm bh cO (this h1) (this af)
 refine c7 b1 w' eh I' _ Hh A2 UR ⟨?_,bR.more,λc aa=>?_,λc aa=>?_⟩
 ·exact bR.ep.mono λb _ ⟨t,_,aJ⟩=>⟨t,(sb t b aJ).1⟩
 ·rcases bR.new c aa with aJ | ⟨t,_,aJ⟩ | aJ
  ·exact .inl aJ
  ·exact .inr (.inl ⟨t,(sb t c aJ).1⟩)
  ·exact .inr (.inr aJ)
 ·obtain ⟨t,_,aa⟩:=aa;have:(∃ t,b3 t c)\/cq c:=by
   by_cases ar:t=r
   ·subst ar;rcases (HC c).1 aa with ⟨aJ,_⟩ | aJ
    ·exact .inl ⟨_,aJ⟩
    ·exact .inr aJ
   ·rw [HD t ar] at aa; exact .inl ⟨t,aa⟩
  rcases this with aJ | aJ
  ·rcases bR.own c aJ with ⟨t,_,f'⟩ | f'
   ·exact .inl ⟨t,(sb t c f').1⟩
   ·exact .inr f'
  ·exact .inl ⟨r,dq c aJ⟩
end
end Go.Own
namespace Go.Own
open Go
set_option linter.unusedSectionVars false
variable [cH]
def nY:ab->Option (List ab)
 | .agg cs=>some cs
 | .lit v=>some [.lit v]
 | .aT=>some [.aT]
 | .bk z n cs=>some [.bk z n cs]
 | .own z n cs=>some [.own z n cs]
 | .obj cs=>some [.obj cs]
 | .cK cs=>some [.cK cs]
 | .ds f a b=>some [.ds f a b]
 | _=>none
def hC (P:Program) (t:TypeId) (m:Nat):Bool :=
 match P.info? t with
 | some i=>i.size == m
 | none=>false
def il (P:Program) (N:cQ) (g:aL) (o:Oper) (g':aL):Prop :=
 ∀ (w:World) (I:a8) (T:Array Value) (Fs:Nat->a8),cG w I T g Fs->∀ (a:Act),a.tmps=T->a.tmps.size=N.size->∀ (K:Act->World->Prop) (Q:Exit->Act->World->Prop),
  (∀ (b1:Act) (w':World),h4 N a w I Fs g' b1 w'->(∀ t,o.dst≠some t->b1.tmps[t]?=a.tmps[t]?)->K b1 w')->o.wp P a w K Q
inductive bq (P:Program) (N:cQ) (g:aL):Oper->aL->Prop
 | assign {o:Oper}{d:Nat}{x:Operand}{y bI y':ab}{g1 g2:aL}(aV:o.op=.assign x) (aP:o.dst=some d) (j:bn g x=some y) (ar:Take g [y] [bI] g1) (aW:gY bI y') (hk:hy g1 g2) (aN:g2 d=none) (a_:N.ok d=true):bq P N g o (cJ g2 d y')
 | RW {o:Oper}{d:Nat}{x:Operand}{y:ab}{g2:aL}(aV:o.op=.assign x) (aP:o.dst=some d) (j:bn g x=some y) (hk:hy g g2) (al:eo g2 y) (aN:g2 d=none) (a_:N.ok d=true):bq P N g o (cJ g2 d y)
 | store {o:Oper}{t:TypeId}{ad val:Operand}{p:Place}{k z n:Nat}{y bI y' nd:ab}{cs cs':List ab}{g1 g2:aL}(aV:o.op=.store t ad val) (aP:o.dst=none) (fy:bn g ad=some (.ptr p k)) (sJ:bn g val=some y) (ar:Take g [y] [bI] g1) (n1:gY bI y')
   (aa:nY y'=some cs') (az:hC P t cs'.length=true) (au:bt g1 p=some nd) (fq:nd=.own z n cs\/nd=.obj cs) (hk:k+cs'.length<=cs.length) (aO:0<cs'.length)
   (En:∀ t x,g2 t=some x->cp g1 p (nd.eP k cs') t=some x) (sF:∀ t x,g2 t=some x->∀ y,g1 t=some y->kl (λr=>gZ g1 r/\Clear p k cs'.length r/\gZ g2 r) y) (mv:∀ t z q n m new,g2 t≠some (.bC z q n m new)) (mV:g2 p.root≠none):bq P N g o g2
 | call {o:Oper}{d:Nat}{g5:aL}(aP:o.dst=some d) (a_:N.ok d=true) (h:h0 P N g o d g5):bq P N g o g5
 | PT {o:Oper}{g2:aL}(h:il P N g o g2):bq P N g o g2
theorem SX {y:ab}{cs:List ab}(h:sk y) (aa:nY y=some cs):qF cs:=by
 have one:∀ {x:ab},(∀ J,x≠.self J)->qF [x]:=λj k J e=>by
  cases k with
  | zero=>simp only [List.getElem?_cons_zero,Option.some.injEq] at e; exact j J e
  | succ k=>simp at e
 cases y <;> simp only [Go.Own.nY,Option.some.injEq,reduceCtorEq] at aa <;> subst aa
 all_goals first | exact h _ rfl | exact one (by simp)
theorem View.xC {g:aL}{x y:ab}(h:View g x y) (j:sk x):sk y:=by
 intro cs e k J hk;cases h with
 | self=>exact j _ e k J hk
 | agg ai h=>cases e; exact j _ rfl k J (Fa ai h (λ_ _ _=>View.ij) k J hk)
 | _=>cases e
theorem gY.xC {x y:ab}(h:gY x y) (j:sk x):sk y:=by
 intro cs e k J hk;cases h with
 | refl=>exact j _ e k J hk
 | oT _ h=>exact h.xC j _ e k J hk
 | agg ai h=>cases e; exact j _ rfl k J (Fa ai h (λ_ _ _=>gY.ij) k J hk)
 | _=>cases e
section
variable {P:Program}{w:World}{I:a8}{T:Array Value}{g:aL}{Fs:Nat->a8}
theorem Hand.one {y:ab}{v:Value}(a1:R w I (dU w T g) y v ct):Hand w I (fP w T) Fs [y] [v] (λ_=>ct) :=
 ⟨rfl,λk x u j hu=>by
  cases k with
  | zero=>simp at j hu; subst j hu; exact a1.frame (λ_ _=>rfl) (λ_ h=>h) (λ_ _ h=>h.1) λ_ _=>rfl
  | succ k=>simp at j,λ_ _ _ _ _ h=>h.elim,λ_ _ _ _ h=>h.elim,λ_ _ _ h=>h.elim⟩
theorem Hand.Kk {ρ:ab->Value->Prop}{y:ab}{v:Value}{du:Nat->a8}(h:Hand w I ρ Fs [y] [v] du):R w I ρ y v (du 0):=h.rel 0 y v rfl rfl
theorem Hand.cells {y:ab}{v:Value}{du:Nat->a8}(h:Hand w I (fP w T) Fs [y] [v] du) (aA:cF y) {cs:List ab}(aa:nY y=some cs) :
  ∃ yt,Hand w I (fP w T) Fs cs v.cells.toList yt/\(∀ x∈cs,cF x)/\(∀ (J:Nat) (u:Value),v.cells.toList[J]?=some u->u.oneCell'=true)/\∀ J c,J<cs.length->yt J c->du 0 c:=by
 have a1:=h.Kk;have single:∀ {x:ab},y=x->v.oneCell'=true->∃ yt,Hand w I (fP w T) Fs [x] v.cells.toList yt/\(∀ z∈[x],cF z)/\(∀ (J:Nat) (u:Value),v.cells.toList[J]?=some u->u.oneCell'=true)/\∀ J c,J<[x].length->yt J c->du 0 c:=by
  rintro x rfl h1;have Ej:v.cells=#[v]:=by cases v <;> first | rfl | (simp [Value.oneCell'] at h1)
  grind
 cases y <;> simp only [nY,Option.some.injEq,reduceCtorEq] at aa
 case agg l =>
  subst aa;cases a1 with
  | ref j=>simp [ab.isRef] at j
  | @agg _ vs bV _ ai h1 ah aP aI =>
   have eX:∀ k c,k<l.length->bV k c->du 0 c:=λk c hk aa=>(aI c).2 ⟨k,hk,aa⟩;refine ⟨bV,⟨by simp [Value.cells,ai],λk x u j hu=>ah k x u j (by simpa [Value.cells] using hu),aP,λk t c hk aa=>h.off 0 t c (by simp) (eX k c hk aa),λk c hk aa=>h.bk 0 c (by simp) (eX k c hk aa)⟩,?_,λJ u hu=>h1 J u (by simpa [Value.cells] using hu),eX⟩;cases aA with | agg h=>exact h
 case lit a=>subst aa; exact single rfl (by obtain ⟨rfl,h1⟩:=a1.h_; exact h1)
 case aT=>subst aa; exact single rfl (by rw [a1.r4]; rfl)
 case bk z n l=>subst aa; exact single rfl (by obtain ⟨a,cap,rfl,_⟩:=a1.zw; rfl)
 case own z n l=>subst aa; exact single rfl (by obtain ⟨a,cap,rfl,_⟩:=a1.mZ; rfl)
 case cK l=>subst aa; exact single rfl (by obtain ⟨ad,us,rfl,_⟩:=a1.xh; rfl)
 case obj l =>
  subst aa;refine single rfl ?_;cases a1 with
  | ref j=>simp [ab.isRef] at j
  | obj=>rfl
 case ds f a b =>
  subst aa;refine single rfl ?_;cases a1 with
  | ref j=>simp [ab.isRef] at j
  | ds=>rfl
theorem jy.nI {I':a8}{ρ:ab->Value->Prop}{x:ab}{v:Value}{F:a8}(h:jy w I ρ x v F) (bb:∀ c,I c->I' c):jy w I' ρ x v F:=by
 cases h with
 | tree h=>exact .tree (h.nI bb)
 | bC h=>exact .bC ⟨h.ko,h.iZ,h.nu,h.ai,h.h1,λk x u j hu=>(h.ah k x u j hu).nI bb,h.aI⟩
theorem MM {g1:aL}{fO:Nat->a8}{H1:Nat->a8}{bI y':ab}{v:Value}(bm:jz w I T g1 fO) (hH:Hand w I (fP w T) fO [bI] [v] H1) (aA:cF bI) (aW:gY bI y') :
  ∃ (I':a8) (tn:a8),(∀ c,I c->I' c)/\(∀ c,I' c->I c\/H1 0 c)/\jz w I' T g1 fO/\Hand w I' (fP w T) fO [y'] [v] (λ_=>tn)/\∀ c,tn c->H1 0 c:=by
 have a1:=hH.Kk;obtain ⟨tn,gA,jm⟩:=R.dG aW a1 aA (λc aa=>hH.bk 0 c (by simp) aa) bm.lt bm.hN;refine ⟨λc=>I c\/(H1 0 c/\¬ tn c),tn,λc aa=>.inl aa,λc aa=>aa.elim .inl λh=>.inr h.1,⟨λt x j=>?_,bm.kM,bm.eC,λt c aa hi=>?_,λc aa=>?_,cH.keep bm.hN (λ_ _=>rfl) λ_ h=>.inl h⟩,⟨rfl,λk x u j hu=>?_,λJ k c aj hk _ _=>by simp at aj hk; omega,λk t c hk aa aS=>hH.off 0 t c (by simp) (gA c aa) aS,λk c hk aa hi=>?_⟩,gA⟩
 ·obtain ⟨u,hu,mQ⟩:=bm.rel t x j;exact ⟨u,hu,mQ.nI λc aa=>.inl aa⟩
 ·rcases hi with h | ⟨h,_⟩
  ·exact bm.bk t c aa h
  ·exact hH.off 0 t c (by simp) h aa
 ·rcases aa with h | ⟨h,_⟩
  ·exact bm.lt c h
  ·exact a1.lt c h
 ·cases k with
  | zero=>simp at j hu; subst j hu; exact jm
  | succ k=>simp at j
 ·rcases hi with h | ⟨_,h⟩
  ·exact hH.bk 0 c (by simp) (gA c aa) h
  ·exact h aa
theorem bq.ka {N:cQ}{o:Oper}{g':aL}(he:bq P N g o g'):il P N g o g':=by
 intro w I T Fs h a aR a_ K Q c7;cases he with
 | PT he=>exact he w I T Fs h a aR a_ K Q c7
 | @call d _ aP jE aa =>
  refine aa w I T Fs h a aR a_ K Q λb1 w' v I' b3 h1 af aK bu=>c7 b1 w' ⟨h1,by rw [af,<- aR]; exact hE.put jE _ _,I',b3,by rw [af]; exact aK,bu⟩ λt ar=>?_;rw [af,aR,Array.getElem?_setIfInBounds_ne];rintro rfl;exact ar aP
 | @assign d x y bI y' g1 g2 aV aP j ar aW hk aN jE =>
  have a1:=lh h j aR;obtain ⟨fO,H1,sy,vc,hh⟩:=ar.sound h.mD (Hand.one a1);have BD:cF bI:=ar.Cp bI (by simp);obtain ⟨I',tn,n0,HI,iY,iw,gA⟩:=MM sy vc BD aW;have mS:cF y':=aW.bj BD;have h7:=iY.keep hk;have nw:=h7.uI (d:=d) (x:=y') (v:=a.eval x) (F:=tn) aN (by rw [<- aR,a_]; exact cQ.lt jE) (.tree (iw.Kk.bj mS)) (λt c aa aS=>iw.off 0 t c (by simp) aa aS.2) (λc aa=>iw.bk 0 c (by simp) aa) (by rintro z p n m new rfl; cases mS);have h9:(execOp a.eval o).run P w=.ok (.value (a.eval x)) w:=by simp [execOp,aV]
  unfold Oper.wp Oper.upon;simp only [h9];have fF:∀ c,H1 0 c->∃ t,Fs t c:=λc aa=>by
   rcases hh c (.inr ⟨0,by simp,aa⟩) with f' | ⟨_,_,f'⟩
   ·exact f'
   ·exact f'.elim
  refine c7 _ _ ⟨by rw [aP]; rfl,by rw [aP]; exact hE.put jE _ _,I',_,by rw [aP]; simpa [Act.put,aR] using nw,⟨Fr.refl _ _,n0,λc aa=>(HI c aa).elim .inl λh=>.inr (.inl (fF c h)),λc aa=>?_⟩⟩ λt ar=>by rw [aP]; simp only [Act.put]; rw [Array.getElem?_setIfInBounds_ne]; rintro rfl; exact ar aP
  rcases wb aa with ⟨t,_,aJ⟩ | aJ
  ·rcases hh c (.inl ⟨t,aJ⟩) with f' | ⟨_,_,f'⟩
   ·exact .inl f'
   ·exact f'.elim
  ·exact .inl (fF c (gA c aJ))
 | @RW d x y g2 aV aP j hk al aN jE =>
  have a1:=lh h j aR;have h7:=h.mD.keep hk;have jm:R w I (dU w T g2) y (a.eval x) ct:=(a1.frame (ρ':=fP w T) (λ_ _=>rfl) (λ_ h=>h) (λ_ _ h=>h.1) λ_ _=>rfl).b6 al;have nw:=h7.uI (d:=d) (x:=y) (v:=a.eval x) (F:=ct) aN (by rw [<- aR,a_]; exact cQ.lt jE) (.tree jm) (λ_ _ h=>h.elim) (λ_ h=>h.elim) (by rintro z p n m new rfl; exact jm.lb.elim);have h9:(execOp a.eval o).run P w=.ok (.value (a.eval x)) w:=by simp [execOp,aV]
  unfold Oper.wp Oper.upon;simp only [h9];refine c7 _ _ ⟨by rw [aP]; rfl,by rw [aP]; exact hE.put jE _ _,I,_,by rw [aP]; simpa [Act.put,aR] using nw,⟨Fr.refl _ _,λ_ h=>h,λ_ h=>.inl h,λc aa=>?_⟩⟩ λt ar=>by rw [aP]; simp only [Act.put]; rw [Array.getElem?_setIfInBounds_ne]; rintro rfl; exact ar aP
  rcases wb aa with ⟨t,_,aJ⟩ | aJ
  ·exact .inl ⟨t,aJ⟩
  ·exact aJ.elim
 | @store t ad val p k z n y bI y' nd cs cs' g1 _ aV aP fy sJ ar n1 aa az au fq hk aO En sF mv mV =>
  have pr:=lh h sJ aR;obtain ⟨⟨u,aap,hu,vd,rP⟩,_⟩:=(lh h fy aR).nB;obtain ⟨fO,H0,sy,vc,HW⟩:=ar.sound h.mD (Hand.one pr);have BD:cF bI:=ar.Cp bI (by simp);obtain ⟨I',tn,n0,HI,iY,iw,Wz⟩:=MM sy vc BD n1;have mS:cF y':=n1.bj BD;have fF:∀ c,H0 0 c->∃ t,Fs t c:=λc aa=>by
   rcases HW c (.inr ⟨0,by simp,aa⟩) with f' | ⟨_,_,f'⟩
   ·exact f'
   ·exact f'.elim
  have hh:∀ c,ln fO 1 (λ_=>tn) c->ln Fs [y].length (λ_=>ct) c:=by
   rintro c (⟨t,aa⟩ | ⟨_,_,aa⟩)
   ·exact HW c (.inl ⟨t,aa⟩)
   ·exact .inl (fF c (Wz c aa))
  obtain ⟨yt,M1,Ie,gy,UB⟩:=iw.cells mS aa;have lb:∀ z q n m new,nd≠.bC z q n m new:=by rcases fq with rfl | rfl <;> simp
  obtain ⟨v,cq,hv,dE,dq,_⟩:=iY.part au lb;rw [hu] at hv;cases hv;obtain ⟨b,gK,av,_⟩:=dE.node fq (List.getElem?_eq_getElem (show k<cs.length by omega));rw [vd] at av;cases av;have lD:∃ e arr,w.heap[b]?=some (.cells arr e (0,0))/\cs.length<=arr.size:=by
   rcases fq with rfl | rfl
   ·cases dE with
    | ref j=>simp [ab.isRef] at j
    | own lV ai =>
     obtain ⟨k_,bH⟩:=lV;rcases bH with ⟨rfl,_⟩ | ⟨dz,cap,cur,rfl,_,jY,xW,vX,Aa,xX⟩
     ·simp [addrOf] at vd
     ·simp only [addrOf,Option.some.injEq,Addr.mk.injEq,and_true] at vd;subst vd;refine ⟨_,cur,jY,?_⟩;rw [ai,<- xX,List.length_take]; simp; omega
   ·cases dE with
    | ref j=>simp [ab.isRef] at j
    | obj lV ai =>
     simp only [addrOf,Option.some.injEq,Addr.mk.injEq,and_true] at vd;subst vd;exact ⟨_,_,lV,by omega⟩
  obtain ⟨e,arr,lD,hle⟩:=lD;obtain ⟨iT,h7,gA⟩:=iY.store au fq hk M1 Ie (λ_=>SX (n1.xC (ar.xC (by simpa using O1 sJ) bI (by simp))) aa) gy En sF mv mV hu vd lD;have hJ:(a.eval val).cells.toList.length=cs'.length:=M1.len.symm;have bR:=run_storeCells_at P b k e (a.eval val).cells.toList 0 arr w lD (by omega) (λu hu=>by
   obtain ⟨J,aj,rfl⟩:=List.mem_iff_getElem.1 hu;exact gy J _ (List.getElem?_eq_getElem aj))
  simp only [Nat.add_zero] at bR;have eR:(sizeOf t).run P w=.ok cs'.length w:=by
   unfold hC at az;cases hi:P.info? t with
   | none=>simp [hi] at az
   | some i=>simp [hi] at az; simp [sizeOf,typeInfo,hi,az]
  have h9:(execOp a.eval o).run P w=.ok .skip (w.setRow b (eP arr.toList k (a.eval val).cells.toList).toArray):=by
   have gS:(a.eval val).cells.size=cs'.length:=by rw [<- Array.length_toList]; exact hJ
   simp only [Nat.zero_add] at rP;simp [execOp,aV,rP,Instr.storeAt,Instr.sureAddr,storeVar,eR,gS,bR,eP]
  unfold Oper.wp Oper.upon;simp only [h9];have H6:∃ t,Fs t b:=by
   rcases hh b (.inl ⟨_,dq b (dE.E_ fq (ad:=⟨b,0,none⟩) vd)⟩) with aJ | ⟨_,_,aJ⟩
   ·exact aJ
   ·exact aJ.elim
  refine c7 _ _ ⟨by rw [aP]; rfl,by rw [aP]; exact hE.refl,I',iT,by rw [aP]; simpa [Act.put,aR] using h7,⟨⟨rfl,rfl,rfl,by simp,λc _ aa=>setRow_other w b c _ (λe=>aa (e ▸ H6)),λa _ _=>D7 w b _ a,Nat.le_refl _⟩,n0,λc aa=>(HI c aa).elim .inl λh=>.inr (.inl (fF c h)),λc ⟨t,aa⟩=>?_⟩⟩ λt _=>by rw [aP]; rfl
  rcases gA t c aa with aJ | ⟨J,aj,aJ⟩
  ·rcases hh c (.inl ⟨t,aJ⟩) with f' | ⟨_,_,f'⟩
   ·exact .inl f'
   ·exact f'.elim
  ·rcases hh c (.inr ⟨0,by simp,UB J c aj aJ⟩) with f' | ⟨_,_,f'⟩
   ·exact .inl f'
   ·exact f'.elim
theorem bq.sound (h:cG w I T g Fs) {a:Act}(aR:a.tmps=T) {N:cQ}(a_:a.tmps.size=N.size) {o:Oper}{g':aL}(he:bq P N g o g') {K:Act->World->Prop}{Q:Exit->Act->World->Prop}
  (c7:∀ b1 w',h4 N a w I Fs g' b1 w'->K b1 w'):o.wp P a w K Q:=he.ka w I T Fs h a aR a_ K Q λb1 w' h _=>c7 b1 w' h
end
end Go.Own
namespace Go.Own
open Go
set_option linter.unusedSectionVars false
variable [cH]
def om (g g':aL):Prop:=∀ t x,g t=some x->g' t=some x
section
variable {P:Program}{g g':aL}
theorem eO (h:om g g') {x:Operand}{y:ab}(al:bn g x=some y):bn g' x=some y:=by
 cases x <;> simp only [bn] at al ⊢
 case tmp t =>
  cases j:g t with
  | none=>rw [j] at al; cases al
  | some z=>rw [j] at al; rw [h t z j]; exact al
 case const v=>exact al
 case global n=>exact al
 case func f=>exact al
theorem zD (h:om g g'):∀ {xs:List Operand}{ys:List ab},fK g xs=some ys->fK g' xs=some ys
 | [],_,al=>al
 | x::xs,ys,al=>by
  simp only [fK] at al ⊢;cases j:bn g x with
  | none=>simp [j] at al
  | some y =>
   cases r2:fK g xs with
   | none=>simp [j,r2] at al
   | some Dn=>simp only [j,r2] at al; simp only [eO h j,zD h r2]; exact al
theorem Pa (h:om g g'):∀ {l:List (Nat × Operand)}{ps:List (Nat × List ab)},q5 g l=some ps->q5 g' l=some ps
 | [],_,al=>al
 | (i,x)::l,ps,al=>by
  simp only [q5] at al ⊢;cases j:bn g x with
  | none=>simp [j] at al
  | some y =>
   cases r2:q5 g l with
   | none=>simp [j,r2] at al
   | some Dn=>simp only [j,r2] at al; simp only [eO h j,Pa h r2]; exact al
theorem pS.mono (h:om g g') {d:Nat}{x:Option Operand}{J:Nat}(av:pS g d x J):pS g' d x J:=by
 cases x with
 | none=>exact av
 | some o=>obtain ⟨k,hk⟩:=av; exact ⟨k,eO h hk⟩
theorem cU.mono (h:om g g') {op:Op}{ty:TypeId}{x:ab}(au:cU P g op ty x):cU P g' op ty x:=by
 cases au with
 | move j=>exact .move (eO h j)
 | assign j=>exact .assign (eO h j)
 | pick aa ah=>exact .pick (eO h aa) (eO h ah)
 | E9 j=>exact .E9 (eO h j)
 | qm j=>exact .qm (eO h j)
 | A5 j aS da=>exact .A5 (eO h j) aS (da.mono h)
 | D6 j aS=>exact .D6 (eO h j) aS
 | D5 j aS ar al=>exact .D5 (eO h j) aS ar al
 | Ho j aS ar hk=>exact .Ho (eO h j) aS ar hk
 | EM j hi ar aj=>exact .EM (eO h j) (eO h hi) ar aj
 | EL j hi ar aj da=>exact .EL (eO h j) (eO h hi) ar aj (da.mono h)
 | Jl j hi ar aj da=>exact .Jl (eO h j) (eO h hi) ar aj (da.mono h)
 | Jk j hi ar aj da=>exact .Jk (eO h j) (eO h hi) ar aj (da.mono h)
 | Jj j hi ar aj=>exact .Jj (eO h j) (eO h hi) ar aj
 | E0 j ar=>exact .E0 (eO h j) ar
 | E1 j ar hk=>exact .E1 (eO h j) ar hk
 | Cf j ar al=>exact .Cf (eO h j) ar (kC h al)
 | xr j ar al aa hm=>exact .xr (eO h j) ar (kC h al) aa hm
 | EN j hi ar av=>exact .EN (eO h j) (eO h hi) ar av
 | bin j al hv ah=>exact .bin (eO h j) (eO h al) hv ah
 | AN j al hv ah=>exact .AN (eO h j) (eO h al) hv ah
 | un j hv ah=>exact .un (eO h j) hv ah
 | conv j hv ah=>exact .conv (eO h j) hv ah
 | DW j au aA gS ar=>exact .DW (eO h j) (kC h au) aA gS ar
 | DX j ar=>exact .DX (eO h j) ar
 | @Hl xs gl _ f vs v j hv ah =>
  refine .Hl (vs:=vs) ?_ hv ah;apply List.ext_getElem?;intro k;have:=congrArg (·[k]?) j;simp only [List.getElem?_map] at this ⊢;rw [<- this];cases hk:xs.toList[k]? with
  | none=>rfl
  | some o =>
   rw [hk] at this;cases hv:vs[k]? with
   | none=>rw [hv] at this; cases this
   | some v =>
    rw [hv] at this;simp only [Option.map_some,Option.some.injEq] at this ⊢;rw [this,eO h this]
 | D2 j al=>exact .D2 (eO h j) al
 | Ag j ai bH ar h1 af=>exact .Ag (eO h j) (ai.mono h) (bH.mono h) ar h1 af
 | KB j ai bH ar aA da=>exact .KB (eO h j) (ai.mono h) (bH.mono h) ar aA (da.mono h)
 | FI j ai bH ar h1 af da=>exact .FI (eO h j) (ai.mono h) (bH.mono h) ar h1 af (da.mono h)
 | Ah j ai bH ar h1 af=>exact .Ah (eO h j) (ai.mono h) (bH.mono h) ar h1 af
 | Cb j ar=>exact .Cb (eO h j) ar
 | Ca j ar=>exact .Ca (eO h j) ar
 | JE j ar=>exact .JE (eO h j) ar
 | JD j ar=>exact .JD (eO h j) ar
 | JH j au al c7 a1 ah=>exact .JH (eO h j) (kC h au) (eO h al) c7 a1 ah
 | Ce j al c7 a1 ah=>exact .Ce (eO h j) (eO h al) c7 a1 ah
 | @lits b xs gl _ vs v j hv ah =>
  refine .lits (vs:=vs) ?_ hv ah;clear ah;generalize xs.toList=l at j
  induction l generalizing vs with
  | nil=>exact j
  | cons x l aM =>
   cases vs with
   | nil=>simp at j
   | cons v vs =>
    simp only [List.map_cons,List.cons.injEq] at j ⊢;exact ⟨eO h j.1,aM j.2⟩
theorem pa.mono (h:om g g') {op:Op}{ty:TypeId}{x:ab}(au:pa P g op ty x):pa P g' op ty x:=by
 cases au with
 | box j aa=>exact .box (eO h j) aa
 | alloc aW h1=>exact .alloc aW h1
 | DL aW aa=>exact .DL aW aa
 | makeMap a7=>exact .makeMap a7
 | buildSlice ar au j aW aa av aA hzero=>exact .buildSlice ar au (zD h j) aW aa av aA hzero
 | makeSlice ar j al hzero h1 oS av aA oK ur EK=>exact .makeSlice ar (eO h j) (eO h al) hzero h1 oS av aA oK ur EK
theorem u0.mono (h:om g g') {op:Op}{ty:TypeId}{x:ab}(au:u0 P g op ty x):u0 P g' op ty x:=by
 cases au with
 | build ar aW h1 au aa=>exact .build ar aW h1 (Pa h au) aa
 | makeFunc aR av=>exact .makeFunc (zD h aR) (zD h av)
theorem Src.mono (h:om g g') {y:ab}{z m:Nat}{cells:List ab}(az:Src g y z m cells):Src g' y z m cells:=by
 cases az with
 | bk=>exact .bk
 | aT=>exact .aT
 | bf a7 hm=>exact .bf (kC h a7) hm
 | sub a7 hm=>exact .sub (kC h a7) hm
theorem b8.mono (h:om g g') {op:Op}{ty:TypeId}{x:ab}(au:b8 P g op ty x) (e':∀ z p n m new,x=.bC z p n m new->∀ t br cm bh cO,g' t≠some (.bC br p cm bh cO)):b8 P g' op ty x:=by
 cases au with
 | eK au=>exact .eK (au.mono h)
 | q4 au=>exact .q4 (au.mono h)
 | Cv au=>exact .Cv (au.mono h)
 | lJ au =>
  cases au with
  | grow az da _ j rV ar nn av=>exact .lJ (.grow (eO h az) (da.mono h) (e' _ _ _ _ _ rfl) (eO h j) (rV.mono h) ar nn av)
  | nil az j rV ar nn av=>exact .lJ (.nil (eO h az) (eO h j) (rV.mono h) ar nn av)
theorem View.mono (h:om g g') {x y:ab}(hv:View g x y):View g' x y:=by
 induction hv with
 | qm=>exact .qm
 | self h1 af aK bu cu dM=>exact .self h1 af aK bu cu dM
 | mp=>exact .mp
 | hq au=>exact .hq (kC h au)
 | agg ai _ aM=>exact .agg ai aM
 | own ai _ aM=>exact .own ai aM
 | obj ai _ aM=>exact .obj ai aM
 | ds ai _ aM=>exact .ds ai aM
 | bf au aA ai _ aM=>exact .bf (kC h au) aA ai aM
 | sub au aA ai _ aM=>exact .sub (kC h au) aA ai aM
 | ptr au al hk ai _ aM=>exact .ptr (kC h au) al hk ai aM
 | rows au ai _ aM=>exact .rows (au.mono (λau=>kC h au) h) ai aM
theorem cZ.mono (h:om g g') {op:Op}{x:ab}(au:cZ P g op x):cZ P g' op x:=by
 cases au with
 | plain aa j aS aA g_ ah=>exact .plain (eO h aa) (zD h j) aS aA g_ ah
 | EW aa j aS ai hv g_ ah=>exact .EW (eO h aa) (zD h j) aS ai (λk x y j al=>(hv k x y j al).mono h) g_ ah
def iq (g:aL) (ops:Array Oper) (o:Oper) (b:Bool):Prop :=
 match o.guard with
 | none=>b=true
 | some (J,want)=>∃ t,(ops[J]?).bind (·.dst)=some t/\((∃ c,g t=some (.lit (.bool c))/\b=(c == want))\/(g t=some (.bQ [])/\b=false))
theorem iq.mono (h:om g g') {ops:Array Oper}{o:Oper}{b:Bool}(hw:iq g ops o b):iq g' ops o b:=by
 unfold iq at *;split
 ·rename_i aN; rw [aN] at hw; exact hw
 ·rename_i J want aN;rw [aN] at hw;obtain ⟨t,h1,⟨c,af,aK⟩ | ⟨af,aK⟩⟩:=hw
  ·exact ⟨t,h1,.inl ⟨c,h t _ af,aK⟩⟩
  ·exact ⟨t,h1,.inr ⟨h t _ af,aK⟩⟩
theorem iq.sound {w:World}{I:a8}{T:Array Value}{Fs:Nat->a8}(bm:cG w I T g Fs) {ops:Array Oper}{o:Oper}{b:Bool}(hw:iq g ops o b):Region.wanted o (yielded ops T)=b:=by
 unfold iq at hw;unfold Region.wanted
 split at hw
 ·rename_i aN; rw [aN]; exact hw.symm
 ·rename_i J want aN;rw [aN];obtain ⟨t,h1,⟨c,af,aK⟩ | ⟨af,aK⟩⟩:=hw
  ·obtain ⟨v,hv,a1⟩:=bm.rel _ _ af;have:=(a1.hb (by simp)).h_.1;subst this;subst aK;simp only [yielded,h1,Option.bind_some,hv];cases c <;> cases want <;> rfl
  ·obtain ⟨v,hv,a1⟩:=bm.rel _ _ af;have:∃ vs,v=.tuple vs:=by
    cases a1.hb (by simp) with
    | bQ=>exact ⟨_,rfl⟩
    | ref j=>simp [ab.isRef] at j
   obtain ⟨vs,rfl⟩:=this;subst aK;simp only [yielded,h1,Option.bind_some,hv];cases want <;> rfl
def pW (P:Program) (g:aL) (ops:Array Oper) (o:Oper):Option ab->Prop
 | none=>iq g ops o false
 | some x=>(iq g ops o true/\(b8 P g o.op o.type x\/cZ P g o.op x))\/(iq g ops o false/\x=.bQ [])\/(iq g ops o true/\∃ y,(b8 P g o.op o.type y\/cZ P g o.op y)/\cF y/\View (λ_=>none) y x)
theorem pW.mono (h:om g g') {ops:Array Oper}{o:Oper}{r:Option ab}(az:pW P g ops o r) (e':∀ z p n m new,r=some (.bC z p n m new)->∀ t br cm bh cO,g' t≠some (.bC br p cm bh cO)):pW P g' ops o r:=by
 cases r with
 | none=>exact iq.mono h az
 | some x =>
  rcases az with az | ⟨az,j⟩ | ⟨az,y,au,aA,hv⟩
  ·refine .inl ⟨az.1.mono h,?_⟩;rcases az.2 with au | au
   ·exact .inl (au.mono h λz p n m new e=>e' z p n m new (by rw [e]))
   ·exact .inr (au.mono h)
  ·exact .inr (.inl ⟨az.mono h,j⟩)
  ·refine .inr (.inr ⟨az.mono h,y,?_,aA,hv⟩);rcases au with au | au
   ·exact .inl (au.mono h λz p n m new e=>by subst e; cases aA)
   ·exact .inr (au.mono h)
def leaf:ab->Bool
 | .own .. | .obj .. | .agg .. | .bQ .. | .bC .. | .mp .. | .eV ..=>false
 | _=>true
def del (g:aL) (d:Nat):aL:=λt=>if t=d then none else g t
theorem XE {x y:ab}(h:leaf x=true):∀ {q:List Nat},x.at q=some y->y=x
 | [],al=>by simpa [ab.at] using al.symm
 | k::q,al=>by
  have:x.kids=[]:=by cases x <;> first | rfl | simp [leaf] at h
  simp [ab.at,this] at al
theorem yP {d:Nat}{x:ab}(aP:g d=some x) (ai:leaf x=true) {p:Place}{y:ab}(au:bt g p=some y) (al:leaf y=false):bt (del g d) p=some y:=by
 have ah:p.root≠d:=by
  intro e;unfold bt at au;rw [e,aP] at au;rw [XE ai au,ai] at al;cases al
 simp only [bt,del,if_neg ah] at au ⊢;exact au
theorem gZ.del {d:Nat}{x:ab}(aP:g d=some x) (ai:leaf x=true) {r:ab}(h:gZ g r):gZ (del g d) r:=by
 have root:∀ {t:Nat}{y:ab},g t=some y->leaf y=false->Own.del g d t=some y:=by
  intro t y ar al;have:t≠d:=by
   rintro rfl;rw [aP] at ar;cases ar;rw [ai] at al; cases al
  simp only [Own.del,if_neg this,ar]
 cases r <;> simp only [gZ] at h ⊢
 case ptr p k =>
  obtain ⟨y,al,z,n,cs,er,hk⟩:=h;exact ⟨y,yP aP ai al (by rcases er with rfl | rfl <;> rfl),z,n,cs,er,hk⟩
 case bf z p n =>
  rcases h with ⟨N,cs,al,aA⟩ | ⟨h1,q,gU,m,new,af,aK⟩
  ·exact .inl ⟨N,cs,yP aP ai al rfl,aA⟩
  ·exact .inr ⟨h1,q,gU,m,new,root af rfl,aK⟩
 case sub z p lo n =>
  obtain ⟨N,cs,al,aA⟩:=h;exact ⟨N,cs,yP aP ai al rfl,aA⟩
 case hq p=>obtain ⟨q,h⟩:=h; exact ⟨q,yP aP ai h rfl⟩
 case bC z p n m new =>
  rcases h with ⟨cs,al⟩ | ⟨h1,q,gU,m,new,cs,af,aK,bu⟩
  ·exact .inl ⟨cs,yP aP ai al rfl⟩
  ·exact .inr ⟨h1,q,gU,m,new,cs,root af rfl,aK,yP aP ai bu rfl⟩
theorem R.XD {w:World}{I:a8}{ρ:ab->Value->Prop}{x:ab}{v:Value}{F:a8}(h:R w I ρ x v F) (ai:leaf x=true):∀ c,¬ F c:=by
 cases h with
 | own | obj | agg | bQ | mp | eV=>simp [leaf] at ai
 | lit _ aI | aT aI | dead aI | l6 aI | ref _ _ aI | hB aI | bk aI | cK aI | ds aI | imp aI=>exact aI
theorem cG.drop {w:World}{I:a8}{T:Array Value}{Fs:Nat->a8}(h:cG w I T g Fs) {d:Nat}{x:ab}(aP:g d=some x) (ai:leaf x=true):cG w I T (del g d) Fs:=by
 refine ⟨λt y al=>?_,λt ar c aa=>?_,h.eC,h.bk,h.lt,λt t' z p n m new br cm bh cO h1 af=>?_,h.hN⟩
 ·have oR:g t=some y:=by
   unfold del at al
   split at al
   ·cases al
   ·exact al
  obtain ⟨v,hv,a1⟩:=h.rel t y oR;exact ⟨v,hv,a1.frame (λ_ _=>rfl) (λ_ h=>h) (λ_ _ ah=>⟨ah.1,ah.2.del aP ai⟩) (λ_ _ _ _ _ _ _=>rfl) λ_ _=>rfl⟩
 ·unfold del at ar
  split at ar
  ·rename_i e;subst e;obtain ⟨v,hv,a1⟩:=h.rel t x aP;exact (a1.hb (by rintro z p n m new rfl; simp [leaf] at ai)).XD ai c aa
  ·exact h.kM t ar c aa
 ·have key:∀ {t:Nat}{y:ab},del g d t=some y->g t=some y:=by
   intro t y al;unfold del at al
   split at al
   ·cases al
   ·exact al
  exact h.q8 _ _ _ _ _ _ _ _ _ _ _ (key h1) (key af)
end
end Go.Own
namespace Go.Own
open Go
set_option linter.unusedSectionVars false
variable [cH]
def xV (g:aL) (d:Nat):Option ab->aL
 | some x=>cJ g d x
 | none=>g
section
variable {P:Program}{w:World}{I:a8}{T:Array Value}{g:aL}{Fs:Nat->a8}{N:cQ}{ops:Array Oper}
theorem k1.refl (w:World) (I U:a8):k1 w I U w I U:=⟨Fr.refl _ _,λ_ h=>h,λ_ h=>.inl h,λ_ h=>.inl h⟩
theorem k1.trans {w gL fw:World}{I AB Dv U yH Lt:a8}(h:k1 w I U gL AB yH) (h1:k1 gL AB yH fw Dv Lt):k1 w I U fw Dv Lt:=by
 have jH:∀ c,c<w.heap.size->yH c->U c:=λc aa hu=>by
  rcases h.own c hu with aJ | aJ
  ·exact aJ
  ·omega
 refine ⟨h.ep.trans h1.ep jH,λc aa=>h1.more c (h.more c aa),λc aa=>?_,λc aa=>?_⟩
 ·rcases h1.new c aa with aJ | aJ | aJ
  ·exact h.new c aJ
  ·rcases h.own c aJ with f' | f'
   ·exact .inr (.inl f')
   ·exact .inr (.inr f')
  ·exact .inr (.inr (Nat.le_trans h.ep.size aJ))
 ·rcases h1.own c aa with aJ | aJ
  ·exact h.own c aJ
  ·exact .inr (Nat.le_trans h.ep.size aJ)
theorem h4.trans {N:cQ}{a aB a2:Act}{gL fw:World}{AB:a8}{fO:Nat->a8}{g2:aL}(h1:aB.defers=a.defers) (af:hE N a.tmps aB.tmps) (bR:k1 w I (λc=>∃ t,Fs t c) gL AB (λc=>∃ t,fO t c)) (h:h4 N aB gL AB fO g2 a2 fw):h4 N a w I Fs g2 a2 fw:=by
 obtain ⟨cw,cd,Dv,iT,bm,oM⟩:=h;exact ⟨cw.trans h1,af.trans cd,Dv,iT,bm,bR.trans oM⟩
theorem cG.Yy (h:cG w I T g Fs) {d:Nat}(aP:g d=none) (v:Value):cG w I (T.setIfInBounds d v) g Fs:=by
 have dt:∀ t,g t≠none->(T.setIfInBounds d v)[t]?=T[t]?:=by
  intro t ar;rw [Array.getElem?_setIfInBounds_ne];rintro rfl; exact ar aP
 refine ⟨λt x j=>?_,h.kM,h.eC,h.bk,h.lt,h.q8,h.hN⟩;obtain ⟨u,hu,a1⟩:=h.rel t x j;exact ⟨u,by rw [dt t (by rw [j]; simp)]; exact hu,h.wP dt (λ_ _ _=>rfl) (λ_ _=>rfl) (λ_ h=>h) (λ_ _ h=>h) a1 λ_ _=>rfl⟩
structure Gm (dG:Nat->Bool) (g g2:aL):Prop where
 jH:∀ t x,g2 t=some x->dG t=false->g t=some x/\eo g2 x
 oT:∀ t x,g2 t=some x->dG t=true->∃ y,g t=some y/\cF y/\gY y x
 fr:∀ t z q n m new,g2 t≠some (.bC z q n m new)
theorem cG.va (h:cG w I T g Fs) {dG:Nat->Bool}{g2:aL}(aW:Gm dG g g2):∃ I' b3,cG w I' T g2 b3/\k1 w I (λc=>∃ t,Fs t c) w I' (λc=>∃ t,b3 t c):=by
 have qO:=h.mD;have Co:∀ t x,g2 t=some x->∀ z p n m new,x≠.bC z p n m new:=by
  rintro t x j z p n m new rfl;exact aW.fr _ _ _ _ _ _ j
 -- of each slot what it owns from now on
 have:∀ t,∃ cY:a8,(∀ c,cY c->Fs t c/\g2 t≠none)/\∀ x,g2 t=some x->(dG t=false->∀ c,Fs t c->cY c)/\∃ v,T[t]?=some v/\R w (λc=>I c\/(Fs t c/\¬ cY c)) (dU w T g2) x v cY:=by
  intro t;cases j:g2 t with
  | none=>exact ⟨ct,λ_ h=>h.elim,λx h=>by cases h⟩
  | some x =>
   cases ar:dG t with
   | false =>
    obtain ⟨h1,af⟩:=aW.jH t x j ar;obtain ⟨v,hv,a1⟩:=qO.rel t x h1;refine ⟨Fs t,λc aa=>⟨aa,by simp⟩,λy al=>?_⟩;cases al;exact ⟨λ_ _ h=>h,v,hv,((a1.hb (Co t x j)).b6 af).nI λc aa=>.inl aa⟩
   | true =>
    obtain ⟨y,h1,af,aK⟩:=aW.oT t x j ar;obtain ⟨v,hv,a1⟩:=qO.rel t y h1;have jm:=a1.hb (by rintro z p n m new rfl; cases af);obtain ⟨cY,az,UO⟩:=R.dG aK jm af (λc aa=>qO.bk t c aa) qO.lt qO.hN;refine ⟨cY,λc aa=>⟨az c aa,by simp⟩,λz aW=>?_⟩;cases aW;exact ⟨λh=>absurd h (by simp),v,hv,UO.bj (aK.bj af)⟩
 obtain ⟨b3,jl⟩:=Classical.axiomOfChoice this;refine ⟨λc=>I c\/∃ t,Fs t c/\g2 t≠none/\¬ b3 t c,b3,⟨λt x j=>?_,λt ar c aa=>((jl t).1 c aa).2 ar,λt t' c aa e_=>h.eC t t' c ((jl t).1 c aa).1 ((jl t').1 c e_).1,λt c aa hi=>?_,λc aa=>?_,λt t' z p n m new br cm bh cO h1 _=>absurd h1 (aW.fr _ _ _ _ _ _),cH.keep h.hN (λ_ _=>rfl) λ_ h=>.inl h⟩,Fr.refl _ _,λ_ h=>.inl h,λc aa=>?_,λc ⟨t,aa⟩=>.inl ⟨t,((jl t).1 c aa).1⟩⟩
 ·obtain ⟨_,v,hv,a1⟩:=(jl t).2 x j;exact ⟨v,hv,.tree (a1.nI λc aa=>aa.elim .inl λaa=>.inr ⟨t,aa.1,by rw [j]; simp,aa.2⟩)⟩
 ·rcases hi with aJ | ⟨s,h1,_,af⟩
  ·exact h.bk t c ((jl t).1 c aa).1 aJ
  ·have:=h.eC t s c ((jl t).1 c aa).1 h1;subst this;exact af aa
 ·rcases aa with aJ | ⟨s,aJ,_⟩
  ·exact h.lt c aJ
  ·exact h.jU s c aJ
 ·rcases aa with aJ | ⟨s,aJ,_⟩
  ·exact .inl aJ
  ·exact .inr (.inl ⟨s,aJ⟩)
theorem pW.sound (h:cG w I T g Fs) {a:Act}(aR:a.tmps=T) (a_:a.tmps.size=N.size) {o:Oper}{r:Option ab}{d:Nat}(az:pW P g ops o r) (aP:o.dst=some d) (aN:g d=none) (jE:N.ok d=true) {K:Act->World->Prop}{Q:Exit->Act->World->Prop}
  (c7:∀ b1 w',h4 N a w I Fs (xV g d r) b1 w'->K b1 w') :
  if Region.wanted o (yielded ops a.tmps) then o.wp P a w K Q\/(o.asks P a w/\LetsOut Q) else K (a.put o.dst undef) w:=by
 subst aR;cases r with
 | none =>
  rw [iq.sound h az];simp only [Bool.false_eq_true,if_false];refine c7 _ _ ⟨by rw [aP]; rfl,by rw [aP]; exact hE.put jE _ _,I,Fs,by rw [aP]; exact h.Yy aN _,k1.refl _ _ _⟩
 | some x =>
  have fin:∀ x v w',uY w I a.tmps g Fs x v w'->(∀ b1 w',h4 N a w I Fs (cJ g d x) b1 w'->K b1 w')->K (a.put o.dst v) w':=by
   rintro x v w' ⟨F,I',bm,a1,h1,af,aK,bu,cu,dM⟩ c7;refine c7 _ _ ⟨by rw [aP]; rfl,by rw [aP]; exact hE.put jE _ _,I',_,by rw [aP]; exact bm.uI aN (by rw [a_]; exact cQ.lt jE) a1 (λt c aa aS=>h1 t c aa aS) (λc aa=>(af c aa).2) dM,⟨cu,aK,λc aa=>?_,λc aa=>?_⟩⟩
   ·rcases bu c aa with aJ | aJ
    ·exact .inl aJ
    ·exact .inr (.inr aJ)
   ·rcases wb aa with aJ | aJ
    ·exact .inl aJ
    ·exact .inr (af c aJ).1
  have oT:∀ y v w',cF y->View (λ_=>none) y x->uY w I a.tmps g Fs y v w'->uY w I a.tmps g Fs x v w':=by
   rintro y v w' aA hv ⟨F,I',bm,a1,h1,af,aK,bu,cu,dM⟩;have dE:=a1.hb (by rintro z p n m new rfl; cases aA);refine ⟨ct,λc=>I' c\/F c,⟨λt z aW=>?_,bm.kM,bm.eC,λt c aa hi=>?_,λc aa=>?_,bm.q8,cH.keep bm.hN (λ_ _=>rfl) λ_ h=>.inl h⟩,.tree (dE.oT aA hv (λc aa=>(af c aa).2) bm.lt bm.hN),λ_ _ h=>h.elim,λ_ h=>h.elim,λc aa=>.inl (aK c aa),λc aa=>?_,cu,?_⟩
   ·obtain ⟨u,hu,mQ⟩:=bm.rel t z aW;exact ⟨u,hu,mQ.nI λc aa=>.inl aa⟩
   ·rcases hi with h | h
    ·exact bm.bk t c aa h
    ·exact h1 t c h aa
   ·rcases aa with h | h
    ·exact bm.lt c h
    ·exact dE.lt c h
   ·rcases aa with h | h
    ·exact bu c h
    ·exact .inr (af c h).1
   ·rintro z p n m new rfl;cases hv with
    | self h=>cases h
  rcases az with az | ⟨az,rfl⟩ | ⟨az,y,au,aA,hv⟩
  rotate_left
  rotate_left
  ·rw [iq.sound h az];simp only [if_true];refine .inl ?_;have MK:∀ v w',uY w I a.tmps g Fs y v w'->K (a.put o.dst v) w':=λv w' c'=>fin x v w' (oT y v w' aA hv c') c7;rcases au with au | au
   ·obtain ⟨v,w',h9,c'⟩:=au.sound h rfl;unfold Oper.wp Oper.upon;simp only [h9];exact MK v w' c'
   ·exact au.sound h rfl MK
  rotate_left
  ·rw [iq.sound h az];simp only [Bool.false_eq_true,if_false];refine c7 _ _ ⟨by rw [aP]; rfl,by rw [aP]; exact hE.put jE _ _,I,_,by rw [aP]; exact h.uI aN (by rw [a_]; exact cQ.lt jE) (.tree (.bQ (Fs:=λ_=>ct) (F:=ct) rfl (λk x u j _=>by simp at j) (λ_ _ _ _ _ h=>h.elim) (λc=>⟨λh=>h.elim,λ⟨_,_,h⟩=>h⟩))) (λ_ _ h=>h.elim) (λ_ h=>h.elim) (λ_ _ _ _ _ e=>by cases e),⟨Fr.refl _ _,λ_ h=>h,λ_ h=>.inl h,λc aa=>?_⟩⟩;rcases wb aa with aJ | aJ
   ·exact .inl aJ
   ·exact aJ.elim
  rw [iq.sound h az.1];simp only [if_true];refine .inl ?_;have fin:∀ v w',uY w I a.tmps g Fs x v w'->K (a.put o.dst v) w':=by
   rintro v w' ⟨F,I',bm,a1,h1,af,aK,bu,cu,dM⟩;refine c7 _ _ ⟨by rw [aP]; rfl,by rw [aP]; exact hE.put jE _ _,I',_,by rw [aP]; exact bm.uI aN (by rw [a_]; exact cQ.lt jE) a1 (λt c aa aS=>h1 t c aa aS) (λc aa=>(af c aa).2) dM,⟨cu,aK,λc aa=>?_,λc aa=>?_⟩⟩
   ·rcases bu c aa with aJ | aJ
    ·exact .inl aJ
    ·exact .inr (.inr aJ)
   ·rcases wb aa with aJ | aJ
    ·exact .inl aJ
    ·exact .inr (af c aJ).1
  rcases az.2 with au | au
  ·obtain ⟨v,w',h9,c'⟩:=au.sound h rfl;unfold Oper.wp Oper.upon;simp only [h9];exact fin v w' c'
  ·exact au.sound h rfl fin
inductive oq (P:Program) (N:cQ) (ops:Array Oper):List Nat->aL->aL->Prop
 | nil {g:aL}:oq P N ops [] g g
 | step {i:Nat}{rest:List Nat}{g g':aL}{o:Oper}{d:Nat}{r:Option ab}(aV:ops[i]?=some o) (aP:o.dst=some d) (aN:g d=none) (jE:N.ok d=true) (az:pW P g ops o r)
   (ah:oq P N ops rest (xV g d r) g'):oq P N ops (i::rest) g g'
 | ka {i:Nat}{rest:List Nat}{g g1 g':aL}{o:Oper}(aV:ops[i]?=some o) (hw:iq g ops o true) (he:bq P N g o g1) (ah:oq P N ops rest g1 g'):oq P N ops (i::rest) g g'
 | drop {is:List Nat}{g g':aL}{d:Nat}{x:ab}(aP:g d=some x) (ai:leaf x=true) (ah:oq P N ops is (del g d) g'):oq P N ops is g g'
 | forget {is:List Nat}{g g1 g':aL}(hk:hy g g1) (ah:oq P N ops is g1 g'):oq P N ops is g g'
 | va {is:List Nat}{g g1 g':aL}{dG:Nat->Bool}(hk:Gm dG g g1) (ah:oq P N ops is g1 g'):oq P N ops is g g'
theorem oq.sound {is:List Nat}{g':aL}(ah:oq P N ops is g g'):∀ {a:Act}{w:World}{I:a8}{Fs:Nat->a8}{Q:Exit->Act->World->Prop},cG w I a.tmps g Fs->a.tmps.size=N.size ->
  (∀ b1 w',h4 N a w I Fs g' b1 w'->Q .normal b1 w')->wpOps P ops Q is a w:=by
 induction ah with
 | nil=>exact λbm a_ dH=>dH _ _ ⟨rfl,hE.refl,_,_,bm,k1.refl _ _ _⟩
 | @step i rest g g' o d r aV aP aN jE az _ aM =>
  intro a w I Fs Q bm a_ dH;simp only [wpOps,aV];refine az.sound bm rfl a_ aP aN jE λb1 w' aA=>?_;obtain ⟨cw,cd,I',b3,d_,bR⟩:=aA;exact aM d_ (cd.1.trans a_) λa2 fw af=>dH _ _ (h4.trans cw cd bR af)
 | @ka i rest g g1 g' o aV hw he _ aM =>
  intro a w I Fs Q bm a_ dH;simp only [wpOps,aV,hw.sound bm,if_true];refine .inl (he.sound bm rfl a_ λb1 w' aA=>?_);obtain ⟨cw,cd,I',b3,d_,bR⟩:=aA;exact aM d_ (cd.1.trans a_) λa2 fw af=>dH _ _ (h4.trans cw cd bR af)
 | @drop is g g' d x aP ai _ aM=>exact λbm a_ dH=>aM (bm.drop aP ai) a_ dH
 | @va is g g1 g' dG hk _ aM =>
  intro a w I Fs Q bm a_ dH;obtain ⟨I',b3,d_,bR⟩:=bm.va hk;exact aM d_ a_ λa2 fw af=>dH _ _ (h4.trans rfl hE.refl bR af)
 | @forget is g g1 g' hk _ aM =>
  intro a w I Fs Q bm a_ dH;have d_:=bm.mD.keep hk;refine aM d_ a_ λa2 fw af=>dH _ _ (h4.trans rfl hE.refl ⟨Fr.refl _ _,λ_ h=>h,λ_ h=>.inl h,λc aa=>?_⟩ af);obtain ⟨t,_,aa⟩:=aa;exact .inl ⟨t,aa⟩
end
end Go.Own
namespace Go.Own
open Go
set_option linter.unusedSectionVars false
variable [cH]
def r' (rs:List Nat):Place->Prop:=λp=>p.root∈rs
def o9 (P:Program) (N:cQ) (rs:Place->Prop) (g:aL) (o:Oper) (g':aL):Prop :=
 ∀ (w:World) (I:a8) (T:Array Value) (Fs:Nat->a8),cG w I T g Fs->∀ (a:Act),a.tmps=T->a.tmps.size=N.size->∀ (K:Act->World->Prop) (Q:Exit->Act->World->Prop),
  (∀ (b1:Act) (w':World),h4 N a w I Fs g' b1 w'->(∀ t,o.dst≠some t->b1.tmps[t]?=a.tmps[t]?)->(∀ r path,rs ⟨r,path⟩->∀ y,bt g ⟨r,path⟩=some y->(∀ z q n m new,y≠.bC z q n m new)->dW w' b1.tmps ⟨r,path⟩=dW w T ⟨r,path⟩)->K b1 w')->o.wp P a w K Q
theorem il.v {P:Program}{N:cQ}{g g':aL}{o:Oper}(h:il P N g o g'):o9 P N (r' []) g o g' :=
 λw I T Fs bm a aR a_ K Q c7=>h w I T Fs bm a aR a_ K Q λb1 w' h1 af=>c7 b1 w' h1 af λ_ _ h=>by simp [r'] at h
inductive lP:ab->Prop
 | lit {v:Value}:lP (.lit v)
 | aT:lP .aT
 | bk {z n:Nat}{cs:List ab}(h:∀ x∈cs,cF x):lP (.bk z n cs)
 | agg {cs:List ab}(h:∀ x∈cs,lP x):lP (.agg cs)
theorem lP.bj {x:ab}(h:lP x):cF x:=by
 induction h with
 | lit=>exact .lit
 | aT=>exact .aT
 | bk h=>exact .bk h
 | agg _ aM=>exact .agg aM
theorem lP.kM {w:World}{I:a8}{ρ:ab->Value->Prop}{x:ab}(h:lP x):∀ {v:Value}{F:a8},R w I ρ x v F->∀ c,¬ F c:=by
 induction h with
 | lit =>
  intro v F a1;cases a1 with
  | lit _ aI=>exact aI
  | ref j=>simp [ab.isRef] at j
 | aT =>
  intro v F a1;cases a1 with
  | aT aI=>exact aI
  | ref j=>simp [ab.isRef] at j
 | bk =>
  intro v F a1;cases a1 with
  | ref j=>simp [ab.isRef] at j
  | hB aI=>exact aI
  | bk aI=>exact aI
 | @agg cs _ aM =>
  intro v F a1 c aa;cases a1 with
  | ref j=>simp [ab.isRef] at j
  | @agg _ vs bV _ ai h1 ah aP lS =>
   obtain ⟨k,hk,af⟩:=(lS c).1 aa;have hu:vs[k]?=some (vs[k]'(by omega)):=Array.getElem?_eq_getElem (by omega);exact aM _ (List.getElem_mem hk) (ah k _ _ (List.getElem?_eq_getElem hk) hu) c af
structure Gh (g:aL):Prop where
 b6:∀ t x,g t=some x->eo g x
 fr:∀ t z q n m new,g t≠some (.bC z q n m new)
def AJ (rs:Place->Prop) (g g1:aL) (o:Oper) (x:ab):Prop:=(∃ r path z n N cs,x=.bf z ⟨r,path⟩ n/\rs ⟨r,path⟩/\bt g ⟨r,path⟩=some (.own z N cs)/\bt g1 ⟨r,path⟩=some (.own z N cs)/\n<=N)\/(∃ v,x=.lit v)\/(∃ s p k,x=.ptr p k/\g s=some x/\g1 s=some x/\o.dst≠some s)\/(∃ r k cs,x=.ptr ⟨r,[]⟩ k/\g1 r=some (.obj cs)/\k<cs.length/\o.dst≠some r/\∃ cs',g r=some (.obj cs')/\k<cs'.length)\/(∃ z n cs,x=.bk z n cs/\cF x)\/(∃ cs,x=.agg cs/\lP x/\Gh g)
section
variable {P:Program}{N:cQ}{g g1:aL}{o:Oper}
theorem PZ {T:Array Value}{t:Nat}{v:Value}(h:T[t]?=some v):T.setIfInBounds t v=T:=by
 apply Array.ext (by simp);intro i h1 af;rw [Array.getElem_setIfInBounds];split
 ·rename_i e;subst e;have:=(Array.getElem?_eq_some_iff.1 h);exact this.2.symm
 ·rfl
theorem cG.Tx {w:World}{I:a8}{T:Array Value}{Fs:Nat->a8}{t:Nat}{x:ab}(h:cG w I T (cJ g t x) Fs) (aN:g t=none) (aa:Gh g) (k5:∀ c,¬ Fs t c):cG w I T g Fs:=by
 have gA:∀ s y,g s=some y->cJ g t x s=some y:=λs y az=>by
  unfold cJ;rw [if_neg (λe=>by rw [e,aN] at az; cases az)]; exact az
 have af:=h.mD.keep (g2:=g) ⟨gA,aa.b6,aa.fr⟩;have e:(λs c=>g s≠none/\Fs s c)=Fs:=by
  funext s c;apply propext;refine ⟨λh=>h.2,λaS=>⟨λaA=>?_,aS⟩⟩;by_cases az:s=t
  ·subst az; exact k5 c aS
  ·exact h.kM s (by unfold cJ; rw [if_neg az]; exact aA) c aS
 rw [e] at af;exact af
theorem o9.extra {rs:Place->Prop}(h:o9 P N rs g o g1) {t:Nat}{x:ab}(lW:∀ p,rs p->g p.root≠none) (aN:g t=none) (VM:g1 t=none) (ar:o.dst≠some t) (j:AJ rs g g1 o x):o9 P N rs (cJ g t x) o (cJ g1 t x):=by
 intro w I T Fs bm a aR a_ K Q c7;have IW:cJ g t x t=some x:=by simp [cJ]
 have mv:∀ z q n m new,x≠.bC z q n m new:=by
  rcases j with ⟨r,path,z,n,N,cs,rfl,_⟩ | ⟨v,rfl⟩ | ⟨s,p,k,rfl,_⟩ | ⟨r,k,cs,rfl,_⟩ | ⟨z,n,cs,rfl,_⟩ | ⟨cs,rfl,_⟩ <;> simp
 have sy:cG w I T g Fs:=by
  have AO:leaf x=true->cG w I T g Fs:=λvk=>by
   have:=bm.drop IW vk;have e:del (cJ g t x) t=g:=by
    funext s;unfold del cJ;by_cases az:s=t
    ·subst az; simp [aN]
    ·simp [az]
   rwa [e] at this
  rcases j with ⟨r,path,z,n,N,cs,rfl,_⟩ | ⟨v,rfl⟩ | ⟨s,p,k,rfl,_⟩ | ⟨r,k,cs,rfl,_⟩ | ⟨z,n,cs,rfl,_⟩ | ⟨cs,rfl,zl,hJ⟩
  ·exact AO rfl
  ·exact AO rfl
  ·exact AO rfl
  ·exact AO rfl
  ·exact AO rfl
  ·obtain ⟨v,_,pr⟩:=bm.rel t _ IW;exact bm.Tx aN hJ (zl.kM (pr.hb (by simp)))
 obtain ⟨v,hv,pr⟩:=bm.rel t x IW;refine h w I T Fs sy a aR a_ K Q λb1 w' aA sI NZ=>c7 b1 w' ?_ sI λr path ah y al mv=>?_
 rotate_left
 ·by_cases NO:r=t
  ·subst NO;exact absurd aN (lW _ ah)
  ·exact NZ r path ah y (by simpa [bt,cJ,NO] using al) mv
 obtain ⟨cw,cd,I',b3,d_,bR⟩:=aA;have i_:b1.tmps[t]?=some v:=by rw [sI t ar,aR]; exact hv
 have jm:jy w' I' (dU w' b1.tmps g1) x v ct:=by
  rcases j with ⟨r,path,z,n,uZ,cs,rfl,ah,zn,iA,V9⟩ | ⟨u,rfl⟩ | ⟨s,p,k,rfl,az,IN,Ws⟩ | ⟨r,k,cs,rfl,iA,hk,rU,_⟩ | ⟨z,n,cs,rfl,mS⟩ | ⟨cs,rfl,zl,hJ⟩
  ·obtain ⟨⟨aB,iU,cap,hg,rfl,kD⟩,_⟩:=(pr.hb (by simp)).mX;exact .tree (.ref rfl ⟨⟨aB,iU,cap,by rw [NZ r path ah _ zn (by simp)]; exact hg,rfl,kD⟩,.inl ⟨uZ,cs,iA,V9⟩⟩ λ_ h=>h)
  ·obtain ⟨rfl,aa⟩:=(pr.hb (by simp)).h_;exact .tree (.lit aa λ_ h=>h)
  ·obtain ⟨⟨De,ad,aB,a2,rfl⟩,_⟩:=(pr.hb (by simp)).nB;have bR:s≠t:=by rintro rfl; rw [aN] at az; cases az
   obtain ⟨u,hu,mQ⟩:=sy.rel s _ az;obtain ⟨⟨Qr,aao,hg,h6,rfl⟩,_⟩:=(mQ.hb (by simp)).nB;rw [aB] at hg;cases hg;rw [a2] at h6;cases h6;obtain ⟨wa,hT,HQ⟩:=d_.rel s _ IN;have:b1.tmps[s]?=T[s]?:=by rw [sI s Ws,aR]
   rw [this,hu] at hT;cases hT;exact .tree (.ref rfl (HQ.hb (by simp)).nB λ_ h=>h)
  ·obtain ⟨⟨De,ad,aB,a2,rfl⟩,_⟩:=(pr.hb (by simp)).nB;have dt:b1.tmps[r]?=T[r]?:=by rw [sI r rU,aR]
   have sJ:∀ (w:World) (T:Array Value),dW w T ⟨r,[]⟩=T[r]?:=λw T=>by
    unfold dW; simp only; cases T[r]? <;> rfl
   exact .tree (.ref rfl ⟨⟨De,ad,by rw [sJ,dt,<- sJ w T]; exact aB,a2,rfl⟩,⟨.obj cs,by simp [bt,iA,ab.at],0,0,cs,.inr rfl,hk⟩⟩ λ_ h=>h)
  ·have re:∀ c,I c->w'.heap[c]?=w.heap[c]?:=λc aa=>bR.ep.block c (bm.lt c aa) λ⟨t',aJ⟩=>sy.bk t' c aJ aa;have HN:=(pr.hb (by simp)).bj mS (ρ':=dU w' b1.tmps g1);have k5:∀ c,¬ Fs t c:=by
    cases pr.hb (by simp) with
    | ref j=>simp [ab.isRef] at j
    | hB aI=>exact aI
    | bk aI=>exact aI
   exact .tree ((HN.frame re bR.more (λ_ _ h=>h) λc aa=>absurd aa (k5 c)).empty k5)
  ·have re:∀ c,I c->w'.heap[c]?=w.heap[c]?:=λc aa=>bR.ep.block c (bm.lt c aa) λ⟨t',aJ⟩=>sy.bk t' c aJ aa;have k5:=zl.kM (pr.hb (by simp));have HN:=(pr.hb (by simp)).bj zl.bj (ρ':=dU w' b1.tmps g1);exact .tree ((HN.frame re bR.more (λ_ _ h=>h) λc aa=>absurd aa (k5 c)).empty k5)
 have nw:=d_.uI (d:=t) (x:=x) (v:=v) (F:=ct) VM (Array.getElem?_eq_some_iff.1 i_).1 jm (λ_ _ h=>h.elim) (λ_ h=>h.elim) (λz p n m new e=>absurd e (mv _ _ _ _ _));rw [PZ i_] at nw;refine ⟨cw,cd,I',_,nw,⟨bR.ep,bR.more,bR.new,λc aa=>?_⟩⟩;rcases wb aa with aJ | aJ
 ·exact bR.own c aJ
 ·exact aJ.elim
theorem il.frame {g0 Hr:aL}{r:Nat}{x:ab}(h:il P N g0 o Hr) (ah:g r=some x) (j:cF x) (hk:hy g g0) (aO:g0 r=none) (h1:Hr r=none) (aP:o.dst≠some r):o9 P N (r' [r]) g o (cJ Hr r x):=by
 intro w I T Fs bm a aR a_ K Q c7;have sy:=bm.mD.keep hk;refine h w I T _ sy a aR a_ K Q λb1 w' aA sI=>?_;obtain ⟨cw,cd,I',b3,d_,bR⟩:=aA;obtain ⟨u,hu,a1⟩:=bm.rel r x ah;have hT:b1.tmps[r]?=some u:=by rw [sI r aP,aR]; exact hu
 have mv:∀ z q n m new,x≠.bC z q n m new:=by rintro z q n m new rfl; cases j
 have off:∀ c,Fs r c->¬ ∃ t,(g0 t≠none/\Fs t c):=by
  rintro c aa ⟨t,kN,af⟩;have:=bm.eC t r c af aa;subst this;exact kN aO
 have same:∀ c,Fs r c->w'.heap[c]?=w.heap[c]?:=λc aa=>bR.ep.block c (bm.jU r c aa) (off c aa);have re:∀ c,I c->w'.heap[c]?=w.heap[c]?:=λc aa=>bR.ep.block c (bm.lt c aa) λ⟨t,_,aJ⟩=>bm.bk t c aJ aa;have nw:=d_.uI (d:=r) (x:=x) (v:=u) (F:=Fs r) h1 (Array.getElem?_eq_some_iff.1 hT).1 (.tree (((a1.hb mv).bj j).frame re bR.more (λ_ _ h=>h) same)) (λt c aa aS=>by
   rcases bR.own c ⟨t,aS⟩ with aJ | aJ
   ·exact off c aa aJ
   ·have:=bm.jU r c aa; omega) (λc aa hi=>by
   rcases bR.new c hi with aJ | aJ | aJ
   ·exact bm.bk r c aa aJ
   ·exact off c aa aJ
   ·have:=bm.jU r c aa; omega) (λz p n m new e=>absurd e (mv _ _ _ _ _))
 rw [PZ hT] at nw;refine c7 b1 w' ⟨cw,cd,I',_,nw,⟨bR.ep.mono λb _ ⟨t,_,aJ⟩=>⟨t,aJ⟩,bR.more,λc aa=>?_,λc aa=>?_⟩⟩ sI λcW path dP y al hyp=>?_
 ·rcases bR.new c aa with aJ | ⟨t,_,aJ⟩ | aJ
  ·exact .inl aJ
  ·exact .inr (.inl ⟨t,aJ⟩)
  ·exact .inr (.inr aJ)
 ·rcases wb aa with aJ | aJ
  ·rcases bR.own c aJ with ⟨t,_,f'⟩ | f'
   ·exact .inl ⟨t,f'⟩
   ·exact .inr f'
  ·exact .inl ⟨r,aJ⟩
 ·have dP:cW∈[r]:=dP;simp only [List.mem_singleton] at dP;subst dP;have gn:hy g (λt=>if t=cW then some x else none):=by
   refine ⟨λt y hp=>?_,λt y hp=>?_,λt z q n m new hp=>?_⟩
   all_goals
    by_cases e:t=cW
    case neg=>simp [e] at hp
   ·subst e; simp at hp; subst hp; exact ah
   ·subst e; simp at hp; subst hp; exact .bj j
   ·subst e; simp at hp; exact mv _ _ _ _ _ hp
  refine (bm.mD.keep gn).yc (T':=b1.tmps) (λt ar=>?_) (λt c aa=>?_) (p:=⟨cW,path⟩) (y:=y) ?_
  ·by_cases e:t=cW
   ·subst e; rw [sI t aP,aR]
   ·simp [e] at ar
  ·by_cases e:t=cW
   ·subst e; exact same c aa.2
   ·simp [e] at aa
  ·simp only [bt,if_true];simpa [bt,ah] using al
end
end Go.Own
namespace Go.Own
open Go
set_option linter.unusedSectionVars false
variable [cH]
abbrev Acc:=List (Nat × Nat × Option ab)
def c5 (g0:aL) (A:Nat->Bool):Acc->aL
 | [],t=>g0 t
 | (k,d,r)::acc,t=>if d=t then (if A k then r else none) else c5 g0 A acc t
def jW:Nat × Nat × Option ab->Option Place
 | (_,_,some (.bC _ p _ _ _))=>some p
 | _=>none
def pf (ops:Array Oper) (a':List (List Nat)):Bool :=
 (List.range ops.size).all λk =>
  match ops[k]? with
  | none=>true
  | some o=>(o.after.all λe=>!Region.binds .any e||decide (e.on<k))&&(a'.getD k []).all λm=>decide (m<k)&&o.after.any λe=>Region.binds .any e&&(e.on == m||(a'.getD e.on []).contains m)
inductive iG (P:Program) (N:cQ) (ops:Array Oper) (a':List (List Nat)) (g0:aL) (i:Nat) (dO:Acc):Nat->Acc->Prop
 | nil:iG P N ops a' g0 i dO i dO
 | step {J:Nat}{acc:Acc}{o:Oper}{d:Nat}{r:Option ab}(h:iG P N ops a' g0 i dO J acc) (aV:ops[J]?=some o) (aP:o.dst=some d) (aN:g0 d=none) (aA:∀ e∈acc,e.2.1≠d) (jE:N.ok d=true)
   (az:pW P (c5 g0 (λm=>(a'.getD J []).contains m) acc) ops o r):iG P N ops a' g0 i dO (J+1) ((J,d,r)::acc)
structure mI (P:Program) (N:cQ) (ops:Array Oper) (a':List (List Nat)) (g0:aL) (i:Nat) (dO:Acc):Prop where
 lt:∀ e∈dO,e.1<i
 free:∀ e∈dO,g0 e.2.1=none
 nd:(dO.map (·.2.1)).Nodup
 Qu:∀ e∈dO,∀ b_∈dO,(e.1=b_.1\/e.2.1=b_.2.1)->e=b_
 st:∀ e∈dO,∃ hl,ops[e.1]?=some hl/\hl.dst=some e.2.1/\N.ok e.2.1=true/\pW P (c5 g0 (λm=>(a'.getD e.1 []).contains m) dO) ops hl e.2.2
theorem mI.nil {P:Program}{N:cQ}{ops:Array Oper}{a':List (List Nat)}{g0:aL}{i:Nat}:mI P N ops a' g0 i []:=⟨by simp,by simp,by simp,by simp,by simp⟩
inductive sj (P:Program) (N:cQ) (ops:Array Oper) (a':List (List Nat)):Nat->Acc->aL->aL->Prop
 | fin {i:Nat}{dO:Acc}{g:aL}{acc:Acc}(az:iG P N ops a' g i dO ops.size acc) (gz:(acc.filterMap jW).Nodup) (fJ:∀ t z q n m new,g t≠some (.bC z q n m new)):sj P N ops a' i dO g (c5 g (λ_=>true) acc)
 | wB {i J:Nat}{g g1 g':aL}{dO acc U:Acc}{o:Oper}{rs:Place->Prop}(az:iG P N ops a' g i dO J acc) (gz:(acc.filterMap jW).Nodup) (fJ:∀ t z q n m new,g t≠some (.bC z q n m new)) (aV:ops[J]?=some o) (hw:iq (c5 g (λm=>(a'.getD J []).contains m) acc) ops o true)
   (he:o9 P N rs (c5 g (λm=>(a'.getD J []).contains m) acc) o g1) (lW:∀ p,rs p->g p.root≠none) (fF:U=acc.filter λe=>!(a'.getD J []).contains e.1) (j:∀ e∈U,∃ x,e.2.2=some x/\AJ rs (c5 g (λm=>(a'.getD J []).contains m) acc) g1 o x) (h1:∀ e∈U,g1 e.2.1=none/\o.dst≠some e.2.1)
   (af:∀ e∈U,∃ hl,ops[e.1]?=some hl/\hl.dst=some e.2.1/\N.ok e.2.1=true/\pW P (c5 g1 (λm=>(a'.getD e.1 []).contains m) U) ops hl e.2.2)
   (av:(List.range ops.size).all (λk=>decide (k<=J)||(a'.getD k []).contains J)=true) (ah:sj P N ops a' (J+1) U g1 g'):sj P N ops a' i dO g g'
theorem mE {g0:aL}{A:Nat->Bool}{acc:Acc}{t:Nat}(h:∀ e∈acc,e.2.1≠t):c5 g0 A acc t=g0 t:=by
 induction acc with
 | nil=>rfl
 | cons e acc aM =>
  grind [c5]
theorem uS {g0:aL}{A:Nat->Bool}{acc:Acc}{t:Nat}{x:ab}(h:c5 g0 A acc t=some x):(∃ e∈acc,e.2.1=t/\A e.1=true/\e.2.2=some x)\/((∀ e∈acc,e.2.1≠t)/\g0 t=some x):=by
 induction acc with
 | nil=>exact .inr ⟨by simp,h⟩
 | cons e acc aM =>
  grind [c5]
theorem KO {g:aL}{A:Nat->Bool}{acc:Acc}(hu:∀ e∈acc,∀ b_∈acc,e.2.1=b_.2.1->e=b_) {e:Nat × Nat × Option ab}(he:e∈acc):c5 g A acc e.2.1=if A e.1 then e.2.2 else none:=by
 induction acc with
 | nil=>cases he
 | cons a acc aM =>
  grind [c5]
section
variable {P:Program}{N:cQ}{ops:Array Oper}{a':List (List Nat)}{g0:aL}{i:Nat}
variable {dO:Acc}
theorem iG.le {J:Nat}{acc:Acc}(h:iG P N ops a' g0 i dO J acc) (fF:mI P N ops a' g0 i dO):i<=J/\∀ e∈acc,e.1<J:=by
 induction h with
 | nil=>exact ⟨Nat.le_refl _,fF.lt⟩
 | step _ _ _ _ _ _ _ aM =>
  grind
theorem iG.ge {J:Nat}{acc:Acc}(h:iG P N ops a' g0 i dO J acc) (fF:mI P N ops a' g0 i dO):∀ e∈acc,e∈dO\/i<=e.1:=by
 induction h with
 | nil=>exact λe he=>.inl he
 | step az _ _ _ _ _ _ aM =>
  intro e he;rcases List.mem_cons.1 he with rfl | he
  ·exact .inr (az.le fF).1
  grind
theorem iG.KE {J:Nat}{acc:Acc}(h:iG P N ops a' g0 i dO J acc):∀ e∈dO,e∈acc:=by
 induction h with
 | nil=>exact λe he=>he
 | step _ _ _ _ _ _ _ aM=>exact λe he=>by simp [aM e he]
theorem iG.fresh {J:Nat}{acc:Acc}(h:iG P N ops a' g0 i dO J acc) (fF:mI P N ops a' g0 i dO):∀ e∈acc,g0 e.2.1=none:=by
 induction h with
 | nil=>exact fF.free
 | step _ _ _ aN _ _ _ aM =>
  grind
theorem iG.nodup {J:Nat}{acc:Acc}(h:iG P N ops a' g0 i dO J acc) (fF:mI P N ops a' g0 i dO):(acc.map (·.2.1)).Nodup:=by
 induction h with
 | nil=>exact fF.nd
 | step _ _ _ _ aA _ _ aM =>
  grind
theorem iG.uniq {J:Nat}{acc:Acc}(h:iG P N ops a' g0 i dO J acc) (fF:mI P N ops a' g0 i dO):∀ {e b_:Nat × Nat × Option ab},e∈acc->b_∈acc->(e.1=b_.1\/e.2.1=b_.2.1)->e=b_:=by
 induction h with
 | nil=>exact λ{e b_} he h8 bH=>fF.Qu e he b_ h8 bH
 | @step J acc o d r az _ _ _ aA _ _ aM =>
  intro e b_ he h8 bH;rcases List.mem_cons.1 he with rfl | he <;> rcases List.mem_cons.1 h8 with rfl | h8
  ·rfl
  ·rcases bH with bH | bH
   ·have:=(az.le fF).2 b_ h8
    grind
   grind
  ·rcases bH with bH | bH
   ·have:=(az.le fF).2 e he
    grind
   grind
  grind
theorem iG.at_mem {J:Nat}{acc:Acc}(h:iG P N ops a' g0 i dO J acc) (fF:mI P N ops a' g0 i dO) {A:Nat->Bool}{e:Nat × Nat × Option ab}(he:e∈acc):c5 g0 A acc e.2.1=if A e.1 then e.2.2 else none :=
 KO (λ_ j _ al aJ=>h.uniq fF j al (.inr aJ)) he
theorem iG.get {J:Nat}{acc:Acc}(h:iG P N ops a' g0 i dO J acc) (fF:mI P N ops a' g0 i dO):∀ e∈acc,∃ o DJ,ops[e.1]?=some o/\o.dst=some e.2.1/\N.ok e.2.1=true/\pW P (c5 g0 (λm=>(a'.getD e.1 []).contains m) DJ) ops o e.2.2/\∀ e∈DJ,e∈acc:=by
 induction h with
 | nil =>
  intro e he;obtain ⟨hl,h1,af,aK,bu⟩:=fF.st e he
  grind
 | @step J acc o d r az aV aP aN aA jE bR aM =>
  intro e he;rcases List.mem_cons.1 he with rfl | he
  ·grind
  grind
theorem iG.has {J:Nat}{acc:Acc}(h:iG P N ops a' g0 i dO J acc):∀ k,i<=k->k<J->∃ e∈acc,e.1=k:=by
 induction h with
 | nil=>intro k h1 af; omega
 | @step J acc o d r az aV aP aN aA jE bR aM =>
  grind [List.mem_cons_self]
theorem Yk {acc:Acc}(gz:(acc.filterMap jW).Nodup) {e b_:Nat × Nat × Option ab}{p:Place}(he:e∈acc) (h8:b_∈acc) (h:jW e=some p) (aJ:jW b_=some p):e=b_:=by
 induction acc with
 | nil=>simp at he
 | cons a acc aM =>
  grind
def dA (listed:Array Bool) (k:Nat):Bool:=listed.getD k false
def ho (ops:Array Oper) (listed:Array Bool):Nat:=((List.range ops.size).filter λk=>!dA listed k).length
theorem wI {listed:Array Bool}{k:Nat}(hk:k<ops.size) (ai:dA listed k=false) (eR:listed.size=ops.size):ho ops (listed.setIfInBounds k true)+1<=ho ops listed:=by
 unfold ho;have key:∀ l:List Nat,l.Nodup->((l.filter λJ=>!dA (listed.setIfInBounds k true) J).length+if k∈l then 1 else 0)=(l.filter λJ=>!dA listed J).length:=by
  intro l
  induction l with
  | nil=>intro _; simp
  | cons J l aM =>
   intro fq;have V_:=List.nodup_cons.1 fq;have adi:=aM V_.2;by_cases fI:J=k
   ·simp_all [dA]
   ·have h1:dA (listed.setIfInBounds k true) J=dA listed J:=by simp [dA,Array.getElem?_setIfInBounds_ne (Ne.symm fI)]
    grind
 grind
end
end Go.Own
namespace Go.Own
open Go
set_option linter.unusedSectionVars false
variable [cH]
section
variable {P:Program}{N:cQ}{ops:Array Oper}{a':List (List Nat)}
def Down (a':List (List Nat)) (listed:Array Bool):Prop:=∀ k,dA listed k=true->∀ m∈a'.getD k [],dA listed m=true
theorem LD (h:pf ops a'=true) {k:Nat}{o:Oper}(aV:ops[k]?=some o) :
  (∀ e∈o.after,Region.binds .any e=true->e.on<k)/\∀ m∈a'.getD k [],m<k/\∃ e∈o.after,Region.binds .any e=true/\(e.on=m\/m∈a'.getD e.on []):=by
 grind [pf,Array.all_eq_true_iff_forall_mem]
theorem xY {listed:Array Bool}{k:Nat}(h:k∈Region.ready .any ops listed):dA listed k=false/\∃ o,ops[k]?=some o/\∀ e∈o.after,Region.binds .any e=true->dA listed e.on=true:=by
 grind [mem_ready,dA]
theorem Kj (dX:pf ops a'=true) {listed:Array Bool}(aP:Down a' listed) {k:Nat}(h:k∈Region.ready .any ops listed):∀ m∈a'.getD k [],dA listed m=true:=by
 obtain ⟨_,o,aV,af⟩:=xY h;intro m hm;obtain ⟨_,e,he,av,aK⟩:=(LD dX aV).2 m hm;rcases aK with rfl | aK
 ·grind
 ·exact aP e.on (af e he av) m aK
theorem Pn (dX:pf ops a'=true) {listed:Array Bool}(eR:listed.size=ops.size):∀ k,k<ops.size->dA listed k=false->Region.ready .any ops listed≠[]:=by
 intro k
 induction k using Nat.strongRecOn with
 | _ k aM =>
  intro hk ai;by_cases hex:∃ J,J<k/\dA listed J=false
  ·grind
  ·have nt:k∈Region.ready .any ops listed:=by
    refine mem_ready.2 ⟨?_,ops[k],Array.getElem?_eq_getElem hk,λe he av=>?_⟩
    ·grind [dA]
    ·have aQ:=(LD dX (Array.getElem?_eq_getElem hk)).1 e he av
     grind [dA]
   grind
theorem Df {g0:aL}{A B:Nat->Bool}{acc:Acc}{t:Nat}(h:∀ e∈acc,e.2.1=t->A e.1=B e.1):c5 g0 A acc t=c5 g0 B acc t:=by
 induction acc with
 | nil=>rfl
 | cons e acc aM =>
  grind [c5]
theorem Dz {listed:Array Bool}{k J:Nat}(hk:k<listed.size):dA (listed.setIfInBounds k true) J=if J=k then true else dA listed J:=by
 by_cases fI:J=k
 all_goals simp_all [dA,Ne.symm]
theorem Z4 {g0:aL}{i J:Nat}{acc U dO:Acc}(az:iG P N ops a' g0 i dO J acc) (cg:mI P N ops a' g0 i dO) {A S:Nat->Bool}(fF:U=acc.filter λe=>!A e.1) (Ul:∀ e∈acc,A e.1=true->S e.1=true):c5 g0 S acc=c5 (c5 g0 A acc) S U:=by
 subst fF;funext t;by_cases hex:∃ e∈acc,e.2.1=t
 ·obtain ⟨e,he,rfl⟩:=hex;rw [az.at_mem cg he];by_cases dX:A e.1=true
  ·rw [mE,az.at_mem cg he,if_pos dX,if_pos (Ul e he dX)];intro b_ h8 h;obtain ⟨h1,af⟩:=List.mem_filter.1 h8;have:=az.uniq cg h1 he (.inr h)
   grind
  ·rw [KO (λx j y al h=>az.uniq cg (List.mem_filter.1 j).1 (List.mem_filter.1 al).1 (.inr h)) (List.mem_filter.2 ⟨he,by simpa using dX⟩)]
 grind [mE]
theorem eo.mono {g g':aL}(aN:∀ t x,g t=some x->g' t=some x) {x:ab}(h:eo g x):eo g' x:=by
 induction h with
 | bj h=>exact .bj h
 | ref j h=>exact .ref j (h.mono aN)
 | own _ aM=>exact .own aM
 | obj _ aM=>exact .obj aM
 | agg _ aM=>exact .agg aM
 | bQ _ aM=>exact .bQ aM
 | ds _ _ gj fX=>exact .ds gj fX
 | bC au _ aM=>exact .bC (au.mono aN) aM
theorem Mu {mN g1:aL}{o:Oper}{S:Nat->Bool}{rs:Place->Prop}(h:o9 P N rs mN o g1) (lW:∀ p,rs p->mN p.root≠none):∀ (U:Acc),(∀ e∈U,∃ x,e.2.2=some x/\AJ rs mN g1 o x)->(∀ e∈U,mN e.2.1=none/\g1 e.2.1=none/\o.dst≠some e.2.1)->(U.map (·.2.1)).Nodup->o9 P N rs (c5 mN S U) o (c5 g1 S U)
 | [],_,_,_=>h
 | (k,d,r)::U,j,h1,fq=>by
  simp only [List.map_cons,List.nodup_cons] at fq;have aM:=Mu (S:=S) h lW U (λe he=>j e (by simp [he])) (λe he=>h1 e (by simp [he])) fq.2;obtain ⟨x,e,bR⟩:=j (k,d,r) (by simp);simp only at e;subst e;obtain ⟨aB,a2,a3⟩:=h1 (k,d,some x) (by simp);simp only at aB a2 a3;have oL:∀ e∈U,e.2.1≠d:=λe he aJ=>fq.1 (List.mem_map.2 ⟨e,he,aJ⟩);cases bm:S k with
  | true =>
   have e:∀ g:aL,c5 g S ((k,d,some x)::U)=cJ (c5 g S U) d x:=λg=>by
    funext t;simp only [c5,cJ,bm,if_true];by_cases aP:d=t
    ·rw [if_pos aP,if_pos aP.symm]
    ·rw [if_neg aP,if_neg (Ne.symm aP)]
   rw [e,e];have Ff:∀ r,mN r≠none->∀ e∈U,e.2.1≠r:=λr ah e he aJ=>by
    have:=(h1 e (by simp [he])).1;rw [aJ] at this;exact ah this
   have X9:∀ r,g1 r≠none->∀ e∈U,e.2.1≠r:=λr ah e he aJ=>by
    have:=(h1 e (by simp [he])).2.1;rw [aJ] at this;exact ah this
   refine aM.extra (λr ah=>by rw [mE (Ff r.root (lW r ah))]; exact lW r ah) (by rw [mE oL]; exact aB) (by rw [mE oL]; exact a2) a3 ?_;rcases bR with ⟨r,path,z,n,uZ,cs,rfl,hg,h6,kD,yQ⟩ | ⟨v,rfl⟩ | ⟨s,p,m,rfl,hg,h6,kD⟩ | ⟨s,m,cs,rfl,hg,h6,kD,cs',yQ,GD⟩ | ⟨z,n,cs,rfl,hg⟩ | ⟨cs,rfl,hg,h6⟩
   ·refine .inl ⟨r,path,z,n,uZ,cs,rfl,hg,?_,?_,yQ⟩
    ·have:mN r≠none:=lW _ hg;simpa [bt,mE (Ff r this)] using h6
    ·have:g1 r≠none:=λe=>by simp [bt,e] at kD
     simpa [bt,mE (X9 r this)] using kD
   ·exact .inr (.inl ⟨v,rfl⟩)
   ·refine .inr (.inr (.inl ⟨s,p,m,rfl,?_,?_,kD⟩))
    ·rw [mE]; exact hg;intro e he aJ;have:=(h1 e (by simp [he])).1;rw [aJ,hg] at this; cases this
    ·rw [mE]; exact h6;intro e he aJ;have:=(h1 e (by simp [he])).2.1;rw [aJ,h6] at this; cases this
   ·refine .inr (.inr (.inr (.inl ⟨s,m,cs,rfl,?_,h6,kD,cs',?_,GD⟩)))
    ·rw [mE]; exact hg;intro e he aJ;have:=(h1 e (by simp [he])).2.1;rw [aJ,hg] at this; cases this
    ·rw [mE (Ff s (by rw [yQ]; simp))]; exact yQ
   ·exact .inr (.inr (.inr (.inr (.inl ⟨z,n,cs,rfl,hg⟩))))
   ·refine .inr (.inr (.inr (.inr (.inr ⟨cs,rfl,hg,?_⟩))));have hle:∀ t y,mN t=some y->c5 mN S U t=some y:=λt y al=>by rw [mE (Ff t (by rw [al]; simp))]; exact al
    refine ⟨λt y al=>?_,λt z q n m new al=>?_⟩
    ·rcases uS al with ⟨b_,h8,_,_,Ij⟩ | ⟨_,al⟩
     ·obtain ⟨y',wO,BP⟩:=j b_ (by simp [h8]);rw [Ij] at wO; cases wO;rcases BP with ⟨r,path,z,n,uZ,cs,rfl,c1,c2,j_,c4⟩ | ⟨v,rfl⟩ | ⟨s,p,m,rfl,c1,_⟩ | ⟨s,m,cs,rfl,_,_,_,cs',c4,nj⟩ | ⟨z,n,cs,rfl,c1⟩ | ⟨cs,rfl,c1,_⟩
      ·exact .ref rfl (.inl ⟨uZ,cs,kC hle c2,c4⟩)
      ·exact .bj .lit
      ·exact eo.mono hle (h6.b6 s _ c1)
      ·exact .ref rfl ⟨.obj cs',by simp [bt,hle s _ c4,ab.at],0,0,cs',.inr rfl,nj⟩
      ·exact .bj c1
      ·exact .bj c1.bj
     ·exact eo.mono hle (h6.b6 t y al)
    ·rcases uS al with ⟨b_,h8,_,_,Ij⟩ | ⟨_,al⟩
     ·obtain ⟨y',wO,BP⟩:=j b_ (by simp [h8]);rw [Ij] at wO; cases wO;rcases BP with ⟨r,path,z,n,uZ,cs,h,_⟩ | ⟨v,h⟩ | ⟨s,p,m,h,_⟩ | ⟨s,m,cs,h,_⟩ | ⟨z,n,cs,h,_⟩ | ⟨cs,h,_⟩ <;> cases h
     ·exact h6.fr _ _ _ _ _ _ al
  | false =>
   have e:∀ g:aL,g d=none->c5 g S ((k,d,some x)::U)=c5 g S U:=λg aN=>by
    funext t;simp only [c5,bm];by_cases aP:d=t
    ·subst aP; rw [if_pos rfl,mE oL,aN]; rfl
    ·rw [if_neg aP]
   rw [e mN aB,e g1 a2];exact aM
theorem Pk (dX:pf ops a'=true) {g0:aL}{i J:Nat}{acc dO:Acc}(az:iG P N ops a' g0 i dO J acc) (cg:mI P N ops a' g0 i dO) (gz:(acc.filterMap jW).Nodup) (fJ:∀ t z q n m new,g0 t≠some (.bC z q n m new)) {listed:Array Bool}(eR:listed.size=ops.size) (aP:Down a' listed)
  {a:Act}{w:World}{I:a8}{Fs:Nat->a8}(bm:cG w I a.tmps (c5 g0 (dA listed) acc) Fs) (a_:a.tmps.size=N.size) {e:Nat × Nat × Option ab}(he:e∈acc) (hk:e.1∈Region.ready .any ops listed) {K:Act->World->Prop}{Q:Exit->Act->World->Prop}
  (c7:∀ b1 w' I' b3,b1.defers=a.defers->hE N a.tmps b1.tmps->cG w' I' b1.tmps (c5 g0 (dA (listed.setIfInBounds e.1 true)) acc) b3->k1 w I (λc=>∃ t,Fs t c) w' I' (λc=>∃ t,b3 t c)->K b1 w'):wpOp P ops Q e.1 K a w:=by
 obtain ⟨dV,lg,w9,_⟩:=xY hk;have zi:=(Array.getElem?_eq_some_iff.1 w9).1;have Bk:=Kj dX aP hk;obtain ⟨o,DJ,aV,Ev,jE,bR,gA⟩:=az.get cg e he;obtain ⟨k,d,r⟩:=e;simp only at *;have hle:om (c5 g0 (λm=>(a'.getD k []).contains m) DJ) (c5 g0 (dA listed) acc):=by
  intro t x j;rcases uS j with ⟨e,he,rfl,Ed,hex⟩ | ⟨oL,aN⟩
  ·rw [az.at_mem cg (gA e he),Bk e.1 (by simpa using Ed)];exact hex
  ·rw [mE λe he acK=>?_]
   ·exact aN
   ·have:=az.fresh cg e he
    grind
 have e':∀ z p n m new,r=some (.bC z p n m new)->∀ t br cm bh cO,c5 g0 (dA listed) acc t≠some (.bC br p cm bh cO):=by
  intro z p n m new ah t br cm bh cO ar;rcases uS ar with ⟨e,h8,_,Ed,hex⟩ | ⟨_,aN⟩
  ·obtain ⟨kL,Mk,cW⟩:=e;have:=Yk gz (p:=p) he h8 (by rw [ah]; rfl) (by simp only at hex; rw [hex]; rfl)
   grind
  grind
 have BP:=bR.mono hle e';have sA:c5 g0 (dA listed) acc d=none:=by
  have:=az.at_mem cg (A:=dA listed) he
  grind
 unfold wpOp;simp only [aV];refine BP.sound bm rfl a_ Ev sA jE λb1 w' aA=>?_;obtain ⟨cw,cd,I',b3,d_,oM⟩:=aA;have ix:∀ J,dA (listed.setIfInBounds k true) J=if J=k then true else dA listed J:=λJ=>Dz (by omega)
 have c':c5 g0 (dA (listed.setIfInBounds k true)) acc=xV (c5 g0 (dA listed) acc) d r:=by
  funext t;by_cases vu:t=d
  ·subst vu;have h1:=az.at_mem cg (A:=dA (listed.setIfInBounds k true)) he;simp only [ix k,if_true] at h1;rw [h1];cases r with
   | none=>simp only [xV]; exact sA.symm
   | some x=>simp [xV,cJ]
  ·have h1:c5 g0 (dA (listed.setIfInBounds k true)) acc t=c5 g0 (dA listed) acc t:=Df λe h8 het=>by
    rw [ix e.1,if_neg];intro VH;have:=az.uniq cg h8 he (.inl VH)
    grind
   rw [h1];cases r with
   | none=>rfl
   | some x=>simp [xV,cJ,vu]
 grind
theorem Hd (dX:pf ops a'=true) {listed:Array Bool}(eR:listed.size=ops.size) (aP:Down a' listed) {k:Nat}(hk:k∈Region.ready .any ops listed):Down a' (listed.setIfInBounds k true):=by
 obtain ⟨dV,lg,w9,_⟩:=xY hk;have zi:=(Array.getElem?_eq_some_iff.1 w9).1;have Bk:=Kj dX aP hk;have ix:∀ q,dA (listed.setIfInBounds k true) q=if q=k then true else dA listed q:=λq=>Dz (by omega)
 intro m hm q a7;rw [ix] at hm ⊢;split
 ·rfl
 ·split at hm
  ·grind
  ·exact aP m hm q a7
theorem iG.entry {g0:aL}{i J:Nat}{acc dO:Acc}(az:iG P N ops a' g0 i dO J acc) {listed:Array Bool}(aQ:∀ k,k<i->(∀ e∈dO,e.1≠k)->dA listed k=true) {k:Nat}(Er:k<J) (dV:dA listed k=false):∃ e∈acc,e.1=k:=by
 rcases Nat.lt_or_ge k i with h | h
 ·rcases Classical.em (∃ e∈dO,e.1=k) with ⟨e,he,aJ⟩ | aJ
  ·exact ⟨e,az.KE e he,aJ⟩
  grind
 ·exact az.has k h Er
theorem sj.sound (dX:pf ops a'=true) {i:Nat}{dO:Acc}{g g':aL}(h:sj P N ops a' i dO g g'):mI P N ops a' g i dO->∀ {Q:Exit->Act->World->Prop}(fuel:Nat) (listed:Array Bool) (a:Act) (w:World) (I:a8) (Fs:Nat->a8),ho ops listed<=fuel->listed.size=ops.size->(∀ k,k<i->(∀ e∈dO,e.1≠k)->dA listed k=true)->(∀ k,i<=k->dA listed k=false)->Down a' listed ->
  cG w I a.tmps (c5 g (dA listed) dO) Fs->a.tmps.size=N.size->(∀ b1 w',h4 N a w I Fs g' b1 w'->Q .normal b1 w')->wpAny P .any ops Q fuel listed a w:=by
 have start:∀ {g:aL}{i J:Nat}{acc dO:Acc}{listed:Array Bool},iG P N ops a' g i dO J acc->mI P N ops a' g i dO->(∀ k,i<=k->dA listed k=false)->c5 g (dA listed) acc=c5 g (dA listed) dO:=by
  intro g i J acc dO listed az cg dw;funext t;by_cases hex:∃ e∈acc,e.2.1=t
  ·obtain ⟨e,he,rfl⟩:=hex;rw [az.at_mem cg he];rcases az.ge cg e he with h | h
   ·rw [KO (λx j y al aJ=>cg.Qu x j y al (.inr aJ)) h]
   ·rw [dw e.1 h];by_cases Nq:∃ b_∈dO,b_.2.1=e.2.1
    ·obtain ⟨b_,h8,aJ⟩:=Nq;have:=az.uniq cg (az.KE b_ h8) he (.inr aJ);subst this;have:=cg.lt b_ h8;omega
    ·rw [mE λb_ h8 aJ=>Nq ⟨b_,h8,aJ⟩,az.fresh cg e he]; rfl
  ·rw [mE λe he h=>hex ⟨e,he,h⟩,mE λe he h=>hex ⟨e,az.KE e he,h⟩]
 induction h with
 | @fin i dO g acc az gz fJ =>
  intro cg Q fuel listed a w I Fs aa eR aQ dw aP bm a_ dH;rw [<- start az cg dw] at bm;clear dw;revert listed a w I Fs
  induction fuel with
  | zero =>
   intro listed a w I Fs aa eR aQ aP bm a_ dH;have hh:∀ k,k<ops.size->dA listed k=true:=λk hk=>by
    cases ai:dA listed k with
    | true=>rfl
    | false=>have:=wI (ops:=ops) (listed:=listed) (k:=k) hk ai eR; omega
   refine wpAny_done ?_ (dH _ _ ⟨rfl,hE.refl,I,Fs,?_,k1.refl _ _ _⟩) 0
   ·cases ah:Region.ready .any ops listed with
    | nil=>rfl
    | cons k l =>
     have hk:k∈Region.ready .any ops listed:=by rw [ah]; simp
     obtain ⟨dV,o,aV,_⟩:=xY hk
     grind
   ·have:c5 g (dA listed) acc=c5 g (λ_=>true) acc:=funext λt=>Df λe he _=>hh e.1 ((az.le cg).2 e he)
    grind
  | succ fuel aM =>
   intro listed a w I Fs aa eR aQ aP bm a_ dH;by_cases hh:∀ k,k<ops.size->dA listed k=true
   ·refine wpAny_done ?_ (dH _ _ ⟨rfl,hE.refl,I,Fs,?_,k1.refl _ _ _⟩) _
    ·cases ah:Region.ready .any ops listed with
     | nil=>rfl
     | cons k l =>
      have hk:k∈Region.ready .any ops listed:=by rw [ah]; simp
      obtain ⟨dV,o,aV,_⟩:=xY hk
      grind
    ·have:c5 g (dA listed) acc=c5 g (λ_=>true) acc:=funext λt=>Df λe he _=>hh e.1 ((az.le cg).2 e he)
     grind
   ·obtain ⟨k0,mu⟩:=Classical.not_forall.1 hh;obtain ⟨VV,VW⟩:=Classical.not_imp.1 mu;refine ⟨λah=>absurd ah (Pn dX eR k0 VV (by simpa using VW)),λk hk=>?_⟩;obtain ⟨dV,lg,w9,_⟩:=xY hk;have zi:=(Array.getElem?_eq_some_iff.1 w9).1;obtain ⟨e,he,rfl⟩:=az.entry aQ zi dV;have Vw:=wI (ops:=ops) (listed:=listed) (k:=e.1) zi dV eR;refine Pk dX az cg gz fJ eR aP bm a_ he hk λb1 w' I' b3 cw cd d_ oM=>?_;refine aM _ b1 w' I' b3 (by omega) (by simpa using eR) (λm hm cz=>?_) (Hd dX eR aP hk) d_ (cd.1.trans a_) λa2 fw af=>dH _ _ (h4.trans cw cd oM af)
    grind [Dz]
 | @wB i J g g1 g' dO acc U o rs az gz fJ aV hw he lW fF j h1 af av _ Xl =>
  intro cg Q fuel listed a w I Fs aa eR aQ dw aP bm a_ dH;have zh:J<ops.size:=(Array.getElem?_eq_some_iff.1 aV).1;have H9:∀ k,J<k->k<ops.size->J∈a'.getD k []:=λk hk zi=>by
   grind
  have BA:∀ e∈U,e∈acc/\(a'.getD J []).contains e.1=false:=λe he=>by
   grind
  have fq:(U.map (·.2.1)).Nodup:=by
   rw [fF];exact (List.filter_sublist.map _).nodup (az.nodup cg)
  have VN:∀ e∈U,c5 g (λm=>(a'.getD J []).contains m) acc e.2.1=none:=λe he=>by
   rw [az.at_mem cg (BA e he).1,(BA e he).2];rfl
  have Be:mI P N ops a' g1 (J+1) U:=⟨λe he=>by have:=(az.le cg).2 e (BA e he).1; omega,λe he=>(h1 e he).1,fq,λe he b_ h8 h=>az.uniq cg (BA e he).1 (BA b_ h8).1 h,af⟩;have acO:∀ k,J<=k->dA listed k=false:=λk hk=>dw k (Nat.le_trans (az.le cg).1 hk);rw [<- start az cg dw] at bm;clear dw;revert listed a w I Fs
  induction fuel with
  | zero =>
   intro listed a w I Fs aa eR aQ aP bm a_ dH dw;have:=wI (ops:=ops) (listed:=listed) (k:=J) zh (dw J (Nat.le_refl _)) eR;omega
  | succ fuel Xk =>
   intro listed a w I Fs aa eR aQ aP bm a_ dH dw;have eY:=dw J (Nat.le_refl _);refine ⟨λah=>absurd ah (Pn dX eR J zh eY),λk hk=>?_⟩;obtain ⟨dV,lg,w9,_⟩:=xY hk;have zi:=(Array.getElem?_eq_some_iff.1 w9).1;have Bk:=Kj dX aP hk;have ix:∀ q,dA (listed.setIfInBounds k true) q=if q=k then true else dA listed q:=λq=>Dz (by omega)
   have Vw:=wI (ops:=ops) (listed:=listed) (k:=k) (by omega) dV eR;rcases Nat.lt_trichotomy k J with Er | rfl | Er
   ·obtain ⟨e,Np,rfl⟩:=az.entry aQ Er dV;refine Pk dX az cg gz fJ eR aP bm a_ Np hk λb1 w' I' b3 cw cd d_ oM=>?_;refine Xk _ b1 w' I' b3 (by omega) (by simpa using eR) (λm hm cz=>?_) (Hd dX eR aP hk) d_ (cd.1.trans a_) (λa2 fw af=>dH _ _ (h4.trans cw cd oM af)) λm hm=>?_
    ·grind
    grind
   ·have TH:=Z4 (A:=λm=>(a'.getD k []).contains m) (S:=dA listed) az cg fF λe he dX=>Bk e.1 (by simpa using dX);have Wo:∀ r:Place,rs r->c5 g (λm=>(a'.getD k []).contains m) acc r.root≠none:=λr ah=>by
     rw [mE]
     ·grind
     ·intro e he aJ;have:=az.fresh cg e he
      grind
    have VG:=Mu (S:=dA listed) he Wo U j (λe he=>⟨VN e he,h1 e he⟩) fq;have hle:om (c5 g (λm=>(a'.getD k []).contains m) acc) (c5 g (dA listed) acc):=by
     intro t x j;rcases uS j with ⟨e,he,rfl,Ed,hex⟩ | ⟨oL,aN⟩
     ·rw [az.at_mem cg he,Bk e.1 (by simpa using Ed)]; exact hex
     grind [mE]
    unfold wpOp;simp only [aV,(iq.mono hle hw).sound bm,if_true];refine .inl (VG w I a.tmps Fs (by rw [<- TH]; exact bm) a rfl a_ _ _ λb1 w' aA _ _=>?_);obtain ⟨cw,cd,I',b3,d_,oM⟩:=aA;refine Xl Be fuel (listed.setIfInBounds k true) b1 w' I' b3 (by omega) (by simpa using eR) (λm hm cz=>?_) (λm hm=>?_) (Hd dX eR aP hk) ?_ (cd.1.trans a_) λa2 fw af=>dH _ _ (h4.trans cw cd oM af)
    ·rw [ix];split
     ·rfl
     ·rename_i ac5;cases BB:dA listed m with
      | true=>rfl
      | false =>
       exfalso;obtain ⟨e,Np,rfl⟩:=az.entry aQ (show m<k by omega) BB
       grind
    ·grind
    ·have:c5 g1 (dA (listed.setIfInBounds k true)) U=c5 g1 (dA listed) U:=funext λt=>Df λe he _=>by
      grind
     grind
   grind
end
end Go.Own
namespace Go.Own
open Go
set_option linter.unusedSectionVars false
variable [cH]
section
variable {P:Program}{N:cQ}
def fU (P:Program) (N:cQ) (c:Code) (g:aL) (e:Exit) (g':aL):Prop :=
 ∀ ⦃Q:Exit->Act->World->Prop⦄ ⦃a:Act⦄ ⦃w:World⦄ ⦃I:a8⦄ ⦃Fs:Nat->a8⦄,cG w I a.tmps g Fs->a.tmps.size=N.size->(∀ b1 w',h4 N a w I Fs g' b1 w'->Q e b1 w')->c.wp P Q a w
theorem fU.skip {g:aL}:fU P N .skip g .normal g:=λ_ _ _ _ _ bm _ dH=>wp_skip (dH _ _ ⟨rfl,hE.refl,_,_,bm,k1.refl _ _ _⟩)
theorem fU.ret {g:aL}:fU P N .ret g .ret g:=λ_ _ _ _ _ bm _ dH=>wp_ret (dH _ _ ⟨rfl,hE.refl,_,_,bm,k1.refl _ _ _⟩)
theorem fU.exit {g:aL}{id:Nat}:fU P N (.exit id) g (.exit id) g:=λ_ _ _ _ _ bm _ dH=>wp_exit (dH _ _ ⟨rfl,hE.refl,_,_,bm,k1.refl _ _ _⟩)
theorem fU.seq {x y:Code}{g g1 g':aL}{e:Exit}(h1:fU P N x g .normal g1) (af:fU P N y g1 e g'):fU P N (.seq x y) g e g':=by
 intro Q a w I Fs bm a_ dH;refine wp_seq (h1 bm a_ λaB gL aA=>?_);obtain ⟨cw,cd,I',b3,d_,bR⟩:=aA;exact af d_ (cd.1.trans a_) λa2 fw oK=>dH _ _ (h4.trans cw cd bR oK)
theorem fU.cond {c:Operand}{x y:Code}{g g':aL}{e:Exit}{b:Bool}(aa:bn g c=some (.lit (.bool b))) (h:fU P N (if b then x else y) g e g'):fU P N (.cond c x y) g e g':=by
 intro Q a w I Fs bm a_ dH;exact wp_cond (t:=b) (lh bm aa rfl).h_.1 (h bm a_ dH)
theorem fU.Mf {c:Operand}{x y:Code}{g g':aL}{e:Exit}(aa:bn g c=some (.lit (.bool true))) (h:fU P N x g e g'):fU P N (.cond c x y) g e g':=fU.cond aa h
theorem fU.Md {c:Operand}{x y:Code}{g g':aL}{e:Exit}(aa:bn g c=some (.lit (.bool false))) (h:fU P N y g e g'):fU P N (.cond c x y) g e g':=fU.cond aa h
theorem fU.block {id:Nat}{c:Code}{g g':aL}(h:fU P N c g .normal g'):fU P N (.block id c) g .normal g' :=
 λ_ _ _ _ _ bm a_ dH=>wp_block (h bm a_ λaB gL aA=>dH aB gL aA)
def Dy (P:Program) (c:Code) (Q:Exit->Act->World->Prop) (a:Act) (w:World):Prop :=
 ∀ (b:Frame) (k:List Item) (cs:List Frame),∃ e b1 w',Q e b1 w'/\Arrives P (lone (b.at a (.code c::.inLoop c::k)) cs w) b k cs e b1 w'
def tj (P:Program) (N:cQ) (c:Code) (g:aL) (e:Exit) (g':aL):Prop :=
 ∀ ⦃Q:Exit->Act->World->Prop⦄ ⦃a:Act⦄ ⦃w:World⦄ ⦃I:a8⦄ ⦃Fs:Nat->a8⦄,cG w I a.tmps g Fs->a.tmps.size=N.size->(∀ b1 w',h4 N a w I Fs g' b1 w'->Q e b1 w')->Dy P c Q a w
theorem JI {c:Code}{Q:Exit->Act->World->Prop}{a:Act}{w:World}(h:c.wp P (Exit.then (Dy P c Q) Q) a w):Dy P c Q a w:=by
 intro b k cs;obtain ⟨e,AL,Dj,a7,lD⟩:=h b (.inLoop c::k) cs;cases e with
 | normal =>
  obtain ⟨TL,R7,Z_,Wl,UY⟩:=a7 b k cs;exact ⟨TL,R7,Z_,Wl,.of_steps (Steps.trans lD (.one step_inLoop)) UY⟩
 | exit id=>exact ⟨_,AL,Dj,a7,.pass (x:=.inLoop c) rfl (λ_ _=>.inl (by simp)) lD⟩
 | goto l=>exact ⟨_,AL,Dj,a7,.pass (x:=.inLoop c) rfl (λ_ _=>.inl (by simp)) lD⟩
 | ret=>exact ⟨_,AL,Dj,a7,.pass (x:=.inLoop c) rfl (λ_ _=>.inl (by simp)) lD⟩
 | panic ca=>exact ⟨_,AL,Dj,a7,.pass (x:=.inLoop c) rfl (λ_ _=>.inl (by simp)) lD⟩
 | outgrown=>exact ⟨_,AL,Dj,a7,.pass (x:=.inLoop c) rfl (λ_ _=>.inl (by simp)) lD⟩
theorem fU.loop {c:Code}{g g':aL}{e:Exit}(h:tj P N c g e g'):fU P N (.loop c) g e g':=by
 intro Q a w I Fs bm a_ dH b k cs;obtain ⟨e,b1,w',a7,lD⟩:=h bm a_ dH b k cs;exact ⟨e,b1,w',a7,.of_steps (.one step_loop) lD⟩
theorem tj.step {c:Code}{g g1 g':aL}{e:Exit}(h1:fU P N c g .normal g1) (af:tj P N c g1 e g'):tj P N c g e g':=by
 intro Q a w I Fs bm a_ dH;refine JI (h1 bm a_ λaB gL aA=>?_);obtain ⟨cw,cd,I',b3,d_,bR⟩:=aA;exact af d_ (cd.1.trans a_) λa2 fw oK=>dH _ _ (h4.trans cw cd bR oK)
theorem tj.out {c:Code}{g g':aL}{e:Exit}(h:fU P N c g e g') (he:e≠.normal):tj P N c g e g':=by
 intro Q a w I Fs bm a_ dH;refine JI (h bm a_ λaB gL aA=>?_);cases e with
 | normal=>exact absurd rfl he
 | _=>exact dH _ _ aA
theorem fU.region {id:Nat}{ops:Array Oper}{g g':aL}(h:oq P N ops (List.range ops.size) g g'):fU P N (.region id ops false) g .normal g' :=
 λ_ _ _ _ _ bm a_ dH=>wp_region (h.sound bm a_ dH)
theorem fU.draw {id:Nat}{ops:Array Oper}{a':List (List Nat)}{g g':aL}(hm:P.follows .mixedOrders=true) (dX:pf ops a'=true) (h:sj P N ops a' 0 [] g g'):fU P N (.region id ops true) g .normal g':=by
 intro Q a w I Fs bm a_ dH;refine wp_region_any hm ?_;have d_:cG w.drew I a.tmps g Fs:=bm.world (λ_ _ _=>rfl) (λ_ _=>rfl) (Nat.le_refl _);have hh:∀ k,dA (Array.replicate ops.size false) k=false:=by
  intro k;unfold dA;rcases Nat.lt_or_ge k ops.size with h | h
  ·simp [h]
  grind
 refine h.sound dX .nil ops.size (Array.replicate ops.size false) a w.drew I Fs ?_ (by simp) (λk hk=>by omega) (λk _=>hh k) (λk hk=>by rw [hh] at hk; cases hk) d_ a_ λb1 w' aA=>dH _ _ ?_
 ·grind [ho]
 ·obtain ⟨cw,cd,I',b3,h7,bR⟩:=aA;exact ⟨cw,cd,I',b3,h7,⟨⟨bR.ep.os,bR.ep.tape,bR.ep.output,bR.ep.size,bR.ep.block,bR.ep.dG,Nat.le_trans (Nat.le_succ _) bR.ep.wL⟩,bR.more,bR.new,bR.own⟩⟩
inductive nf:ab->ab->Prop
 | refl {x:ab}:nf x x
 | dead {x:ab}(h:j2 x\/cF x):nf x .dead
 | pC {z:Nat}:nf .aT (.own z 0 [])
 | pB {z:Nat}:nf .aT (.bk z 0 [])
 | obj {cs cs':List ab}(ai:cs'.length=cs.length) (h:∀ (k:Nat) (x y:ab),cs[k]?=some x->cs'[k]?=some y->nf x y):nf (.obj cs) (.obj cs')
 | own {z n:Nat}{cs cs':List ab}(ai:cs'.length=cs.length) (h:∀ (k:Nat) (x y:ab),cs[k]?=some x->cs'[k]?=some y->nf x y):nf (.own z n cs) (.own z n cs')
theorem nf.ij {x y:ab}{J:Nat × Nat}(h:nf x y) (e:y=.self J):x=.self J:=by
 cases h <;> first | exact e | cases e
theorem R.eH {w:World}{I:a8}{ρ:ab->Value->Prop}{x x':ab}(h:nf x x'):∀ {v:Value}{F:a8},R w I ρ x v F->∃ cY,R w I ρ x' v cY/\∀ c,cY c->F c:=by
 induction h with
 | refl=>exact λa1=>⟨_,a1,λ_ h=>h⟩
 | dead=>exact λa1=>⟨ct,.dead λ_ h=>h,λ_ h=>h.elim⟩
 | pC =>
  intro v F a1;rw [a1.r4];exact ⟨ct,.own (e:=0) (us:=[]) (Fs:=λ_=>ct) ⟨by simp,.inl ⟨rfl,rfl⟩⟩ rfl (by simp) (by simp) (λ_ _ _ _ _ h=>h.elim) (λ_ _ _ h=>h.elim) λc=>⟨λh=>h.elim,λh=>h.elim (λh=>by simp [Value.ownBlock] at h) λ⟨_,_,h⟩=>h⟩,λ_ h=>h.elim⟩
 | pB=>intro v F a1; rw [a1.r4]; exact ⟨ct,.hB λ_ h=>h,λ_ h=>h.elim⟩
 | @obj cs cs' ai qd aM =>
  intro v F a1;cases a1 with
  | ref j=>simp [ab.isRef] at j
  | @obj _ b e arr bV _ aV hS h1 ah aP av aI az =>
   have:∀ k,∃ tl:a8,k<cs.length->(∀ (x:ab) (u:Value),cs'[k]?=some x->arr[k]?=some u->R w I ρ x u tl)/\∀ c,tl c->bV k c:=by
    intro k;by_cases hk:k<cs.length
    ·have j:=List.getElem?_eq_getElem hk;have al:cs'[k]?=some (cs'[k]'(by omega)):=List.getElem?_eq_getElem (by omega);have hu:arr[k]?=some (arr[k]'(by omega)):=Array.getElem?_eq_getElem (by omega);obtain ⟨cY,h1,af⟩:=aM k _ _ j al (ah k _ _ j hu);refine ⟨cY,λ_=>⟨λx u fT hT=>?_,af⟩⟩;rw [al] at fT; rw [hu] at hT;cases fT; cases hT;exact h1
    ·exact ⟨ct,λh=>absurd h hk⟩
   obtain ⟨tl,rN⟩:=Classical.axiomOfChoice this;refine ⟨_,.obj (Fs:=tl) aV (by omega) h1 (λk x u j hu=>(rN k (by rw [<- ai]; exact (List.getElem?_eq_some_iff.1 j).1)).1 x u j hu) (λJ k c aj hk h aJ=>aP J k c (by omega) (by omega) ((rN J (by omega)).2 c h) ((rN k (by omega)).2 c aJ)) (λk hk h=>av k (by omega) ((rN k (by omega)).2 b h)) (λc=>Iff.rfl) (λk J u hk=>az k J u (Fa ai qd (λ_ _ _=>nf.ij) k J hk)),λc aa=>?_⟩;rcases aa with rfl | ⟨k,hk,h⟩
   ·exact (aI _).2 (.inl rfl)
   ·exact (aI c).2 (.inr ⟨k,by omega,(rN k (by omega)).2 c h⟩)
 | @own z n cs cs' ai _ aM =>
  intro v F a1;cases a1 with
  | ref j=>simp [ab.isRef] at j
  | @own _ _ _ _ e us bV _ aV hS h1 ah aP av aI =>
   have:∀ k,∃ tl:a8,k<cs.length->(∀ (x:ab) (u:Value),cs'[k]?=some x->us[k]?=some u->R w I ρ x u tl)/\∀ c,tl c->bV k c:=by
    intro k;by_cases hk:k<cs.length
    ·have j:=List.getElem?_eq_getElem hk;have al:cs'[k]?=some (cs'[k]'(by omega)):=List.getElem?_eq_getElem (by omega);have hu:us[k]?=some (us[k]'(by omega)):=List.getElem?_eq_getElem (by omega);obtain ⟨cY,h1,af⟩:=aM k _ _ j al (ah k _ _ j hu);refine ⟨cY,λ_=>⟨λx u fT hT=>?_,af⟩⟩;rw [al] at fT; rw [hu] at hT;cases fT; cases hT;exact h1
    ·exact ⟨ct,λh=>absurd h hk⟩
   obtain ⟨tl,rN⟩:=Classical.axiomOfChoice this;refine ⟨_,.own (Fs:=tl) aV (by omega) h1 (λk x u j hu=>(rN k (by rw [<- ai]; exact (List.getElem?_eq_some_iff.1 j).1)).1 x u j hu) (λJ k c aj hk h aJ=>aP J k c (by omega) (by omega) ((rN J (by omega)).2 c h) ((rN k (by omega)).2 c aJ)) (λk c hk h=>av k c (by omega) ((rN k (by omega)).2 c h)) (λc=>Iff.rfl),λc aa=>?_⟩;rcases aa with aa | ⟨k,hk,h⟩
   ·exact (aI _).2 (.inl aa)
   ·exact (aI c).2 (.inr ⟨k,by omega,(rN k (by omega)).2 c h⟩)
structure km (g1 g2:aL):Prop where
 sub:∀ t x,g2 t=some x->∃ y,g1 t=some y/\nf y x
 b6:∀ t x,g2 t=some x->eo g2 x
 fr:∀ t z q n m new,g2 t≠some (.bC z q n m new)
theorem cG.eH {w:World}{I:a8}{T:Array Value}{g1 g2:aL}{Fs:Nat->a8}(h:cG w I T g1 Fs) (hk:km g1 g2):∃ b3,cG w I T g2 b3/\∀ t c,b3 t c->Fs t c:=by
 have:∀ t,∃ cY:a8,(∀ x,g2 t=some x->∃ v,T[t]?=some v/\R w I (dU w T g2) x v cY)/\(∀ c,cY c->Fs t c)/\(g2 t=none->∀ c,¬ cY c):=by
  intro t;cases j:g2 t with
  | none=>exact ⟨ct,by simp,λ_ h=>h.elim,λ_ _ h=>h⟩
  | some x =>
   obtain ⟨y,al,hw⟩:=hk.sub t x j;obtain ⟨v,hv,a1⟩:=h.mD.rel t y al;have mv:∀ z q n m new,y≠.bC z q n m new:=by
    rintro z q n m new rfl;cases hw with
    | refl=>exact hk.fr _ _ _ _ _ _ j
    | dead bH=>rcases bH with bH | bH <;> cases bH
   obtain ⟨cY,jm,pq⟩:=R.eH hw (a1.hb mv);exact ⟨cY,λx' fT=>by cases fT; exact ⟨v,hv,jm.b6 (hk.b6 t x j)⟩,pq,by simp⟩
 obtain ⟨b3,tR⟩:=Classical.axiomOfChoice this;refine ⟨b3,⟨λt x j=>?_,λt ar=>(tR t).2.2 ar,λt t' c h1 af=>h.eC _ _ _ ((tR t).2.1 c h1) ((tR t').2.1 c af),λt c aa=>h.bk _ _ ((tR t).2.1 c aa),h.lt,λt t' z p n m new _ _ _ _ h1=>absurd h1 (hk.fr _ _ _ _ _ _),h.hN⟩,λt=>(tR t).2.1⟩;obtain ⟨v,hv,a1⟩:=(tR t).1 x j;exact ⟨v,hv,.tree a1⟩
theorem fU.weaken {c:Code}{g g1 g':aL}{e:Exit}(hk:km g g1) (h:fU P N c g1 e g'):fU P N c g e g':=by
 intro Q a w I Fs bm a_ dH;obtain ⟨b3,d_,gA⟩:=bm.eH hk;exact h d_ a_ λb1 w' aA=>dH _ _ (h4.trans rfl hE.refl ⟨Fr.refl _ _,λ_ h=>h,λ_ h=>.inl h,λc ⟨t,aa⟩=>.inl ⟨t,gA t c aa⟩⟩ aA)
theorem tj.weaken {c:Code}{g g1 g':aL}{e:Exit}(hk:km g g1) (h:tj P N c g1 e g'):tj P N c g e g':=by
 intro Q a w I Fs bm a_ dH;obtain ⟨b3,d_,gA⟩:=bm.eH hk;exact h d_ a_ λb1 w' aA=>dH _ _ (h4.trans rfl hE.refl ⟨Fr.refl _ _,λ_ h=>h,λ_ h=>.inl h,λc ⟨t,aa⟩=>.inl ⟨t,gA t c aa⟩⟩ aA)
end
end Go.Own
namespace Go.Own
open Go
set_option linter.unusedSectionVars false
variable [cH]
inductive AH (P:Program) (g:aL):ResultVar->ab->Prop
 | tmp {t:Nat}{y:ab}(h:bn g (.tmp t)=some y):AH P g (.tmp t) y
 | cell {a:Nat}{t ty:TypeId}{y:ab}(h:cU P g (.load t (.tmp a)) ty y):AH P g (.cell a t) y
inductive rB (P:Program) (g:aL):List ResultVar->List ab->Prop
 | nil:rB P g [] []
 | cons {r:ResultVar}{rs:List ResultVar}{y:ab}{ys:List ab}(h:AH P g r y) (ar:rB P g rs ys):rB P g (r::rs) (y::ys)
def oW:List ab->ab
 | [x]=>x
 | l=>.bQ l
def xZ:List Value->Value
 | [x]=>x
 | l=>.tuple l.toArray
def vZ (tmps:Array Value):ResultVar->Sem Value
 | .tmp t=>pure (tmps.getD t undef)
 | .cell a t=>do loadVar t (<- asAddr (tmps.getD a undef))
section
variable {P:Program}{w:World}{I:a8}{g:aL}{Fs:Nat->a8}
theorem AH.run {a:Act}(h:cG w I a.tmps g Fs) {r:ResultVar}{y:ab}(ah:AH P g r y):∃ v,(vZ a.tmps r).run P w=.ok v w/\R w I (dU w a.tmps g) y v ct:=by
 cases ah with
 | @tmp t y h1=>exact ⟨_,rfl,lh h h1 rfl⟩
 | @cell a0 t ty y h1 =>
  obtain ⟨v, hv, a1⟩ := cU.sound h rfl (o := { dst := none, op := .load t (.tmp a0), type := ty, pos := "", after := #[], guard := none }) h1;refine ⟨v,?_,a1⟩;have he:a.eval (.tmp a0)=a.tmps.getD a0 undef:=rfl;simp only [execOp,he] at hv;cases aa:a.tmps.getD a0 undef with
  | pointer ad =>
   cases ad with
   | some ad =>
    rw [aa] at hv;simp only [Instr.loadAt,Instr.sureAddr] at hv;simp only [vZ,aa,asAddr];have au:(pure ad >>= λx=>loadVar t x:Sem Value)=loadVar t ad:=by simp
    rw [au];revert hv;generalize a7:loadVar t ad=q;intro hv;simp [a7] at hv;cases Ez:q.run P w with
    | ok x fw=>rw [Ez] at hv; simp at hv; rw [hv.1,hv.2]
    | halt e fw=>rw [Ez] at hv; simp at hv
   | none=>rw [aa] at hv; simp [Instr.loadAt,Instr.sureAddr] at hv
  | _=>rw [aa] at hv; simp [Instr.loadAt,Instr.sureAddr] at hv
theorem PE {f:ResultVar->Sem Value}:∀ (l:List ResultVar) (vs:List Value),l.length=vs.length->(∀ (k:Nat) (r:ResultVar) (v:Value),l[k]?=some r->vs[k]?=some v->(f r).run P w=.ok v w)->(l.mapM f).run P w=.ok vs w
 | [],[],_,_=>rfl
 | r::l,v::vs,ai,h=>by
  have aO:=h 0 r v rfl rfl;have h1:=PE l vs (by simpa using ai) λk r v ah hv=>h (k+1) r v (by simpa using ah) (by simpa using hv);simp [List.mapM_cons,aO,h1]
 | [],_::_,ai,_=>by simp at ai
 | _::_,[],ai,_=>by simp at ai
theorem Y1 {fn:Func}{tmps:Array Value}{vs:List Value}(ai:fn.results.toList.length=vs.length) (h:∀ (k:Nat) (r:ResultVar) (v:Value),fn.results.toList[k]?=some r->vs[k]?=some v->(vZ tmps r).run P w=.ok v w):(results fn tmps).run P w=.ok (xZ vs) w:=by
 have h1:=PE fn.results.toList vs ai h;have af:fn.results.mapM (vZ tmps)=List.toArray <$> fn.results.toList.mapM (vZ tmps):=Array.mapM_eq_mapM_toList;have aK:(fn.results.mapM (vZ tmps)).run P w=.ok vs.toArray w:=by rw [af]; simp [h1]
 have bu:results fn tmps=(do let vs <- fn.results.mapM (vZ tmps); pure (if h:vs.size=1 then vs[0] else .tuple vs)):=by
  unfold results;congr 1
 rw [bu];simp only [Sem.run_bind,aK]
 match vs with
 | []=>rfl
 | [x]=>rfl
 | x::y::l=>simp [xZ]
theorem rB.length {g:aL}{rs:List ResultVar}{ys:List ab}(h:rB P g rs ys):rs.length=ys.length:=by
 induction h with
 | nil=>rfl
 | cons _ _ aM=>simp [aM]
theorem rB.run {a:Act}(h:cG w I a.tmps g Fs) {rs:List ResultVar}{ys:List ab}(ah:rB P g rs ys):∃ vs:List Value,rs.length=vs.length/\(∀ (k:Nat) (r:ResultVar) (v:Value),rs[k]?=some r->vs[k]?=some v->(vZ a.tmps r).run P w=.ok v w) /\
  ∀ (k:Nat) (y:ab) (v:Value),ys[k]?=some y->vs[k]?=some v->R w I (dU w a.tmps g) y v ct:=by
 induction ah with
 | nil=>exact ⟨[],rfl,by simp,by simp⟩
 | cons h1 _ aM =>
  obtain ⟨v,hv,a1⟩:=h1.run h;obtain ⟨vs,ai,af,aK⟩:=aM;refine ⟨v::vs,by simp [ai],λk r u ah hu=>?_,λk y u al hu=>?_⟩
  ·cases k with
   | zero=>simp at ah hu; subst ah hu; exact hv
   | succ k=>exact af k r u (by simpa using ah) (by simpa using hu)
  ·cases k with
   | zero=>simp at al hu; subst al hu; exact a1
   | succ k=>exact aK k y u (by simpa using al) (by simpa using hu)
theorem Hand.oW {ρ:ab->Value->Prop}{Fs:Nat->a8}{xs:List ab}{vs:List Value}{du:Nat->a8}(h:Hand w I ρ Fs xs vs du) (aA:∀ x∈xs,cF x) (ρ':ab->Value->Prop):R w I ρ' (oW xs) (xZ vs) (λc=>∃ k,k<xs.length/\du k c)/\cF (oW xs):=by
 have bQ:R w I ρ' (.bQ xs) (.tuple vs.toArray) (λc=>∃ k,k<xs.length/\du k c) :=
  .bQ (by simpa using h.len) (λk x u j hu=>(h.rel k x u j (by simpa using hu)).bj (aA x (List.mem_of_getElem? j))) h.eC λc=>Iff.rfl
 match xs,vs,h,aA,bQ with
 | [],[],_,_,bQ=>exact ⟨bQ,.bQ (by simp)⟩
 | [x],[v],h,aA,_ =>
  refine ⟨((h.rel 0 x v rfl rfl).bj (aA x (by simp))).yY λc=>⟨λaa=>⟨0,by simp,aa⟩,λ⟨k,hk,aa⟩=>?_⟩,aA x (by simp)⟩;have:k=0:=by simpa using hk
  subst this; exact aa
 | x::y::l,v::u::m,_,aA,bQ=>exact ⟨bQ,.bQ aA⟩
 | [],_::_,h,_,_=>have:=h.len; simp at this
 | _::_,[],h,_,_=>have:=h.len; simp at this
 | [_],_::_::_,h,_,_=>have:=h.len; simp at this
 | _::_::_,[_],h,_,_=>have:=h.len; simp at this
structure Leaves (P:Program) (N:cQ) (rs:List ResultVar) (g':aL) (n:Nat) (outs:List (Option ab)) (res:ab):Prop where
 ex:∃ ys xs g1,rB P g' rs ys/\Take g' ys xs g1/\res=oW xs/\∀ (k:Nat) (x:ab),outs[k]?=some (some x)->g1 k=some x/\cF x/\k∈N.pins
 len:outs.length=n
theorem cG.more {T:Array Value}(h:cG w I T g Fs) {T':Array Value}(dt:∀ t,g t≠none->T'[t]?=T[t]?):cG w I T' g Fs:=by
 refine ⟨λt x j=>?_,h.kM,h.eC,h.bk,h.lt,h.q8,h.hN⟩;obtain ⟨u,hu,a1⟩:=h.rel t x j;exact ⟨u,by rw [dt t (by rw [j]; simp)]; exact hu,h.wP dt (λ_ _ _=>rfl) (λ_ _=>rfl) (λ_ h=>h) (λ_ _ h=>h) a1 λ_ _=>rfl⟩
end
end Go.Own
namespace Go.Own
open Go
set_option linter.unusedSectionVars false
variable [cH]
section
variable {P:Program}{N:cQ}
def W (P:Program) (N:cQ) (c:Code) (g:aL) (Φ:Exit->aL->Prop):Prop :=
 ∀ ⦃Q:Exit->Act->World->Prop⦄ ⦃a:Act⦄ ⦃w:World⦄ ⦃I:a8⦄ ⦃Fs:Nat->a8⦄,cG w I a.tmps g Fs->a.tmps.size=N.size->(∀ e g' b1 w',Φ e g'->h4 N a w I Fs g' b1 w'->Q e b1 w')->c.wp P Q a w
def o1 (Ψ:aL->Prop) (Φ:Exit->aL->Prop):Exit->aL->Prop
 | .normal,g=>Ψ g
 | e,g=>Φ e g
def lZ (id:Nat) (Φ:Exit->aL->Prop):Exit->aL->Prop
 | .exit k,g=>if k=id then Φ .normal g else Φ (.exit k) g
 | e,g=>Φ e g
theorem h4.refl {a:Act}{w:World}{I:a8}{g:aL}{Fs:Nat->a8}(h:cG w I a.tmps g Fs):h4 N a w I Fs g a w:=⟨rfl,hE.refl,_,_,h,k1.refl _ _ _⟩
theorem fU.w {c:Code}{g g':aL}{e:Exit}{Φ:Exit->aL->Prop}(h:fU P N c g e g') (nz:Φ e g'):W P N c g Φ :=
 λ_ _ _ _ _ bm a_ dH=>h bm a_ λb1 w' aA=>dH _ _ b1 w' nz aA
theorem W.mono {c:Code}{g:aL}{Φ oi:Exit->aL->Prop}(h:W P N c g Φ) (nz:∀ e g',Φ e g'->oi e g'):W P N c g oi :=
 λ_ _ _ _ _ bm a_ dH=>h bm a_ λ_ _ b1 w' h1 aA=>dH _ _ b1 w' (nz _ _ h1) aA
theorem W.skip {g:aL}{Φ:Exit->aL->Prop}(h:Φ .normal g):W P N .skip g Φ:=fU.skip.w h
theorem W.ret {g:aL}{Φ:Exit->aL->Prop}(h:Φ .ret g):W P N .ret g Φ:=fU.ret.w h
theorem W.exit {g:aL}{id:Nat}{Φ:Exit->aL->Prop}(h:Φ (.exit id) g):W P N (.exit id) g Φ:=fU.exit.w h
theorem W.seq {x y:Code}{g:aL}{Φ:Exit->aL->Prop}(h:W P N x g (o1 (λg1=>W P N y g1 Φ) Φ)):W P N (.seq x y) g Φ:=by
 intro Q a w I Fs bm a_ dH;refine wp_seq (h bm a_ λe g1 aB gL h1 aA=>?_);cases e with
 | normal =>
  obtain ⟨cw,cd,I',b3,d_,bR⟩:=aA;exact h1 d_ (cd.1.trans a_) λtL g2 a2 fw af oK=>dH _ _ _ _ af (h4.trans cw cd bR oK)
 | _=>exact dH _ _ _ _ h1 aA
theorem W.cond {c:Operand}{x y:Code}{g:aL}{Φ:Exit->aL->Prop}{b:Bool}(aa:bn g c=some (.lit (.bool b))) (h:W P N (if b then x else y) g Φ):W P N (.cond c x y) g Φ :=
 λ_ _ _ _ _ bm a_ dH=>wp_cond (t:=b) (lh bm aa rfl).h_.1 (h bm a_ dH)
theorem W.Mf {c:Operand}{x y:Code}{g:aL}{Φ:Exit->aL->Prop}(aa:bn g c=some (.lit (.bool true))) (h:W P N x g Φ):W P N (.cond c x y) g Φ:=W.cond aa h
theorem W.Md {c:Operand}{x y:Code}{g:aL}{Φ:Exit->aL->Prop}(aa:bn g c=some (.lit (.bool false))) (h:W P N y g Φ):W P N (.cond c x y) g Φ:=W.cond aa h
theorem W.block {id:Nat}{c:Code}{g:aL}{Φ:Exit->aL->Prop}(h:W P N c g (lZ id Φ)):W P N (.block id c) g Φ:=by
 intro Q a w I Fs bm a_ dH;refine wp_block (h bm a_ λe g1 aB gL h1 aA=>?_);cases e with
 | exit k =>
  have af:if k=id then Φ .normal g1 else Φ (.exit k) g1:=h1
  grind [Exit.inBlock]
 | _=>exact dH _ _ _ _ h1 aA
def pd (P:Program) (N:cQ) (c:Code) (g:aL) (Φ:Exit->aL->Prop):Prop :=
 ∀ ⦃Q:Exit->Act->World->Prop⦄ ⦃a:Act⦄ ⦃w:World⦄ ⦃I:a8⦄ ⦃Fs:Nat->a8⦄,cG w I a.tmps g Fs->a.tmps.size=N.size->(∀ e g' b1 w',Φ e g'->h4 N a w I Fs g' b1 w'->Q e b1 w')->Dy P c Q a w
theorem W.loop {c:Code}{g:aL}{Φ:Exit->aL->Prop}(h:pd P N c g Φ):W P N (.loop c) g Φ:=by
 intro Q a w I Fs bm a_ dH b k cs;obtain ⟨e,b1,w',a7,lD⟩:=h bm a_ dH b k cs;exact ⟨e,b1,w',a7,.of_steps (.one step_loop) lD⟩
theorem pd.step {c:Code}{g:aL}{Φ:Exit->aL->Prop}(h:W P N c g (o1 (λg1=>pd P N c g1 Φ) Φ)):pd P N c g Φ:=by
 intro Q a w I Fs bm a_ dH;refine JI (h bm a_ λe g1 aB gL h1 aA=>?_);cases e with
 | normal =>
  obtain ⟨cw,cd,I',b3,d_,bR⟩:=aA;exact h1 d_ (cd.1.trans a_) λtL g2 a2 fw af oK=>dH _ _ _ _ af (h4.trans cw cd bR oK)
 | _=>exact dH _ _ _ _ h1 aA
theorem W.weaken {c:Code}{g g1:aL}{Φ:Exit->aL->Prop}(hk:km g g1) (h:W P N c g1 Φ):W P N c g Φ:=by
 intro Q a w I Fs bm a_ dH;obtain ⟨b3,d_,gA⟩:=bm.eH hk;exact h d_ a_ λe g' b1 w' h1 aA=>dH _ _ _ _ h1 (h4.trans rfl hE.refl ⟨Fr.refl _ _,λ_ h=>h,λ_ h=>.inl h,λc ⟨t,aa⟩=>.inl ⟨t,gA t c aa⟩⟩ aA)
theorem pd.weaken {c:Code}{g g1:aL}{Φ:Exit->aL->Prop}(hk:km g g1) (h:pd P N c g1 Φ):pd P N c g Φ:=by
 intro Q a w I Fs bm a_ dH;obtain ⟨b3,d_,gA⟩:=bm.eH hk;exact h d_ a_ λe g' b1 w' h1 aA=>dH _ _ _ _ h1 (h4.trans rfl hE.refl ⟨Fr.refl _ _,λ_ h=>h,λ_ h=>.inl h,λc ⟨t,aa⟩=>.inl ⟨t,gA t c aa⟩⟩ aA)
theorem W.out {c:Code}{g:aL}{Φ oi:Exit->aL->Prop}(h:W P N c g Φ) (nz:∀ e g',Φ e g'->∃ g2,km g' g2/\oi e g2):W P N c g oi:=by
 intro Q a w I Fs bm a_ dH;refine h bm a_ λe g' b1 w' h1 aA=>?_;obtain ⟨g2,hk,af⟩:=nz e g' h1;obtain ⟨cw,cd,I',b3,d_,bR⟩:=aA;obtain ⟨iT,h7,gA⟩:=d_.eH hk;exact dH _ _ _ _ af ⟨cw,cd,I',iT,h7,bR.trans ⟨Fr.refl _ _,λ_ h=>h,λ_ h=>.inl h,λc ⟨t,aa⟩=>.inl ⟨t,gA t c aa⟩⟩⟩
def Lo (P:Program) (N:cQ) (ops:Array Oper) (is:List Nat) (g:aL) (K:aL->Prop):Prop:=∃ g',oq P N ops is g g'/\K g'
theorem W.region {id:Nat}{ops:Array Oper}{g:aL}{Φ:Exit->aL->Prop}(h:Lo P N ops (List.range ops.size) g (Φ .normal)):W P N (.region id ops false) g Φ:=by
 obtain ⟨g',ah,nz⟩:=h;exact (fU.region ah).w nz
theorem bY.X1 {f:FuncId}{fn:Func}{c:Code}{args:List ab}{outs:List (Option ab)}{res:ab}{N:cQ}(aS:P.funcs[f]?=some fn) (av:fn.body=some c) (a_:fn.ntmps=N.size) (aR:args.length<=N.size)
  (hlen:outs.length=args.length) (hw:W P N c (pg args) λe g'=>(e=.normal\/e=.ret)/\Leaves P N fn.results.toList g' args.length outs res):bY P f args outs res:=by
 refine ⟨hlen,λw I vs Fs IZ bm=>calls_of_wp aS av ?_⟩;have eR:({ tmps:=vs.toArray++Array.replicate (fn.ntmps - vs.toArray.size) undef,defers:=[] }:Act).tmps.size=N.size:=by
  simp; omega
 have n2:∀ t,t<vs.length->(vs.toArray++Array.replicate (fn.ntmps - vs.toArray.size) undef)[t]?=vs.toArray[t]?:=by
  intro t ar;rw [Array.getElem?_append_left (by simpa using ar)]
 refine hw (bm.more (T':=vs.toArray++Array.replicate (fn.ntmps - vs.toArray.size) undef) λt ar=>n2 t ?_) eR λe g' b1 w' ⟨he,aV⟩ aA=>?_
 ·unfold pg at ar;rw [IZ];rcases Nat.lt_or_ge t args.length with h | h
  ·exact h
  ·exact absurd (List.getElem?_eq_none h) ar
 obtain ⟨aP,hold,I',b3,d_,bR⟩:=aA;obtain ⟨ys,xs,g1,NP,ar,rfl,oL⟩:=aV.ex;obtain ⟨us,n9,h9,mQ⟩:=NP.run d_;have EI:ys.length=us.length:=by rw [<- NP.length,n9]
 obtain ⟨fO,du,iY,iw,hh⟩:=ar.sound d_.mD (⟨EI,λk x u j hu=>(mQ k x u j hu).frame (λ_ _=>rfl) (λ_ h=>h) (λ_ _ h=>h.1) λ_ _=>rfl,λ_ _ _ _ _ h=>h.elim,λ_ _ _ _ h=>h.elim,λ_ _ _ h=>h.elim⟩:Hand w' I' (fP w' b1.tmps) b3 ys us λ_=>ct);have gA:∀ c,ln fO xs.length du c->∃ t,b3 t c:=by
  intro c aa;rcases hh c aa with h | ⟨_,_,h⟩
  ·exact h
  ·exact h.elim
 have VJ:∃ iT,cG w' I' (vs++[xZ us]).toArray (l2 outs (oW xs)) iT/\∀ t c,iT t c->∃ t,b3 t c:=by
  classical
  refine ⟨λt=>if t=outs.length then (λc=>∃ k,k<xs.length/\du k c) else if ∃ x,outs[t]?=some (some x) then fO t else ct,⟨λt x j=>?_,λt sG c aa=>?_,λt t' c h1 af=>?_,λt c aa=>?_,d_.lt,λt t' z p n m new br cm bh cO h1 af=>?_,d_.hN⟩,λt c aa=>?_⟩
  ·unfold l2 at j;by_cases aO:t=outs.length
   ·rw [if_pos aO] at j;cases j;subst aO;refine ⟨xZ us,?_,.tree ?_⟩
    ·rw [aV.len,<- IZ]; simp
    ·simpa using (iw.oW ar.Cp _).1
   ·rw [if_neg aO] at j;have fT:outs[t]?=some (some x):=by
     cases bH:outs[t]? with
     | none=>rw [bH] at j; cases j
     | some y=>rw [bH] at j; simpa using j
    obtain ⟨h1,af,aK⟩:=oL t x fT;have IU:t<vs.length:=by
     have:=(List.getElem?_eq_some_iff.1 fT).1;rw [IZ,<- aV.len]; exact this
    obtain ⟨v,hv,a1⟩:=iY.rel t x h1;refine ⟨v,?_,?_⟩
    ·rw [hold.2 t aK] at hv;simp only at hv;rw [n2 t IU] at hv;simp only [List.getElem?_toArray] at hv ⊢;rw [List.getElem?_append_left IU]; exact hv
    ·simp only [aO,if_false];rw [if_pos ⟨x,fT⟩];exact .tree ((a1.hb (by rintro z p n m new rfl; cases af)).bj af)
  ·unfold l2 at sG;by_cases aO:t=outs.length
   ·rw [if_pos aO] at sG; cases sG
   ·rw [if_neg aO] at sG;simp only [aO,if_false] at aa;rw [if_neg] at aa
    ·exact aa
    ·rintro ⟨x,j⟩;rw [j] at sG; cases sG
  ·by_cases aO:t=outs.length <;> by_cases D_:t'=outs.length <;> simp only [aO,D_,if_true,if_false] at h1 af
   ·rw [aO,D_]
   ·split at af
    ·obtain ⟨k,hk,aa⟩:=h1;exact absurd af (iw.off k t' c hk aa)
    ·exact af.elim
   ·split at h1
    ·obtain ⟨k,hk,aa⟩:=af;exact absurd h1 (iw.off k t c hk aa)
    ·exact h1.elim
   ·split at h1
    ·split at af
     ·exact iY.eC _ _ _ h1 af
     ·exact af.elim
    ·exact h1.elim
  ·by_cases aO:t=outs.length <;> simp only [aO,if_true,if_false] at aa
   ·obtain ⟨k,hk,aa⟩:=aa;exact iw.bk k c hk aa
   ·split at aa
    ·exact iY.bk _ _ aa
    ·exact aa.elim
  ·have key:∀ t x,l2 outs (oW xs) t=some x->cF x:=by
    intro t x j;unfold l2 at j
    split at j
    ·cases j; exact (iw.oW ar.Cp (λ_ _=>False)).2
    ·cases bH:outs[t]? with
     | none=>rw [bH] at j; cases j
     | some y=>rw [bH] at j; exact (oL t x (by rw [bH]; simpa using j)).2.1
   have:=key t _ h1;cases this
  ·by_cases aO:t=outs.length <;> simp only [aO,if_true,if_false] at aa
   ·obtain ⟨k,hk,aa⟩:=aa;exact gA c (.inr ⟨k,hk,aa⟩)
   ·split at aa
    ·exact gA c (.inl ⟨t,aa⟩)
    ·exact aa.elim
 obtain ⟨iT,h7,Wy⟩:=VJ;have Wj:b1.defers=[]/\∃ v,(results fn b1.tmps).run P w'=.ok v w'/\∃ eh I' b3,Ending.returned v=.returned eh/\cG w' I' (vs++[eh]).toArray (l2 outs (oW xs)) b3/\k1 w I (λc=>∃ t,Fs t c) w' I' (λc=>∃ t,b3 t c) :=
  ⟨aP,xZ us,Y1 n9 h9,xZ us,I',iT,rfl,h7,bR.trans ⟨Fr.refl _ _,λ_ h=>h,λ_ h=>.inl h,λc ⟨t,aa⟩=>.inl (Wy t c aa)⟩⟩
 rcases he with rfl | rfl <;> exact Wj
end
end Go.Own
namespace Go.Own
open Go
set_option linter.unusedSectionVars false
variable [cH]
def get:List (Nat × ab)->aL
 | [],_=>none
 | (s,x)::l,t=>if t=s then some x else get l t
inductive Rd (g:aL):Operand->ab->Prop
 | lit {t:Nat}{v:Value}(h:g t=some (.lit v)):Rd g (.tmp t) (.lit v)
 | k {v:Value}(h:ofConst v=.lit v):Rd g (.const v) (.lit v)
 | zy:Rd g (.const (.slice none 0 0)) .aT
 | JA {v:Value}{cs:List ab}(h:ofConst v=.agg cs):Rd g (.const v) (.agg cs)
 | aT {t:Nat}(h:g t=some .aT):Rd g (.tmp t) .aT
 | bk {t z n:Nat}{cs:List ab}(h:g t=some (.bk z n cs)):Rd g (.tmp t) (.bk z n cs)
 | own {t z n:Nat}{cs:List ab}(h:g t=some (.own z n cs)):Rd g (.tmp t) (.bf z ⟨t,[]⟩ n)
 | obj {t:Nat}{c:ab}{cs:List ab}(h:g t=some (.obj (c::cs))):Rd g (.tmp t) (.ptr ⟨t,[]⟩ 0)
 | cK {t:Nat}{cs:List ab}(h:g t=some (.cK cs)):Rd g (.tmp t) (.cK cs)
 | ptr {t k:Nat}{p:Place}(h:g t=some (.ptr p k)):Rd g (.tmp t) (.ptr p k)
 | bf {t z n:Nat}{p:Place}(h:g t=some (.bf z p n)):Rd g (.tmp t) (.bf z p n)
 | sub {t z lo n:Nat}{p:Place}(h:g t=some (.sub z p lo n)):Rd g (.tmp t) (.sub z p lo n)
 | bC {t z n m:Nat}{p:Place}{new:List ab}(h:g t=some (.bC z p n m new)):Rd g (.tmp t) (.bf z ⟨t,[]⟩ (n+m))
 | agg {t:Nat}{cs cs':List ab}(h:g t=some (.agg cs)) (aa:(cs.mapIdx λi x=>fL 1 (Place.push ⟨t,[]⟩ i) x)=cs'):Rd g (.tmp t) (.agg cs')
 | bQ {t:Nat}{cs cs':List ab}(h:g t=some (.bQ cs)) (aa:(cs.mapIdx λi x=>fL 1 (Place.push ⟨t,[]⟩ i) x)=cs'):Rd g (.tmp t) (.bQ cs')
 | func {f:FuncId}:Rd g (.func f) (.ds (.func f) [] [])
 | ds {t:Nat}{fn:Fn}{cs:List ab}(h:g t=some (.ds fn [] cs)):Rd g (.tmp t) (.ds fn [] cs)
 | mp {t:Nat}{q:Array MapEntry->Nat->Prop}(h:g t=some (.mp q)):Rd g (.tmp t) (.hq ⟨t,[]⟩)
 | hq {t:Nat}{p:Place}(h:g t=some (.hq p)):Rd g (.tmp t) (.hq p)
 | imp {t:Nat}{q:Array MapEntry->Nat->Prop}(h:g t=some (.imp q)):Rd g (.tmp t) (.imp q)
theorem Rd.bn {g:aL}{x:Operand}{y:ab}(h:Rd g x y):bn g x=some y:=by
 cases h with
 | agg h aa=>subst aa; simp [Own.bn,h,oc,fL]
 | bQ h aa=>subst aa; simp [Own.bn,h,oc,fL]
 | k h=>simp [Own.bn,h]
 | zy=>rfl
 | JA h=>simp [Own.bn,h]
 | func=>rfl
 | _ h=>simp [Own.bn,h,oc,fL]
section
variable {P:Program}{N:cQ}{ops:Array Oper}{g:aL}{K:aL->Prop}{l:List Oper}
def aD (P:Program) (N:cQ) (ops:Array Oper) (l:List Oper) (g:aL) (K:aL->Prop):Prop:=∀ i,ops.toList.drop i=l->Lo P N ops (List.range' i l.length) g K
theorem W.Ac {id:Nat}{l:List Oper}{g:aL}{Φ:Exit->aL->Prop}(h:aD P N l.toArray l g (Φ .normal)):W P N (.region id l.toArray false) g Φ:=by
 refine W.region ?_;have:=h 0 (by simp)
 grind [List.range_eq_range']
theorem aD.nil (h:K g):aD P N ops [] g K:=λ_ _=>⟨g,.nil,h⟩
theorem drop_cons {i:Nat}{o:Oper}(h:ops.toList.drop i=o::l):ops[i]?=some o/\ops.toList.drop (i+1)=l:=by
 have h1:(ops.toList.drop i)[0]?=some o:=by rw [h]; rfl
 rw [List.getElem?_drop] at h1;refine ⟨by simpa using h1,?_⟩;rw [<- List.drop_drop,h];rfl
variable {d:Nat}{op:Op}{ty:TypeId}{pos:String}{after:Array Edge}{x:ab}
theorem aD.Ai {r:Option ab}{o:Oper}(aP:o.dst=some d) (a_:N.ok d=true) (aS:g d=none) (az:pW P g ops o r) (hk:aD P N ops l (xV g d r) K):aD P N ops (o::l) g K:=by
 intro i hi;obtain ⟨h1,af⟩:=drop_cons hi;obtain ⟨g',ah,c7⟩:=hk (i+1) af;exact ⟨g',.step h1 aP aS a_ az ah,c7⟩
inductive La (g:aL) (d:Nat):aL->Prop
 | new (h:g d=none):La g d g
 | jH {y:ab}(h:g d=some y) (ai:leaf y=true):La g d (del g d)
inductive fb (g:aL) (ops:Array Oper):Option (Nat × Bool)->Prop
 | none:fb g ops none
 | yes {J t:Nat}{b:Bool}(h:(ops[J]?).bind (·.dst)=some t) (aN:g t=some (.lit (.bool b))):fb g ops (some (J,b))
variable {gd:Option (Nat × Bool)}{g1:aL}
theorem fb.del {y:ab}(h:fb g ops gd) (aP:g d=some y) (av:∀ b,y≠.lit (.bool b)):iq (del g d) ops ⟨some d,op,ty,pos,after,gd⟩ true:=by
 cases h with
 | none=>rfl
 | @yes J t b h aN =>
  have:t≠d:=by
   grind
  exact ⟨t,h,.inl ⟨b,by simp only [Own.del,if_neg this,aN],by simp⟩⟩
theorem fb.wanted (h:fb g ops gd):iq g ops ⟨some d,op,ty,pos,after,gd⟩ true:=by
 cases h with
 | none=>rfl
 | @yes J t b h aN=>exact ⟨t,h,.inl ⟨b,aN,by simp⟩⟩
theorem aD.KN (au:b8 P g op ty x) (a_:N.ok d=true) (aS:g d=none) (hw:iq g ops ⟨some d,op,ty,pos,after,gd⟩ true) (hk:aD P N ops l (cJ g d x) K):aD P N ops (⟨some d,op,ty,pos,after,gd⟩::l) g K :=
 .Ai rfl a_ aS (r:=some x) (.inl ⟨hw,.inl au⟩) hk
theorem ZZ:cJ (del g d) d x=cJ g d x:=by
 grind [cJ,del]
theorem aD.val (au:cU P g op ty x) (a_:N.ok d=true) (aS:g d=none) (aN:fb g ops gd) (hk:aD P N ops l (cJ g d x) K):aD P N ops (⟨some d,op,ty,pos,after,gd⟩::l) g K :=
 .KN (.eK au) a_ aS aN.wanted hk
theorem aD.over {y:ab}(au:cU P (del g d) op ty x) (a_:N.ok d=true) (aS:g d=some y) (ai:leaf y=true) (hk:aD P N ops l (cJ g d x) K):aD P N ops (⟨some d,op,ty,pos,after,none⟩::l) g K:=by
 intro i hi;obtain ⟨g',ah,c7⟩:=aD.KN (pos:=pos) (after:=after) (gd:=Option.none) (.eK au) a_ (by simp [del]) (fb.wanted .none) (by rw [ZZ]; exact hk) i hi;exact ⟨g',.drop aS ai ah,c7⟩
theorem aD.Z3 (au:b8 P g op ty x) (a_:N.ok d=true) (aS:g d=none) (aN:fb g ops gd) (hk:aD P N ops l (cJ g d x) K):aD P N ops (⟨some d,op,ty,pos,after,gd⟩::l) g K :=
 .KN au a_ aS aN.wanted hk
theorem aD.call (au:cZ P g op x) (a_:N.ok d=true) (aS:g d=none) (aN:fb g ops gd) (hk:aD P N ops l (cJ g d x) K):aD P N ops (⟨some d,op,ty,pos,after,gd⟩::l) g K :=
 .Ai rfl a_ aS (r:=some x) (.inl ⟨aN.wanted,.inr au⟩) hk
theorem aD.pass {J t':Nat}{b:Bool}(h:(ops[J]?).bind (·.dst)=some t') (aN:g t'=some (.lit (.bool (!b)))) (a_:N.ok d=true) (aS:g d=none) (hk:aD P N ops l g K):aD P N ops (⟨some d,op,ty,pos,after,some (J,b)⟩::l) g K :=
 .Ai rfl a_ aS (r:=Option.none) ⟨t',h,.inl ⟨!b,aN,by cases b <;> rfl⟩⟩ hk
variable {jC:Option Nat}
theorem aD.forget {g1:aL}(hk:hy g g1) (h:aD P N ops l g1 K):aD P N ops l g K:=by
 intro i hi;obtain ⟨g',ah,c7⟩:=h i hi;exact ⟨g',.forget hk ah,c7⟩
variable {a b:Operand}{t t2:TypeId}{k:IntKind}{m n:Int}
theorem cU.add (j:Rd g a (.lit (.int k m))) (al:Rd g b (.lit (.int k n))):cU P g (.binOp .add t a b t2) ty (.lit (.int k (k.wrap (m+n)))) :=
 .bin j.bn al.bn rfl λw=>by simp [eqGuard,binOp,Op.intArith]
theorem cU.Zr (j:Rd g a (.lit (.int k m))) (al:Rd g b (.lit (.int k n))):cU P g (.binOp .sub t a b t2) ty (.lit (.int k (k.wrap (m - n)))) :=
 .bin j.bn al.bn rfl λw=>by simp [eqGuard,binOp,Op.intArith]
theorem cU.mul (j:Rd g a (.lit (.int k m))) (al:Rd g b (.lit (.int k n))):cU P g (.binOp .mul t a b t2) ty (.lit (.int k (k.wrap (m * n)))) :=
 .bin j.bn al.bn rfl λw=>by simp [eqGuard,binOp,Op.intArith]
theorem cU.quo (j:Rd g a (.lit (.int k m))) (al:Rd g b (.lit (.int k n))) (h:n≠0):cU P g (.binOp .quo t a b t2) ty (.lit (.int k (k.wrap (m.tdiv n)))) :=
 .bin j.bn al.bn rfl λw=>by simp [eqGuard,binOp,Op.intDiv,h]
theorem cU.rem (j:Rd g a (.lit (.int k m))) (al:Rd g b (.lit (.int k n))) (h:n≠0):cU P g (.binOp .rem t a b t2) ty (.lit (.int k (m.tmod n))) :=
 .bin j.bn al.bn rfl λw=>by simp [eqGuard,binOp,Op.intDiv,h]
theorem cU.cat {s u:ByteArray}(j:Rd g a (.lit (.string s))) (al:Rd g b (.lit (.string u))) (h:s.size+u.size<=9223372036854775807):cU P g (.binOp .add t a b t2) ty (.lit (.string (s++u))) :=
 .bin j.bn al.bn rfl λw=>by
  have:¬ ((s.size+u.size:Nat):Int) > IntKind.i64.max:=by
   have:IntKind.i64.max=9223372036854775807:=by decide
   omega
  simp only [eqGuard,binOp,Op.stringOp,if_neg this];simp
theorem LZ {s u:ByteArray}(h:s.toList=u.toList):s=u:=by
 have h1:s.data.toList=u.data.toList:=by
  grind [ByteArray.toList_eq]
 cases s
 simp_all
theorem cU.oB {s u:ByteArray}(j:Rd g a (.lit (.string s))) (al:Rd g b (.lit (.string u))) {c:Bool}(aa:c=true↔s=u):cU P g (.binOp .eql t a b t2) ty (.lit (.bool c)) :=
 .bin j.bn al.bn rfl λw=>by
  have:(s.toList == u.toList)=c:=by
   rw [Bool.eq_iff_iff,aa];simp only [beq_iff_eq];exact ⟨LZ,λh=>by rw [h]⟩
  simp [eqGuard,binOp,Op.stringOp,this]
theorem cU.nJ {s u:ByteArray}(j:Rd g a (.lit (.string s))) (al:Rd g b (.lit (.string u))) {c:Bool}(aa:c=true↔s≠u):cU P g (.binOp .neq t a b t2) ty (.lit (.bool c)) :=
 .bin j.bn al.bn rfl λw=>by
  have:(s.toList == u.toList)=!c:=by
   rw [Bool.eq_iff_iff];simp only [beq_iff_eq,Bool.not_eq_true'];cases c with
   | true=>simp only [true_iff] at aa; simp only [Bool.true_eq_false,iff_false]; exact λh=>aa (LZ h)
   | false =>
    simp only [Bool.false_eq_true,false_iff,Decidable.not_not] at aa;simp [aa]
  simp [eqGuard,binOp,Op.stringOp,this]
theorem cU.lss (j:Rd g a (.lit (.int k m))) (al:Rd g b (.lit (.int k n))) {c:Bool}(aa:c=true↔m<n):cU P g (.binOp .lss t a b t2) ty (.lit (.bool c)) :=
 .bin j.bn al.bn rfl λw=>by
  have:decide (m<n)=c:=by rw [Bool.eq_iff_iff,aa]; simp
  simp [eqGuard,binOp,Op.intCmp,this]
theorem cU.leq (j:Rd g a (.lit (.int k m))) (al:Rd g b (.lit (.int k n))) {c:Bool}(aa:c=true↔m<=n):cU P g (.binOp .leq t a b t2) ty (.lit (.bool c)) :=
 .bin j.bn al.bn rfl λw=>by
  have:decide (m<=n)=c:=by rw [Bool.eq_iff_iff,aa]; simp
  simp [eqGuard,binOp,Op.intCmp,this]
theorem cU.gtr (j:Rd g a (.lit (.int k m))) (al:Rd g b (.lit (.int k n))) {c:Bool}(aa:c=true↔n<m):cU P g (.binOp .gtr t a b t2) ty (.lit (.bool c)) :=
 .bin j.bn al.bn rfl λw=>by
  have:decide (n<m)=c:=by rw [Bool.eq_iff_iff,aa]; simp
  simp [eqGuard,binOp,Op.intCmp,this]
theorem cU.geq (j:Rd g a (.lit (.int k m))) (al:Rd g b (.lit (.int k n))) {c:Bool}(aa:c=true↔n<=m):cU P g (.binOp .geq t a b t2) ty (.lit (.bool c)) :=
 .bin j.bn al.bn rfl λw=>by
  have:decide (n<=m)=c:=by rw [Bool.eq_iff_iff,aa]; simp
  simp [eqGuard,binOp,Op.intCmp,this]
theorem cU.eql (j:Rd g a (.lit (.int k m))) (al:Rd g b (.lit (.int k n))) {c:Bool}(aa:c=true↔m=n):cU P g (.binOp .eql t a b t2) ty (.lit (.bool c)) :=
 .bin j.bn al.bn rfl λw=>by
  have:(m == n)=c:=by rw [Bool.eq_iff_iff,aa]; simp
  simp [eqGuard,binOp,Op.intCmp,this]
theorem cU.neq (j:Rd g a (.lit (.int k m))) (al:Rd g b (.lit (.int k n))) {c:Bool}(aa:c=true↔m≠n):cU P g (.binOp .neq t a b t2) ty (.lit (.bool c)) :=
 .bin j.bn al.bn rfl λw=>by
  have:(m != n)=c:=by rw [Bool.eq_iff_iff,aa]; simp
  simp [eqGuard,binOp,Op.intCmp,this]
theorem cU.not {c:Bool}(j:Rd g a (.lit (.bool c))):cU P g (.unOp .not t a) ty (.lit (.bool (!c))) :=
 .un j.bn rfl λw=>by simp [Op.unary]
theorem cU.Yr {c a b:Operand}{y:ab}(aa:Rd g c (.lit (.bool true))) (ah:Rd g a y):cU P g (.pick c a b) ty y:=.pick aa.bn ah.bn
theorem cU.Yq {c a b:Operand}{y:ab}(aa:Rd g c (.lit (.bool false))) (ah:Rd g b y):cU P g (.pick c a b) ty y:=.pick aa.bn ah.bn
theorem cU.ux {s:ByteArray}(j:Rd g a (.lit (.string s))) (ar:oZ P t=true):cU P g (.call { callee:=.builtin .len,args:=#[a],argTypes:=#[t] }) ty (.lit (.int .i64 s.size)) :=
 .lits (vs:=[.string s]) (by simp [j.bn]) rfl λw cs=>by
  simp [builtin,Builtin.len_,run_underlying (KD ar),goInt]
section
variable {Ψ:aL->Prop}{Φ:Exit->aL->Prop}{id k:Nat}
theorem ZI (h:Ψ g):o1 Ψ Φ .normal g:=h
theorem ZJ (h:Φ .ret g):o1 Ψ Φ .ret g:=h
theorem ZH (h:Φ (.exit k) g):o1 Ψ Φ (.exit k) g:=h
theorem Xo (h:Φ .normal g):lZ id Φ .normal g:=h
theorem Xp (h:Φ .ret g):lZ id Φ .ret g:=h
theorem Xm (h:Φ .normal g):lZ id Φ (.exit id) g:=by
 show if id=id then Φ .normal g else Φ (.exit id) g
 grind
theorem Xn (hk:Nat.beq k id=false) (h:Φ (.exit k) g):lZ id Φ (.exit k) g:=by
 show if k=id then Φ .normal g else Φ (.exit k) g
 grind [Nat.ne_of_beq_eq_false]
end
def Fin (P:Program) (N:cQ) (rs:List ResultVar) (n:Nat) (outs:List (Option ab)) (res:ab) (e:Exit) (g':aL):Prop:=(e=.normal\/e=.ret)/\Leaves P N rs g' n outs res
theorem bY.fin {f:FuncId}{fn:Func}{c:Code}{args:List ab}{outs:List (Option ab)}{res:ab}{N:cQ}(aS:P.funcs[f]?=some fn) (av:fn.body=some c) (a_:fn.ntmps=N.size) (aR:Nat.ble args.length N.size=true) (hlen:outs.length=args.length)
  (hw:W P N c (pg args) (Fin P N fn.results.toList args.length outs res)):bY P f args outs res:=.X1 aS av a_ (Nat.le_of_ble_eq_true aR) hlen hw
def sV (outs:List (Option ab)):Bool:=outs.all λx=>x.isNone
theorem E' {outs:List (Option ab)}(h:sV outs=true) (k:Nat) (x:ab):outs[k]?≠some (some x):=by
 intro e;have:=List.all_eq_true.1 h _ (List.mem_of_getElem? e)
 grind
theorem Fin.one {t:Nat}{y res:ab}{outs:List (Option ab)}{n:Nat}(al:Rd g (.tmp t) y) (aA:cF y) (aV:sV outs=true) (ai:outs.length=n) (he:y=res):Fin P N [.tmp t] n outs res .ret g :=
 ⟨.inr rfl,⟨[y],[y],g,.cons (.tmp al.bn) .nil,.bj (by simpa using aA),he.symm,λk x hk=>absurd hk (E' aV k x)⟩,ai⟩
inductive AG (g:aL):List ResultVar->List ab->Prop
 | nil:AG g [] []
 | cons {t:Nat}{y:ab}{rs:List ResultVar}{ys:List ab}(h:Rd g (.tmp t) y) (aA:cF y) (ar:AG g rs ys):AG g (.tmp t::rs) (y::ys)
theorem AG.spec {rs:List ResultVar}{ys:List ab}(h:AG g rs ys):rB P g rs ys/\∀ y∈ys,cF y:=by
 induction h with
 | nil=>exact ⟨.nil,by simp⟩
 | cons h aA _ aM=>exact ⟨.cons (.tmp h.bn) aM.1,pD aA aM.2⟩
inductive rA (g:aL):List Operand->List ab->Prop
 | nil:rA g [] []
 | cons {x:Operand}{y:ab}{xs:List Operand}{ys:List ab}(h:Rd g x y) (aA:cF y) (ar:rA g xs ys):rA g (x::xs) (y::ys)
theorem rA.spec {xs:List Operand}{ys:List ab}(h:rA g xs ys):fK g xs=some ys/\∀ y∈ys,cF y:=by
 induction h with
 | nil=>exact ⟨rfl,by simp⟩
 | cons h aA _ aM=>exact ⟨by simp only [fK,h.bn,aM.1],pD aA aM.2⟩
theorem cZ.TD {xs:List Operand}{gl:Array TypeId}{f:FuncId}{ys:List ab}{outs:List (Option ab)}{res:ab}(g_:bY P f ys outs res) (aS:iI P f=true) (j:rA g xs ys) (aV:sV outs=true) (ah:cF res) :
  cZ P g (.call { callee:=.value (.func f),args:=xs.toArray,argTypes:=gl }) res:=by
 have oL:outs=ys.map λ_=>Option.none:=by
  apply List.ext_getElem?;intro k;rw [List.getElem?_map];cases al:ys[k]? with
  | none=>rw [List.getElem?_eq_none (by rw [g_.1]; exact List.getElem?_eq_none_iff.1 al)]; rfl
  | some y =>
   have hk:k<outs.length:=by rw [g_.1]; exact (List.getElem?_eq_some_iff.1 al).1
   have h1:=List.getElem?_eq_getElem hk;rw [h1];cases af:outs[k] with
   | none=>rfl
   | some x=>rw [af] at h1; exact absurd h1 (E' aV k x)
 exact .plain (first:=[]) (caps:=[]) (ys:=ys) rfl (by simpa using j.spec.1) aS (by simpa using j.spec.2) (by simpa [<- oL] using g_) ah
end
end Go.Own
namespace Go.Own
open Go
set_option linter.unusedSectionVars false
variable [cH]
def ly (s:ByteArray) (m:Int):Int:=((s[m.toNat]?.getD 0).toNat:Nat)
def oz (s:ByteArray) (m n:Int):ByteArray:=s.extract m.toNat n.toNat
section
variable {P:Program}{N:cQ}{ops:Array Oper}{g:aL}{K:aL->Prop}{l:List Oper}
variable {d:Nat}{op:Op}{ty:TypeId}{pos:String}{after:Array Edge}{x:ab}{a b:Operand}{t t2:TypeId}{k:IntKind}{m n:Int}{gd:Option (Nat × Bool)}
theorem cU.R6 {s:ByteArray}{i:Operand}(j:Rd g a (.lit (.string s))) (hi:Rd g i (.lit (.int k m))) (ar:oZ P t=true) (h:0<=m/\m<s.size):cU P g (.index t a i) ty (.lit (.int .u8 (ly s m))):=by
 obtain ⟨J,rfl⟩:=Int.eq_ofNat_of_zero_le h.1;have aj:J<s.size:=by omega
 have av:s[J]?=some s[J]:=getElem?_pos s J aj;have:ly s (J:Int)=(s[J].toNat:Nat):=by simp [ly,av]
 rw [this];exact .EN j.bn hi.bn ar av
theorem cU.P7 {s:ByteArray}{lo hi:Operand}{qk:IntKind}(j:Rd g a (.lit (.string s))) (ai:Rd g lo (.lit (.int k m))) (bH:Rd g hi (.lit (.int qk n))) (ar:oZ P t=true) (h:0<=m/\m<=n/\n<=s.size) :
  cU P g (.slice t a (some lo) (some hi) none) ty (.lit (.string (oz s m n))):=by
 obtain ⟨i,rfl⟩:=Int.eq_ofNat_of_zero_le h.1;obtain ⟨J,rfl⟩:=Int.eq_ofNat_of_zero_le (show 0<=n by omega);exact .Ah j.bn ⟨_,ai.bn⟩ ⟨_,bH.bn⟩ ar (by omega) (by omega)
theorem cU.Zj {s:ByteArray}{hi:Operand}{qk:IntKind}(j:Rd g a (.lit (.string s))) (bH:Rd g hi (.lit (.int qk n))) (ar:oZ P t=true) (h:0<=n/\n<=s.size) :
  cU P g (.slice t a none (some hi) none) ty (.lit (.string (oz s 0 n))):=by
 obtain ⟨J,rfl⟩:=Int.eq_ofNat_of_zero_le h.1;exact .Ah (l:=0) j.bn rfl ⟨_,bH.bn⟩ ar (by omega) (by omega)
theorem cU.Zk {s:ByteArray}{lo:Operand}(j:Rd g a (.lit (.string s))) (ai:Rd g lo (.lit (.int k m))) (ar:oZ P t=true) (h:0<=m/\m<=s.size) :
  cU P g (.slice t a (some lo) none none) ty (.lit (.string (oz s m s.size))):=by
 obtain ⟨J,rfl⟩:=Int.eq_ofNat_of_zero_le h.1;exact .Ah (h:=s.size) j.bn ⟨_,ai.bn⟩ rfl ar (by omega) (by omega)
theorem Tp {s:ByteArray}{m n:Int}(h:0<=m/\m<=n/\n<=s.size):((oz s m n).size:Int)=n - m:=by
 grind [oz,ByteArray.size_extract]
theorem cU.bytes {z p iU:Nat}{cs:List ab}{xs:List Int}(j:g p=some (.own 1 iU cs)) (gS:cs=xs.map λb=>.lit (.int .u8 b)) (ai:cs.length=iU) (ar:wF P t t2=true) (_hz:z=0):cU P g (.convert t t2 (.tmp p)) ty (.lit (.string (strOfNums xs))) :=
 .DW (p:=⟨p,[]⟩) (n:=iU) (N:=iU) (cs:=cs) (by simp [bn,j,oc,fL]) (by simp [bt,j,ab.at]) (Nat.le_refl _) (by rw [List.take_of_length_le (by omega)]; exact gS) ar
def ia (P:Program) (e:TypeId) (z:Nat):Bool :=
 match (P.info? e).bind (·.zero) with
 | some v=>v.cells.size == z
 | none=>false
theorem K2 {e:TypeId}{z:Nat}(h:ia P e z=true):∃ v,(P.info? e).bind (·.zero)=some v/\v.cells.size=z:=by
 grind [ia]
inductive tp (g:aL):List Operand->List Value->Prop
 | nil:tp g [] []
 | cons {x:Operand}{v:Value}{xs:List Operand}{vs:List Value}(h:Rd g x (.lit v)) (ar:tp g xs vs):tp g (x::xs) (v::vs)
theorem tp.fK {xs:List Operand}{vs:List Value}(h:tp g xs vs):fK g xs=some (vs.map .lit):=by
 induction h with
 | nil=>rfl
 | cons h _ aM=>simp only [Own.fK,h.bn,aM]; rfl
theorem tp.map {xs:List Operand}{vs:List Value}(h:tp g xs vs):xs.map (bn g)=vs.map λv=>some (.lit v):=by
 induction h with
 | nil=>rfl
 | cons h _ aM=>simp only [List.map_cons,h.bn,aM]
theorem b8.row {e:TypeId}{xs:List Operand}{vs:List Value}{parts:Array (Nat × Operand)}{dk:Nat}(j:tp g xs vs) (au:parts.toList=xs.mapIdx (λi x=>(i,x))) (aA:xs.length=dk) (ar:fe P t e 1=true) (aW:ia P e 1=true) (av:Nat.ble dk 1000=true) :
  b8 P g (.buildSlice t dk parts) ty (.own 1 dk (vs.map .lit)):=by
 subst aA;have gG:=Nat.le_of_ble_eq_true av;refine .q4 (.buildSlice ar au j.fK (λy al=>?_) ?_ (by omega) (by omega) (.inr (K2 aW)))
 ·obtain ⟨v,_,rfl⟩:=List.mem_map.1 al;exact ⟨[.lit v],rfl,rfl⟩
 ·generalize vs=l
  induction l with
  | nil=>rfl
  | cons v l aM=>simp only [List.map_cons,mg,ji,aM]; rfl
inductive tu (g:aL):List Nat->List (Nat × ab)->Prop
 | nil:tu g [] []
 | some {s:Nat}{x:ab}{tb:List Nat}{l:List (Nat × ab)}(h:g s=some x) (aA:cF x) (ar:tu g tb l):tu g (s::tb) ((s,x)::l)
 | none {s:Nat}{tb:List Nat}{l:List (Nat × ab)}(ar:tu g tb l):tu g (s::tb) l
theorem tu.spec {g:aL}{tb:List Nat}{l:List (Nat × ab)}(h:tu g tb l):∀ t x,get l t=Option.some x->g t=Option.some x/\cF x:=by
 induction h with
 | nil=>intro t x j; cases j
 | @some s y tb l h aA _ aM =>
  grind [get]
 | none _ aM=>exact aM
theorem tu.eH {g:aL}{tb:List Nat}{l:List (Nat × ab)}(h:tu g tb l):km g (get l) :=
 ⟨λt x j=>⟨x,(h.spec t x j).1,.refl⟩,λt x j=>.bj (h.spec t x j).2,λt z q n m new j=>by have:=(h.spec t _ j).2; cases this⟩
end
end Go.Own
namespace Go.Own
open Go
set_option linter.unusedSectionVars false
variable [cH]
def ot (s:ByteArray) (n:Nat):Prop:=s.size<=n
theorem ot.app {s u:ByteArray}{a b:Nat}(h:ot s a) (aJ:ot u b):ot (s++u) (a+b):=by
 unfold ot at *;rw [ByteArray.size_append]; omega
theorem ot.cut {s:ByteArray}{a:Nat}{m n:Int}(h:ot s a):ot (oz s m n) a:=by
 unfold ot oz at *;rw [ByteArray.size_extract]; omega
theorem ot.const {xs:Array UInt8}:ot ⟨xs⟩ xs.size:=Nat.le_refl _
theorem ot.of {s:ByteArray}{n:Nat}(h:s.size<=n):ot s n:=h
theorem ot.self {s:ByteArray}:ot s s.size:=Nat.le_refl _
section
variable {P:Program}{g:aL}{ty:TypeId}{a b:Operand}{t t2:TypeId}{N:cQ}{ops:Array Oper}{K:aL->Prop}{l:List Oper}{d:Nat}{pos:String}{after:Array Edge}{gd:Option (Nat × Bool)}
theorem W.Me {c:Operand}{x y:Code}{Φ:Exit->aL->Prop}{b:Bool}(aa:Rd g c (.lit (.bool b))) (dt:b=true->W P N x g Φ) (aI:b=false->W P N y g Φ):W P N (.cond c x y) g Φ:=by
 cases b with
 | true=>exact .Mf aa.bn (dt rfl)
 | false=>exact .Md aa.bn (aI rfl)
theorem YZ {c e:Bool}(ar:P.underlying t=some .bool) (w:World):(do eqGuard .eql t a b (.bool c) (.bool e); binOp .eql t (.bool c) (.bool e):Sem Value).run P w=.ok (.bool (c == e)) w:=by
 have h:=run_equal_bool w t c e ar;simp [eqGuard,binOp,h]
def GJ (P:Program) (t:TypeId):Bool :=
 match P.underlying t with
 | some .bool=>true
 | _=>false
theorem Si (h:GJ P t=true):P.underlying t=some .bool:=by
 unfold GJ at h
 split at h
 ·assumption
 ·cases h
def xg (P:Program) (t:TypeId) (k:IntKind):Bool :=
 match P.underlying t with
 | some (.int kL)=>kL == k
 | _=>false
theorem Oa {k:IntKind}(h:xg P t k=true):P.underlying t=some (.int k):=by
 unfold xg at h
 split at h
 ·rename_i kL hk; rw [hk]; have:kL=k:=by simpa using h
  rw [this]
 ·cases h
theorem cU.Tl {k kL:IntKind}{m:Int}(j:Rd g a (.lit (.int k m))) (az:xg P t k=true) (aP:xg P t2 kL=true):cU P g (.convert t t2 a) ty (.lit (.int kL (kL.wrap m))) :=
 .conv j.bn rfl λw=>by simp [convert,run_underlying (Oa az),run_underlying (Oa aP),Conv.intToInt]
inductive Bytes (g:aL):List Operand->List Int->Prop
 | nil:Bytes g [] []
 | cons {x:Operand}{v:Int}{xs:List Operand}{vs:List Int}(h:Rd g x (.lit (.int .u8 v))) (ar:Bytes g xs vs):Bytes g (x::xs) (v::vs)
theorem Bytes.lits {xs:List Operand}{vs:List Int}(h:Bytes g xs vs):tp g xs (vs.map λb=>.int .u8 b):=by
 induction h with
 | nil=>exact .nil
 | cons h _ aM=>exact .cons h aM
end
end Go.Own
namespace Go.Own
open Go Go.RowKit
set_option linter.unusedSectionVars false
variable [cH]
theorem cG.lits {w:World}(vs:List Value) (h:∀ v∈vs,v.oneCell'=true) (iM:cH.q w λ_=>False):cG w (λ_=>False) vs.toArray (pg (vs.map .lit)) (λ_=>ct):=by
 refine ⟨λt x j=>?_,λ_ _ _ h=>h,λ_ _ _ h=>h.elim,λ_ _ h=>h.elim,λ_ h=>h.elim,λt t' z p n m new br cm bh cO h1 _=>?_,iM⟩
 ·simp only [pg,List.getElem?_map] at j;cases hv:vs[t]? with
  | none=>rw [hv] at j; cases j
  | some v =>
   rw [hv] at j;simp only [Option.map_some,Option.some.injEq] at j;subst j;exact ⟨v,by simpa using hv,.tree (.lit (h v (List.mem_of_getElem? hv)) λ_ h=>h)⟩
 ·simp only [pg,List.getElem?_map] at h1;cases hv:vs[t]? with
  | none=>rw [hv] at h1; cases h1
  | some v=>rw [hv] at h1; cases h1
end Go.Own
namespace Go.Own
open Go
set_option linter.unusedSectionVars false
variable [cH]
section
variable {P:Program}{g:aL}{ty:TypeId}{a b:Operand}{t t2:TypeId}{N:cQ}{ops:Array Oper}{K:aL->Prop}{l:List Oper}{d:Nat}{pos:String}{after:Array Edge}{gd:Option (Nat × Bool)}
theorem cU.nF {z n br:Nat}{p:Place}{e:TypeId}(j:Rd g a (.bf z p n)) (ar:fe P t e br=true):cU P g (.call { callee:=.builtin .len,args:=#[a],argTypes:=#[t] }) ty (.lit (.int .i64 n)):=.Ca j.bn ar
theorem cU.js {z n br:Nat}{cs:List ab}{e:TypeId}(j:Rd g a (.bk z n cs)) (ar:fe P t e br=true):cU P g (.call { callee:=.builtin .len,args:=#[a],argTypes:=#[t] }) ty (.lit (.int .i64 n)):=.Cb j.bn ar
end
end Go.Own
namespace Go.Own
open Go
set_option linter.unusedSectionVars false
variable [cH]
end Go.Own
namespace Go.Own
open Go
set_option linter.unusedSectionVars false
variable [cH]
structure bz (α:Type) where
 z:Nat
 cells:α->List ab
 len:∀ a,(cells a).length=z
 bj:∀ a,∀ x∈cells a,cF x
variable {α β S R:Type}
def bp (e:bz α) (l:List α):List ab:=l.flatMap e.cells
abbrev ao (e:bz α) (l:List α):ab:=.own e.z l.length (bp e l)
abbrev ak (e:bz α) (l:List α):ab:=.bk e.z l.length (bp e l)
abbrev ae (n:Int):ab:=.lit (.int .i64 n)
abbrev qJ (n:Int):ab:=.lit (.int .u8 n)
abbrev bc (b:Bool):ab:=.lit (.bool b)
abbrev aw (s:ByteArray):ab:=.lit (.string s)
abbrev aH (n:Int):Int:=IntKind.i64.wrap n
abbrev rn (n:Int):Int:=IntKind.u8.wrap n
theorem oX (e:bz α) (l:List α):(bp e l).length=l.length * e.z:=by
 induction l with
 | nil=>simp [bp]
 | cons a l aM =>
  have:bp e (a::l)=e.cells a++bp e l:=by simp [bp]
  rw [this,List.length_append,e.len,aM,List.length_cons,Nat.add_mul]; omega
theorem pK (e:bz α) (l:List α):∀ x∈bp e l,cF x:=by
 intro x j;obtain ⟨a,_,h⟩:=List.mem_flatMap.1 j;exact e.bj a x h
theorem Fx (e:bz α) (l m:List α):bp e (l++m)=bp e l++bp e m:=by simp [bp]
theorem Ad (e:bz α):∀ (l:List α) (i:Nat),(bp e l).drop (i * e.z)=bp e (l.drop i)
 | l,0=>by simp
 | [],i+1=>by simp [bp]
 | a::l,i+1=>by
  have h:bp e (a::l)=e.cells a++bp e l:=by simp [bp]
  rw [h,List.drop_append,e.len,List.drop_eq_nil_of_le (by rw [e.len,Nat.add_mul]; omega)];have:(i+1) * e.z - e.z=i * e.z:=by rw [Nat.add_mul]; omega
  rw [this,List.nil_append,Ad e l i]; rfl
theorem x1 (e:bz α):∀ (l:List α) (i:Nat),(bp e l).take (i * e.z)=bp e (l.take i)
 | l,0=>by simp [bp]
 | [],i+1=>by simp [bp]
 | a::l,i+1=>by
  have h:bp e (a::l)=e.cells a++bp e l:=by simp [bp]
  rw [h,List.take_append,e.len,List.take_of_length_le (by rw [e.len,Nat.add_mul]; omega)];have:(i+1) * e.z - e.z=i * e.z:=by rw [Nat.add_mul]; omega
  rw [this,x1 e l i]; simp [bp]
def idx (l:List α) (i:Int):Option α:=if 0<=i then l[i.toNat]? else none
theorem r3 {l:List α}{i:Int}{y:α}(h:idx l i=some y):0<=i/\i<l.length/\l[i.toNat]?=some y:=by
 grind [idx]
theorem Ko (e:bz α) {l:List α}{i:Int}{y:α}(h:idx l i=some y):(bp e l).drop (i.toNat * e.z)=e.cells y++bp e (l.drop (i.toNat+1)):=by
 obtain ⟨aO,h1,af⟩:=r3 h
 grind [Ad,List.drop_eq_getElem_cons,bp]
theorem Pv (e:bz α) {l:List α}{i:Int}{y:α}(h:idx l i=some y) {k:Nat}{x:ab}(hk:(e.cells y)[k]?=some x):(bp e l)[i.toNat * e.z+k]?=some x:=by
 have aQ:=(List.getElem?_eq_some_iff.1 hk).1;rw [<- List.getElem?_drop,Ko e h,List.getElem?_append_left aQ]; exact hk
abbrev lim:Nat:=1099511627776
def fuel:Nat:=1000000000000000000
def iter (f:S->Option (S ⊕ R)):Nat->S->Option R
 | 0,_=>none
 | n+1,s=>match f s with
  | none=>none
  | some (.inl cn)=>iter f n cn
  | some (.inr r)=>some r
def b0 (f:S->Option (S ⊕ R)) (s:S):Option R:=iter f fuel s
theorem pZ {o:Option α}{f:α->Option β}{r:β}(h:o.bind f=some r):∃ y,o=some y/\f y=some r:=Option.bind_eq_some_iff.1 h
theorem SZ {b:Bool}{x y o:α}(av:b=true) (h:cond b x y=o):x=o:=by
 grind
theorem SY {b:Bool}{x y o:α}(av:b=false) (h:cond b x y=o):y=o:=by
 grind
theorem hR {b:Bool}{x y o:α}(h:cond b x y=o):(b=true/\x=o)\/(b=false/\y=o):=by
 grind
theorem sm {a b:α}(h:some a=some b):a=b:=by grind
class b4 (x:ab):Prop where bj:cF x
class dj (cs:List ab):Prop where bj:∀ x∈cs,cF x
instance {v:Value}:b4 (.lit v):=⟨.lit⟩
instance:b4 .aT:=⟨.aT⟩
instance:b4 .dead:=⟨.dead⟩
instance {k:Nat × Nat}:b4 (.self k):=⟨.self⟩
instance {t:Nat}{us:List Value}:b4 (.eV t us):=⟨.eV⟩
instance {z n:Nat}{cs:List ab} [h:dj cs]:b4 (.bk z n cs):=⟨.bk h.bj⟩
instance {z n:Nat}{cs:List ab} [h:dj cs]:b4 (.own z n cs):=⟨.own h.bj⟩
instance {cs:List ab} [h:dj cs]:b4 (.obj cs):=⟨.obj h.bj⟩
instance {cs:List ab} [h:dj cs]:b4 (.agg cs):=⟨.agg h.bj⟩
instance {cs:List ab} [h:dj cs]:b4 (.bQ cs):=⟨.bQ h.bj⟩
instance {cs:List ab} [h:dj cs]:b4 (.cK cs):=⟨.cK h.bj⟩
instance {f:Fn}{a b:List ab} [h:dj a] [aJ:dj b]:b4 (.ds f a b):=⟨.ds h.bj aJ.bj⟩
instance:dj []:=⟨by simp⟩
instance {x:ab}{cs:List ab} [h:b4 x] [aJ:dj cs]:dj (x::cs):=⟨pD h.bj aJ.bj⟩
instance {e:bz α}{l:List α}:dj (bp e l):=⟨pK e l⟩
instance {e:bz α}{a:α}:dj (e.cells a):=⟨e.bj a⟩
instance {a b:List ab} [h:dj a] [aJ:dj b]:dj (a++b):=⟨λx j=>(List.mem_append.1 j).elim (h.bj x) (aJ.bj x)⟩
instance {a:List ab}{n:Nat} [h:dj a]:dj (a.drop n):=⟨λx j=>h.bj x (List.mem_of_mem_drop j)⟩
instance {a:List ab}{n:Nat} [h:dj a]:dj (a.take n):=⟨λx j=>h.bj x (List.mem_of_mem_take j)⟩
instance {v:Value}{n:Nat}:dj (List.replicate n (.lit v)):=⟨λx j=>by rw [(List.mem_replicate.1 j).2]; exact .lit⟩
abbrev bz.one (f:α->ab) (h:∀ a,cF (f a)):bz α:=⟨1,λa=>[f a],λ_=>rfl,λa x j=>by rw [List.mem_singleton.1 j]; exact h a⟩
def ax:bz Int:=.one (λn=>ae n) λ_=>.lit
def p4:bz Int:=.one (λn=>qJ n) λ_=>.lit
def cj:bz Bool:=.one (λb=>bc b) λ_=>.lit
def cI:bz ByteArray:=.one (λs=>aw s) λ_=>.lit
def Ms (e:bz α):bz (List α):=.one (λl=>ao e l) λl=>.own (pK e l)
def bG (e:bz α):bz (List α):=.one (λl=>ak e l) λl=>.bk (pK e l)
inductive Trim (b:Bool) (g g2:aL):List (Nat × ab)->Prop
 | nil:Trim b g g2 []
 | n {s:Nat}{x:ab}{l:List (Nat × ab)}(h:g s=some x) [aA:b4 x] (t:Trim b g g2 l):Trim b g g2 ((s,x)::l)
 | r {s:Nat}{x:ab}{l:List (Nat × ab)}(h:g s=some x) (aA:eo g2 x) (au:∀ z p n m new,x≠.bC z p n m new) (t:Trim b g g2 l):Trim b g g2 ((s,x)::l)
 | e {s:Nat}{x y:ab}{l:List (Nat × ab)}(h:g s=some y) (he:y=x) [aA:b4 x] (t:Trim b g g2 l):Trim b g g2 ((s,x)::l)
 | w {s:Nat}{x y:ab}{l:List (Nat × ab)}(av:b=true) (h:g s=some y) (hw:nf y x) [aA:b4 x] (t:Trim b g g2 l):Trim b g g2 ((s,x)::l)
theorem Trim.spec {b:Bool}{g g2:aL}{l:List (Nat × ab)}(h:Trim b g g2 l):∀ t x,get l t=some x->(∃ y,g t=some y/\nf y x/\(b=false->y=x))/\eo g2 x/\∀ z p n m new,x≠.bC z p n m new:=by
 have fr:∀ {x:ab},cF x->∀ z p n m new,x≠.bC z p n m new:=by rintro x h z p n m new rfl; cases h
 induction h with
 | nil=>intro t x j; cases j
 | @n _ _ _ h aA _ aM =>
  intro t x j; simp only [get] at j
  split at j
  ·rename_i e; subst e; cases j; exact ⟨⟨_,h,.refl,λ_=>rfl⟩,.bj aA.bj,fr aA.bj⟩
  ·exact aM t x j
 | r h aA au _ aM =>
  intro t x j; simp only [get] at j
  split at j
  ·rename_i e; subst e; cases j; exact ⟨⟨_,h,.refl,λ_=>rfl⟩,aA,au⟩
  ·exact aM t x j
 | @e _ _ _ _ h he aA _ aM =>
  intro t x j; simp only [get] at j
  split at j
  ·rename_i e; subst e he; cases j; exact ⟨⟨_,h,.refl,λ_=>rfl⟩,.bj aA.bj,fr aA.bj⟩
  ·exact aM t x j
 | @w _ _ _ _ av h hw aA _ aM =>
  intro t x j; simp only [get] at j
  split at j
  ·rename_i e; subst e; cases j; exact ⟨⟨_,h,hw,λh=>by rw [av] at h; cases h⟩,.bj aA.bj,fr aA.bj⟩
  ·exact aM t x j
theorem Trim.eH {b:Bool}{g:aL}{l:List (Nat × ab)}(h:Trim b g (get l) l):km g (get l) :=
 ⟨λt x j=>by obtain ⟨⟨y,h1,af,_⟩,_⟩:=h.spec t x j; exact ⟨y,h1,af⟩,λt x j=>(h.spec t x j).2.1,λt z q n m new j=>(h.spec t _ j).2.2 _ _ _ _ _ rfl⟩
theorem Trim.keep {g:aL}{l:List (Nat × ab)}(h:Trim false g (get l) l):hy g (get l) :=
 ⟨λt x j=>by obtain ⟨⟨y,h1,_,aK⟩,_⟩:=h.spec t x j; rw [<- aK rfl]; exact h1,λt x j=>(h.spec t x j).2.1,λt z q n m new j=>(h.spec t _ j).2.2 _ _ _ _ _ rfl⟩
section
variable {P:Program}{N:cQ}{ops:Array Oper}{g:aL}{K:aL->Prop}{l:List Oper}{d:Nat}{op:Op}{ty:TypeId}{pos:String}{after:Array Edge}{x:ab}{gd:Option (Nat × Bool)}
def jA (P:Program) (N:cQ) (c:Code) (G G1:List (Nat × ab)):Prop:=W P N c (get G) λe g'=>e=.normal/\km g' (get G1)
theorem W.bS {A B:Code}{G G1:List (Nat × ab)}{Φ:Exit->aL->Prop}(h1:jA P N A G G1) (af:W P N B (get G1) Φ):W P N (.seq A B) (get G) Φ:=by
 refine W.seq (W.out h1 λe g' h=>⟨get G1,h.2,?_⟩);obtain ⟨rfl,_⟩:=h;exact af
theorem W.bW {A B:Code}{G:List (Nat × ab)}{Φ:Exit->aL->Prop}(h:W P N A (get G) (o1 (λg1=>W P N B g1 Φ) Φ)):W P N (.seq A B) (get G) Φ:=W.seq h
theorem jA.rg {id:Nat}{l:List Oper}{G G1:List (Nat × ab)}(h:aD P N l.toArray l (get G) λg'=>km g' (get G1)):jA P N (.region id l.toArray false) G G1 :=
 W.Ac (λi hi=>by obtain ⟨g',h1,af⟩:=h i hi; exact ⟨g',h1,rfl,af⟩)
theorem aD.fin {G1:List (Nat × ab)}(h:Trim true g (get G1) G1):aD P N ops [] g λg'=>km g' (get G1):=.nil h.eH
theorem aD.Ki {G1:List (Nat × ab)}(h:Trim false g (get G1) G1) (hk:aD P N ops l (get G1) K):aD P N ops l g K:=.forget h.keep hk
theorem aD.v (au:b8 P g op ty x) (a_:N.ok d=true) (aS:g d=none) (aN:fb g ops gd) (hk:aD P N ops l (cJ g d x) K):aD P N ops (⟨some d,op,ty,pos,after,gd⟩::l) g K:=.Z3 au a_ aS aN hk
theorem aD.c (au:cZ P g op x) (a_:N.ok d=true) (aS:g d=none) (aN:fb g ops gd) (hk:aD P N ops l (cJ g d x) K):aD P N ops (⟨some d,op,ty,pos,after,gd⟩::l) g K:=.call au a_ aS aN hk
theorem fb.l9 {J t:Nat}{b c:Bool}(h:(ops[J]?).bind (·.dst)=some t) (aN:g t=some (.lit (.bool c))) (av:c=b):fb g ops (some (J,b)):=by subst av; exact .yes h aN
theorem aD.ps {J t':Nat}{b c:Bool}(h:(ops[J]?).bind (·.dst)=some t') (aN:g t'=some (.lit (.bool c))) (av:c=!b) (a_:N.ok d=true) (aS:g d=none) (hk:aD P N ops l (cJ g d (.bQ [])) K):aD P N ops (⟨some d,op,ty,pos,after,some (J,b)⟩::l) g K:=by
 subst av; exact .Ai rfl a_ aS (r:=some (.bQ [])) (.inr (.inl ⟨⟨t',h,.inl ⟨_,aN,by cases b <;> rfl⟩⟩,rfl⟩)) hk
theorem aD.pu {J t':Nat}{b:Bool}(h:(ops[J]?).bind (·.dst)=some t') (aN:g t'=some (.bQ [])) (a_:N.ok d=true) (aS:g d=none) (hk:aD P N ops l (cJ g d (.bQ [])) K):aD P N ops (⟨some d,op,ty,pos,after,some (J,b)⟩::l) g K :=
 .Ai rfl a_ aS (r:=some (.bQ [])) (.inr (.inl ⟨⟨t',h,.inr ⟨aN,rfl⟩⟩,rfl⟩)) hk
theorem jA.skip {G G1:List (Nat × ab)}(h:Trim true (get G) (get G1) G1):jA P N .skip G G1:=W.skip ⟨rfl,h.eH⟩
theorem jA.hR {t:Nat}{A B:Code}{b:Bool}{G G1:List (Nat × ab)}(aa:get G t=some (bc b)) (dt:b=true->jA P N A G G1) (aI:b=false->jA P N B G G1):jA P N (.cond (.tmp t) A B) G G1:=W.Me (.lit aa) dt aI
theorem W.hR {t:Nat}{A B:Code}{b:Bool}{G:List (Nat × ab)}{Φ:Exit->aL->Prop}(aa:get G t=some (bc b)) (dt:b=true->W P N A (get G) Φ) (aI:b=false->W P N B (get G) Φ):W P N (.cond (.tmp t) A B) (get G) Φ:=W.Me (.lit aa) dt aI
theorem jA.bS {A B:Code}{G G1 G2:List (Nat × ab)}(h1:jA P N A G G1) (af:jA P N B G1 G2):jA P N (.seq A B) G G2:=W.bS h1 af
theorem jA.yR {id:Nat}{c:Code}{G G1:List (Nat × ab)}(h:W P N c (get G) λe g'=>(e=.normal\/e=.exit id)/\km g' (get G1)):jA P N (.block id c) G G1:=by
 refine W.block (h.mono ?_);rintro e g' ⟨rfl | rfl,h⟩
 ·exact ⟨rfl,h⟩
 ·show if id=id then _ else _
  grind
end
end Go.Own
namespace Go.Own
open Go
set_option linter.unusedSectionVars false
variable [cH]
variable {α β:Type}
def hG (s:ByteArray) (m:Int):Option Int:=if 0<=m/\m<s.size then some (ly s m) else none
def oy (s:ByteArray) (m n:Int):Option ByteArray:=if 0<=m/\m<=n/\n<=s.size then some (oz s m n) else none
def eG (s u:ByteArray):Option ByteArray:=if s.size+u.size<=4611686018427387904 then some (s++u) else none
def Fo (m n:Int):Option Int:=if n=0 then none else some (aH (m.tdiv n))
def q_ (m n:Int):Option Int:=if n=0 then none else some (m.tmod n)
def m_ (l:List α) (m n:Int):Option (List α):=if 0<=m/\m<=n/\n<=l.length then some ((l.drop m.toNat).take (n - m).toNat) else none
def lR:ab->Bool
 | .lit _ | .aT | .bk .. | .cK _ | .ds .. | .ptr .. | .bf .. | .sub .. | .hq .. | .imp ..=>true
 | _=>false
theorem TU {d:Nat}{p:Place}{x:ab}(h:lR x=true):fL d p x=x:=by
 cases x <;> simp [lR] at h <;> cases d <;> rfl
theorem TV {t:Nat}{x:ab}(h:lR x=true):oc t x=x:=by
 cases x <;> simp [lR] at h <;> rfl
theorem A7 {d:Nat}{q:Nat->Place}{cs:List ab}(h:cs.all lR=true):(cs.mapIdx λi x=>fL d (q i) x)=cs:=by
 apply List.ext_getElem?;intro k;rw [List.getElem?_mapIdx];cases hk:cs[k]? with
 | none=>rfl
 | some x=>simp only [Option.map_some,TU (List.all_eq_true.1 h x (List.mem_of_getElem? hk))]
section
variable {P:Program}{N:cQ}{ops:Array Oper}{g:aL}{K:aL->Prop}{l:List Oper}{d:Nat}{ty t t2:TypeId}{a b c:Operand}{k kL:IntKind}{m n:Int}{s u:ByteArray}{p q e:Bool}
theorem Rd.f {t:Nat}{x:ab}(h:g t=some x) (aS:lR x=true):Own.bn g (.tmp t)=some x:=by simp only [Own.bn,h,Option.map_some,TV aS]
theorem Rd.ea {t:Nat}{cs:List ab}(h:g t=some (.agg cs)) (aS:cs.all lR=true):Rd g (.tmp t) (.agg cs):=.agg h (A7 aS)
theorem Rd.KH {t:Nat}{cs:List ab}(h:g t=some (.bQ cs)) (aS:cs.all lR=true):Rd g (.tmp t) (.bQ cs):=.bQ h (A7 aS)
namespace O
theorem a6 {y:ab}(h:Rd g a y):b8 P g (.move a) ty y:=.eK (.move h.bn)
theorem dI {y:ab}(h:Rd g a y):b8 P g (.assign a) ty y:=.eK (.assign h.bn)
theorem jX {y:ab}(aa:Rd g c (bc p)) (av:p=true) (h:Rd g a y):b8 P g (.pick c a b) ty y:=by subst av; exact .eK (.Yr aa h)
theorem kh {y:ab}(aa:Rd g c (bc p)) (av:p=false) (h:Rd g b y):b8 P g (.pick c a b) ty y:=by subst av; exact .eK (.Yq aa h)
theorem add (j:Rd g a (.lit (.int k m))) (al:Rd g b (.lit (.int k n))):b8 P g (.binOp .add t a b t2) ty (.lit (.int k (k.wrap (m+n)))):=.eK (.add j al)
theorem sub (j:Rd g a (.lit (.int k m))) (al:Rd g b (.lit (.int k n))):b8 P g (.binOp .sub t a b t2) ty (.lit (.int k (k.wrap (m - n)))):=.eK (.Zr j al)
theorem mul (j:Rd g a (.lit (.int k m))) (al:Rd g b (.lit (.int k n))):b8 P g (.binOp .mul t a b t2) ty (.lit (.int k (k.wrap (m * n)))):=.eK (.mul j al)
theorem quo {r:Int}(j:Rd g a (ae m)) (al:Rd g b (ae n)) (h:Fo m n=some r):b8 P g (.binOp .quo t a b t2) ty (ae r):=by
 unfold Fo at h
 split at h
 ·cases h
 ·cases h; exact .eK (.quo j al (by assumption))
theorem rem {r:Int}(j:Rd g a (ae m)) (al:Rd g b (ae n)) (h:q_ m n=some r):b8 P g (.binOp .rem t a b t2) ty (ae r):=by
 unfold q_ at h
 split at h
 ·cases h
 ·cases h; exact .eK (.rem j al (by assumption))
theorem lss (j:Rd g a (.lit (.int k m))) (al:Rd g b (.lit (.int k n))):b8 P g (.binOp .lss t a b t2) ty (bc (decide (m<n))):=.eK (.lss j al (by simp))
theorem leq (j:Rd g a (.lit (.int k m))) (al:Rd g b (.lit (.int k n))):b8 P g (.binOp .leq t a b t2) ty (bc (decide (m<=n))):=.eK (.leq j al (by simp))
theorem gtr (j:Rd g a (.lit (.int k m))) (al:Rd g b (.lit (.int k n))):b8 P g (.binOp .gtr t a b t2) ty (bc (decide (n<m))):=.eK (.gtr j al (by simp))
theorem geq (j:Rd g a (.lit (.int k m))) (al:Rd g b (.lit (.int k n))):b8 P g (.binOp .geq t a b t2) ty (bc (decide (n<=m))):=.eK (.geq j al (by simp))
theorem eql (j:Rd g a (.lit (.int k m))) (al:Rd g b (.lit (.int k n))):b8 P g (.binOp .eql t a b t2) ty (bc (decide (m=n))):=.eK (.eql j al (by simp))
theorem neq (j:Rd g a (.lit (.int k m))) (al:Rd g b (.lit (.int k n))):b8 P g (.binOp .neq t a b t2) ty (bc (!decide (m=n))):=.eK (.neq j al (by simp))
theorem oB (j:Rd g a (aw s)) (al:Rd g b (aw u)):b8 P g (.binOp .eql t a b t2) ty (bc (decide (s=u))):=.eK (.oB j al (by simp))
theorem nJ (j:Rd g a (aw s)) (al:Rd g b (aw u)):b8 P g (.binOp .neq t a b t2) ty (bc (!decide (s=u))):=.eK (.nJ j al (by simp))
theorem D1 (j:Rd g a (bc p)) (al:Rd g b (bc q)) (ar:GJ P t=true):b8 P g (.binOp .eql t a b t2) ty (bc (p == q)):=.eK (.bin j.bn al.bn rfl λw=>YZ (Si ar) w)
theorem neg (j:Rd g a (.lit (.int k m))):b8 P g (.unOp .neg t a) ty (.lit (.int k (k.wrap (-m)))):=.eK (.un j.bn rfl λw=>by simp [Op.unary,Op.intArith])
theorem not (j:Rd g a (bc p)):b8 P g (.unOp .not t a) ty (bc (!p)):=.eK (.not j)
theorem Ts (j:Rd g a (.lit (.int k m))) (az:xg P t k=true) (aP:xg P t2 kL=true):b8 P g (.convert t t2 a) ty (.lit (.int kL (kL.wrap m))):=.eK (.Tl j az aP)
theorem cat {r:ByteArray}(j:Rd g a (aw s)) (al:Rd g b (aw u)) (h:eG s u=some r):b8 P g (.binOp .add t a b t2) ty (aw r):=by
 unfold eG at h
 split at h
 ·cases h; exact .eK (.cat j al (by omega))
 ·cases h
theorem ux (j:Rd g a (aw s)) (ar:oZ P t=true):b8 P g (.call { callee:=.builtin .len,args:=#[a],argTypes:=#[t] }) ty (ae s.size):=.eK (.ux j ar)
theorem at' {r:Int}(j:Rd g a (aw s)) (al:Rd g b (.lit (.int k m))) (ar:oZ P t=true) (h:hG s m=some r):b8 P g (.index t a b) ty (qJ r):=by
 unfold hG at h
 split at h
 ·cases h; exact .eK (.R6 j al ar (by assumption))
 ·cases h
theorem ta {r:ByteArray}{qk:IntKind}(j:Rd g a (aw s)) (ai:Rd g b (.lit (.int k m))) (bH:Rd g c (.lit (.int qk n))) (ar:oZ P t=true) (h:oy s m n=some r):b8 P g (.slice t a (some b) (some c) none) ty (aw r):=by
 unfold oy at h
 split at h
 ·cases h; exact .eK (.P7 j ai bH ar (by assumption))
 ·cases h
theorem FC {r:ByteArray}(j:Rd g a (aw s)) (bH:Rd g c (.lit (.int k n))) (ar:oZ P t=true) (h:oy s 0 n=some r):b8 P g (.slice t a none (some c) none) ty (aw r):=by
 unfold oy at h
 split at h
 ·rename_i aa; cases h; exact .eK (.Zj j bH ar ⟨aa.2.1,aa.2.2⟩)
 ·cases h
theorem FD {r:ByteArray}(j:Rd g a (aw s)) (ai:Rd g b (.lit (.int k m))) (ar:oZ P t=true) (h:oy s m s.size=some r):b8 P g (.slice t a (some b) none none) ty (aw r):=by
 unfold oy at h
 split at h
 ·rename_i aa; cases h; exact .eK (.Zk j ai ar ⟨aa.1,aa.2.1⟩)
 ·cases h
theorem js {z br n:Nat}{cs:List ab}{e:TypeId}(j:Rd g a (.bk z n cs)) (ar:fe P t e br=true):b8 P g (.call { callee:=.builtin .len,args:=#[a],argTypes:=#[t] }) ty (ae n):=.eK (.Cb j.bn ar)
theorem qV {en:bz α}{L:List α}{y:α}{e:TypeId}(j:Rd g a (.bk en.z L.length (bp en L))) (al:Rd g b (.lit (.int k m))) (ar:fe P t e en.z=true) (h:idx L m=some y):b8 P g (.indexAddr t a b) ty (.cK (en.cells y++bp en (L.drop (m.toNat+1)))):=by
 rw [<- Ko en h];obtain ⟨aO,h1,_⟩:=r3 h;obtain ⟨J,rfl⟩:=Int.eq_ofNat_of_zero_le aO;exact .eK (.EM j.bn al.bn ar (by omega))
theorem Zg {en:bz α}{L r:List α}{e:TypeId}{qk:IntKind}(j:Rd g a (.bk en.z L.length (bp en L))) (ai:Rd g b (.lit (.int k m))) (bH:Rd g c (.lit (.int qk n))) (ar:fe P t e en.z=true) (h:m_ L m n=some r):b8 P g (.slice t a (some b) (some c) none) ty (ak en r):=by
 unfold m_ at h
 split at h
 ·rename_i aa;obtain ⟨aO,h1,af⟩:=aa;cases h;obtain ⟨i,rfl⟩:=Int.eq_ofNat_of_zero_le aO;obtain ⟨J,rfl⟩:=Int.eq_ofNat_of_zero_le (show 0<=n by omega);have:=cU.Ag (P:=P) (ty:=ty) (t:=t) (l:=i) (h:=J) (lo:=some b) (hi:=some c) j.bn ⟨_,ai.bn⟩ ⟨_,bH.bn⟩ ar (by omega) (by omega);rw [Ad,x1] at this;have cw:(((L.drop i).take (J - i)).length)=J - i:=by rw [List.length_take,List.length_drop]; omega
  have cd:((J:Int) - (i:Int)).toNat=J - i:=by omega
  rw [Int.toNat_natCast,cd];unfold ak;rw [cw];exact .eK this
 ·cases h
theorem Zh {en:bz α}{L r:List α}{e:TypeId}(j:Rd g a (.bk en.z L.length (bp en L))) (bH:Rd g c (.lit (.int k n))) (ar:fe P t e en.z=true) (h:m_ L 0 n=some r):b8 P g (.slice t a none (some c) none) ty (ak en r):=by
 unfold m_ at h
 split at h
 ·rename_i aa;obtain ⟨_,h1,af⟩:=aa;cases h;obtain ⟨J,rfl⟩:=Int.eq_ofNat_of_zero_le h1;have:=cU.Ag (P:=P) (ty:=ty) (t:=t) (l:=0) (h:=J) (lo:=none) (hi:=some c) j.bn rfl ⟨_,bH.bn⟩ ar (by omega) (by omega);rw [Ad,x1] at this;have cw:(((L.drop 0).take (J - 0)).length)=J - 0:=by rw [List.length_take,List.length_drop]; omega
  have cd:((J:Int) - 0).toNat=J - 0:=by omega
  rw [cd];unfold ak;have fC:(0:Int).toNat=0:=rfl;rw [fC,cw];exact .eK this
 ·cases h
theorem Zi {en:bz α}{L r:List α}{e:TypeId}(j:Rd g a (.bk en.z L.length (bp en L))) (ai:Rd g b (.lit (.int k m))) (ar:fe P t e en.z=true) (h:m_ L m L.length=some r):b8 P g (.slice t a (some b) none none) ty (ak en r):=by
 unfold m_ at h
 split at h
 ·rename_i aa;obtain ⟨aO,h1,af⟩:=aa;cases h;obtain ⟨i,rfl⟩:=Int.eq_ofNat_of_zero_le aO;have:=cU.Ag (P:=P) (ty:=ty) (t:=t) (l:=i) (h:=L.length) (lo:=some b) (hi:=none) j.bn ⟨_,ai.bn⟩ rfl ar (by omega) (by omega);rw [Ad,x1] at this;have cw:(((L.drop i).take (L.length - i)).length)=L.length - i:=by rw [List.length_take,List.length_drop]; omega
  have cd:((L.length:Int) - (i:Int)).toNat=L.length - i:=by omega
  rw [Int.toNat_natCast,cd];unfold ak;rw [cw];exact .eK this
 ·cases h
theorem A3 {cn f off:Nat}{cs:List ab}(j:Rd g a (.cK cs)) (aS:iX P cn f off t=true):b8 P g (.fieldAddr cn a f) ty (.cK (cs.drop off)):=.eK (.D6 j.bn aS)
theorem B' {x:ab}{cs:List ab}(j:Rd g a (.cK cs)) (ar:j' P t=true) (aa:cs.head?=some x):b8 P g (.load t a) ty x:=by
 cases cs with
 | nil=>cases aa
 | cons y cs=>cases aa; exact .eK (.E0 j.bn ar)
theorem sQ {z:Nat}{cs cs':List ab}(j:Rd g a (.cK cs)) (ar:iH P t z=true) (aa:cs.take z=cs') (aW:cs'.length=z):b8 P g (.load t a) ty (.agg cs'):=by
 subst aa;exact .eK (.E1 j.bn ar (by rw [List.length_take] at aW; omega))
theorem xw {cs:List ab}(j:Rd g a (.cK cs)):b8 P g (.nilCheck a) ty (.cK cs):=.eK (.qm j.bn)
theorem eD {p:Place}{k:Nat}(j:Rd g a (.ptr p k)):b8 P g (.nilCheck a) ty (.ptr p k):=.eK (.E9 j.bn)
theorem fd {cn f off:Nat}{cs:List ab}{x:ab}(j:Rd g a (.agg cs)) (aS:iX P cn f off t=true) (ar:j' P t=true) (al:cs[off]?=some x):b8 P g (.field cn a f) ty x:=.eK (.D5 j.bn aS ar al)
theorem ex {p i:Nat}{cs:List ab}{x y:ab}(j:g p=some (.bQ cs)) (al:cs[i]?=some x) (ah:fL 1 (Place.push ⟨p,[]⟩ i) x=y):b8 P g (.extract (.tmp p) i) ty y :=
 .eK (.D2 (cs:=cs.mapIdx λi x=>fL 1 (Place.push ⟨p,[]⟩ i) x) (by simp [bn,j,oc,fL]) (by simp [al,ah]))
theorem box {e:TypeId}{y:ab}{cs:List ab}(j:Rd g a y) (aa:ji y=some cs):b8 P g (.box e a) ty (.obj cs):=.q4 (.box j.bn aa)
theorem nm {cn f off k r:Nat}{cs:List ab}(az:g r=some (.obj cs)) (j:Rd g a (.ptr ⟨r,[]⟩ k)) (aS:iX P cn f off t=true) (aQ:Nat.blt (k+off) cs.length=true):b8 P g (.fieldAddr cn a f) ty (.ptr ⟨r,[]⟩ (k+off)) :=
 .eK (.A5 j.bn aS ⟨.obj cs,by simp [bt,az,ab.at],0,0,cs,.inr rfl,by simpa using aQ⟩)
theorem xp {k r:Nat}{cs:List ab}{x y:ab}(az:g r=some (.obj cs)) (j:Rd g a (.ptr ⟨r,[]⟩ k)) (ar:j' P t=true) (aa:cs[k]?=some x) (al:fL 0 ⟨r,[k]⟩ x=y):b8 P g (.load t a) ty y:=by
 subst al;exact .eK (.Cf (p:=⟨r,[]⟩) j.bn ar (by simp [bt,az,ab.at,Place.push,ab.kids,aa]))
theorem fa {k r z:Nat}{cs cs':List ab}(az:g r=some (.obj cs)) (j:Rd g a (.ptr ⟨r,[]⟩ k)) (ar:iH P t z=true) (hk:Nat.ble (k+z) cs.length=true) (aa:(((cs.drop k).take z).mapIdx λi x=>fL 0 ⟨r,[k+i]⟩ x)=cs'):b8 P g (.load t a) ty (.agg cs'):=by
 subst aa;exact .eK (.xr (p:=⟨r,[]⟩) (n:=0) (z:=0) j.bn ar (by simp [bt,az,ab.at]) (.inr rfl) (Nat.le_of_ble_eq_true hk))
end O
theorem rA.c9 {x:Operand}{y:ab}{xs:List Operand}{ys:List ab}(h:Rd g x y) [aA:b4 y] (ar:rA g xs ys):rA g (x::xs) (y::ys):=.cons h aA.bj ar
theorem cZ.go {xs:List Operand}{gl:Array TypeId}{f:FuncId}{ys:List ab}{outs:List (Option ab)}{res:ab}(j:rA g xs ys) (g_:bY P f ys outs res) (aS:iI P f=true) (aV:sV outs=true) [ah:b4 res] :
  cZ P g (.call { callee:=.value (.func f),args:=xs.toArray,argTypes:=gl }) res:=.TD g_ aS j aV ah.bj
inductive u2 (P:Program) (g:aL):List ResultVar->List ab->Prop
 | nil:u2 P g [] []
 | f {t:Nat}{x:ab}{rs:List ResultVar}{xs:List ab}(h:g t=some x) (aS:lR x=true) [aA:b4 x] (ar:u2 P g rs xs):u2 P g (.tmp t::rs) (x::xs)
 | c {a:Nat}{t:TypeId}{z:Nat}{cs:List ab}{rs:List ResultVar}{xs:List ab}(h:g a=some (.obj cs)) (ar:iH P t z=true) (aW:cs.length=z) (aS:(0<z&&cs.all lR)=true) [aA:dj cs] (ah:u2 P g rs xs):u2 P g (.cell a t::rs) (.agg cs::xs)
theorem u2.spec {rs:List ResultVar}{xs:List ab}(h:u2 P g rs xs):rB P g rs xs/\∀ x∈xs,cF x:=by
 induction h with
 | nil=>exact ⟨.nil,by simp⟩
 | @f t x rs xs h aS aA _ aM=>exact ⟨.cons (.tmp (Rd.f h aS)) aM.1,pD aA.bj aM.2⟩
 | @c a t z cs rs xs h ar aW aS aA _ aM =>
  simp only [Bool.and_eq_true,decide_eq_true_eq] at aS;refine ⟨.cons ?_ aM.1,pD (.agg aA.bj) aM.2⟩;have j:Own.bn g (.tmp a)=some (.ptr ⟨a,[]⟩ 0):=by
   cases cs with
   | nil=>simp at aW; omega
   | cons c cs=>simp [Own.bn,h,oc,fL]
  have:=cU.xr (P:=P) (ty:=t) (p:=⟨a,[]⟩) (n:=0) (z:=0) j ar (by simp only [bt,h,ab.at]) (.inr rfl) (show 0+z<=cs.length by omega);have hh:((cs.drop 0).take z).mapIdx (λi x=>fL 0 (Place.push ⟨a,[]⟩ (0+i)) x)=cs:=by
   rw [List.drop_zero,List.take_of_length_le (by omega)];exact A7 aS.2
  rw [hh] at this;exact .cell this
theorem Fin.rt {rs:List ResultVar}{xs:List ab}{res:ab}{outs:List (Option ab)}{n:Nat}(h:u2 P g rs xs) (he:oW xs=res) (aV:sV outs=true) (ai:outs.length=n):Fin P N rs n outs res .ret g :=
 ⟨.inr rfl,⟨xs,xs,g,h.spec.1,.bj h.spec.2,he.symm,λk x hk=>absurd hk (E' aV k x)⟩,ai⟩
end
def xA:Nat->List ab->List (Nat × ab)
 | _,[]=>[]
 | i,x::l=>(i,x)::xA (i+1) l
theorem MR:∀ (l:List ab) (i t:Nat),get (xA i l) t=if i<=t then l[t - i]? else none
 | [],i,t=>by simp [xA,get]
 | x::l,i,t=>by
  simp only [xA,get];by_cases h:t=i
  ·subst h; simp
  ·rw [if_neg h,MR l (i+1) t];by_cases h1:i+1<=t
   ·rw [if_pos h1,if_pos (by omega)];have:t - i=(t - (i+1))+1:=by omega
    rw [this,List.getElem?_cons_succ]
   ·rw [if_neg h1,if_neg (by omega)]
theorem RT (args:List ab):pg args=get (xA 0 args):=funext λt=>by rw [MR]; simp [pg]
theorem bY.go {P:Program}{f:FuncId}{fn:Func}{c:Code}{args:List ab}{outs:List (Option ab)}{res:ab}{N:cQ}(aS:P.funcs[f]?=some fn) (av:fn.body=some c) (a_:fn.ntmps=N.size) (aR:Nat.ble args.length N.size=true) (hlen:outs.length=args.length)
  (hw:W P N c (get (xA 0 args)) (Fin P N fn.results.toList args.length outs res)):bY P f args outs res :=
 .fin aS av a_ aR hlen (by rw [RT]; exact hw)
end Go.Own
namespace Go.Own
open Go
set_option linter.unusedSectionVars false
variable [cH]
section
variable {P:Program}{N:cQ}{Φ oi:Exit->aL->Prop}{Ψ:aL->Prop}{G G1:List (Nat × ab)}{A B c:Code}{id k:Nat}{e:Exit}{S R:Type}
theorem jA.dC (h:Trim true (get G) (get G1) G1):jA P N .skip G G1:=.skip h
inductive ib:aL->List (Nat × ab)->Prop
 | hW {G:List (Nat × ab)}:ib (get G) G
 | eH {g g1:aL}{G:List (Nat × ab)}(h:km g g1) (av:ib g1 G):ib g G
theorem ib.trans {g:aL}{G G1:List (Nat × ab)}(h:ib g G) (h1:ib (get G) G1):ib g G1:=by
 induction h with
 | hW=>exact h1
 | eH h _ aM=>exact .eH h (aM h1)
inductive Aw (P:Program) (N:cQ):aL->Exit->(Exit->aL->Prop)->Prop
 | hW {g:aL}{e:Exit}{Φ:Exit->aL->Prop}(h:Φ e g):Aw P N g e Φ
 | eH {g g1:aL}{e:Exit}{Φ:Exit->aL->Prop}(hw:km g g1) (h:Aw P N g1 e Φ):Aw P N g e Φ
theorem W.outs {g:aL}(h:W P N c g Φ) (nz:∀ e g',Φ e g'->Aw P N g' e oi):W P N c g oi:=by
 intro a w I Fs Q bm a_ dH;refine h bm a_ λe g' b1 w' au aA=>?_;have rP:=nz e g' au;clear au nz;revert aA
 induction rP with
 | hW h=>exact λaA=>dH _ _ _ _ h aA
 | eH hw _ aM =>
  intro aA;refine aM dH ?_;obtain ⟨h1,af,I',b3,d_,bR⟩:=aA;obtain ⟨iT,h7,gA⟩:=d_.eH hw;exact ⟨h1,af,I',iT,h7,bR.ep,bR.more,bR.new,λc ⟨t,aa⟩=>bR.own c ⟨t,gA t c aa⟩⟩
def aF (e:Exit) (Φ:Exit->aL->Prop) (G:List (Nat × ab)):Prop:=∀ g,ib g G->Φ e g
theorem W.be {g:aL}(h:W P N c (get G) Φ) (av:ib g G):W P N c g Φ:=by
 induction av with
 | hW=>exact h
 | eH hw _ aM=>exact (aM h).weaken hw
theorem pd.be {g:aL}(h:pd P N c (get G) Φ) (av:ib g G):pd P N c g Φ:=by
 induction av with
 | hW=>exact h
 | eH hw _ aM=>exact (aM h).weaken hw
theorem aF.bS (h:W P N B (get G) Φ):aF .normal (o1 (λg1=>W P N B g1 Φ) oi) G:=λ_ av=>ZI (h.be av)
theorem aF.gC (h:aF (.exit k) oi G):aF (.exit k) (o1 Ψ oi) G:=λg av=>ZH (h g av)
theorem aF.kk (h:aF .ret oi G):aF .ret (o1 Ψ oi) G:=λg av=>ZJ (h g av)
theorem aF.cD (h:aF .normal Φ G):aF .normal (lZ id Φ) G:=λg av=>Xo (h g av)
theorem aF.gw (h:aF .normal Φ G):aF (.exit id) (lZ id Φ) G:=λg av=>Xm (h g av)
theorem aF.GI (hk:Nat.beq k id=false) (h:aF (.exit k) Φ G):aF (.exit k) (lZ id Φ) G:=λg av=>Xn hk (h g av)
theorem aF.ph (h:aF .ret Φ G):aF .ret (lZ id Φ) G:=λg av=>Xp (h g av)
theorem W.gD (h:aF (.exit k) Φ G):W P N (.exit k) (get G) Φ:=W.exit (h _ .hW)
theorem W.dC (h:aF .normal Φ G):W P N .skip (get G) Φ:=W.skip (h _ .hW)
theorem W.rt (h:aF .ret Φ G):W P N .ret (get G) Φ:=W.ret (h _ .hW)
theorem W.rx {id:Nat}{l:List Oper}(G1:List (Nat × ab)) (h:aD P N l.toArray l (get G) λg'=>km g' (get G1)) (hk:aF .normal Φ G1):W P N (.region id l.toArray false) (get G) Φ :=
 W.Ac (λi hi=>by obtain ⟨g',h1,af⟩:=h i hi; exact ⟨g',h1,hk g' (.eH af .hW)⟩)
theorem W.dx {G1:List (Nat × ab)}(h:Trim true (get G) (get G1) G1) (hw:W P N c (get G1) Φ):W P N c (get G) Φ:=hw.weaken h.eH
theorem W.st {G:List (Nat × ab)}(G1:List (Nat × ab)) (h:W P N c (get G1) Φ) (e:G1=G:=by rfl):W P N c (get G) Φ:=by subst e; exact h
theorem W.cD (h:W P N c (get G) (lZ id Φ)):W P N (.block id c) (get G) Φ:=W.block h
theorem W.cB (G1:List (Nat × ab)) (h:W P N c (get G) λe g=>e=.normal/\ib g G1) (hk:aF .normal Φ G1):W P N c (get G) Φ :=
 h.mono λe g ⟨he,av⟩=>by subst he; exact hk g av
theorem aF.cB (h:Trim true (get G) (get G1) G1):aF .normal (λe g=>e=.normal/\ib g G1) G:=λ_ av=>⟨rfl,av.trans (.eH h.eH .hW)⟩
def kY (G:S->List (Nat × ab)) (Ψ:R->Exit->aL->Prop):S ⊕ R->Exit->aL->Prop
 | .inl s,e,g=>e=.normal/\ib g (G s)
 | .inr r,e,g=>e≠.normal/\Ψ r e g
theorem pd.it {f:S->Option (S ⊕ R)}{G:S->List (Nat × ab)}{Ψ:R->Exit->aL->Prop}(av:∀ s o,f s=some o->W P N c (get (G s)) (kY G Ψ o)) :
  ∀ (n:Nat) (s:S) (r:R),Own.iter f n s=some r->pd P N c (get (G s)) (Ψ r)
 | 0,_,_,h=>by simp [Own.iter] at h
 | n+1,s,r,h=>by
  simp only [Own.iter] at h;cases aS:f s with
  | none=>rw [aS] at h; cases h
  | some o =>
   rw [aS] at h;refine .step ((av s o aS).mono λe g' ah=>?_);cases o with
   | inl cn =>
    obtain ⟨rfl,hw⟩:=ah;exact (pd.it av n cn r h).be hw
   | inr cW =>
    cases h;obtain ⟨aA,hw⟩:=ah;cases e with
    | normal=>exact absurd rfl aA
    | _=>exact hw
theorem W.dY {f:S->Option (S ⊕ R)}{s:S}{r:R}(G:S->List (Nat × ab)) (Ψ:R->Exit->aL->Prop) (h:b0 f s=some r) (av:∀ s o,f s=some o->W P N c (get (G s)) (kY G Ψ o)) (hk:∀ e g,Ψ r e g->Φ e g):W P N (.loop c) (get (G s)) Φ :=
 (W.loop (pd.it av fuel s r h)).mono hk
theorem W.Ov {f:S->Option (S ⊕ R)}{s:S}{r:R}(G:S->List (Nat × ab)) (id:Nat) (ma:R->List (Nat × ab)) (h:b0 f s=some r) (av:∀ s o,f s=some o->W P N c (get (G s)) (kY G (λr e g=>e=.exit id/\ib g (ma r)) o)) (hk:aF (.exit id) Φ (ma r)):W P N (.loop c) (get (G s)) Φ :=
 .dY G _ h av λe g ⟨he,aN⟩=>by subst he; exact hk g aN
theorem W.Ow {gP:Type}{f:S->Option (S ⊕ (R ⊕ gP))}{s:S}{r:R ⊕ gP}(G:S->List (Nat × ab)) (id:Nat) (ma:R->List (Nat × ab)) (h3:gP->List (Nat × ab)) (h:b0 f s=some r)
  (av:∀ s o,f s=some o->W P N c (get (G s)) (kY G (λ(r:R ⊕ gP) e g=>match r with | .inl r=>e=.exit id/\ib g (ma r) | .inr r=>e=.ret/\ib g (h3 r)) o))
  (j:∀ x,r=.inl x->aF (.exit id) Φ (ma x)) (ah:∀ x,r=.inr x->aF .ret Φ (h3 x)):W P N (.loop c) (get (G s)) Φ:=by
 refine .dY G _ h av λe g h=>?_;cases r with
 | inl r=>obtain ⟨rfl,aN⟩:=h; exact j r rfl g aN
 | inr r=>obtain ⟨rfl,aN⟩:=h; exact ah r rfl g aN
theorem aF.go {s:S}{F:S->List (Nat × ab)}{Ψ:R->Exit->aL->Prop}(h:Trim true (get G) (get (F s)) (F s)):aF .normal (kY F Ψ (.inl s)) G:=λ_ av=>⟨rfl,av.trans (.eH h.eH .hW)⟩
theorem aF.aX {r:R}{F:S->List (Nat × ab)}{ma:R->List (Nat × ab)}(h:Trim true (get G) (get (ma r)) (ma r)):aF (.exit id) (kY F (λr e g=>e=.exit id/\ib g (ma r)) (.inr r)) G:=λ_ av=>⟨by simp,rfl,av.trans (.eH h.eH .hW)⟩
theorem aF.x2 {gP:Type}{r:R}{F:S->List (Nat × ab)}{ma:R->List (Nat × ab)}{h3:gP->List (Nat × ab)}(h:Trim true (get G) (get (ma r)) (ma r)) :
  aF (.exit id) (kY F (λ(r:R ⊕ gP) e g=>match r with | .inl r=>e=.exit id/\ib g (ma r) | .inr r=>e=.ret/\ib g (h3 r)) (.inr (.inl r))) G:=λ_ av=>⟨by simp,rfl,av.trans (.eH h.eH .hW)⟩
theorem aF.jY {gP:Type}{r:gP}{F:S->List (Nat × ab)}{ma:R->List (Nat × ab)}{h3:gP->List (Nat × ab)}(h:Trim true (get G) (get (h3 r)) (h3 r)) :
  aF .ret (kY F (λ(r:R ⊕ gP) e g=>match r with | .inl r=>e=.exit id/\ib g (ma r) | .inr r=>e=.ret/\ib g (h3 r)) (.inr (.inr r))) G:=λ_ av=>⟨by simp,rfl,av.trans (.eH h.eH .hW)⟩
def pT (P:Program) (N:cQ) (rs:List ResultVar) (n:Nat) (outs:List (Option ab)) (res:ab) (e:Exit) (g:aL):Prop:=∃ G,ib g G/\Fin P N rs n outs res e (get G)
theorem W.fin {rs:List ResultVar}{n:Nat}{outs:List (Option ab)}{res:ab}{g:aL}(h:W P N c g (pT P N rs n outs res)):W P N c g (Fin P N rs n outs res):=by
 have key:∀ e g,pT P N rs n outs res e g->Aw P N g e (Fin P N rs n outs res):=by
  rintro e g ⟨G,av,aS⟩
  induction av with
  | hW=>exact .hW aS
  | eH hw _ aM=>exact .eH hw (aM aS)
 exact W.outs h key
theorem aF.fin {rs:List ResultVar}{n:Nat}{outs:List (Option ab)}{res:ab}(h:Fin P N rs n outs res e (get G)):aF e (pT P N rs n outs res) G:=λ_ av=>⟨G,av,h⟩
end
end Go.Own
namespace Go.Own
open Go
set_option linter.unusedSectionVars false
variable [cH]
section
variable {P:Program}{N:cQ}{ops:Array Oper}{a':List (List Nat)}{g0:aL}{K:aL->Prop}{l:List Oper}{acc:Acc}{d i:Nat}{op:Op}{ty:TypeId}{pos:String}{after:Array Edge}{x:ab}{gd:Option (Nat × Bool)}
abbrev jv (a':List (List Nat)) (g0:aL) (J:Nat) (acc:Acc):aL:=c5 g0 (λm=>(a'.getD J []).contains m) acc
def bA (P:Program) (N:cQ) (ops:Array Oper) (a':List (List Nat)) (g0:aL) (i:Nat) (acc:Acc) (l:List Oper) (K:aL->Prop):Prop:=∀ dO J,mI P N ops a' g0 i dO->iG P N ops a' g0 i dO J acc->ops.toList.drop J=l->∃ g',sj P N ops a' i dO g0 g'/\K g'
theorem y3 {J bw:Nat}{o:Oper}(h:ops.toList.drop J=o::l) (aj:Nat.beq ops.size (bw+l.length+1)=true):J=bw:=by
 grind [List.length_cons,Nat.eq_of_beq_eq_true]
theorem Rx (aA:acc.all (λe=>!Nat.beq e.2.1 d)=true):∀ e∈acc,e.2.1≠d:=by
 intro e he h;have:=List.all_eq_true.1 aA e he
 simp_all
theorem bA.st (bw:Nat) {r:Option ab}{o:Oper}(aP:o.dst=some d) (az:pW P (jv a' g0 bw acc) ops o r) (aj:Nat.beq ops.size (bw+l.length+1)=true) (aS:g0 d=none) (aA:acc.all (λe=>!Nat.beq e.2.1 d)=true) (a_:N.ok d=true)
  (hk:bA P N ops a' g0 i ((bw,d,r)::acc) l K):bA P N ops a' g0 i acc (o::l) K:=by
 intro dO J cg kH kF;have:=y3 kF aj;subst this;obtain ⟨h1,af⟩:=drop_cons kF;exact hk dO (J+1) cg (.step kH h1 aP aS (Rx aA) a_ az) af
theorem bA.v (bw:Nat) (au:b8 P (jv a' g0 bw acc) op ty x) (aj:Nat.beq ops.size (bw+l.length+1)=true) (aS:g0 d=none) (aA:acc.all (λe=>!Nat.beq e.2.1 d)=true) (a_:N.ok d=true) (aN:fb (jv a' g0 bw acc) ops gd)
  (hk:bA P N ops a' g0 i ((bw,d,some x)::acc) l K):bA P N ops a' g0 i acc (⟨some d,op,ty,pos,after,gd⟩::l) K :=
 .st bw (r:=some x) rfl (.inl ⟨aN.wanted,.inl au⟩) aj aS aA a_ hk
theorem bA.c (bw:Nat) (au:cZ P (jv a' g0 bw acc) op x) (aj:Nat.beq ops.size (bw+l.length+1)=true) (aS:g0 d=none) (aA:acc.all (λe=>!Nat.beq e.2.1 d)=true) (a_:N.ok d=true) (aN:fb (jv a' g0 bw acc) ops gd)
  (hk:bA P N ops a' g0 i ((bw,d,some x)::acc) l K):bA P N ops a' g0 i acc (⟨some d,op,ty,pos,after,gd⟩::l) K :=
 .st bw (r:=some x) rfl (.inl ⟨aN.wanted,.inr au⟩) aj aS aA a_ hk
theorem bA.ps (bw:Nat) {vF t':Nat}{b c:Bool}(h:(ops[vF]?).bind (·.dst)=some t') (aN:jv a' g0 bw acc t'=some (bc c)) (av:c=!b) (aj:Nat.beq ops.size (bw+l.length+1)=true) (aS:g0 d=none) (aA:acc.all (λe=>!Nat.beq e.2.1 d)=true) (a_:N.ok d=true)
  (hk:bA P N ops a' g0 i ((bw,d,some (.bQ []))::acc) l K):bA P N ops a' g0 i acc (⟨some d,op,ty,pos,after,some (vF,b)⟩::l) K :=
 .st bw (r:=some (.bQ [])) rfl (.inr (.inl ⟨⟨t',h,.inl ⟨c,aN,by subst av; cases b <;> rfl⟩⟩,rfl⟩)) aj aS aA a_ hk
theorem bA.pu (bw:Nat) {vF t':Nat}{b:Bool}(h:(ops[vF]?).bind (·.dst)=some t') (aN:jv a' g0 bw acc t'=some (.bQ [])) (aj:Nat.beq ops.size (bw+l.length+1)=true) (aS:g0 d=none) (aA:acc.all (λe=>!Nat.beq e.2.1 d)=true) (a_:N.ok d=true)
  (hk:bA P N ops a' g0 i ((bw,d,some (.bQ []))::acc) l K):bA P N ops a' g0 i acc (⟨some d,op,ty,pos,after,some (vF,b)⟩::l) K :=
 .st bw (r:=some (.bQ [])) rfl (.inr (.inl ⟨⟨t',h,.inr ⟨aN,rfl⟩⟩,rfl⟩)) aj aS aA a_ hk
def l1 (G:List (Nat × ab)):Bool:=G.all λp=>match p.2 with | .bC ..=>false | _=>true
theorem vM {G:List (Nat × ab)}(h:l1 G=true):∀ t z q n m new,get G t≠some (.bC z q n m new):=by
 induction G with
 | nil=>intro t z q n m new j; cases j
 | cons p G aM =>
  grind [l1,get]
def xu:List Place->Bool
 | []=>true
 | p::l=>l.all (λq=>!(Nat.beq p.root q.root&&decide (p.path=q.path)))&&xu l
omit [cH] in
theorem JS:∀ {l:List Place},xu l=true->l.Nodup
 | [],_=>List.nodup_nil
 | p::l,h=>by
  simp only [xu,Bool.and_eq_true,List.all_eq_true] at h;refine List.nodup_cons.2 ⟨λhm=>?_,JS h.2⟩;have:=h.1 p hm;simp at this
theorem bA.fin {G G1:List (Nat × ab)}(aW:xu (acc.filterMap jW)=true) (fJ:l1 G=true) (hi:Nat.ble i ops.size=true) (h:Trim true (c5 (get G) (λ_=>true) acc) (get G1) G1):bA P N ops a' (get G) i acc [] λg'=>km g' (get G1):=by
 intro dO J cg kH kF;have aj:J=ops.size:=by
  have h1:ops.size<=J:=by
   have:=congrArg List.length kF;rw [List.length_drop,List.length_nil,Array.length_toList] at this;omega
  have aK:J<=ops.size:=by
   cases kH with
   | nil=>exact Nat.le_of_ble_eq_true hi
   | step _ aV=>have:=(Array.getElem?_eq_some_iff.1 aV).1; omega
  omega
 subst aj;exact ⟨_,.fin kH (JS aW) (vM fJ),h.eH⟩
theorem sj.LS {g g1 g':aL}{i J:Nat}{dO:Acc}{o:Oper}(cg:mI P N ops a' g i dO) (az:iG P N ops a' g i dO J acc) (gz:(acc.filterMap jW).Nodup) (fJ:∀ t z q n m new,g t≠some (.bC z q n m new)) (aV:ops[J]?=some o) (hw:iq (c5 g (λ_=>true) acc) ops o true)
  (he:bq P N (c5 g (λ_=>true) acc) o g1) (aR:(List.range J).all (λk=>(a'.getD J []).contains k)=true) (av:(List.range ops.size).all (λk=>decide (k<=J)||(a'.getD k []).contains J)=true) (ah:sj P N ops a' (J+1) [] g1 g'):sj P N ops a' i dO g g':=by
 have dX:∀ e∈acc,(a'.getD J []).contains e.1=true:=λe h=>List.all_eq_true.1 aR e.1 (List.mem_range.2 ((az.le cg).2 e h));have e:c5 g (λm=>(a'.getD J []).contains m) acc=c5 g (λ_=>true) acc:=funext λt=>Df λe h _=>dX e h;have fF:[]=acc.filter λe=>!(a'.getD J []).contains e.1:=by
  grind [List.filter_eq_nil_iff]
 exact .wB (rs:=r' []) az gz fJ aV (by rw [e]; exact hw) (by rw [e]; exact he.ka.v) (λp au=>by simp [r'] at au) fF (by simp) (by simp) (by simp) av ah
theorem W.rd {id:Nat}{l:List Oper}{G:List (Nat × ab)}{Φ:Exit->aL->Prop}(a':List (List Nat)) (G1:List (Nat × ab)) (hm:P.follows .mixedOrders=true) (dX:pf l.toArray a'=true)
  (h:bA P N l.toArray a' (get G) 0 [] l λg'=>km g' (get G1)) (hk:aF .normal Φ G1):W P N (.region id l.toArray true) (get G) Φ:=by
 obtain ⟨g',h1,af⟩:=h [] 0 .nil .nil (by simp);exact (fU.draw hm dX h1).w (hk g' (.eH af .hW))
end
end Go.Own
namespace Go.Own
open Go
set_option linter.unusedSectionVars false
variable [cH]
variable {α:Type}
section
variable {P:Program}{N:cQ}{ops:Array Oper}{g g2:aL}{K:aL->Prop}{l:List Oper}{d r:Nat}{ty t t2:TypeId}{pos:String}{after:Array Edge}{a b c:Operand}{k kL:IntKind}{m n:Int}{s u:ByteArray}
namespace O
theorem hf {e:TypeId}{z:Value}{cs:List ab}(aW:(P.info? e).bind (·.zero)=some z) (h1:z.cells.toList.all Value.oneCell'=true) (aa:z.cells.toList.map kg=cs):b8 P g (.alloc e) ty (.obj cs):=by
 subst aa; exact .q4 (.alloc aW (by rw [<- Array.all_toList]; exact h1))
theorem e1 {t:TypeId}{parts:Array (Nat × Operand)}{pl:List (Nat × Nat)}{dn:Value}{ps:List (Nat × List ab)}{cs:List ab}(ar:kr P t pl=true) (aW:(P.info? t).bind (·.zero)=some dn) (h1:dn.cells.toList.all Value.oneCell'=true)
  (au:q5 g parts.toList=some ps) (aa:u' (λi=>pl[i]?) (dn.cells.toList.map kg) ps=some cs):b8 P g (.build t parts) ty (.agg cs):=.Cv (.build ar aW (by rw [<- Array.all_toList]; exact h1) au aa)
end O
inductive pV (g g2:aL):ab->Prop
 | n {x:ab}(h:cF x):pV g g2 x
 | p {r k:Nat}{cs cs2:List ab}(h:g r=some (.obj cs)) (hk:k<cs.length) (af:g2 r=some (.obj cs2)) (fS:k<cs2.length):pV g g2 (.ptr ⟨r,[]⟩ k)
 | r {z n N Ll q:Nat}{cs cs2:List ab}(h:g q=some (.own z N cs)) (aA:n<=N) (af:g2 q=some (.own z Ll cs2)) (oK:n<=Ll):pV g g2 (.bf z ⟨q,[]⟩ n)
theorem vY {r k:Nat}{cs:List ab}(h:g r=some (.obj cs)) (hk:k<cs.length):gZ g (.ptr ⟨r,[]⟩ k):=⟨.obj cs,by simp [bt,h,ab.at],0,0,cs,.inr rfl,hk⟩
theorem C4 {z n N q:Nat}{cs:List ab}(h:g q=some (.own z N cs)) (aA:n<=N):gZ g (.bf z ⟨q,[]⟩ n):=.inl ⟨N,cs,by simp [bt,h,ab.at],aA⟩
theorem pV.b6 {x:ab}(h:pV g g2 x):eo g2 x:=by
 cases h with
 | n h=>exact .bj h
 | p _ _ af fS=>exact .ref rfl (vY af fS)
 | r _ _ af oK=>exact .ref rfl (C4 af oK)
theorem pV.C6 {x:ab}{z' k0 m0:Nat}(h:pV g g2 x):kl (λr=>gZ g r/\Clear ⟨z',[]⟩ k0 m0 r/\gZ g2 r) x:=by
 cases h with
 | n h=>exact .bj h
 | p h hk af fS =>
  refine .ref rfl ⟨vY h hk,?_,vY af fS⟩;intro q a7 _ J cW e
  grind [Ab]
 | r h hk af fS =>
  refine .ref rfl ⟨C4 h hk,?_,C4 af fS⟩;intro q a7 _ J cW e
  grind [Ab]
theorem pV.fr {x:ab}(h:pV g g2 x):∀ z p n m new,x≠.bC z p n m new:=by
 rintro z p n m new rfl;cases h with
 | n h=>cases h
inductive lu (g g2:aL) (r:Nat) (cs2:List ab):List (Nat × ab)->Prop
 | nil:lu g g2 r cs2 []
 | n {s:Nat}{x:ab}{l:List (Nat × ab)}(cz:Nat.beq s r=false) (h:g s=some x) [aA:b4 x] (t:lu g g2 r cs2 l):lu g g2 r cs2 ((s,x)::l)
 | p {s q k:Nat}{l:List (Nat × ab)}{cs kn:List ab}(cz:Nat.beq s r=false) (h:g s=some (.ptr ⟨q,[]⟩ k)) (h1:g q=some (.obj cs)) (hk:Nat.blt k cs.length=true) (af:g2 q=some (.obj kn)) (fS:Nat.blt k kn.length=true) (t:lu g g2 r cs2 l):lu g g2 r cs2 ((s,.ptr ⟨q,[]⟩ k)::l)
 | w {α:Type}{s q:Nat}{en:bz α}{L:List α}{l:List (Nat × ab)}(cz:Nat.beq s r=false) (h:g s=some (.bf en.z ⟨q,[]⟩ L.length)) (h1:g q=some (ao en L)) (af:g2 q=some (ao en L)) (t:lu g g2 r cs2 l):lu g g2 r cs2 ((s,.bf en.z ⟨q,[]⟩ L.length)::l)
 | b {l:List (Nat × ab)}{x:ab}(e:x=.obj cs2) [aA:dj cs2] (t:lu g g2 r cs2 l):lu g g2 r cs2 ((r,x)::l)
theorem lu.spec {cs2:List ab}{l:List (Nat × ab)}(h:lu g g2 r cs2 l):∀ t x,get l t=some x->(t≠r/\g t=some x/\pV g g2 x)\/(t=r/\x=.obj cs2/\cF x):=by
 induction h with
 | nil=>intro t x j; cases j
 | @n s x l cz h aA _ aM =>
  intro t y al; simp only [get] at al
  split at al
  ·rename_i e; subst e; cases al; exact .inl ⟨Nat.ne_of_beq_eq_false cz,h,.n aA.bj⟩
  ·exact aM t y al
 | @p s q k l cs kn cz h h1 hk af fS _ aM =>
  intro t y al; simp only [get] at al
  split at al
  ·rename_i e; subst e; cases al; exact .inl ⟨Nat.ne_of_beq_eq_false cz,h,.p h1 (by simpa using hk) af (by simpa using fS)⟩
  ·exact aM t y al
 | @w α s q en L l cz h h1 af _ aM =>
  intro t y al; simp only [get] at al
  split at al
  ·rename_i e; subst e; cases al; exact .inl ⟨Nat.ne_of_beq_eq_false cz,h,.r h1 (Nat.le_refl _) af (Nat.le_refl _)⟩
  ·exact aM t y al
 | @b l x e aA _ aM =>
  intro t y al; simp only [get] at al
  split at al
  ·rename_i b_; subst b_; cases al; subst e; exact .inr ⟨rfl,rfl,.obj aA.bj⟩
  ·exact aM t y al
theorem bq.box {o:Oper}{k0:Nat}{cs cs' cs2:List ab}{y:ab}{G2:List (Nat × ab)}(aV:o.op=.store t a b) (aP:o.dst=none) (az:g r=some (.obj cs)) (aR:Rd g a (.ptr ⟨r,[]⟩ k0)) (av:Rd g b y) (aA:cF y) (aa:nY y=some cs') (aW:hC P t cs'.length=true)
  (hk:k0+cs'.length<=cs.length) (aO:0<cs'.length) (he:eP cs k0 cs'=cs2) [e':dj cs] (ah:get G2 r≠none) (c':lu g (get G2) r cs2 G2):bq P N g o (get G2):=by
 subst he;have mV:g r≠none:=by rw [az]; simp
 refine .store aV aP aR.bn av.bn (.bj (by simpa using aA)) .refl aa aW (p:=⟨r,[]⟩) (nd:=.obj cs) (z:=0) (n:=0) (by simp [bt,az,ab.at]) (.inr rfl) hk aO (λt x j=>?_) (λt x j y al=>?_) (λt z q n m new j=>?_) ah
 ·rcases c'.spec t x j with ⟨h1,af,_⟩ | ⟨h1,af,_⟩
  all_goals grind [cp,ab.setAt,ab.eP]
 ·rcases c'.spec t x j with ⟨h1,af,aK⟩ | ⟨h1,af,aK⟩
  ·rw [af] at al;cases al;exact aK.C6
  ·subst h1;rw [az] at al;cases al;exact .bj (.obj e'.bj)
 ·rcases c'.spec t _ j with ⟨_,_,aK⟩ | ⟨_,af,_⟩
  ·exact aK.fr _ _ _ _ _ rfl
  grind
theorem Trim.q {GF:Bool}{ta q k0:Nat}{cs:List ab}{Ol:List (Nat × ab)}(h:g ta=some (.ptr ⟨q,[]⟩ k0)) (af:g2 q=some (.obj cs)) (hk:Nat.blt k0 cs.length=true) (gV:Trim GF g g2 Ol):Trim GF g g2 ((ta,.ptr ⟨q,[]⟩ k0)::Ol) :=
 .r h (.ref rfl (vY af (by simpa using hk))) (by simp) gV
theorem aD.nZ {o:Oper}{G2:List (Nat × ab)}(aN:o.guard=none) (he:bq P N g o (get G2)) (hk:aD P N ops l (get G2) K):aD P N ops (o::l) g K:=by
 intro i hi;obtain ⟨h1,af⟩:=drop_cons hi;obtain ⟨g',ah,c7⟩:=hk (i+1) af;refine ⟨g',.ka h1 ?_ he ah,c7⟩
 grind [iq]
theorem aD.kj {k0:Nat}{cs cs' cs2:List ab}{y:ab}{G2:List (Nat × ab)}(az:g r=some (.obj cs)) (aR:Rd g a (.ptr ⟨r,[]⟩ k0)) (av:Rd g b y) [aA:b4 y] (aa:nY y=some cs') (aW:hC P t cs'.length=true)
  (hk:Nat.ble (k0+cs'.length) cs.length=true) (aO:Nat.blt 0 cs'.length=true) (he:eP cs k0 cs'=cs2) [e':dj cs] (ah:(get G2 r).isSome=true) (c':lu g (get G2) r cs2 G2) (Bw:aD P N ops l (get G2) K):aD P N ops (⟨none,.store t a b,ty,pos,after,none⟩::l) g K :=
 .nZ rfl (.box rfl rfl az aR av aA.bj aa aW (Nat.le_of_ble_eq_true hk) (by simpa using aO) he (by intro e; rw [e] at ah; cases ah) c') Bw
variable {a':List (List Nat)}{acc:Acc}{i:Nat}
theorem bA.wB (bw:Nat) {G G2:List (Nat × ab)}{o:Oper}(he:bq P N (c5 (get G) (λ_=>true) acc) o (get G2)) (aN:o.guard=none) (aW:acc.filterMap jW=[]) (fJ:l1 G=true) (aj:Nat.beq ops.size (bw+l.length+1)=true)
  (aR:(List.range bw).all (λk=>(a'.getD bw []).contains k)=true) (av:(List.range ops.size).all (λk=>Nat.ble k bw||(a'.getD k []).contains bw)=true) (hk:bA P N ops a' (get G2) (bw+1) [] l K):bA P N ops a' (get G) i acc (o::l) K:=by
 intro dO J cg kH kF;have:=y3 kF aj;subst this;obtain ⟨h1,af⟩:=drop_cons kF;obtain ⟨g',ah,c7⟩:=hk [] (J+1) .nil .nil af;refine ⟨g',.LS cg kH (by rw [aW]; exact List.nodup_nil) (vM fJ) h1 ?_ he aR ?_ ah,c7⟩
 ·grind [iq]
 simp_all
theorem bA.kj (bw:Nat) {G:List (Nat × ab)}{k0:Nat}{cs cs' cs2:List ab}{y:ab}{G2:List (Nat × ab)}(aj:Nat.beq ops.size (bw+l.length+1)=true) (wV:(List.range bw).all (λk=>(a'.getD bw []).contains k)=true) (Ei:(List.range ops.size).all (λk=>Nat.ble k bw||(a'.getD k []).contains bw)=true) (B1:acc.filterMap jW=[]) (fJ:l1 G=true)
  (az:c5 (get G) (λ_=>true) acc r=some (.obj cs)) (aR:Rd (c5 (get G) (λ_=>true) acc) a (.ptr ⟨r,[]⟩ k0)) (av:Rd (c5 (get G) (λ_=>true) acc) b y) [aA:b4 y] (aa:nY y=some cs') (aW:hC P t cs'.length=true)
  (hk:Nat.ble (k0+cs'.length) cs.length=true) (aO:Nat.blt 0 cs'.length=true) (he:eP cs k0 cs'=cs2) [e':dj cs] (ah:(get G2 r).isSome=true) (c':lu (c5 (get G) (λ_=>true) acc) (get G2) r cs2 G2) (Bw:bA P N ops a' (get G2) (bw+1) [] l K):bA P N ops a' (get G) i acc (⟨none,.store t a b,ty,pos,after,none⟩::l) K :=
 .wB bw (.box rfl rfl az aR av aA.bj aa aW (Nat.le_of_ble_eq_true hk) (by simpa using aO) he (by intro e; rw [e] at ah; cases ah) c') rfl B1 fJ aj wV Ei Bw
end
end Go.Own
namespace Go.Own
open Go
set_option linter.unusedSectionVars false
variable [cH]
variable {α β:Type}
def nH (m:Int) (z:α):Option (List α):=if 0<=m/\m<=lim then some (List.replicate m.toNat z) else none
def db (l m:List α):Option (List α):=if l.length+m.length<=lim then some (l++m) else none
class Flat (e:bz α):Prop where sv:∀ a,(e.cells a).all lR=true
instance:Flat ax:=⟨λ_=>rfl⟩
instance:Flat p4:=⟨λ_=>rfl⟩
instance:Flat cj:=⟨λ_=>rfl⟩
instance:Flat cI:=⟨λ_=>rfl⟩
instance {e:bz α}:Flat (bG e):=⟨λ_=>rfl⟩
theorem YT (e:bz α) [h:Flat e] (l:List α):(bp e l).all lR=true:=by
 refine List.all_eq_true.2 λx j=>?_;obtain ⟨a,_,aR⟩:=List.mem_flatMap.1 j;exact List.all_eq_true.1 (h.sv a) x aR
theorem nK (e:bz α) (l m:List α):(.own e.z (l.length+m.length) (bp e l++bp e m):ab)=ao e (l++m):=by
 grind [Fx]
theorem x3 (e:bz α) (l:List α):(bp e l).take (l.length * e.z)=bp e l:=by grind [oX]
theorem Pw:∀ L:List Int,bp p4 L=L.map λb=>.lit (.int .u8 b)
 | []=>rfl
 | x::L=>by
  have:bp p4 (x::L)=qJ x::bp p4 L:=rfl;rw [this,List.map_cons,Pw L]
section
variable {P:Program}{N:cQ}{ops:Array Oper}{g g1 g2:aL}{K:aL->Prop}{l:List Oper}{d r:Nat}{ty t t2:TypeId}{pos:String}{after:Array Edge}{gd:Option (Nat × Bool)}{a b c:Operand}{k kL:IntKind}{m n:Int}{s u:ByteArray}{p q:Place}
namespace O
theorem dr {e dk:Nat}{parts:Array (Nat × Operand)}{ys:List ab}(en:bz α) (L:List α) (ar:fe P t e en.z=true) (j:fK g (parts.toList.map (·.2))=some ys) (aa:mg ys=some (bp en L)) (aW:ys.all (λy=>match ji y with | some c=>Nat.beq c.length en.z | none=>false)=true)
  (au:parts.toList=(parts.toList.map (·.2)).mapIdx (λi x=>(i,x))) (aA:(parts.toList.map (·.2)).length=dk) (ai:L.length=dk) (hzero:ia P e en.z=true) (av:Nat.ble (dk * en.z) 16777216=true) (fH:Nat.ble dk 16777216=true):b8 P g (.buildSlice t dk parts) ty (ao en L):=by
 subst aA;have:=pa.buildSlice (P:=P) (ty:=ty) ar au j (λy al=>by
  grind [Nat.eq_of_beq_eq_true]) aa (Nat.le_of_ble_eq_true av) (Nat.le_of_ble_eq_true fH) (.inr (K2 hzero))
 unfold ao;rw [ai];exact .q4 this
theorem nF {z br n:Nat}{e:TypeId}(j:Rd g a (.bf z p n)) (ar:fe P t e br=true):b8 P g (.call { callee:=.builtin .len,args:=#[a],argTypes:=#[t] }) ty (ae n):=.eK (.Ca j.bn ar)
theorem gI {en:bz α}{L:List α}{y:α}{e:TypeId}(au:bt g p=some (ao en L)) (j:Rd g a (.bf en.z p L.length)) (hi:Rd g b (.lit (.int k m))) (ar:fe P t e en.z=true) (h:idx L m=some y) (aW:Nat.blt 0 en.z=true):b8 P g (.indexAddr t a b) ty (.ptr p (m.toNat * en.z+0)):=by
 obtain ⟨aO,h1,_⟩:=r3 h;obtain ⟨J,rfl⟩:=Int.eq_ofNat_of_zero_le aO;have N7:0<en.z:=by simpa using aW
 have aj:J<L.length:=by omega
 refine .eK (.EL j.bn hi.bn ar aj ⟨_,au,_,_,_,.inl rfl,?_⟩)
 simp_all [oX]
theorem YO {en:bz α}{L:List α}{y:α}{o:Nat}(h:idx L m=some y) (aV:o<en.z):m.toNat * en.z+o<(bp en L).length:=by
 obtain ⟨aO,h1,_⟩:=r3 h;rw [oX];have af:m.toNat+1<=L.length:=by omega
 calc m.toNat * en.z+o<m.toNat * en.z+en.z:=by omega
  _=(m.toNat+1) * en.z:=by rw [Nat.add_mul]; omega
  _<=L.length * en.z:=Nat.mul_le_mul_right _ af
theorem kb {en:bz α}{L:List α}{y:α}{cn f off o hl:Nat}(au:bt g p=some (ao en L)) (j:Rd g a (.ptr p (m.toNat * en.z+o))) (aS:iX P cn f off t=true) (h:idx L m=some y) (aV:o+off=hl) (aQ:Nat.blt hl en.z=true):b8 P g (.fieldAddr cn a f) ty (.ptr p (m.toNat * en.z+hl)):=by
 subst aV;rw [<- Nat.add_assoc];refine .eK (.A5 j.bn aS ⟨_,au,_,_,_,.inl rfl,?_⟩)
 simp_all [Nat.add_assoc,YO]
theorem u7 {en:bz α}{L:List α}{y:α}{o:Nat}{x:ab}(au:bt g p=some (ao en L)) (h:idx L m=some y) (aa:(en.cells y)[o]?=some x):bt g (p.push (m.toNat * en.z+o))=some x:=by
 rw [tD,au];exact Pv en h aa
theorem jT {en:bz α}{L:List α}{y:α}{o:Nat}{x x':ab}(au:bt g p=some (ao en L)) (j:Rd g a (.ptr p (m.toNat * en.z+o))) (ar:j' P t=true) (h:idx L m=some y) (aa:(en.cells y)[o]?=some x) (ah:fL 0 (p.push (m.toNat * en.z+o)) x=x'):b8 P g (.load t a) ty x':=by
 subst ah;exact .eK (.Cf j.bn ar (u7 au h aa))
theorem Oq {en:bz α}{L:List α}{y:α}{o z:Nat}{cs':List ab}(au:bt g p=some (ao en L)) (j:Rd g a (.ptr p (m.toNat * en.z+o))) (ar:iH P t z=true) (h:idx L m=some y) (aW:Nat.ble (o+z) en.z=true)
  (aa:(((en.cells y).drop o).take z).mapIdx (λi x=>fL 0 (p.push (m.toNat * en.z+o+i)) x)=cs'):b8 P g (.load t a) ty (.agg cs'):=by
 have N7:=Nat.le_of_ble_eq_true aW;have kF:((bp en L).drop (m.toNat * en.z+o)).take z=((en.cells y).drop o).take z:=by
  rw [<- List.drop_drop,Ko en h,List.drop_append_of_le_length (by rw [en.len]; omega),List.take_append_of_le_length (by rw [List.length_drop,en.len]; omega)]
 subst aa;rw [<- kF];refine .eK (.xr j.bn ar au (.inl rfl) ?_);obtain ⟨aO,h1,_⟩:=r3 h;rw [oX];have af:m.toNat+1<=L.length:=by omega
 calc m.toNat * en.z+o+z<=m.toNat * en.z+en.z:=by omega
  _=(m.toNat+1) * en.z:=by rw [Nat.add_mul]; omega
  _<=L.length * en.z:=Nat.mul_le_mul_right _ af
end O
class qE (g:aL):Prop where fr:∀ t z q n m new,g t≠some (.bC z q n m new)
class nb (x:ab):Prop where fr:∀ z q n m new,x≠.bC z q n m new
instance {x:ab} [h:b4 x]:nb x:=⟨by rintro z q n m new rfl; cases h.bj⟩
instance {p:Place}{k:Nat}:nb (.ptr p k):=⟨by simp⟩
instance {p:Place}{z n:Nat}:nb (.bf z p n):=⟨by simp⟩
instance {p:Place}{z lo n:Nat}:nb (.sub z p lo n):=⟨by simp⟩
instance {cs:List ab}:nb (.agg cs):=⟨by simp⟩
instance {cs:List ab}:nb (.bQ cs):=⟨by simp⟩
instance {cs:List ab}:nb (.obj cs):=⟨by simp⟩
instance {g:aL}{d:Nat}{x:ab} [h:qE g] [j:nb x]:qE (cJ g d x):=⟨λt z q n m new e=>by
 unfold cJ at e
 split at e
 ·cases e; exact j.fr _ _ _ _ _ rfl
 ·exact h.fr _ _ _ _ _ _ e⟩
instance:qE (get []):=⟨λ_ _ _ _ _ _ e=>by cases e⟩
instance {t:Nat}{x:ab}{G:List (Nat × ab)} [j:nb x] [h:qE (get G)]:qE (get ((t,x)::G)):=⟨λs z q n m new e=>by
 simp only [get] at e
 split at e
 ·cases e; exact j.fr _ _ _ _ _ rfl
 ·exact h.fr _ _ _ _ _ _ e⟩
class DA (acc:Acc):Prop where fr:∀ e∈acc,∀ z q n m new,e.2.2≠some (.bC z q n m new)
instance:DA []:=⟨by simp⟩
instance {J d:Nat}{x:ab}{acc:Acc} [j:nb x] [h:DA acc]:DA ((J,d,some x)::acc):=⟨λe he z q n m new bH=>by
 rcases List.mem_cons.1 he with rfl | he
 ·exact j.fr z q n m new (Option.some.inj bH)
 ·exact h.fr e he z q n m new bH⟩
instance {G:List (Nat × ab)}{A:Nat->Bool}{acc:Acc} [aN:qE (get G)] [h:DA acc]:qE (c5 (get G) A acc):=⟨λt z q n m new e=>by
 rcases uS e with ⟨b_,he,_,_,af⟩ | ⟨_,af⟩
 ·exact h.fr b_ he _ _ _ _ _ af
 ·exact aN.fr _ _ _ _ _ _ af⟩
theorem yN {L M:List α}{r:List α}{b:Nat}(h:db L M=some r) (av:Nat.ble b 128=true):L.length+M.length<=4611686018427387904/\(L.length+M.length) * b<=140737488355328/\r=L++M:=by
 unfold db at h
 split at h
 ·rename_i ai;have gG:=Nat.le_of_ble_eq_true av;have sD:lim=1099511627776:=rfl;refine ⟨by omega,?_,(Option.some.inj h).symm⟩
  calc (L.length+M.length) * b<=1099511627776 * 128:=Nat.mul_le_mul ai gG
   _=140737488355328:=by decide
 ·cases h
inductive nT (g:aL) (en:bz α):ab->List α->Prop
 | i {M:List α}:nT g en (.bk en.z M.length (bp en M)) M
 | n:nT g en .aT []
 | o {q:Place}{M:List α}(a7:bt g q=some (ao en M)) (aS:(bp en M).all lR=true):nT g en (.bf en.z q M.length) M
theorem nT.src {en:bz α}{y:ab}{M:List α}(h:nT g en y M):Src g y en.z M.length (bp en M):=by
 cases h with
 | i=>exact .bk
 | n=>exact .aT
 | o a7 aS =>
  have:=Src.bf (g:=g) (m:=M.length) a7 (Nat.le_refl _)
  simp_all [x3,A7]
theorem nT.flat (en:bz α) [Flat en] {q:Place}{M:List α}(a7:bt g q=some (ao en M)):nT g en (.bf en.z q M.length) M:=.o a7 (YT en M)
namespace O
theorem ap {en:bz α}{L M r:List α}{y:ab}{e gv:Nat}(az:Rd g a (.bf en.z p L.length)) (au:bt g p=some (ao en L)) (j:Rd g b y) (hm:nT g en y M) (ar:jL P t e en.z gv=true) (av:Nat.ble gv 128=true) (h:db L M=some r) [e':qE g] :
  b8 P g (.call { callee:=.builtin .append,args:=#[a,b],argTypes:=#[t,t] }) ty (.bC en.z p L.length M.length (bp en M)):=by
 obtain ⟨h1,af,_⟩:=yN h av;exact .lJ (.grow az.bn (.inl ⟨_,au⟩) (λt br cm bh cO e=>e'.fr _ _ _ _ _ _ e) j.bn hm.src ar h1 af)
theorem RO {en:bz α}{M r:List α}{y:ab}{e gv:Nat}(az:Rd g a .aT) (j:Rd g b y) (hm:nT g en y M) (ar:jL P t e en.z gv=true) (av:Nat.ble gv 128=true) (h:db [] M=some r) :
  b8 P g (.call { callee:=.builtin .append,args:=#[a,b],argTypes:=#[t,t] }) ty (ao en M):=by
 obtain ⟨h1,af,_⟩:=yN h av;simp only [List.length_nil,Nat.zero_add] at h1 af;exact .lJ (.nil az.bn j.bn hm.src ar h1 af)
end O
inductive mJ (ex:List Nat) (g g2:aL):List (Nat × ab)->Prop
 | nil:mJ ex g g2 []
 | n {s:Nat}{x:ab}{l:List (Nat × ab)}(cz:ex.elem s=false) (h:g s=some x) [aA:b4 x] (t:mJ ex g g2 l):mJ ex g g2 ((s,x)::l)
 | p {s q k:Nat}{l:List (Nat × ab)}{kn:List ab}(cz:ex.elem s=false) (h:g s=some (.ptr ⟨q,[]⟩ k)) (af:g2 q=some (.obj kn)) (fS:Nat.blt k kn.length=true) (t:mJ ex g g2 l):mJ ex g g2 ((s,.ptr ⟨q,[]⟩ k)::l)
 | w {α:Type}{s q:Nat}{en:bz α}{L:List α}{l:List (Nat × ab)}(cz:ex.elem s=false) (h:g s=some (.bf en.z ⟨q,[]⟩ L.length)) (af:g2 q=some (ao en L)) (t:mJ ex g g2 l):mJ ex g g2 ((s,.bf en.z ⟨q,[]⟩ L.length)::l)
theorem mJ.spec {ex:List Nat}{l:List (Nat × ab)}(h:mJ ex g g2 l):∀ t x,get l t=some x->ex.elem t=false/\g t=some x/\eo g2 x/\∀ z p n m new,x≠.bC z p n m new:=by
 induction h with
 | nil=>intro t x j; cases j
 | @n s x l cz h aA _ aM =>
  intro t y al; simp only [get] at al
  split at al
  ·rename_i e; subst e; cases al; exact ⟨cz,h,.bj aA.bj,by rintro z p n m new rfl; cases aA.bj⟩
  ·exact aM t y al
 | @p s q k l kn cz h af fS _ aM =>
  intro t y al; simp only [get] at al
  split at al
  ·rename_i e; subst e; cases al; exact ⟨cz,h,.ref rfl (vY af (by simpa using fS)),by simp⟩
  ·exact aM t y al
 | @w α s q en L l cz h af _ aM =>
  intro t y al; simp only [get] at al
  split at al
  ·rename_i e; subst e; cases al; exact ⟨cz,h,.ref rfl (.inl ⟨_,_,(by simp [bt,af,ab.at]:bt g2 ⟨q,[]⟩=some (ao en L)),Nat.le_refl _⟩),by simp⟩
  ·exact aM t y al
theorem mJ.keep {ex:List Nat}{G2:List (Nat × ab)}(h:mJ ex g (get G2) G2) (aN:∀ t,ex.elem t=false->g1 t=g t):hy g1 (get G2) :=
 ⟨λt x j=>by obtain ⟨h1,af,_⟩:=h.spec t x j; rw [aN t h1]; exact af,λt x j=>(h.spec t x j).2.2.1,λt z q n m new j=>(h.spec t _ j).2.2.2 _ _ _ _ _ rfl⟩
theorem Take.row {en:bz α}{L:List α}(au:bt g p=some (ao en L)):Take g [.bf en.z p L.length] [ao en L] (cp g p .dead):=by
 have h1:Take (cp g p .dead) ((bp en L).take (L.length * en.z)) (bp en L) (cp g p .dead):=by
  rw [x3]; exact .bj (pK en L)
 exact .bf au (Nat.le_refl _) h1 (.bj (by simp))
theorem Take.YQ {en:bz α}{L M:List α}{s:Nat}(az:g s=some (.bC en.z q L.length M.length (bp en M))) (au:bt g q=some (ao en L)) (a7:q.root≠s):Take g [.bf en.z ⟨s,[]⟩ (L.length+M.length)] [ao en (L++M)] (cp (cp g ⟨s,[]⟩ .dead) q .dead):=by
 rw [<- nK];exact .bC az au a7 (.bj λx j=>(List.mem_append.1 j).elim (pK en L x) (pK en M x)) (.bj (by simp))
theorem Take.YR {en:bz α}{L M M2:List α}{s s2:Nat}(az:g s=some (.bC en.z ⟨s2,[]⟩ (L.length+M2.length) M.length (bp en M))) (lX:g s2=some (.bC en.z q L.length M2.length (bp en M2))) (au:bt g q=some (ao en L)) (a7:q.root≠s) (qR:q.root≠s2) (BO:s≠s2) :
  Take g [.bf en.z ⟨s,[]⟩ (L.length+M2.length+M.length)] [ao en (L++M2++M)] (cp (cp (cp g ⟨s,[]⟩ .dead) ⟨s2,[]⟩ .dead) q .dead):=by
 have:=Take.zG (g:=g) (xs:=[]) (xs':=[]) az lX rfl au a7 qR BO (.bj (xs:=bp en L++bp en M2++bp en M) λx j=>by
  grind [pK]) (.bj (by simp))
 grind [Fx]
theorem v8 {t:Nat}{y:ab}(h:t≠p.root):cp g p y t=g t:=by
 grind [cp]
theorem y4 {ex:List Nat}{t s:Nat}(h:ex.elem t=false) (az:ex.elem s=true):t≠s:=by
 grind
theorem bq.wy {o:Oper}{en:bz α}{L:List α}{x:Operand}{G2:List (Nat × ab)}(aV:o.op=.assign x) (aP:o.dst=some d) (j:Rd g x (.bf en.z p L.length)) (au:bt g p=some (ao en L)) (c':mJ [p.root] g (get G2) G2) (aN:get G2 d=none) (a_:N.ok d=true):bq P N g o (cJ (get G2) d (ao en L)) :=
 .assign aV aP j.bn (.row au) .refl (c'.keep λt ar=>v8 (y4 ar (by simp))) aN a_
theorem bq.Ly {o:Oper}{en:bz α}{L M:List α}{s:Nat}{x:Operand}{G2:List (Nat × ab)}(aV:o.op=.assign x) (aP:o.dst=some d) (j:Rd g x (.bf en.z ⟨s,[]⟩ (L.length+M.length))) (az:g s=some (.bC en.z q L.length M.length (bp en M))) (au:bt g q=some (ao en L)) (a7:Nat.beq q.root s=false)
  (c':mJ [s,q.root] g (get G2) G2) (aN:get G2 d=none) (a_:N.ok d=true):bq P N g o (cJ (get G2) d (ao en (L++M))) :=
 .assign aV aP j.bn (.YQ az au (Nat.ne_of_beq_eq_false a7)) .refl (c'.keep λt ar=>by rw [v8 (y4 ar (by simp)),v8 (y4 ar (by simp))]) aN a_
theorem bq.Ro {o:Oper}{en:bz α}{L M M2:List α}{s s2:Nat}{x:Operand}{G2:List (Nat × ab)}(aV:o.op=.assign x) (aP:o.dst=some d) (j:Rd g x (.bf en.z ⟨s,[]⟩ (L.length+M2.length+M.length))) (az:g s=some (.bC en.z ⟨s2,[]⟩ (L.length+M2.length) M.length (bp en M)))
  (lX:g s2=some (.bC en.z q L.length M2.length (bp en M2))) (au:bt g q=some (ao en L)) (a7:Nat.beq q.root s=false) (qR:Nat.beq q.root s2=false) (BO:Nat.beq s s2=false)
  (c':mJ [s,s2,q.root] g (get G2) G2) (aN:get G2 d=none) (a_:N.ok d=true):bq P N g o (cJ (get G2) d (ao en (L++M2++M))) :=
 .assign aV aP j.bn (.YR az lX au (Nat.ne_of_beq_eq_false a7) (Nat.ne_of_beq_eq_false qR) (Nat.ne_of_beq_eq_false BO)) .refl (c'.keep λt ar=>by rw [v8 (y4 ar (by simp)),v8 (y4 ar (by simp)),v8 (y4 ar (by simp))]) aN a_
theorem aD.tM {o:Oper}{x:ab}{G2:List (Nat × ab)}(aN:o.guard=none) (he:bq P N g o (cJ (get G2) d x)) (hk:aD P N ops l (cJ (get G2) d x) K):aD P N ops (o::l) g K:=by
 intro i hi;obtain ⟨h1,af⟩:=drop_cons hi;obtain ⟨g',ah,c7⟩:=hk (i+1) af;refine ⟨g',.ka h1 ?_ he ah,c7⟩
 grind [iq]
theorem sw {x:ab}{G:List (Nat × ab)}:cJ (get G) d x=get ((d,x)::G):=by
 grind [cJ,get]
variable {a':List (List Nat)}{acc:Acc}{i:Nat}
inductive AI (P:Program):aL->List ResultVar->List ab->List ab->aL->Prop
 | nil {g:aL}:AI P g [] [] [] g
 | f {g g':aL}{t:Nat}{x:ab}{rs:List ResultVar}{ys xs:List ab}(h:g t=some x) (aS:lR x=true) [aA:b4 x] (ar:AI P g rs ys xs g'):AI P g (.tmp t::rs) (x::ys) (x::xs) g'
 | o {g g':aL}{t:Nat}{en:bz α}{L:List α}{rs:List ResultVar}{ys xs:List ab}(h:g t=some (ao en L)) (ar:AI P (cp g ⟨t,[]⟩ .dead) rs ys xs g'):AI P g (.tmp t::rs) (.bf en.z ⟨t,[]⟩ L.length::ys) (ao en L::xs) g'
end
end Go.Own
namespace Go.Own
open Go
set_option linter.unusedSectionVars false
variable [cH]
variable {α β:Type}
section
variable {P:Program}{N:cQ}{ops:Array Oper}{g g' g1 g2:aL}{K:aL->Prop}{l:List Oper}{d r:Nat}{ty t t2:TypeId}{pos:String}{after:Array Edge}{a b c:Operand}{p q:Place}{e:Exit}
inductive nc (s:Nat):aL->Nat->List ab->List ab->aL->Prop
 | nil {g:aL}{i:Nat}:nc s g i [] [] g
 | f {g g':aL}{i:Nat}{x:ab}{ys xs:List ab}(aS:lR x=true) [aA:b4 x] (ar:nc s g (i+1) ys xs g'):nc s g i (x::ys) (x::xs) g'
 | o {α:Type}{g g':aL}{i:Nat}{en:bz α}{L:List α}{ys xs:List ab}(au:bt g ⟨s,[i]⟩=some (ao en L)) (ar:nc s (cp g ⟨s,[i]⟩ .dead) (i+1) ys xs g'):nc s g i (.bf en.z ⟨s,[i]⟩ L.length::ys) (ao en L::xs) g'
theorem nc.take {s i:Nat}{ys xs:List ab}(h:nc s g i ys xs g'):Take g ys xs g':=by
 induction h with
 | nil=>exact .bj (by simp)
 | @f g g' i x ys xs aS aA _ aM=>exact .cons aA.bj aM
 | @o α g g' i en L ys xs au _ aM =>
  refine .bf au (Nat.le_refl _) ?_ aM;rw [x3]; exact .bj (pK en L)
inductive j3 (P:Program):aL->List ResultVar->List ab->List ab->aL->Prop
 | nil {g:aL}:j3 P g [] [] [] g
 | f {g g':aL}{t:Nat}{x:ab}{rs:List ResultVar}{ys xs:List ab}(h:g t=some x) (aS:lR x=true) [aA:b4 x] (ar:j3 P g rs ys xs g'):j3 P g (.tmp t::rs) (x::ys) (x::xs) g'
 | o {α:Type}{g g':aL}{t:Nat}{en:bz α}{L:List α}{rs:List ResultVar}{ys xs:List ab}(h:g t=some (ao en L)) (ar:j3 P (cp g ⟨t,[]⟩ .dead) rs ys xs g'):j3 P g (.tmp t::rs) (.bf en.z ⟨t,[]⟩ L.length::ys) (ao en L::xs) g'
 | c {g g' wQ:aL}{t z:Nat}{ty:TypeId}{cs ys0:List ab}{rs:List ResultVar}{ys xs:List ab}(h:g t=some (.obj cs)) (ar:iH P ty z=true) (aW:cs.length=z) (aO:Nat.blt 0 z=true) (al:(cs.mapIdx λi x=>fL 0 ⟨t,[i]⟩ x)=ys0) (hk:nc t g 0 ys0 cs wQ) (ah:j3 P wQ rs ys xs g'):j3 P g (.cell t ty::rs) (.agg ys0::ys) (.agg cs::xs) g'
def ym (g0 g:aL):Prop:=∀ t x,g t=some x->(lR x=true\/(∃ z n cs,x=.own z n cs))->g0 t=some x
theorem ym.set {g0:aL}{t:Nat}{pp:List Nat}(h:ym g0 g) (aV:pp=[]\/∃ cs,g t=some (.obj cs)):ym g0 (cp g ⟨t,pp⟩ .dead):=by
 intro s x j aS;unfold cp at j
 split at j
 ·rename_i az;simp only at az j;subst az;exfalso;cases aN:g s with
  | none=>rw [aN] at j; cases j
  | some y =>
   rw [aN] at j;simp only [Option.map_some,Option.some.injEq] at j;rcases aV with rfl | ⟨cs,aa⟩
   ·simp only [ab.setAt] at j;subst j;rcases aS with aS | ⟨_,_,_,aS⟩ <;> cases aS
   ·rw [aN] at aa;cases aa;have:∃ cs',x=.obj cs':=by
     subst j;cases pp with
     | nil=>simp only [ab.setAt] at aS; rcases aS with aS | ⟨_,_,_,aS⟩ <;> cases aS
     | cons k pp =>
      simp only [ab.setAt,ab.kids];split
      ·exact ⟨_,rfl⟩
      ·exact ⟨_,rfl⟩
    obtain ⟨cs',rfl⟩:=this;rcases aS with aS | ⟨_,_,_,aS⟩ <;> cases aS
 ·exact h s x j aS
theorem nc.dies {g0:aL}{s i:Nat}{ys xs:List ab}(h:nc s g i ys xs g'):(∃ cs,g s=some (.obj cs))->ym g0 g->ym g0 g':=by
 induction h with
 | nil=>exact λ_ h=>h
 | f _ _ aM=>exact aM
 | @o α g g' i en L ys xs au _ aM =>
  intro aV aP;refine aM ?_ (aP.set (.inr aV));obtain ⟨cs,aa⟩:=aV;unfold cp;simp only [if_pos,aa,Option.map_some,ab.setAt,ab.kids];split
  ·exact ⟨_,rfl⟩
  ·exact ⟨_,rfl⟩
theorem nc.out {s i:Nat}{ys xs:List ab}(h:nc s g i ys xs g'):∀ t,t≠s->g' t=g t:=by
 induction h with
 | nil=>exact λ_ _=>rfl
 | f _ _ aM=>exact aM
 | o _ _ aM=>exact λt ar=>by rw [aM t ar,v8 ar]
theorem j3.take {rs:List ResultVar}{ys xs:List ab}(h:j3 P g rs ys xs g'):Take g ys xs g':=by
 induction h with
 | nil=>exact .bj (by simp)
 | @f g g' t x rs ys xs h aS aA _ aM=>exact .cons aA.bj aM
 | @o α g g' t en L rs ys xs h _ aM =>
  have au:bt g ⟨t,[]⟩=some (ao en L):=by simp [bt,h,ab.at]
  refine .bf au (Nat.le_refl _) ?_ aM;rw [x3]; exact .bj (pK en L)
 | @c g g' wQ t z ty cs ys0 rs ys xs h ar aW aO al hk _ aM=>exact .agg hk.take aM
theorem j3.vs {rs:List ResultVar}{ys xs:List ab}(h:j3 P g rs ys xs g'):∀ g0:aL,ym g0 g->(∀ t ty,ResultVar.cell t ty∈rs->∀ cs,g t=some (.obj cs)->g0 t=some (.obj cs))->(rs.filterMap fun | .cell t _=>some t | _=>none).Nodup->rB P g0 rs ys:=by
 induction h with
 | nil=>exact λ_ _ _ _=>.nil
 | @f g g' t x rs ys xs h aS aA _ aM =>
  intro g0 aP av fq;exact .cons (.tmp (Rd.f (aP t x h (.inl aS)) aS)) (aM g0 aP (λt ty hm=>av t ty (List.mem_cons_of_mem _ hm)) (by simpa using fq))
 | @o α g g' t en L rs ys xs h _ aM =>
  intro g0 aP av fq;refine .cons (.tmp ?_) (aM g0 (aP.set (.inl rfl)) (λs ty hm cs aa=>?_) (by simpa using fq))
  ·have:=aP t _ h (.inr ⟨_,_,_,rfl⟩);simp [Own.bn,this,oc,fL]
  ·by_cases az:s=t
   ·subst az; simp [cp,h,ab.setAt] at aa
   ·rw [v8 az] at aa; exact av s ty (List.mem_cons_of_mem _ hm) cs aa
 | @c g g' wQ t z ty cs ys0 rs ys xs h ar aW aO al hk _ aM =>
  intro g0 aP av fq;have h1:=av t ty (by simp) cs h;simp only [List.filterMap_cons,List.nodup_cons] at fq;refine .cons ?_ (aM g0 (hk.dies ⟨cs,h⟩ aP) (λs ya hm cs' aa=>?_) fq.2)
  ·have N7:0<z:=by simpa using aO
   have j:Own.bn g0 (.tmp t)=some (.ptr ⟨t,[]⟩ 0):=by
    cases cs with
    | nil=>simp at aW; omega
    | cons c cs=>simp [Own.bn,h1,oc,fL]
   have:=cU.xr (P:=P) (ty:=ty) (p:=⟨t,[]⟩) (n:=0) (z:=0) j ar (by simp only [bt,h1,ab.at]) (.inr rfl) (show 0+z<=cs.length by omega);have hh:((cs.drop 0).take z).mapIdx (λi x=>fL 0 (Place.push ⟨t,[]⟩ (0+i)) x)=ys0:=by
    rw [List.drop_zero,List.take_of_length_le (by omega),<- al];congr 1;funext i x;simp [Place.push]
   rw [hh] at this;exact .cell this
  ·have bR:s≠t:=by
    rintro rfl;exact fq.1 (List.mem_filterMap.2 ⟨.cell s ya,hm,rfl⟩)
   have:=hk.out s bR;rw [this] at aa;exact av s ya (List.mem_cons_of_mem _ hm) cs' aa
inductive qG (g:aL) (pins:List Nat):Nat->List (Option ab)->Prop
 | nil {i:Nat}:qG g pins i []
 | no {i:Nat}{os:List (Option ab)}(t:qG g pins (i+1) os):qG g pins i (none::os)
 | ag {i:Nat}{x:ab}{os:List (Option ab)}(h:g i=some x) [aA:b4 x] (au:pins.elem i=true) (t:qG g pins (i+1) os):qG g pins i (some x::os)
theorem qG.spec {pins:List Nat}{i:Nat}{os:List (Option ab)}(h:qG g pins i os):∀ k x,os[k]?=some (some x)->g (i+k)=some x/\cF x/\i+k∈pins:=by
 induction h with
 | nil=>intro k x hk; simp at hk
 | no _ aM =>
  intro k x hk;cases k with
  | zero=>simp at hk
  | succ k=>have:=aM k x (by simpa using hk); rw [Nat.add_assoc,Nat.add_comm 1 k] at this; exact this
 | @ag i y os h aA au _ aM =>
  intro k x hk;cases k with
  | zero=>simp at hk; subst hk; exact ⟨h,aA.bj,by simpa using au⟩
  | succ k=>have:=aM k x (by simpa using hk); rw [Nat.add_assoc,Nat.add_comm 1 k] at this; exact this
theorem Fin.ro {rs:List ResultVar}{ys xs:List ab}{res:ab}{outs:List (Option ab)}{n:Nat}(h:j3 P g rs ys xs g') (he:oW xs=res) (fq:(rs.filterMap fun | .cell t _=>some t | _=>none).Nodup) (aV:qG g' N.pins 0 outs) (ai:outs.length=n) (j:e=.normal\/e=.ret):Fin P N rs n outs res e g :=
 ⟨j,⟨ys,xs,g',h.vs g (λ_ _ h _=>h) (λ_ _ _ _ h=>h) fq,h.take,he.symm,λk x hk=>by have:=aV.spec k x hk; rw [Nat.zero_add] at this; exact this⟩,ai⟩
class iV (x y:ab):Prop where v:∀ g,View g x y
class c8 (xs ys:List ab):Prop where
 l:ys.length=xs.length
 v:∀ (g:aL) (k:Nat) (x y:ab),xs[k]?=some x->ys[k]?=some y->View g x y
class gu (e b_:bz α):Prop where
 z:e.z=b_.z
 v:∀ a,c8 (e.cells a) (b_.cells a)
instance {v:Value}:iV (.lit v) (.lit v):=⟨λ_=>.self .lit (by simp) (by simp) (by simp) (by simp) (by simp)⟩
instance:iV .aT .aT:=⟨λ_=>.self .aT (by simp) (by simp) (by simp) (by simp) (by simp)⟩
instance {z n:Nat}{cs:List ab} [h:dj cs]:iV (.bk z n cs) (.bk z n cs):=⟨λ_=>.self (.bk h.bj) (by simp) (by simp) (by simp) (by simp) (by simp)⟩
instance {cs:List ab} [h:dj cs]:iV (.cK cs) (.cK cs):=⟨λ_=>.self (.cK h.bj) (by simp) (by simp) (by simp) (by simp) (by simp)⟩
instance {e:bz α}:iV .aT (ak e []):=⟨λ_=>.qm⟩
instance:c8 [] []:=⟨rfl,by simp⟩
instance {x y:ab}{xs ys:List ab} [h:iV x y] [aJ:c8 xs ys]:c8 (x::xs) (y::ys):=⟨by simp [aJ.l],λg k a b aR av=>by
 cases k with
 | zero=>simp at aR av; subst aR av; exact h.v g
 | succ k=>exact aJ.v g k a b (by simpa using aR) (by simpa using av)⟩
theorem Dh (e b_:bz α) [h:gu e b_]:∀ L:List α,(bp b_ L).length=(bp e L).length/\∀ (g:aL) (k:Nat) (x y:ab),(bp e L)[k]?=some x->(bp b_ L)[k]?=some y->View g x y
 | []=>⟨rfl,by simp [bp]⟩
 | a::L=>by
  obtain ⟨h1,af⟩:=Dh e b_ L;have TE:∀ e:bz α,bp e (a::L)=e.cells a++bp e L:=λe=>by simp [bp]
  refine ⟨by rw [oX,oX,h.z],λg k x y j al=>?_⟩;rw [TE] at j al;by_cases hk:k<e.z
  ·rw [List.getElem?_append_left (by rw [e.len]; exact hk)] at j;rw [List.getElem?_append_left (by rw [b_.len,<- h.z]; exact hk)] at al;exact (h.v a).v g k x y j al
  ·rw [List.getElem?_append_right (by rw [e.len]; omega),e.len] at j;rw [List.getElem?_append_right (by rw [b_.len,<- h.z]; omega),b_.len,<- h.z] at al;exact af g _ x y j al
instance {e b_:bz α}{L:List α} [h:gu e b_]:iV (ao e L) (ak b_ L):=⟨λg=>by
 have:=Dh e b_ L;show View g (.own e.z L.length (bp e L)) (.bk b_.z L.length (bp b_ L));rw [<- h.z];exact .own this.1 (this.2 g)⟩
instance:gu ax ax:=⟨rfl,λa=>(inferInstance:c8 [ae a] [ae a])⟩
instance:gu p4 p4:=⟨rfl,λa=>(inferInstance:c8 [qJ a] [qJ a])⟩
instance:gu cj cj:=⟨rfl,λa=>(inferInstance:c8 [bc a] [bc a])⟩
instance:gu cI cI:=⟨rfl,λa=>(inferInstance:c8 [aw a] [aw a])⟩
instance {e b_:bz α} [h:gu e b_]:gu (Ms e) (bG b_):=⟨rfl,λa=>(inferInstance:c8 [ao e a] [ak b_ a])⟩
instance {e:bz α}:gu (bG e) (bG e):=⟨rfl,λa=>(inferInstance:c8 [ak e a] [ak e a])⟩
theorem View.row {e b_:bz α}{L:List α} [h:gu e b_] (au:bt g p=some (ao e L)):View g (.bf e.z p L.length) (ak b_ L):=by
 have:=Dh e b_ L;show View g _ (.bk b_.z L.length (bp b_ L));rw [<- h.z];refine .bf au (Nat.le_refl _) (by rw [x3]; exact this.1) (λk x y j al=>?_);rw [x3] at j;exact this.2 g k x y j al
inductive ou (g:aL):List ab->List ab->Prop
 | nil:ou g [] []
 | s {x y:ab}{xs ys:List ab} [h:iV x y] (t:ou g xs ys):ou g (x::xs) (y::ys)
 | c {x y:ab}{xs ys:List ab}(h:View g x y) (t:ou g xs ys):ou g (x::xs) (y::ys)
theorem ou.len {xs ys:List ab}(h:ou g xs ys):ys.length=xs.length:=by
 induction h with
 | nil=>rfl
 | s _ aM=>simp [aM]
 | c _ _ aM=>simp [aM]
theorem ou.get {xs ys:List ab}(h:ou g xs ys):∀ (k:Nat) (x y:ab),xs[k]?=some x->ys[k]?=some y->View g x y:=by
 induction h with
 | nil=>intro k x y j; simp at j
 | @s x y xs ys h _ aM =>
  intro k a b aR av;cases k with
  | zero=>simp at aR av; subst aR av; exact h.v g
  | succ k=>exact aM k a b (by simpa using aR) (by simpa using av)
 | @c x y xs ys h _ aM =>
  intro k a b aR av;cases k with
  | zero=>simp at aR av; subst aR av; exact h
  | succ k=>exact aM k a b (by simpa using aR) (by simpa using av)
theorem View.ov {xs ys:List ab}(h:ou g xs ys):View g (.agg xs) (.agg ys):=.agg h.len h.get
class oo (x:ab):Prop where lg:j2 x
class jf (cs:List ab):Prop where lg:∀ x∈cs,j2 x
class lr (e:bz α):Prop where lg:∀ a,jf (e.cells a)
instance {v:Value}:oo (.lit v):=⟨.lit⟩
instance:oo .aT:=⟨.aT⟩
instance {k:Nat × Nat}:oo (.self k):=⟨.self⟩
instance {t:Nat}{us:List Value}:oo (.eV t us):=⟨.eV⟩
instance:jf []:=⟨by simp⟩
instance {x:ab}{xs:List ab} [h:oo x] [aJ:jf xs]:jf (x::xs):=⟨λy al=>by
 rcases List.mem_cons.1 al with rfl | al
 ·exact h.lg
 ·exact aJ.lg y al⟩
instance {e:bz α}{L:List α} [h:lr e]:jf (bp e L):=⟨λx j=>by
 obtain ⟨a,_,aR⟩:=List.mem_flatMap.1 j;exact (h.lg a).lg x aR⟩
instance {z n:Nat}{cs:List ab} [h:jf cs]:oo (.own z n cs):=⟨.own h.lg⟩
instance {cs:List ab} [h:jf cs]:oo (.obj cs):=⟨.obj h.lg⟩
instance {cs:List ab} [h:jf cs]:oo (.agg cs):=⟨.agg h.lg⟩
instance {cs:List ab} [h:jf cs]:oo (.bQ cs):=⟨.bQ h.lg⟩
instance {e:bz α}{a:α} [h:lr e]:jf (e.cells a):=h.lg a
instance:lr ax:=⟨λa=>(inferInstance:jf [ae a])⟩
instance:lr p4:=⟨λa=>(inferInstance:jf [qJ a])⟩
instance:lr cj:=⟨λa=>(inferInstance:jf [bc a])⟩
instance:lr cI:=⟨λa=>(inferInstance:jf [aw a])⟩
instance {e:bz α} [h:lr e]:lr (Ms e):=⟨λa=>(inferInstance:jf [ao e a])⟩
theorem XU {outs:List (Option ab)}{args:List ab}(aV:sV outs=true) (ai:outs.length=args.length):outs=args.map λ_=>none:=by
 apply List.ext_getElem?;intro k;rw [List.getElem?_map];cases al:args[k]? with
 | none=>rw [List.getElem?_eq_none (by rw [ai]; exact List.getElem?_eq_none_iff.1 al)]; rfl
 | some y =>
  have hk:k<outs.length:=by rw [ai]; exact (List.getElem?_eq_some_iff.1 al).1
  have h1:=List.getElem?_eq_getElem hk;rw [h1];cases af:outs[k] with
  | none=>rfl
  | some x=>rw [af] at h1; exact absurd h1 (E' aV k x)
theorem cZ.vw {xs:List Operand}{gl:Array TypeId}{f:FuncId}{ys args:List ab}{outs:List (Option ab)}{res:ab}(j:fK g xs=some ys) (hv:ou g ys args) (g_:bY P f args outs res) (aS:iI P f=true) (aV:sV outs=true) [ah:oo res] :
  cZ P g (.call { callee:=.value (.func f),args:=xs.toArray,argTypes:=gl }) res:=by
 have e:=XU aV g_.1;refine .EW (first:=[]) (caps:=[]) (ys:=ys) (args:=args) rfl (by simpa using j) aS (by simpa using hv.len) (λk x y j al=>hv.get k x y (by simpa using j) al) ?_ ah.lg;rw [<- e]; exact g_
end
end Go.Own
namespace Go.Own
open Go
set_option linter.unusedSectionVars false
variable [cH]
variable {α β:Type}
section
variable {P:Program}{N:cQ}{ops:Array Oper}{g g' g1 g2:aL}{K:aL->Prop}{l:List Oper}{d r:Nat}{op:Op}{ty t t2:TypeId}{pos:String}{after:Array Edge}{gd:Option (Nat × Bool)}{a b c:Operand}{p q:Place}{x y:ab}
variable {a':List (List Nat)}{g0:aL}{acc:Acc}{i:Nat}
instance {cs cs':List ab} [h:c8 cs cs']:iV (.obj cs) (.cK cs'):=⟨λg=>.obj h.l (h.v g)⟩
instance {cs cs':List ab} [h:c8 cs cs']:iV (.agg cs) (.agg cs'):=⟨λg=>.agg h.l (h.v g)⟩
instance {z n:Nat}{cs cs':List ab} [h:c8 cs cs']:iV (.own z n cs) (.bk z n cs'):=⟨λg=>.own h.l (h.v g)⟩
theorem aD.gr (au:b8 P g op ty y) [aA:b4 y] [hv:iV y x] (a_:N.ok d=true) (aS:g d=none) (aN:fb g ops gd) (hk:aD P N ops l (cJ g d x) K):aD P N ops (⟨some d,op,ty,pos,after,gd⟩::l) g K :=
 .Ai rfl a_ aS (r:=some x) (.inr (.inr ⟨aN.wanted,y,.inl au,aA.bj,hv.v _⟩)) hk
theorem bA.gr (bw:Nat) (au:b8 P (jv a' g0 bw acc) op ty y) [aA:b4 y] [hv:iV y x] (aj:Nat.beq ops.size (bw+l.length+1)=true) (aS:g0 d=none) (k9:acc.all (λe=>!Nat.beq e.2.1 d)=true) (a_:N.ok d=true) (aN:fb (jv a' g0 bw acc) ops gd)
  (hk:bA P N ops a' g0 i ((bw,d,some x)::acc) l K):bA P N ops a' g0 i acc (⟨some d,op,ty,pos,after,gd⟩::l) K :=
 .st bw (r:=some x) rfl (.inr (.inr ⟨aN.wanted,y,.inl au,aA.bj,hv.v _⟩)) aj aS k9 a_ hk
inductive nX (ex:List Nat) (g g2:aL):List (Nat × ab)->Prop
 | nil:nX ex g g2 []
 | n {s:Nat}{x:ab}{l:List (Nat × ab)}(cz:ex.elem s=false) (h:g s=some x) [aA:b4 x] (t:nX ex g g2 l):nX ex g g2 ((s,x)::l)
 | p {s q k:Nat}{l:List (Nat × ab)}{kn:List ab}(cz:ex.elem s=false) (h:g s=some (.ptr ⟨q,[]⟩ k)) (af:g2 q=some (.obj kn)) (fS:Nat.blt k kn.length=true) (t:nX ex g g2 l):nX ex g g2 ((s,.ptr ⟨q,[]⟩ k)::l)
 | z {s:Nat}{x y:ab}{l:List (Nat × ab)}(he:ex.elem s=true) (h:g s=some y) [aA:b4 y] (hv:gY y x) [j:nb x] (t:nX ex g g2 l):nX ex g g2 ((s,x)::l)
theorem nX.spec {ex:List Nat}{l:List (Nat × ab)}(h:nX ex g g2 l):∀ t x,get l t=some x->((ex.elem t=false/\g t=some x/\eo g2 x)\/(ex.elem t=true/\∃ y,g t=some y/\cF y/\gY y x))/\∀ z p n m new,x≠.bC z p n m new:=by
 induction h with
 | nil=>intro t x j; cases j
 | @n s x l cz h aA _ aM =>
  intro t y al; simp only [get] at al
  split at al
  ·rename_i e; subst e; cases al; exact ⟨.inl ⟨cz,h,.bj aA.bj⟩,by rintro z p n m new rfl; cases aA.bj⟩
  ·exact aM t y al
 | @p s q k l kn cz h af fS _ aM =>
  intro t y al; simp only [get] at al
  split at al
  ·rename_i e; subst e; cases al; exact ⟨.inl ⟨cz,h,.ref rfl (vY af (by simpa using fS))⟩,by simp⟩
  ·exact aM t y al
 | @z s x y l he h aA hv j _ aM =>
  intro t y' al; simp only [get] at al
  split at al
  ·rename_i e; subst e; cases al; exact ⟨.inr ⟨he,y,h,aA.bj,hv⟩,j.fr⟩
  ·exact aM t y' al
theorem nX.va {ex:List Nat}{G2:List (Nat × ab)}(h:nX ex g (get G2) G2):Gm (λt=>ex.elem t) g (get G2):=by
 refine ⟨λt x j ar=>?_,λt x j ar=>?_,λt z q n m new j=>(h.spec t _ j).2 _ _ _ _ _ rfl⟩
 ·rcases (h.spec t x j).1 with ⟨_,h1,af⟩ | ⟨h1,_⟩
  ·grind
  grind
 ·rcases (h.spec t x j).1 with ⟨h1,_⟩ | ⟨_,af⟩
  ·grind
  grind
theorem W.dG {bl:Code}{G G1:List (Nat × ab)}{Φ:Exit->aL->Prop}(ex:List Nat) (h:nX ex (get G) (get G1) G1) (hw:W P N bl (get G1) Φ):W P N bl (get G) Φ:=by
 intro Q a w I Fs bm a_ dH;obtain ⟨I',b3,d_,bR⟩:=bm.va h.va;exact hw d_ a_ λe g' b1 w' he aA=>dH e g' b1 w' he (h4.trans rfl hE.refl bR aA)
theorem aD.dG {G1:List (Nat × ab)}(ex:List Nat) (h:nX ex g (get G1) G1) (hk:aD P N ops l (get G1) K):aD P N ops l g K:=by
 intro i hi;obtain ⟨g',ah,c7⟩:=hk i hi;exact ⟨g',.va h.va ah,c7⟩
theorem Take.pre {xs xs':List ab}:∀ {ps:List ab},(∀ x∈ps,cF x)->Take g xs xs' g'->Take g (ps++xs) (ps++xs') g'
 | [],_,h=>h
 | x::ps,aA,h=>.cons (aA x (by simp)) (Take.pre (ps:=ps) (λy al=>aA y (List.mem_cons_of_mem _ al)) h)
inductive eU:aL->List ab->List ab->aL->Prop
 | nil {g:aL}:eU g [] [] g
 | ij {g:aL}{xs:List ab} [aA:dj xs]:eU g xs xs g
 | f {g g':aL}{x:ab}{xs xs':List ab} [aA:b4 x] (t:eU g xs xs' g'):eU g (x::xs) (x::xs') g'
 | r {α:Type}{g g':aL}{p:Place}{en:bz α}{L:List α}{xs xs':List ab}(au:bt g p=some (ao en L)) (t:eU (cp g p .dead) xs xs' g'):eU g (.bf en.z p L.length::xs) (ao en L::xs') g'
 | l {g g1 g':aL}{p:Place}{z n:Nat}{cs cs' xs xs':List ab}(au:bt g p=some (.own z n cs)) (ai:cs.length=n * z) (h1:eU (cp g p .dead) cs cs' g1) (t:eU g1 xs xs' g'):eU g (.bf z p n::xs) (.own z n cs'::xs') g'
 | hV {α:Type}{g g1 g':aL}{q:Place}{s m:Nat}{en:bz α}{L:List α}{new cO xs xs':List ab}(az:g s=some (.bC en.z q L.length m new)) (au:bt g q=some (ao en L)) (a7:Nat.beq q.root s=false) (h1:eU (cp (cp g ⟨s,[]⟩ .dead) q .dead) new cO g1) (t:eU g1 xs xs' g') :
   eU g (.bf en.z ⟨s,[]⟩ (L.length+m)::xs) (.own en.z (L.length+m) (bp en L++cO)::xs') g'
 | ov {g g1 g':aL}{cs cs' xs xs':List ab}(h1:eU g cs cs' g1) (t:eU g1 xs xs' g'):eU g (.agg cs::xs) (.agg cs'::xs') g'
 | m {g g':aL}{p:Place}{q:Array MapEntry->Nat->Prop}{xs xs':List ab}(au:bt g p=some (.mp q)) (t:eU (cp g p .dead) xs xs' g'):eU g (.hq p::xs) (.mp q::xs') g'
 | b {g g1 g':aL}{p:Place}{cs cs' xs xs':List ab}(au:bt g p=some (.obj cs)) (h1:eU (cp g p .dead) cs cs' g1) (t:eU g1 xs xs' g'):eU g (.ptr p 0::xs) (.obj cs'::xs') g'
theorem eU.take {xs xs':List ab}(h:eU g xs xs' g'):Take g xs xs' g':=by
 induction h with
 | m au _ aM=>exact .mp au (.bj (by simp)) aM
 | nil=>exact .bj (by simp)
 | @ij g xs aA=>exact .bj aA.bj
 | @f g g' x xs xs' aA _ aM=>exact .cons aA.bj aM
 | @r α g g' p en L xs xs' au _ aM =>
  refine .bf au (Nat.le_refl _) ?_ aM;rw [x3];exact .bj (pK en L)
 | @l g g1 g' p z n cs cs' xs xs' au ai _ _ gj fX =>
  refine .bf au (Nat.le_refl _) ?_ fX
  grind
 | @hV α g g1 g' q s m en L new cO xs xs' az au a7 _ _ gj fX=>exact .bC az au (Nat.ne_of_beq_eq_false a7) (.pre (pK en L) gj) fX
 | @ov g g1 g' cs cs' xs xs' _ _ gj fX=>exact .agg gj fX
 | @b g g1 g' p cs cs' xs xs' au _ _ gj fX=>exact .obj au gj fX
inductive fA:List ab->List ab->Prop
 | nil:fA [] []
 | hW {xs:List ab}:fA xs xs
 | f {x:ab}{xs ys:List ab}(t:fA xs ys):fA (x::xs) (x::ys)
 | o {z:Nat}{xs ys:List ab}(t:fA xs ys):fA (.aT::xs) (.own z 0 []::ys)
 | z {x y:ab}{xs ys:List ab} [aA:b4 x] [hv:iV x y] (t:fA xs ys):fA (x::xs) (y::ys)
 | g {x y:ab}{xs ys:List ab}(h:gY x y) (t:fA xs ys):fA (x::xs) (y::ys)
theorem fA.len {xs ys:List ab}(h:fA xs ys):ys.length=xs.length:=by
 induction h with
 | nil=>rfl
 | hW=>rfl
 | f _ aM=>simp [aM]
 | o _ aM=>simp [aM]
 | z _ aM=>simp [aM]
 | g _ _ aM=>simp [aM]
theorem fA.get {xs ys:List ab}(h:fA xs ys):∀ (k:Nat) (x y:ab),xs[k]?=some x->ys[k]?=some y->gY x y:=by
 induction h with
 | nil=>intro k x y j; simp at j
 | hW=>intro k x y j al; rw [j] at al; cases al; exact .refl
 | @f x xs ys _ aM =>
  intro k a b aR av;cases k with
  | zero=>simp at aR av; subst aR av; exact .refl
  | succ k=>exact aM k a b (by simpa using aR) (by simpa using av)
 | @o z xs ys _ aM =>
  intro k a b aR av;cases k with
  | zero=>simp at aR av; subst aR av; exact .Cm
  | succ k=>exact aM k a b (by simpa using aR) (by simpa using av)
 | @z x y xs ys aA hv _ aM =>
  intro k a b aR av;cases k with
  | zero=>simp at aR av; subst aR av; exact .oT aA.bj (hv.v _)
  | succ k=>exact aM k a b (by simpa using aR) (by simpa using av)
 | @g x y xs ys h _ aM =>
  grind
theorem fA.pre {xs ys:List ab}(h:fA xs ys):∀ ps:List ab,fA (ps++xs) (ps++ys)
 | []=>h
 | _::ps=>.f (fA.pre h ps)
theorem fA.own {z n:Nat}{xs ys:List ab}(h:fA xs ys):gY (.own z n xs) (.own z n ys):=.own h.len h.get
theorem fA.obj {xs ys:List ab}(h:fA xs ys):gY (.obj xs) (.obj ys):=.obj h.len h.get
theorem fA.agg {xs ys:List ab}(h:fA xs ys):gY (.agg xs) (.agg ys):=.agg h.len h.get
theorem gY.jJ [aA:b4 x] [hv:iV x y]:gY x y:=.oT aA.bj (hv.v _)
theorem bq.yJ {o:Oper}{x:Operand}{y bI y':ab}{G2:List (Nat × ab)}(aV:o.op=.assign x) (aP:o.dst=some d) (j:Rd g x y) (ar:eU g [y] [bI] g1) (aW:gY bI y') (c':Trim false g1 (get G2) G2) (aN:get G2 d=none) (a_:N.ok d=true):bq P N g o (cJ (get G2) d y') :=
 .assign aV aP j.bn ar.take aW c'.keep aN a_
theorem bq.LI {o:Oper}{x:Operand}{en:bz α}{L M R:List α}{s m:Nat}{new cO:List ab}{G2:List (Nat × ab)}(aV:o.op=.assign x) (aP:o.dst=some d) (j:Rd g x (.bf en.z ⟨s,[]⟩ (L.length+m))) (az:g s=some (.bC en.z q L.length m new)) (au:bt g q=some (ao en L)) (a7:Nat.beq q.root s=false)
  (h1:eU (cp (cp g ⟨s,[]⟩ .dead) q .dead) new cO g1) (aW:fA cO (bp en M)) (hm:M.length=m) (ah:L++M=R) (c':Trim false g1 (get G2) G2) (aN:get G2 d=none) (a_:N.ok d=true):bq P N g o (cJ (get G2) d (ao en R)):=by
 subst hm ah;have ar:=eU.hV (xs:=[]) (xs':=[]) az au a7 h1 .nil;rw [<- nK];exact .assign aV aP j.bn ar.take (aW.pre _).own c'.keep aN a_
theorem bq.v' {o:Oper}{k0:Nat}{jj cs' cs2:List ab}{y bI y':ab}{G2:List (Nat × ab)}(aV:o.op=.store t a b) (aP:o.dst=none) (aR:Rd g a (.ptr ⟨r,[]⟩ k0)) (av:Rd g b y) (ar:eU g [y] [bI] g1) (n1:gY bI y') (aa:nY y'=some cs') (aW:hC P t cs'.length=true)
  (az:g1 r=some (.obj jj)) (hk:Nat.ble (k0+cs'.length) jj.length=true) (aO:Nat.blt 0 cs'.length=true) (he:eP jj k0 cs'=cs2) [e':dj jj] (ah:(get G2 r).isSome=true) (c':lu g1 (get G2) r cs2 G2):bq P N g o (get G2):=by
 subst he;refine .store aV aP aR.bn av.bn ar.take n1 aa aW (p:=⟨r,[]⟩) (nd:=.obj jj) (z:=0) (n:=0) (by simp [bt,az,ab.at]) (.inr rfl) (Nat.le_of_ble_eq_true hk) (by simpa using aO) (λt x j=>?_) (λt x j y al=>?_) (λt z q n m new j=>?_) (by intro e; rw [e] at ah; cases ah)
 ·rcases c'.spec t x j with ⟨h1,af,_⟩ | ⟨h1,af,_⟩
  all_goals grind [cp,ab.setAt,ab.eP]
 ·rcases c'.spec t x j with ⟨h1,af,aK⟩ | ⟨h1,af,aK⟩
  ·rw [af] at al;cases al;exact aK.C6
  ·subst h1;rw [az] at al;cases al;exact .bj (.obj e'.bj)
 ·rcases c'.spec t _ j with ⟨_,_,aK⟩ | ⟨_,af,_⟩
  ·exact aK.fr _ _ _ _ _ rfl
  grind
theorem bq.FJ {o:Oper}{k0 s m:Nat}{en:bz α}{L M R:List α}{new cO:List ab}{jj cs2:List ab}{G2:List (Nat × ab)}(aV:o.op=.store t a b) (aP:o.dst=none) (aR:Rd g a (.ptr ⟨r,[]⟩ k0)) (av:Rd g b (.bf en.z ⟨s,[]⟩ (L.length+m))) (qb:g s=some (.bC en.z q L.length m new)) (au:bt g q=some (ao en L)) (a7:Nat.beq q.root s=false)
  (h1:eU (cp (cp g ⟨s,[]⟩ .dead) q .dead) new cO g1) (n1:fA cO (bp en M)) (hm:M.length=m) (a1:L++M=R) (aW:hC P t 1=true)
  (az:g1 r=some (.obj jj)) (hk:Nat.ble (k0+1) jj.length=true) (he:eP jj k0 [ao en R]=cs2) [e':dj jj] (ah:(get G2 r).isSome=true) (c':lu g1 (get G2) r cs2 G2):bq P N g o (get G2):=by
 subst hm a1;have ar:=eU.hV (xs:=[]) (xs':=[]) qb au a7 h1 .nil;refine .v' (y':=ao en (L++M)) aV aP aR av ar ?_ rfl aW az hk rfl he ah c';rw [<- nK]; exact (n1.pre _).own
inductive na (r:Nat) (cs:List ab) (k0:Nat):Nat->List ab->List ab->Prop
 | nil {i:Nat}:na r cs k0 i [] []
 | b {i:Nat}{xs ys:List ab}(hi:Nat.beq i k0=true) (t:na r cs k0 (i+1) xs ys):na r cs k0 i (.ptr ⟨r,[]⟩ 0::xs) (.obj cs::ys)
 | n {i:Nat}{x:ab}{xs ys:List ab}(hi:Nat.beq i k0=false) [aA:b4 x] (t:na r cs k0 (i+1) xs ys):na r cs k0 i (x::xs) (x::ys)
theorem na.len {cs:List ab}{k0 i:Nat}{xs ys:List ab}(h:na r cs k0 i xs ys):ys.length=xs.length:=by
 induction h with
 | nil=>rfl
 | b _ _ aM=>simp [aM]
 | n _ _ aM=>simp [aM]
theorem na.XV {cs:List ab}{k0 i:Nat}{xs ys:List ab}(h:na r cs k0 i xs ys) (hi:k0<i):xs=ys/\∀ x∈xs,cF x:=by
 induction h with
 | nil=>exact ⟨rfl,by simp⟩
 | @b i _ _ h _ _=>have:=Nat.eq_of_beq_eq_true h; omega
 | @n i x xs ys _ aA _ aM =>
  obtain ⟨h1,af⟩:=aM (by omega);exact ⟨by rw [h1],pD aA.bj af⟩
theorem na.take {cs:List ab}{k0 i:Nat}{xs ys:List ab}(h:na r cs k0 i xs ys) (az:g r=some (.obj cs)) (aA:∀ x∈cs,cF x):i<=k0->k0<i+xs.length->Take g xs ys (cp g ⟨r,[]⟩ .dead):=by
 induction h with
 | nil=>intro h1 af; simp at af; omega
 | @b i xs ys hi t _ =>
  intro h1 af;have:=Nat.eq_of_beq_eq_true hi;obtain ⟨e,mS⟩:=t.XV (by omega);subst e;exact .obj (by simp [bt,az,ab.at]) (.bj aA) (.bj mS)
 | @n i x xs ys hi j _ aM =>
  intro h1 af;have:=Nat.ne_of_beq_eq_false hi;simp only [List.length_cons] at af;exact .cons j.bj (aM (by omega) (by omega))
theorem na.RX {cs:List ab}{k0 i:Nat}{xs ys:List ab}(h:na r cs k0 i xs ys):i<=k0->k0<i+xs.length->xs[k0 - i]?=some (.ptr ⟨r,[]⟩ 0):=by
 induction h with
 | nil=>intro h1 af; simp at af; omega
 | @b i xs ys hi _ _=>intro _ _; have:=Nat.eq_of_beq_eq_true hi; subst this; simp
 | @n i x xs ys hi _ _ aM =>
  grind [Nat.ne_of_beq_eq_false]
def uz (n k0:Nat) (x:ab):List (Option ab):=(List.range n).map λi=>if i=k0 then some x else none
inductive yk (g:aL) (d r:Nat) (n:Nat) (G4:List (Nat × ab)):List (Nat × ab)->Prop
 | nil:yk g d r n G4 []
 | c {s k:Nat}{l:List (Nat × ab)}(h:g s=some (.ptr ⟨r,[]⟩ k)) (hk:Nat.blt k n=true) (aP:Nat.beq s d=false) (bu:get G4 s=none) (t:yk g d r n G4 l):yk g d r n G4 ((s,.ptr ⟨r,[]⟩ k)::l)
theorem D8 {A B:List (Nat × ab)}{t:Nat}:get (A++B) t=match get A t with | some x=>some x | none=>get B t:=by
 induction A with
 | nil=>rfl
 | cons p A aM =>
  grind [get]
theorem yk.spec {n:Nat}{G4 A:List (Nat × ab)}(h:yk g d r n G4 A):∀ t x,get A t=some x->get G4 t=none/\t≠d/\g t=some x/\∃ k,x=.ptr ⟨r,[]⟩ k/\k<n:=by
 induction h with
 | nil=>intro t x j; cases j
 | @c s k l h hk aP bu _ aM =>
  intro t x j;simp only [get] at j
  split at j
  ·rename_i e;subst e;cases j
   simp_all [Nat.ne_of_beq_eq_false]
  grind
theorem h0.lI {o:Oper}{xs:List Operand}{gl:Array TypeId}{f:FuncId}{ys args:List ab}{res:ab}{cs cs':List ab}{k0:Nat}{G2 A:List (Nat × ab)}(aV:o.op=.call { callee:=.value (.func f),args:=xs.toArray,argTypes:=gl }) (aP:o.dst=some d) (j:Own.fK g xs=some ys)
  (az:g r=some (.obj cs)) [e':dj cs] (aR:na r cs k0 0 ys args) (mu:Nat.blt k0 ys.length=true) (g_:bY P f args (uz args.length k0 (.obj cs')) res) (aS:iI P f=true) [ah:b4 res] [BC:dj cs']
  (c':Trim false (cp g ⟨r,[]⟩ .dead) (get ((r,.dead)::G2)) G2) (aN:get G2 d=none) (rU:Nat.beq r d=false) (Bc:Trim false (get ((r,.obj cs')::G2)) (get ((r,.obj cs')::G2)) G2) (dX:yk g d r cs'.length ((r,.obj cs')::G2) A) (a_:N.ok d=true) :
  h0 P N g o d (get (A++(d,res)::(r,.obj cs')::G2)):=by
 have acW:k0<ys.length:=by simpa using mu
 have BL:r≠d:=Nat.ne_of_beq_eq_false rU;have tT:args.length=ys.length:=aR.len;have oL:(uz args.length k0 (.obj cs'))[k0]?=some (some (.obj cs')):=by
  unfold uz;rw [List.getElem?_map,List.getElem?_range (by omega)];simp
 have Wd:∀ (k:Nat) (x:ab),(uz args.length k0 (.obj cs'))[k]?=some (some x)->x=.obj cs':=by
  intro k x h;unfold uz at h;rw [List.getElem?_map] at h;cases hk:(List.range args.length)[k]? with
  | none=>rw [hk] at h; cases h
  | some J =>
   rw [hk] at h;simp only [Option.map_some,Option.some.injEq] at h
   split at h
   ·exact (Option.some.inj h).symm
   ·cases h
 have Ha:get ((r,ab.dead)::G2) r=some .dead:=by simp [get]
 have xm:hy (cp g ⟨r,[]⟩ .dead) (get ((r,.dead)::G2)):=by
  refine ⟨λt x h=>?_,λt x h=>?_,λt z q n m new h=>?_⟩
  all_goals
   simp only [get] at h
   split at h
  ·rename_i e; subst e; cases h; simp [cp,az,ab.setAt]
  ·obtain ⟨⟨y,h1,_,aK⟩,_⟩:=c'.spec t x h; rw [<- aK rfl]; exact h1
  ·cases h; exact .bj .dead
  ·exact (c'.spec t x h).2.1
  ·cases h
  ·exact (c'.spec t _ h).2.2 _ _ _ _ _ rfl
 have put:qq (get ((r,.dead)::G2)) [(⟨r,[]⟩,.obj cs')]=get ((r,.obj cs')::G2):=by
  funext t;simp only [qq,cp,get];by_cases h:t=r
  ·simp [h,ab.setAt]
  ·simp [h]
 have xn:hy (get ((r,.obj cs')::G2)) (get ((r,.obj cs')::G2)):=by
  refine ⟨λt x h=>h,λt x h=>?_,λt z q n m new h=>?_⟩
  all_goals
   simp only [get] at h
   split at h
  ·cases h; exact .bj (.obj BC.bj)
  ·exact (Bc.spec t x h).2.1
  ·cases h
  ·exact (Bc.spec t _ h).2.2 _ _ _ _ _ rfl
 refine yn.ok (first:=[]) (caps:=[]) (ys:=ys) (tk:=λ_=>true) (vw:=false) (outs:=uz args.length k0 (.obj cs')) (g1:=cp g ⟨r,[]⟩ .dead) (g2:=get ((r,.dead)::G2)) (g4:=get ((r,.obj cs')::G2)) (l:=[(⟨r,[]⟩,.obj cs')]) (ks:=λ_=>k0) (xs0:=ys) (xs1:=args) (args:=args) (res:=res) aV aP rfl (by simpa using j)
  ⟨aS,by simp,by simpa using tT,λk x h=>.inl (by simpa using h),aR.take az e'.bj (Nat.zero_le _) (by omega),xm,λk x y _ al=>by simpa using al,g_,by simpa using ah.bj,λk x h=>by rw [Wd k x h]; simpa using cF.obj BC.bj,λJ p x aj=>?_,by simp,λi J hi aj _=>by simp at hi aj; omega,by rw [put]; exact xn⟩ ?_ a_ ?_
 ·cases J with
  | succ J=>simp at aj
  | zero =>
   simp only [List.getElem?_cons_zero,Option.some.injEq,Prod.mk.injEq] at aj;obtain ⟨rfl,rfl⟩:=aj;refine ⟨oL,by simp [bt,Ha,ab.at],.inr ⟨cs,?_,by simp [bt,az,ab.at]⟩,λ_ h=>by cases h⟩;have:=aR.RX (Nat.zero_le _) (by omega);simpa using this
 ·simp only [get,if_neg (Ne.symm BL)]; exact aN
 ·refine ⟨λt x h=>?_,λt x h=>?_⟩
  ·rw [sw] at h;rw [D8];cases rM:get A t with
   | none=>exact h
   | some y =>
    obtain ⟨h1,af,_⟩:=dX.spec t y rM;simp only [get,if_neg af] at h;simp only [get] at h1;rw [h1] at h; cases h
  ·rw [sw];rw [D8] at h;cases rM:get A t with
   | none=>rw [rM] at h; exact .inl h
   | some y =>
    rw [rM] at h;cases h;obtain ⟨h1,af,aK,k,rfl,hk⟩:=dX.spec t x rM;refine .inr ⟨?_,af,aK,r,k,cs',rfl,BL,?_,hk⟩
    ·simp only [get,if_neg af]; exact h1
    ·simp only [get,if_neg BL,if_true]
end
end Go.Own
namespace Go.Own
open Go
set_option linter.unusedSectionVars false
variable [cH]
variable {α β:Type}
def DZ (k:IntKind):bz Int:=.one (λn=>.lit (.int k n)) λ_=>.lit
instance {k:IntKind}:Flat (DZ k):=⟨λ_=>rfl⟩
instance {k:IntKind}:gu (DZ k) (DZ k):=⟨rfl,λa=>(inferInstance:c8 [.lit (.int k a)] [.lit (.int k a)])⟩
instance {k:IntKind}:lr (DZ k):=⟨λa=>(inferInstance:jf [.lit (.int k a)])⟩
instance {cs:List ab}{n:Nat}{x:ab} [h:dj cs] [j:b4 x]:dj (cs.set n x):=⟨λy al=>by
 rcases List.mem_or_eq_of_mem_set al with aJ | aJ
 ·exact h.bj y aJ
 ·rw [aJ]; exact j.bj⟩
instance {x y:ab} [h:b4 y]:b4 (x.setAt [] y):=⟨by simpa [ab.setAt] using h.bj⟩
def pI (m n:Int):Option Int:=if n=0 then none else some (IntKind.u64.wrap (m.tdiv n))
def pJ (m n:Int):Option Int:=if n=0 then none else some (m.tmod n)
inductive j7:List ab->List ab->Prop
 | nil:j7 [] []
 | f {x:ab}{xs ys:List ab}(t:j7 xs ys):j7 (x::xs) (x::ys)
 | o {z:Nat}{xs ys:List ab}(t:j7 xs ys):j7 (.aT::xs) (.own z 0 []::ys)
 | i {z:Nat}{xs ys:List ab}(t:j7 xs ys):j7 (.aT::xs) (.bk z 0 []::ys)
theorem j7.len {xs ys:List ab}(h:j7 xs ys):ys.length=xs.length:=by
 induction h with
 | nil=>rfl
 | f _ aM=>simp [aM]
 | o _ aM=>simp [aM]
 | i _ aM=>simp [aM]
theorem j7.get {xs ys:List ab}(h:j7 xs ys):∀ (k:Nat) (x y:ab),xs[k]?=some x->ys[k]?=some y->nf x y:=by
 induction h with
 | nil=>intro k x y j; simp at j
 | f _ aM =>
  intro k a b aR av;cases k with
  | zero=>simp at aR av; subst aR av; exact .refl
  | succ k=>exact aM k a b (by simpa using aR) (by simpa using av)
 | o _ aM =>
  intro k a b aR av;cases k with
  | zero=>simp at aR av; subst aR av; exact .pC
  | succ k=>exact aM k a b (by simpa using aR) (by simpa using av)
 | i _ aM =>
  intro k a b aR av;cases k with
  | zero=>simp at aR av; subst aR av; exact .pB
  | succ k=>exact aM k a b (by simpa using aR) (by simpa using av)
theorem j7.obj {xs ys:List ab}(h:j7 xs ys):nf (.obj xs) (.obj ys):=.obj h.len h.get
section
variable {P:Program}{N:cQ}{ops:Array Oper}{g g' g1 g2:aL}{K:aL->Prop}{l:List Oper}{d r:Nat}{op:Op}{ty t t2:TypeId}{pos:String}{after:Array Edge}{gd:Option (Nat × Bool)}{a b c:Operand}{p q:Place}{x y:ab}{k:IntKind}{m n:Int}
variable {a':List (List Nat)}{g0:aL}{acc:Acc}{i:Nat}
def q3:List Nat->Bool
 | []=>true
 | x::l=>l.all (λy=>!Nat.beq x y)&&q3 l
theorem E3:∀ {l:List Place},q3 (l.map Place.root)=true->l.Nodup
 | [],_=>List.nodup_nil
 | p::l,h=>by
  simp only [List.map_cons,q3,Bool.and_eq_true,List.all_eq_true] at h;refine List.nodup_cons.2 ⟨λhm=>?_,E3 h.2⟩;have:=h.1 p.root (List.mem_map.2 ⟨p,hm,rfl⟩);simp at this
theorem bA.wD (bw:Nat) {G G2:List (Nat × ab)}{o:Oper}(he:bq P N (c5 (get G) (λ_=>true) acc) o (get G2)) (aN:o.guard=none) (gz:q3 ((acc.filterMap jW).map Place.root)=true) (fJ:l1 G=true) (aj:Nat.beq ops.size (bw+l.length+1)=true)
  (aR:(List.range bw).all (λk=>(a'.getD bw []).contains k)=true) (av:(List.range ops.size).all (λk=>Nat.ble k bw||(a'.getD k []).contains bw)=true) (hk:bA P N ops a' (get G2) (bw+1) [] l K):bA P N ops a' (get G) i acc (o::l) K:=by
 intro dO J cg kH kF;have:=y3 kF aj;subst this;obtain ⟨h1,af⟩:=drop_cons kF;obtain ⟨g',ah,c7⟩:=hk [] (J+1) .nil .nil af;refine ⟨g',.LS cg kH (E3 gz) (vM fJ) h1 ?_ he aR ?_ ah,c7⟩
 ·grind [iq]
 simp_all
theorem bA.bv (bw:Nat) {G G2:List (Nat × ab)}{o:Oper}{x:ab}(he:bq P N (c5 (get G) (λ_=>true) acc) o (cJ (get G2) d x)) (aN:o.guard=none) (gz:q3 ((acc.filterMap jW).map Place.root)=true) (fJ:l1 G=true) (aj:Nat.beq ops.size (bw+l.length+1)=true)
  (aR:(List.range bw).all (λk=>(a'.getD bw []).contains k)=true) (av:(List.range ops.size).all (λk=>Nat.ble k bw||(a'.getD k []).contains bw)=true) (hk:bA P N ops a' (get ((d,x)::G2)) (bw+1) [] l K):bA P N ops a' (get G) i acc (o::l) K :=
 .wD bw (sw ▸ he) aN gz fJ aj aR av hk
class o' (s:Nat) (g:aL):Prop where fr:∀ t,t≠s->∀ z q n m new,g t≠some (.bC z q n m new)
instance (priority:=low) {s:Nat}{g:aL} [h:qE g]:o' s g:=⟨λt _=>h.fr t⟩
instance {s:Nat}{g:aL}{x:ab} [h:o' s g]:o' s (cJ g s x):=⟨λt ar z q n m new e=>by
 unfold cJ at e;rw [if_neg ar] at e;exact h.fr t ar _ _ _ _ _ e⟩
instance {s d:Nat}{g:aL}{x:ab} [h:o' s g] [j:nb x]:o' s (cJ g d x):=⟨λt ar z q n m new e=>by
 unfold cJ at e
 split at e
 ·cases e; exact j.fr _ _ _ _ _ rfl
 ·exact h.fr t ar _ _ _ _ _ e⟩
class yA (s:Nat) (acc:Acc):Prop where fr:∀ e∈acc,e.2.1≠s->∀ z q n m new,e.2.2≠some (.bC z q n m new)
instance {s:Nat}:yA s []:=⟨by simp⟩
instance {s J d:Nat}{x:ab}{acc:Acc} [j:nb x] [h:yA s acc]:yA s ((J,d,some x)::acc):=⟨λe he az z q n m new bH=>by
 rcases List.mem_cons.1 he with rfl | he
 ·exact j.fr z q n m new (Option.some.inj bH)
 ·exact h.fr e he az z q n m new bH⟩
instance {s J:Nat}{x:Option ab}{acc:Acc} [h:yA s acc]:yA s ((J,s,x)::acc):=⟨λe he az z q n m new bH=>by
 rcases List.mem_cons.1 he with rfl | he
 ·exact absurd rfl az
 ·exact h.fr e he az z q n m new bH⟩
instance {s:Nat}{G:List (Nat × ab)}{A:Nat->Bool}{acc:Acc} [aN:qE (get G)] [h:yA s acc]:o' s (c5 (get G) A acc):=⟨λt ar z q n m new e=>by
 rcases uS e with ⟨b_,he,h1,_,af⟩ | ⟨_,af⟩
 ·exact h.fr b_ he (by rw [h1]; exact ar) _ _ _ _ _ af
 ·exact aN.fr _ _ _ _ _ _ af⟩
namespace O
theorem pI {r:Int}(j:Rd g a (.lit (.int .u64 m))) (al:Rd g b (.lit (.int .u64 n))) (h:Own.pI m n=some r):b8 P g (.binOp .quo t a b t2) ty (.lit (.int .u64 r)):=by
 unfold Own.pI at h
 split at h
 ·cases h
 ·cases h; exact .eK (.quo j al (by assumption))
theorem pJ {r:Int}(j:Rd g a (.lit (.int .u64 m))) (al:Rd g b (.lit (.int .u64 n))) (h:Own.pJ m n=some r):b8 P g (.binOp .rem t a b t2) ty (.lit (.int .u64 r)):=by
 unfold Own.pJ at h
 split at h
 ·cases h
 ·cases h; exact .eK (.rem j al (by assumption))
theorem Tr {L:List Int}(j:Rd g a (.bk p4.z L.length (bp p4 L))) (ar:wF P t t2=true):b8 P g (.convert t t2 a) ty (aw (strOfNums L)):=by
 have h:=j.bn;rw [Pw] at h;exact .eK (.DX h ar)
theorem tF {e dk:Nat}{parts:Array (Nat × Operand)}{ys cs:List ab}{z:Nat}(ar:fe P t e z=true) (j:fK g (parts.toList.map (·.2))=some ys) (aa:mg ys=some cs) (aW:ys.all (λy=>match ji y with | some c=>Nat.beq c.length z | none=>false)=true)
  (au:parts.toList=(parts.toList.map (·.2)).mapIdx (λi x=>(i,x))) (aA:(parts.toList.map (·.2)).length=dk) (hzero:ia P e z=true) (av:Nat.ble (dk * z) 16777216=true) (fH:Nat.ble dk 16777216=true):b8 P g (.buildSlice t dk parts) ty (.own z dk cs):=by
 subst aA;exact .q4 (.buildSlice ar au j (λy al=>by
  grind [Nat.eq_of_beq_eq_true]) aa (Nat.le_of_ble_eq_true av) (Nat.le_of_ble_eq_true fH) (.inr (K2 hzero)))
theorem P' {z m:Nat}{cs:List ab}(a7:bt g q=some (.own z m cs)) (ai:cs.length=m * z) (aS:cs.all lR=true):Src g (.bf z q m) z m cs:=by
 have:=Src.bf (g:=g) (m:=m) a7 (Nat.le_refl _)
 simp_all [List.take_of_length_le,A7]
theorem Gz {en:bz α}{L M r:List α}{e gv m:Nat}{cs:List ab}(az:Rd g a (.bf en.z p L.length)) (au:bt g p=some (ao en L)) (j:Rd g b (.bf en.z q m)) (a7:bt g q=some (.own en.z m cs)) (ai:cs.length=m * en.z) (aS:cs.all lR=true) (hm:M.length=m) (ar:jL P t e en.z gv=true) (av:Nat.ble gv 128=true) (h:db L M=some r) [e':qE g] :
  b8 P g (.call { callee:=.builtin .append,args:=#[a,b],argTypes:=#[t,t] }) ty (.bC en.z p L.length m cs):=by
 subst hm;obtain ⟨h1,af,_⟩:=yN h av;exact .lJ (.grow az.bn (.inl ⟨_,au⟩) (λt br cm bh cO e=>e'.fr _ _ _ _ _ _ e) j.bn (P' a7 ai aS) ar h1 af)
theorem DM {en:bz α}{L M M2 r:List α}{y:ab}{e gv s:Nat}(az:Rd g a (.bf en.z ⟨s,[]⟩ (L.length+M.length))) (qb:g s=some (.bC en.z q L.length M.length (bp en M))) (au:bt g q=some (ao en L)) (j:Rd g b y) (hm:nT g en y M2) (ar:jL P t e en.z gv=true) (av:Nat.ble gv 128=true) (h:db (L++M) M2=some r) [e':o' s g] :
  b8 P g (.call { callee:=.builtin .append,args:=#[a,b],argTypes:=#[t,t] }) ty (.bC en.z ⟨s,[]⟩ (L.length+M.length) M2.length (bp en M2)):=by
 obtain ⟨h1,af,_⟩:=yN h av;rw [List.length_append] at h1 af;refine .lJ (.grow az.bn (.inr ⟨rfl,q,L.length,M.length,bp en M,_,qb,rfl,au⟩) (λt br cm bh cO e=>?_) j.bn hm.src ar h1 af);by_cases IV:t=s
 ·grind [bt,ab.at]
 ·exact e'.fr t IV _ _ _ _ _ e
theorem OC {en:bz α}{z0:α}{r:List α}{e gv:Nat}{dn:Value}(ar:fe P t e en.z=true) (j:Rd g a (.lit (.int k m))) (al:Rd g b (.lit (.int .i64 m))) (hzero:(P.info? e).bind (·.zero)=some dn) (h1:dn.cells.toList.all Value.oneCell'=true) (hJ:(en.cells z0).length=dn.cells.size) (Vx:∀ (k:Nat) (u:Value) (x:ab),dn.cells[k]?=some u->(en.cells z0)[k]?=some x->x=kg u\/(kg u=.aT/\∃ br,x=.bk br 0 [])) (h:nH m z0=some r) (jn:(P.info? e).map (·.bytes)=some gv) (av:Nat.ble gv 128=true) :
  b8 P g (.makeSlice t a b) ty (ao en r):=by
 unfold nH at h
 split at h
 ·rename_i hm;have sD:lim=1099511627776:=rfl;have gG:=Nat.le_of_ble_eq_true av;obtain ⟨J,rfl⟩:=Int.eq_ofNat_of_zero_le hm.1;cases h;have aj:J<=1099511627776:=by omega
  have eR:dn.cells.size=en.z:=by rw [<- hJ,en.len]
  have:=pa.makeSlice (P:=P) (ty:=ty) ar j.bn al.bn hzero (by rw [<- Array.all_toList]; exact h1) eR jn (by
   calc J * gv<=1099511627776 * 128:=Nat.mul_le_mul aj gG
    _=140737488355328:=by decide) (by omega) hJ Vx
  have cw:(List.replicate J (en.cells z0)).flatten=bp en (List.replicate J z0):=by simp [bp,List.flatMap_def]
  unfold ao;rw [Int.toNat_natCast,List.length_replicate,<- cw];exact .q4 this
 ·cases h
theorem mk {en:bz α}{z0:α}{r:List α}{e gv:Nat}{dn:Value}(ar:fe P t e en.z=true) (j:Rd g a (.lit (.int k m))) (al:Rd g b (.lit (.int .i64 m))) (hzero:(P.info? e).bind (·.zero)=some dn) (h1:dn.cells.toList.all Value.oneCell'=true) (aa:dn.cells.toList.map kg=en.cells z0) (h:nH m z0=some r) (jn:(P.info? e).map (·.bytes)=some gv) (av:Nat.ble gv 128=true) :
  b8 P g (.makeSlice t a b) ty (ao en r):=by
 grind [OC]
theorem XM {e:bz β}{r:List (List β)}{m:Int}{k:IntKind}{a b:Operand}{t ty:TypeId}{A2 gv:Nat}{dn:Value}(ar:fe P t A2 (bG e).z=true) (j:Rd g a (.lit (.int k m))) (al:Rd g b (.lit (.int .i64 m))) (hzero:(P.info? A2).bind (·.zero)=some dn) (h1:dn.cells.toList.all Value.oneCell'=true) (aa:dn.cells.toList.map kg=[.aT]) (h:nH m ([]:List β)=some r) (jn:(P.info? A2).map (·.bytes)=some gv) (av:Nat.ble gv 128=true) :
  b8 P g (.makeSlice t a b) ty (ao (bG e) r):=by
 refine OC ar j al hzero h1 ?_ (λk u x hu j=>.inr ?_) h jn av
 ·grind [List.length_map,bG]
 ·have ai:=congrArg List.length aa;rw [List.length_map] at ai;have hk:k=0:=by
   grind
  subst hk;have hT:dn.cells.toList[0]?=some u:=by simpa using hu
  have af:=congrArg (λl=>l[0]?) aa;simp only [List.getElem?_map,hT,Option.map_some] at af;have af:=Option.some.inj af;refine ⟨af,e.z,?_⟩;have j:([ak e []]:List ab)[0]?=some x:=j;have:x=ak e []:=(Option.some.inj j).symm;rw [this];rfl
end O
theorem Pu (en:bz α) {L:List α}{y y2:α}{o:Nat}{cs':List ab}(h:idx L m=some y) (he:eP (en.cells y) o cs'=en.cells y2) (hlen:o+cs'.length<=en.z):eP (bp en L) (m.toNat * en.z+o) cs'=bp en (L.set m.toNat y2):=by
 obtain ⟨aO,h1,af⟩:=r3 h;have aQ:m.toNat<L.length:=(List.getElem?_eq_some_iff.1 af).1;have al:L[m.toNat]=y:=(List.getElem?_eq_some_iff.1 af).2;have cw:bp en L=bp en (L.take m.toNat)++(en.cells y++bp en (L.drop (m.toNat+1))):=by
  grind [bp,List.take_append_drop,List.drop_eq_getElem_cons]
 have cd:bp en (L.set m.toNat y2)=bp en (L.take m.toNat)++(en.cells y2++bp en (L.drop (m.toNat+1))):=by
  grind [List.set_eq_take_append_cons_drop,bp]
 have ai:(bp en (L.take m.toNat)).length=m.toNat * en.z:=by rw [oX,List.length_take]; congr 1; omega
 rw [cw,cd,<- he];unfold eP;generalize bp en (L.take m.toNat)=A at *;generalize bp en (L.drop (m.toNat+1))=B at *;rw [<- ai];have EI:=en.len y;rw [List.take_append,List.take_of_length_le (by omega),show A.length+o - A.length=o by omega,List.take_append_of_le_length (by omega)];rw [List.drop_append,List.drop_eq_nil_of_le (by omega),show A.length+o+cs'.length - A.length=o+cs'.length by omega,List.drop_append_of_le_length (by omega)];simp
theorem Hj {en:bz α}{L:List α}{i:Int}{off:Nat}{y:α}(h:idx L i=some y) (aV:Nat.blt off en.z=true):i.toNat * en.z+off<(bp en L).length:=by
 obtain ⟨C1,kN,_⟩:=r3 h;have mT:off<en.z:=by simpa using aV
 rw [oX];have af:i.toNat+1<=L.length:=by omega
 calc i.toNat * en.z+off<i.toNat * en.z+en.z:=by omega
  _=(i.toNat+1) * en.z:=by rw [Nat.add_mul]; omega
  _<=L.length * en.z:=Nat.mul_le_mul_right _ af
theorem n' {L:List α}{i:Int}{y y2:α}(h:idx L i=some y):idx (L.set i.toNat y2) i=some y2:=by
 grind [idx]
inductive o_ (g g2:aL):ab->Prop
 | mk {α:Type}{en:bz α}{L Lg:List α}{r J off:Nat}{i:Int}{y y2:α}(h1:bt g ⟨r,[J]⟩=some (ao en L)) (hi:idx L i=some y) (af:bt g2 ⟨r,[J]⟩=some (ao en Lg)) (Bv:idx Lg i=some y2) (aV:Nat.blt off en.z=true):o_ g g2 (.ptr ⟨r,[J]⟩ (i.toNat * en.z+off))
theorem o_.OX {x:ab}(h:o_ g g2 x):gZ g x:=by
 cases h with
 | mk h1 hi af Bv aV=>exact ⟨_,h1,_,_,_,.inl rfl,Hj hi aV⟩
theorem o_.JZ {x:ab}(h:o_ g g2 x):gZ g2 x:=by
 cases h with
 | mk h1 hi af Bv aV=>exact ⟨_,af,_,_,_,.inl rfl,Hj Bv aV⟩
theorem o_.b6 {x:ab}(h:o_ g g2 x):eo g2 x:=by
 have:=h.JZ;cases h with
 | mk=>exact .ref rfl this
theorem o_.fr {x:ab}(h:o_ g g2 x):∀ z p n m new,x≠.bC z p n m new:=by
 cases h with
 | mk=>simp
theorem o_.clear {x:ab}{k0 m0:Nat}(h:o_ g g2 x) (au:p.path≠[]):Clear p k0 m0 x:=by
 cases h with
 | mk =>
  intro q a7 _ J cW e;simp only [Ab,Option.some.injEq] at a7;subst a7;cases Ex:p.path with
  | nil=>exact absurd Ex au
  | cons a b=>rw [Ex] at e; simp at e
inductive lv (g g2:aL) (r:Nat) (x2:ab):List (Nat × ab)->Prop
 | nil:lv g g2 r x2 []
 | n {s:Nat}{x:ab}{l:List (Nat × ab)}(cz:Nat.beq s r=false) (h:g s=some x) [aA:b4 x] (t:lv g g2 r x2 l):lv g g2 r x2 ((s,x)::l)
 | p {s q k:Nat}{l:List (Nat × ab)}{cs kn:List ab}(cz:Nat.beq s r=false) (h:g s=some (.ptr ⟨q,[]⟩ k)) (h1:g q=some (.obj cs)) (hk:Nat.blt k cs.length=true) (af:g2 q=some (.obj kn)) (fS:Nat.blt k kn.length=true) (t:lv g g2 r x2 l):lv g g2 r x2 ((s,.ptr ⟨q,[]⟩ k)::l)
 | e {s:Nat}{x:ab}{c2:List ab}{l:List (Nat × ab)}(cz:Nat.beq s r=false) (h:g s=some x) (he:o_ g g2 x) (kf:x2=.obj c2) (t:lv g g2 r x2 l):lv g g2 r x2 ((s,x)::l)
 | w {α:Type}{s q:Nat}{en:bz α}{L:List α}{l:List (Nat × ab)}(cz:Nat.beq s r=false) (h:g s=some (.bf en.z ⟨q,[]⟩ L.length)) (h1:g q=some (ao en L)) (af:g2 q=some (ao en L)) (t:lv g g2 r x2 l):lv g g2 r x2 ((s,.bf en.z ⟨q,[]⟩ L.length)::l)
 | b {l:List (Nat × ab)}{x:ab}(e:x=x2) [aA:b4 x2] (t:lv g g2 r x2 l):lv g g2 r x2 ((r,x)::l)
theorem lv.spec {x2:ab}{l:List (Nat × ab)}(h:lv g g2 r x2 l):∀ t x,get l t=some x->(t≠r/\g t=some x/\(pV g g2 x\/o_ g g2 x/\∃ c2,x2=.obj c2))\/(t=r/\x=x2/\cF x):=by
 induction h with
 | nil=>intro t x j; cases j
 | @n s x l cz h aA _ aM =>
  intro t y al;simp only [get] at al
  split at al
  ·rename_i e;subst e;cases al;exact .inl ⟨Nat.ne_of_beq_eq_false cz,h,.inl (.n aA.bj)⟩
  grind
 | @p s q k l cs kn cz h h1 hk af fS _ aM =>
  intro t y al;simp only [get] at al
  split at al
  ·rename_i e;subst e;cases al;exact .inl ⟨Nat.ne_of_beq_eq_false cz,h,.inl (.p h1 (by simpa using hk) af (by simpa using fS))⟩
  grind
 | @e s x c2 l cz h he kf _ aM =>
  grind [get,Nat.ne_of_beq_eq_false]
 | @w α s q en L l cz h h1 af _ aM =>
  intro t y al;simp only [get] at al
  split at al
  ·rename_i e;subst e;cases al;exact .inl ⟨Nat.ne_of_beq_eq_false cz,h,.inl (.r h1 (Nat.le_refl _) af (Nat.le_refl _))⟩
  grind
 | @b l x e aA _ aM =>
  intro t y al;simp only [get] at al
  split at al
  ·rename_i b_;subst b_;cases al;subst e;exact .inr ⟨rfl,rfl,aA.bj⟩
  grind
theorem pV.Km {x:ab}{k0 m0:Nat}(h:pV g g2 x):kl (λr=>gZ g r/\Clear p k0 m0 r/\gZ g2 r) x:=by
 cases h with
 | n h=>exact .bj h
 | p h hk af fS =>
  refine .ref rfl ⟨vY h hk,?_,vY af fS⟩;intro q a7 _ J cW e;simp only [Ab,Option.some.injEq] at a7;subst a7;simp at e
 | r h hk af fS =>
  refine .ref rfl ⟨C4 h hk,?_,C4 af fS⟩;intro q a7 _ J cW e;simp only [Ab,Option.some.injEq] at a7;subst a7;simp at e
theorem bq.x9 {hl:Oper}{en:bz α}{L:List α}{iQ y2:α}{o:Nat}{cs':List ab}{x2:ab}{G2:List (Nat × ab)}(aV:hl.op=.store t a b) (aP:hl.dst=none) (aR:Rd g a (.ptr p (m.toNat * en.z+o))) (av:Rd g b y) (au:bt g p=some (ao en L)) (h:idx L m=some iQ) (aW:hC P t cs'.length=true)
  (aa:nY y=some cs') (he:eP (en.cells iQ) o cs'=en.cells y2) (hlen:Nat.ble (o+cs'.length) en.z=true) (aO:Nat.blt 0 cs'.length=true) (kf:cp g p (ao en (L.set m.toNat y2)) p.root=some x2) (ah:(get G2 p.root).isSome=true) [aA:b4 y] {y0:ab}(vB:g p.root=some y0) [e':b4 y0] (c':lv g (get G2) p.root x2 G2):bq P N g hl (get G2):=by
 have Bx:=Nat.le_of_ble_eq_true hlen;have mw:=Pu en h he Bx;have rR:(L.set m.toNat y2).length=L.length:=List.length_set;refine .store aV aP aR.bn av.bn (.bj (by simpa using aA.bj)) .refl aa aW (p:=p) (nd:=ao en L) (z:=en.z) (n:=L.length) (cs:=bp en L) au (.inl rfl) ?_ (by simpa using aO) (λt x j=>?_) (λt x j y al=>?_) (λt z q n m new j=>?_) (by intro e; rw [e] at ah; cases ah)
 ·obtain ⟨C1,kN,_⟩:=r3 h;rw [oX];have af:m.toNat+1<=L.length:=by omega
  calc m.toNat * en.z+o+cs'.length<=m.toNat * en.z+en.z:=by omega
   _=(m.toNat+1) * en.z:=by rw [Nat.add_mul]; omega
   _<=L.length * en.z:=Nat.mul_le_mul_right _ af
 ·have fq:(ao en L).eP (m.toNat * en.z+o) cs'=ao en (L.set m.toNat y2):=by
   show ab.own en.z L.length (eP (bp en L) (m.toNat * en.z+o) cs')=_
   grind
  rw [fq];rcases c'.spec t x j with ⟨h1,af,_⟩ | ⟨h1,af,_⟩
  ·grind [x5]
  grind
 ·rcases c'.spec t x j with ⟨h1,af,aK⟩ | ⟨h1,af,aK⟩
  ·rw [af] at al;cases al;rcases aK with aK | ⟨aK,c2,rfl⟩
   ·exact aK.Km
   ·refine kl.ref (by cases aK; rfl) ⟨aK.OX,aK.clear ?_,aK.JZ⟩
    grind [cp,ab.setAt]
  ·subst h1;rw [vB] at al;cases al;exact .bj e'.bj
 ·rcases c'.spec t _ j with ⟨_,_,aK | ⟨aK,_⟩⟩ | ⟨_,_,aK⟩
  ·exact aK.fr _ _ _ _ _ rfl
  ·exact aK.fr _ _ _ _ _ rfl
  ·cases aK
end
end Go.Own
namespace Go.Own
open Go
set_option linter.unusedSectionVars false
variable [cH]
theorem Sg (a b:ByteArray):(a == b)=decide (a=b):=by
 obtain ⟨a⟩:=a;obtain ⟨b⟩:=b;have:(({ data:=a }:ByteArray) == { data:=b })=(a == b):=rfl;rw [this,Bool.eq_iff_iff];simp
inductive nS where
 | b | s | i (k:IntKind)
 deriving DecidableEq
def l5:Value->Option nS
 | .bool _=>some .b
 | .string _=>some .s
 | .int k _=>some (.i k)
 | _=>none
def A1 (P:Program) (rc:TypeId->List nS->Bool):List Field->Nat->List nS->Bool
 | [],_,ez=>ez.isEmpty
 | f :: fs, o, ez => f.name != "_" && f.offset == o && (match P.info? f.type with
   | some i=>i.size<=ez.length&&rc f.type (ez.take i.size)&&A1 P rc fs (o+i.size) (ez.drop i.size)
   | none=>false)
def tO (P:Program):Nat->TypeId->List nS->Bool
 | 0,_,_=>false
 | d+1,t,ez=>match P.underlying t with
  | some .bool=>ez == [.b]&&j' P t
  | some (.int k)=>ez == [.i k]&&j' P t
  | some .string=>ez == [.s]&&j' P t
  | some (.struct fs)=>iH P t ez.length&&!P.stoodInHeld t&&A1 P (tO P d) fs.toList 0 ez
  | _=>false
def Mx:Value->Value->Bool
 | .bool a,.bool b=>a == b
 | .int _ a,.int _ b=>decide (a=b)
 | .string a,.string b=>decide (a=b)
 | _,_=>false
def lA:List Value->List Value->Bool
 | a::dI,b::dr=>Mx a b&&lA dI dr
 | _,_=>true
theorem My:∀ (dI dr cs jC:List Value),dI.length=dr.length->lA (dI++cs) (dr++jC)=(lA dI dr&&lA cs jC)
 | [],[],cs,jC,_=>by simp [lA]
 | [],_::_,_,_,h=>by simp at h
 | _::_,[],_,_,h=>by simp at h
 | a::dI,b::dr,cs,jC,h=>by
  simp only [List.cons_append,lA,My dI dr cs jC (by simpa using h),Bool.and_assoc]
def pack (P:Program) (t:TypeId) (vs:List Value):Value :=
 match P.underlying t,vs with
 | some (.struct _),_=>.agg vs.toArray
 | _,v::_=>v
 | _,[]=>.agg #[]
theorem PF {P:Program}{w:World}{t:TypeId}{d:Nat}{ez:List nS}(h:tO P (d+1) t ez=true) {cs:List Value}{o:Nat}{vs:List Value}(hv:(cs.drop o).take ez.length=vs) (ai:vs.length=ez.length) :
  (part t cs.toArray o).run P w=.ok (pack P t vs) w:=by
 unfold tO at h
 split at h
 case h_4 fs hu =>
  simp only [Bool.and_eq_true] at h;obtain ⟨h1,af⟩:=DK (w:=w) h.1.1;simp [part,h1,af,pack,hu,<- hv,List.take_drop]
 case h_5=>cases h
 all_goals
  rename_i hu;simp only [Bool.and_eq_true,beq_iff_eq] at h;obtain ⟨rfl,aa⟩:=h;obtain ⟨h1,af⟩:=G6 (w:=w) aa;obtain ⟨v,rfl⟩:∃ v,vs=[v]:=by
   rcases vs with _ | ⟨v,_ | _⟩ <;> simp at ai;exact ⟨v,rfl⟩
  have:cs[o]?=some v:=by
   have:=congrArg List.head? hv;simpa [List.head?_take] using this
  simp [part,h1,pack,hu,this]
theorem Kr {P:Program}(w:World):∀ (d:Nat) (t:TypeId) (ez:List nS),tO P d t ez=true->∀ (D:Nat),d<=D->∀ (dI dr:List Value),dI.map l5=ez.map some->dr.map l5=ez.map some ->
  (Op.equalIn D t (pack P t dI) (pack P t dr)).run P w=.ok (lA dI dr) w
 | 0,_,_,h,_,_,_,_,_,_=>by simp [tO] at h
 | d+1,t,ez,h,D,iK,dI,dr,aR,av=>by
  obtain ⟨D,rfl⟩:∃ E,D=E+1:=⟨D - 1,by omega⟩;have aO:=h;unfold tO at h
  split at h
  case h_5=>cases h
  case h_4 fs hu =>
   simp only [Bool.and_eq_true,Bool.not_eq_true'] at h;obtain ⟨⟨h1,af⟩,aK⟩:=h;have key:∀ (fs:List Field) (o:Nat) (ez:List nS) (ng nh:List Value),A1 P (tO P d) fs o ez=true->dI.drop o=ng->dr.drop o=nh->ng.map l5=ez.map some->nh.map l5=ez.map some ->
     (forIn (m:=Sem) (β:=Option Bool × Unit) fs (none,()) λf _ =>
      if f.name = "_" then pure (.yield (none, ()))
      else do
       let x <- part f.type dI.toArray f.offset
       let y <- part f.type dr.toArray f.offset
       let c <- Op.equalIn D f.type x y
       if c=false then pure (.done (some false,())) else pure (.yield (none,()))).run P w=.ok (if lA ng nh then (none,()) else (some false,())) w:=by
    intro fs
    induction fs with
    | nil =>
     intro o ez ng nh aN _ _ aR av;have az:ez=[]:=by simpa [A1] using aN
     subst az;have h1:ng=[]:=by simpa using aR
     have af:nh=[]:=by simpa using av
     subst h1 af;simp [lA]
    | cons f fs aM =>
     intro o ez ng nh aN Nk Nl aR av;unfold A1 at aN;cases hi:P.info? f.type with
     | none=>simp [hi] at aN
     | some i =>
      simp only [hi,Bool.and_eq_true,bne_iff_ne,beq_iff_eq,decide_eq_true_eq] at aN;obtain ⟨⟨aA,rfl⟩,⟨hle,he⟩,Nt⟩:=aN;obtain ⟨e,rfl⟩:∃ e,d=e+1:=by
       cases d with
       | zero=>simp [tO] at he
       | succ e=>exact ⟨e,rfl⟩
      have xo:ng.length=ez.length:=by simpa using congrArg List.length aR
      have adj:nh.length=ez.length:=by simpa using congrArg List.length av
      have ZD:(ng.take i.size).map l5=(ez.take i.size).map some:=by rw [List.map_take,List.map_take,aR]
      have hN:(nh.take i.size).map l5=(ez.take i.size).map some:=by rw [List.map_take,List.map_take,av]
      have Tt:(ng.drop i.size).map l5=(ez.drop i.size).map some:=by rw [List.map_drop,List.map_drop,aR]
      have Tu:(nh.drop i.size).map l5=(ez.drop i.size).map some:=by rw [List.map_drop,List.map_drop,av]
      have lt:(ez.take i.size).length=i.size:=by simp; omega
      have lJ:=PF (w:=w) he (cs:=dI) (o:=f.offset) (vs:=ng.take i.size) (by rw [Nk,lt]) (by simp; omega);have Pc:=PF (w:=w) he (cs:=dr) (o:=f.offset) (vs:=nh.take i.size) (by rw [Nl,lt]) (by simp; omega);have Hi:=Kr w (e+1) f.type _ he D (by omega) _ _ ZD hN;have aM:=aM (f.offset+i.size) (ez.drop i.size) (ng.drop i.size) (nh.drop i.size) Nt (by rw [<- Nk,List.drop_drop]) (by rw [<- Nl,List.drop_drop]) Tt Tu;have sp:lA ng nh=(lA (ng.take i.size) (nh.take i.size)&&lA (ng.drop i.size) (nh.drop i.size)):=by
       have:=My (ng.take i.size) (nh.take i.size) (ng.drop i.size) (nh.drop i.size) (by simp; omega)
       rwa [List.take_append_drop,List.take_append_drop] at this
      rw [List.forIn_cons];cases aa:lA (ng.take i.size) (nh.take i.size) with
      | false=>simp [aA,lJ,Pc,Hi,aa,sp]
      | true =>
       simp only [aa] at Hi;simp [aA,lJ,Pc,Hi,aa,sp];simpa using aM
   have hk:=key fs.toList 0 ez dI dr aK rfl rfl aR av;unfold Op.equalIn;simp [pack,hu,run_underlying hu,af];rw [<- Array.forIn_toList,hk];cases lA dI dr <;> simp
  all_goals
   rename_i hu;simp only [Bool.and_eq_true,beq_iff_eq] at h;obtain ⟨rfl,aa⟩:=h;obtain ⟨a,rfl⟩:∃ v,dI=[v]:=by
    rcases dI with _ | ⟨v,_ | _⟩ <;> simp at aR;exact ⟨v,rfl⟩
   obtain ⟨b,rfl⟩:∃ v,dr=[v]:=by
    rcases dr with _ | ⟨v,_ | _⟩ <;> simp at av;exact ⟨v,rfl⟩
   cases a <;> simp [l5] at aR <;> cases b <;> simp [l5] at av;simp [Op.equalIn,pack,hu,run_underlying hu,lA,Mx,aR,av,Sg] <;> rfl
end Go.Own
namespace Go.Own
open Go
set_option linter.unusedSectionVars false
variable [cH]
def u_ (P:Program) (t:TypeId) (ez:List nS):Bool :=
 tO P 100 t ez&&(match P.underlying t with | some (.struct _)=>true | _=>false)&&!P.eqGuardType P.depth t
section
variable {P:Program}{g:aL}{t t2:TypeId}{ty:TypeId}{a b:Operand}
theorem YY {dI dr:List Value}{ez:List nS}(aR:dI.map l5=ez.map some) (av:dr.map l5=ez.map some) (ar:u_ P t ez=true) (w:World) :
  (do eqGuard .eql t a b (.agg dI.toArray) (.agg dr.toArray); binOp .eql t (.agg dI.toArray) (.agg dr.toArray):Sem Value).run P w=.ok (.bool (lA dI dr)) w:=by
 simp only [u_,Bool.and_eq_true,Bool.not_eq_true'] at ar;obtain ⟨⟨h1,af⟩,aK⟩:=ar;have h:=Kr w 100 t ez h1 Op.maxDepth (by decide) dI dr aR av
 split at af
 ·rename_i fs hu;simp only [pack,hu] at h;simp [eqGuard,binOp,aK,Op.equal,h]
 ·cases af
theorem Y0 {dI dr:List Value}{ez:List nS}(aR:dI.map l5=ez.map some) (av:dr.map l5=ez.map some) (ar:u_ P t ez=true) (w:World) :
  (do eqGuard .neq t a b (.agg dI.toArray) (.agg dr.toArray); binOp .neq t (.agg dI.toArray) (.agg dr.toArray):Sem Value).run P w=.ok (.bool (!lA dI dr)) w:=by
 simp only [u_,Bool.and_eq_true,Bool.not_eq_true'] at ar;obtain ⟨⟨h1,af⟩,aK⟩:=ar;have h:=Kr w 100 t ez h1 Op.maxDepth (by decide) dI dr aR av
 split at af
 ·rename_i fs hu;simp only [pack,hu] at h;simp [eqGuard,binOp,aK,Op.equal,h]
 ·cases af
namespace O
theorem TG {nP o2:List Value}{ez:List nS}(j:Rd g a (.agg (nP.map .lit))) (al:Rd g b (.agg (o2.map .lit))) (aR:nP.map l5=ez.map some) (av:o2.map l5=ez.map some) (ar:u_ P t ez=true) :
  b8 P g (.binOp .eql t a b t2) ty (bc (lA nP o2)):=.eK (.AN j.bn al.bn rfl λw=>YY aR av ar w)
theorem XQ {nP o2:List Value}{ez:List nS}(j:Rd g a (.agg (nP.map .lit))) (al:Rd g b (.agg (o2.map .lit))) (aR:nP.map l5=ez.map some) (av:o2.map l5=ez.map some) (ar:u_ P t ez=true) :
  b8 P g (.binOp .neq t a b t2) ty (bc (!lA nP o2)):=.eK (.AN j.bn al.bn rfl λw=>Y0 aR av ar w)
end O
end
end Go.Own
namespace Go.Own
open Go
set_option linter.unusedSectionVars false
variable [cH]
section
variable {P:Program}{N:cQ}{g g2:aL}{d r k0:Nat}{α:Type}
theorem View.pF {p:Place}{cs cs':List ab}(au:bt g p=some (.obj cs)) (hk:Nat.blt 0 cs.length=true) [h:c8 cs cs']:View g (.ptr p 0) (.cK cs') :=
 .ptr au (z:=0) (n:=0) (.inr rfl) (by simpa using hk) (by simpa using h.l) λk x y j al=>h.v g k x y (by simpa using j) al
theorem eo.el {en:bz α}{L:List α}{J off:Nat}{i:Int}{y:α}(af:bt g2 ⟨r,[J]⟩=some (ao en L)) (hi:idx L i=some y) (aV:Nat.blt off en.z=true):eo g2 (.ptr ⟨r,[J]⟩ (i.toNat * en.z+off)) :=
 (o_.mk (g:=g2) af hi af hi aV).b6
theorem jG {p:Place}{k:Nat}:∀ z q n m new,ab.ptr p k≠.bC z q n m new:=by simp
inductive yj (g:aL) (d r k0:Nat) (G4:List (Nat × ab)):List (Nat × ab)->Prop
 | nil:yj g d r k0 G4 []
 | c {α:Type}{en:bz α}{L:List α}{s off:Nat}{i:Int}{y:α}{l:List (Nat × ab)}(h:g s=some (.ptr ⟨r,[k0]⟩ (i.toNat * en.z+off))) (au:bt (get G4) ⟨r,[k0]⟩=some (ao en L)) (hi:idx L i=some y) (aV:Nat.blt off en.z=true) (aP:Nat.beq s d=false) (bu:get G4 s=none) (t:yj g d r k0 G4 l):yj g d r k0 G4 ((s,.ptr ⟨r,[k0]⟩ (i.toNat * en.z+off))::l)
theorem yj.spec {G4 l:List (Nat × ab)}(h:yj g d r k0 G4 l):∀ t x,get l t=some x->get G4 t=none/\t≠d/\g t=some x/\∃ m z n cs,x=.ptr ⟨r,[k0]⟩ m/\bt (get G4) ⟨r,[k0]⟩=some (.own z n cs)/\m<cs.length:=by
 induction h with
 | nil=>intro t x j; cases j
 | @c α en L s off i y l h au hi aV aP bu _ aM =>
  intro t x j; simp only [get] at j
  split at j
  ·rename_i e; subst e; cases j; exact ⟨bu,Nat.ne_of_beq_eq_false aP,h,_,_,_,_,rfl,au,Hj hi aV⟩
  ·exact aM t x j
theorem lv.keep {g':aL}{x2:ab}{G2:List (Nat × ab)}(c':lv g (get G2) r x2 G2) (h1:∀ t,t≠r->g' t=g t) (af:g' r=some x2):hy g' (get G2):=by
 refine ⟨λt x j=>?_,λt x j=>?_,λt z q n m new j=>?_⟩
 ·rcases c'.spec t x j with ⟨a,b,_⟩ | ⟨rfl,rfl,_⟩
  ·grind
  grind
 ·rcases c'.spec t x j with ⟨_,_,aK | ⟨aK,_⟩⟩ | ⟨_,_,aK⟩
  ·exact aK.b6
  ·exact aK.b6
  ·exact .bj aK
 ·rcases c'.spec t _ j with ⟨_,_,aK | ⟨aK,_⟩⟩ | ⟨_,_,aK⟩
  ·exact aK.fr _ _ _ _ _ rfl
  ·exact aK.fr _ _ _ _ _ rfl
  ·cases aK
theorem PW {cs:List ab}{y x:ab}(h:g r=some (.obj cs)) (hk:cs[k0]?=some x):cp g ⟨r,[k0]⟩ y r=some (.obj (cs.set k0 y)):=by
 grind [cp,ab.setAt,ab.kids,ab.uN]
theorem bq.ep {o:Oper}{y:ab}{cs cs5:List ab}{G1 G4:Value->List (Nat × ab)}{c4:Value->List ab}{G5 A:List (Nat × ab)}(aP:o.dst=some d) (a_:N.ok d=true) (ah:g r=some (.obj cs)) (al:cs[k0]?=some y) [xf:b4 y]
  (h1:∀ v,lv g (get (G1 v)) r (.obj (cs.set k0 (.lit v))) (G1 v)) (aa:∀ v,h0 P N (get (G1 v)) o d (get (G4 v))) (MU:∀ v,get (G4 v) r=some (.obj (c4 v))) (MT:∀ v,(c4 v)[k0]?=some (.lit v)) (Ua:∀ v,(c4 v).set k0 y=cs5)
  (cu:∀ v,lv (get (G4 v)) (get G5) r (.obj cs5) G5) (Ud:bt (get G5) ⟨r,[k0]⟩=some y) (dX:yj g d r k0 G5 A) (lU:∀ i,y≠.self i:=by exact λ_ h=>by cases h):bq P N g o (get (A++G5)):=by
 refine .call aP a_ (h0.TX ah al xf.bj lU λv hv=>⟨get (G1 v),get (G4 v),get G5,?_,aa v,?_,?_,Ud,?_⟩)
 ·exact (h1 v).keep (λt ar=>x5 ar) (PW ah al)
 ·have:=MU v;simp only [bt,this,ab.at,ab.kids,MT v]
 ·refine (cu v).keep (λt ar=>x5 ar) ?_;rw [PW (MU v) (MT v),Ua v]
 ·refine ⟨λt x h=>?_,λt x h=>?_⟩
  ·rw [D8];cases rM:get A t with
   | none=>exact h
   | some z =>
    obtain ⟨kN,_⟩:=dX.spec t z rM;rw [kN] at h; cases h
  ·rw [D8] at h;cases rM:get A t with
   | none=>rw [rM] at h; exact .inl h
   | some z =>
    rw [rM] at h;cases h;exact .inr (dX.spec t x rM)
end
end Go.Own
namespace Go.Own
open Go
set_option linter.unusedSectionVars false
variable [cH]
section
variable {P:Program}{N:cQ}{ops:Array Oper}{g g1 mN:aL}{K:aL->Prop}{l:List Oper}{d r:Nat}{t:TypeId}{a b:Operand}{x y:ab}
variable {a':List (List Nat)}{acc:Acc}{i:Nat}
theorem iN {a b:Nat}(h:Nat.blt a b=true):a<b:=by simpa using h
def E4:Option Nat->Nat->Bool
 | none,_=>true
 | some a,d=>!Nat.beq a d
theorem OF {o:Option Nat}{d:Nat}(h:E4 o d=true):o≠some d:=by
 rintro rfl;simp [E4] at h
inductive wv (P:Program) (N:cQ) (ops:Array Oper) (a':List (List Nat)) (rs:Place->Prop) (mN g1:aL) (o:Oper) (U:Acc):Acc->Prop
 | nil:wv P N ops a' rs mN g1 o U []
 | c {k d:Nat}{x:ab}{hl:Oper}{V:Acc}(bR:AJ rs mN g1 o x) (h1:g1 d=none) (cz:E4 o.dst d=true) (aV:ops[k]?=some hl) (Ev:hl.dst=some d) (a_:N.ok d=true) (hw:iq (c5 g1 (λm=>(a'.getD k []).contains m) U) ops hl true)
   (az:b8 P (c5 g1 (λm=>(a'.getD k []).contains m) U) hl.op hl.type x) (t:wv P N ops a' rs mN g1 o U V):wv P N ops a' rs mN g1 o U ((k,d,some x)::V)
theorem wv.spec {o:Oper}{U V:Acc}{rs:Place->Prop}(h:wv P N ops a' rs mN g1 o U V):∀ e∈V,(∃ x,e.2.2=some x/\AJ rs mN g1 o x)/\(g1 e.2.1=none/\o.dst≠some e.2.1)/\∃ hl,ops[e.1]?=some hl/\hl.dst=some e.2.1/\N.ok e.2.1=true/\pW P (c5 g1 (λm=>(a'.getD e.1 []).contains m) U) ops hl e.2.2:=by
 induction h with
 | nil=>intro e he; cases he
 | c bR h1 cz aV Ev a_ hw az _ aM =>
  intro e he;rcases List.mem_cons.1 he with rfl | he
  ·exact ⟨⟨_,rfl,bR⟩,⟨h1,OF cz⟩,_,aV,Ev,a_,.inl ⟨hw,.inl az⟩⟩
  ·exact aM e he
theorem bA.e1 (bw:Nat) {G G2:List (Nat × ab)}{U:Acc}{o:Oper}{rs:List Nat}(he:o9 P N (r' rs) (c5 (get G) (λm=>(a'.getD bw []).contains m) acc) o (get G2)) (lW:rs.all (λr=>(get G r).isSome)=true) (aN:o.guard=none) (gz:q3 ((acc.filterMap jW).map Place.root)=true) (fJ:l1 G=true) (aj:Nat.beq ops.size (bw+l.length+1)=true)
  (fF:acc.filter (λe=>!(a'.getD bw []).contains e.1)=U) (n9:wv P N ops a' (r' rs) (c5 (get G) (λm=>(a'.getD bw []).contains m) acc) (get G2) o U U)
  (av:(List.range ops.size).all (λk=>Nat.ble k bw||(a'.getD k []).contains bw)=true) (hk:bA P N ops a' (get G2) (bw+1) U l K):bA P N ops a' (get G) i acc (o::l) K:=by
 intro dO J cg kH kF;have:=y3 kF aj;subst this;obtain ⟨h1,af⟩:=drop_cons kF;have nt:∀ e∈U,e∈acc:=λe he=>by rw [<- fF] at he; exact (List.mem_filter.1 he).1
 have Be:mI P N ops a' (get G2) (J+1) U:=⟨λe he=>by have:=(kH.le cg).2 e (nt e he); omega,λe he=>(n9.spec e he).2.1.1,by rw [<- fF]; exact (List.filter_sublist.map _).nodup (kH.nodup cg),λe he b_ h8 h=>kH.uniq cg (nt e he) (nt b_ h8) h,λe he=>(n9.spec e he).2.2⟩;obtain ⟨g',ah,c7⟩:=hk U (J+1) Be .nil af;refine ⟨g',.wB kH (E3 gz) (vM fJ) h1 ?_ he (λr ah e=>by have:=List.all_eq_true.1 lW r.root ah; rw [e] at this; cases this) fF.symm (λe h=>(n9.spec e h).1) (λe h=>(n9.spec e h).2.1) (λe h=>(n9.spec e h).2.2) ?_ ah,c7⟩
 ·unfold iq; rw [aN]
 ·refine List.all_eq_true.2 λk hk=>?_;have:=List.all_eq_true.1 av k hk;simp only [Bool.or_eq_true,decide_eq_true_eq,Nat.ble_eq] at this ⊢;exact this
theorem bA.Sq (bw:Nat) {G G2:List (Nat × ab)}{U:Acc}{o:Oper}{ps:List Place}(he:o9 P N (λp=>p∈ps) (c5 (get G) (λm=>(a'.getD bw []).contains m) acc) o (get G2)) (lW:ps.all (λr=>(get G r.root).isSome)=true) (aN:o.guard=none) (gz:q3 ((acc.filterMap jW).map Place.root)=true) (fJ:l1 G=true) (aj:Nat.beq ops.size (bw+l.length+1)=true)
  (fF:acc.filter (λe=>!(a'.getD bw []).contains e.1)=U) (n9:wv P N ops a' (λp=>p∈ps) (c5 (get G) (λm=>(a'.getD bw []).contains m) acc) (get G2) o U U)
  (av:(List.range ops.size).all (λk=>Nat.ble k bw||(a'.getD k []).contains bw)=true) (hk:bA P N ops a' (get G2) (bw+1) U l K):bA P N ops a' (get G) i acc (o::l) K:=by
 intro dO J cg kH kF;have:=y3 kF aj;subst this;obtain ⟨h1,af⟩:=drop_cons kF;have nt:∀ e∈U,e∈acc:=λe he=>by rw [<- fF] at he; exact (List.mem_filter.1 he).1
 have Be:mI P N ops a' (get G2) (J+1) U:=⟨λe he=>by have:=(kH.le cg).2 e (nt e he); omega,λe he=>(n9.spec e he).2.1.1,by rw [<- fF]; exact (List.filter_sublist.map _).nodup (kH.nodup cg),λe he b_ h8 h=>kH.uniq cg (nt e he) (nt b_ h8) h,λe he=>(n9.spec e he).2.2⟩;obtain ⟨g',ah,c7⟩:=hk U (J+1) Be .nil af;refine ⟨g',.wB kH (E3 gz) (vM fJ) h1 ?_ he (λr ah e=>by have:=List.all_eq_true.1 lW r ah; rw [e] at this; cases this) fF.symm (λe h=>(n9.spec e h).1) (λe h=>(n9.spec e h).2.1) (λe h=>(n9.spec e h).2.2) ?_ ah,c7⟩
 ·unfold iq; rw [aN]
 ·refine List.all_eq_true.2 λk hk=>?_;have:=List.all_eq_true.1 av k hk;simp only [Bool.or_eq_true,decide_eq_true_eq,Nat.ble_eq] at this ⊢;exact this
theorem o9.box {o:Oper}{r:Nat}{x:ab}{G1 G2:List (Nat × ab)}(he:bq P N (get G1) o (get G2)) (ah:g r=some x) [j:b4 x] (hk:Trim false g (get G1) G1) (aO:get G1 r=none) (h1:get G2 r=none) (aP:E4 o.dst r=true):o9 P N (r' [r]) g o (get ((r,x)::G2)):=by
 rw [<- sw];exact he.ka.frame ah j.bj hk.keep aO h1 (OF aP)
theorem bq.kj {o:Oper}{k0:Nat}{cs cs' cs2:List ab}{G2:List (Nat × ab)}(aV:o.op=.store t a b) (aP:o.dst=none) (az:g r=some (.obj cs)) (aR:Rd g a (.ptr ⟨r,[]⟩ k0)) (av:Rd g b y) [aA:b4 y] (aa:nY y=some cs') (aW:hC P t cs'.length=true)
  (hk:Nat.ble (k0+cs'.length) cs.length=true) (aO:Nat.blt 0 cs'.length=true) (he:eP cs k0 cs'=cs2) [e':dj cs] (ah:(get G2 r).isSome=true) (c':lu g (get G2) r cs2 G2):bq P N g o (get G2) :=
 .box aV aP az aR av aA.bj aa aW (Nat.le_of_ble_eq_true hk) (by simpa using aO) he (by intro e; rw [e] at ah; cases ah) c'
end
end Go.Own
namespace Go.Own
open Go
set_option linter.unusedSectionVars false
variable [cH]
section
variable {α:Type}
theorem c8.app {xs ys xs' Dn:List ab}(h:c8 xs ys) (aJ:c8 xs' Dn):c8 (xs++xs') (ys++Dn):=⟨by simp [h.l,aJ.l],λg k a b aR av=>by
 by_cases hk:k<xs.length
 ·rw [List.getElem?_append_left hk] at aR;rw [List.getElem?_append_left (by rw [h.l]; exact hk)] at av;exact h.v g k a b aR av
 ·rw [List.getElem?_append_right (by omega)] at aR;rw [List.getElem?_append_right (by rw [h.l]; omega),h.l] at av;exact aJ.v g _ a b aR av⟩
instance {e b_:bz α}{L:List α} [h:gu e b_]:c8 (bp e L) (bp b_ L):=⟨(Dh e b_ L).1,(Dh e b_ L).2⟩
theorem iV.Kn {en:bz α}{L:List α}{n:Nat}{cs cs':List ab}(h:bp en L=cs') (ai:L.length=n) [hv:c8 cs cs']:iV (.own en.z n cs) (ak en L):=⟨λg=>by
 subst h ai;exact .own hv.l (hv.v g)⟩
theorem iV.hV {en tN:bz α}{L M:List α}{m:Nat}{new cO:List ab} [h:gu en tN] (aA:bp tN M=cO) (hm:M.length=m) [aJ:c8 new cO]:iV (.own en.z (L.length+m) (bp en L++new)) (ak tN (L++M)):=⟨λg=>by
 subst aA hm;have hv:=c8.app (inferInstance:c8 (bp en L) (bp tN L)) aJ;show View g (.own en.z (L.length+M.length) (bp en L++new)) (.bk tN.z (L++M).length (bp tN (L++M)));have e:bp tN (L++M)=bp tN L++bp tN M:=by simp [bp]
 rw [e,List.length_append,<- h.z];exact .own hv.l (hv.v g)⟩
end
end Go.Own
namespace Go.Own
open Go
set_option linter.unusedSectionVars false
variable [cH]
section
variable {α:Type}{g g2:aL}{p q:Place}{P:Program}{a b:Operand}{t:TypeId}{ty:TypeId}
theorem eo.bf {en:bz α}{L:List α}(h:bt g2 p=some (ao en L)):eo g2 (.bf en.z p L.length):=.ref rfl (.inl ⟨_,_,h,Nat.le_refl _⟩)
namespace O
theorem RN {en:bz α}{L M r:List α}{e gv m:Nat}{cs:List ab}(az:Rd g a (.bf en.z p L.length)) (au:bt g p=some (ao en L)) (j:Rd g b (.bf en.z q m)) (a7:bt g q=some (.own en.z m cs)) (ai:cs.length=m * en.z) (aS:cs.all lR=true) (hm:M.length=m) (ar:jL P t e en.z gv=true) (av:Nat.ble gv 128=true) (h:db L M=some r)
  (e':∀ t z n m new,g t≠some (.bC z p n m new)):b8 P g (.call { callee:=.builtin .append,args:=#[a,b],argTypes:=#[t,t] }) ty (.bC en.z p L.length m cs):=by
 subst hm;obtain ⟨h1,af,_⟩:=yN h av;exact .lJ (.grow az.bn (.inl ⟨_,au⟩) (λt br cm bh cO e=>e' _ _ _ _ _ e) j.bn (P' a7 ai aS) ar h1 af)
end O
end
end Go.Own
